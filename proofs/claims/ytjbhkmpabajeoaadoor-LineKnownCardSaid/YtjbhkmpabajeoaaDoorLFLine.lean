/- The document's line of an operation: the walks, kind by kind. -/
import Derived.Test.YtjbhkmpabajeoaaDoorLFName
namespace Go.Proofs.YtjbhkmpabajeoaaDoor
set_option linter.unusedSimpArgs false
set_option linter.unusedVariables false
open Go.RowKit
open Go.Lib (itoa itoa_length_le)

/-- What the loads of an operation's block yield, in every world behind. -/
theorem Blk.opB {w : World} {g : Nat} {o : OpR} (h : Blk w g 27 (opC o)) :
    (∀ p : InB w, p.w'.cell? ⟨g, 0, none⟩ = some (.int .i64 o.k)) ∧ (∀ p : InB w, p.w'.cell? ⟨g, 1, none⟩ = some (.int .i64 o.a1)) ∧ (∀ p : InB w, p.w'.cell? ⟨g, 2, none⟩ = some (.int .i64 o.a2)) ∧ (∀ p : InB w, p.w'.cell? ⟨g, 3, none⟩ = some (.int .i64 o.a3)) ∧
    (∀ p : InB w, p.w'.cell? ⟨g, 4, none⟩ = some (.int .i64 o.b1)) ∧ (∀ p : InB w, p.w'.cell? ⟨g, 5, none⟩ = some (.int .i64 o.b2)) ∧ (∀ p : InB w, p.w'.cell? ⟨g, 6, none⟩ = some (.int .i64 o.b3)) ∧ (∀ p : InB w, p.w'.cell? ⟨g, 7, none⟩ = some (.int .u8 o.c1)) ∧
    (∀ p : InB w, p.w'.cell? ⟨g, 8, none⟩ = some (.int .u8 o.c2)) ∧ (∀ p : InB w, p.w'.cell? ⟨g, 9, none⟩ = some (.int .i64 o.n)) := by
  obtain ⟨⟨c0, c1, c2, c3, c4, c5, c6, c7, c8, c9⟩, -⟩ := h.op
  exact ⟨fun p => p.cell c0 h.lt, fun p => p.cell c1 h.lt, fun p => p.cell c2 h.lt, fun p => p.cell c3 h.lt, fun p => p.cell c4 h.lt, fun p => p.cell c5 h.lt, fun p => p.cell c6 h.lt, fun p => p.cell c7 h.lt, fun p => p.cell c8 h.lt, fun p => p.cell c9 h.lt⟩
/-- The three blocks of a line's call: the operation, the result, what is used. -/
theorem three_blocks (w : World) (o u : OpR) : ∃ W, W = ((w.alloc (.cells (opC o) 27)).alloc (.cells (opC OpR.zero) 27)).alloc (.cells (opC u) 27) ∧ Blk W w.heap.size 27 (opC o) ∧ Blk W (w.heap.size + 1) 27 (opC OpR.zero) ∧ Blk W (w.heap.size + 1 + 1) 27 (opC u) ∧ Below w.heap.size w W := by
  refine ⟨_, rfl, ((Blk.new _ _ _).alloc _).alloc _, ?_, ?_, ?_⟩
  · have := Blk.new (w.alloc (.cells (opC o) 27)) 27 (opC OpR.zero)
    simp only [World.size_alloc] at this
    exact this.alloc _
  · have := Blk.new ((w.alloc (.cells (opC o) 27)).alloc (.cells (opC OpR.zero) 27)) 27 (opC u)
    simpa using this
  · exact (((Below.refl _ _).alloc (Nat.le_refl _) _).alloc (by simp) _).alloc (by simp; omega) _
theorem threeL_len {x y z : Int} (hx : InI x) (hy : InI y) (hz : InI z) : (threeL x y z).length ≤ 66 := by
  have lx := itoa_length_le x hx.1 hx.2
  have ly := itoa_length_le y hy.1 hy.2
  have lz := itoa_length_le z hz.1 hz.2
  simp only [threeL, List.length_cons, List.length_append]
  omega
theorem cellL_len {c l : Int} (hl : InU l) : (cellL c l).length ≤ 30 := by
  have lx := nameK_len c
  have ly := itoa_length_le l hl.i.1 hl.i.2
  simp only [cellL, List.length_cons, List.length_append]
  omega
theorem more_blocks (w : World) (o u : OpR) : ∃ W, W = ((w.alloc (.cells (opC o) 27)).alloc (.cells (opC u) 27)).alloc (.cells (opC OpR.zero) 27) ∧ Blk W w.heap.size 27 (opC o) ∧ Blk W (w.heap.size + 1 + 1) 27 (opC OpR.zero) ∧ Blk W (w.heap.size + 1) 27 (opC u) ∧ Below w.heap.size w W := by
  refine ⟨_, rfl, ((Blk.new _ _ _).alloc _).alloc _, ?_, ?_, ?_⟩
  · have := Blk.new ((w.alloc (.cells (opC o) 27)).alloc (.cells (opC u) 27)) 27 (opC OpR.zero)
    simpa using this
  · have := Blk.new (w.alloc (.cells (opC o) 27)) 27 (opC u)
    simp only [World.size_alloc] at this
    exact this.alloc _
  · exact (((Below.refl _ _).alloc (Nat.le_refl _) _).alloc (by simp) _).alloc (by simp; omega) _
def LineOut (s : Bs) (u : OpR) (w : World) (e : Ending) (w' : World) : Prop := e = .returned (.tuple #[.string (str s), opV u]) ∧ Below w.heap.size w w'
theorem ten_cells {w : World} {g : Nat} {t : TypeId} {x0 x1 x2 x3 x4 x5 x6 x7 x8 x9 : Value} (h : Blk w g t #[x0, x1, x2, x3, x4, x5, x6, x7, x8, x9]) (v0 v1 v2 v3 v4 v5 v6 v7 v8 v9 : Value) :
    ((((((((((w.setCell ⟨g, 0, none⟩ v0).setCell ⟨g, 1, none⟩ v1).setCell ⟨g, 2, none⟩ v2).setCell ⟨g, 3, none⟩ v3).setCell ⟨g, 4, none⟩ v4).setCell ⟨g, 5, none⟩ v5).setCell ⟨g, 6, none⟩ v6).setCell ⟨g, 7, none⟩ v7).setCell ⟨g, 8, none⟩ v8).setCell ⟨g, 9, none⟩ v9).cell? ⟨g, 0, none⟩ = some v0 ∧ ((((((((((w.setCell ⟨g, 0, none⟩ v0).setCell ⟨g, 1, none⟩ v1).setCell ⟨g, 2, none⟩ v2).setCell ⟨g, 3, none⟩ v3).setCell ⟨g, 4, none⟩ v4).setCell ⟨g, 5, none⟩ v5).setCell ⟨g, 6, none⟩ v6).setCell ⟨g, 7, none⟩ v7).setCell ⟨g, 8, none⟩ v8).setCell ⟨g, 9, none⟩ v9).cell? ⟨g, 1, none⟩ = some v1 ∧ ((((((((((w.setCell ⟨g, 0, none⟩ v0).setCell ⟨g, 1, none⟩ v1).setCell ⟨g, 2, none⟩ v2).setCell ⟨g, 3, none⟩ v3).setCell ⟨g, 4, none⟩ v4).setCell ⟨g, 5, none⟩ v5).setCell ⟨g, 6, none⟩ v6).setCell ⟨g, 7, none⟩ v7).setCell ⟨g, 8, none⟩ v8).setCell ⟨g, 9, none⟩ v9).cell? ⟨g, 2, none⟩ = some v2 ∧ ((((((((((w.setCell ⟨g, 0, none⟩ v0).setCell ⟨g, 1, none⟩ v1).setCell ⟨g, 2, none⟩ v2).setCell ⟨g, 3, none⟩ v3).setCell ⟨g, 4, none⟩ v4).setCell ⟨g, 5, none⟩ v5).setCell ⟨g, 6, none⟩ v6).setCell ⟨g, 7, none⟩ v7).setCell ⟨g, 8, none⟩ v8).setCell ⟨g, 9, none⟩ v9).cell? ⟨g, 3, none⟩ = some v3 ∧ ((((((((((w.setCell ⟨g, 0, none⟩ v0).setCell ⟨g, 1, none⟩ v1).setCell ⟨g, 2, none⟩ v2).setCell ⟨g, 3, none⟩ v3).setCell ⟨g, 4, none⟩ v4).setCell ⟨g, 5, none⟩ v5).setCell ⟨g, 6, none⟩ v6).setCell ⟨g, 7, none⟩ v7).setCell ⟨g, 8, none⟩ v8).setCell ⟨g, 9, none⟩ v9).cell? ⟨g, 4, none⟩ = some v4 ∧ ((((((((((w.setCell ⟨g, 0, none⟩ v0).setCell ⟨g, 1, none⟩ v1).setCell ⟨g, 2, none⟩ v2).setCell ⟨g, 3, none⟩ v3).setCell ⟨g, 4, none⟩ v4).setCell ⟨g, 5, none⟩ v5).setCell ⟨g, 6, none⟩ v6).setCell ⟨g, 7, none⟩ v7).setCell ⟨g, 8, none⟩ v8).setCell ⟨g, 9, none⟩ v9).cell? ⟨g, 5, none⟩ = some v5 ∧ ((((((((((w.setCell ⟨g, 0, none⟩ v0).setCell ⟨g, 1, none⟩ v1).setCell ⟨g, 2, none⟩ v2).setCell ⟨g, 3, none⟩ v3).setCell ⟨g, 4, none⟩ v4).setCell ⟨g, 5, none⟩ v5).setCell ⟨g, 6, none⟩ v6).setCell ⟨g, 7, none⟩ v7).setCell ⟨g, 8, none⟩ v8).setCell ⟨g, 9, none⟩ v9).cell? ⟨g, 6, none⟩ = some v6 ∧ ((((((((((w.setCell ⟨g, 0, none⟩ v0).setCell ⟨g, 1, none⟩ v1).setCell ⟨g, 2, none⟩ v2).setCell ⟨g, 3, none⟩ v3).setCell ⟨g, 4, none⟩ v4).setCell ⟨g, 5, none⟩ v5).setCell ⟨g, 6, none⟩ v6).setCell ⟨g, 7, none⟩ v7).setCell ⟨g, 8, none⟩ v8).setCell ⟨g, 9, none⟩ v9).cell? ⟨g, 7, none⟩ = some v7 ∧ ((((((((((w.setCell ⟨g, 0, none⟩ v0).setCell ⟨g, 1, none⟩ v1).setCell ⟨g, 2, none⟩ v2).setCell ⟨g, 3, none⟩ v3).setCell ⟨g, 4, none⟩ v4).setCell ⟨g, 5, none⟩ v5).setCell ⟨g, 6, none⟩ v6).setCell ⟨g, 7, none⟩ v7).setCell ⟨g, 8, none⟩ v8).setCell ⟨g, 9, none⟩ v9).cell? ⟨g, 8, none⟩ = some v8 ∧ ((((((((((w.setCell ⟨g, 0, none⟩ v0).setCell ⟨g, 1, none⟩ v1).setCell ⟨g, 2, none⟩ v2).setCell ⟨g, 3, none⟩ v3).setCell ⟨g, 4, none⟩ v4).setCell ⟨g, 5, none⟩ v5).setCell ⟨g, 6, none⟩ v6).setCell ⟨g, 7, none⟩ v7).setCell ⟨g, 8, none⟩ v8).setCell ⟨g, 9, none⟩ v9).cell? ⟨g, 9, none⟩ = some v9 := by
  have b0 : Blk (w.setCell ⟨g, 0, none⟩ v0) g t #[v0, x1, x2, x3, x4, x5, x6, x7, x8, x9] := h.set_ 0 v0
  have b1 : Blk ((w.setCell ⟨g, 0, none⟩ v0).setCell ⟨g, 1, none⟩ v1) g t #[v0, v1, x2, x3, x4, x5, x6, x7, x8, x9] := b0.set_ 1 v1
  have b2 : Blk (((w.setCell ⟨g, 0, none⟩ v0).setCell ⟨g, 1, none⟩ v1).setCell ⟨g, 2, none⟩ v2) g t #[v0, v1, v2, x3, x4, x5, x6, x7, x8, x9] := b1.set_ 2 v2
  have b3 : Blk ((((w.setCell ⟨g, 0, none⟩ v0).setCell ⟨g, 1, none⟩ v1).setCell ⟨g, 2, none⟩ v2).setCell ⟨g, 3, none⟩ v3) g t #[v0, v1, v2, v3, x4, x5, x6, x7, x8, x9] := b2.set_ 3 v3
  have b4 : Blk (((((w.setCell ⟨g, 0, none⟩ v0).setCell ⟨g, 1, none⟩ v1).setCell ⟨g, 2, none⟩ v2).setCell ⟨g, 3, none⟩ v3).setCell ⟨g, 4, none⟩ v4) g t #[v0, v1, v2, v3, v4, x5, x6, x7, x8, x9] := b3.set_ 4 v4
  have b5 : Blk ((((((w.setCell ⟨g, 0, none⟩ v0).setCell ⟨g, 1, none⟩ v1).setCell ⟨g, 2, none⟩ v2).setCell ⟨g, 3, none⟩ v3).setCell ⟨g, 4, none⟩ v4).setCell ⟨g, 5, none⟩ v5) g t #[v0, v1, v2, v3, v4, v5, x6, x7, x8, x9] := b4.set_ 5 v5
  have b6 : Blk (((((((w.setCell ⟨g, 0, none⟩ v0).setCell ⟨g, 1, none⟩ v1).setCell ⟨g, 2, none⟩ v2).setCell ⟨g, 3, none⟩ v3).setCell ⟨g, 4, none⟩ v4).setCell ⟨g, 5, none⟩ v5).setCell ⟨g, 6, none⟩ v6) g t #[v0, v1, v2, v3, v4, v5, v6, x7, x8, x9] := b5.set_ 6 v6
  have b7 : Blk ((((((((w.setCell ⟨g, 0, none⟩ v0).setCell ⟨g, 1, none⟩ v1).setCell ⟨g, 2, none⟩ v2).setCell ⟨g, 3, none⟩ v3).setCell ⟨g, 4, none⟩ v4).setCell ⟨g, 5, none⟩ v5).setCell ⟨g, 6, none⟩ v6).setCell ⟨g, 7, none⟩ v7) g t #[v0, v1, v2, v3, v4, v5, v6, v7, x8, x9] := b6.set_ 7 v7
  have b8 : Blk (((((((((w.setCell ⟨g, 0, none⟩ v0).setCell ⟨g, 1, none⟩ v1).setCell ⟨g, 2, none⟩ v2).setCell ⟨g, 3, none⟩ v3).setCell ⟨g, 4, none⟩ v4).setCell ⟨g, 5, none⟩ v5).setCell ⟨g, 6, none⟩ v6).setCell ⟨g, 7, none⟩ v7).setCell ⟨g, 8, none⟩ v8) g t #[v0, v1, v2, v3, v4, v5, v6, v7, v8, x9] := b7.set_ 8 v8
  have b9 : Blk ((((((((((w.setCell ⟨g, 0, none⟩ v0).setCell ⟨g, 1, none⟩ v1).setCell ⟨g, 2, none⟩ v2).setCell ⟨g, 3, none⟩ v3).setCell ⟨g, 4, none⟩ v4).setCell ⟨g, 5, none⟩ v5).setCell ⟨g, 6, none⟩ v6).setCell ⟨g, 7, none⟩ v7).setCell ⟨g, 8, none⟩ v8).setCell ⟨g, 9, none⟩ v9) g t #[v0, v1, v2, v3, v4, v5, v6, v7, v8, v9] := b8.set_ 9 v9
  exact ⟨b9.cell 0, b9.cell 1, b9.cell 2, b9.cell 3, b9.cell 4, b9.cell 5, b9.cell 6, b9.cell 7, b9.cell 8, b9.cell 9⟩
set_option maxRecDepth 100000 in
set_option maxHeartbeats 4000000 in
theorem fline_1 (w : World) (o : OpR) (hk : o.k = 1) (ho : o.Ok) : Calls Tryd.prog 27 #[opV o] w (LineOut ([115, 101, 116] ++ threeL o.a1 o.a2 o.a3 ++ cellL o.c1 o.c2) ({ opK 1 with a1 := o.a1, a2 := o.a2, a3 := o.a3, c1 := o.c1, c2 := o.c2 }) w) := by
  have H1 := Lib.hid (fun W => three_any W o.a1 o.a2 o.a3 ho.a1 ho.a2 ho.a3)
  have l1 := threeL_len ho.a1 ho.a2 ho.a3
  have H3 := Lib.hid (fun W => fcell_any W o.c1 o.c2 ho.c1 ho.c2)
  have l3 := cellL_len (c := o.c1) ho.c2
  obtain ⟨W, hW, b0, b1, b2, hb⟩ := three_blocks w o ({ opK 1 with a1 := o.a1, a2 := o.a2, a3 := o.a3, c1 := o.c1, c2 := o.c2 })
  clear ho
  obtain ⟨u, hu⟩ : ∃ u, u = { opK 1 with a1 := o.a1, a2 := o.a2, a3 := o.a3, c1 := o.c1, c2 := o.c2 } := ⟨_, rfl⟩
  have HU := Lib.hid hu
  rw [← hu] at b2 ⊢
  generalize threeL o.a1 o.a2 o.a3 = s1 at H1 l1 ⊢
  generalize cellL o.c1 o.c2 = s3 at H3 l3 ⊢
  subst hu
  obtain ⟨k, a1, a2, a3, d1, d2, d3, e1, e2, n⟩ := o
  simp only at hk
  subst hk
  simp only [opV, opC, OpR.zero, opK] at hW ⊢
  go_enter Tryd.func27, Tryd.ntmps27
  go_wp2
  rw [← hW]
  obtain ⟨C0, C1, C2, C3, C4, C5, C6, C7, C8, C9⟩ := b0.opB
  obtain ⟨D0, D1, D2, D3, D4, D5, D6, D7, D8, D9⟩ := b2.opB
  simp only [opK] at C0 C1 C2 C3 C4 C5 C6 C7 C8 C9 D0 D1 D2 D3 D4 D5 D6 D7 D8 D9
  have B1 := Lib.hid b1
  have HB := Lib.hid hb
  clear hW b0 b1 b2 hb
  refine wp_region_tail_below 10 (by kernel_rfl) (by kernel_rfl) ?_
  simp only [List.take_succ_cons, List.take_zero, List.drop_succ_cons, List.drop_zero]
  repeat (go_big_quiet_step ((first | (go_at_call 42; with_reducible exact calls_below (H1.out _)) | (go_at_call 43; with_reducible exact calls_below (H3.out _)))))
  refine wpQuiet_nil ?_
  intro wq hw'
  obtain ⟨⟨wq0, hbq⟩, hw''⟩ := hw'
  subst hw''
  have B2 := Lib.hid (B1.out.below hbq B1.out.lt)
  obtain ⟨⟨c0, c1, c2, c3, c4, c5, c6, c7, c8, c9⟩, f0, f1, f2, f3, f4, f5, f6, f7, f8, f9⟩ := B2.out.op
  have HB2 := Lib.hid (HB.out.trans (hbq.mono HB.out.size))
  clear C0 C1 C2 C3 C4 C5 C6 C7 C8 C9 D0 D1 D2 D3 D4 D5 D6 D7 D8 D9 hbq
  go_wp2
  obtain ⟨g0, g1, g2, g3, g4, g5, g6, g7, g8, g9⟩ := ten_cells (show Blk wq _ 27 #[.int .i64 0, .int .i64 0, .int .i64 0, .int .i64 0, .int .i64 0, .int .i64 0, .int .i64 0, .int .u8 0, .int .u8 0, .int .i64 0] from B2.out) (.int .i64 1) (.int .i64 a1) (.int .i64 a2) (.int .i64 a3) (.int .i64 0) (.int .i64 0) (.int .i64 0) (.int .u8 e1) (.int .u8 e2) (.int .i64 0)
  refine bodyPost_ret (v := .tuple #[.string (str [115, 101, 116] ++ str s1 ++ str s3), .agg #[.int .i64 1, .int .i64 a1, .int .i64 a2, .int .i64 a3, .int .i64 0, .int .i64 0, .int .i64 0, .int .u8 e1, .int .u8 e2, .int .i64 0]]) (by simp [results, Tryd.results27, go_sem, g0, g1, g2, g3, g4, g5, g6, g7, g8, g9]) rfl ⟨?_, (HB2.out.setCell (by simp <;> omega) _ |>.setCell (by simp <;> omega) _ |>.setCell (by simp <;> omega) _ |>.setCell (by simp <;> omega) _ |>.setCell (by simp <;> omega) _ |>.setCell (by simp <;> omega) _ |>.setCell (by simp <;> omega) _ |>.setCell (by simp <;> omega) _ |>.setCell (by simp <;> omega) _ |>.setCell (by simp <;> omega) _)⟩
  first | (simp only [str_append]; rfl) | rfl
set_option maxRecDepth 100000 in
set_option maxHeartbeats 4000000 in
theorem fline_2 (w : World) (o : OpR) (hk : o.k = 2) (ho : o.Ok) : Calls Tryd.prog 27 #[opV o] w (LineOut ([102, 105, 108, 108] ++ threeL o.a1 o.a2 o.a3 ++ threeL o.b1 o.b2 o.b3 ++ cellL o.c1 o.c2) ({ opK 2 with a1 := o.a1, a2 := o.a2, a3 := o.a3, b1 := o.b1, b2 := o.b2, b3 := o.b3, c1 := o.c1, c2 := o.c2 }) w) := by
  have H1 := Lib.hid (fun W => three_any W o.a1 o.a2 o.a3 ho.a1 ho.a2 ho.a3)
  have l1 := threeL_len ho.a1 ho.a2 ho.a3
  have H2 := Lib.hid (fun W => three_any W o.b1 o.b2 o.b3 ho.b1 ho.b2 ho.b3)
  have l2 := threeL_len ho.b1 ho.b2 ho.b3
  have H3 := Lib.hid (fun W => fcell_any W o.c1 o.c2 ho.c1 ho.c2)
  have l3 := cellL_len (c := o.c1) ho.c2
  obtain ⟨W, hW, b0, b1, b2, hb⟩ := three_blocks w o ({ opK 2 with a1 := o.a1, a2 := o.a2, a3 := o.a3, b1 := o.b1, b2 := o.b2, b3 := o.b3, c1 := o.c1, c2 := o.c2 })
  clear ho
  obtain ⟨u, hu⟩ : ∃ u, u = { opK 2 with a1 := o.a1, a2 := o.a2, a3 := o.a3, b1 := o.b1, b2 := o.b2, b3 := o.b3, c1 := o.c1, c2 := o.c2 } := ⟨_, rfl⟩
  have HU := Lib.hid hu
  rw [← hu] at b2 ⊢
  generalize threeL o.a1 o.a2 o.a3 = s1 at H1 l1 ⊢
  generalize threeL o.b1 o.b2 o.b3 = s2 at H2 l2 ⊢
  generalize cellL o.c1 o.c2 = s3 at H3 l3 ⊢
  subst hu
  obtain ⟨k, a1, a2, a3, d1, d2, d3, e1, e2, n⟩ := o
  simp only at hk
  subst hk
  simp only [opV, opC, OpR.zero, opK] at hW ⊢
  go_enter Tryd.func27, Tryd.ntmps27
  go_wp2
  rw [← hW]
  obtain ⟨C0, C1, C2, C3, C4, C5, C6, C7, C8, C9⟩ := b0.opB
  obtain ⟨D0, D1, D2, D3, D4, D5, D6, D7, D8, D9⟩ := b2.opB
  simp only [opK] at C0 C1 C2 C3 C4 C5 C6 C7 C8 C9 D0 D1 D2 D3 D4 D5 D6 D7 D8 D9
  have B1 := Lib.hid b1
  have HB := Lib.hid hb
  clear hW b0 b1 b2 hb
  refine wp_region_tail_below 14 (by kernel_rfl) (by kernel_rfl) ?_
  simp only [List.take_succ_cons, List.take_zero, List.drop_succ_cons, List.drop_zero]
  repeat (go_big_quiet_step ((first | (go_at_call 42; with_reducible exact calls_below (H1.out _)) | (go_at_call 42; with_reducible exact calls_below (H2.out _)) | (go_at_call 43; with_reducible exact calls_below (H3.out _)))))
  refine wpQuiet_nil ?_
  intro wq hw'
  obtain ⟨⟨wq0, hbq⟩, hw''⟩ := hw'
  subst hw''
  have B2 := Lib.hid (B1.out.below hbq B1.out.lt)
  obtain ⟨⟨c0, c1, c2, c3, c4, c5, c6, c7, c8, c9⟩, f0, f1, f2, f3, f4, f5, f6, f7, f8, f9⟩ := B2.out.op
  have HB2 := Lib.hid (HB.out.trans (hbq.mono HB.out.size))
  clear C0 C1 C2 C3 C4 C5 C6 C7 C8 C9 D0 D1 D2 D3 D4 D5 D6 D7 D8 D9 hbq
  go_wp2
  obtain ⟨g0, g1, g2, g3, g4, g5, g6, g7, g8, g9⟩ := ten_cells (show Blk wq _ 27 #[.int .i64 0, .int .i64 0, .int .i64 0, .int .i64 0, .int .i64 0, .int .i64 0, .int .i64 0, .int .u8 0, .int .u8 0, .int .i64 0] from B2.out) (.int .i64 2) (.int .i64 a1) (.int .i64 a2) (.int .i64 a3) (.int .i64 d1) (.int .i64 d2) (.int .i64 d3) (.int .u8 e1) (.int .u8 e2) (.int .i64 0)
  refine bodyPost_ret (v := .tuple #[.string (str [102, 105, 108, 108] ++ str s1 ++ str s2 ++ str s3), .agg #[.int .i64 2, .int .i64 a1, .int .i64 a2, .int .i64 a3, .int .i64 d1, .int .i64 d2, .int .i64 d3, .int .u8 e1, .int .u8 e2, .int .i64 0]]) (by simp [results, Tryd.results27, go_sem, g0, g1, g2, g3, g4, g5, g6, g7, g8, g9]) rfl ⟨?_, (HB2.out.setCell (by simp <;> omega) _ |>.setCell (by simp <;> omega) _ |>.setCell (by simp <;> omega) _ |>.setCell (by simp <;> omega) _ |>.setCell (by simp <;> omega) _ |>.setCell (by simp <;> omega) _ |>.setCell (by simp <;> omega) _ |>.setCell (by simp <;> omega) _ |>.setCell (by simp <;> omega) _ |>.setCell (by simp <;> omega) _)⟩
  first | (simp only [str_append]; rfl) | rfl
set_option maxRecDepth 100000 in
set_option maxHeartbeats 4000000 in
theorem fline_3 (w : World) (o : OpR) (hk : o.k = 3) (hn : 0 ≤ o.n ∧ o.n ≤ 5) (ho : o.Ok) : Calls Tryd.prog 27 #[opV o] w (LineOut ([112, 117, 115, 104] ++ threeL o.a1 o.a2 o.a3 ++ [32] ++ dirs.getD o.n.toNat []) ({ opK 3 with a1 := o.a1, a2 := o.a2, a3 := o.a3, n := o.n }) w) := by
  have H1 := Lib.hid (fun W => three_any W o.a1 o.a2 o.a3 ho.a1 ho.a2 ho.a3)
  have l1 := threeL_len ho.a1 ho.a2 ho.a3
  have H5 := Lib.hid (fun W => fword_any W o.n hn.1 hn.2)
  have l5 := (dirs_ok ⟨o.n.toNat, by omega⟩).2.2
  simp only at l5
  obtain ⟨W, hW, b0, b1, b2, hb⟩ := three_blocks w o ({ opK 3 with a1 := o.a1, a2 := o.a2, a3 := o.a3, n := o.n })
  clear ho
  obtain ⟨u, hu⟩ : ∃ u, u = { opK 3 with a1 := o.a1, a2 := o.a2, a3 := o.a3, n := o.n } := ⟨_, rfl⟩
  have HU := Lib.hid hu
  rw [← hu] at b2 ⊢
  generalize threeL o.a1 o.a2 o.a3 = s1 at H1 l1 ⊢
  generalize dirs.getD o.n.toNat [] = s5 at H5 l5 ⊢
  subst hu
  obtain ⟨k, a1, a2, a3, d1, d2, d3, e1, e2, n⟩ := o
  simp only at hk hn
  subst hk
  obtain ⟨hn0, hn5⟩ := hn
  have hn0' : ¬ n < 0 := by omega
  have hn5' : ¬ 5 < n := by omega
  simp only [opV, opC, OpR.zero, opK] at hW ⊢
  go_enter Tryd.func27, Tryd.ntmps27
  go_wp2
  rw [← hW]
  obtain ⟨C0, C1, C2, C3, C4, C5, C6, C7, C8, C9⟩ := b0.opB
  obtain ⟨D0, D1, D2, D3, D4, D5, D6, D7, D8, D9⟩ := b2.opB
  simp only [opK] at C0 C1 C2 C3 C4 C5 C6 C7 C8 C9 D0 D1 D2 D3 D4 D5 D6 D7 D8 D9
  have B1 := Lib.hid b1
  have HB := Lib.hid hb
  clear hW b0 b1 b2 hb
  refine wp_region_tail_below 11 (by kernel_rfl) (by kernel_rfl) ?_
  simp only [List.take_succ_cons, List.take_zero, List.drop_succ_cons, List.drop_zero]
  repeat (go_big_quiet_step ((first | (go_at_call 42; with_reducible exact calls_below (H1.out _)) | (go_at_call 44; with_reducible exact calls_below (H5.out _)))))
  refine wpQuiet_nil ?_
  intro wq hw'
  obtain ⟨⟨wq0, hbq⟩, hw''⟩ := hw'
  subst hw''
  have B2 := Lib.hid (B1.out.below hbq B1.out.lt)
  obtain ⟨⟨c0, c1, c2, c3, c4, c5, c6, c7, c8, c9⟩, f0, f1, f2, f3, f4, f5, f6, f7, f8, f9⟩ := B2.out.op
  have HB2 := Lib.hid (HB.out.trans (hbq.mono HB.out.size))
  clear C0 C1 C2 C3 C4 C5 C6 C7 C8 C9 D0 D1 D2 D3 D4 D5 D6 D7 D8 D9 hbq
  go_wp2
  obtain ⟨g0, g1, g2, g3, g4, g5, g6, g7, g8, g9⟩ := ten_cells (show Blk wq _ 27 #[.int .i64 0, .int .i64 0, .int .i64 0, .int .i64 0, .int .i64 0, .int .i64 0, .int .i64 0, .int .u8 0, .int .u8 0, .int .i64 0] from B2.out) (.int .i64 3) (.int .i64 a1) (.int .i64 a2) (.int .i64 a3) (.int .i64 0) (.int .i64 0) (.int .i64 0) (.int .u8 0) (.int .u8 0) (.int .i64 n)
  refine bodyPost_ret (v := .tuple #[.string (str [112, 117, 115, 104] ++ str s1 ++ str [32] ++ str s5), .agg #[.int .i64 3, .int .i64 a1, .int .i64 a2, .int .i64 a3, .int .i64 0, .int .i64 0, .int .i64 0, .int .u8 0, .int .u8 0, .int .i64 n]]) (by simp [results, Tryd.results27, go_sem, g0, g1, g2, g3, g4, g5, g6, g7, g8, g9]) rfl ⟨?_, (HB2.out.setCell (by simp <;> omega) _ |>.setCell (by simp <;> omega) _ |>.setCell (by simp <;> omega) _ |>.setCell (by simp <;> omega) _ |>.setCell (by simp <;> omega) _ |>.setCell (by simp <;> omega) _ |>.setCell (by simp <;> omega) _ |>.setCell (by simp <;> omega) _ |>.setCell (by simp <;> omega) _ |>.setCell (by simp <;> omega) _)⟩
  first | (simp only [str_append]; rfl) | rfl
set_option maxRecDepth 100000 in
set_option maxHeartbeats 4000000 in
theorem fline_3b (w : World) (o : OpR) (hk : o.k = 3) (hn : o.n < 0 ∨ 5 < o.n) (ho : o.Ok) : Calls Tryd.prog 27 #[opV o] w (LineOut ([]) ({ opK 3 with a1 := o.a1, a2 := o.a2, a3 := o.a3, n := o.n }) w) := by
  obtain ⟨W, hW, b0, b1, b2, hb⟩ := three_blocks w o ({ opK 3 with a1 := o.a1, a2 := o.a2, a3 := o.a3, n := o.n })
  obtain ⟨u, hu⟩ : ∃ u, u = { opK 3 with a1 := o.a1, a2 := o.a2, a3 := o.a3, n := o.n } := ⟨_, rfl⟩
  have HU := Lib.hid hu
  rw [← hu] at b2 ⊢
  subst hu
  obtain ⟨k, a1, a2, a3, d1, d2, d3, e1, e2, n⟩ := o
  simp only at hk hn
  subst hk
  simp only [opV, opC, OpR.zero, opK] at hW ⊢
  rcases hn with hn | hn
  · go_enter Tryd.func27, Tryd.ntmps27
    go_wp2
    rw [← hW]
    obtain ⟨C0, C1, C2, C3, C4, C5, C6, C7, C8, C9⟩ := b0.opB
    obtain ⟨D0, D1, D2, D3, D4, D5, D6, D7, D8, D9⟩ := b2.opB
    simp only [opK] at C0 C1 C2 C3 C4 C5 C6 C7 C8 C9 D0 D1 D2 D3 D4 D5 D6 D7 D8 D9
    have B1 := Lib.hid b1
    have HB := Lib.hid hb
    clear hW b0 b1 b2 hb
    refine wp_region_tail_below 2 (by kernel_rfl) (by kernel_rfl) ?_
    simp only [List.take_succ_cons, List.take_zero, List.drop_succ_cons, List.drop_zero]
    repeat (go_big_quiet_step (fail))
    refine wpQuiet_nil ?_
    intro wq hw'
    obtain ⟨⟨wq0, hbq⟩, hw''⟩ := hw'
    subst hw''
    have B2 := Lib.hid (B1.out.below hbq B1.out.lt)
    obtain ⟨⟨c0, c1, c2, c3, c4, c5, c6, c7, c8, c9⟩, f0, f1, f2, f3, f4, f5, f6, f7, f8, f9⟩ := B2.out.op
    have HB2 := Lib.hid (HB.out.trans (hbq.mono HB.out.size))
    clear C0 C1 C2 C3 C4 C5 C6 C7 C8 C9 D0 D1 D2 D3 D4 D5 D6 D7 D8 D9 hbq
    go_wp2
    obtain ⟨g0, g1, g2, g3, g4, g5, g6, g7, g8, g9⟩ := ten_cells (show Blk wq _ 27 #[.int .i64 0, .int .i64 0, .int .i64 0, .int .i64 0, .int .i64 0, .int .i64 0, .int .i64 0, .int .u8 0, .int .u8 0, .int .i64 0] from B2.out) (.int .i64 3) (.int .i64 a1) (.int .i64 a2) (.int .i64 a3) (.int .i64 0) (.int .i64 0) (.int .i64 0) (.int .u8 0) (.int .u8 0) (.int .i64 n)
    refine bodyPost_ret (v := .tuple #[.string (str []), .agg #[.int .i64 3, .int .i64 a1, .int .i64 a2, .int .i64 a3, .int .i64 0, .int .i64 0, .int .i64 0, .int .u8 0, .int .u8 0, .int .i64 n]]) (by simp [results, Tryd.results27, go_sem, g0, g1, g2, g3, g4, g5, g6, g7, g8, g9]) rfl ⟨?_, (HB2.out.setCell (by simp <;> omega) _ |>.setCell (by simp <;> omega) _ |>.setCell (by simp <;> omega) _ |>.setCell (by simp <;> omega) _ |>.setCell (by simp <;> omega) _ |>.setCell (by simp <;> omega) _ |>.setCell (by simp <;> omega) _ |>.setCell (by simp <;> omega) _ |>.setCell (by simp <;> omega) _ |>.setCell (by simp <;> omega) _)⟩
    first | (simp only [str_append]; rfl) | rfl
  · have hn0 : ¬ n < 0 := by omega
    go_enter Tryd.func27, Tryd.ntmps27
    go_wp2
    rw [← hW]
    obtain ⟨C0, C1, C2, C3, C4, C5, C6, C7, C8, C9⟩ := b0.opB
    obtain ⟨D0, D1, D2, D3, D4, D5, D6, D7, D8, D9⟩ := b2.opB
    simp only [opK] at C0 C1 C2 C3 C4 C5 C6 C7 C8 C9 D0 D1 D2 D3 D4 D5 D6 D7 D8 D9
    have B1 := Lib.hid b1
    have HB := Lib.hid hb
    clear hW b0 b1 b2 hb
    refine wp_region_tail_below 2 (by kernel_rfl) (by kernel_rfl) ?_
    simp only [List.take_succ_cons, List.take_zero, List.drop_succ_cons, List.drop_zero]
    repeat (go_big_quiet_step (fail))
    refine wpQuiet_nil ?_
    intro wq hw'
    obtain ⟨⟨wq0, hbq⟩, hw''⟩ := hw'
    subst hw''
    have B2 := Lib.hid (B1.out.below hbq B1.out.lt)
    obtain ⟨⟨c0, c1, c2, c3, c4, c5, c6, c7, c8, c9⟩, f0, f1, f2, f3, f4, f5, f6, f7, f8, f9⟩ := B2.out.op
    have HB2 := Lib.hid (HB.out.trans (hbq.mono HB.out.size))
    clear C0 C1 C2 C3 C4 C5 C6 C7 C8 C9 D0 D1 D2 D3 D4 D5 D6 D7 D8 D9 hbq
    go_wp2
    obtain ⟨g0, g1, g2, g3, g4, g5, g6, g7, g8, g9⟩ := ten_cells (show Blk wq _ 27 #[.int .i64 0, .int .i64 0, .int .i64 0, .int .i64 0, .int .i64 0, .int .i64 0, .int .i64 0, .int .u8 0, .int .u8 0, .int .i64 0] from B2.out) (.int .i64 3) (.int .i64 a1) (.int .i64 a2) (.int .i64 a3) (.int .i64 0) (.int .i64 0) (.int .i64 0) (.int .u8 0) (.int .u8 0) (.int .i64 n)
    refine bodyPost_ret (v := .tuple #[.string (str []), .agg #[.int .i64 3, .int .i64 a1, .int .i64 a2, .int .i64 a3, .int .i64 0, .int .i64 0, .int .i64 0, .int .u8 0, .int .u8 0, .int .i64 n]]) (by simp [results, Tryd.results27, go_sem, g0, g1, g2, g3, g4, g5, g6, g7, g8, g9]) rfl ⟨?_, (HB2.out.setCell (by simp <;> omega) _ |>.setCell (by simp <;> omega) _ |>.setCell (by simp <;> omega) _ |>.setCell (by simp <;> omega) _ |>.setCell (by simp <;> omega) _ |>.setCell (by simp <;> omega) _ |>.setCell (by simp <;> omega) _ |>.setCell (by simp <;> omega) _ |>.setCell (by simp <;> omega) _ |>.setCell (by simp <;> omega) _)⟩
    first | (simp only [str_append]; rfl) | rfl
set_option maxRecDepth 100000 in
set_option maxHeartbeats 4000000 in
theorem fline_4 (w : World) (o : OpR) (hk : o.k = 4) (ho : o.Ok) : Calls Tryd.prog 27 #[opV o] w (LineOut ([97, 110, 99, 104, 111, 114, 32] ++ itoa o.n ++ threeL o.a1 o.a2 o.a3) ({ opK 4 with a1 := o.a1, a2 := o.a2, a3 := o.a3, n := o.n }) w) := by
  have H1 := Lib.hid (fun W => three_any W o.a1 o.a2 o.a3 ho.a1 ho.a2 ho.a3)
  have l1 := threeL_len ho.a1 ho.a2 ho.a3
  have H4 := Lib.hid (fun W => digits_any W o.n ho.n)
  have l4 := itoa_length_le o.n ho.n.1 ho.n.2
  obtain ⟨W, hW, b0, b1, b2, hb⟩ := three_blocks w o ({ opK 4 with a1 := o.a1, a2 := o.a2, a3 := o.a3, n := o.n })
  clear ho
  obtain ⟨u, hu⟩ : ∃ u, u = { opK 4 with a1 := o.a1, a2 := o.a2, a3 := o.a3, n := o.n } := ⟨_, rfl⟩
  have HU := Lib.hid hu
  rw [← hu] at b2 ⊢
  generalize threeL o.a1 o.a2 o.a3 = s1 at H1 l1 ⊢
  generalize itoa o.n = s4 at H4 l4 ⊢
  subst hu
  obtain ⟨k, a1, a2, a3, d1, d2, d3, e1, e2, n⟩ := o
  simp only at hk
  subst hk
  simp only [opV, opC, OpR.zero, opK] at hW ⊢
  go_enter Tryd.func27, Tryd.ntmps27
  go_wp2
  rw [← hW]
  obtain ⟨C0, C1, C2, C3, C4, C5, C6, C7, C8, C9⟩ := b0.opB
  obtain ⟨D0, D1, D2, D3, D4, D5, D6, D7, D8, D9⟩ := b2.opB
  simp only [opK] at C0 C1 C2 C3 C4 C5 C6 C7 C8 C9 D0 D1 D2 D3 D4 D5 D6 D7 D8 D9
  have B1 := Lib.hid b1
  have HB := Lib.hid hb
  clear hW b0 b1 b2 hb
  refine wp_region_tail_below 10 (by kernel_rfl) (by kernel_rfl) ?_
  simp only [List.take_succ_cons, List.take_zero, List.drop_succ_cons, List.drop_zero]
  repeat (go_big_quiet_step ((first | (go_at_call 42; with_reducible exact calls_below (H1.out _)) | (go_at_call 39; with_reducible exact calls_below (H4.out _)))))
  refine wpQuiet_nil ?_
  intro wq hw'
  obtain ⟨⟨wq0, hbq⟩, hw''⟩ := hw'
  subst hw''
  have B2 := Lib.hid (B1.out.below hbq B1.out.lt)
  obtain ⟨⟨c0, c1, c2, c3, c4, c5, c6, c7, c8, c9⟩, f0, f1, f2, f3, f4, f5, f6, f7, f8, f9⟩ := B2.out.op
  have HB2 := Lib.hid (HB.out.trans (hbq.mono HB.out.size))
  clear C0 C1 C2 C3 C4 C5 C6 C7 C8 C9 D0 D1 D2 D3 D4 D5 D6 D7 D8 D9 hbq
  go_wp2
  obtain ⟨g0, g1, g2, g3, g4, g5, g6, g7, g8, g9⟩ := ten_cells (show Blk wq _ 27 #[.int .i64 0, .int .i64 0, .int .i64 0, .int .i64 0, .int .i64 0, .int .i64 0, .int .i64 0, .int .u8 0, .int .u8 0, .int .i64 0] from B2.out) (.int .i64 4) (.int .i64 a1) (.int .i64 a2) (.int .i64 a3) (.int .i64 0) (.int .i64 0) (.int .i64 0) (.int .u8 0) (.int .u8 0) (.int .i64 n)
  refine bodyPost_ret (v := .tuple #[.string (str [97, 110, 99, 104, 111, 114, 32] ++ str s4 ++ str s1), .agg #[.int .i64 4, .int .i64 a1, .int .i64 a2, .int .i64 a3, .int .i64 0, .int .i64 0, .int .i64 0, .int .u8 0, .int .u8 0, .int .i64 n]]) (by simp [results, Tryd.results27, go_sem, g0, g1, g2, g3, g4, g5, g6, g7, g8, g9]) rfl ⟨?_, (HB2.out.setCell (by simp <;> omega) _ |>.setCell (by simp <;> omega) _ |>.setCell (by simp <;> omega) _ |>.setCell (by simp <;> omega) _ |>.setCell (by simp <;> omega) _ |>.setCell (by simp <;> omega) _ |>.setCell (by simp <;> omega) _ |>.setCell (by simp <;> omega) _ |>.setCell (by simp <;> omega) _ |>.setCell (by simp <;> omega) _)⟩
  first | (simp only [str_append]; rfl) | rfl
set_option maxRecDepth 100000 in
set_option maxHeartbeats 4000000 in
theorem fline_5 (w : World) (o : OpR) (hk : o.k = 5) (ho : o.Ok) : Calls Tryd.prog 27 #[opV o] w (LineOut ([108, 105, 102, 116, 32] ++ itoa o.n) ({ opK 5 with n := o.n }) w) := by
  have H4 := Lib.hid (fun W => digits_any W o.n ho.n)
  have l4 := itoa_length_le o.n ho.n.1 ho.n.2
  obtain ⟨W, hW, b0, b1, b2, hb⟩ := three_blocks w o ({ opK 5 with n := o.n })
  clear ho
  obtain ⟨u, hu⟩ : ∃ u, u = { opK 5 with n := o.n } := ⟨_, rfl⟩
  have HU := Lib.hid hu
  rw [← hu] at b2 ⊢
  generalize itoa o.n = s4 at H4 l4 ⊢
  subst hu
  obtain ⟨k, a1, a2, a3, d1, d2, d3, e1, e2, n⟩ := o
  simp only at hk
  subst hk
  simp only [opV, opC, OpR.zero, opK] at hW ⊢
  go_enter Tryd.func27, Tryd.ntmps27
  go_wp2
  rw [← hW]
  obtain ⟨C0, C1, C2, C3, C4, C5, C6, C7, C8, C9⟩ := b0.opB
  obtain ⟨D0, D1, D2, D3, D4, D5, D6, D7, D8, D9⟩ := b2.opB
  simp only [opK] at C0 C1 C2 C3 C4 C5 C6 C7 C8 C9 D0 D1 D2 D3 D4 D5 D6 D7 D8 D9
  have B1 := Lib.hid b1
  have HB := Lib.hid hb
  clear hW b0 b1 b2 hb
  refine wp_region_tail_below 6 (by kernel_rfl) (by kernel_rfl) ?_
  simp only [List.take_succ_cons, List.take_zero, List.drop_succ_cons, List.drop_zero]
  repeat (go_big_quiet_step ((first | (go_at_call 39; with_reducible exact calls_below (H4.out _)))))
  refine wpQuiet_nil ?_
  intro wq hw'
  obtain ⟨⟨wq0, hbq⟩, hw''⟩ := hw'
  subst hw''
  have B2 := Lib.hid (B1.out.below hbq B1.out.lt)
  obtain ⟨⟨c0, c1, c2, c3, c4, c5, c6, c7, c8, c9⟩, f0, f1, f2, f3, f4, f5, f6, f7, f8, f9⟩ := B2.out.op
  have HB2 := Lib.hid (HB.out.trans (hbq.mono HB.out.size))
  clear C0 C1 C2 C3 C4 C5 C6 C7 C8 C9 D0 D1 D2 D3 D4 D5 D6 D7 D8 D9 hbq
  go_wp2
  obtain ⟨g0, g1, g2, g3, g4, g5, g6, g7, g8, g9⟩ := ten_cells (show Blk wq _ 27 #[.int .i64 0, .int .i64 0, .int .i64 0, .int .i64 0, .int .i64 0, .int .i64 0, .int .i64 0, .int .u8 0, .int .u8 0, .int .i64 0] from B2.out) (.int .i64 5) (.int .i64 0) (.int .i64 0) (.int .i64 0) (.int .i64 0) (.int .i64 0) (.int .i64 0) (.int .u8 0) (.int .u8 0) (.int .i64 n)
  refine bodyPost_ret (v := .tuple #[.string (str [108, 105, 102, 116, 32] ++ str s4), .agg #[.int .i64 5, .int .i64 0, .int .i64 0, .int .i64 0, .int .i64 0, .int .i64 0, .int .i64 0, .int .u8 0, .int .u8 0, .int .i64 n]]) (by simp [results, Tryd.results27, go_sem, g0, g1, g2, g3, g4, g5, g6, g7, g8, g9]) rfl ⟨?_, (HB2.out.setCell (by simp <;> omega) _ |>.setCell (by simp <;> omega) _ |>.setCell (by simp <;> omega) _ |>.setCell (by simp <;> omega) _ |>.setCell (by simp <;> omega) _ |>.setCell (by simp <;> omega) _ |>.setCell (by simp <;> omega) _ |>.setCell (by simp <;> omega) _ |>.setCell (by simp <;> omega) _ |>.setCell (by simp <;> omega) _)⟩
  first | (simp only [str_append]; rfl) | rfl
set_option maxRecDepth 100000 in
set_option maxHeartbeats 4000000 in
theorem fline_6 (w : World) (o : OpR) (hk : o.k = 6) (ho : o.Ok) : Calls Tryd.prog 27 #[opV o] w (LineOut ([116, 105, 99, 107, 32] ++ itoa o.n) ({ opK 6 with n := o.n }) w) := by
  have H4 := Lib.hid (fun W => digits_any W o.n ho.n)
  have l4 := itoa_length_le o.n ho.n.1 ho.n.2
  obtain ⟨W, hW, b0, b1, b2, hb⟩ := three_blocks w o ({ opK 6 with n := o.n })
  clear ho
  obtain ⟨u, hu⟩ : ∃ u, u = { opK 6 with n := o.n } := ⟨_, rfl⟩
  have HU := Lib.hid hu
  rw [← hu] at b2 ⊢
  generalize itoa o.n = s4 at H4 l4 ⊢
  subst hu
  obtain ⟨k, a1, a2, a3, d1, d2, d3, e1, e2, n⟩ := o
  simp only at hk
  subst hk
  simp only [opV, opC, OpR.zero, opK] at hW ⊢
  go_enter Tryd.func27, Tryd.ntmps27
  go_wp2
  rw [← hW]
  obtain ⟨C0, C1, C2, C3, C4, C5, C6, C7, C8, C9⟩ := b0.opB
  obtain ⟨D0, D1, D2, D3, D4, D5, D6, D7, D8, D9⟩ := b2.opB
  simp only [opK] at C0 C1 C2 C3 C4 C5 C6 C7 C8 C9 D0 D1 D2 D3 D4 D5 D6 D7 D8 D9
  have B1 := Lib.hid b1
  have HB := Lib.hid hb
  clear hW b0 b1 b2 hb
  refine wp_region_tail_below 6 (by kernel_rfl) (by kernel_rfl) ?_
  simp only [List.take_succ_cons, List.take_zero, List.drop_succ_cons, List.drop_zero]
  repeat (go_big_quiet_step ((first | (go_at_call 39; with_reducible exact calls_below (H4.out _)))))
  refine wpQuiet_nil ?_
  intro wq hw'
  obtain ⟨⟨wq0, hbq⟩, hw''⟩ := hw'
  subst hw''
  have B2 := Lib.hid (B1.out.below hbq B1.out.lt)
  obtain ⟨⟨c0, c1, c2, c3, c4, c5, c6, c7, c8, c9⟩, f0, f1, f2, f3, f4, f5, f6, f7, f8, f9⟩ := B2.out.op
  have HB2 := Lib.hid (HB.out.trans (hbq.mono HB.out.size))
  clear C0 C1 C2 C3 C4 C5 C6 C7 C8 C9 D0 D1 D2 D3 D4 D5 D6 D7 D8 D9 hbq
  go_wp2
  obtain ⟨g0, g1, g2, g3, g4, g5, g6, g7, g8, g9⟩ := ten_cells (show Blk wq _ 27 #[.int .i64 0, .int .i64 0, .int .i64 0, .int .i64 0, .int .i64 0, .int .i64 0, .int .i64 0, .int .u8 0, .int .u8 0, .int .i64 0] from B2.out) (.int .i64 6) (.int .i64 0) (.int .i64 0) (.int .i64 0) (.int .i64 0) (.int .i64 0) (.int .i64 0) (.int .u8 0) (.int .u8 0) (.int .i64 n)
  refine bodyPost_ret (v := .tuple #[.string (str [116, 105, 99, 107, 32] ++ str s4), .agg #[.int .i64 6, .int .i64 0, .int .i64 0, .int .i64 0, .int .i64 0, .int .i64 0, .int .i64 0, .int .u8 0, .int .u8 0, .int .i64 n]]) (by simp [results, Tryd.results27, go_sem, g0, g1, g2, g3, g4, g5, g6, g7, g8, g9]) rfl ⟨?_, (HB2.out.setCell (by simp <;> omega) _ |>.setCell (by simp <;> omega) _ |>.setCell (by simp <;> omega) _ |>.setCell (by simp <;> omega) _ |>.setCell (by simp <;> omega) _ |>.setCell (by simp <;> omega) _ |>.setCell (by simp <;> omega) _ |>.setCell (by simp <;> omega) _ |>.setCell (by simp <;> omega) _ |>.setCell (by simp <;> omega) _)⟩
  first | (simp only [str_append]; rfl) | rfl
set_option maxRecDepth 100000 in
set_option maxHeartbeats 4000000 in
theorem fline_7 (w : World) (o : OpR) (hk : o.k = 7) (ho : o.Ok) : Calls Tryd.prog 27 #[opV o] w (LineOut ([108, 111, 111, 107] ++ threeL o.a1 o.a2 o.a3) ({ opK 7 with a1 := o.a1, a2 := o.a2, a3 := o.a3 }) w) := by
  have H1 := Lib.hid (fun W => three_any W o.a1 o.a2 o.a3 ho.a1 ho.a2 ho.a3)
  have l1 := threeL_len ho.a1 ho.a2 ho.a3
  obtain ⟨W, hW, b0, b1, b2, hb⟩ := three_blocks w o ({ opK 7 with a1 := o.a1, a2 := o.a2, a3 := o.a3 })
  clear ho
  obtain ⟨u, hu⟩ : ∃ u, u = { opK 7 with a1 := o.a1, a2 := o.a2, a3 := o.a3 } := ⟨_, rfl⟩
  have HU := Lib.hid hu
  rw [← hu] at b2 ⊢
  generalize threeL o.a1 o.a2 o.a3 = s1 at H1 l1 ⊢
  subst hu
  obtain ⟨k, a1, a2, a3, d1, d2, d3, e1, e2, n⟩ := o
  simp only at hk
  subst hk
  simp only [opV, opC, OpR.zero, opK] at hW ⊢
  go_enter Tryd.func27, Tryd.ntmps27
  go_wp2
  rw [← hW]
  obtain ⟨C0, C1, C2, C3, C4, C5, C6, C7, C8, C9⟩ := b0.opB
  obtain ⟨D0, D1, D2, D3, D4, D5, D6, D7, D8, D9⟩ := b2.opB
  simp only [opK] at C0 C1 C2 C3 C4 C5 C6 C7 C8 C9 D0 D1 D2 D3 D4 D5 D6 D7 D8 D9
  have B1 := Lib.hid b1
  have HB := Lib.hid hb
  clear hW b0 b1 b2 hb
  refine wp_region_tail_below 6 (by kernel_rfl) (by kernel_rfl) ?_
  simp only [List.take_succ_cons, List.take_zero, List.drop_succ_cons, List.drop_zero]
  repeat (go_big_quiet_step ((first | (go_at_call 42; with_reducible exact calls_below (H1.out _)))))
  refine wpQuiet_nil ?_
  intro wq hw'
  obtain ⟨⟨wq0, hbq⟩, hw''⟩ := hw'
  subst hw''
  have B2 := Lib.hid (B1.out.below hbq B1.out.lt)
  obtain ⟨⟨c0, c1, c2, c3, c4, c5, c6, c7, c8, c9⟩, f0, f1, f2, f3, f4, f5, f6, f7, f8, f9⟩ := B2.out.op
  have HB2 := Lib.hid (HB.out.trans (hbq.mono HB.out.size))
  clear C0 C1 C2 C3 C4 C5 C6 C7 C8 C9 D0 D1 D2 D3 D4 D5 D6 D7 D8 D9 hbq
  go_wp2
  obtain ⟨g0, g1, g2, g3, g4, g5, g6, g7, g8, g9⟩ := ten_cells (show Blk wq _ 27 #[.int .i64 0, .int .i64 0, .int .i64 0, .int .i64 0, .int .i64 0, .int .i64 0, .int .i64 0, .int .u8 0, .int .u8 0, .int .i64 0] from B2.out) (.int .i64 7) (.int .i64 a1) (.int .i64 a2) (.int .i64 a3) (.int .i64 0) (.int .i64 0) (.int .i64 0) (.int .u8 0) (.int .u8 0) (.int .i64 0)
  refine bodyPost_ret (v := .tuple #[.string (str [108, 111, 111, 107] ++ str s1), .agg #[.int .i64 7, .int .i64 a1, .int .i64 a2, .int .i64 a3, .int .i64 0, .int .i64 0, .int .i64 0, .int .u8 0, .int .u8 0, .int .i64 0]]) (by simp [results, Tryd.results27, go_sem, g0, g1, g2, g3, g4, g5, g6, g7, g8, g9]) rfl ⟨?_, (HB2.out.setCell (by simp <;> omega) _ |>.setCell (by simp <;> omega) _ |>.setCell (by simp <;> omega) _ |>.setCell (by simp <;> omega) _ |>.setCell (by simp <;> omega) _ |>.setCell (by simp <;> omega) _ |>.setCell (by simp <;> omega) _ |>.setCell (by simp <;> omega) _ |>.setCell (by simp <;> omega) _ |>.setCell (by simp <;> omega) _)⟩
  first | (simp only [str_append]; rfl) | rfl
set_option maxRecDepth 100000 in
set_option maxHeartbeats 4000000 in
theorem fmore_8 (w : World) (o : OpR) (hk : o.k = 8) (ho : o.Ok) : Calls Tryd.prog 45 #[opV o, opV (opK o.k)] w (LineOut ([114, 97, 121] ++ threeL o.a1 o.a2 o.a3 ++ threeL o.b1 o.b2 o.b3 ++ [32] ++ itoa o.n) ({ opK 8 with a1 := o.a1, a2 := o.a2, a3 := o.a3, b1 := o.b1, b2 := o.b2, b3 := o.b3, n := o.n }) w) := by
  have H1 := Lib.hid (fun W => three_any W o.a1 o.a2 o.a3 ho.a1 ho.a2 ho.a3)
  have l1 := threeL_len ho.a1 ho.a2 ho.a3
  have H2 := Lib.hid (fun W => three_any W o.b1 o.b2 o.b3 ho.b1 ho.b2 ho.b3)
  have l2 := threeL_len ho.b1 ho.b2 ho.b3
  have H4 := Lib.hid (fun W => digits_any W o.n ho.n)
  have l4 := itoa_length_le o.n ho.n.1 ho.n.2
  obtain ⟨W, hW, b0, b1, b2, hb⟩ := more_blocks w o ({ opK 8 with a1 := o.a1, a2 := o.a2, a3 := o.a3, b1 := o.b1, b2 := o.b2, b3 := o.b3, n := o.n })
  clear ho
  obtain ⟨u, hu⟩ : ∃ u, u = { opK 8 with a1 := o.a1, a2 := o.a2, a3 := o.a3, b1 := o.b1, b2 := o.b2, b3 := o.b3, n := o.n } := ⟨_, rfl⟩
  have HU := Lib.hid hu
  rw [← hu] at b2 ⊢
  generalize threeL o.a1 o.a2 o.a3 = s1 at H1 l1 ⊢
  generalize threeL o.b1 o.b2 o.b3 = s2 at H2 l2 ⊢
  generalize itoa o.n = s4 at H4 l4 ⊢
  subst hu
  obtain ⟨k, a1, a2, a3, d1, d2, d3, e1, e2, n⟩ := o
  simp only at hk
  subst hk
  simp only [opV, opC, OpR.zero, opK] at hW ⊢
  go_enter Tryd.func45, Tryd.ntmps45
  go_wp2
  rw [← hW]
  obtain ⟨C0, C1, C2, C3, C4, C5, C6, C7, C8, C9⟩ := b0.opB
  obtain ⟨D0, D1, D2, D3, D4, D5, D6, D7, D8, D9⟩ := b2.opB
  simp only [opK] at C0 C1 C2 C3 C4 C5 C6 C7 C8 C9 D0 D1 D2 D3 D4 D5 D6 D7 D8 D9
  have B1 := Lib.hid b1
  have HB := Lib.hid hb
  clear hW b0 b1 b2 hb
  refine wp_region_tail_below 15 (by kernel_rfl) (by kernel_rfl) ?_
  simp only [List.take_succ_cons, List.take_zero, List.drop_succ_cons, List.drop_zero]
  repeat (go_big_quiet_step ((first | (go_at_call 42; with_reducible exact calls_below (H1.out _)) | (go_at_call 42; with_reducible exact calls_below (H2.out _)) | (go_at_call 39; with_reducible exact calls_below (H4.out _)))))
  refine wpQuiet_nil ?_
  intro wq hw'
  obtain ⟨⟨wq0, hbq⟩, hw''⟩ := hw'
  subst hw''
  have B2 := Lib.hid (B1.out.below hbq B1.out.lt)
  obtain ⟨⟨c0, c1, c2, c3, c4, c5, c6, c7, c8, c9⟩, f0, f1, f2, f3, f4, f5, f6, f7, f8, f9⟩ := B2.out.op
  have HB2 := Lib.hid (HB.out.trans (hbq.mono HB.out.size))
  clear C0 C1 C2 C3 C4 C5 C6 C7 C8 C9 D0 D1 D2 D3 D4 D5 D6 D7 D8 D9 hbq
  go_wp2
  obtain ⟨g0, g1, g2, g3, g4, g5, g6, g7, g8, g9⟩ := ten_cells (show Blk wq _ 27 #[.int .i64 0, .int .i64 0, .int .i64 0, .int .i64 0, .int .i64 0, .int .i64 0, .int .i64 0, .int .u8 0, .int .u8 0, .int .i64 0] from B2.out) (.int .i64 8) (.int .i64 a1) (.int .i64 a2) (.int .i64 a3) (.int .i64 d1) (.int .i64 d2) (.int .i64 d3) (.int .u8 0) (.int .u8 0) (.int .i64 n)
  refine bodyPost_ret (v := .tuple #[.string (str [114, 97, 121] ++ str s1 ++ str s2 ++ str [32] ++ str s4), .agg #[.int .i64 8, .int .i64 a1, .int .i64 a2, .int .i64 a3, .int .i64 d1, .int .i64 d2, .int .i64 d3, .int .u8 0, .int .u8 0, .int .i64 n]]) (by simp [results, Tryd.results45, go_sem, g0, g1, g2, g3, g4, g5, g6, g7, g8, g9]) rfl ⟨?_, (HB2.out.setCell (by simp <;> omega) _ |>.setCell (by simp <;> omega) _ |>.setCell (by simp <;> omega) _ |>.setCell (by simp <;> omega) _ |>.setCell (by simp <;> omega) _ |>.setCell (by simp <;> omega) _ |>.setCell (by simp <;> omega) _ |>.setCell (by simp <;> omega) _ |>.setCell (by simp <;> omega) _ |>.setCell (by simp <;> omega) _)⟩
  first | (simp only [str_append]; rfl) | rfl
set_option maxRecDepth 100000 in
set_option maxHeartbeats 4000000 in
theorem fmore_9 (w : World) (o : OpR) (hk : o.k = 9) (ho : o.Ok) : Calls Tryd.prog 45 #[opV o, opV (opK o.k)] w (LineOut ([115, 97, 118, 101]) (opK 9) w) := by
  obtain ⟨W, hW, b0, b1, b2, hb⟩ := more_blocks w o (opK 9)
  obtain ⟨u, hu⟩ : ∃ u, u = opK 9 := ⟨_, rfl⟩
  have HU := Lib.hid hu
  rw [← hu] at b2 ⊢
  subst hu
  obtain ⟨k, a1, a2, a3, d1, d2, d3, e1, e2, n⟩ := o
  simp only at hk
  subst hk
  simp only [opV, opC, OpR.zero, opK] at hW ⊢
  go_enter Tryd.func45, Tryd.ntmps45
  go_wp2
  rw [← hW]
  obtain ⟨C0, C1, C2, C3, C4, C5, C6, C7, C8, C9⟩ := b0.opB
  obtain ⟨D0, D1, D2, D3, D4, D5, D6, D7, D8, D9⟩ := b2.opB
  simp only [opK] at C0 C1 C2 C3 C4 C5 C6 C7 C8 C9 D0 D1 D2 D3 D4 D5 D6 D7 D8 D9
  have B1 := Lib.hid b1
  have HB := Lib.hid hb
  clear hW b0 b1 b2 hb
  refine wp_region_tail_below 2 (by kernel_rfl) (by kernel_rfl) ?_
  simp only [List.take_succ_cons, List.take_zero, List.drop_succ_cons, List.drop_zero]
  repeat (go_big_quiet_step (fail))
  refine wpQuiet_nil ?_
  intro wq hw'
  obtain ⟨⟨wq0, hbq⟩, hw''⟩ := hw'
  subst hw''
  have B2 := Lib.hid (B1.out.below hbq B1.out.lt)
  obtain ⟨⟨c0, c1, c2, c3, c4, c5, c6, c7, c8, c9⟩, f0, f1, f2, f3, f4, f5, f6, f7, f8, f9⟩ := B2.out.op
  have HB2 := Lib.hid (HB.out.trans (hbq.mono HB.out.size))
  clear C0 C1 C2 C3 C4 C5 C6 C7 C8 C9 D0 D1 D2 D3 D4 D5 D6 D7 D8 D9 hbq
  go_wp2
  obtain ⟨g0, g1, g2, g3, g4, g5, g6, g7, g8, g9⟩ := ten_cells (show Blk wq _ 27 #[.int .i64 0, .int .i64 0, .int .i64 0, .int .i64 0, .int .i64 0, .int .i64 0, .int .i64 0, .int .u8 0, .int .u8 0, .int .i64 0] from B2.out) (.int .i64 9) (.int .i64 0) (.int .i64 0) (.int .i64 0) (.int .i64 0) (.int .i64 0) (.int .i64 0) (.int .u8 0) (.int .u8 0) (.int .i64 0)
  refine bodyPost_ret (v := .tuple #[.string (str [115, 97, 118, 101]), .agg #[.int .i64 9, .int .i64 0, .int .i64 0, .int .i64 0, .int .i64 0, .int .i64 0, .int .i64 0, .int .u8 0, .int .u8 0, .int .i64 0]]) (by simp [results, Tryd.results45, go_sem, g0, g1, g2, g3, g4, g5, g6, g7, g8, g9]) rfl ⟨?_, (HB2.out.setCell (by simp <;> omega) _ |>.setCell (by simp <;> omega) _ |>.setCell (by simp <;> omega) _ |>.setCell (by simp <;> omega) _ |>.setCell (by simp <;> omega) _ |>.setCell (by simp <;> omega) _ |>.setCell (by simp <;> omega) _ |>.setCell (by simp <;> omega) _ |>.setCell (by simp <;> omega) _ |>.setCell (by simp <;> omega) _)⟩
  first | (simp only [str_append]; rfl) | rfl
set_option maxRecDepth 100000 in
set_option maxHeartbeats 4000000 in
theorem fmore_10 (w : World) (o : OpR) (hk : o.k = 10) (ho : o.Ok) : Calls Tryd.prog 45 #[opV o, opV (opK o.k)] w (LineOut ([99, 111, 117, 110, 116]) (opK 10) w) := by
  obtain ⟨W, hW, b0, b1, b2, hb⟩ := more_blocks w o (opK 10)
  obtain ⟨u, hu⟩ : ∃ u, u = opK 10 := ⟨_, rfl⟩
  have HU := Lib.hid hu
  rw [← hu] at b2 ⊢
  subst hu
  obtain ⟨k, a1, a2, a3, d1, d2, d3, e1, e2, n⟩ := o
  simp only at hk
  subst hk
  simp only [opV, opC, OpR.zero, opK] at hW ⊢
  go_enter Tryd.func45, Tryd.ntmps45
  go_wp2
  rw [← hW]
  obtain ⟨C0, C1, C2, C3, C4, C5, C6, C7, C8, C9⟩ := b0.opB
  obtain ⟨D0, D1, D2, D3, D4, D5, D6, D7, D8, D9⟩ := b2.opB
  simp only [opK] at C0 C1 C2 C3 C4 C5 C6 C7 C8 C9 D0 D1 D2 D3 D4 D5 D6 D7 D8 D9
  have B1 := Lib.hid b1
  have HB := Lib.hid hb
  clear hW b0 b1 b2 hb
  refine wp_region_tail_below 2 (by kernel_rfl) (by kernel_rfl) ?_
  simp only [List.take_succ_cons, List.take_zero, List.drop_succ_cons, List.drop_zero]
  repeat (go_big_quiet_step (fail))
  refine wpQuiet_nil ?_
  intro wq hw'
  obtain ⟨⟨wq0, hbq⟩, hw''⟩ := hw'
  subst hw''
  have B2 := Lib.hid (B1.out.below hbq B1.out.lt)
  obtain ⟨⟨c0, c1, c2, c3, c4, c5, c6, c7, c8, c9⟩, f0, f1, f2, f3, f4, f5, f6, f7, f8, f9⟩ := B2.out.op
  have HB2 := Lib.hid (HB.out.trans (hbq.mono HB.out.size))
  clear C0 C1 C2 C3 C4 C5 C6 C7 C8 C9 D0 D1 D2 D3 D4 D5 D6 D7 D8 D9 hbq
  go_wp2
  obtain ⟨g0, g1, g2, g3, g4, g5, g6, g7, g8, g9⟩ := ten_cells (show Blk wq _ 27 #[.int .i64 0, .int .i64 0, .int .i64 0, .int .i64 0, .int .i64 0, .int .i64 0, .int .i64 0, .int .u8 0, .int .u8 0, .int .i64 0] from B2.out) (.int .i64 10) (.int .i64 0) (.int .i64 0) (.int .i64 0) (.int .i64 0) (.int .i64 0) (.int .i64 0) (.int .u8 0) (.int .u8 0) (.int .i64 0)
  refine bodyPost_ret (v := .tuple #[.string (str [99, 111, 117, 110, 116]), .agg #[.int .i64 10, .int .i64 0, .int .i64 0, .int .i64 0, .int .i64 0, .int .i64 0, .int .i64 0, .int .u8 0, .int .u8 0, .int .i64 0]]) (by simp [results, Tryd.results45, go_sem, g0, g1, g2, g3, g4, g5, g6, g7, g8, g9]) rfl ⟨?_, (HB2.out.setCell (by simp <;> omega) _ |>.setCell (by simp <;> omega) _ |>.setCell (by simp <;> omega) _ |>.setCell (by simp <;> omega) _ |>.setCell (by simp <;> omega) _ |>.setCell (by simp <;> omega) _ |>.setCell (by simp <;> omega) _ |>.setCell (by simp <;> omega) _ |>.setCell (by simp <;> omega) _ |>.setCell (by simp <;> omega) _)⟩
  first | (simp only [str_append]; rfl) | rfl
set_option maxRecDepth 100000 in
set_option maxHeartbeats 4000000 in
theorem fmore_11 (w : World) (o : OpR) (hk : o.k = 11) (ho : o.Ok) : Calls Tryd.prog 45 #[opV o, opV (opK o.k)] w (LineOut ([99, 114, 97, 115, 104, 32] ++ itoa o.n) ({ opK 11 with n := o.n }) w) := by
  have H4 := Lib.hid (fun W => digits_any W o.n ho.n)
  have l4 := itoa_length_le o.n ho.n.1 ho.n.2
  obtain ⟨W, hW, b0, b1, b2, hb⟩ := more_blocks w o ({ opK 11 with n := o.n })
  clear ho
  obtain ⟨u, hu⟩ : ∃ u, u = { opK 11 with n := o.n } := ⟨_, rfl⟩
  have HU := Lib.hid hu
  rw [← hu] at b2 ⊢
  generalize itoa o.n = s4 at H4 l4 ⊢
  subst hu
  obtain ⟨k, a1, a2, a3, d1, d2, d3, e1, e2, n⟩ := o
  simp only at hk
  subst hk
  simp only [opV, opC, OpR.zero, opK] at hW ⊢
  go_enter Tryd.func45, Tryd.ntmps45
  go_wp2
  rw [← hW]
  obtain ⟨C0, C1, C2, C3, C4, C5, C6, C7, C8, C9⟩ := b0.opB
  obtain ⟨D0, D1, D2, D3, D4, D5, D6, D7, D8, D9⟩ := b2.opB
  simp only [opK] at C0 C1 C2 C3 C4 C5 C6 C7 C8 C9 D0 D1 D2 D3 D4 D5 D6 D7 D8 D9
  have B1 := Lib.hid b1
  have HB := Lib.hid hb
  clear hW b0 b1 b2 hb
  refine wp_region_tail_below 6 (by kernel_rfl) (by kernel_rfl) ?_
  simp only [List.take_succ_cons, List.take_zero, List.drop_succ_cons, List.drop_zero]
  repeat (go_big_quiet_step ((first | (go_at_call 39; with_reducible exact calls_below (H4.out _)))))
  refine wpQuiet_nil ?_
  intro wq hw'
  obtain ⟨⟨wq0, hbq⟩, hw''⟩ := hw'
  subst hw''
  have B2 := Lib.hid (B1.out.below hbq B1.out.lt)
  obtain ⟨⟨c0, c1, c2, c3, c4, c5, c6, c7, c8, c9⟩, f0, f1, f2, f3, f4, f5, f6, f7, f8, f9⟩ := B2.out.op
  have HB2 := Lib.hid (HB.out.trans (hbq.mono HB.out.size))
  clear C0 C1 C2 C3 C4 C5 C6 C7 C8 C9 D0 D1 D2 D3 D4 D5 D6 D7 D8 D9 hbq
  go_wp2
  obtain ⟨g0, g1, g2, g3, g4, g5, g6, g7, g8, g9⟩ := ten_cells (show Blk wq _ 27 #[.int .i64 0, .int .i64 0, .int .i64 0, .int .i64 0, .int .i64 0, .int .i64 0, .int .i64 0, .int .u8 0, .int .u8 0, .int .i64 0] from B2.out) (.int .i64 11) (.int .i64 0) (.int .i64 0) (.int .i64 0) (.int .i64 0) (.int .i64 0) (.int .i64 0) (.int .u8 0) (.int .u8 0) (.int .i64 n)
  refine bodyPost_ret (v := .tuple #[.string (str [99, 114, 97, 115, 104, 32] ++ str s4), .agg #[.int .i64 11, .int .i64 0, .int .i64 0, .int .i64 0, .int .i64 0, .int .i64 0, .int .i64 0, .int .u8 0, .int .u8 0, .int .i64 n]]) (by simp [results, Tryd.results45, go_sem, g0, g1, g2, g3, g4, g5, g6, g7, g8, g9]) rfl ⟨?_, (HB2.out.setCell (by simp <;> omega) _ |>.setCell (by simp <;> omega) _ |>.setCell (by simp <;> omega) _ |>.setCell (by simp <;> omega) _ |>.setCell (by simp <;> omega) _ |>.setCell (by simp <;> omega) _ |>.setCell (by simp <;> omega) _ |>.setCell (by simp <;> omega) _ |>.setCell (by simp <;> omega) _ |>.setCell (by simp <;> omega) _)⟩
  first | (simp only [str_append]; rfl) | rfl
set_option maxRecDepth 100000 in
set_option maxHeartbeats 4000000 in
theorem fmore_0 (w : World) (o : OpR) (hk : ¬ (8 ≤ o.k ∧ o.k ≤ 11)) (ho : o.Ok) : Calls Tryd.prog 45 #[opV o, opV (opK o.k)] w (LineOut ([]) (opK o.k) w) := by
  obtain ⟨W, hW, b0, b1, b2, hb⟩ := more_blocks w o (opK o.k)
  obtain ⟨u, hu⟩ : ∃ u, u = opK o.k := ⟨_, rfl⟩
  have HU := Lib.hid hu
  rw [← hu] at b2 ⊢
  subst hu
  obtain ⟨k, a1, a2, a3, d1, d2, d3, e1, e2, n⟩ := o
  simp only at hk
  have hk8 : k ≠ 8 := by omega
  have hk9 : k ≠ 9 := by omega
  have hk10 : k ≠ 10 := by omega
  have hk11 : k ≠ 11 := by omega
  simp only [opV, opC, OpR.zero, opK] at hW ⊢
  go_enter Tryd.func45, Tryd.ntmps45
  go_wp2
  rw [← hW]
  obtain ⟨C0, C1, C2, C3, C4, C5, C6, C7, C8, C9⟩ := b0.opB
  obtain ⟨D0, D1, D2, D3, D4, D5, D6, D7, D8, D9⟩ := b2.opB
  simp only [opK] at C0 C1 C2 C3 C4 C5 C6 C7 C8 C9 D0 D1 D2 D3 D4 D5 D6 D7 D8 D9
  have B1 := Lib.hid b1
  have HB := Lib.hid hb
  clear hW b0 b1 b2 hb
  refine wp_region_tail_below 2 (by kernel_rfl) (by kernel_rfl) ?_
  simp only [List.take_succ_cons, List.take_zero, List.drop_succ_cons, List.drop_zero]
  repeat (go_big_quiet_step (fail))
  refine wpQuiet_nil ?_
  intro wq hw'
  obtain ⟨⟨wq0, hbq⟩, hw''⟩ := hw'
  subst hw''
  have B2 := Lib.hid (B1.out.below hbq B1.out.lt)
  obtain ⟨⟨c0, c1, c2, c3, c4, c5, c6, c7, c8, c9⟩, f0, f1, f2, f3, f4, f5, f6, f7, f8, f9⟩ := B2.out.op
  have HB2 := Lib.hid (HB.out.trans (hbq.mono HB.out.size))
  clear C0 C1 C2 C3 C4 C5 C6 C7 C8 C9 D0 D1 D2 D3 D4 D5 D6 D7 D8 D9 hbq
  go_wp2
  obtain ⟨g0, g1, g2, g3, g4, g5, g6, g7, g8, g9⟩ := ten_cells (show Blk wq _ 27 #[.int .i64 0, .int .i64 0, .int .i64 0, .int .i64 0, .int .i64 0, .int .i64 0, .int .i64 0, .int .u8 0, .int .u8 0, .int .i64 0] from B2.out) (.int .i64 k) (.int .i64 0) (.int .i64 0) (.int .i64 0) (.int .i64 0) (.int .i64 0) (.int .i64 0) (.int .u8 0) (.int .u8 0) (.int .i64 0)
  refine bodyPost_ret (v := .tuple #[.string (str []), .agg #[.int .i64 k, .int .i64 0, .int .i64 0, .int .i64 0, .int .i64 0, .int .i64 0, .int .i64 0, .int .u8 0, .int .u8 0, .int .i64 0]]) (by simp [results, Tryd.results45, go_sem, g0, g1, g2, g3, g4, g5, g6, g7, g8, g9]) rfl ⟨?_, (HB2.out.setCell (by simp <;> omega) _ |>.setCell (by simp <;> omega) _ |>.setCell (by simp <;> omega) _ |>.setCell (by simp <;> omega) _ |>.setCell (by simp <;> omega) _ |>.setCell (by simp <;> omega) _ |>.setCell (by simp <;> omega) _ |>.setCell (by simp <;> omega) _ |>.setCell (by simp <;> omega) _ |>.setCell (by simp <;> omega) _)⟩
  first | (simp only [str_append]; rfl) | rfl
set_option maxRecDepth 100000 in
set_option maxHeartbeats 4000000 in
theorem fline_more (w : World) (o : OpR) (hk : ¬ (1 ≤ o.k ∧ o.k ≤ 7)) (s : Bs) (u : OpR) (H : ∀ W, Calls Tryd.prog 45 #[opV o, opV (opK o.k)] W (LineOut s u W)) : Calls Tryd.prog 27 #[opV o] w (LineOut s u w) := by
  obtain ⟨W, hW, b0, b1, b2, hb⟩ := three_blocks w o (opK o.k)
  have HH := Lib.hid (H W)
  clear H
  obtain ⟨k, a1, a2, a3, d1, d2, d3, e1, e2, n⟩ := o
  simp only at hk
  have hk1 : k ≠ 1 := by omega
  have hk2 : k ≠ 2 := by omega
  have hk3 : k ≠ 3 := by omega
  have hk4 : k ≠ 4 := by omega
  have hk5 : k ≠ 5 := by omega
  have hk6 : k ≠ 6 := by omega
  have hk7 : k ≠ 7 := by omega
  simp only [opV, opC, OpR.zero, opK] at hW HH ⊢
  have B1 := Lib.hid b1
  have HB := Lib.hid hb
  clear hk b1 b0 b2 hb
  go_enter Tryd.func27, Tryd.ntmps27
  go_wp2_with fail
  rw [← hW]
  go_at_call 45
  refine HH.out.mono ?_
  rintro e wq ⟨rfl, hbq⟩
  have B2 := Lib.hid (B1.out.below hbq B1.out.lt)
  obtain ⟨⟨c0, c1, c2, c3, c4, c5, c6, c7, c8, c9⟩, f0, f1, f2, f3, f4, f5, f6, f7, f8, f9⟩ := B2.out.op
  have HB2 := Lib.hid (HB.out.trans (hbq.mono HB.out.size))
  clear hbq hW
  obtain ⟨uk, u1, u2, u3, u4, u5, u6, u7, u8, un⟩ := u
  simp only [opV, opC]
  go_wp2_with fail
  obtain ⟨g0, g1, g2, g3, g4, g5, g6, g7, g8, g9⟩ := ten_cells (show Blk wq _ 27 #[.int .i64 0, .int .i64 0, .int .i64 0, .int .i64 0, .int .i64 0, .int .i64 0, .int .i64 0, .int .u8 0, .int .u8 0, .int .i64 0] from B2.out) (.int .i64 uk) (.int .i64 u1) (.int .i64 u2) (.int .i64 u3) (.int .i64 u4) (.int .i64 u5) (.int .i64 u6) (.int .u8 u7) (.int .u8 u8) (.int .i64 un)
  refine bodyPost_ret (v := .tuple #[.string (str s), .agg #[.int .i64 uk, .int .i64 u1, .int .i64 u2, .int .i64 u3, .int .i64 u4, .int .i64 u5, .int .i64 u6, .int .u8 u7, .int .u8 u8, .int .i64 un]]) (by simp [results, Tryd.results27, go_sem, g0, g1, g2, g3, g4, g5, g6, g7, g8, g9]) rfl ⟨rfl, (HB2.out.setCell (by simp <;> omega) _ |>.setCell (by simp <;> omega) _ |>.setCell (by simp <;> omega) _ |>.setCell (by simp <;> omega) _ |>.setCell (by simp <;> omega) _ |>.setCell (by simp <;> omega) _ |>.setCell (by simp <;> omega) _ |>.setCell (by simp <;> omega) _ |>.setCell (by simp <;> omega) _ |>.setCell (by simp <;> omega) _)⟩
end Go.Proofs.YtjbhkmpabajeoaaDoor
