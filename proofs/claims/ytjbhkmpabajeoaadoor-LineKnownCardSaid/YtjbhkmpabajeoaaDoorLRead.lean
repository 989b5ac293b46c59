/- What stands behind an operation's word is read: the walk. -/
import Derived.Test.YtjbhkmpabajeoaaDoorLCell
namespace Go.Proofs.YtjbhkmpabajeoaaDoor
set_option linter.unusedSimpArgs false
set_option linter.unusedVariables false
open Go.RowKit

/-- Where read's loop stands. -/
structure ReadMid (w W : World) (g : Nat) (ps : Bs) (k : Nat) (cs : Array Value) (l : List Bs) : Prop where
  op : Blk W w.heap.size 27 cs
  res : Blk W (w.heap.size + 1) 27 (opC OpR.zero)
  iter : W.heap[w.heap.size + 1 + 1]? = some (.stringIter (str ps) k)
  rd : ReaderAt W g l
  only : Only w W (fun k => k = g)
  lt : g < w.heap.size
section
variable {w W W' : World} {g : Nat} {ps : Bs} {k : Nat} {cs : Array Value} {l l' : List Bs}
theorem ReadMid.set (h : ReadMid w W g ps k cs l) (i : Nat) (v : Value) : ReadMid w (W.setCell ⟨w.heap.size, i, none⟩ v) g ps k (cs.setIfInBounds i v) l :=
  ⟨h.op.set_ i v, h.res.far (by simp) _, (Below.heap_setCell W _ v _ (by simp <;> omega)).trans h.iter, h.rd.far h.lt _, h.only.setCell (.inr (Nat.le_refl _)) _, h.lt⟩
theorem ReadMid.under (h : ReadMid w W g ps k cs l) (ho : Only W W' (fun k => k = g)) (hr : ReaderAt W' g l') : ReadMid w W' g ps k cs l' := by
  have := h.lt
  exact ⟨h.op.only ho (by omega), h.res.only ho (by omega), (ho.block _ (Array.getElem?_eq_some_iff.1 h.iter).1 (by omega)).trans h.iter, hr, h.only.trans' ho, h.lt⟩
theorem ReadMid.env (h : ReadMid w W g ps k cs l) (he : Env w) (hg : 8 ≤ g) : Env W := he.reader h.only hg
end
/-- How read ends. -/
def ReadOut (res : Option OpR) (g : Nat) (w : World) (e : Ending) (w' : World) : Prop :=
  Only w w' (fun k => k = g) ∧ match res with | some o => e = .returned (opV o) | none => e = .panicked wrongP
theorem read_start (w : World) (u : OpR) (g : Nat) (ps : Bs) (l : List Bs) (h : ReaderAt w g l) : ReadMid w (((w.alloc (.cells (opC u) 27)).alloc (.cells (opC OpR.zero) 27)).iter (str ps) 0) g ps 0 (opC u) l := by
  have hl := h.lt
  have b1 := Blk.new (w.alloc (.cells (opC u) 27)) 27 (opC OpR.zero)
  simp only [World.size_alloc] at b1
  have hb : Below w.heap.size w ((w.alloc (.cells (opC u) 27)).alloc (.cells (opC OpR.zero) 27)) := ((Below.refl _ _).alloc (Nat.le_refl _) _).alloc (by simp) _
  have hit := World.iter_heap ((w.alloc (.cells (opC u) 27)).alloc (.cells (opC OpR.zero) 27)) (str ps) 0
  simp only [World.size_alloc] at hit
  exact ⟨((Blk.new _ _ _).alloc _).alloc _, b1.alloc _, hit, ((h.alloc _).alloc _).alloc _, (((Only.refl _ _).alloc _).alloc _).alloc _, hl⟩
theorem drop_one (ps : Bs) (k : Nat) (h : k < ps.length) : ps.drop k = ps.getD k 0 :: ps.drop (k + 1) := by
  rw [List.drop_eq_getElem_cons h, List.getD_eq_getElem?_getD, List.getElem?_eq_getElem h]
  rfl
set_option maxRecDepth 100000 in
set_option maxHeartbeats 4000000 in
theorem read_any (w : World) (g : Nat) (l : List Bs) (u : OpR) (ps : Bs) (h : ReaderAt w g l) (he : Env w) (hg : 8 ≤ g) (hps : ∀ p ∈ ps, p = 112 ∨ p = 98 ∨ p = 99 ∨ p = 100 ∨ p = 110) (hlen : ps.length ≤ 3) :
    Calls Tryd.prog 31 #[.pointer (some ⟨g, 0, none⟩), opV u, .string (str ps)] w (ReadOut (readP u ps l) g w) := by
  have HS := Lib.hid (read_start w u g ps l h)
  have HE := Lib.hid he
  have HPS := Lib.hid hps
  obtain ⟨res, hres⟩ : ∃ res, res = readP u ps l := ⟨_, rfl⟩
  have HRES := Lib.hid hres
  rw [← hres]
  clear h he hps hres
  unfold opV
  unfold opC OpR.zero at *
  go_enter Tryd.func31, Tryd.ntmps31
  go_wp2
  go_loopw [8] (fun _ wr => ∃ (k : Nat) (u' : OpR) (l' : List Bs), k ≤ ps.length ∧ res = readP u' (ps.drop k) l' ∧ ReadMid w wr g ps k (opC u') l') (fun _ wr => ps.length - wr.iterPos (w.heap.size + 1 + 1))
  case atStart => exact ⟨0, u, l, Nat.zero_le _, HRES.out, HS.out⟩
  case round =>
    obtain ⟨k, u', l', hk, hr, hm⟩ := hrel
    have HM := Lib.hid hm
    have HR := Lib.hid hr
    clear hm hr
    by_cases hlt : k < ps.length
    · obtain ⟨W1, hW1⟩ : ∃ W1, W1 = wr.iterAt (w.heap.size + 1 + 1) (str ps) (k + 1) := ⟨_, rfl⟩
      have hpm : ps.getD k 0 ∈ ps := by rw [List.getD_eq_getElem?_getD, List.getElem?_eq_getElem hlt]; exact List.getElem_mem hlt
      have hpo := HPS.out _ hpm
      have hlt2 : k < (str ps).size := by rw [str_size]; exact hlt
      have hpe : (str ps)[k]'hlt2 = ps.getD k 0 := by rw [List.getD_eq_getElem?_getD, List.getElem?_eq_getElem hlt]; rfl
      have hnx := fun ty => Lib.run_next_ascii_at (P := Tryd.prog) wr _ (str ps) k ty HM.out.iter hlt2 (by rw [hpe]; rcases hpo with h | h | h | h | h <;> rw [h] <;> decide)
      rw [← hW1, hpe] at hnx
      have hR1 := HR.out
      rw [drop_one ps k hlt] at hR1
      have hm1 : ReadMid w W1 g ps (k + 1) (opC u') l' := by
        rw [hW1]
        have ho : Only wr (wr.iterAt (w.heap.size + 1 + 1) (str ps) (k + 1)) (fun j => j = w.heap.size + 1 + 1) := ⟨rfl, rfl, rfl, by rw [Lib.iterAt_size]; exact Nat.le_refl _, fun j _ hj => Lib.iterAt_other wr _ j _ _ hj⟩
        have hlt0 := HM.out.lt
        refine ⟨HM.out.op.iter HM.out.iter _, HM.out.res.iter HM.out.iter _, Lib.iterAt_heap _ _ _ _ _ HM.out.iter, ?_, ?_, HM.out.lt⟩
        · obtain ⟨A, c, q1, q2, q3, q4, q5⟩ := HM.out.rd
          exact ⟨A, c, q1.iter HM.out.iter _, q2, q3, q4.keep (fun p hp => World.cell?_of_block (Lib.iterAt_other wr _ p.block _ _ (by omega))), q5⟩
        · exact HM.out.only.trans ho (fun i hi => .inr (by omega))
      generalize ps.getD k 0 = p at hnx hpo hR1
      have HM1 := Lib.hid hm1
      have HR1 := Lib.hid hR1
      have HE1 := Lib.hid (hm1.env HE.out hg)
      have hsz := hm1.op.lt
      obtain ⟨⟨c0, c1, c2, c3, c4, c5, c6, c7, c8, c9⟩, f0, f1, f2, f3, f4, f5, f6, f7, f8, f9⟩ := hm1.op.op
      clear hW1 hm1 hR1 hpm hpe hlt2
      rcases hpo with rfl | rfl | rfl | rfl | rfl
      · simp only [show ((112 : UInt8).toNat : Int) = 112 from rfl] at hnx
        have H1 := place_any W1 g l' HM1.out.rd HE1.out hg
        rcases hx : take3 l' with _ | ⟨x, l2⟩
        · rw [hx] at H1
          have HH := Lib.hid H1
          have HN := Lib.hid (show res = none by rw [HR1.out, readP, readPart]; simp [hx])
          clear H1 hx
          go_wp2_with fail
          go_at_call 47
          refine HH.out.mono ?_
          rintro e w2 ⟨ho, rfl⟩
          have HO := Lib.hid (HM1.out.only.trans' ho)
          clear ho
          go_wp2
          rw [HN.out]
          exact ⟨rfl, HO.out, rfl⟩
        · rw [hx] at H1
          have HH := Lib.hid H1
          have HN := Lib.hid (show res = readP { u' with a1 := x.1, a2 := x.2.1, a3 := x.2.2 } (ps.drop (k + 1)) l2 by rw [HR1.out, readP, readPart]; simp [hx])
          clear H1 hx c0 c1 c2 c3 c4 c5 c6 c7 c8 c9 f0 f1 f2 f3 f4 f5 f6 f7 f8 f9
          go_wp2_with fail
          go_at_call 47
          refine HH.out.mono ?_
          rintro e w2 ⟨ho, rfl, hr⟩
          have HM2 := Lib.hid (HM1.out.under ho hr)
          clear ho hr
          obtain ⟨⟨c0, c1, c2, c3, c4, c5, c6, c7, c8, c9⟩, f0, f1, f2, f3, f4, f5, f6, f7, f8, f9⟩ := HM2.out.op.op
          clear hnx
          go_wp2
          go_roundw
          case rel => exact ⟨k + 1, { u' with a1 := x.1, a2 := x.2.1, a3 := x.2.2 }, l2, hlt, HN.out, (((HM2.out.set 1 (.int .i64 x.1)).set 2 (.int .i64 x.2.1)).set 3 (.int .i64 x.2.2))⟩
          case measure =>
            have h1 := HM.out.iter
            have h2 := ((((HM2.out.set 1 (.int .i64 x.1)).set 2 (.int .i64 x.2.1)).set 3 (.int .i64 x.2.2))).iter
            simp [World.iterPos, h1, h2]
            omega
      · simp only [show ((98 : UInt8).toNat : Int) = 98 from rfl] at hnx
        have H1 := place_any W1 g l' HM1.out.rd HE1.out hg
        rcases hx : take3 l' with _ | ⟨x, l2⟩
        · rw [hx] at H1
          have HH := Lib.hid H1
          have HN := Lib.hid (show res = none by rw [HR1.out, readP, readPart]; simp [hx])
          clear H1 hx
          go_wp2_with fail
          go_at_call 47
          refine HH.out.mono ?_
          rintro e w2 ⟨ho, rfl⟩
          have HO := Lib.hid (HM1.out.only.trans' ho)
          clear ho
          go_wp2
          rw [HN.out]
          exact ⟨rfl, HO.out, rfl⟩
        · rw [hx] at H1
          have HH := Lib.hid H1
          have HN := Lib.hid (show res = readP { u' with b1 := x.1, b2 := x.2.1, b3 := x.2.2 } (ps.drop (k + 1)) l2 by rw [HR1.out, readP, readPart]; simp [hx])
          clear H1 hx c0 c1 c2 c3 c4 c5 c6 c7 c8 c9 f0 f1 f2 f3 f4 f5 f6 f7 f8 f9
          go_wp2_with fail
          go_at_call 47
          refine HH.out.mono ?_
          rintro e w2 ⟨ho, rfl, hr⟩
          have HM2 := Lib.hid (HM1.out.under ho hr)
          clear ho hr
          obtain ⟨⟨c0, c1, c2, c3, c4, c5, c6, c7, c8, c9⟩, f0, f1, f2, f3, f4, f5, f6, f7, f8, f9⟩ := HM2.out.op.op
          clear hnx
          go_wp2
          go_roundw
          case rel => exact ⟨k + 1, { u' with b1 := x.1, b2 := x.2.1, b3 := x.2.2 }, l2, hlt, HN.out, (((HM2.out.set 4 (.int .i64 x.1)).set 5 (.int .i64 x.2.1)).set 6 (.int .i64 x.2.2))⟩
          case measure =>
            have h1 := HM.out.iter
            have h2 := ((((HM2.out.set 4 (.int .i64 x.1)).set 5 (.int .i64 x.2.1)).set 6 (.int .i64 x.2.2))).iter
            simp [World.iterPos, h1, h2]
            omega
      · simp only [show ((99 : UInt8).toNat : Int) = 99 from rfl] at hnx
        have H1 := cell_any W1 g l' HM1.out.rd HE1.out hg
        rcases hx : takeC l' with _ | ⟨x, l2⟩
        · rw [hx] at H1
          have HH := Lib.hid H1
          have HN := Lib.hid (show res = none by rw [HR1.out, readP, readPart]; simp [hx])
          clear H1 hx
          go_wp2_with fail
          go_at_call 48
          refine HH.out.mono ?_
          rintro e w2 ⟨ho, rfl⟩
          have HO := Lib.hid (HM1.out.only.trans' ho)
          clear ho
          go_wp2
          rw [HN.out]
          exact ⟨rfl, HO.out, rfl⟩
        · rw [hx] at H1
          have HH := Lib.hid H1
          have HN := Lib.hid (show res = readP { u' with c1 := x.1, c2 := x.2 } (ps.drop (k + 1)) l2 by rw [HR1.out, readP, readPart]; simp [hx])
          clear H1 hx c0 c1 c2 c3 c4 c5 c6 c7 c8 c9 f0 f1 f2 f3 f4 f5 f6 f7 f8 f9
          go_wp2_with fail
          go_at_call 48
          refine HH.out.mono ?_
          rintro e w2 ⟨ho, rfl, hr⟩
          have HM2 := Lib.hid (HM1.out.under ho hr)
          clear ho hr
          obtain ⟨⟨c0, c1, c2, c3, c4, c5, c6, c7, c8, c9⟩, f0, f1, f2, f3, f4, f5, f6, f7, f8, f9⟩ := HM2.out.op.op
          clear hnx
          go_wp2
          go_roundw
          case rel => exact ⟨k + 1, { u' with c1 := x.1, c2 := x.2 }, l2, hlt, HN.out, ((HM2.out.set 7 (.int .u8 x.1)).set 8 (.int .u8 x.2))⟩
          case measure =>
            have h1 := HM.out.iter
            have h2 := (((HM2.out.set 7 (.int .u8 x.1)).set 8 (.int .u8 x.2))).iter
            simp [World.iterPos, h1, h2]
            omega
      · simp only [show ((100 : UInt8).toNat : Int) = 100 from rfl] at hnx
        have H1 := dir_any W1 g l' HM1.out.rd
        rcases hx : takeD l' with _ | ⟨x, l2⟩
        · rw [hx] at H1
          have HH := Lib.hid H1
          have HN := Lib.hid (show res = none by rw [HR1.out, readP, readPart]; simp [hx])
          clear H1 hx
          go_wp2_with fail
          go_at_call 49
          refine HH.out.mono ?_
          rintro e w2 ⟨ho, rfl⟩
          have HO := Lib.hid (HM1.out.only.trans' ho)
          clear ho
          go_wp2
          rw [HN.out]
          exact ⟨rfl, HO.out, rfl⟩
        · rw [hx] at H1
          have HH := Lib.hid H1
          have HN := Lib.hid (show res = readP { u' with n := x } (ps.drop (k + 1)) l2 by rw [HR1.out, readP, readPart]; simp [hx])
          clear H1 hx c0 c1 c2 c3 c4 c5 c6 c7 c8 c9 f0 f1 f2 f3 f4 f5 f6 f7 f8 f9
          go_wp2_with fail
          go_at_call 49
          refine HH.out.mono ?_
          rintro e w2 ⟨ho, rfl, hr⟩
          have HM2 := Lib.hid (HM1.out.under ho hr)
          clear ho hr
          obtain ⟨⟨c0, c1, c2, c3, c4, c5, c6, c7, c8, c9⟩, f0, f1, f2, f3, f4, f5, f6, f7, f8, f9⟩ := HM2.out.op.op
          clear hnx
          go_wp2
          go_roundw
          case rel => exact ⟨k + 1, { u' with n := x }, l2, hlt, HN.out, (HM2.out.set 9 (.int .i64 x))⟩
          case measure =>
            have h1 := HM.out.iter
            have h2 := ((HM2.out.set 9 (.int .i64 x))).iter
            simp [World.iterPos, h1, h2]
            omega
      · simp only [show ((110 : UInt8).toNat : Int) = 110 from rfl] at hnx
        have H1 := number_any W1 g l' HM1.out.rd HE1.out hg
        rcases hx : takeN l' with _ | ⟨x, l2⟩
        · rw [hx] at H1
          have HH := Lib.hid H1
          have HN := Lib.hid (show res = none by rw [HR1.out, readP, readPart]; simp [hx])
          clear H1 hx
          go_wp2_with fail
          go_at_call 50
          refine HH.out.mono ?_
          rintro e w2 ⟨ho, rfl⟩
          have HO := Lib.hid (HM1.out.only.trans' ho)
          clear ho
          go_wp2
          rw [HN.out]
          exact ⟨rfl, HO.out, rfl⟩
        · rw [hx] at H1
          have HH := Lib.hid H1
          have HN := Lib.hid (show res = readP { u' with n := x } (ps.drop (k + 1)) l2 by rw [HR1.out, readP, readPart]; simp [hx])
          clear H1 hx c0 c1 c2 c3 c4 c5 c6 c7 c8 c9 f0 f1 f2 f3 f4 f5 f6 f7 f8 f9
          go_wp2_with fail
          go_at_call 50
          refine HH.out.mono ?_
          rintro e w2 ⟨ho, rfl, hr⟩
          have HM2 := Lib.hid (HM1.out.under ho hr)
          clear ho hr
          obtain ⟨⟨c0, c1, c2, c3, c4, c5, c6, c7, c8, c9⟩, f0, f1, f2, f3, f4, f5, f6, f7, f8, f9⟩ := HM2.out.op.op
          clear hnx
          go_wp2
          go_roundw
          case rel => exact ⟨k + 1, { u' with n := x }, l2, hlt, HN.out, (HM2.out.set 9 (.int .i64 x))⟩
          case measure =>
            have h1 := HM.out.iter
            have h2 := ((HM2.out.set 9 (.int .i64 x))).iter
            simp [World.iterPos, h1, h2]
            omega
    · obtain rfl : k = ps.length := by omega
      have hR1 := HR.out
      rw [List.drop_of_length_le (Nat.le_refl _)] at hR1
      have hlt2 : ¬ ps.length < (str ps).size := by rw [str_size]; omega
      have hnx := fun ty => Lib.run_next_end_at (P := Tryd.prog) wr _ (str ps) ps.length ty HM.out.iter hlt2
      obtain ⟨A, c, q1, q2, q3, q4, q5⟩ := HM.out.rd
      have v0 : wr.cell? ⟨g, 0, none⟩ = some (.slice A l'.length c) := q1.cell 0
      obtain ⟨⟨c0, c1, c2, c3, c4, c5, c6, c7, c8, c9⟩, -⟩ := HM.out.op.op
      obtain ⟨⟨d0, d1, d2, d3, d4, d5, d6, d7, d8, d9⟩, f0, f1, f2, f3, f4, f5, f6, f7, f8, f9⟩ := HM.out.res.op
      by_cases hl : l' = []
      · have HN := Lib.hid (show res = some u' by rw [hR1, readP, if_pos hl])
        subst hl
        clear hR1 q1 q2 q3 q4 q5 hlt2
        go_wp2
        obtain ⟨g0, g1, g2, g3, g4, g5, g6, g7, g8, g9⟩ := ten_cells (show Blk wr _ 27 #[.int .i64 0, .int .i64 0, .int .i64 0, .int .i64 0, .int .i64 0, .int .i64 0, .int .i64 0, .int .u8 0, .int .u8 0, .int .i64 0] from HM.out.res) (.int .i64 u'.k) (.int .i64 u'.a1) (.int .i64 u'.a2) (.int .i64 u'.a3) (.int .i64 u'.b1) (.int .i64 u'.b2) (.int .i64 u'.b3) (.int .u8 u'.c1) (.int .u8 u'.c2) (.int .i64 u'.n)
        refine bodyPost_ret (v := opV u') (by simp [results, Tryd.results31, go_sem, g0, g1, g2, g3, g4, g5, g6, g7, g8, g9, opV, opC]) rfl ?_
        rw [HN.out]
        exact ⟨(HM.out.only.setCell (.inr (by simp)) _ |>.setCell (.inr (by simp)) _ |>.setCell (.inr (by simp)) _ |>.setCell (.inr (by simp)) _ |>.setCell (.inr (by simp)) _ |>.setCell (.inr (by simp)) _ |>.setCell (.inr (by simp)) _ |>.setCell (.inr (by simp)) _ |>.setCell (.inr (by simp)) _ |>.setCell (.inr (by simp)) _), rfl⟩
      · have HN := Lib.hid (show res = none by rw [hR1, readP, if_neg hl])
        obtain ⟨m, hm⟩ : ∃ m, m = l'.length := ⟨_, rfl⟩
        have hm0 : (0 : Int) < (m : Int) := by have := List.length_pos_iff.2 hl; omega
        rw [← hm] at v0
        clear hR1 q1 q2 q3 q4 q5 hlt2 hm hl
        go_wp2
        rw [HN.out]
        exact ⟨rfl, HM.out.only, rfl⟩
end Go.Proofs.YtjbhkmpabajeoaaDoor
