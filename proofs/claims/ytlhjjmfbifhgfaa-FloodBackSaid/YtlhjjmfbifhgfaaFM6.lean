/- Joined texts of one seat, each under its own heading below. -/
import Derived.Test.YtlhjjmfbifhgfaaFM1
import Derived.Test.YtlhjjmfbifhgfaaFM4
import Derived.Test.YtlhjjmfbifhgfaaFM5
import Derived.Test.YtlhjjmfbifhgfaaFM2
/- May a place be, its sides: the program's walks. -/
namespace Go.Proofs.Ytlhjjmfbifhgfaa
set_option linter.unusedSimpArgs false
set_option linter.unusedVariables false
open Go.RowKit

def plC (p : Pl) : Array Value := #[.int .i64 p.1, .int .i64 p.2.1, .int .i64 p.2.2]
def plV (p : Pl) : Value := .agg (plC p)
set_option maxRecDepth 100000 in
set_option maxHeartbeats 2000000 in
theorem pmay_any (w : World) (p : Pl) : Calls Try.prog 24 #[plV p] w fun e w' => e = .returned (.bool (mayP p)) ∧ Below w.heap.size w w' := by
  obtain ⟨x, y, z⟩ := p
  have HB := Lib.hid ((Below.refl w.heap.size w).alloc (Nat.le_refl _) (.cells #[.int .i64 x, .int .i64 y, .int .i64 z] 23))
  have HX := Lib.hid (show mayP (x, y, z) = (decide (-1048576 ≤ x) && decide (x < 1048576) && decide (-1048576 ≤ z) && decide (z < 1048576) && decide (0 ≤ y) && decide (y < 64)) from rfl)
  generalize mayP (x, y, z) = res at HX ⊢
  unfold plV plC
  have go : ∀ r : Bool, (Calls Try.prog 24 #[.agg #[.int .i64 x, .int .i64 y, .int .i64 z]] w fun e w' => e = .returned (.bool r) ∧ Below w.heap.size w w') → res = r → Calls Try.prog 24 #[.agg #[.int .i64 x, .int .i64 y, .int .i64 z]] w fun e w' => e = .returned (.bool res) ∧ Below w.heap.size w w' := fun r h e => e ▸ h
  rcases Bool.eq_false_or_eq_true (decide (-1048576 ≤ x)) with h1 | h1
  rcases Bool.eq_false_or_eq_true (decide (x < 1048576)) with h2 | h2
  rcases Bool.eq_false_or_eq_true (decide (-1048576 ≤ z)) with h3 | h3
  rcases Bool.eq_false_or_eq_true (decide (z < 1048576)) with h4 | h4
  rcases Bool.eq_false_or_eq_true (decide (0 ≤ y)) with h5 | h5
  rcases Bool.eq_false_or_eq_true (decide (y < 64)) with h6 | h6
  · refine go true ?_ (by rw [HX.out, h1, h2, h3, h4, h5, h6]; rfl)
    clear HX go
    go_enter Try.func24, Try.ntmps24
    go_wp2
    go_ret
    exact ⟨rfl, HB.out⟩
  all_goals
    refine go false ?_ (by rw [HX.out]; clear HX go; simp only [*, Bool.and_false, Bool.false_and, Bool.and_true])
    clear HX go
    go_enter Try.func24, Try.ntmps24
    go_wp2
    go_ret
    exact ⟨rfl, HB.out⟩
theorem three_cells {w : World} {g : Nat} {t : TypeId} {a b c : Value} (h : Blk w g t #[a, b, c]) : w.cell? ⟨g, 0, none⟩ = some a ∧ w.cell? ⟨g, 1, none⟩ = some b ∧ w.cell? ⟨g, 2, none⟩ = some c := ⟨h.cell 0, h.cell 1, h.cell 2⟩
theorem Blk.other {w : World} {g : Nat} {t : TypeId} {cs : Array Value} (h : Blk w g t cs) {p : Addr} (hne : g ≠ p.block) (u : Value) : Blk (w.setCell p u) g t cs := (Below.heap_setCell w p u g hne).trans h
theorem three_blk {w : World} {g : Nat} {t : TypeId} {x0 x1 x2 : Value} (h : Blk w g t #[x0, x1, x2]) (v0 v1 v2 : Value) : Blk (((w.setCell ⟨g, 0, none⟩ v0).setCell ⟨g, 1, none⟩ v1).setCell ⟨g, 2, none⟩ v2) g t #[v0, v1, v2] := by
  have b0 : Blk (w.setCell ⟨g, 0, none⟩ v0) g t #[v0, x1, x2] := h.set_ 0 v0
  have b1 : Blk ((w.setCell ⟨g, 0, none⟩ v0).setCell ⟨g, 1, none⟩ v1) g t #[v0, v1, x2] := b0.set_ 1 v1
  exact b1.set_ 2 v2
theorem three_set {w : World} {g : Nat} {t : TypeId} {x0 x1 x2 : Value} (h : Blk w g t #[x0, x1, x2]) (v0 v1 v2 : Value) :
    (((w.setCell ⟨g, 0, none⟩ v0).setCell ⟨g, 1, none⟩ v1).setCell ⟨g, 2, none⟩ v2).cell? ⟨g, 0, none⟩ = some v0 ∧ (((w.setCell ⟨g, 0, none⟩ v0).setCell ⟨g, 1, none⟩ v1).setCell ⟨g, 2, none⟩ v2).cell? ⟨g, 1, none⟩ = some v1 ∧ (((w.setCell ⟨g, 0, none⟩ v0).setCell ⟨g, 1, none⟩ v1).setCell ⟨g, 2, none⟩ v2).cell? ⟨g, 2, none⟩ = some v2 := three_cells (three_blk h v0 v1 v2)
def stepV (p : Pl) (k : Nat) : Value := match stepP p k with | some q => .tuple #[plV q, .bool true] | none => .tuple #[plV (0, 0, 0), .bool false]
theorem three_free {w : World} {g : Nat} {t : TypeId} {a b c : Value} (h : Blk w g t #[a, b, c]) : w.frozen? ⟨g, 0, none⟩ = false ∧ w.frozen? ⟨g, 1, none⟩ = false ∧ w.frozen? ⟨g, 2, none⟩ = false := ⟨h.frozen 0, h.frozen 1, h.frozen 2⟩
set_option maxRecDepth 100000 in
set_option maxHeartbeats 4000000 in
theorem pstep_any (w : World) (p : Pl) (k : Nat) (hk : k < 6) : Calls Try.prog 36 #[plV p, .int .i64 (k : Int)] w fun e w' => e = .returned (stepV p k) ∧ Below w.heap.size w w' := by
  have HM := Lib.hid (fun W => pmay_any W p)
  have HM2 := Lib.hid (fun W => pmay_any W (moveP p k))
  have HV := Lib.hid (show stepV p k = if mayP p && mayP (moveP p k) then .tuple #[plV (moveP p k), .bool true] else .tuple #[plV (0, 0, 0), .bool false] from by unfold stepV stepP; split <;> rename_i h <;> (cases hc : (mayP p && mayP (moveP p k)) <;> rw [hc] at h <;> simp at h ⊢ <;> first | rw [h] | skip))
  have hmi := mayP_iff (p := p)
  generalize stepV p k = res at HV ⊢
  obtain ⟨x, y, z⟩ := p
  have HK0 := Lib.hid ((Blk.new w 23 #[.int .i64 x, .int .i64 y, .int .i64 z]).alloc (.cells #[.int .i64 0, .int .i64 0, .int .i64 0] 23))
  have HR0 := Lib.hid (show Blk ((w.alloc (.cells #[.int .i64 x, .int .i64 y, .int .i64 z] 23)).alloc (.cells #[.int .i64 0, .int .i64 0, .int .i64 0] 23)) (w.heap.size + 1) 23 #[.int .i64 0, .int .i64 0, .int .i64 0] by
    have := Blk.new (w.alloc (.cells #[.int .i64 x, .int .i64 y, .int .i64 z] 23)) 23 #[.int .i64 0, .int .i64 0, .int .i64 0]
    simpa using this)
  have HB := Lib.hid (((Below.refl w.heap.size w).alloc (Nat.le_refl _) (.cells #[.int .i64 x, .int .i64 y, .int .i64 z] 23)).alloc (by simp) (.cells #[.int .i64 0, .int .i64 0, .int .i64 0] 23))
  unfold plV plC at *
  simp only at HM hmi
  generalize mayP (x, y, z) = m at HM HV hmi
  cases m with
  | false =>
    go_enter Try.func36, Try.ntmps36
    go_wp2_with fail
    go_at_call 24
    refine (HM.out _).mono ?_
    rintro e w1 ⟨rfl, hb⟩
    have HB1 := Lib.hid (HB.out.trans (hb.mono HB.out.size))
    have HR1 := Lib.hid (HR0.out.below hb HR0.out.lt)
    obtain ⟨d0, d1, d2⟩ := three_cells HR1.out
    obtain ⟨f0, f1, f2⟩ := three_free HR1.out
    clear hb hmi
    go_wp2
    obtain ⟨g0, g1, g2⟩ := three_set HR1.out (.int .i64 0) (.int .i64 0) (.int .i64 0)
    refine bodyPost_ret (v := .tuple #[.agg #[.int .i64 0, .int .i64 0, .int .i64 0], .bool false]) (by simp [results, Try.results36, go_sem, g0, g1, g2]) rfl ⟨?_, (HB1.out.setCell (by simp <;> omega) _ |>.setCell (by simp <;> omega) _ |>.setCell (by simp <;> omega) _)⟩
    rw [HV.out]
    rfl
  | true =>
    obtain ⟨b1, b2, b3, b4, b5, b6⟩ := hmi.1 rfl
    clear hmi
    obtain rfl | rfl | rfl | rfl | rfl | rfl : k = 0 ∨ k = 1 ∨ k = 2 ∨ k = 3 ∨ k = 4 ∨ k = 5 := by omega
    · simp only [moveP] at HM2 HV
      generalize mayP (x + 1, y, z) = m2 at HM2 HV
      cases m2
      all_goals
        go_enter Try.func36, Try.ntmps36
        go_wp2_with fail
        go_at_call 24
        refine (HM.out _).mono ?_
        rintro e w1 ⟨rfl, hb⟩
        have HB1 := Lib.hid (HB.out.trans (hb.mono HB.out.size))
        have HR1 := Lib.hid (HR0.out.below hb HR0.out.lt)
        have HK1 := Lib.hid (HK0.out.below hb HK0.out.lt)
        obtain ⟨c0, c1, c2⟩ := three_cells HK1.out
        obtain ⟨f0, f1, f2⟩ := three_free HK1.out
        clear hb
        go_wp2_with fail
        go_at_call 24
        refine (HM2.out _).mono ?_
        rintro e w2 ⟨rfl, hb⟩
        have HB2 := Lib.hid ((HB1.out.setCell (p := ⟨w.heap.size, 0, none⟩) (Nat.le_refl _) (.int .i64 (x + 1))).trans (hb.mono (by simpa [World.setCell] using HB1.out.size)))
        have HR2 := Lib.hid ((HR1.out.other (p := ⟨w.heap.size, 0, none⟩) (by simp) (.int .i64 (x + 1))).below hb (by simpa [World.setCell] using HR1.out.lt))
        have HK2 := Lib.hid (show Blk w2 w.heap.size 23 #[.int .i64 (x + 1), .int .i64 (y), .int .i64 (z)] from (HK1.out.set_ 0 (.int .i64 (x + 1))).below hb (by simpa [World.setCell] using HK1.out.lt))
        clear hb c0 c1 c2 f0 f1 f2
        obtain ⟨c0, c1, c2⟩ := three_cells HK2.out
        obtain ⟨d0, d1, d2⟩ := three_cells HR2.out
        obtain ⟨f0, f1, f2⟩ := three_free HR2.out
        go_wp2
      · obtain ⟨g0, g1, g2⟩ := three_set HR2.out (.int .i64 0) (.int .i64 0) (.int .i64 0)
        refine bodyPost_ret (v := .tuple #[.agg #[.int .i64 0, .int .i64 0, .int .i64 0], .bool false]) (by simp [results, Try.results36, go_sem, g0, g1, g2]) rfl ⟨?_, (HB2.out |>.setCell (by simp <;> omega) _ |>.setCell (by simp <;> omega) _ |>.setCell (by simp <;> omega) _)⟩
        rw [HV.out]
        rfl
      · obtain ⟨g0, g1, g2⟩ := three_set HR2.out (.int .i64 (x + 1)) (.int .i64 (y)) (.int .i64 (z))
        refine bodyPost_ret (v := .tuple #[.agg #[.int .i64 (x + 1), .int .i64 (y), .int .i64 (z)], .bool true]) (by simp [results, Try.results36, go_sem, g0, g1, g2]) rfl ⟨?_, (HB2.out |>.setCell (by simp <;> omega) _ |>.setCell (by simp <;> omega) _ |>.setCell (by simp <;> omega) _)⟩
        rw [HV.out]
        rfl
    · simp only [moveP] at HM2 HV
      generalize mayP (x - 1, y, z) = m2 at HM2 HV
      cases m2
      all_goals
        go_enter Try.func36, Try.ntmps36
        go_wp2_with fail
        go_at_call 24
        refine (HM.out _).mono ?_
        rintro e w1 ⟨rfl, hb⟩
        have HB1 := Lib.hid (HB.out.trans (hb.mono HB.out.size))
        have HR1 := Lib.hid (HR0.out.below hb HR0.out.lt)
        have HK1 := Lib.hid (HK0.out.below hb HK0.out.lt)
        obtain ⟨c0, c1, c2⟩ := three_cells HK1.out
        obtain ⟨f0, f1, f2⟩ := three_free HK1.out
        clear hb
        go_wp2_with fail
        go_at_call 24
        refine (HM2.out _).mono ?_
        rintro e w2 ⟨rfl, hb⟩
        have HB2 := Lib.hid ((HB1.out.setCell (p := ⟨w.heap.size, 0, none⟩) (Nat.le_refl _) (.int .i64 (x - 1))).trans (hb.mono (by simpa [World.setCell] using HB1.out.size)))
        have HR2 := Lib.hid ((HR1.out.other (p := ⟨w.heap.size, 0, none⟩) (by simp) (.int .i64 (x - 1))).below hb (by simpa [World.setCell] using HR1.out.lt))
        have HK2 := Lib.hid (show Blk w2 w.heap.size 23 #[.int .i64 (x - 1), .int .i64 (y), .int .i64 (z)] from (HK1.out.set_ 0 (.int .i64 (x - 1))).below hb (by simpa [World.setCell] using HK1.out.lt))
        clear hb c0 c1 c2 f0 f1 f2
        obtain ⟨c0, c1, c2⟩ := three_cells HK2.out
        obtain ⟨d0, d1, d2⟩ := three_cells HR2.out
        obtain ⟨f0, f1, f2⟩ := three_free HR2.out
        go_wp2
      · obtain ⟨g0, g1, g2⟩ := three_set HR2.out (.int .i64 0) (.int .i64 0) (.int .i64 0)
        refine bodyPost_ret (v := .tuple #[.agg #[.int .i64 0, .int .i64 0, .int .i64 0], .bool false]) (by simp [results, Try.results36, go_sem, g0, g1, g2]) rfl ⟨?_, (HB2.out |>.setCell (by simp <;> omega) _ |>.setCell (by simp <;> omega) _ |>.setCell (by simp <;> omega) _)⟩
        rw [HV.out]
        rfl
      · obtain ⟨g0, g1, g2⟩ := three_set HR2.out (.int .i64 (x - 1)) (.int .i64 (y)) (.int .i64 (z))
        refine bodyPost_ret (v := .tuple #[.agg #[.int .i64 (x - 1), .int .i64 (y), .int .i64 (z)], .bool true]) (by simp [results, Try.results36, go_sem, g0, g1, g2]) rfl ⟨?_, (HB2.out |>.setCell (by simp <;> omega) _ |>.setCell (by simp <;> omega) _ |>.setCell (by simp <;> omega) _)⟩
        rw [HV.out]
        rfl
    · simp only [moveP] at HM2 HV
      generalize mayP (x, y, z + 1) = m2 at HM2 HV
      cases m2
      all_goals
        go_enter Try.func36, Try.ntmps36
        go_wp2_with fail
        go_at_call 24
        refine (HM.out _).mono ?_
        rintro e w1 ⟨rfl, hb⟩
        have HB1 := Lib.hid (HB.out.trans (hb.mono HB.out.size))
        have HR1 := Lib.hid (HR0.out.below hb HR0.out.lt)
        have HK1 := Lib.hid (HK0.out.below hb HK0.out.lt)
        obtain ⟨c0, c1, c2⟩ := three_cells HK1.out
        obtain ⟨f0, f1, f2⟩ := three_free HK1.out
        clear hb
        go_wp2_with fail
        go_at_call 24
        refine (HM2.out _).mono ?_
        rintro e w2 ⟨rfl, hb⟩
        have HB2 := Lib.hid ((HB1.out.setCell (p := ⟨w.heap.size, 2, none⟩) (Nat.le_refl _) (.int .i64 (z + 1))).trans (hb.mono (by simpa [World.setCell] using HB1.out.size)))
        have HR2 := Lib.hid ((HR1.out.other (p := ⟨w.heap.size, 2, none⟩) (by simp) (.int .i64 (z + 1))).below hb (by simpa [World.setCell] using HR1.out.lt))
        have HK2 := Lib.hid (show Blk w2 w.heap.size 23 #[.int .i64 (x), .int .i64 (y), .int .i64 (z + 1)] from (HK1.out.set_ 2 (.int .i64 (z + 1))).below hb (by simpa [World.setCell] using HK1.out.lt))
        clear hb c0 c1 c2 f0 f1 f2
        obtain ⟨c0, c1, c2⟩ := three_cells HK2.out
        obtain ⟨d0, d1, d2⟩ := three_cells HR2.out
        obtain ⟨f0, f1, f2⟩ := three_free HR2.out
        go_wp2
      · obtain ⟨g0, g1, g2⟩ := three_set HR2.out (.int .i64 0) (.int .i64 0) (.int .i64 0)
        refine bodyPost_ret (v := .tuple #[.agg #[.int .i64 0, .int .i64 0, .int .i64 0], .bool false]) (by simp [results, Try.results36, go_sem, g0, g1, g2]) rfl ⟨?_, (HB2.out |>.setCell (by simp <;> omega) _ |>.setCell (by simp <;> omega) _ |>.setCell (by simp <;> omega) _)⟩
        rw [HV.out]
        rfl
      · obtain ⟨g0, g1, g2⟩ := three_set HR2.out (.int .i64 (x)) (.int .i64 (y)) (.int .i64 (z + 1))
        refine bodyPost_ret (v := .tuple #[.agg #[.int .i64 (x), .int .i64 (y), .int .i64 (z + 1)], .bool true]) (by simp [results, Try.results36, go_sem, g0, g1, g2]) rfl ⟨?_, (HB2.out |>.setCell (by simp <;> omega) _ |>.setCell (by simp <;> omega) _ |>.setCell (by simp <;> omega) _)⟩
        rw [HV.out]
        rfl
    · simp only [moveP] at HM2 HV
      generalize mayP (x, y, z - 1) = m2 at HM2 HV
      cases m2
      all_goals
        go_enter Try.func36, Try.ntmps36
        go_wp2_with fail
        go_at_call 24
        refine (HM.out _).mono ?_
        rintro e w1 ⟨rfl, hb⟩
        have HB1 := Lib.hid (HB.out.trans (hb.mono HB.out.size))
        have HR1 := Lib.hid (HR0.out.below hb HR0.out.lt)
        have HK1 := Lib.hid (HK0.out.below hb HK0.out.lt)
        obtain ⟨c0, c1, c2⟩ := three_cells HK1.out
        obtain ⟨f0, f1, f2⟩ := three_free HK1.out
        clear hb
        go_wp2_with fail
        go_at_call 24
        refine (HM2.out _).mono ?_
        rintro e w2 ⟨rfl, hb⟩
        have HB2 := Lib.hid ((HB1.out.setCell (p := ⟨w.heap.size, 2, none⟩) (Nat.le_refl _) (.int .i64 (z - 1))).trans (hb.mono (by simpa [World.setCell] using HB1.out.size)))
        have HR2 := Lib.hid ((HR1.out.other (p := ⟨w.heap.size, 2, none⟩) (by simp) (.int .i64 (z - 1))).below hb (by simpa [World.setCell] using HR1.out.lt))
        have HK2 := Lib.hid (show Blk w2 w.heap.size 23 #[.int .i64 (x), .int .i64 (y), .int .i64 (z - 1)] from (HK1.out.set_ 2 (.int .i64 (z - 1))).below hb (by simpa [World.setCell] using HK1.out.lt))
        clear hb c0 c1 c2 f0 f1 f2
        obtain ⟨c0, c1, c2⟩ := three_cells HK2.out
        obtain ⟨d0, d1, d2⟩ := three_cells HR2.out
        obtain ⟨f0, f1, f2⟩ := three_free HR2.out
        go_wp2
      · obtain ⟨g0, g1, g2⟩ := three_set HR2.out (.int .i64 0) (.int .i64 0) (.int .i64 0)
        refine bodyPost_ret (v := .tuple #[.agg #[.int .i64 0, .int .i64 0, .int .i64 0], .bool false]) (by simp [results, Try.results36, go_sem, g0, g1, g2]) rfl ⟨?_, (HB2.out |>.setCell (by simp <;> omega) _ |>.setCell (by simp <;> omega) _ |>.setCell (by simp <;> omega) _)⟩
        rw [HV.out]
        rfl
      · obtain ⟨g0, g1, g2⟩ := three_set HR2.out (.int .i64 (x)) (.int .i64 (y)) (.int .i64 (z - 1))
        refine bodyPost_ret (v := .tuple #[.agg #[.int .i64 (x), .int .i64 (y), .int .i64 (z - 1)], .bool true]) (by simp [results, Try.results36, go_sem, g0, g1, g2]) rfl ⟨?_, (HB2.out |>.setCell (by simp <;> omega) _ |>.setCell (by simp <;> omega) _ |>.setCell (by simp <;> omega) _)⟩
        rw [HV.out]
        rfl
    · simp only [moveP] at HM2 HV
      generalize mayP (x, y + 1, z) = m2 at HM2 HV
      cases m2
      all_goals
        go_enter Try.func36, Try.ntmps36
        go_wp2_with fail
        go_at_call 24
        refine (HM.out _).mono ?_
        rintro e w1 ⟨rfl, hb⟩
        have HB1 := Lib.hid (HB.out.trans (hb.mono HB.out.size))
        have HR1 := Lib.hid (HR0.out.below hb HR0.out.lt)
        have HK1 := Lib.hid (HK0.out.below hb HK0.out.lt)
        obtain ⟨c0, c1, c2⟩ := three_cells HK1.out
        obtain ⟨f0, f1, f2⟩ := three_free HK1.out
        clear hb
        go_wp2_with fail
        go_at_call 24
        refine (HM2.out _).mono ?_
        rintro e w2 ⟨rfl, hb⟩
        have HB2 := Lib.hid ((HB1.out.setCell (p := ⟨w.heap.size, 1, none⟩) (Nat.le_refl _) (.int .i64 (y + 1))).trans (hb.mono (by simpa [World.setCell] using HB1.out.size)))
        have HR2 := Lib.hid ((HR1.out.other (p := ⟨w.heap.size, 1, none⟩) (by simp) (.int .i64 (y + 1))).below hb (by simpa [World.setCell] using HR1.out.lt))
        have HK2 := Lib.hid (show Blk w2 w.heap.size 23 #[.int .i64 (x), .int .i64 (y + 1), .int .i64 (z)] from (HK1.out.set_ 1 (.int .i64 (y + 1))).below hb (by simpa [World.setCell] using HK1.out.lt))
        clear hb c0 c1 c2 f0 f1 f2
        obtain ⟨c0, c1, c2⟩ := three_cells HK2.out
        obtain ⟨d0, d1, d2⟩ := three_cells HR2.out
        obtain ⟨f0, f1, f2⟩ := three_free HR2.out
        go_wp2
      · obtain ⟨g0, g1, g2⟩ := three_set HR2.out (.int .i64 0) (.int .i64 0) (.int .i64 0)
        refine bodyPost_ret (v := .tuple #[.agg #[.int .i64 0, .int .i64 0, .int .i64 0], .bool false]) (by simp [results, Try.results36, go_sem, g0, g1, g2]) rfl ⟨?_, (HB2.out |>.setCell (by simp <;> omega) _ |>.setCell (by simp <;> omega) _ |>.setCell (by simp <;> omega) _)⟩
        rw [HV.out]
        rfl
      · obtain ⟨g0, g1, g2⟩ := three_set HR2.out (.int .i64 (x)) (.int .i64 (y + 1)) (.int .i64 (z))
        refine bodyPost_ret (v := .tuple #[.agg #[.int .i64 (x), .int .i64 (y + 1), .int .i64 (z)], .bool true]) (by simp [results, Try.results36, go_sem, g0, g1, g2]) rfl ⟨?_, (HB2.out |>.setCell (by simp <;> omega) _ |>.setCell (by simp <;> omega) _ |>.setCell (by simp <;> omega) _)⟩
        rw [HV.out]
        rfl
    · simp only [moveP] at HM2 HV
      generalize mayP (x, y - 1, z) = m2 at HM2 HV
      cases m2
      all_goals
        go_enter Try.func36, Try.ntmps36
        go_wp2_with fail
        go_at_call 24
        refine (HM.out _).mono ?_
        rintro e w1 ⟨rfl, hb⟩
        have HB1 := Lib.hid (HB.out.trans (hb.mono HB.out.size))
        have HR1 := Lib.hid (HR0.out.below hb HR0.out.lt)
        have HK1 := Lib.hid (HK0.out.below hb HK0.out.lt)
        obtain ⟨c0, c1, c2⟩ := three_cells HK1.out
        obtain ⟨f0, f1, f2⟩ := three_free HK1.out
        clear hb
        go_wp2_with fail
        go_at_call 24
        refine (HM2.out _).mono ?_
        rintro e w2 ⟨rfl, hb⟩
        have HB2 := Lib.hid ((HB1.out.setCell (p := ⟨w.heap.size, 1, none⟩) (Nat.le_refl _) (.int .i64 (y - 1))).trans (hb.mono (by simpa [World.setCell] using HB1.out.size)))
        have HR2 := Lib.hid ((HR1.out.other (p := ⟨w.heap.size, 1, none⟩) (by simp) (.int .i64 (y - 1))).below hb (by simpa [World.setCell] using HR1.out.lt))
        have HK2 := Lib.hid (show Blk w2 w.heap.size 23 #[.int .i64 (x), .int .i64 (y - 1), .int .i64 (z)] from (HK1.out.set_ 1 (.int .i64 (y - 1))).below hb (by simpa [World.setCell] using HK1.out.lt))
        clear hb c0 c1 c2 f0 f1 f2
        obtain ⟨c0, c1, c2⟩ := three_cells HK2.out
        obtain ⟨d0, d1, d2⟩ := three_cells HR2.out
        obtain ⟨f0, f1, f2⟩ := three_free HR2.out
        go_wp2
      · obtain ⟨g0, g1, g2⟩ := three_set HR2.out (.int .i64 0) (.int .i64 0) (.int .i64 0)
        refine bodyPost_ret (v := .tuple #[.agg #[.int .i64 0, .int .i64 0, .int .i64 0], .bool false]) (by simp [results, Try.results36, go_sem, g0, g1, g2]) rfl ⟨?_, (HB2.out |>.setCell (by simp <;> omega) _ |>.setCell (by simp <;> omega) _ |>.setCell (by simp <;> omega) _)⟩
        rw [HV.out]
        rfl
      · obtain ⟨g0, g1, g2⟩ := three_set HR2.out (.int .i64 (x)) (.int .i64 (y - 1)) (.int .i64 (z))
        refine bodyPost_ret (v := .tuple #[.agg #[.int .i64 (x), .int .i64 (y - 1), .int .i64 (z)], .bool true]) (by simp [results, Try.results36, go_sem, g0, g1, g2]) rfl ⟨?_, (HB2.out |>.setCell (by simp <;> omega) _ |>.setCell (by simp <;> omega) _ |>.setCell (by simp <;> omega) _)⟩
        rw [HV.out]
        rfl
end Go.Proofs.Ytlhjjmfbifhgfaa
/- A place's sides: the walk. -/
namespace Go.Proofs.Ytlhjjmfbifhgfaa
set_option linter.unusedSimpArgs false
set_option linter.unusedVariables false
open Go.RowKit

def plE (p : Pl) : List Value := (plC p).toList
theorem plE_len (p : Pl) : (plE p).length = 3 := rfl
theorem plE_one (p : Pl) : ∀ u ∈ plE p, u.oneCell' = true := by
  intro u hu
  simp [plE, plC] at hu
  rcases hu with rfl | rfl | rfl <;> rfl
theorem infoPl : (Try.prog.info? 23).map (fun i => (i.zero, i.size, i.bytes)) = some (some (.agg #[.int .i64 0, .int .i64 0, .int .i64 0]), 3, 24) := by kernel_rfl
/-- A row of places of the call's own. -/
abbrev PRow (w : World) (base : Nat) (v : Value) (l : List Pl) : Prop := w.ownsRow base 23 3 v l.length (rc plE l)
def sidesTo (p : Pl) (j : Nat) : List Pl := (List.range j).filterMap (stepP p)
theorem sidesTo_none {p : Pl} {j : Nat} (h : stepP p j = none) : sidesTo p (j + 1) = sidesTo p j := by simp [sidesTo, List.range_succ, h]
theorem sidesTo_some {p q : Pl} {j : Nat} (h : stepP p j = some q) : sidesTo p (j + 1) = sidesTo p j ++ [q] := by simp [sidesTo, List.range_succ, h]
theorem sidesTo_len (p : Pl) (j : Nat) : (sidesTo p j).length ≤ j := by
  unfold sidesTo
  exact Nat.le_trans (List.length_filterMap_le _ _) (by simp)
set_option maxRecDepth 100000 in
set_option maxHeartbeats 4000000 in
theorem sides_any (w : World) (p : Pl) : Calls Try.prog 52 #[plV p] w fun e w' => ∃ v, e = .returned v ∧ PRow w' w.heap.size v (sidesP p) ∧ Below w.heap.size w w' := by
  have HS := Lib.hid (fun W k (hk : k < 6) => pstep_any W p k hk)
  have HK := Lib.hid (Blk.new w 23 (plC p))
  have HB := Lib.hid ((Below.refl w.heap.size w).alloc (Nat.le_refl _) (.cells (plC p) 23))
  unfold plV plC at *
  obtain ⟨W, hW⟩ : ∃ W, W = w.alloc (.cells #[.int .i64 p.1, .int .i64 p.2.1, .int .i64 p.2.2] 23) := ⟨_, rfl⟩
  rw [← hW] at HK HB
  have HW := Lib.hid hW
  clear hW
  go_enter Try.func52, Try.ntmps52
  go_wp2
  rw [← HW.out]
  go_loopw [2, 6] (fun v i wr => ∃ j : Nat, j ≤ 6 ∧ i = .int .i64 j ∧ PRow wr (w.heap.size + 1) v (sidesTo p j) ∧ Below w.heap.size w wr ∧ Blk wr w.heap.size 23 #[.int .i64 p.1, .int .i64 p.2.1, .int .i64 p.2.2]) (fun _ i _ => 6 - (intOf i).toNat)
  case atStart => exact ⟨0, Nat.zero_le _, rfl, World.ownsRow_nil _ _ _ _, HB.out, HK.out⟩
  case round =>
    obtain ⟨j, hj, rfl, hr, hb, hk⟩ := hrel
    have HR := Lib.hid hr
    have HBr := Lib.hid hb
    have HKr := Lib.hid hk
    clear hr hb hk
    by_cases hlt : j < 6
    · obtain ⟨c0, c1, c2⟩ := three_cells HKr.out
      have hltI : (j : Int) < 6 := by omega
      have HSj := Lib.hid (HS.out wr j hlt)
      unfold stepV at HSj
      have hlen := sidesTo_len p j
      cases hs : stepP p j with
      | none =>
        rw [hs] at HSj
        have HT := Lib.hid (sidesTo_none hs)
        simp only [plV, plC] at HSj
        clear hs
        go_wp2_with fail
        go_at_call 36
        refine HSj.out.mono ?_
        rintro e w2 ⟨rfl, hb⟩
        have HB2 := Lib.hid (let x := HBr.out.trans (hb.mono HBr.out.size); x.alloc x.size (.cells #[.int .i64 0, .int .i64 0, .int .i64 0] 23))
        have HR2 := Lib.hid ((own_below HR.out hb).alloc (.cells #[.int .i64 0, .int .i64 0, .int .i64 0] 23))
        have HK2 := Lib.hid ((HKr.out.below hb HKr.out.lt).alloc (.cells #[.int .i64 0, .int .i64 0, .int .i64 0] 23))
        clear hb c0 c1 c2
        go_wp2
        go_roundw
        case rel => exact ⟨j + 1, by omega, by go_num, by rw [HT.out]; exact HR2.out, HB2.out, HK2.out⟩
        case measure => simp [intOf]; omega
      | some q =>
        rw [hs] at HSj
        have HT := Lib.hid (sidesTo_some hs)
        obtain ⟨qx, qy, qz⟩ := q
        simp only [plV, plC] at HSj
        clear hs
        go_wp2_with fail
        go_at_call 36
        refine HSj.out.mono ?_
        rintro e w2 ⟨rfl, hb⟩
        have hB2 := HBr.out.trans (hb.mono HBr.out.size)
        have hz := hB2.size
        have HB2 := Lib.hid (hB2.alloc hz (.cells #[.int .i64 qx, .int .i64 qy, .int .i64 qz] 23))
        have HR2 := Lib.hid ((own_below HR.out hb).alloc (.cells #[.int .i64 qx, .int .i64 qy, .int .i64 qz] 23))
        have HK2 := Lib.hid ((HKr.out.below hb HKr.out.lt).alloc (.cells #[.int .i64 qx, .int .i64 qy, .int .i64 qz] 23))
        have HLEN := Lib.hid (show (sidesTo p j).length ≤ 1099511627775 by omega)
        have hlt3 := HKr.out.lt
        have hsz2 := hb.size
        have HSZ := Lib.hid (show w.heap.size + 1 ≤ (w2.alloc (.cells #[.int .i64 qx, .int .i64 qy, .int .i64 qz] 23)).heap.size by simp; omega)
        clear hb c0 c1 c2 hB2
        go_wp2_with (at_builtin; refine row_law plE_len plE_one (by decide) Try.underlying46 infoPl rfl (by decide) HR2.out rfl _ _ rfl rfl ((qx, qy, qz) : Pl) rfl rfl (by simp) HLEN.out HSZ.out ?_)
        intro v' w3 k1 k2 k3
        have hx : ∀ k, Value.ownBlock _ = some k → w.heap.size ≤ k := fun k hk => Nat.le_of_succ_le (HR2.out.lt k hk).1
        have HB3 := Lib.hid ((HB2.out.alloc HB2.out.size (.cells #[.int .i64 qx, .int .i64 qy, .int .i64 qz] 23)).grown k2 (by simp; omega) hx)
        have HK3 := Lib.hid ((HK2.out.alloc (.cells #[.int .i64 qx, .int .i64 qy, .int .i64 qz] 23)).grown k2 (fun h => by
          have h1 := HR2.out
          have h2 := (h1.lt _ h.symm).1
          omega))
        have HR3 := Lib.hid k1
        clear k1 k2 k3
        go_wp2
        go_roundw
        case rel => exact ⟨j + 1, by omega, by go_num, by rw [HT.out]; exact own_rc plE_len (by decide) HR3.out rfl, HB3.out, HK3.out⟩
        case measure => simp [intOf]; omega
    · obtain rfl : j = 6 := by omega
      go_wp2
      go_ret
      exact ⟨_, rfl, own_base HR.out (by omega), HBr.out⟩
end Go.Proofs.Ytlhjjmfbifhgfaa
/- The field: a small world in memory; a place's index: the walk. -/
namespace Go.Proofs.Ytlhjjmfbifhgfaa
set_option linter.unusedSimpArgs false
set_option linter.unusedVariables false
open Go.RowKit

def clE (c : Int × Int) : List Value := [.int .u8 c.1, .int .u8 c.2]
theorem clE_len (c : Int × Int) : (clE c).length = 2 := rfl
theorem clE_one (c : Int × Int) : ∀ u ∈ clE c, u.oneCell' = true := by
  intro u hu
  simp [clE] at hu
  rcases hu with rfl | rfl <;> rfl
/-- What a small world holds. -/
structure Fw where
  b : Bx
  cells : List (Int × Int)
  lights : List (Int × Int)
  asked : List Pl
  told : List Pl
def fwC (f : Fw) (cv lv av tv : Value) : Array Value := #[.int .i64 f.b.lo.1, .int .i64 f.b.lo.2.1, .int .i64 f.b.lo.2.2, .int .i64 f.b.X, .int .i64 f.b.Y, .int .i64 f.b.Z, cv, lv, av, tv, .int .i64 0]
structure FieldAt (W : World) (base g : Nat) (f : Fw) (cv lv av tv : Value) : Prop where
  blk : Blk W g 48 (fwC f cv lv av tv)
  cells : W.ownsRow base 33 2 cv f.cells.length (rc clE f.cells)
  lights : W.ownsRow base 43 2 lv f.lights.length (rc clE f.lights)
  asked : PRow W base av f.asked
  told : PRow W base tv f.told
  low : base ≤ g
  apart : ∀ k, av.ownBlock = some k → tv.ownBlock ≠ some k
structure Fw.Ok (f : Fw) : Prop where
  box : f.b.Ok
  cells : f.cells.length = f.b.size
  lights : f.lights.length = f.b.size
  cin : ∀ c ∈ f.cells, InU c.1 ∧ InU c.2
  lin : ∀ c ∈ f.lights, (0 ≤ c.1 ∧ c.1 ≤ 15) ∧ (0 ≤ c.2 ∧ c.2 ≤ 15)
theorem world_cells {W : World} {g : Nat} {f : Fw} {cv lv av tv : Value} (h : Blk W g 48 (fwC f cv lv av tv)) :
    W.cell? ⟨g, 0, none⟩ = some (.int .i64 f.b.lo.1) ∧ W.cell? ⟨g, 1, none⟩ = some (.int .i64 f.b.lo.2.1) ∧ W.cell? ⟨g, 2, none⟩ = some (.int .i64 f.b.lo.2.2) ∧ W.cell? ⟨g, 3, none⟩ = some (.int .i64 f.b.X) ∧ W.cell? ⟨g, 4, none⟩ = some (.int .i64 f.b.Y) ∧ W.cell? ⟨g, 5, none⟩ = some (.int .i64 f.b.Z) ∧
      W.cell? ⟨g, 6, none⟩ = some cv ∧ W.cell? ⟨g, 7, none⟩ = some lv ∧ W.cell? ⟨g, 8, none⟩ = some av ∧ W.cell? ⟨g, 9, none⟩ = some tv :=
  ⟨h.cell 0, h.cell 1, h.cell 2, h.cell 3, h.cell 4, h.cell 5, h.cell 6, h.cell 7, h.cell 8, h.cell 9⟩
def indexV (b : Bx) (p : Pl) : Value := if b.inside p then .tuple #[.int .i64 (b.idx p : Int), .bool true] else .tuple #[.int .i64 0, .bool false]
theorem idx_int {b : Bx} {p : Pl} (h : b.inside p) : ((b.idx p : Nat) : Int) = ((p.2.1 - b.lo.2.1) * b.Z + (p.2.2 - b.lo.2.2)) * b.X + (p.1 - b.lo.1) := by
  obtain ⟨x, y, z, hx, hy, hz, rfl⟩ := b.inside_pl.1 h
  rw [b.idx_pl]
  unfold Bx.ix Bx.pl
  simp only
  rw [show b.lo.2.1 + (y : Int) - b.lo.2.1 = (y : Int) from by omega, show b.lo.2.2 + (z : Int) - b.lo.2.2 = (z : Int) from by omega, show b.lo.1 + (x : Int) - b.lo.1 = (x : Int) from by omega]
  push_cast
  rfl
set_option maxRecDepth 100000 in
set_option maxHeartbeats 4000000 in
theorem windex_any (W : World) (g : Nat) (f : Fw) (cv lv av tv : Value) (hb : Blk W g 48 (fwC f cv lv av tv)) (ok : f.b.Ok) (p : Pl) (hm : mayP p = true) :
    Calls Try.prog 16 #[.pointer (some ⟨g, 0, none⟩), plV p] W fun e w' => e = .returned (indexV f.b p) ∧ Below W.heap.size W w' := by
  have HI := Lib.hid (idx_int (b := f.b) (p := p))
  have HV := Lib.hid (show indexV f.b p = if f.b.inside p then .tuple #[.int .i64 (f.b.idx p : Int), .bool true] else .tuple #[.int .i64 0, .bool false] from rfl)
  have HN := Lib.hid (show f.b.inside p ↔ (f.b.lo.1 ≤ p.1 ∧ p.1 < f.b.lo.1 + f.b.X ∧ f.b.lo.2.1 ≤ p.2.1 ∧ p.2.1 < f.b.lo.2.1 + f.b.Y ∧ f.b.lo.2.2 ≤ p.2.2 ∧ p.2.2 < f.b.lo.2.2 + f.b.Z) from Iff.rfl)
  have HBW := Lib.hid ((Below.refl W.heap.size W).alloc (Nat.le_refl _) (.cells (plC p) 23))
  obtain ⟨b1, b2, b3, b4, b5, b6⟩ := mayP_iff.1 hm
  obtain ⟨-, -, x8, -, y16, -, z8, l1, l2, l3, l4, l5, l6⟩ : True ∧ 1 ≤ f.b.X ∧ f.b.X ≤ 8 ∧ 1 ≤ f.b.Y ∧ f.b.Y ≤ 16 ∧ 1 ≤ f.b.Z ∧ f.b.Z ≤ 8 ∧ -1048576 ≤ f.b.lo.1 ∧ f.b.lo.1 + f.b.X ≤ 1048576 ∧ 0 ≤ f.b.lo.2.1 ∧ f.b.lo.2.1 + f.b.Y ≤ 64 ∧ -1048576 ≤ f.b.lo.2.2 ∧ f.b.lo.2.2 + f.b.Z ≤ 1048576 := ⟨trivial, ok.x1, ok.x8, ok.y1, ok.y16, ok.z1, ok.z8, ok.lx, ok.hx, ok.ly, ok.hy, ok.lz, ok.hz⟩
  have HK := Lib.hid (hb.alloc (.cells (plC p) 23))
  have HP := Lib.hid (Blk.new W 23 (plC p))
  unfold plV
  unfold plC at HP HK HBW ⊢
  clear hm ok hb
  obtain ⟨px, py, pz⟩ := p
  obtain ⟨W1, hW⟩ : ∃ W1, W1 = W.alloc (.cells #[.int .i64 px, .int .i64 py, .int .i64 pz] 23) := ⟨_, rfl⟩
  simp only at HP HK HBW HN HI b1 b2 b3 b4 b5 b6 ⊢
  rw [← hW] at HP HK HBW
  have HW := Lib.hid hW
  clear hW
  obtain ⟨c0, c1, c2, c3, c4, c5, -⟩ := world_cells HK.out
  obtain ⟨a0, a1, a2⟩ := three_cells HP.out
  generalize f.b.idx (px, py, pz) = ix at HI HV
  generalize hX : f.b.X = X at *
  generalize hY : f.b.Y = Y at *
  generalize hZ : f.b.Z = Z at *
  generalize f.b.lo.1 = lx at *
  generalize f.b.lo.2.1 = ly at *
  generalize f.b.lo.2.2 = lz at *
  by_cases hin : f.b.inside (px, py, pz)
  · have hn := HN.out.1 hin
    obtain ⟨n1, n2, n3, n4, n5, n6⟩ := hn
    have hix := HI.out hin
    have HR := Lib.hid (show indexV f.b (px, py, pz) = .tuple #[.int .i64 (ix : Int), .bool true] by rw [HV.out, if_pos hin])
    clear hin
    generalize indexV f.b (px, py, pz) = res at HR ⊢
    have hi2 := hix
    have q1 : (0 : Int) ≤ (py - ly) * Z := Int.mul_nonneg (by omega) (by omega)
    have q2 : (py - ly) * Z ≤ 16 * 8 := Int.mul_le_mul (by omega) (by omega) (by omega) (by omega)
    have q3 : (0 : Int) ≤ ((py - ly) * Z + (pz - lz)) * X := Int.mul_nonneg (by omega) (by omega)
    have q4 : ((py - ly) * Z + (pz - lz)) * X ≤ 136 * 8 := Int.mul_le_mul (by omega) (by omega) (by omega) (by omega)
    have m1 : 0 ≤ px - lx := by omega
    have m2 : px - lx < X := by omega
    have m3 : 0 ≤ py - ly := by omega
    have m4 : py - ly < Y := by omega
    have m5 : 0 ≤ pz - lz := by omega
    have m6 : pz - lz < Z := by omega
    clear hix
    go_enter Try.func16, Try.ntmps16
    go_wp2
    rw [← HW.out]
    go_region_held (fun w' => w'.cell? ⟨W.heap.size, 0, none⟩ = some (.int .i64 px) ∧ w'.cell? ⟨W.heap.size, 1, none⟩ = some (.int .i64 py) ∧ w'.cell? ⟨W.heap.size, 2, none⟩ = some (.int .i64 pz) ∧ w'.cell? ⟨g, 0, none⟩ = some (.int .i64 lx) ∧ w'.cell? ⟨g, 1, none⟩ = some (.int .i64 ly) ∧ w'.cell? ⟨g, 2, none⟩ = some (.int .i64 lz)) (go_keep) (fail)
    clear HI HN n1 n2 n3 n4 n5 n6
    generalize px - lx = dx at *
    generalize py - ly = dy at *
    generalize pz - lz = dz at *
    have g1 : decide (dx < 0) = false := decide_eq_false (by omega)
    have g2 : decide (dy < 0) = false := decide_eq_false (by omega)
    have g3 : decide (dz < 0) = false := decide_eq_false (by omega)
    have g4 : decide ((X : Int) ≤ dx) = false := decide_eq_false (by omega)
    have g5 : decide ((Y : Int) ≤ dy) = false := decide_eq_false (by omega)
    have g6 : decide ((Z : Int) ≤ dz) = false := decide_eq_false (by omega)
    have w1 : IntKind.i64.wrap (dy * Z) = dy * Z := IntWalk.i64_in _ (by omega)
    have w2 : IntKind.i64.wrap (dy * Z + dz) = dy * Z + dz := IntWalk.i64_in _ (by omega)
    have w3 : IntKind.i64.wrap ((dy * Z + dz) * X) = (dy * Z + dz) * X := IntWalk.i64_in _ (by omega)
    have w4 : IntKind.i64.wrap ((dy * Z + dz) * X + dx) = (dy * Z + dz) * X + dx := IntWalk.i64_in _ (by omega)
    go_wp2
    go_region_held (fun w' => w'.cell? ⟨g, 3, none⟩ = some (.int .i64 X) ∧ w'.cell? ⟨g, 5, none⟩ = some (.int .i64 Z)) (go_keep) (fail)
    go_wp2
    go_ret2
    refine ⟨?_, HBW.out.drew.drew⟩
    rw [HR.out, hi2]
    rfl
  · have HR := Lib.hid (show indexV f.b (px, py, pz) = .tuple #[.int .i64 0, .bool false] by rw [HV.out, if_neg hin])
    have hn := fun h => hin (HN.out.2 h)
    clear hin HI HN
    generalize indexV f.b (px, py, pz) = res at HR HV ⊢
    have m0 : ¬ (0 ≤ px - lx ∧ px - lx < X ∧ 0 ≤ py - ly ∧ py - ly < Y ∧ 0 ≤ pz - lz ∧ pz - lz < Z) := fun h => hn (by omega)
    have e1 : -4000000 ≤ px - lx ∧ px - lx ≤ 4000000 := by omega
    have e2 : -4000000 ≤ py - ly ∧ py - ly ≤ 4000000 := by omega
    have e3 : -4000000 ≤ pz - lz ∧ pz - lz ≤ 4000000 := by omega
    clear hn HV
    go_enter Try.func16, Try.ntmps16
    go_wp2
    rw [← HW.out]
    go_region_held (fun w' => w'.cell? ⟨W.heap.size, 0, none⟩ = some (.int .i64 px) ∧ w'.cell? ⟨W.heap.size, 1, none⟩ = some (.int .i64 py) ∧ w'.cell? ⟨W.heap.size, 2, none⟩ = some (.int .i64 pz) ∧ w'.cell? ⟨g, 0, none⟩ = some (.int .i64 lx) ∧ w'.cell? ⟨g, 1, none⟩ = some (.int .i64 ly) ∧ w'.cell? ⟨g, 2, none⟩ = some (.int .i64 lz)) (go_keep) (fail)
    generalize px - lx = dx at *
    generalize py - ly = dy at *
    generalize pz - lz = dz at *
    rcases Bool.eq_false_or_eq_true (decide (dx < 0)) with g1 | g1
    rotate_left
    rcases Bool.eq_false_or_eq_true (decide (dy < 0)) with g2 | g2
    rotate_left
    rcases Bool.eq_false_or_eq_true (decide (dz < 0)) with g3 | g3
    rotate_left
    rcases Bool.eq_false_or_eq_true (decide ((X : Int) ≤ dx)) with g4 | g4
    rotate_left
    rcases Bool.eq_false_or_eq_true (decide ((Y : Int) ≤ dy)) with g5 | g5
    rotate_left
    rcases Bool.eq_false_or_eq_true (decide ((Z : Int) ≤ dz)) with g6 | g6
    rotate_left
    · exfalso
      simp only [decide_eq_false_iff_not] at g1 g2 g3 g4 g5 g6
      omega
    all_goals
      clear m0
      go_wp2
      go_ret2
      exact ⟨by rw [HR.out]; rfl, HBW.out.drew⟩
end Go.Proofs.Ytlhjjmfbifhgfaa
/- May a place be: the document's walk. -/
namespace Go.Proofs.Ytlhjjmfbifhgfaa
set_option linter.unusedSimpArgs false
set_option linter.unusedVariables false
open Go.RowKit

set_option maxRecDepth 100000 in
theorem qwithin_any (w : World) (n a b : Int) : Calls Try.prog 58 #[.int .i64 n, .int .i64 a, .int .i64 b] w fun e w' => e = .returned (.bool (decide (a ≤ n) && decide (n < b))) ∧ w = w' := by
  rcases Bool.eq_false_or_eq_true (decide (a ≤ n)) with h1 | h1 <;> rcases Bool.eq_false_or_eq_true (decide (n < b)) with h2 | h2 <;> rw [h1, h2]
  all_goals
    go_enter Try.func58, Try.ntmps58
    go_wp2
    go_ret
    exact ⟨rfl, rfl⟩
set_option maxRecDepth 100000 in
set_option maxHeartbeats 1000000 in
theorem qmay_any (w : World) (p : Pl) : Calls Try.prog 41 #[plV p] w fun e w' => e = .returned (.bool (mayP p)) ∧ Below w.heap.size w w' := by
  obtain ⟨x, y, z⟩ := p
  have H1 := Lib.hid (fun W => qwithin_any W x (-1048576) 1048576)
  have H2 := Lib.hid (fun W => qwithin_any W z (-1048576) 1048576)
  have H3 := Lib.hid (fun W => qwithin_any W y 0 64)
  have HB := Lib.hid ((Below.refl w.heap.size w).alloc (Nat.le_refl _) (.cells #[.int .i64 x, .int .i64 y, .int .i64 z] 23))
  have HX := Lib.hid (show mayP (x, y, z) = ((decide (-1048576 ≤ x) && decide (x < 1048576)) && (decide (-1048576 ≤ z) && decide (z < 1048576)) && (decide (0 ≤ y) && decide (y < 64))) from by simp [mayP, Bool.and_assoc])
  generalize mayP (x, y, z) = res at HX ⊢
  generalize (decide (-1048576 ≤ x) && decide (x < 1048576)) = b1 at H1 HX
  generalize (decide (-1048576 ≤ z) && decide (z < 1048576)) = b2 at H2 HX
  generalize (decide (0 ≤ y) && decide (y < 64)) = b3 at H3 HX
  unfold plV plC
  obtain rfl := HX.out
  cases b1 <;> cases b2 <;> cases b3
  all_goals
    go_enter Try.func41, Try.ntmps41
    go_wp2_with (go_at_call 58; (first | (with_reducible refine (H1.out _).mono ?_) | (with_reducible refine (H2.out _).mono ?_) | (with_reducible refine (H3.out _).mono ?_)); rintro e w1 ⟨rfl, rfl⟩)
    go_ret
    exact ⟨by first | rfl | simp, HB.out⟩
end Go.Proofs.Ytlhjjmfbifhgfaa
