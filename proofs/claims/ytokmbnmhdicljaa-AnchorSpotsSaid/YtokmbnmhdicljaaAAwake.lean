/- on, awake: the walks. -/
import Derived.Test.YtokmbnmhdicljaaAPut
import Derived.Test.YtokmbnmhdicljaaAInP
import Derived.Test.YtokmbnmhdicljaaAEq
namespace Go.Proofs.Ytokmbnmhdicljaa
open Go.RowKit

set_option maxRecDepth 100000 in
set_option maxHeartbeats 1000000 in
theorem on_any (w : World) (x y z : Int) : Calls Try.prog 17 #[.int .i64 x, .int .i64 y, .int .i64 z] w fun e w' => e = .returned (.agg #[.int .i64 x, .int .i64 y, .int .i64 z, .bool true]) ∧ Below w.heap.size w w' := by
  go_enter Try.func17, Try.ntmps17
  go_wp2
  exact bodyPost_ret (v := .agg #[.int .i64 x, .int .i64 y, .int .i64 z, .bool true]) (by simp [results, Try.results17, go_sem]) rfl ⟨rfl, (Below.refl _ _).alloc (Nat.le_refl _) _⟩
theorem spots_one : (spotsL ((0, 0, 0), true) ((0, 0, 0), false)).length = 36 ∧ nthS (spotsL ((0, 0, 0), true) ((0, 0, 0), false)) 0 = (-1, 0, -1) ∧ nthS (spotsL ((0, 0, 0), true) ((0, 0, 0), false)) 1 = (-1, 1, -1) ∧ nthS (spotsL ((0, 0, 0), true) ((0, 0, 0), false)) 35 = (1, 3, 1) := by decide
theorem spots_edge : (spotsL ((-65536, 0, -65536), true) ((0, 0, 0), false)).length = 16 := by decide
theorem spots_both : (spotsL ((0, 0, 0), true) ((1, 3, 0), true)).length = 48 := by decide
theorem spots_none : (spotsL ((0, 0, 0), false) ((0, 0, 0), false)).length = 0 := by decide
theorem put_awake : putA zeroA zeroA 0 (5, 20, -1) = (((0, 1, -1), true), zeroA, 0) := by decide
theorem in_awake : inS ((0, 1, -1), true) zeroA (1, 3, -1) = true := by decide
theorem ok_lit (x y z : Int) (o : Bool) (h : (-100000 ≤ x ∧ x ≤ 100000) ∧ (-100000 ≤ y ∧ y ≤ 100000) ∧ (-100000 ≤ z ∧ z ≤ 100000)) : AnOk ((x, y, z), o) := by unfold AnOk; simp only; omega
theorem put_awake_ (w : World) : Calls Try.prog 13 #[.agg #[.int .i64 0, .int .i64 0, .int .i64 0, .bool false, .int .i64 0, .int .i64 0, .int .i64 0, .bool false], .int .i64 0, .agg #[.int .i64 5, .int .i64 20, .int .i64 (-1)]] w fun e w' =>
    e = .returned (.tuple #[.agg #[.int .i64 0, .int .i64 1, .int .i64 (-1), .bool true, .int .i64 0, .int .i64 0, .int .i64 0, .bool false], .int .i64 0]) ∧ Below w.heap.size w w' := by
  have h := aPut_any w (0, 0, 0) (0, 0, 0) false false 0 (5, 20, -1) (by decide) (by decide)
  have e : putA ((0, 0, 0), false) ((0, 0, 0), false) 0 (5, 20, -1) = (((0, 1, -1), true), zeroA, 0) := put_awake
  rw [e] at h
  exact h
theorem in_awake_ (w : World) : Calls Try.prog 10 #[.agg #[.int .i64 0, .int .i64 1, .int .i64 (-1), .bool true, .int .i64 0, .int .i64 0, .int .i64 0, .bool false], .agg #[.int .i64 1, .int .i64 3, .int .i64 (-1)]] w fun e w' =>
    e = .returned (.bool true) ∧ Below w.heap.size w w' := by
  have h := aIn_any w ((0, 1, -1), true) zeroA (1, 3, -1) (ok_lit _ _ _ _ (by decide)) (ok_lit _ _ _ _ (by decide))
  rw [in_awake] at h
  exact h
/-- Spots of two anchors that are known, as a row of the list's length. -/
theorem spots_at (w : World) (a b : An) (ha : AnOk a) (hb : AnOk b) : Calls Try.prog 7 #[.agg #[.int .i64 a.1.1, .int .i64 a.1.2.1, .int .i64 a.1.2.2, .bool a.2, .int .i64 b.1.1, .int .i64 b.1.2.1, .int .i64 b.1.2.2, .bool b.2]] w fun e w' =>
    (∃ ao c, e = .returned (.slice ao (spotsL a b).length c) ∧ (spotsL a b).length ≤ c ∧ c ≤ maxLen ∧ Row w' w.heap.size (.slice ao (spotsL a b).length c) (spotsL a b)) ∧ Below w.heap.size w w' :=
  (spots_walk w a b ha hb).mono fun e w' ⟨v, he, hb1, hrow⟩ => by
    obtain ⟨-, ao, c, rfl, h1, h2⟩ := row_sat hrow
    exact ⟨⟨ao, c, he, h1, h2, hrow⟩, hb1⟩
set_option maxRecDepth 100000 in
set_option maxHeartbeats 4000000 in
theorem awake_any (w : World) : Calls Try.prog 12 #[] w fun e w' => e = .returned (.bool true) ∧ Below w.heap.size w w' := by
  have HP := Lib.hid (put_awake_ w)
  go_enter Try.func12, Try.ntmps12
  go_wp2_with fail
  go_at_call 13
  refine HP.out.mono ?_
  rintro e w1 ⟨rfl, hb1⟩
  have HB1 := Lib.hid (hb1.alloc hb1.size (.cells #[.int .i64 0, .int .i64 1, .int .i64 (-1), .bool true, .int .i64 0, .int .i64 0, .int .i64 0, .bool false] 26))
  have HK1 := Lib.hid (Blk.new w1 26 #[.int .i64 0, .int .i64 1, .int .i64 (-1), .bool true, .int .i64 0, .int .i64 0, .int .i64 0, .bool false])
  have HO := Lib.hid (on_any (w1.alloc (.cells #[.int .i64 0, .int .i64 1, .int .i64 (-1), .bool true, .int .i64 0, .int .i64 0, .int .i64 0, .bool false] 26)) 0 0 0)
  clear hb1
  go_wp2_with fail
  go_at_call 17
  refine HO.out.mono ?_
  rintro e w2 ⟨rfl, hb2⟩
  have HB2 := Lib.hid (HB1.out.trans (hb2.mono HB1.out.size))
  have HK2 := Lib.hid (HK1.out.below hb2 HK1.out.lt)
  clear hb2
  go_wp2_with fail
  go_at_call 7
  refine (spots_at w2 ((0, 0, 0), true) ((0, 0, 0), false) (ok_lit _ _ _ _ (by decide)) (ok_lit _ _ _ _ (by decide))).mono ?_
  rintro e w3 ⟨⟨ao, c, rfl, hc1, hc2, hrow⟩, hb3⟩
  have hb4 := HB2.out.trans (hb3.mono HB2.out.size)
  have hk := HK2.out.below hb3 HK2.out.lt
  obtain ⟨⟨k0, k1, k2, k3, k4, k5, k6, k7⟩, -⟩ := hk.eight
  have hkl := hk.lt
  have hs := (row_sat hrow).1
  rw [spots_one.1] at hs hc1 ⊢
  obtain ⟨b, off, rfl, hbl, c0, c1, c2⟩ := hs.some3 (i := 1) (by rw [spots_one.1]; decide)
  rw [spots_one.2.2.1] at c0 c1 c2
  have K0 := fun (p : InB w3) => p.cell k0 hkl
  have K1 := fun (p : InB w3) => p.cell k1 hkl
  have K2 := fun (p : InB w3) => p.cell k2 hkl
  have K3 := fun (p : InB w3) => p.cell k3 hkl
  have K4 := fun (p : InB w3) => p.cell k4 hkl
  have K5 := fun (p : InB w3) => p.cell k5 hkl
  have K6 := fun (p : InB w3) => p.cell k6 hkl
  have K7 := fun (p : InB w3) => p.cell k7 hkl
  have C0 := fun (p : InB w3) => p.cell c0 hbl
  have C1 := fun (p : InB w3) => p.cell c1 hbl
  have C2 := fun (p : InB w3) => p.cell c2 hbl
  have HB4 := Lib.hid hb4
  have hEq : ∀ w, (Op.equalIn 10000 26 (.agg #[.int .i64 0, .int .i64 1, .int .i64 (-1), .bool true, .int .i64 0, .int .i64 0, .int .i64 0, .bool false]) (.agg #[.int .i64 0, .int .i64 1, .int .i64 (-1), .bool true, .int .i64 0, .int .i64 0, .int .i64 0, .bool false])).run Try.prog w = .ok true w := fun w => eq_two ((0, 1, -1), true) zeroA (ok_lit _ _ _ _ (by decide)) (ok_lit _ _ _ _ (by decide)) w
  clear hb3 hb4 hk k0 k1 k2 k3 k4 k5 k6 k7 hkl hs c0 c1 c2 hrow hbl hc1 hc2
  go_wp2
  refine wp_region_quiet_below (by kernel_rfl) (by kernel_rfl) ?_
  repeat (go_big_quiet_step ((first | (go_at_call 17; exact calls_below (on_any _ _ _ _)) | (go_at_call 10; exact calls_below (in_awake_ _)))))
  refine wpQuiet_nil ?_
  intro _ hw'
  obtain ⟨⟨wq, hbq⟩, hw''⟩ := hw'
  subst hw''
  have HB5 := Lib.hid (HB4.out.trans (hbq.mono HB4.out.size))
  clear K0 K1 K2 K3 K4 K5 K6 K7 C0 C1 C2 hbq hEq
  go_wp2
  go_ret
  exact ⟨rfl, HB5.out⟩
end Go.Proofs.Ytokmbnmhdicljaa
