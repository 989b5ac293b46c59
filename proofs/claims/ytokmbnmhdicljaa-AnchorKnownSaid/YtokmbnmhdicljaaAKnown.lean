/- AnchorKnown: the walk. -/
import Derived.Test.YtokmbnmhdicljaaAAwake
namespace Go.Proofs.Ytokmbnmhdicljaa
open Go.RowKit

theorem put_lit (w : World) (id : Int) (q : Sp) (n : Int) (h1 : -9223372036854775808 ≤ id ∧ id ≤ 9223372036854775807) (h : putA zeroA zeroA id q = (zeroA, zeroA, n)) : Calls Try.prog 13 #[.agg #[.int .i64 0, .int .i64 0, .int .i64 0, .bool false, .int .i64 0, .int .i64 0, .int .i64 0, .bool false], .int .i64 id, spV q] w fun e w' => e = .returned (.tuple #[.agg #[.int .i64 0, .int .i64 0, .int .i64 0, .bool false, .int .i64 0, .int .i64 0, .int .i64 0, .bool false], .int .i64 n]) ∧ Below w.heap.size w w' := by
  have k := aPut_any w (0, 0, 0) (0, 0, 0) false false id q h1.1 h1.2
  have e : putA ((0, 0, 0), false) ((0, 0, 0), false) id q = (zeroA, zeroA, n) := h
  rw [e] at k
  exact k
theorem lift_lit (w : World) : Calls Try.prog 15 #[.agg #[.int .i64 0, .int .i64 0, .int .i64 0, .bool false, .int .i64 0, .int .i64 0, .int .i64 0, .bool false], .int .i64 2] w fun e w' => e = .returned (.tuple #[.agg #[.int .i64 0, .int .i64 0, .int .i64 0, .bool false, .int .i64 0, .int .i64 0, .int .i64 0, .bool false], .int .i64 2]) ∧ Below w.heap.size w w' := by
  have k := aLift_any w (0, 0, 0) (0, 0, 0) false false 2 (by decide) (by decide)
  have e : liftA ((0, 0, 0), false) ((0, 0, 0), false) 2 = (zeroA, zeroA, 2) := by decide
  rw [e] at k
  exact k
theorem put_two (w : World) : Calls Try.prog 13 #[.agg #[.int .i64 0, .int .i64 0, .int .i64 0, .bool false, .int .i64 0, .int .i64 0, .int .i64 0, .bool false], .int .i64 2, .agg #[.int .i64 0, .int .i64 0, .int .i64 0]] w fun e w' => e = .returned (.tuple #[.agg #[.int .i64 0, .int .i64 0, .int .i64 0, .bool false, .int .i64 0, .int .i64 0, .int .i64 0, .bool false], .int .i64 2]) ∧ Below w.heap.size w w' := put_lit w 2 (0, 0, 0) 2 (by decide) (by decide)
theorem put_high (w : World) : Calls Try.prog 13 #[.agg #[.int .i64 0, .int .i64 0, .int .i64 0, .bool false, .int .i64 0, .int .i64 0, .int .i64 0, .bool false], .int .i64 0, .agg #[.int .i64 0, .int .i64 64, .int .i64 0]] w fun e w' => e = .returned (.tuple #[.agg #[.int .i64 0, .int .i64 0, .int .i64 0, .bool false, .int .i64 0, .int .i64 0, .int .i64 0, .bool false], .int .i64 10]) ∧ Below w.heap.size w w' := put_lit w 0 (0, 64, 0) 10 (by decide) (by decide)
theorem put_less (w : World) : Calls Try.prog 13 #[.agg #[.int .i64 0, .int .i64 0, .int .i64 0, .bool false, .int .i64 0, .int .i64 0, .int .i64 0, .bool false], .int .i64 (-1), .agg #[.int .i64 0, .int .i64 64, .int .i64 0]] w fun e w' => e = .returned (.tuple #[.agg #[.int .i64 0, .int .i64 0, .int .i64 0, .bool false, .int .i64 0, .int .i64 0, .int .i64 0, .bool false], .int .i64 2]) ∧ Below w.heap.size w w' := put_lit w (-1) (0, 64, 0) 2 (by decide) (by decide)
/-- Spots, as many as are known. -/
theorem spots_n (w : World) (a b : An) (n : Nat) (h : (spotsL a b).length = n) (ha : AnOk a) (hb : AnOk b) : Calls Try.prog 7 #[.agg #[.int .i64 a.1.1, .int .i64 a.1.2.1, .int .i64 a.1.2.2, .bool a.2, .int .i64 b.1.1, .int .i64 b.1.2.1, .int .i64 b.1.2.2, .bool b.2]] w fun e w' =>
    (∃ ao c, e = .returned (.slice ao n c) ∧ n ≤ c ∧ c ≤ maxLen ∧ SAt w' (.slice ao n c) (spotsL a b)) ∧ Below w.heap.size w w' :=
  (spots_at w a b ha hb).mono fun e w' ⟨⟨ao, c, he, h1, h2, hr⟩, hb⟩ => by
    subst h
    exact ⟨⟨ao, c, he, h1, h2, (row_sat hr).1⟩, hb⟩
theorem in_lit (w : World) (s : Sp) (r : Bool) (h : inS ((0, 0, 0), true) zeroA s = r) : Calls Try.prog 10 #[.agg #[.int .i64 0, .int .i64 0, .int .i64 0, .bool true, .int .i64 0, .int .i64 0, .int .i64 0, .bool false], spV s] w fun e w' => e = .returned (.bool r) ∧ Below w.heap.size w w' := by
  have k := aIn_any w ((0, 0, 0), true) zeroA s (ok_lit _ _ _ _ (by decide)) (ok_lit _ _ _ _ (by decide))
  rw [h] at k
  exact k
theorem in_1 (w : World) : Calls Try.prog 10 #[.agg #[.int .i64 0, .int .i64 0, .int .i64 0, .bool true, .int .i64 0, .int .i64 0, .int .i64 0, .bool false], .agg #[.int .i64 1, .int .i64 3, .int .i64 (-1)]] w fun e w' => e = .returned (.bool true) ∧ Below w.heap.size w w' := in_lit w (1, 3, -1) true (by decide)
theorem in_2 (w : World) : Calls Try.prog 10 #[.agg #[.int .i64 0, .int .i64 0, .int .i64 0, .bool true, .int .i64 0, .int .i64 0, .int .i64 0, .bool false], .agg #[.int .i64 2, .int .i64 0, .int .i64 0]] w fun e w' => e = .returned (.bool false) ∧ Below w.heap.size w w' := in_lit w (2, 0, 0) false (by decide)
theorem in_3 (w : World) : Calls Try.prog 10 #[.agg #[.int .i64 0, .int .i64 0, .int .i64 0, .bool true, .int .i64 0, .int .i64 0, .int .i64 0, .bool false], .agg #[.int .i64 0, .int .i64 4, .int .i64 0]] w fun e w' => e = .returned (.bool false) ∧ Below w.heap.size w w' := in_lit w (0, 4, 0) false (by decide)
set_option maxRecDepth 100000 in
set_option maxHeartbeats 4000000 in
theorem known_walk (w : World) : Calls Try.prog 5 #[] w fun e w' => e = .returned (.bool true) ∧ Below w.heap.size w w' := by
  have HB0 := Lib.hid ((Below.refl w.heap.size w).alloc (Nat.le_refl _) (.cells #[.int .i64 0, .int .i64 0, .int .i64 0, .bool false, .int .i64 0, .int .i64 0, .int .i64 0, .bool false] 26))
  have HK0 := Lib.hid (Blk.new w 26 #[.int .i64 0, .int .i64 0, .int .i64 0, .bool false, .int .i64 0, .int .i64 0, .int .i64 0, .bool false])
  go_enter Try.func5, Try.ntmps5
  go_wp2_with fail
  go_at_call 13
  refine (put_two _).mono ?_
  rintro e w1 ⟨rfl, hb⟩
  have hb' := HB0.out.trans (hb.mono HB0.out.size)
  have HB1 := Lib.hid (hb'.alloc hb'.size (.cells #[.int .i64 0, .int .i64 0, .int .i64 0, .bool false, .int .i64 0, .int .i64 0, .int .i64 0, .bool false] 26))
  have HK1 := Lib.hid ((HK0.out.below hb HK0.out.lt).alloc (.cells #[.int .i64 0, .int .i64 0, .int .i64 0, .bool false, .int .i64 0, .int .i64 0, .int .i64 0, .bool false] 26))
  clear hb hb'
  obtain ⟨⟨z0, z1, z2, z3, z4, z5, z6, z7⟩, -⟩ := HK1.out.eight
  go_wp2_with fail
  go_at_call 13
  refine (put_high _).mono ?_
  rintro e w2 ⟨rfl, hb⟩
  clear z0 z1 z2 z3 z4 z5 z6 z7
  have hb' := HB1.out.trans (hb.mono HB1.out.size)
  have HB2 := Lib.hid (hb'.alloc hb'.size (.cells #[.int .i64 0, .int .i64 0, .int .i64 0, .bool false, .int .i64 0, .int .i64 0, .int .i64 0, .bool false] 26))
  have HK2 := Lib.hid ((HK1.out.below hb HK1.out.lt).alloc (.cells #[.int .i64 0, .int .i64 0, .int .i64 0, .bool false, .int .i64 0, .int .i64 0, .int .i64 0, .bool false] 26))
  clear hb hb'
  obtain ⟨⟨z0, z1, z2, z3, z4, z5, z6, z7⟩, -⟩ := HK2.out.eight
  go_wp2_with fail
  go_at_call 13
  refine (put_less _).mono ?_
  rintro e w3 ⟨rfl, hb⟩
  clear z0 z1 z2 z3 z4 z5 z6 z7
  have hb' := HB2.out.trans (hb.mono HB2.out.size)
  have HB3 := Lib.hid (hb'.alloc hb'.size (.cells #[.int .i64 0, .int .i64 0, .int .i64 0, .bool false, .int .i64 0, .int .i64 0, .int .i64 0, .bool false] 26))
  have HK3 := Lib.hid ((HK2.out.below hb HK2.out.lt).alloc (.cells #[.int .i64 0, .int .i64 0, .int .i64 0, .bool false, .int .i64 0, .int .i64 0, .int .i64 0, .bool false] 26))
  clear hb hb'
  obtain ⟨⟨z0, z1, z2, z3, z4, z5, z6, z7⟩, -⟩ := HK3.out.eight
  go_wp2_with fail
  go_at_call 15
  refine (lift_lit _).mono ?_
  rintro e w4 ⟨rfl, hb⟩
  clear z0 z1 z2 z3 z4 z5 z6 z7
  have hb' := HB3.out.trans (hb.mono HB3.out.size)
  have HB4 := Lib.hid (hb'.alloc hb'.size (.cells #[.int .i64 0, .int .i64 0, .int .i64 0, .bool false, .int .i64 0, .int .i64 0, .int .i64 0, .bool false] 26))
  have HK4 := Lib.hid ((HK3.out.below hb HK3.out.lt).alloc (.cells #[.int .i64 0, .int .i64 0, .int .i64 0, .bool false, .int .i64 0, .int .i64 0, .int .i64 0, .bool false] 26))
  clear hb hb'
  obtain ⟨⟨z0, z1, z2, z3, z4, z5, z6, z7⟩, -⟩ := HK4.out.eight
  go_wp2_with fail
  go_at_call 12
  refine (awake_any _).mono ?_
  rintro e w5 ⟨rfl, hb⟩
  clear z0 z1 z2 z3 z4 z5 z6 z7
  have hb' := HB4.out.trans (hb.mono HB4.out.size)
  have HB5 := Lib.hid hb'
  have HK5 := Lib.hid (HK4.out.below hb HK4.out.lt)
  clear hb hb'
  obtain ⟨⟨z0, z1, z2, z3, z4, z5, z6, z7⟩, -⟩ := HK5.out.eight
  go_wp2_with fail
  go_at_call 7
  refine (spots_n _ zeroA zeroA 0 spots_none (ok_lit _ _ _ _ (by decide)) (ok_lit _ _ _ _ (by decide))).mono ?_
  rintro e w6 ⟨⟨ua, uc, rfl, u1, u2, uS⟩, hb⟩
  clear z0 z1 z2 z3 z4 z5 z6 z7
  have hb' := HB5.out.trans (hb.mono HB5.out.size)
  have HB6 := Lib.hid hb'
  have HK6 := Lib.hid (HK5.out.below hb HK5.out.lt)
  clear hb hb'
  obtain ⟨⟨z0, z1, z2, z3, z4, z5, z6, z7⟩, -⟩ := HK6.out.eight
  go_wp2_with fail
  go_at_call 17
  refine (on_any _ 0 0 0).mono ?_
  rintro e w7 ⟨rfl, hb⟩
  clear z0 z1 z2 z3 z4 z5 z6 z7
  have hb' := HB6.out.trans (hb.mono HB6.out.size)
  have HB7 := Lib.hid (hb'.alloc hb'.size (.cells #[.int .i64 0, .int .i64 0, .int .i64 0, .bool true, .int .i64 0, .int .i64 0, .int .i64 0, .bool false] 26))
  have HK7 := Lib.hid ((HK6.out.below hb HK6.out.lt).alloc (.cells #[.int .i64 0, .int .i64 0, .int .i64 0, .bool true, .int .i64 0, .int .i64 0, .int .i64 0, .bool false] 26))
  have HN7 := Lib.hid (Blk.new w7 26 #[.int .i64 0, .int .i64 0, .int .i64 0, .bool true, .int .i64 0, .int .i64 0, .int .i64 0, .bool false])
  clear hb hb'
  obtain ⟨⟨z0, z1, z2, z3, z4, z5, z6, z7⟩, -⟩ := HK7.out.eight
  obtain ⟨⟨y0, y1, y2, y3, y4, y5, y6, y7⟩, -⟩ := HN7.out.eight
  go_wp2_with fail
  go_at_call 7
  refine (spots_n _ ((0, 0, 0), true) zeroA 36 spots_one.1 (ok_lit _ _ _ _ (by decide)) (ok_lit _ _ _ _ (by decide))).mono ?_
  rintro e w8 ⟨⟨va, vc, rfl, v1, v2, vS⟩, hb⟩
  clear z0 z1 z2 z3 z4 z5 z6 z7
  clear y0 y1 y2 y3 y4 y5 y6 y7
  have hb' := HB7.out.trans (hb.mono HB7.out.size)
  have HB8 := Lib.hid hb'
  have HK8 := Lib.hid (HK7.out.below hb HK7.out.lt)
  have HN8 := Lib.hid (HN7.out.below hb HN7.out.lt)
  clear hb hb'
  obtain ⟨⟨z0, z1, z2, z3, z4, z5, z6, z7⟩, -⟩ := HK8.out.eight
  obtain ⟨⟨y0, y1, y2, y3, y4, y5, y6, y7⟩, -⟩ := HN8.out.eight
  have HS8 := Lib.hid vS
  clear vS
  obtain ⟨b, off, rfl, hbl, c0, c1, c2⟩ := HS8.out.some3 (i := 0) (by rw [show (spotsL ((0, 0, 0), true) zeroA).length = 36 from spots_one.1]; decide)
  simp only [Nat.zero_mul, Nat.add_zero] at c0 c1 c2
  obtain ⟨-, d0, d1, d2⟩ := HS8.out.cells3 (i := 35) (by rw [show (spotsL ((0, 0, 0), true) zeroA).length = 36 from spots_one.1]; decide)
  simp only [Nat.reduceMul] at d0 d1 d2
  rw [show nthS (spotsL ((0, 0, 0), true) zeroA) 0 = (-1, 0, -1) from spots_one.2.1] at c0 c1 c2
  rw [show nthS (spotsL ((0, 0, 0), true) zeroA) 35 = (1, 3, 1) from spots_one.2.2.2] at d0 d1 d2
  go_wp2_with fail
  go_at_call 17
  refine (on_any _ (-65536) 0 (-65536)).mono ?_
  rintro e w9 ⟨rfl, hb⟩
  clear z0 z1 z2 z3 z4 z5 z6 z7
  clear y0 y1 y2 y3 y4 y5 y6 y7
  have hb' := HB8.out.trans (hb.mono HB8.out.size)
  have HB9 := Lib.hid hb'
  have HK9 := Lib.hid (HK8.out.below hb HK8.out.lt)
  have HN9 := Lib.hid (HN8.out.below hb HN8.out.lt)
  clear hb hb'
  obtain ⟨⟨z0, z1, z2, z3, z4, z5, z6, z7⟩, -⟩ := HK9.out.eight
  obtain ⟨⟨y0, y1, y2, y3, y4, y5, y6, y7⟩, -⟩ := HN9.out.eight
  clear hbl c0 c1 c2 d0 d1 d2
  go_wp2_with fail
  go_at_call 7
  refine (spots_n _ ((-65536, 0, -65536), true) zeroA 16 spots_edge (ok_lit _ _ _ _ (by decide)) (ok_lit _ _ _ _ (by decide))).mono ?_
  rintro e w10 ⟨⟨ra, rc, rfl, r1, r2, rS⟩, hb⟩
  clear z0 z1 z2 z3 z4 z5 z6 z7
  clear y0 y1 y2 y3 y4 y5 y6 y7
  have hb' := HB9.out.trans (hb.mono HB9.out.size)
  have HB10 := Lib.hid hb'
  have HK10 := Lib.hid (HK9.out.below hb HK9.out.lt)
  have HN10 := Lib.hid (HN9.out.below hb HN9.out.lt)
  clear hb hb'
  obtain ⟨⟨z0, z1, z2, z3, z4, z5, z6, z7⟩, -⟩ := HK10.out.eight
  obtain ⟨⟨y0, y1, y2, y3, y4, y5, y6, y7⟩, -⟩ := HN10.out.eight
  go_wp2_with fail
  go_at_call 17
  refine (on_any _ 0 0 0).mono ?_
  rintro e w11 ⟨rfl, hb⟩
  clear z0 z1 z2 z3 z4 z5 z6 z7
  clear y0 y1 y2 y3 y4 y5 y6 y7
  have hb' := HB10.out.trans (hb.mono HB10.out.size)
  have HB11 := Lib.hid hb'
  have HK11 := Lib.hid (HK10.out.below hb HK10.out.lt)
  have HN11 := Lib.hid (HN10.out.below hb HN10.out.lt)
  clear hb hb'
  obtain ⟨⟨z0, z1, z2, z3, z4, z5, z6, z7⟩, -⟩ := HK11.out.eight
  obtain ⟨⟨y0, y1, y2, y3, y4, y5, y6, y7⟩, -⟩ := HN11.out.eight
  go_wp2_with fail
  go_at_call 17
  refine (on_any _ 1 3 0).mono ?_
  rintro e w12 ⟨rfl, hb⟩
  clear z0 z1 z2 z3 z4 z5 z6 z7
  clear y0 y1 y2 y3 y4 y5 y6 y7
  have hb' := HB11.out.trans (hb.mono HB11.out.size)
  have HB12 := Lib.hid hb'
  have HK12 := Lib.hid (HK11.out.below hb HK11.out.lt)
  have HN12 := Lib.hid (HN11.out.below hb HN11.out.lt)
  clear hb hb'
  obtain ⟨⟨z0, z1, z2, z3, z4, z5, z6, z7⟩, -⟩ := HK12.out.eight
  obtain ⟨⟨y0, y1, y2, y3, y4, y5, y6, y7⟩, -⟩ := HN12.out.eight
  go_wp2_with fail
  go_at_call 7
  refine (spots_n _ ((0, 0, 0), true) ((1, 3, 0), true) 48 spots_both (ok_lit _ _ _ _ (by decide)) (ok_lit _ _ _ _ (by decide))).mono ?_
  rintro e w13 ⟨⟨ta, tc, rfl, t1, t2, tS⟩, hb⟩
  clear z0 z1 z2 z3 z4 z5 z6 z7
  clear y0 y1 y2 y3 y4 y5 y6 y7
  have hb' := HB12.out.trans (hb.mono HB12.out.size)
  have HB13 := Lib.hid hb'
  have HK13 := Lib.hid (HK12.out.below hb HK12.out.lt)
  have HN13 := Lib.hid (HN12.out.below hb HN12.out.lt)
  clear hb hb'
  obtain ⟨⟨z0, z1, z2, z3, z4, z5, z6, z7⟩, -⟩ := HK13.out.eight
  obtain ⟨⟨y0, y1, y2, y3, y4, y5, y6, y7⟩, -⟩ := HN13.out.eight
  go_wp2_with fail
  go_at_call 10
  refine (in_1 _).mono ?_
  rintro e w14 ⟨rfl, hb⟩
  clear z0 z1 z2 z3 z4 z5 z6 z7
  clear y0 y1 y2 y3 y4 y5 y6 y7
  have hb' := HB13.out.trans (hb.mono HB13.out.size)
  have HB14 := Lib.hid hb'
  have HK14 := Lib.hid (HK13.out.below hb HK13.out.lt)
  have HN14 := Lib.hid (HN13.out.below hb HN13.out.lt)
  clear hb hb'
  obtain ⟨⟨z0, z1, z2, z3, z4, z5, z6, z7⟩, -⟩ := HK14.out.eight
  obtain ⟨⟨y0, y1, y2, y3, y4, y5, y6, y7⟩, -⟩ := HN14.out.eight
  go_wp2_with fail
  go_at_call 10
  refine (in_2 _).mono ?_
  rintro e w15 ⟨rfl, hb⟩
  clear z0 z1 z2 z3 z4 z5 z6 z7
  clear y0 y1 y2 y3 y4 y5 y6 y7
  have hb' := HB14.out.trans (hb.mono HB14.out.size)
  have HB15 := Lib.hid hb'
  have HK15 := Lib.hid (HK14.out.below hb HK14.out.lt)
  have HN15 := Lib.hid (HN14.out.below hb HN14.out.lt)
  clear hb hb'
  obtain ⟨⟨z0, z1, z2, z3, z4, z5, z6, z7⟩, -⟩ := HK15.out.eight
  obtain ⟨⟨y0, y1, y2, y3, y4, y5, y6, y7⟩, -⟩ := HN15.out.eight
  go_wp2_with fail
  go_at_call 10
  refine (in_3 _).mono ?_
  rintro e w16 ⟨rfl, hb⟩
  clear z0 z1 z2 z3 z4 z5 z6 z7
  clear y0 y1 y2 y3 y4 y5 y6 y7
  have hb' := HB15.out.trans (hb.mono HB15.out.size)
  have HB16 := Lib.hid hb'
  have HK16 := Lib.hid (HK15.out.below hb HK15.out.lt)
  have HN16 := Lib.hid (HN15.out.below hb HN15.out.lt)
  clear hb hb'
  obtain ⟨⟨z0, z1, z2, z3, z4, z5, z6, z7⟩, -⟩ := HK16.out.eight
  obtain ⟨⟨y0, y1, y2, y3, y4, y5, y6, y7⟩, -⟩ := HN16.out.eight
  go_wp2
  go_ret
  exact ⟨rfl, HB16.out⟩
end Go.Proofs.Ytokmbnmhdicljaa
