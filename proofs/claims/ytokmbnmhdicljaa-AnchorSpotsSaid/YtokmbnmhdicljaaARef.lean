/- The document's places; anchors put and lifted: the walks. -/
import Derived.Test.YtokmbnmhdicljaaASpots
import Derived.Test.YtokmbnmhdicljaaAFind
namespace Go.Proofs.Ytokmbnmhdicljaa
open Go.RowKit

def wi (n a b : Int) : Bool := decide (a ≤ n) && decide (n < b)
set_option maxRecDepth 100000 in
theorem within_any (w : World) (n a b : Int) : Calls Try.prog 32 #[.int .i64 n, .int .i64 a, .int .i64 b] w fun e w' => e = .returned (.bool (wi n a b)) ∧ w = w' := by
  go_enter Try.func32, Try.ntmps32
  go_wp2
  all_goals
    go_ret
    exact ⟨ret_bool (by rw [Bool.eq_iff_iff]; simp [wi]; try omega), rfl⟩
set_option maxRecDepth 100000 in
set_option maxHeartbeats 1000000 in
theorem qMaySpot_any (w : World) (s : Sp) :
    Calls Try.prog 24 #[spV s] w fun e w' => e = .returned (.bool (maySpot s)) ∧ Below w.heap.size w w' := by
  have HB := Lib.hid (show Below w.heap.size w (w.alloc (.cells #[.int .i64 s.1, .int .i64 s.2.1, .int .i64 s.2.2] 23)) from (Below.refl _ _).alloc (Nat.le_refl _) _)
  have hm : maySpot s = (wi s.1 (-65536) 65536 && (wi s.2.2 (-65536) 65536 && wi s.2.1 0 4)) := by rw [Bool.eq_iff_iff]; simp [maySpot, wi]; omega
  have HM := Lib.hid hm
  clear hm
  go_enter Try.func24, Try.ntmps24
  cases h1 : wi s.1 (-65536) 65536 <;> cases h2 : wi s.2.2 (-65536) 65536 <;> cases h3 : wi s.2.1 0 4
  all_goals
    go_wp2_with (go_at_call 32; (with_reducible refine (within_any _ _ _ _).mono ?_); rintro e w' ⟨rfl, rfl⟩)
    go_ret
    exact ⟨ret_bool (by rw [HM.out]; simp [h1, h2, h3]), HB.out⟩
set_option maxRecDepth 100000 in
set_option maxHeartbeats 1000000 in
theorem qMayP_any (w : World) (s : Sp) :
    Calls Try.prog 33 #[spV s] w fun e w' => e = .returned (.bool (mayP s)) ∧ Below w.heap.size w w' := by
  have HB := Lib.hid (show Below w.heap.size w (w.alloc (.cells #[.int .i64 s.1, .int .i64 s.2.1, .int .i64 s.2.2] 32)) from (Below.refl _ _).alloc (Nat.le_refl _) _)
  have hm : mayP s = (wi s.1 (-1048576) 1048576 && (wi s.2.2 (-1048576) 1048576 && wi s.2.1 0 64)) := by rw [Bool.eq_iff_iff]; simp [mayP, wi]; omega
  have HM := Lib.hid hm
  clear hm
  go_enter Try.func33, Try.ntmps33
  cases h1 : wi s.1 (-1048576) 1048576 <;> cases h2 : wi s.2.2 (-1048576) 1048576 <;> cases h3 : wi s.2.1 0 64
  all_goals
    go_wp2_with (go_at_call 32; (with_reducible refine (within_any _ _ _ _).mono ?_); rintro e w' ⟨rfl, rfl⟩)
    go_ret
    exact ⟨ret_bool (by rw [HM.out]; simp [h1, h2, h3]), HB.out⟩
set_option maxRecDepth 100000 in
theorem order_any (w : World) (a b : Int) : Calls Try.prog 47 #[.int .i64 a, .int .i64 b] w fun e w' => e = .returned (.int .i64 (cmp1 a b)) ∧ w = w' := by
  go_enter Try.func47, Try.ntmps47
  go_wp2
  all_goals
    go_ret
    exact ⟨ret_int (by unfold cmp1; (repeat' split) <;> omega), rfl⟩
set_option maxRecDepth 100000 in
set_option maxHeartbeats 1000000 in
theorem qCmp_any (w : World) (a b : Sp) : Calls Try.prog 31 #[spV a, spV b] w fun e w' => e = .returned (.int .i64 (cmpS a b)) ∧ Below w.heap.size w w' := by
  have HB := Lib.hid ((show Below w.heap.size w (w.alloc (.cells #[.int .i64 a.1, .int .i64 a.2.1, .int .i64 a.2.2] 32)) from (Below.refl _ _).alloc (Nat.le_refl _) _).alloc (by simp) (.cells #[.int .i64 b.1, .int .i64 b.2.1, .int .i64 b.2.2] 32))
  go_enter Try.func31, Try.ntmps31
  by_cases h1 : a.1 = b.1
  · have g1 : (a.1 != b.1) = false := by simpa using h1
    have H1 := Lib.hid h1
    clear h1
    by_cases h2 : a.2.2 = b.2.2
    · have g2 : (a.2.2 != b.2.2) = false := by simpa using h2
      have H2 := Lib.hid h2
      clear h2
      go_wp2_with (go_at_call 47; (with_reducible refine (order_any _ _ _).mono ?_); rintro e w' ⟨rfl, rfl⟩)
      go_ret
      exact ⟨ret_int (by rw [cmpS, if_pos H1.out, if_pos H2.out]), HB.out⟩
    · have g2 : (a.2.2 != b.2.2) = true := by simpa using h2
      have H2 := Lib.hid h2
      clear h2
      go_wp2_with (go_at_call 47; (with_reducible refine (order_any _ _ _).mono ?_); rintro e w' ⟨rfl, rfl⟩)
      go_ret
      exact ⟨ret_int (by rw [cmpS, if_pos H1.out, if_neg H2.out]), HB.out⟩
  · have g1 : (a.1 != b.1) = true := by simpa using h1
    have H1 := Lib.hid h1
    clear h1
    go_wp2_with (go_at_call 47; (with_reducible refine (order_any _ _ _).mono ?_); rintro e w' ⟨rfl, rfl⟩)
    go_ret
    exact ⟨ret_int (by rw [cmpS, if_neg H1.out]), HB.out⟩
set_option maxRecDepth 100000 in
set_option maxHeartbeats 1000000 in
theorem qCmpSpot_any (w : World) (a b : Sp) : Calls Try.prog 22 #[spV a, spV b] w fun e w' => e = .returned (.int .i64 (cmpS a b)) ∧ Below w.heap.size w w' := by
  have hb := ((show Below w.heap.size w (w.alloc (.cells #[.int .i64 a.1, .int .i64 a.2.1, .int .i64 a.2.2] 23)) from (Below.refl _ _).alloc (Nat.le_refl _) _).alloc (by simp) (.cells #[.int .i64 b.1, .int .i64 b.2.1, .int .i64 b.2.2] 23))
  have HB := Lib.hid hb
  have HC := Lib.hid (qCmp_any ((w.alloc (.cells #[.int .i64 a.1, .int .i64 a.2.1, .int .i64 a.2.2] 23)).alloc (.cells #[.int .i64 b.1, .int .i64 b.2.1, .int .i64 b.2.2] 23)) a b)
  clear hb
  go_enter Try.func22, Try.ntmps22
  go_wp2_with fail
  go_at_call 31
  refine HC.out.mono ?_
  rintro e w1 ⟨rfl, hb1⟩
  have HB1 := Lib.hid (HB.out.trans (hb1.mono HB.out.size))
  clear hb1
  go_wp2
  go_ret
  exact ⟨rfl, HB1.out⟩
set_option maxRecDepth 100000 in
theorem down_any (w : World) (n : Int) (h1 : -1048576 ≤ n) (h2 : n < 1048576) : Calls Try.prog 34 #[.int .i64 n] w fun e w' => e = .returned (.tuple #[.int .i64 (n / 16), .int .i64 (n % 16)]) ∧ w = w' := by
  go_enter Try.func34, Try.ntmps34
  by_cases h0 : 0 ≤ n
  · have g0 : decide (n % 16 < 0) = false := by simp; omega
    go_wp2
    go_ret2
    exact ⟨rfl, rfl⟩
  · obtain ⟨m, hm⟩ : ∃ m : Int, n = -m := ⟨-n, by omega⟩
    subst hm
    have e1 : (-m).tdiv 16 = -(m / 16) := by rw [Int.neg_tdiv, Int.tdiv_eq_ediv_of_nonneg (by omega)]
    have e2 : (-m).tmod 16 = -(m % 16) := by rw [Int.neg_tmod, Int.tmod_eq_emod_of_nonneg (by omega)]
    have b1 : 0 ≤ m / 16 := by omega
    have b2 : m / 16 ≤ 65536 := by omega
    have b3 : 0 ≤ m % 16 := by omega
    have b4 : m % 16 < 16 := by omega
    by_cases h3 : m % 16 = 0
    · have g0 : m % 16 ≤ 0 := by omega
      have H := Lib.hid (show -(m / 16) = (-m) / 16 ∧ -(m % 16) = (-m) % 16 by omega)
      clear h3
      go_wp2
      go_ret2
      exact ⟨by rw [← H.out.1, ← H.out.2]; rfl, rfl⟩
    · have g0 : 0 < m % 16 := by omega
      have H := Lib.hid (show -(m / 16) - 1 = (-m) / 16 ∧ -(m % 16) + 16 = (-m) % 16 by omega)
      clear h3
      go_wp2
      go_ret2
      exact ⟨by rw [← H.out.1, ← H.out.2]; rfl, rfl⟩
set_option maxRecDepth 100000 in
set_option maxHeartbeats 1000000 in
theorem qSpot_any (w : World) (s : Sp) :
    Calls Try.prog 26 #[spV s] w fun e w' => e = .returned (.tuple #[spV (spotOf s).1, .bool (spotOf s).2]) ∧ Below w.heap.size w w' := by
  have hb := (show Below w.heap.size w (w.alloc (.cells #[.int .i64 s.1, .int .i64 s.2.1, .int .i64 s.2.2] 32)) from (Below.refl _ _).alloc (Nat.le_refl _) _).alloc (by simp) (.cells #[.int .i64 0, .int .i64 0, .int .i64 0] 23)
  have hsz : (w.alloc (.cells #[.int .i64 s.1, .int .i64 s.2.1, .int .i64 s.2.2] 32)).heap.size = w.heap.size + 1 := by simp
  have HB := Lib.hid hb
  have HK0 := Lib.hid ((Blk.new w 32 #[.int .i64 s.1, .int .i64 s.2.1, .int .i64 s.2.2]).alloc (.cells #[.int .i64 0, .int .i64 0, .int .i64 0] 23))
  have HK1 := Lib.hid (show Blk _ (w.heap.size + 1) _ _ from hsz ▸ Blk.new (w.alloc (.cells #[.int .i64 s.1, .int .i64 s.2.1, .int .i64 s.2.2] 32)) 23 #[.int .i64 0, .int .i64 0, .int .i64 0])
  have HM := Lib.hid (qMayP_any ((w.alloc (.cells #[.int .i64 s.1, .int .i64 s.2.1, .int .i64 s.2.2] 32)).alloc (.cells #[.int .i64 0, .int .i64 0, .int .i64 0] 23)) s)
  clear hb hsz
  go_enter Try.func26, Try.ntmps26
  cases hm : mayP s with
  | true =>
    rw [hm] at HM
    have HS := Lib.hid (show spotOf s = ((s.1 / 16, s.2.1 / 16, s.2.2 / 16), true) by simp [spotOf, hm])
    have hbd : -1048576 ≤ s.1 ∧ s.1 < 1048576 ∧ -1048576 ≤ s.2.2 ∧ s.2.2 < 1048576 ∧ 0 ≤ s.2.1 ∧ s.2.1 < 64 := by simpa [mayP] using hm
    obtain ⟨b1, b2, b3, b4, b5, b6⟩ := hbd
    clear hm
    go_wp2_with fail
    go_at_call 33
    refine HM.out.mono ?_
    rintro e w1 ⟨rfl, hb1⟩
    have hk1 := HK1.out.below hb1 HK1.out.lt
    obtain ⟨c0, c1, c2, -, -, -⟩ := (HK0.out.below hb1 HK0.out.lt).three
    obtain ⟨d0, d1, d2, f0, f1, f2⟩ := hk1.three
    have HB1 := Lib.hid (HB.out.trans (hb1.mono HB.out.size))
    have KB := Lib.hid hk1
    clear hb1 hk1
    go_wp2_with (go_at_call 34; (with_reducible refine (down_any _ _ (by omega) (by omega)).mono ?_); rintro e w' ⟨rfl, rfl⟩)
    obtain ⟨q0, q1, q2, -⟩ := (KB.out.reset3 (.int .i64 (s.1 / 16)) (.int .i64 (s.2.1 / 16)) (.int .i64 (s.2.2 / 16))).three
    exact bodyPost_ret (v := .tuple #[spV (s.1 / 16, s.2.1 / 16, s.2.2 / 16), .bool true]) (by simp [results, Try.results26, go_sem, q0, q1, q2]) rfl
      ⟨by rw [HS.out], below_set3 HB1.out (Nat.le_succ _) _ _ _⟩
  | false =>
    rw [hm] at HM
    have HS := Lib.hid (show spotOf s = ((0, 0, 0), false) by simp [spotOf, hm])
    clear hm
    go_wp2_with fail
    go_at_call 33
    refine HM.out.mono ?_
    rintro e w1 ⟨rfl, hb1⟩
    have hk1 := HK1.out.below hb1 HK1.out.lt
    obtain ⟨d0, d1, d2, f0, f1, f2⟩ := hk1.three
    have HB1 := Lib.hid (HB.out.trans (hb1.mono HB.out.size))
    have KB := Lib.hid hk1
    clear hb1 hk1
    go_wp2
    obtain ⟨q0, q1, q2, -⟩ := (KB.out.reset3 (.int .i64 0) (.int .i64 0) (.int .i64 0)).three
    exact bodyPost_ret (v := .tuple #[spV (0, 0, 0), .bool false]) (by simp [results, Try.results26, go_sem, q0, q1, q2]) rfl
      ⟨by rw [HS.out], below_set3 HB1.out (Nat.le_succ _) _ _ _⟩
end Go.Proofs.Ytokmbnmhdicljaa
