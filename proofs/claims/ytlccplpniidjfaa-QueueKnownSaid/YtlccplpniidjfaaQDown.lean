/- heap.down over a queue's rows: the walk. -/
import Derived.Test.YtlccplpniidjfaaQHeap
namespace Go.Proofs.Ytlccplpniidjfaa
open Go.RowKit

theorem downL_fuel : ∀ (f f' : Nat) (l : List Tk) (i n : Nat), n ≤ i + f → n ≤ i + f' → downL f l i n = downL f' l i n
  | 0, 0, _, _, _, _, _ => rfl
  | 0, f' + 1, l, i, n, h, _ => by unfold downL; rw [if_pos (by omega)]
  | f + 1, 0, l, i, n, _, h => by unfold downL; rw [if_pos (by omega)]
  | f + 1, f' + 1, l, i, n, h, h' => by
    have h2 := childL_two l i n
    unfold downL
    split
    · rfl
    · rw [downL_fuel f f' _ _ n (by omega) (by omega)]
theorem downL_stop {l : List Tk} {i n : Nat} (h : n ≤ 2 * i + 1 ∨ lessT (nth l (childL l i n)) (nth l i) = false) : downL n l i n = (l, i) := by
  cases n with
  | zero => rfl
  | succ n => unfold downL; rw [if_pos h]
theorem downL_go {l : List Tk} {i n : Nat} (h0 : 2 * i + 1 < n) (h : lessT (nth l (childL l i n)) (nth l i) = true) : downL n l i n = downL n (swapL l i (childL l i n)) (childL l i n) n := by
  have h2 := childL_two l i n
  cases n with
  | zero => omega
  | succ n =>
    conv => lhs; rw [downL]
    rw [if_neg (by rw [h]; simp; omega)]
    exact downL_fuel _ _ _ _ _ (by omega) (by omega)

theorem less_all {w : World} {base g : Nat} {l : List Tk} {r : Option Nat} (h : QS w base g l r) :
    ∃ ao c, w.cell? ⟨g, 0, none⟩ = some (.slice ao l.length c) ∧ (∀ q, (w.drewN q).cell? ⟨g, 0, none⟩ = some (.slice ao l.length c)) ∧
      (∀ (i k : Nat), i < l.length → k < l.length → Calls Try.prog 80 #[.slice ao l.length c, .int .i64 i, .int .i64 k] w fun e w' => e = .returned (.bool (lessT (nth l i) (nth l k))) ∧ ∃ m, w' = w.drewN m) ∧
      ∀ (q i k : Nat), i < l.length → k < l.length → Calls Try.prog 80 #[.slice ao l.length c, .int .i64 i, .int .i64 k] (w.drewN q) fun e w' => e = .returned (.bool (lessT (nth l i) (nth l k))) ∧ ∃ m, w' = w.drewN m := by
  obtain ⟨v, f, hb, ho, hr, hbg, hf, ha⟩ := h
  have hv : ∃ ao c, v = .slice ao l.length c := by
    rcases ho.2 with ⟨hv, h0⟩ | ⟨g, cap, cur, hv, _⟩
    · exact ⟨none, 0, by rw [hv, h0]⟩
    · exact ⟨_, _, hv⟩
  obtain ⟨ao, c, rfl⟩ := hv
  refine ⟨ao, c, hb.cell, fun q => hb.cell, fun i k hi hk => less_any ho i k hi hk, fun q i k hi hk => ?_⟩
  refine (less_any (w := w.drewN q) ho i k hi hk).mono fun e w' ⟨h1, m, h2⟩ => ⟨h1, q + m, ?_⟩
  rw [h2, World.drewN_drewN]

set_option maxRecDepth 100000 in
set_option maxHeartbeats 2000000 in
theorem down_any {w : World} {base g : Nat} {l : List Tk} {r : Option Nat} (h : QS w base g l r) (i n : Nat) (hi : i < l.length) (hn : n ≤ l.length) :
    Calls Try.prog 43 #[.iface 63 (.pointer (some ⟨g, 0, none⟩)), .int .i64 i, .int .i64 n] w fun e w' =>
      e = .returned (.bool (decide (i < (downL n l i n).2))) ∧ QS w' base g (downL n l i n).1 r ∧ Only w w' (QF g r) := by
  have hsm := h.apt.small
  have HQ := Lib.hid h
  clear h
  go_enter Try.func43, Try.ntmps43
  go_wp2
  go_loopw [7] (fun s wr => ∃ (k : Nat) (m : List Tk), k < m.length ∧ m.length = l.length ∧ s = .int .i64 k ∧ QS wr base g m r ∧ downL n m k n = downL n l i n ∧ Only w wr (QF g r)) (fun s _ => l.length - (intOf s).toNat)
  case atStart => exact ⟨i, l, hi, rfl, rfl, HQ.out, rfl, Only.refl _ _⟩
  case round =>
    obtain ⟨k, m, hk, hml, rfl, hq, hup, hon⟩ := hrel
    have HUP := Lib.hid hup
    have HQ2 := Lib.hid hq
    have hm4 : m.length ≤ 4096 := by omega
    have hn4 : n ≤ m.length := by omega
    have HML := Lib.hid hml
    have hkl : k < l.length := by omega
    clear hup hq hml
    by_cases hlt : 2 * k + 1 < n
    · -- the child
      have ms := m_swap ⟨g, 0, none⟩
      obtain ⟨j1, hj1⟩ : ∃ j1 : Nat, j1 = 2 * k + 1 := ⟨_, rfl⟩
      have e0 : 2 * (k : Int) + 1 = (j1 : Int) := by omega
      have g1 : decide ((n : Int) ≤ (j1 : Int)) = false := by simp; omega
      have g1' : j1 < n := by omega
      have hj14 : j1 ≤ 4096 := by omega
      have q1 : j1 < m.length := by omega
      obtain ⟨ao, c, hc0, hc, hless0, hless⟩ := less_all HQ2.out
      have ml := run_less hc0
      have ml2 := fun q => run_less (hc q)
      have HL := Lib.hid hless
      have HL0 := Lib.hid hless0
      clear hless hless0 hc hc0
      by_cases h2 : 2 * k + 2 < n
      · obtain ⟨j2, hj2⟩ : ∃ j2 : Nat, j2 = 2 * k + 2 := ⟨_, rfl⟩
        have e1 : (j1 : Int) + 1 = (j2 : Int) := by omega
        have g2 : decide ((j2 : Int) < (n : Int)) = true := by simp; omega
        have b2' : (j2 : Int) ≤ 4096 := by omega
        have q2 : j2 < m.length := by omega
        cases hb1' : lessT (nth m j2) (nth m j1) with
        | true =>
          have hb1 := Lib.hid hb1'
          have HC := Lib.hid (show childL m k n = j2 by unfold childL; rw [← hj2, ← hj1, if_pos ⟨by omega, hb1'⟩])
          have b2 : j2 < n ∧ k < j2 := by omega
          have b3 : k ≤ j2 := by omega
          clear hb1' hj1 hj2 h2
          cases hb' : lessT (nth m j2) (nth m k) with
          | true =>
            have hb := Lib.hid hb'
            clear hb'
            have HG := Lib.hid (downL_go (l := m) (i := k) (n := n) (by omega) (by rw [HC.out]; exact hb.out))
            go_wp2_with (first | (go_at_call 80; (with_reducible refine (HL0.out j2 j1 q2 q1).mono ?_); rintro e w1 ⟨he1, n1, rfl⟩; rw [hb1.out] at he1; subst he1) | (go_at_call 80; (with_reducible refine (HL.out n1 j2 k q2 hk).mono ?_); rintro e w2 ⟨he2, n2, rfl⟩; rw [hb.out] at he2; subst he2) | (go_at_call 83; (with_reducible refine (swap_any (HQ2.out.drewN n2) k j2 b3 q2).mono ?_); rintro e w3 ⟨rfl, hq3, ho3⟩))
            go_roundw
            case rel =>
              refine ⟨j2, swapL m k j2, by rw [swapL_length]; omega, by rw [swapL_length, HML.out], rfl, hq3, ?_, (hon.drewN n2).trans' ho3⟩
              rw [← HUP.out, HG.out, HC.out]
            case measure => simp [intOf]; omega
          | false =>
            have hb := Lib.hid hb'
            clear hb'
            have HG := Lib.hid (downL_stop (l := m) (i := k) (n := n) (.inr (by rw [HC.out]; exact hb.out)))
            go_wp2_with (first | (go_at_call 80; (with_reducible refine (HL0.out j2 j1 q2 q1).mono ?_); rintro e w1 ⟨he1, n1, rfl⟩; rw [hb1.out] at he1; subst he1) | (go_at_call 80; (with_reducible refine (HL.out n1 j2 k q2 hk).mono ?_); rintro e w2 ⟨he2, n2, rfl⟩; rw [hb.out] at he2; subst he2))
            go_ret
            have : (downL n l i n) = (m, k) := by rw [← HUP.out]; exact HG.out
            rw [this]
            exact ⟨by simp, HQ2.out.drewN n2, hon.drewN n2⟩
        | false =>
          have hb1 := Lib.hid hb1'
          have HC := Lib.hid (show childL m k n = j1 by unfold childL; rw [← hj2, ← hj1, if_neg (fun h => by rw [hb1'] at h; simp at h)])
          have b2 : j2 < n ∧ k < j1 := by omega
          have b3 : k ≤ j1 := by omega
          clear hb1' hj1 hj2 h2
          cases hb' : lessT (nth m j1) (nth m k) with
          | true =>
            have hb := Lib.hid hb'
            clear hb'
            have HG := Lib.hid (downL_go (l := m) (i := k) (n := n) (by omega) (by rw [HC.out]; exact hb.out))
            go_wp2_with (first | (go_at_call 80; (with_reducible refine (HL0.out j2 j1 q2 q1).mono ?_); rintro e w1 ⟨he1, n1, rfl⟩; rw [hb1.out] at he1; subst he1) | (go_at_call 80; (with_reducible refine (HL.out n1 j1 k q1 hk).mono ?_); rintro e w2 ⟨he2, n2, rfl⟩; rw [hb.out] at he2; subst he2) | (go_at_call 83; (with_reducible refine (swap_any (HQ2.out.drewN n2) k j1 b3 q1).mono ?_); rintro e w3 ⟨rfl, hq3, ho3⟩))
            go_roundw
            case rel =>
              refine ⟨j1, swapL m k j1, by rw [swapL_length]; omega, by rw [swapL_length, HML.out], rfl, hq3, ?_, (hon.drewN n2).trans' ho3⟩
              rw [← HUP.out, HG.out, HC.out]
            case measure => simp [intOf]; omega
          | false =>
            have hb := Lib.hid hb'
            clear hb'
            have HG := Lib.hid (downL_stop (l := m) (i := k) (n := n) (.inr (by rw [HC.out]; exact hb.out)))
            go_wp2_with (first | (go_at_call 80; (with_reducible refine (HL0.out j2 j1 q2 q1).mono ?_); rintro e w1 ⟨he1, n1, rfl⟩; rw [hb1.out] at he1; subst he1) | (go_at_call 80; (with_reducible refine (HL.out n1 j1 k q1 hk).mono ?_); rintro e w2 ⟨he2, n2, rfl⟩; rw [hb.out] at he2; subst he2))
            go_ret
            have : (downL n l i n) = (m, k) := by rw [← HUP.out]; exact HG.out
            rw [this]
            exact ⟨by simp, HQ2.out.drewN n2, hon.drewN n2⟩
      · have g2 : decide ((j1 : Int) + 1 < (n : Int)) = false := by simp; omega
        have HC := Lib.hid (show childL m k n = j1 by unfold childL; rw [← hj1, if_neg (fun h => by omega)])
        have b2 : k < j1 := by omega
        have b3 : k ≤ j1 := by omega
        clear hj1 h2
        cases hb' : lessT (nth m j1) (nth m k) with
        | true =>
          have hb := Lib.hid hb'
          clear hb'
          have HG := Lib.hid (downL_go (l := m) (i := k) (n := n) (by omega) (by rw [HC.out]; exact hb.out))
          go_wp2_with (first | (go_at_call 80; (with_reducible refine (HL0.out j1 k q1 hk).mono ?_); rintro e w2 ⟨he2, n2, rfl⟩; rw [hb.out] at he2; subst he2) | (go_at_call 83; (with_reducible refine (swap_any (HQ2.out.drewN n2) k j1 b3 q1).mono ?_); rintro e w3 ⟨rfl, hq3, ho3⟩))
          go_roundw
          case rel =>
            refine ⟨j1, swapL m k j1, by rw [swapL_length]; omega, by rw [swapL_length, HML.out], rfl, hq3, ?_, (hon.drewN n2).trans' ho3⟩
            rw [← HUP.out, HG.out, HC.out]
          case measure => simp [intOf]; omega
        | false =>
          have hb := Lib.hid hb'
          clear hb'
          have HG := Lib.hid (downL_stop (l := m) (i := k) (n := n) (.inr (by rw [HC.out]; exact hb.out)))
          go_wp2_with (first | (go_at_call 80; (with_reducible refine (HL0.out j1 k q1 hk).mono ?_); rintro e w2 ⟨he2, n2, rfl⟩; rw [hb.out] at he2; subst he2))
          go_ret
          have : (downL n l i n) = (m, k) := by rw [← HUP.out]; exact HG.out
          rw [this]
          exact ⟨by simp, HQ2.out.drewN n2, hon.drewN n2⟩
    · have g1 : decide ((n : Int) ≤ 2 * (k : Int) + 1) = true := by simp; omega
      have HG := Lib.hid (downL_stop (l := m) (i := k) (n := n) (.inl (by omega)))
      go_wp2
      go_ret
      have : (downL n l i n) = (m, k) := by rw [← HUP.out]; exact HG.out
      rw [this]
      refine ⟨by simp, HQ2.out, hon⟩
end Go.Proofs.Ytlccplpniidjfaa
