/- heap.up and heap.down over a queue's rows: the walks. -/
import Derived.Test.YtlccplpniidjfaaQUp
namespace Go.Proofs.Ytlccplpniidjfaa
open Go.RowKit

theorem upL_fuel : ∀ (f : Nat) (l : List Tk) (j : Nat), j ≤ f → upL f l j = upL j l j
  | 0, l, j, h => by obtain rfl : j = 0 := by omega
                     rfl
  | f + 1, l, j, h => by
    cases j with
    | zero => unfold upL; simp
    | succ j =>
      unfold upL
      split
      · rfl
      · rw [upL_fuel f _ _ (by omega), upL_fuel j _ _ (by omega)]
theorem upL_stop {l : List Tk} {j : Nat} (h : (j - 1) / 2 = j ∨ lessT (nth l j) (nth l ((j - 1) / 2)) = false) : upL j l j = l := by
  cases j with
  | zero => rfl
  | succ j => unfold upL; rw [if_pos h]
theorem upL_go {l : List Tk} {j : Nat} (h0 : 0 < j) (h : lessT (nth l j) (nth l ((j - 1) / 2)) = true) : upL j l j = upL ((j - 1) / 2) (swapL l ((j - 1) / 2) j) ((j - 1) / 2) := by
  cases j with
  | zero => omega
  | succ j =>
    rw [upL, if_neg (by rw [h]; simp; omega), upL_fuel _ _ _ (by omega)]

set_option maxRecDepth 100000 in
set_option maxHeartbeats 1000000 in
theorem up_any {w : World} {base g : Nat} {l : List Tk} {r : Option Nat} (h : QS w base g l r) (j : Nat) (hj : j < l.length) :
    Calls Try.prog 44 #[.iface 63 (.pointer (some ⟨g, 0, none⟩)), .int .i64 j] w fun e w' => e = .returned (.tuple #[]) ∧ QS w' base g (upL j l j) r ∧ Only w w' (QF g r) := by
  have hsm := h.apt.small
  have HQ := Lib.hid h
  clear h
  go_enter Try.func44, Try.ntmps44
  go_wp2
  go_loopw [1] (fun i wr => ∃ (k : Nat) (m : List Tk), k < m.length ∧ m.length = l.length ∧ i = .int .i64 k ∧ QS wr base g m r ∧ upL k m k = upL j l j ∧ Only w wr (QF g r)) (fun i _ => (intOf i).toNat)
  case atStart => exact ⟨j, l, hj, rfl, rfl, HQ.out, rfl, Only.refl _ _⟩
  case round =>
    obtain ⟨k, m, hk, hml, rfl, hq, hup, hon⟩ := hrel
    have HUP := Lib.hid hup
    have HQ2 := Lib.hid hq
    have hm4 : m.length ≤ 4096 := by omega
    have HML := Lib.hid hml
    clear hup hq hml
    by_cases h0 : k = 0
    · subst h0
      go_wp2
      go_end0
      exact ⟨rfl, by rw [← HUP.out]; exact HQ2.out, hon⟩
    · have h1 : 1 ≤ k := by omega
      have e1 : ((k : Int) - 1) / 2 = (((k - 1) / 2 : Nat) : Int) := by omega
      have e2 : ((((k - 1) / 2 : Nat) : Int) == (k : Int)) = false := by rw [beq_eq_false_iff_ne]; omega
      obtain ⟨ao, c, hc, hless⟩ := less_q HQ2.out k ((k - 1) / 2) hk (by omega)
      have ml := run_less hc
      have HL := Lib.hid hless
      clear hless hc h0
      cases hb : lessT (nth m k) (nth m ((k - 1) / 2)) with
      | true =>
        rw [hb] at HL
        have HG := Lib.hid (upL_go (l := m) (j := k) (by omega) hb)
        clear hb
        have ms := m_swap ⟨g, 0, none⟩
        go_wp2_with (first | (go_at_call 80; refine HL.out.mono ?_; rintro e w1 ⟨rfl, n1, rfl⟩) | (go_at_call 83; refine (swap_any (HQ2.out.drewN n1) ((k - 1) / 2) k (by omega) hk).mono ?_; rintro e w2 ⟨rfl, hq2, ho2⟩))
        go_roundw
        case rel =>
          refine ⟨(k - 1) / 2, swapL m ((k - 1) / 2) k, by rw [swapL_length]; omega, by rw [swapL_length, HML.out], rfl, hq2, by rw [← HG.out]; exact HUP.out, (hon.drewN n1).trans' ho2⟩
        case measure => simp [intOf]; omega
      | false =>
        rw [hb] at HL
        have HG := Lib.hid (upL_stop (l := m) (j := k) (.inr hb))
        clear hb
        go_wp2_with (go_at_call 80; refine HL.out.mono ?_; rintro e w1 ⟨rfl, n1, rfl⟩)
        go_end0
        exact ⟨rfl, by rw [← HUP.out, HG.out]; exact HQ2.out.drewN n1, hon.drewN n1⟩
end Go.Proofs.Ytlccplpniidjfaa
