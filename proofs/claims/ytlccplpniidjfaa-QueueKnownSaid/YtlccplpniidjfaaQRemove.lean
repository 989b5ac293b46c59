/- heap.Remove over a queue's rows: the walk. -/
import Derived.Test.YtlccplpniidjfaaQHeap3
namespace Go.Proofs.Ytlccplpniidjfaa
open Go.RowKit

theorem mendL_length {l : List Tk} {i n : Nat} (hn : n ≤ l.length) (hi : i < l.length) : (mendL l i n).length = l.length := by
  unfold mendL
  split
  · exact downL_length _ _ _ _ hn hi
  · rw [upL_length _ _ _ (by rw [downL_length _ _ _ _ hn hi]; exact hi), downL_length _ _ _ _ hn hi]

set_option maxRecDepth 100000 in
set_option maxHeartbeats 1000000 in
theorem hremove_last {w : World} {base g : Nat} {l : List Tk} {r : Option Nat} (h : QS w base g l r) (i : Nat) (hi : l.length = i + 1) :
    Calls Try.prog 42 #[.iface 63 (.pointer (some ⟨g, 0, none⟩)), .int .i64 i] w fun e w' =>
      (∃ v, e = .returned v) ∧ QS w' base g (removeL l i) r ∧ Only w w' (QF g r) := by
  have hsm := h.apt.small
  have hr : removeL l i = l.take i := by unfold removeL; rw [hi]; simp
  rw [hr]
  obtain ⟨ao, c, hc⟩ := cell_q h
  have ml := run_len hc
  have mp := m_pop ⟨g, 0, none⟩
  rw [hi] at ml
  rw [split_last hi] at h
  have HP := Lib.hid (rpop_q h)
  have hi' : i < 4096 := by omega
  clear h hc hi hr hsm
  go_enter Try.func42, Try.ntmps42
  go_wp2_with (first | (go_at_call 29; (with_reducible refine (len_any _ _ _ _).mono ?_); rintro e w' ⟨rfl, rfl⟩) | (go_at_call 81; (with_reducible refine HP.out.mono ?_); rintro e w3 ⟨rfl, hq3, ho3⟩))
  go_ret
  exact ⟨⟨_, rfl⟩, hq3, ho3⟩

set_option maxRecDepth 100000 in
set_option maxHeartbeats 1000000 in
theorem hremove_in {w : World} {base g : Nat} {l : List Tk} {r : Option Nat} (h : QS w base g l r) (i n : Nat) (hn : l.length = n + 1) (hi : i < n) :
    Calls Try.prog 42 #[.iface 63 (.pointer (some ⟨g, 0, none⟩)), .int .i64 i] w fun e w' =>
      (∃ v, e = .returned v) ∧ QS w' base g (removeL l i) r ∧ Only w w' (QF g r) := by
  have hsm := h.apt.small
  have hr : removeL l i = (mendL (swapL l i n) i n).take n := by unfold removeL; rw [hn, Nat.add_sub_cancel, if_neg (by omega)]
  rw [hr]
  obtain ⟨ao, c, hc⟩ := cell_q h
  have ml := run_len hc
  have mp := m_pop ⟨g, 0, none⟩
  have ms := m_swap ⟨g, 0, none⟩
  rw [hn] at ml
  have hs : (swapL l i n).length = n + 1 := by rw [swapL_length, hn]
  have HSW := Lib.hid (swap_any h i n (by omega) (by omega))
  have HS := Lib.hid hs
  have hdl : (downL n (swapL l i n) i n).1.length = n + 1 := by rw [downL_length _ _ _ _ (by omega) (by omega), hs]
  have HDL := Lib.hid hdl
  have hml : (mendL (swapL l i n) i n).length = n + 1 := by rw [mendL_length (by omega) (by omega), hs]
  have HSPLIT := Lib.hid (split_last hml)
  have hn' : n < 4096 := by omega
  have g0 : ((n : Int) != (i : Int)) = true := by simp; omega
  clear hml hdl hs h hc hr hsm hn
  unfold mendL at HSPLIT ⊢
  by_cases hm : i < (downL n (swapL l i n) i n).2
  · rw [if_pos hm] at HSPLIT ⊢
    have hm' : decide (i < (downL n (swapL l i n) i n).2) = true := by simpa using hm
    have HM := Lib.hid hm'
    clear hm hm'
    go_enter Try.func42, Try.ntmps42
    go_wp2_with (first | (go_at_call 29; (with_reducible refine (len_any _ _ _ _).mono ?_); rintro e w' ⟨rfl, rfl⟩) | (go_at_call 83; (with_reducible refine HSW.out.mono ?_); rintro e w1 ⟨rfl, hq1, ho1⟩))
    go_at_call 43
    refine (down_any hq1 i n (by rw [HS.out]; omega) (by rw [HS.out]; omega)).mono ?_
    rintro e w2 ⟨rfl, hq2, ho2⟩
    rw [HM.out]
    rw [HSPLIT.out] at hq2
    have HP := Lib.hid (rpop_q hq2)
    clear hq1 hq2
    go_wp2_with (go_at_call 81; (with_reducible refine HP.out.mono ?_); rintro e w3 ⟨rfl, hq3, ho3⟩)
    go_ret
    exact ⟨⟨_, rfl⟩, hq3, (ho1.trans' ho2).trans' ho3⟩
  · rw [if_neg hm] at HSPLIT ⊢
    have hm' : decide (i < (downL n (swapL l i n) i n).2) = false := by simpa using hm
    have HM := Lib.hid hm'
    clear hm hm'
    go_enter Try.func42, Try.ntmps42
    go_wp2_with (first | (go_at_call 29; (with_reducible refine (len_any _ _ _ _).mono ?_); rintro e w' ⟨rfl, rfl⟩) | (go_at_call 83; (with_reducible refine HSW.out.mono ?_); rintro e w1 ⟨rfl, hq1, ho1⟩))
    go_at_call 43
    refine (down_any hq1 i n (by rw [HS.out]; omega) (by rw [HS.out]; omega)).mono ?_
    rintro e w2 ⟨rfl, hq2, ho2⟩
    rw [HM.out]
    clear hq1
    go_wp2_with fail
    go_at_call 44
    refine (up_any hq2 i (by rw [HDL.out]; omega)).mono ?_
    rintro e w4 ⟨rfl, hq4, ho4⟩
    rw [HSPLIT.out] at hq4
    have HP := Lib.hid (rpop_q hq4)
    clear hq2 hq4
    go_wp2_with (go_at_call 81; (with_reducible refine HP.out.mono ?_); rintro e w3 ⟨rfl, hq3, ho3⟩)
    go_ret
    exact ⟨⟨_, rfl⟩, hq3, ((ho1.trans' ho2).trans' ho4).trans' ho3⟩
theorem hremove_any {w : World} {base g : Nat} {l : List Tk} {r : Option Nat} (h : QS w base g l r) (i : Nat) (hi : i < l.length) :
    Calls Try.prog 42 #[.iface 63 (.pointer (some ⟨g, 0, none⟩)), .int .i64 i] w fun e w' =>
      (∃ v, e = .returned v) ∧ QS w' base g (removeL l i) r ∧ Only w w' (QF g r) := by
  by_cases e : l.length = i + 1
  · exact hremove_last h i e
  · exact hremove_in h i (l.length - 1) (by omega) (by omega)
end Go.Proofs.Ytlccplpniidjfaa
