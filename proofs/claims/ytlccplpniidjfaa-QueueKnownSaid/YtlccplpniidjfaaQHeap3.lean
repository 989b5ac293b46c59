/- heap.Pop, heap.Fix, heap.Remove over a queue's rows: the walks. -/
import Derived.Test.YtlccplpniidjfaaQHeap2
namespace Go.Proofs.Ytlccplpniidjfaa
open Go.RowKit

theorem split_last {l : List Tk} {n : Nat} (h : l.length = n + 1) : l = l.take n ++ [nth l n] := by
  rw [nth_get (by omega), ← List.take_succ_eq_append_getElem (by omega), List.take_of_length_le (by omega)]
theorem downL_nth : ∀ (f : Nat) (l : List Tk) (i n k : Nat), n ≤ l.length → i < l.length → n ≤ k → k ≠ i → nth (downL f l i n).1 k = nth l k
  | 0, _, _, _, _, _, _, _, _ => rfl
  | f + 1, l, i, n, k, hn, hi, hk, hne => by
    unfold downL
    split
    · rfl
    · rename_i hs
      have hc := childL_lt (l := l) (i := i) (n := n) (by omega)
      rw [downL_nth f _ _ n k (by rw [swapL_length]; exact hn) (by rw [swapL_length]; omega) hk (by omega), nth_swap hi (by omega), if_neg (by omega), if_neg (fun h => hne h.symm)]

/-- What heap.Pop leaves. -/
def popL (l : List Tk) : List Tk := ((downL (l.length - 1) (swapL l 0 (l.length - 1)) 0 (l.length - 1)).1).take (l.length - 1)
/-- down, and up where nothing went down. -/
def mendL (l : List Tk) (i n : Nat) : List Tk := if i < (downL n l i n).2 then (downL n l i n).1 else upL i (downL n l i n).1 i
def removeL (l : List Tk) (i : Nat) : List Tk := (if l.length - 1 = i then l else mendL (swapL l i (l.length - 1)) i (l.length - 1)).take (l.length - 1)

set_option maxRecDepth 100000 in
set_option maxHeartbeats 1000000 in
theorem hpop_any {w : World} {base g : Nat} {l : List Tk} {r : Option Nat} (h : QS w base g l r) (h0 : 0 < l.length) :
    Calls Try.prog 30 #[.iface 63 (.pointer (some ⟨g, 0, none⟩))] w fun e w' =>
      e = .returned (.iface 24 (.agg #[.int .i64 (nth l 0).1, .int .i64 (nth l 0).2])) ∧ QS w' base g (popL l) r ∧ Only w w' (QF g r) := by
  have hsm := h.apt.small
  obtain ⟨n, hn⟩ : ∃ n, l.length = n + 1 := ⟨l.length - 1, by omega⟩
  obtain ⟨ao, c, hc⟩ := cell_q h
  have ml := run_len hc
  have HSW := Lib.hid (show Calls Try.prog 83 #[.pointer (some ⟨g, 0, none⟩), .int .i64 0, .int .i64 n] w fun e w' => e = .returned (.tuple #[]) ∧ QS w' base g (swapL l 0 n) r ∧ Only w w' (QF g r) from swap_any h 0 n (Nat.zero_le _) (by omega))
  have hs : (swapL l 0 n).length = n + 1 := by rw [swapL_length, hn]
  have hd : (downL n (swapL l 0 n) 0 n).1.length = n + 1 := by rw [downL_length _ _ _ _ (by omega) (by omega), hs]
  have hlast : nth (downL n (swapL l 0 n) 0 n).1 n = nth l 0 := by
    by_cases e : n = 0
    · subst e
      show nth (swapL l 0 0) 0 = _
      rw [swapL_self l 0 h0]
    · rw [downL_nth _ _ _ _ _ (by omega) (by omega) (Nat.le_refl _) e, nth_swap h0 (by omega), if_pos rfl]
  have hpl : popL l = ((downL n (swapL l 0 n) 0 n).1).take n := by unfold popL; rw [hn]; rfl
  have ms := m_swap ⟨g, 0, none⟩
  have mp := m_pop ⟨g, 0, none⟩
  have HSPLIT := Lib.hid (split_last hd)
  rw [hlast] at HSPLIT
  rw [hpl]
  rw [hn] at ml
  have hn' : n < 4096 := by omega
  have HSL := Lib.hid hs
  clear hlast hd hs h hc hpl h0 hsm hn
  go_enter Try.func30, Try.ntmps30
  go_wp2_with (first | (go_at_call 29; (with_reducible refine (len_any _ _ _ _).mono ?_); rintro e w' ⟨rfl, rfl⟩) | (go_at_call 83; (with_reducible refine HSW.out.mono ?_); rintro e w1 ⟨rfl, hq1, ho1⟩))
  go_at_call 43
  refine (down_any hq1 0 n (by rw [HSL.out]; omega) (by rw [HSL.out]; omega)).mono ?_
  rintro e w2 ⟨rfl, hq2, ho2⟩
  rw [HSPLIT.out] at hq2
  have HP := Lib.hid (rpop_q hq2)
  clear hq1 hq2
  go_wp2_with (go_at_call 81; (with_reducible refine HP.out.mono ?_); rintro e w3 ⟨rfl, hq3, ho3⟩)
  go_ret
  exact ⟨rfl, hq3, (ho1.trans' ho2).trans' ho3⟩

set_option maxRecDepth 100000 in
set_option maxHeartbeats 1000000 in
theorem hfix_any {w : World} {base g : Nat} {l : List Tk} {r : Option Nat} (h : QS w base g l r) (i : Nat) (hi : i < l.length) :
    Calls Try.prog 41 #[.iface 63 (.pointer (some ⟨g, 0, none⟩)), .int .i64 i] w fun e w' =>
      e = .returned (.tuple #[]) ∧ QS w' base g (mendL l i l.length) r ∧ Only w w' (QF g r) := by
  have hsm := h.apt.small
  obtain ⟨ao, c, hc⟩ := cell_q h
  have ml := run_len hc
  have HD := Lib.hid (down_any h i l.length hi (Nat.le_refl _))
  have hdl := downL_length l.length l i l.length (Nat.le_refl _) hi
  have hup : ∀ w1, QS w1 base g (downL l.length l i l.length).1 r → _ := fun w1 h1 => up_any h1 i (by rw [hdl]; exact hi)
  have HUP := Lib.hid hup
  clear hup h hc hdl
  unfold mendL
  by_cases hm : i < (downL l.length l i l.length).2
  · rw [if_pos hm]
    have hm' : decide (i < (downL l.length l i l.length).2) = true := by simpa using hm
    rw [hm'] at HD
    clear hm hm'
    go_enter Try.func41, Try.ntmps41
    go_wp2_with (first | (go_at_call 29; (with_reducible refine (len_any _ _ _ _).mono ?_); rintro e w' ⟨rfl, rfl⟩) | (go_at_call 43; (with_reducible refine HD.out.mono ?_); rintro e w1 ⟨rfl, hq1, ho1⟩))
    go_end0
    exact ⟨rfl, hq1, ho1⟩
  · rw [if_neg hm]
    have hm' : decide (i < (downL l.length l i l.length).2) = false := by simpa using hm
    rw [hm'] at HD
    clear hm hm'
    go_enter Try.func41, Try.ntmps41
    go_wp2_with (first | (go_at_call 29; (with_reducible refine (len_any _ _ _ _).mono ?_); rintro e w' ⟨rfl, rfl⟩) | (go_at_call 43; (with_reducible refine HD.out.mono ?_); rintro e w1 ⟨rfl, hq1, ho1⟩))
    go_at_call 44
    refine (HUP.out _ hq1).mono ?_
    rintro e w2 ⟨rfl, hq2, ho2⟩
    go_wp2
    go_end0
    exact ⟨rfl, hq2, ho1.trans' ho2⟩
end Go.Proofs.Ytlccplpniidjfaa
