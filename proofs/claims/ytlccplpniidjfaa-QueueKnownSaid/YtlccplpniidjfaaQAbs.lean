/- A queue as a list of ticks by rising indexes: the plain law of its heap. -/
import Derived.Test.YtlccplpniidjfaaQPut
namespace Go.Proofs.Ytlccplpniidjfaa
open Go.RowKit

theorem push_heap {l : List Tk} (t : Tk) (h : Heap l l.length) : Heap (upL l.length (l ++ [t]) l.length) (l.length + 1) := by
  refine upL_heap _ _ _ _ (by omega) (by simp) (Nat.le_refl _) (fun k hk h0 hne => ?_) (fun h0 c hc hc0 hp => by omega)
  rw [nth_append (by omega), nth_append (by omega)]
  exact h k (by omega) h0 (fun h => h)
theorem nth_take {l : List Tk} {n k : Nat} (h : k < n) : nth (l.take n) k = nth l k := by
  simp [nth, List.getD, h]
theorem Heap.take {l : List Tk} {n : Nat} (h : Heap l n) : Heap (l.take n) n := by
  intro k hk h0 hne
  rw [nth_take hk, nth_take (by omega)]
  exact h k hk h0 hne
theorem mend_heap {l : List Tk} {n i : Nat} (hn : n ≤ l.length) (hi : i < n) (hh : HeapBut l n (fun k => (k - 1) / 2 = i ∨ k = i))
    (hg : 0 < i → ∀ c, c < n → 0 < c → (c - 1) / 2 = i → lessT (nth l c) (nth l ((i - 1) / 2)) = false) : Heap (mendL l i n) n := by
  unfold mendL
  obtain ⟨f, rfl⟩ : ∃ f, n = f + 1 := ⟨n - 1, by omega⟩
  split
  · rename_i hm
    exact downL_moved f l i (f + 1) hn (by omega) (by omega) (by omega) hh hg
  · rename_i hm
    have hge := downL_ge (f + 1) l i (f + 1)
    have hst : (downL (f + 1) l i (f + 1)).2 = i := by omega
    rw [downL_stay _ _ _ _ hst]
    exact upL_heap i l (f + 1) i hi hn (Nat.le_refl _) (downL_stayed f l i (f + 1) hst hh) hg
theorem mendL_perm {l : List Tk} {i n : Nat} (hn : n ≤ l.length) (hi : i < l.length) : (mendL l i n).Perm l := by
  unfold mendL
  split
  · exact downL_perm _ _ _ _ hn hi
  · exact (upL_perm _ _ _ (by rw [downL_length _ _ _ _ hn hi]; exact hi)).trans (downL_perm _ _ _ _ hn hi)
theorem around {l : List Tk} {n i : Nat} (h : Heap l n) : (0 < i → ∀ c, c < n → 0 < c → (c - 1) / 2 = i → lessT (nth l c) (nth l ((i - 1) / 2)) = false) := by
  intro h0 c hc hc0 hp
  have h1 := h c hc hc0 (fun h => h)
  rw [hp] at h1
  have h2 := h i (by omega) h0 (fun h => h)
  exact notless_trans h2 h1
theorem set_heap {l : List Tk} {i : Nat} (t : Tk) (h : Heap l l.length) (hi : i < l.length) : Heap (mendL (l.set i t) i l.length) l.length := by
  refine mend_heap (by simp) hi (fun k hk h0 hne => ?_) (fun h0 c hc hc0 hp => ?_)
  · simp only [not_or] at hne
    rw [nth_set hi, nth_set hi, if_neg (fun h => hne.2 h.symm), if_neg (fun h => hne.1 h.symm)]
    exact h k hk h0 (fun h => h)
  · rw [nth_set hi, nth_set hi, if_neg (by omega), if_neg (by omega)]
    exact around h h0 c hc hc0 hp

theorem pop_split {l : List Tk} {n : Nat} (hn : l.length = n + 1) : (popL l ++ [nth l 0]).Perm l ∧ (popL l).length = n := by
  have hpl : popL l = ((downL n (swapL l 0 n) 0 n).1).take n := by unfold popL; rw [hn]; rfl
  have hs : (swapL l 0 n).length = n + 1 := by rw [swapL_length, hn]
  have hd : (downL n (swapL l 0 n) 0 n).1.length = n + 1 := by rw [downL_length _ _ _ _ (by omega) (by omega), hs]
  have hlast : nth (downL n (swapL l 0 n) 0 n).1 n = nth l 0 := by
    by_cases e : n = 0
    · subst e
      show nth (swapL l 0 0) 0 = _
      rw [swapL_self l 0 (by omega)]
    · rw [downL_nth _ _ _ _ _ (by omega) (by omega) (Nat.le_refl _) e, nth_swap (by omega) (by omega), if_pos rfl]
  have hsp := split_last hd
  rw [hlast, ← hpl] at hsp
  refine ⟨?_, by rw [hpl, List.length_take, hd]; omega⟩
  rw [← hsp]
  exact (downL_perm _ _ _ _ (by omega) (by omega)).trans (swapL_perm (by omega) (by omega))
theorem pop_heap {l : List Tk} {n : Nat} (hn : l.length = n + 1) (h : Heap l l.length) : Heap (popL l) n := by
  have hpl : popL l = ((downL n (swapL l 0 n) 0 n).1).take n := by unfold popL; rw [hn]; rfl
  rw [hpl]
  refine Heap.take (downL_heap n _ 0 n (by rw [swapL_length]; omega) (by rw [swapL_length]; omega) (by omega) (fun k hk h0 hne => ?_) (fun h => by omega))
  rw [nth_swap (by omega) (by omega), nth_swap (by omega) (by omega), if_neg (by omega), if_neg (by omega), if_neg (by omega), if_neg (fun h => hne h.symm)]
  exact h k (by omega) h0 (fun h => h)
theorem remove_split {l : List Tk} {i n : Nat} (hn : l.length = n + 1) (hi : i < l.length) : (removeL l i ++ [nth l i]).Perm l ∧ (removeL l i).length = n := by
  unfold removeL
  rw [hn, Nat.add_sub_cancel]
  by_cases e : n = i
  · subst e
    rw [if_pos rfl]
    refine ⟨?_, by rw [List.length_take]; omega⟩
    rw [← split_last hn]
  · rw [if_neg e]
    have hs : (swapL l i n).length = n + 1 := by rw [swapL_length, hn]
    have hml : (mendL (swapL l i n) i n).length = n + 1 := by rw [mendL_length (by omega) (by omega), hs]
    have hlast : nth (mendL (swapL l i n) i n) n = nth l i := by
      unfold mendL
      split
      · rw [downL_nth _ _ _ _ _ (by omega) (by omega) (Nat.le_refl _) e, nth_swap (by omega) (by omega), if_pos rfl]
      · rw [upL_nth _ _ _ _ (by rw [downL_length _ _ _ _ (by omega) (by omega), hs]; omega) (by omega), downL_nth _ _ _ _ _ (by omega) (by omega) (Nat.le_refl _) e, nth_swap (by omega) (by omega), if_pos rfl]
    have hsp := split_last hml
    rw [hlast] at hsp
    refine ⟨?_, by rw [List.length_take, hml]; omega⟩
    rw [← hsp]
    exact (mendL_perm (by omega) (by omega)).trans (swapL_perm (by omega) (by omega))
theorem remove_heap {l : List Tk} {i n : Nat} (hn : l.length = n + 1) (hi : i < l.length) (h : Heap l l.length) : Heap (removeL l i) n := by
  unfold removeL
  rw [hn, Nat.add_sub_cancel]
  by_cases e : n = i
  · rw [if_pos e]
    refine Heap.take (fun k hk h0 hne => h k (by omega) h0 hne)
  · rw [if_neg e]
    refine Heap.take (mend_heap (by rw [swapL_length]; omega) (by omega) (fun k hk h0 hne => ?_) (fun h0 c hc hc0 hp => ?_))
    · simp only [not_or] at hne
      rw [nth_swap (by omega) (by omega), nth_swap (by omega) (by omega), if_neg (by omega), if_neg (fun h => hne.2 h.symm), if_neg (by omega), if_neg (fun h => hne.1 h.symm)]
      exact h k (by omega) h0 (fun h => h)
    · rw [nth_swap (by omega) (by omega), nth_swap (by omega) (by omega), if_neg (by omega), if_neg (by omega), if_neg (by omega), if_neg (by omega)]
      exact around h h0 c (by omega) hc0 hp
end Go.Proofs.Ytlccplpniidjfaa
