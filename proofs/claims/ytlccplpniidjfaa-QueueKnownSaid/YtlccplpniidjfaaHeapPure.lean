/- Heaps of ticks as lists: the plain law; no Go. -/
import Derived.Test.YtlccplpniidjfaaRows
namespace Go.Proofs.Ytlccplpniidjfaa

abbrev Tk := Int × Int
/-- a is taken ahead of b. -/
def lessT (a b : Tk) : Bool := decide (a.2 < b.2) || (decide (a.2 = b.2) && decide (a.1 < b.1))
theorem lessT_iff {a b : Tk} : lessT a b = true ↔ a.2 < b.2 ∨ (a.2 = b.2 ∧ a.1 < b.1) := by simp [lessT]
theorem lessT_false {a b : Tk} : lessT a b = false ↔ ¬ (a.2 < b.2 ∨ (a.2 = b.2 ∧ a.1 < b.1)) := by rw [← lessT_iff]; simp
theorem lessT_asymm {a b : Tk} (h : lessT a b = true) : lessT b a = false := by rw [lessT_iff] at h; rw [lessT_false]; omega
theorem notless_trans {a b c : Tk} (h1 : lessT b a = false) (h2 : lessT c b = false) : lessT c a = false := by rw [lessT_false] at *; omega
theorem lessT_irrefl (a : Tk) : lessT a a = false := by rw [lessT_false]; omega

def nth (l : List Tk) (i : Nat) : Tk := l.getD i (0, 0)
theorem nth_get {l : List Tk} {i : Nat} (h : i < l.length) : nth l i = l[i] := by simp [nth, List.getD, List.getElem?_eq_getElem h]
theorem nth_set {l : List Tk} {i j : Nat} {x : Tk} (h : i < l.length) : nth (l.set i x) j = if i = j then x else nth l j := by
  unfold nth List.getD
  rw [List.getElem?_set]
  split
  · rename_i e; subst e; simp
  · rfl
theorem nth_append {l r : List Tk} {i : Nat} (h : i < l.length) : nth (l ++ r) i = nth l i := by
  unfold nth List.getD; rw [List.getElem?_append_left h]

/-- Two places exchanged. -/
def swapL (l : List Tk) (i k : Nat) : List Tk := (l.set i (nth l k)).set k (nth l i)
theorem swapL_length (l : List Tk) (i k : Nat) : (swapL l i k).length = l.length := by simp [swapL]
theorem nth_swap {l : List Tk} {i k : Nat} (hi : i < l.length) (hk : k < l.length) (j : Nat) :
    nth (swapL l i k) j = if k = j then nth l i else if i = j then nth l k else nth l j := by
  unfold swapL
  rw [nth_set (by simpa using hk), nth_set hi]
theorem swapL_perm {l : List Tk} {i k : Nat} (hi : i < l.length) (hk : k < l.length) : (swapL l i k).Perm l := by
  unfold swapL
  rw [nth_get hk, nth_get hi]
  by_cases h : i = k
  · subst h; simp
  · exact List.set_set_perm hi hk

/-- No place before n is ahead of its parent, but for those that p lets go. -/
def HeapBut (l : List Tk) (n : Nat) (p : Nat → Prop) : Prop := ∀ k, k < n → 0 < k → ¬ p k → lessT (nth l k) (nth l ((k - 1) / 2)) = false
def Heap (l : List Tk) (n : Nat) : Prop := HeapBut l n fun _ => False
theorem Heap.root {l : List Tk} {n : Nat} (h : Heap l n) : ∀ k, k < n → lessT (nth l k) (nth l 0) = false := by
  intro k
  induction k using Nat.strongRecOn with
  | _ k ih =>
    intro hk
    rcases Nat.eq_zero_or_pos k with h0 | h0
    · subst h0; exact lessT_irrefl _
    · exact notless_trans (ih ((k - 1) / 2) (by omega) (by omega)) (h k hk h0 (fun h => h))

def upL : Nat → List Tk → Nat → List Tk
  | 0, l, _ => l
  | f + 1, l, j => if (j - 1) / 2 = j ∨ lessT (nth l j) (nth l ((j - 1) / 2)) = false then l else upL f (swapL l ((j - 1) / 2) j) ((j - 1) / 2)
theorem upL_perm : ∀ (f : Nat) (l : List Tk) (j : Nat), j < l.length → (upL f l j).Perm l
  | 0, l, _, _ => List.Perm.refl _
  | f + 1, l, j, h => by
    unfold upL
    split
    · exact List.Perm.refl _
    · exact (upL_perm f _ _ (by rw [swapL_length]; omega)).trans (swapL_perm (by omega) h)
theorem upL_length (f : Nat) (l : List Tk) (j : Nat) (h : j < l.length) : (upL f l j).length = l.length := (upL_perm f l j h).length_eq
theorem upL_nth : ∀ (f : Nat) (l : List Tk) (j k : Nat), j < l.length → j < k → nth (upL f l j) k = nth l k
  | 0, _, _, _, _, _ => rfl
  | f + 1, l, j, k, h, hk => by
    unfold upL
    split
    · rfl
    · rw [upL_nth f _ _ k (by rw [swapL_length]; omega) (by omega), nth_swap (by omega) h, if_neg (by omega), if_neg (by omega)]
theorem upL_heap : ∀ (f : Nat) (l : List Tk) (n j : Nat), j < n → n ≤ l.length → j ≤ f →
    HeapBut l n (fun k => k = j) → (0 < j → ∀ c, c < n → 0 < c → (c - 1) / 2 = j → lessT (nth l c) (nth l ((j - 1) / 2)) = false) → Heap (upL f l j) n
  | 0, l, n, j, hj, hn, hf, hh, hg => by
    obtain rfl : j = 0 := by omega
    intro k hk h0 _
    exact hh k hk h0 (by omega)
  | f + 1, l, n, j, hj, hn, hf, hh, hg => by
    unfold upL
    split
    · rename_i hs
      intro k hk h0 _
      by_cases e : k = j
      · subst e
        rcases hs with hs | hs
        · omega
        · exact hs
      · exact hh k hk h0 e
    · rename_i hs
      have h1 : (j - 1) / 2 ≠ j := fun h => hs (.inl h)
      have h2 : lessT (nth l j) (nth l ((j - 1) / 2)) = true := by
        cases h : lessT (nth l j) (nth l ((j - 1) / 2)) with
        | true => rfl
        | false => exact absurd (.inr h) hs
      have h0 : 0 < j := by omega
      have hi : (j - 1) / 2 < l.length := by omega
      have hjl : j < l.length := by omega
      refine upL_heap f _ n _ (by omega) (by rw [swapL_length]; exact hn) (by omega) ?_ ?_
      · intro k hk hk0 hne
        rw [nth_swap hi hjl, nth_swap hi hjl]
        by_cases e : k = j
        · subst e
          rw [if_pos rfl]
          rw [if_neg (by omega), if_pos rfl]
          exact lessT_asymm h2
        · rw [if_neg (fun h => e h.symm), if_neg (fun h => hne h.symm)]
          by_cases e2 : (k - 1) / 2 = j
          · rw [if_pos e2.symm]; exact hg h0 k hk hk0 e2
          · rw [if_neg (fun h => e2 h.symm)]
            by_cases e3 : (k - 1) / 2 = (j - 1) / 2
            · rw [if_pos e3.symm]
              have := hh k hk hk0 e
              rw [e3] at this
              exact notless_trans (lessT_asymm h2) this
            · rw [if_neg (fun h => e3 h.symm)]
              exact hh k hk hk0 e
      · intro hp c hc hc0 hcp
        rw [nth_swap hi hjl, nth_swap hi hjl]
        rw [if_neg (show ¬ j = ((j - 1) / 2 - 1) / 2 by omega), if_neg (show ¬ (j - 1) / 2 = ((j - 1) / 2 - 1) / 2 by omega)]
        have hpp := hh ((j - 1) / 2) (by omega) hp (by omega)
        by_cases e : j = c
        · rw [if_pos e]; exact hpp
        · rw [if_neg e, if_neg (by omega)]
          have := hh c hc hc0 (fun h => e h.symm)
          rw [hcp] at this
          exact notless_trans hpp this

/-- The child that is ahead of the other. -/
def childL (l : List Tk) (i n : Nat) : Nat := if 2 * i + 2 < n ∧ lessT (nth l (2 * i + 2)) (nth l (2 * i + 1)) = true then 2 * i + 2 else 2 * i + 1
def downL : Nat → List Tk → Nat → Nat → List Tk × Nat
  | 0, l, i, _ => (l, i)
  | f + 1, l, i, n => if n ≤ 2 * i + 1 ∨ lessT (nth l (childL l i n)) (nth l i) = false then (l, i) else downL f (swapL l i (childL l i n)) (childL l i n) n
theorem childL_two (l : List Tk) (i n : Nat) : childL l i n = 2 * i + 1 ∨ childL l i n = 2 * i + 2 := by unfold childL; split <;> simp
theorem childL_lt {l : List Tk} {i n : Nat} (h : 2 * i + 1 < n) : childL l i n < n := by unfold childL; split <;> omega
theorem childL_least {l : List Tk} {i n : Nat} (c : Nat) (hc : c < n) (hc0 : 0 < c) (hp : (c - 1) / 2 = i) : lessT (nth l c) (nth l (childL l i n)) = false := by
  have h2 : c = 2 * i + 1 ∨ c = 2 * i + 2 := by omega
  unfold childL
  split
  · rename_i h
    rcases h2 with rfl | rfl
    · exact lessT_asymm h.2
    · exact lessT_irrefl _
  · rename_i h
    rcases h2 with rfl | rfl
    · exact lessT_irrefl _
    · cases hl : lessT (nth l (2 * i + 2)) (nth l (2 * i + 1)) with
      | false => rfl
      | true => exact absurd ⟨hc, hl⟩ h
theorem downL_perm : ∀ (f : Nat) (l : List Tk) (i n : Nat), n ≤ l.length → i < l.length → (downL f l i n).1.Perm l
  | 0, _, _, _, _, _ => List.Perm.refl _
  | f + 1, l, i, n, h, hi => by
    unfold downL
    split
    · exact List.Perm.refl _
    · rename_i hs
      have hc : childL l i n < n := childL_lt (by omega)
      exact (downL_perm f _ _ n (by rw [swapL_length]; exact h) (by rw [swapL_length]; omega)).trans (swapL_perm hi (by omega))
theorem downL_length (f : Nat) (l : List Tk) (i n : Nat) (h : n ≤ l.length) (hi : i < l.length) : (downL f l i n).1.length = l.length := (downL_perm f l i n h hi).length_eq
theorem downL_ge : ∀ (f : Nat) (l : List Tk) (i n : Nat), i ≤ (downL f l i n).2
  | 0, _, _, _ => Nat.le_refl _
  | f + 1, l, i, n => by
    unfold downL
    split
    · exact Nat.le_refl _
    · have h := childL_two l i n
      exact Nat.le_trans (by omega) (downL_ge f _ _ n)
theorem downL_stay : ∀ (f : Nat) (l : List Tk) (i n : Nat), (downL f l i n).2 = i → (downL f l i n).1 = l
  | 0, _, _, _, _ => rfl
  | f + 1, l, i, n, h => by
    unfold downL at h ⊢
    split
    · rfl
    · rename_i hs
      rw [if_neg hs] at h
      have h1 := downL_ge f (swapL l i (childL l i n)) (childL l i n) n
      have h2 := childL_two l i n
      omega
/-- Below i nothing is out of order but at i's children; then down puts it right; what stands at i is either what stood there or one of its children. -/
theorem downL_heap : ∀ (f : Nat) (l : List Tk) (i n : Nat), n ≤ l.length → i < l.length → n ≤ i + f →
    HeapBut l n (fun k => (k - 1) / 2 = i) → (0 < i → ∀ c, c < n → 0 < c → (c - 1) / 2 = i → lessT (nth l c) (nth l ((i - 1) / 2)) = false) →
    Heap (downL f l i n).1 n
  | 0, l, i, n, hn, hi, hf, hh, hg => by
    intro k hk h0 _
    exact hh k hk h0 (by omega)
  | f + 1, l, i, n, hn, hi, hf, hh, hg => by
    unfold downL
    split
    · rename_i hs
      intro k hk h0 _
      by_cases e : (k - 1) / 2 = i
      · rcases hs with hs | hs
        · omega
        · rw [e]; exact notless_trans hs (childL_least k hk h0 e)
      · exact hh k hk h0 e
    · rename_i hs
      have hlt : 2 * i + 1 < n := by omega
      have hc := childL_lt (l := l) hlt
      have hc2 := childL_two l i n
      have hless : lessT (nth l (childL l i n)) (nth l i) = true := by
        cases h : lessT (nth l (childL l i n)) (nth l i) with
        | true => rfl
        | false => exact absurd (.inr h) hs
      have hcl : childL l i n < l.length := by omega
      have hleast := fun c => childL_least (l := l) (i := i) (n := n) c
      generalize childL l i n = j at *
      refine downL_heap f _ j n (by rw [swapL_length]; exact hn) (by rw [swapL_length]; exact hcl) (by omega) ?_ ?_
      · intro k hk h0 hne
        rw [nth_swap hi hcl, nth_swap hi hcl]
        by_cases e : k = j
        · subst e
          rw [if_pos rfl, if_neg (by omega), if_pos (by omega)]
          exact lessT_asymm hless
        · rw [if_neg (fun h => e h.symm)]
          by_cases e1 : i = k
          · subst e1
            rw [if_pos rfl, if_neg (by omega), if_neg (by omega)]
            exact hg h0 j hc (by omega) (by omega)
          · rw [if_neg e1, if_neg (fun h => hne h.symm)]
            by_cases e2 : i = (k - 1) / 2
            · rw [if_pos e2]; exact hleast k hk h0 e2.symm
            · rw [if_neg e2]; exact hh k hk h0 (fun h => e2 h.symm)
      · intro hj0 c hcn hc0 hcp
        have : (j - 1) / 2 = i := by omega
        rw [this, nth_swap hi hcl, nth_swap hi hcl, if_neg (by omega), if_neg (by omega), if_neg (by omega), if_pos rfl]
        have := hh c hcn hc0 (by omega)
        rw [hcp] at this
        exact this
/-- Where down moves nothing, only the edge to the parent may be out of order. -/
theorem downL_stayed (f : Nat) (l : List Tk) (i n : Nat) (hs : (downL (f + 1) l i n).2 = i)
    (hh : HeapBut l n (fun k => (k - 1) / 2 = i ∨ k = i)) : HeapBut l n (fun k => k = i) := by
  intro k hk h0 hne
  by_cases e : (k - 1) / 2 = i
  · unfold downL at hs
    split at hs
    · rename_i h
      rcases h with h | h
      · omega
      · rw [e]; exact notless_trans h (childL_least k hk h0 e)
    · have h1 := downL_ge f (swapL l i (childL l i n)) (childL l i n) n
      have h2 := childL_two l i n
      omega
  · exact hh k hk h0 (by simp [e, hne])
/-- Where down moves something, all is in order. -/
theorem downL_moved (f : Nat) (l : List Tk) (i n : Nat) (hn : n ≤ l.length) (hi : i < l.length) (hf : n ≤ i + (f + 1)) (hs : (downL (f + 1) l i n).2 ≠ i)
    (hh : HeapBut l n (fun k => (k - 1) / 2 = i ∨ k = i)) (hg : 0 < i → ∀ c, c < n → 0 < c → (c - 1) / 2 = i → lessT (nth l c) (nth l ((i - 1) / 2)) = false) :
    Heap (downL (f + 1) l i n).1 n := by
  unfold downL at hs ⊢
  split at hs
  · exact absurd rfl hs
  · rename_i h
    rw [if_neg h]
    have hlt : 2 * i + 1 < n := by omega
    have hc := childL_lt (l := l) hlt
    have hc2 := childL_two l i n
    have hless : lessT (nth l (childL l i n)) (nth l i) = true := by
      cases h' : lessT (nth l (childL l i n)) (nth l i) with
      | true => rfl
      | false => exact absurd (.inr h') h
    have hcl : childL l i n < l.length := by omega
    have hleast := fun c => childL_least (l := l) (i := i) (n := n) c
    generalize childL l i n = j at *
    refine downL_heap f _ j n (by rw [swapL_length]; exact hn) (by rw [swapL_length]; exact hcl) (by omega) ?_ ?_
    · intro k hk h0 hne
      rw [nth_swap hi hcl, nth_swap hi hcl]
      by_cases e : k = j
      · subst e
        rw [if_pos rfl, if_neg (by omega), if_pos (by omega)]
        exact lessT_asymm hless
      · rw [if_neg (fun h => e h.symm)]
        by_cases e1 : i = k
        · subst e1
          rw [if_pos rfl, if_neg (by omega), if_neg (by omega)]
          exact hg h0 j hc (by omega) (by omega)
        · rw [if_neg e1, if_neg (fun h => hne h.symm)]
          by_cases e2 : i = (k - 1) / 2
          · rw [if_pos e2]; exact hleast k hk h0 e2.symm
          · rw [if_neg e2]; exact hh k hk h0 (fun h => h.elim (fun h => e2 h.symm) (fun h => e1 h.symm))
    · intro hj0 c hcn hc0 hcp
      have : (j - 1) / 2 = i := by omega
      rw [this, nth_swap hi hcl, nth_swap hi hcl, if_neg (by omega), if_neg (by omega), if_neg (by omega), if_pos rfl]
      have := hh c hcn hc0 (fun h => by omega)
      rw [hcp] at this
      exact this
end Go.Proofs.Ytlccplpniidjfaa
