/- Ticks by rising indexes: what is put, dropped, found, first. -/
import Derived.Test.YtlccplpniidjfaaQAbs
namespace Go.Proofs.Ytlccplpniidjfaa
open Go.RowKit

/-- By strictly rising indexes. -/
def Rising (m : List Tk) : Prop := m.Pairwise fun a b => a.1 < b.1
def putM : List Tk → Tk → List Tk
  | [], t => [t]
  | x :: m, t => if t.1 < x.1 then t :: x :: m else if t.1 = x.1 then t :: m else x :: putM m t
def rest (m : List Tk) (a : Int) : List Tk := m.filter fun t => decide (t.1 ≠ a)
def findM (m : List Tk) (a : Int) : Option Tk := m.find? fun t => decide (t.1 = a)
/-- The one that is taken first. -/
def IsMin (m : List Tk) (t : Tk) : Prop := t ∈ m ∧ ∀ x ∈ m, lessT x t = false

theorem mem_rest {m : List Tk} {a : Int} {x : Tk} : x ∈ rest m a ↔ x ∈ m ∧ x.1 ≠ a := by simp [rest]
theorem rest_none {m : List Tk} {a : Int} (h : ∀ x ∈ m, x.1 ≠ a) : rest m a = m := by
  unfold rest
  rw [List.filter_eq_self]
  intro x hx
  simpa using h x hx
theorem Rising.tail {x : Tk} {m : List Tk} (h : Rising (x :: m)) : Rising m := (List.pairwise_cons.1 h).2
theorem Rising.head {x : Tk} {m : List Tk} (h : Rising (x :: m)) : ∀ y ∈ m, x.1 < y.1 := (List.pairwise_cons.1 h).1
theorem Rising.rest {m : List Tk} (h : Rising m) (a : Int) : Rising (rest m a) := h.filter _
theorem mem_putM : ∀ {m : List Tk} {t x : Tk}, x ∈ putM m t → x = t ∨ x ∈ m
  | [], t, x, h => by simp [putM] at h; exact .inl h
  | y :: m, t, x, h => by
    unfold putM at h
    split at h
    · rcases List.mem_cons.1 h with h | h
      · exact .inl h
      · exact .inr h
    · split at h
      · rcases List.mem_cons.1 h with h | h
        · exact .inl h
        · exact .inr (List.mem_cons_of_mem _ h)
      · rcases List.mem_cons.1 h with h | h
        · exact .inr (by rw [h]; exact List.mem_cons_self)
        · rcases mem_putM h with h | h
          · exact .inl h
          · exact .inr (List.mem_cons_of_mem _ h)
theorem putM_rising : ∀ {m : List Tk} {t : Tk}, Rising m → Rising (putM m t)
  | [], t, _ => by simp [putM, Rising]
  | y :: m, t, h => by
    unfold putM
    split
    · rename_i hlt
      refine List.pairwise_cons.2 ⟨fun z hz => ?_, h⟩
      rcases List.mem_cons.1 hz with hz | hz
      · rw [hz]; exact hlt
      · exact Int.lt_trans hlt (h.head z hz)
    · split
      · rename_i he
        refine List.pairwise_cons.2 ⟨fun z hz => ?_, h.tail⟩
        rw [he]; exact h.head z hz
      · refine List.pairwise_cons.2 ⟨fun z hz => ?_, putM_rising h.tail⟩
        rcases mem_putM hz with hz | hz
        · rw [hz]; omega
        · exact h.head z hz
theorem putM_perm : ∀ {m : List Tk} {t : Tk}, Rising m → (putM m t).Perm (t :: rest m t.1)
  | [], t, _ => by simp [putM, rest]
  | y :: m, t, h => by
    have hh := h.head
    unfold putM
    split
    · rw [rest_none (fun x hx => ?_)]
      rcases List.mem_cons.1 hx with hx | hx
      · rw [hx]; omega
      · have := hh x hx; omega
    · split
      · rename_i he
        have : rest (y :: m) t.1 = m := by
          unfold rest
          rw [List.filter_cons_of_neg (by simp [he])]
          exact rest_none (m := m) (fun x hx => by have := hh x hx; omega)
        rw [this]
      · rename_i hne
        have : rest (y :: m) t.1 = y :: rest m t.1 := by
          unfold rest
          rw [List.filter_cons_of_pos (by simp; omega)]
        rw [this]
        exact ((putM_perm h.tail).cons y).trans (List.Perm.swap _ _ _)
/-- Keys each once: an element and the rest. -/
theorem perm_rest : ∀ {l : List Tk} {x : Tk}, (l.map fun t => t.1).Nodup → x ∈ l → l.Perm (x :: rest l x.1)
  | [], x, _, h => by simp at h
  | y :: l, x, hn, h => by
    rw [List.map_cons, List.nodup_cons] at hn
    by_cases e : y = x
    · subst e
      have : rest (y :: l) y.1 = l := by
        unfold rest
        rw [List.filter_cons_of_neg (by simp)]
        exact rest_none (m := l) (fun z hz he => hn.1 (by rw [← he]; exact List.mem_map_of_mem hz))
      rw [this]
    · have hx : x ∈ l := by
        rcases List.mem_cons.1 h with h | h
        · exact absurd h.symm e
        · exact h
      have hk : y.1 ≠ x.1 := fun he => hn.1 (by rw [he]; exact List.mem_map_of_mem hx)
      have : rest (y :: l) x.1 = y :: rest l x.1 := by
        unfold rest
        rw [List.filter_cons_of_pos (by simpa using hk)]
      rw [this]
      exact ((perm_rest hn.2 hx).cons y).trans (List.Perm.swap _ _ _)
theorem rest_perm {l m : List Tk} (h : l.Perm m) (a : Int) : (rest l a).Perm (rest m a) := h.filter _
theorem Apt.keys {l : List Tk} (h : Apt l) : (l.map fun t => t.1).Nodup := by
  rw [List.nodup_iff_pairwise_ne, List.pairwise_iff_getElem]
  intro i j hi hj hlt he
  simp only [List.length_map] at hi hj
  simp only [List.getElem_map] at he
  have := h.2 i j hi hj (by rw [nth_get hi, nth_get hj]; exact he)
  omega
theorem nth_mem {l : List Tk} {i : Nat} (h : i < l.length) : nth l i ∈ l := by rw [nth_get h]; exact List.getElem_mem h
theorem set_perm {l : List Tk} (h : Apt l) {i : Nat} (hi : i < l.length) (t : Tk) (ht : t.1 = (nth l i).1) : (l.set i t).Perm (t :: rest l t.1) := by
  have hk : (l.set i t).map (fun t => t.1) = l.map fun t => t.1 := by
    rw [List.map_set, ht]
    refine list_set_self _ i _ ?_
    rw [List.getElem?_map, List.getElem?_eq_getElem hi, nth_get hi]
    rfl
  have h1 := perm_rest (l := l.set i t) (x := t) (by rw [hk]; exact h.keys) (by
    rw [List.mem_iff_getElem]
    exact ⟨i, by simpa using hi, by simp⟩)
  refine h1.trans (List.Perm.cons t ?_)
  have h2 : ∀ (l : List Tk) (i : Nat) (t : Tk), i < l.length → t.1 = (nth l i).1 → rest (l.set i t) t.1 = rest l t.1 := by
    intro l
    induction l with
    | nil => intro i t hi _; simp at hi
    | cons y l ih =>
      intro i t hi ht
      cases i with
      | zero =>
        have ht : t.1 = y.1 := ht
        simp [rest, ht]
      | succ i =>
        have := ih i t (by simpa using hi) ht
        unfold rest at this ⊢
        rw [List.set_cons_succ, List.filter_cons, List.filter_cons, this]
  rw [h2 l i t hi ht]
end Go.Proofs.Ytlccplpniidjfaa
