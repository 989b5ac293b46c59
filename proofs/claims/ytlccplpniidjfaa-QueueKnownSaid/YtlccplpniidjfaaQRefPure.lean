/- The document's queue: its places, plain laws. -/
import Derived.Test.YtlccplpniidjfaaQSorted
namespace Go.Proofs.Ytlccplpniidjfaa
open Go.RowKit

/-- Where an index stands, or would stand. -/
def Place (m : List Tk) (a : Int) (i : Nat) : Prop := i ≤ m.length ∧ (∀ j, j < i → (nth m j).1 < a) ∧ (i < m.length → a ≤ (nth m i).1)
theorem Place.cons {x : Tk} {m : List Tk} {a : Int} {i : Nat} (h : Place (x :: m) a (i + 1)) : x.1 < a ∧ Place m a i := by
  obtain ⟨h1, h2, h3⟩ := h
  refine ⟨h2 0 (by omega), by simpa using h1, fun j hj => h2 (j + 1) (by omega), fun hi => h3 (by simpa using hi)⟩
def isAt (m : List Tk) (a : Int) (i : Nat) : Bool := decide (i < m.length ∧ (nth m i).1 = a)
theorem Place.putM {m : List Tk} {t : Tk} {i : Nat} (h : Place m t.1 i) : putM m t = m.take i ++ t :: m.drop (if isAt m t.1 i = true then i + 1 else i) := by
  induction i generalizing m with
  | zero =>
    cases m with
    | nil => simp [isAt, Ytlccplpniidjfaa.putM]
    | cons x m =>
      have h3 : t.1 ≤ x.1 := h.2.2 (by simp)
      unfold Ytlccplpniidjfaa.putM
      by_cases hx : x.1 = t.1
      · have : isAt (x :: m) t.1 0 = true := by simp [isAt]; exact hx
        rw [if_neg (by omega), if_pos hx.symm, if_pos this]; rfl
      · have : isAt (x :: m) t.1 0 = false := by simp [isAt]; exact hx
        rw [if_pos (by omega), this]; rfl
  | succ i ih =>
    cases m with
    | nil => have := h.1; simp at this
    | cons x m =>
      obtain ⟨hx, h'⟩ := h.cons
      have e : isAt (x :: m) t.1 (i + 1) = isAt m t.1 i := by simp [isAt]; rfl
      unfold Ytlccplpniidjfaa.putM
      rw [if_neg (by omega), if_neg (by omega), ih h', e]
      split <;> rfl
theorem Place.find {m : List Tk} {a : Int} {i : Nat} (h : Place m a i) (hm : Rising m) : findM m a = if isAt m a i = true then some (nth m i) else none := by
  by_cases hc : isAt m a i = true
  · rw [if_pos hc]
    have hc' : i < m.length ∧ (nth m i).1 = a := by simpa [isAt] using hc
    rw [← hc'.2]
    exact findM_eq hm (nth_mem hc'.1)
  · rw [if_neg hc]
    have hc' : ¬ (i < m.length ∧ (nth m i).1 = a) := fun hh => hc (by simpa [isAt] using hh)
    cases hf : findM m a with
    | none => rfl
    | some x =>
      obtain ⟨hx, hxa⟩ := findM_some hf
      obtain ⟨j, hj, hjx⟩ := List.getElem_of_mem hx
      have hjn : nth m j = x := by rw [nth_get hj]; exact hjx
      exfalso
      rcases Nat.lt_trichotomy j i with hl | he | hg
      · have := h.2.1 j hl; rw [hjn] at this; omega
      · subst he; exact hc' ⟨hj, by rw [hjn]; exact hxa⟩
      · have h1 := h.2.2 (by omega)
        have h2 := List.pairwise_iff_getElem.1 hm i j (by omega) hj hg
        rw [← nth_get (by omega : i < m.length), ← nth_get hj, hjn] at h2
        omega
theorem Place.rest {m : List Tk} {a : Int} {i : Nat} (_h : Place m a i) (hm : Rising m) (hc : isAt m a i = true) : rest m a = m.take i ++ m.drop (i + 1) := by
  have hc' : i < m.length ∧ (nth m i).1 = a := by simpa [isAt] using hc
  refine List.Perm.eq_of_pairwise (le := fun (x y : Tk) => x.1 < y.1) (fun x y _ _ h1 h2 => absurd h1 (by omega)) (hm.rest a) ?_ ?_
  · have := hm
    rw [← List.take_append_drop i m] at this
    refine List.pairwise_append.2 ⟨(List.pairwise_append.1 this).1, ?_, fun x hx y hy => (List.pairwise_append.1 this).2.2 x hx y ?_⟩
    · exact hm.sublist (List.drop_sublist _ _)
    · rw [List.drop_eq_getElem_cons hc'.1]; exact List.mem_cons_of_mem _ hy
  · have h1 := perm_rest (nodup_keys hm) (nth_mem hc'.1)
    rw [hc'.2] at h1
    have h2 : m.Perm (nth m i :: (m.take i ++ m.drop (i + 1))) := by
      have e : m = m.take i ++ nth m i :: m.drop (i + 1) := by
        rw [nth_get hc'.1, ← List.drop_eq_getElem_cons hc'.1, List.take_append_drop]
      refine (List.Perm.of_eq e).trans ?_
      exact List.perm_middle
    exact (h1.symm.trans h2).cons_inv
/-- The first of those that are due first: from the left. -/
def bestL (b : Tk) (m : List Tk) : Tk := m.foldl (fun b x => if x.2 < b.2 then x else b) b
theorem best_take (b : Tk) (m : List Tk) {i : Nat} (hi : i < m.length) : bestL b (m.take (i + 1)) = if (nth m i).2 < (bestL b (m.take i)).2 then nth m i else bestL b (m.take i) := by
  unfold bestL
  rw [List.take_succ_eq_append_getElem hi, List.foldl_append, nth_get hi]; rfl
theorem best_min : ∀ (m : List Tk) (b : Tk), Rising (b :: m) → IsMin (b :: m) (bestL b m)
  | [], b, _ => ⟨by simp [bestL], fun x hx => by simp at hx; rw [hx]; exact lessT_irrefl _⟩
  | y :: m, b, h => by
    have hb : b.1 < y.1 := h.head y List.mem_cons_self
    have e : bestL b (y :: m) = bestL (if y.2 < b.2 then y else b) m := rfl
    rw [e]
    by_cases hc : y.2 < b.2
    · rw [if_pos hc]
      obtain ⟨h1, h2⟩ := best_min m y h.tail
      refine ⟨List.mem_cons_of_mem _ h1, fun x hx => ?_⟩
      rcases List.mem_cons.1 hx with rfl | hx
      · have := h2 y List.mem_cons_self
        rw [lessT_false] at *
        omega
      · exact h2 x hx
    · rw [if_neg hc]
      have hr : Rising (b :: m) := List.pairwise_cons.2 ⟨fun z hz => h.head z (List.mem_cons_of_mem _ hz), h.tail.tail⟩
      obtain ⟨h1, h2⟩ := best_min m b hr
      refine ⟨?_, fun x hx => ?_⟩
      · rcases List.mem_cons.1 h1 with h1 | h1
        · rw [h1]; exact List.mem_cons_self
        · exact List.mem_cons_of_mem _ (List.mem_cons_of_mem _ h1)
      · rcases List.mem_cons.1 hx with rfl | hx
        · exact h2 x List.mem_cons_self
        · rcases List.mem_cons.1 hx with rfl | hx
          · have := h2 b List.mem_cons_self
            rw [lessT_false] at *
            omega
          · exact h2 x (List.mem_cons_of_mem _ hx)
end Go.Proofs.Ytlccplpniidjfaa
