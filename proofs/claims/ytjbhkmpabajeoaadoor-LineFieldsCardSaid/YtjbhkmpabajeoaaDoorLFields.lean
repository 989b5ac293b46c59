/- When an operation is written, kind by kind; a field that a kind does not use. -/
import Derived.Test.YtjbhkmpabajeoaaDoorLOps
namespace Go.Proofs.YtjbhkmpabajeoaaDoor
set_option linter.unusedSimpArgs false
set_option linter.unusedVariables false
open Go.Lib

def A0 (o : OpR) : Prop := o.a1 = 0 ∧ o.a2 = 0 ∧ o.a3 = 0
def B0 (o : OpR) : Prop := o.b1 = 0 ∧ o.b2 = 0 ∧ o.b3 = 0
def C0 (o : OpR) : Prop := o.c1 = 0 ∧ o.c2 = 0
def okP (o : OpR) : Prop :=
  (o.k = 1 ∧ nameK o.c1 ≠ [] ∧ B0 o ∧ o.n = 0) ∨ (o.k = 2 ∧ nameK o.c1 ≠ [] ∧ o.n = 0) ∨ (o.k = 3 ∧ (0 ≤ o.n ∧ o.n ≤ 5) ∧ B0 o ∧ C0 o) ∨
  (o.k = 4 ∧ B0 o ∧ C0 o) ∨ (o.k = 5 ∧ A0 o ∧ B0 o ∧ C0 o) ∨ (o.k = 6 ∧ A0 o ∧ B0 o ∧ C0 o) ∨ (o.k = 7 ∧ B0 o ∧ C0 o ∧ o.n = 0) ∨ (o.k = 8 ∧ C0 o) ∨
  (o.k = 9 ∧ A0 o ∧ B0 o ∧ C0 o ∧ o.n = 0) ∨ (o.k = 10 ∧ A0 o ∧ B0 o ∧ C0 o ∧ o.n = 0) ∨ (o.k = 11 ∧ A0 o ∧ B0 o ∧ C0 o)
theorem kinds_or {k : Int} (h : (rowOf k).1 ≠ []) : k = 1 ∨ k = 2 ∨ k = 3 ∨ k = 4 ∨ k = 5 ∨ k = 6 ∨ k = 7 ∨ k = 8 ∨ k = 9 ∨ k = 10 ∨ k = 11 := by
  by_cases h1 : 1 ≤ k ∧ k ≤ 11
  · omega
  · exact absurd (by simp only [rowOf, if_neg h1]) h
theorem put_iff (o : OpR) : (putP o).isSome = true ↔ okP o := by
  obtain ⟨k, a1, a2, a3, b1, b2, b3, c1, c2, n⟩ := o
  by_cases hk : (rowOf k).1 = []
  · have hk' : ¬ (1 ≤ k ∧ k ≤ 11) := fun h => by
      have : k = 1 ∨ k = 2 ∨ k = 3 ∨ k = 4 ∨ k = 5 ∨ k = 6 ∨ k = 7 ∨ k = 8 ∨ k = 9 ∨ k = 10 ∨ k = 11 := by omega
      rcases this with rfl | rfl | rfl | rfl | rfl | rfl | rfl | rfl | rfl | rfl | rfl <;> simp [rowOf, rowL] at hk
    simp [putP, hk, okP]
    omega
  · rcases kinds_or hk with rfl | rfl | rfl | rfl | rfl | rfl | rfl | rfl | rfl | rfl | rfl
    · by_cases hc : nameK c1 = []
      · simp [putP, rowOf, rowL, partsW, partWords, hc, okP]
      · simp [putP, rowOf, rowL, partsW, partWords, hc, okP, usedAll, used, opK, A0, B0, C0, apply_ite Option.isSome]
        omega
    · by_cases hc : nameK c1 = []
      · simp [putP, rowOf, rowL, partsW, partWords, hc, okP]
      · simp [putP, rowOf, rowL, partsW, partWords, hc, okP, usedAll, used, opK, A0, B0, C0, apply_ite Option.isSome]
        omega
    · by_cases hn : 0 ≤ n ∧ n ≤ 5
      · simp [putP, rowOf, rowL, partsW, partWords, show ¬ (n < 0 ∨ 5 < n) by omega, hn, okP, usedAll, used, opK, A0, B0, C0, apply_ite Option.isSome]
        omega
      · simp [putP, rowOf, rowL, partsW, partWords, show (n < 0 ∨ 5 < n) by omega, hn, okP]
    all_goals
      simp [putP, rowOf, rowL, partsW, partWords, okP, usedAll, used, opK, A0, B0, C0, apply_ite Option.isSome]
      try omega
/-- One field more. -/
theorem fields_law {o : OpR} {n m : Int} (h : (putP o).isSome = true) (hn : n ≠ 0) (hm : m = 0 ∨ m ≠ 0) :
    ((putP { o with a2 := n }).isSome = true ↔ (o.k ≤ 4 ∨ o.k = 7 ∨ o.k = 8)) ∧ ((putP { o with b3 := n }).isSome = true ↔ (o.k = 2 ∨ o.k = 8)) ∧
    ((putP { o with c2 := m }).isSome = true ↔ ((o.k = 1 ∨ o.k = 2) ∨ m = 0)) ∧
    (o.k = 3 → ((putP { o with n := n }).isSome = true ↔ (0 < n ∧ n ≤ 5))) ∧ (o.k ≠ 3 → ((putP { o with n := n }).isSome = true ↔ (4 ≤ o.k ∧ o.k ≠ 7 ∧ o.k ≠ 9 ∧ o.k ≠ 10))) ∧ 1 ≤ o.k ∧ o.k ≤ 11 := by
  rw [put_iff] at h
  simp only [put_iff]
  obtain ⟨k, a1, a2, a3, b1, b2, b3, c1, c2, v⟩ := o
  simp only [okP, A0, B0, C0] at h ⊢
  rcases h with ⟨rfl, h⟩ | ⟨rfl, h⟩ | ⟨rfl, h⟩ | ⟨rfl, h⟩ | ⟨rfl, h⟩ | ⟨rfl, h⟩ | ⟨rfl, h⟩ | ⟨rfl, h⟩ | ⟨rfl, h⟩ | ⟨rfl, h⟩ | ⟨rfl, h⟩ <;> simp [h, hn] <;> omega
end Go.Proofs.YtjbhkmpabajeoaaDoor
