/- The document's Put: the walk; it is the same function. -/
import Derived.Test.YtjbhkmpabajeoaaDoorLFLine
namespace Go.Proofs.YtjbhkmpabajeoaaDoor
set_option linter.unusedSimpArgs false
set_option linter.unusedVariables false
open Go.RowKit
open Go.Lib (itoa itoa_length_le join join_one join_cons)

def lineR (o : OpR) : Bs × OpR :=
  if o.k = 1 then ([115, 101, 116] ++ threeL o.a1 o.a2 o.a3 ++ cellL o.c1 o.c2, { opK 1 with a1 := o.a1, a2 := o.a2, a3 := o.a3, c1 := o.c1, c2 := o.c2 })
  else if o.k = 2 then ([102, 105, 108, 108] ++ threeL o.a1 o.a2 o.a3 ++ threeL o.b1 o.b2 o.b3 ++ cellL o.c1 o.c2, { opK 2 with a1 := o.a1, a2 := o.a2, a3 := o.a3, b1 := o.b1, b2 := o.b2, b3 := o.b3, c1 := o.c1, c2 := o.c2 })
  else if o.k = 3 then (if 0 ≤ o.n ∧ o.n ≤ 5 then [112, 117, 115, 104] ++ threeL o.a1 o.a2 o.a3 ++ [32] ++ dirs.getD o.n.toNat [] else [], { opK 3 with a1 := o.a1, a2 := o.a2, a3 := o.a3, n := o.n })
  else if o.k = 4 then ([97, 110, 99, 104, 111, 114, 32] ++ itoa o.n ++ threeL o.a1 o.a2 o.a3, { opK 4 with a1 := o.a1, a2 := o.a2, a3 := o.a3, n := o.n })
  else if o.k = 5 then ([108, 105, 102, 116, 32] ++ itoa o.n, { opK 5 with n := o.n })
  else if o.k = 6 then ([116, 105, 99, 107, 32] ++ itoa o.n, { opK 6 with n := o.n })
  else if o.k = 7 then ([108, 111, 111, 107] ++ threeL o.a1 o.a2 o.a3, { opK 7 with a1 := o.a1, a2 := o.a2, a3 := o.a3 })
  else if o.k = 8 then ([114, 97, 121] ++ threeL o.a1 o.a2 o.a3 ++ threeL o.b1 o.b2 o.b3 ++ [32] ++ itoa o.n, { opK 8 with a1 := o.a1, a2 := o.a2, a3 := o.a3, b1 := o.b1, b2 := o.b2, b3 := o.b3, n := o.n })
  else if o.k = 9 then ([115, 97, 118, 101], opK 9)
  else if o.k = 10 then ([99, 111, 117, 110, 116], opK 10)
  else if o.k = 11 then ([99, 114, 97, 115, 104, 32] ++ itoa o.n, { opK 11 with n := o.n })
  else ([], opK o.k)
theorem fline_any (w : World) (o : OpR) (ho : o.Ok) : Calls Tryd.prog 27 #[opV o] w (LineOut (lineR o).1 (lineR o).2 w) := by
  by_cases h1 : o.k = 1
  · unfold lineR
    rw [if_pos h1]
    exact fline_1 w o h1 ho
  by_cases h2 : o.k = 2
  · unfold lineR
    rw [if_neg h1, if_pos h2]
    exact fline_2 w o h2 ho
  by_cases h3 : o.k = 3
  · unfold lineR
    rw [if_neg h1, if_neg h2, if_pos h3]
    by_cases hn : 0 ≤ o.n ∧ o.n ≤ 5
    · rw [if_pos hn]; exact fline_3 w o h3 hn ho
    · rw [if_neg hn]; exact fline_3b w o h3 (by omega) ho
  by_cases h4 : o.k = 4
  · unfold lineR
    rw [if_neg h1, if_neg h2, if_neg h3, if_pos h4]
    exact fline_4 w o h4 ho
  by_cases h5 : o.k = 5
  · unfold lineR
    rw [if_neg h1, if_neg h2, if_neg h3, if_neg h4, if_pos h5]
    exact fline_5 w o h5 ho
  by_cases h6 : o.k = 6
  · unfold lineR
    rw [if_neg h1, if_neg h2, if_neg h3, if_neg h4, if_neg h5, if_pos h6]
    exact fline_6 w o h6 ho
  by_cases h7 : o.k = 7
  · unfold lineR
    rw [if_neg h1, if_neg h2, if_neg h3, if_neg h4, if_neg h5, if_neg h6, if_pos h7]
    exact fline_7 w o h7 ho
  by_cases h8 : o.k = 8
  · unfold lineR
    rw [if_neg h1, if_neg h2, if_neg h3, if_neg h4, if_neg h5, if_neg h6, if_neg h7, if_pos h8]
    exact fline_more w o (by omega) _ _ (fun W => fmore_8 W o h8 ho)
  by_cases h9 : o.k = 9
  · unfold lineR
    rw [if_neg h1, if_neg h2, if_neg h3, if_neg h4, if_neg h5, if_neg h6, if_neg h7, if_neg h8, if_pos h9]
    exact fline_more w o (by omega) _ _ (fun W => fmore_9 W o h9 ho)
  by_cases h10 : o.k = 10
  · unfold lineR
    rw [if_neg h1, if_neg h2, if_neg h3, if_neg h4, if_neg h5, if_neg h6, if_neg h7, if_neg h8, if_neg h9, if_pos h10]
    exact fline_more w o (by omega) _ _ (fun W => fmore_10 W o h10 ho)
  by_cases h11 : o.k = 11
  · unfold lineR
    rw [if_neg h1, if_neg h2, if_neg h3, if_neg h4, if_neg h5, if_neg h6, if_neg h7, if_neg h8, if_neg h9, if_neg h10, if_pos h11]
    exact fline_more w o (by omega) _ _ (fun W => fmore_11 W o h11 ho)
  · unfold lineR
    rw [if_neg h1, if_neg h2, if_neg h3, if_neg h4, if_neg h5, if_neg h6, if_neg h7, if_neg h8, if_neg h9, if_neg h10, if_neg h11]
    exact fline_more w o (by omega) _ _ (fun W => fmore_0 W o (by omega) ho)
def putR (o : OpR) : Option Bs :=
  if (o.k = 1 ∨ o.k = 2) ∧ nameK o.c1 = [] then none else if (lineR o).1 = [] then none else if (lineR o).2 = o then some (lineR o).1 else none
theorem join_tail (x : Bs) (r : List Bs) : join (x :: r) [32] = x ++ (r.map ([32] ++ ·)).flatten := by rw [join_cons]; rfl
theorem put_ref (o : OpR) : putR o = putP o := by
  obtain ⟨k, a1, a2, a3, b1, b2, b3, c1, c2, n⟩ := o
  by_cases h1 : k = 1
  · subst h1
    by_cases hc : nameK c1 = []
    · simp [putR, putP, rowOf, rowL, partsW, partWords, hc]
    · simp [putR, putP, rowOf, rowL, partsW, partWords, hc, lineR, usedAll, used, opK, join_tail, threeL, cellL]
  by_cases h2 : k = 2
  · subst h2
    by_cases hc : nameK c1 = []
    · simp [putR, putP, rowOf, rowL, partsW, partWords, hc]
    · simp [putR, putP, rowOf, rowL, partsW, partWords, hc, lineR, usedAll, used, opK, join_tail, threeL, cellL]
  by_cases h3 : k = 3
  · subst h3
    by_cases hn : 0 ≤ n ∧ n ≤ 5
    · simp [putR, putP, rowOf, rowL, partsW, partWords, hn, show ¬ (n < 0 ∨ 5 < n) by omega, lineR, usedAll, used, opK, join_tail, threeL]
    · simp [putR, putP, rowOf, rowL, partsW, partWords, hn, show (n < 0 ∨ 5 < n) by omega, lineR]
  by_cases h4 : k = 4
  · subst h4; simp [putR, putP, rowOf, rowL, partsW, partWords, lineR, usedAll, used, opK, join_tail, threeL]
  by_cases h5 : k = 5
  · subst h5; simp [putR, putP, rowOf, rowL, partsW, partWords, lineR, usedAll, used, opK, join_tail]
  by_cases h6 : k = 6
  · subst h6; simp [putR, putP, rowOf, rowL, partsW, partWords, lineR, usedAll, used, opK, join_tail]
  by_cases h7 : k = 7
  · subst h7; simp [putR, putP, rowOf, rowL, partsW, partWords, lineR, usedAll, used, opK, join_tail, threeL]
  by_cases h8 : k = 8
  · subst h8; simp [putR, putP, rowOf, rowL, partsW, partWords, lineR, usedAll, used, opK, join_tail, threeL]
  by_cases h9 : k = 9
  · subst h9; simp [putR, putP, rowOf, rowL, partsW, lineR, usedAll, opK, join_tail]
  by_cases h10 : k = 10
  · subst h10; simp [putR, putP, rowOf, rowL, partsW, lineR, usedAll, opK, join_tail]
  by_cases h11 : k = 11
  · subst h11; simp [putR, putP, rowOf, rowL, partsW, partWords, lineR, usedAll, used, opK, join_tail]
  · have e : ¬ (1 ≤ k ∧ k ≤ 11) := by omega
    simp [putR, putP, rowOf, e, lineR, h1, h2, h3, h4, h5, h6, h7, h8, h9, h10, h11]
theorem lineR_ok {o : OpR} (ho : o.Ok) : (lineR o).2.Ok := by
  have i0 := inI0
  have u0 := inU0
  have ks : ∀ j : Int, 0 ≤ j → j ≤ 11 → InI j := fun j h1 h2 => inI_small (by omega) (by omega)
  by_cases h1 : o.k = 1
  · unfold lineR; rw [if_pos h1]; exact ⟨ks _ (by simp [opK]) (by simp [opK]), ho.a1, ho.a2, ho.a3, i0, i0, i0, ho.c1, ho.c2, i0⟩
  by_cases h2 : o.k = 2
  · unfold lineR; rw [if_neg h1, if_pos h2]; exact ⟨ks _ (by simp [opK]) (by simp [opK]), ho.a1, ho.a2, ho.a3, ho.b1, ho.b2, ho.b3, ho.c1, ho.c2, i0⟩
  by_cases h3 : o.k = 3
  · unfold lineR; rw [if_neg h1, if_neg h2, if_pos h3]; exact ⟨ks _ (by simp [opK]) (by simp [opK]), ho.a1, ho.a2, ho.a3, i0, i0, i0, u0, u0, ho.n⟩
  by_cases h4 : o.k = 4
  · unfold lineR; rw [if_neg h1, if_neg h2, if_neg h3, if_pos h4]; exact ⟨ks _ (by simp [opK]) (by simp [opK]), ho.a1, ho.a2, ho.a3, i0, i0, i0, u0, u0, ho.n⟩
  by_cases h5 : o.k = 5
  · unfold lineR; rw [if_neg h1, if_neg h2, if_neg h3, if_neg h4, if_pos h5]; exact ⟨ks _ (by simp [opK]) (by simp [opK]), i0, i0, i0, i0, i0, i0, u0, u0, ho.n⟩
  by_cases h6 : o.k = 6
  · unfold lineR; rw [if_neg h1, if_neg h2, if_neg h3, if_neg h4, if_neg h5, if_pos h6]; exact ⟨ks _ (by simp [opK]) (by simp [opK]), i0, i0, i0, i0, i0, i0, u0, u0, ho.n⟩
  by_cases h7 : o.k = 7
  · unfold lineR; rw [if_neg h1, if_neg h2, if_neg h3, if_neg h4, if_neg h5, if_neg h6, if_pos h7]; exact ⟨ks _ (by simp [opK]) (by simp [opK]), ho.a1, ho.a2, ho.a3, i0, i0, i0, u0, u0, i0⟩
  by_cases h8 : o.k = 8
  · unfold lineR; rw [if_neg h1, if_neg h2, if_neg h3, if_neg h4, if_neg h5, if_neg h6, if_neg h7, if_pos h8]; exact ⟨ks _ (by simp [opK]) (by simp [opK]), ho.a1, ho.a2, ho.a3, ho.b1, ho.b2, ho.b3, u0, u0, ho.n⟩
  by_cases h9 : o.k = 9
  · unfold lineR; rw [if_neg h1, if_neg h2, if_neg h3, if_neg h4, if_neg h5, if_neg h6, if_neg h7, if_neg h8, if_pos h9]; exact opK_ok (ks _ (by simp) (by simp))
  by_cases h10 : o.k = 10
  · unfold lineR; rw [if_neg h1, if_neg h2, if_neg h3, if_neg h4, if_neg h5, if_neg h6, if_neg h7, if_neg h8, if_neg h9, if_pos h10]; exact opK_ok (ks _ (by simp) (by simp))
  by_cases h11 : o.k = 11
  · unfold lineR; rw [if_neg h1, if_neg h2, if_neg h3, if_neg h4, if_neg h5, if_neg h6, if_neg h7, if_neg h8, if_neg h9, if_neg h10, if_pos h11]; exact ⟨ks _ (by simp [opK]) (by simp [opK]), i0, i0, i0, i0, i0, i0, u0, u0, ho.n⟩
  · unfold lineR; rw [if_neg h1, if_neg h2, if_neg h3, if_neg h4, if_neg h5, if_neg h6, if_neg h7, if_neg h8, if_neg h9, if_neg h10, if_neg h11]; exact opK_ok ho.k
end Go.Proofs.YtjbhkmpabajeoaaDoor
