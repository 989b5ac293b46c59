/- What the words of a line may mean: the operation that a line is, is among them. -/
import Derived.Test.YtjbhkmpabajeoaaDoorLFNumW
namespace Go.Proofs.YtjbhkmpabajeoaaDoor
set_option linter.unusedSimpArgs false
set_option linter.unusedVariables false
open Go.Lib (itoa join)

def kindN (s : Bs) : Int := (((kindOf s).getD 0 : Nat) : Int)
def tries (n : Nat → Int) (k m : Int) : List OpR :=
  [{ opK 1 with a1 := n 0, a2 := n 1, a3 := n 2, c1 := k, c2 := n 4 % 256 },
   { opK 2 with a1 := n 0, a2 := n 1, a3 := n 2, b1 := n 3, b2 := n 4, b3 := n 5, c1 := m, c2 := n 7 % 256 },
   { opK 4 with n := n 0, a1 := n 1, a2 := n 2, a3 := n 3 },
   { opK 5 with n := n 0 }, { opK 6 with n := n 0 }, { opK 7 with a1 := n 0, a2 := n 1, a3 := n 2 },
   { opK 8 with a1 := n 0, a2 := n 1, a3 := n 2, b1 := n 3, b2 := n 4, b3 := n 5, n := n 6 }, opK 9, opK 10, { opK 11 with n := n 0 }] ++
  (List.range 6).map fun (d : Nat) => { opK 3 with a1 := n 0, a2 := n 1, a3 := n 2, n := (d : Int) }
def numsOf (ws : List Bs) (i : Nat) : Int := ((ws.drop 1).map numV).getD i 0
def triesS (s : Bs) : List OpR := tries (numsOf (words s)) (kindN ((words s).getD 4 [])) (kindN ((words s).getD 7 []))
theorem kindN_name {k : Int} (h : nameK k ≠ []) (hk : InU k) : kindN (nameK k) = k := by
  unfold kindN InU at *
  rw [kindOf_name h]
  simp
  omega
theorem mod_u {n : Int} (h : InU n) : n % 256 = n := by unfold InU at h; omega
theorem get_tries {o : OpR} {s : Bs} (h : getP s = some o) : o ∈ triesS s := by
  obtain ⟨hp, ho⟩ := put_get h
  obtain ⟨i, l, hi, hk, _, hl, hu, _, hw⟩ := put_words hp
  unfold triesS
  rw [hw]
  obtain ⟨k, a1, a2, a3, b1, b2, b3, c1, c2, n⟩ := o
  simp only at hk
  subst hk
  have q1 := num_itoa ho.a1
  have q2 := num_itoa ho.a2
  have q3 := num_itoa ho.a3
  have q4 := num_itoa ho.b1
  have q5 := num_itoa ho.b2
  have q6 := num_itoa ho.b3
  have q8 := num_itoa ho.c2.i
  have q9 := num_itoa ho.n
  have m2 := mod_u ho.c2
  simp only at q1 q2 q3 q4 q5 q6 q8 q9 m2
  have hc := ho.c1
  clear ho hp hw h
  match i, hi with
  | 0, _ =>
    by_cases hn : nameK c1 = []
    · simp [rowL, partsW, partWords, hn] at hl
    · have hkn := kindN_name hn hc
      simp [rowL, partsW, partWords, hn] at hl
      simp [rowL, usedAll, used, opK, @eq_comm Int 0] at hu
      subst hl
      simp [tries, numsOf, opK, rowL, q1, q2, q3, q8, hkn, m2, hu]
  | 1, _ =>
    by_cases hn : nameK c1 = []
    · simp [rowL, partsW, partWords, hn] at hl
    · have hkn := kindN_name hn hc
      simp [rowL, partsW, partWords, hn] at hl
      simp [rowL, usedAll, used, opK, @eq_comm Int 0] at hu
      subst hl
      simp [tries, numsOf, opK, rowL, q1, q2, q3, q4, q5, q6, q8, hkn, m2, hu]
  | 2, _ =>
    by_cases hn : 0 ≤ n ∧ n ≤ 5
    · simp [rowL, partsW, partWords, show ¬ (n < 0 ∨ 5 < n) by omega] at hl
      simp [rowL, usedAll, used, opK, @eq_comm Int 0] at hu
      subst hl
      simp [tries, numsOf, opK, rowL, q1, q2, q3, hu]
      exact ⟨n.toNat, by omega, by omega⟩
    · simp [rowL, partsW, partWords, show (n < 0 ∨ 5 < n) by omega] at hl
  | 3, _ => simp [rowL, partsW, partWords] at hl; simp [rowL, usedAll, used, opK, @eq_comm Int 0] at hu; subst hl; simp [tries, numsOf, opK, rowL, q1, q2, q3, q9, hu]
  | 4, _ => simp [rowL, partsW, partWords] at hl; simp [rowL, usedAll, used, opK, @eq_comm Int 0] at hu; subst hl; simp [tries, numsOf, opK, rowL, q9, hu]
  | 5, _ => simp [rowL, partsW, partWords] at hl; simp [rowL, usedAll, used, opK, @eq_comm Int 0] at hu; subst hl; simp [tries, numsOf, opK, rowL, q9, hu]
  | 6, _ => simp [rowL, partsW, partWords] at hl; simp [rowL, usedAll, used, opK, @eq_comm Int 0] at hu; subst hl; simp [tries, numsOf, opK, rowL, q1, q2, q3, hu]
  | 7, _ => simp [rowL, partsW, partWords] at hl; simp [rowL, usedAll, used, opK, @eq_comm Int 0] at hu; subst hl; simp [tries, numsOf, opK, rowL, q1, q2, q3, q4, q5, q6, q9, hu]
  | 8, _ => simp [rowL, partsW, partWords] at hl; simp [rowL, usedAll, used, opK, @eq_comm Int 0] at hu; subst hl; simp [tries, numsOf, opK, rowL, hu]
  | 9, _ => simp [rowL, partsW, partWords] at hl; simp [rowL, usedAll, used, opK, @eq_comm Int 0] at hu; subst hl; simp [tries, numsOf, opK, rowL, hu]
  | 10, _ => simp [rowL, partsW, partWords] at hl; simp [rowL, usedAll, used, opK, @eq_comm Int 0] at hu; subst hl; simp [tries, numsOf, opK, rowL, q9, hu]
theorem kindN_in (s : Bs) : InU (kindN s) := by
  unfold kindN InU
  cases h : kindOf s with
  | none => simp
  | some i => have := (kindOf_some h).1; simp; omega
theorem numV_in (s : Bs) : InI (numV s) := by
  unfold numV
  split
  · unfold InI; omega
  · cases h : numLoop 0 (s.drop (signed s)) with
    | none => unfold InI; simp
    | some n =>
      simp only []
      split
      · unfold InI; rw [IntKind.wrap_i64]; omega
      · exact numLoop_in _ 0 n (by unfold InI; omega) h
theorem numsOf_in (ws : List Bs) (i : Nat) : InI (numsOf ws i) := by
  unfold numsOf
  rw [List.getD_eq_getElem?_getD, List.getElem?_map]
  cases (ws.drop 1)[i]? with
  | none => unfold InI; simp
  | some v => exact numV_in v
theorem tries_ok {n : Nat → Int} {k m : Int} (hn : ∀ i, InI (n i)) (hk : InU k) (hm : InU m) : ∀ t ∈ tries n k m, t.Ok := by
  have h0 : InI 0 := inI0
  have u0 : InU 0 := inU0
  have hmod : ∀ x : Int, InU (x % 256) := fun x => by unfold InU; omega
  have hs : ∀ d : Nat, d < 6 → InI (d : Int) := fun d hd => by unfold InI; omega
  have hq : ∀ q : Int, 0 ≤ q → q ≤ 20 → InI q := fun q h1 h2 => by unfold InI; omega
  intro t ht
  unfold tries at ht
  rcases List.mem_append.1 ht with ht | ht
  · simp only [List.mem_cons, List.not_mem_nil, or_false] at ht
    rcases ht with rfl | rfl | rfl | rfl | rfl | rfl | rfl | rfl | rfl | rfl <;> exact ⟨hq _ (by simp [opK]) (by simp [opK]), by first | exact hn _ | exact h0, by first | exact hn _ | exact h0, by first | exact hn _ | exact h0, by first | exact hn _ | exact h0, by first | exact hn _ | exact h0, by first | exact hn _ | exact h0, by first | exact hk | exact hm | exact u0, by first | exact hmod _ | exact u0, by first | exact hn _ | exact h0⟩
  · obtain ⟨d, hd, rfl⟩ := List.mem_map.1 ht
    exact ⟨hq _ (by simp [opK]) (by simp [opK]), hn _, hn _, hn _, h0, h0, h0, u0, u0, hs d (List.mem_range.1 hd)⟩
theorem triesS_ok (s : Bs) : ∀ t ∈ triesS s, t.Ok := tries_ok (numsOf_in _) (kindN_in _) (kindN_in _)
/-- The first of them that is written so: what is got. -/
theorem tries_find (s : Bs) : (triesS s).find? (fun t => putP t == some s) = getP s := by
  cases h : (triesS s).find? (fun t => putP t == some s) with
  | none =>
    cases hg : getP s with
    | none => rfl
    | some o =>
      have := List.find?_eq_none.1 h o (get_tries hg)
      simp [(put_get hg).1] at this
  | some t =>
    have h1 := List.find?_some h
    have h2 := List.mem_of_find?_eq_some h
    exact (get_put (triesS_ok s t h2) (by simpa using h1)).symm
end Go.Proofs.YtjbhkmpabajeoaaDoor
