/- Lines of operations, as plain functions on lists of bytes: what is written, what is read, and that each undoes the other. -/
import Derived.Lib.Join
import Derived.Lib.AtoiAll
import Derived.Lib.AtoiAllCases
import Derived.Lib.ItoaLen
import Derived.Lib.SplitLaws
namespace Go.Proofs.YtjbhkmpabajeoaaDoor
set_option linter.unusedSimpArgs false
set_option linter.unusedVariables false
open Go.Lib

abbrev Bs := List UInt8

/-! ### words -/
/-- What stands between blanks. -/
def words : Bs → List Bs
  | [] => [[]]
  | c :: s => if c = 32 then [] :: words s else match words s with | [] => [[c]] | w :: r => (c :: w) :: r
theorem words_ne : ∀ s, words s ≠ []
  | [] => by simp [words]
  | c :: s => by
    unfold words
    split
    · simp
    · split <;> simp
theorem words_blank (s : Bs) : words (32 :: s) = [] :: words s := by simp [words]
theorem words_letter (c : UInt8) (s : Bs) (h : c ≠ 32) : ∃ w r, words s = w :: r ∧ words (c :: s) = (c :: w) :: r := by
  have h0 := words_ne s
  cases hw : words s with
  | nil => exact absurd hw h0
  | cons w r => exact ⟨w, r, rfl, by simp [words, h, hw]⟩
def noB (w : Bs) : Prop := ∀ c ∈ w, c ≠ 32
theorem noB_nil : noB [] := fun c h => by cases h
theorem noB_cons {c : UInt8} {w : Bs} : noB (c :: w) ↔ c ≠ 32 ∧ noB w := by
  constructor
  · exact fun h => ⟨h c List.mem_cons_self, fun d hd => h d (List.mem_cons_of_mem _ hd)⟩
  · rintro ⟨h1, h2⟩ d hd
    rcases List.mem_cons.1 hd with rfl | hd
    · exact h1
    · exact h2 d hd
theorem words_noB : ∀ s, ∀ w ∈ words s, noB w
  | [] => by simp [words, noB_nil]
  | c :: s => by
    by_cases h : c = 32
    · subst h
      rw [words_blank]
      intro w hw
      rcases List.mem_cons.1 hw with rfl | hw
      · exact noB_nil
      · exact words_noB s w hw
    · obtain ⟨w, r, h1, h2⟩ := words_letter c s h
      have ih := words_noB s
      rw [h1] at ih
      rw [h2]
      intro v hv
      rcases List.mem_cons.1 hv with rfl | hv
      · exact noB_cons.2 ⟨h, ih w List.mem_cons_self⟩
      · exact ih v (List.mem_cons_of_mem _ hv)
theorem join_cons_cons (x y : Bs) (r : List Bs) : join (x :: y :: r) [32] = x ++ 32 :: join (y :: r) [32] := by
  rw [join_cons, join_cons]
  simp [joinTail]
theorem join_words : ∀ s, join (words s) [32] = s
  | [] => by simp [words, join_one]
  | c :: s => by
    have ih := join_words s
    by_cases h : c = 32
    · subst h
      rw [words_blank]
      have h0 := words_ne s
      cases hw : words s with
      | nil => exact absurd hw h0
      | cons w r => rw [join_cons_cons, ← hw, ih]; rfl
    · obtain ⟨w, r, h1, h2⟩ := words_letter c s h
      rw [h2]
      rw [h1] at ih
      cases r with
      | nil => rw [join_one] at ih ⊢; rw [ih]
      | cons v r => rw [join_cons_cons] at ih ⊢; rw [← ih]; rfl
theorem words_append : ∀ (w s : Bs), noB w → words (w ++ 32 :: s) = w :: words s
  | [], s, _ => words_blank s
  | c :: w, s, h => by
    obtain ⟨h1, h2⟩ := noB_cons.1 h
    have ih := words_append w s h2
    obtain ⟨v, r, h3, h4⟩ := words_letter c (w ++ 32 :: s) h1
    rw [List.cons_append, h4]
    rw [ih] at h3
    injection h3 with e1 e2
    rw [e1, e2]
theorem words_one : ∀ (w : Bs), noB w → words w = [w]
  | [], _ => rfl
  | c :: w, h => by
    obtain ⟨h1, h2⟩ := noB_cons.1 h
    have ih := words_one w h2
    obtain ⟨v, r, h3, h4⟩ := words_letter c w h1
    rw [h4]
    rw [ih] at h3
    injection h3 with e1 e2
    rw [← e1, ← e2]
theorem words_join : ∀ (w : Bs) (r : List Bs), (∀ v ∈ w :: r, noB v) → words (join (w :: r) [32]) = w :: r
  | w, [], h => by rw [join_one]; exact words_one w (h w List.mem_cons_self)
  | w, v :: r, h => by
    rw [join_cons_cons, words_append _ _ (h w List.mem_cons_self), words_join v r (fun u hu => h u (List.mem_cons_of_mem _ hu))]

/-- The library's Split at a blank. -/
theorem splitK_words : ∀ (s : Bs), splitK [32] 0 (count s [32]) s = words s
  | [] => by rw [count_miss (by simp [index])]; rfl
  | c :: s => by
    have ih := splitK_words s
    by_cases h : c = 32
    · subst h
      rw [count_cons_eq, Nat.add_comm, words_blank]
      have hix : index ((32 : UInt8) :: s) [32] = ((0 : Nat) : Int) := by rw [index]; simp [List.isPrefixOf]
      unfold splitK
      rw [if_neg (by rw [hix]; decide), hix]
      simpa using ih
    · rw [count_cons_ne c 32 s h]
      obtain ⟨w, r, h1, h2⟩ := words_letter c s h
      rw [h2]
      rw [h1] at ih
      have hp : ([32] : Bs).isPrefixOf (c :: s) = false := by simp [List.isPrefixOf, Ne.symm h]
      have hix : index (c :: s) [32] = if index s [32] == -1 then -1 else index s [32] + 1 := by rw [index, hp]; simp
      by_cases hm : index s [32] = -1
      · rw [count_miss hm] at ih ⊢
        have e : [s] = w :: r := ih
        injection e with e1 e2
        rw [← e1, ← e2]
        rfl
      · have hge := index_ge s [32]
        obtain ⟨j, hj⟩ : ∃ j : Nat, index s [32] = j := ⟨(index s [32]).toNat, by omega⟩
        have hix' : index (c :: s) [32] = ((j + 1 : Nat) : Int) := by rw [hix, if_neg (fun e => hm (beq_iff_eq.1 e)), hj]; omega
        rw [count_hit (by simp) hj] at ih ⊢
        rw [Nat.add_comm] at ih ⊢
        unfold splitK at ih ⊢
        rw [if_neg (by rw [hj]; simp <;> omega), hj] at ih
        rw [if_neg (by rw [hix']; simp; omega), hix']
        simp only [Int.toNat_natCast, Nat.add_zero, List.take_succ_cons] at ih ⊢
        injection ih with e1 e2
        rw [e1]
        exact congrArg _ e2

/-! ### numbers -/
def InI (n : Int) : Prop := -9223372036854775808 ≤ n ∧ n ≤ 9223372036854775807
theorem digit_toNat {d : Nat} (h : d < 10) : (UInt8.ofNat (48 + d)).toNat = 48 + d := by
  rw [UInt8.toNat_ofNat']; omega
theorem dec_digits : ∀ (u : Nat), ∀ c ∈ decDigits u, 48 ≤ c.toNat ∧ c.toNat ≤ 57 := by
  intro u
  induction u using Nat.strongRecOn with
  | _ u ih =>
    intro c hc
    rw [decDigits] at hc
    split at hc
    · rename_i h
      simp only [List.mem_singleton] at hc
      rw [hc, digit_toNat h]
      omega
    · rename_i h
      rcases List.mem_append.1 hc with hc | hc
      · exact ih (u / 10) (by omega) c hc
      · simp only [List.mem_singleton] at hc
        rw [hc, digit_toNat (by omega)]; omega
theorem dec_ne (u : Nat) : decDigits u ≠ [] := by
  intro e
  have := decDigits_length u
  rw [e] at this
  have := nDigits_pos u
  simp at *
  omega
theorem digit_noB {c : UInt8} (h : 48 ≤ c.toNat ∧ c.toNat ≤ 57) : c ≠ 32 := by
  rintro rfl
  simp at h
theorem itoa_noB (n : Int) : noB (itoa n) := by
  unfold itoa
  split
  · exact noB_cons.2 ⟨by decide, fun c hc => digit_noB (dec_digits _ c hc)⟩
  · exact fun c hc => digit_noB (dec_digits _ c hc)
theorem itoa_ne (n : Int) : itoa n ≠ [] := by
  unfold itoa
  split
  · simp
  · exact dec_ne _
theorem parse_append : ∀ (l r : Bs) (acc v : Nat), parseUint10 acc l = .ok v → parseUint10 acc (l ++ r) = parseUint10 v r
  | [], r, acc, v, h => by
    simp only [parseUint10] at h
    injection h with h
    rw [h]; rfl
  | c :: l, r, acc, v, h => by
    simp only [parseUint10, List.cons_append] at h ⊢
    split at h
    · split at h
      · cases h
      · split at h
        · cases h
        · rename_i h1 h2 h3
          rw [if_pos h1, if_neg h2, if_neg h3]
          exact parse_append l r _ v h
    · cases h
theorem parse_one {v d : Nat} (hd : d < 10) (hv : v * 10 + d < 18446744073709551616) : parseUint10 v [UInt8.ofNat (48 + d)] = .ok (v * 10 + d) := by
  unfold parseUint10
  rw [digit_toNat hd, if_pos (by omega), if_neg (by omega), if_neg (by omega), show v * 10 + (48 + d - 48) = v * 10 + d by omega]
  rfl
theorem parse_dec : ∀ u, u < 18446744073709551616 → parseUint10 0 (decDigits u) = .ok u := by
  intro u
  induction u using Nat.strongRecOn with
  | _ u ih =>
    intro hu
    rw [decDigits]
    split
    · rename_i h
      rw [parse_one h (by omega)]
      simp
    · rename_i h
      rw [parse_append _ _ _ _ (ih (u / 10) (by omega) (by omega)), parse_one (by omega) (by omega)]
      congr 1
      omega
theorem mag_dec (u : Nat) (hu : u < 18446744073709551616) : parseMag (decDigits u) = .ok u := by
  unfold parseMag
  rw [if_neg (dec_ne u), parse_dec u hu]
theorem atoi_itoa {n : Int} (h : InI n) : atoiAll (itoa n) = .ok n := by
  obtain ⟨h1, h2⟩ := h
  unfold itoa
  split
  · rename_i hn
    rw [atoiAll_minus, mag_dec _ (by omega)]
    simp only [signed]
    rw [if_neg (by omega)]
    congr 1
    omega
  · rename_i hn
    have hne := dec_ne n.toNat
    have hd := dec_digits n.toNat
    have hm := mag_dec n.toNat (by omega)
    cases hc : decDigits n.toNat with
    | nil => exact absurd hc hne
    | cons c r =>
      rw [hc] at hd hm
      have := hd c List.mem_cons_self
      rw [atoiAll_plain c r (by omega) (by omega), hm]
      simp only [signless]
      rw [if_neg (by omega)]
      congr 1
      omega
/-- A word that is just a number's digits. -/
def numP (w : Bs) : Option Int := match atoiAll w with | .ok v => if itoa v = w then some v else none | _ => none
theorem numP_itoa {n : Int} (h : InI n) : numP (itoa n) = some n := by
  unfold numP
  rw [atoi_itoa h]
  simp
theorem numP_some {w : Bs} {v : Int} (h : numP w = some v) : w = itoa v ∧ InI v := by
  unfold numP at h
  split at h
  · rename_i u hu
    split at h
    · rename_i e
      injection h with h
      subst h
      exact ⟨e.symm, atoiAll_bounds hu⟩
    · cases h
  · cases h
theorem itoa_inj {m n : Int} (hm : InI m) (hn : InI n) (h : itoa m = itoa n) : m = n := by
  have h1 := numP_itoa hm
  rw [h, numP_itoa hn] at h1
  injection h1 with h1
  exact h1.symm

/-! ### names and rows -/
def names : List Bs := [[97, 105, 114], [98, 101, 100, 114, 111, 99, 107], [115, 116, 111, 110, 101], [115, 111, 105, 108], [115, 97, 110, 100], [103, 114, 97, 118, 101, 108], [119, 111, 111, 100], [108, 101, 97, 118, 101, 115], [97, 115, 104], [103, 108, 97, 115, 115], [109, 111, 118, 101, 114], [116, 111, 114, 99, 104], [112, 108, 97, 110, 116], [119, 97, 116, 101, 114], [102, 105, 114, 101]]
def nameK (k : Int) : Bs := if 0 ≤ k ∧ k < 15 then names.getD k.toNat [] else []
def kindOf (s : Bs) : Option Nat := names.findIdx? (fun w => w == s)
def dirs : List Bs := [[101, 97, 115, 116], [119, 101, 115, 116], [115, 111, 117, 116, 104], [110, 111, 114, 116, 104], [117, 112], [100, 111, 119, 110]]
def dirOf (s : Bs) : Option Nat := dirs.findIdx? (fun w => w == s)
def rowL : List (Bs × Bs) := [([115, 101, 116], [112, 99]), ([102, 105, 108, 108], [112, 98, 99]), ([112, 117, 115, 104], [112, 100]), ([97, 110, 99, 104, 111, 114], [110, 112]), ([108, 105, 102, 116], [110]), ([116, 105, 99, 107], [110]), ([108, 111, 111, 107], [112]), ([114, 97, 121], [112, 98, 110]), ([115, 97, 118, 101], []), ([99, 111, 117, 110, 116], []), ([99, 114, 97, 115, 104], [110])]
def rowOf (k : Int) : Bs × Bs := if 1 ≤ k ∧ k ≤ 11 then rowL.getD (k - 1).toNat ([], []) else ([], [])
theorem findIdx_nodup {l : List Bs} (hn : l.Nodup) {i : Nat} (hi : i < l.length) : l.findIdx? (fun w => w == l[i]) = some i := by
  rw [List.findIdx?_eq_some_iff_getElem]
  refine ⟨hi, by simp, fun j hj => ?_⟩
  have := (List.nodup_iff_pairwise_ne.1 hn)
  rw [List.pairwise_iff_getElem] at this
  have h2 := this j i (by omega) hi hj
  simpa using h2
theorem findIdx_some {l : List Bs} {s : Bs} {i : Nat} (h : l.findIdx? (fun w => w == s) = some i) : i < l.length ∧ l.getD i [] = s := by
  rw [List.findIdx?_eq_some_iff_getElem] at h
  obtain ⟨h1, h2, _⟩ := h
  refine ⟨h1, ?_⟩
  rw [List.getD_eq_getElem?_getD, List.getElem?_eq_getElem h1]
  simpa using h2
theorem findIdx_getD {l : List Bs} (hn : l.Nodup) {i : Nat} (hi : i < l.length) : l.findIdx? (fun w => w == l.getD i []) = some i := by
  rw [List.getD_eq_getElem?_getD, List.getElem?_eq_getElem hi]
  exact findIdx_nodup hn hi
theorem names_nodup : names.Nodup := by decide
theorem dirs_nodup : dirs.Nodup := by decide
theorem names_ok : ∀ i : Fin 15, names.getD i.val [] ≠ [] ∧ (names.getD i.val []).all (fun c => c != 32) = true ∧ (names.getD i.val []).length ≤ 7 := by decide
theorem dirs_ok : ∀ i : Fin 6, dirs.getD i.val [] ≠ [] ∧ (dirs.getD i.val []).all (fun c => c != 32) = true ∧ (dirs.getD i.val []).length ≤ 5 := by decide
theorem rows_ok : ∀ i : Fin 11, (rowL.getD i.val ([], [])).1 ≠ [] ∧ (rowL.getD i.val ([], [])).1.all (fun c => c != 32) = true ∧ (rowL.getD i.val ([], [])).1.length ≤ 6 := by decide
theorem noB_of_all {w : Bs} (h : w.all (fun c => c != 32) = true) : noB w := by
  intro c hc
  have := List.all_eq_true.1 h c hc
  simpa using this
theorem nameK_some {k : Int} (h : nameK k ≠ []) : ∃ i : Nat, i < 15 ∧ k = i ∧ nameK k = names.getD i [] := by
  unfold nameK at h ⊢
  split at h
  · rename_i hk
    exact ⟨k.toNat, by omega, by omega, by rw [if_pos hk]⟩
  · exact absurd rfl h
theorem nameK_at {i : Nat} (h : i < 15) : nameK i = names.getD i [] := by
  unfold nameK
  rw [if_pos (by omega)]
  rfl
theorem nameK_noB (k : Int) : noB (nameK k) := by
  by_cases h : nameK k = []
  · rw [h]; exact noB_nil
  · obtain ⟨i, hi, _, e⟩ := nameK_some h
    rw [e]
    exact noB_of_all (names_ok ⟨i, hi⟩).2.1
theorem nameK_len (k : Int) : (nameK k).length ≤ 7 := by
  by_cases h : nameK k = []
  · rw [h]; simp
  · obtain ⟨i, hi, _, e⟩ := nameK_some h
    rw [e]
    exact (names_ok ⟨i, hi⟩).2.2
theorem kindOf_name {k : Int} (h : nameK k ≠ []) : kindOf (nameK k) = some k.toNat := by
  obtain ⟨i, hi, e1, e⟩ := nameK_some h
  rw [e, e1]
  exact findIdx_getD names_nodup (by simpa [names] using hi)
theorem kindOf_some {s : Bs} {i : Nat} (h : kindOf s = some i) : i < 15 ∧ nameK i = s := by
  obtain ⟨h1, h2⟩ := findIdx_some h
  have h1 : i < 15 := by simpa [names] using h1
  exact ⟨h1, by rw [nameK_at h1, h2]⟩
theorem dirOf_at {i : Nat} (h : i < 6) : dirOf (dirs.getD i []) = some i := findIdx_getD dirs_nodup (by simpa [dirs] using h)
theorem dirOf_some {s : Bs} {i : Nat} (h : dirOf s = some i) : i < 6 ∧ dirs.getD i [] = s := by
  obtain ⟨h1, h2⟩ := findIdx_some h
  exact ⟨by simpa [dirs] using h1, h2⟩
end Go.Proofs.YtjbhkmpabajeoaaDoor
