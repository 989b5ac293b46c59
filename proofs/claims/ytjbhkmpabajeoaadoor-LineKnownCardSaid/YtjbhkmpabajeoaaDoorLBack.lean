/- What is read is written so. -/
import Derived.Test.YtjbhkmpabajeoaaDoorLOps
namespace Go.Proofs.YtjbhkmpabajeoaaDoor
set_option linter.unusedSimpArgs false
set_option linter.unusedVariables false
open Go.Lib

theorem inI_small {n : Int} (h1 : -1000 ≤ n) (h2 : n ≤ 1000) : InI n := by unfold InI; omega
theorem inI0 : InI 0 := by unfold InI; decide
theorem inU0 : InU 0 := by unfold InU; decide
theorem read112 {u u' : OpR} {ws r : List Bs} : readPart u 112 ws = some (u', r) ↔ ∃ x y z, (InI x ∧ InI y ∧ InI z) ∧ ws = itoa x :: itoa y :: itoa z :: r ∧ u' = { u with a1 := x, a2 := y, a3 := z } := by
  unfold readPart
  rw [if_pos rfl]
  constructor
  · intro h
    simp only [Option.map_eq_some_iff, Prod.mk.injEq] at h
    obtain ⟨⟨⟨x, y, z⟩, r'⟩, h1, rfl, rfl⟩ := h
    obtain ⟨h2, h3⟩ := take3_iff.1 h1
    exact ⟨x, y, z, h2, h3, rfl⟩
  · rintro ⟨x, y, z, h2, h3, rfl⟩
    rw [take3_iff.2 ⟨h2, h3⟩]
    rfl
theorem read98 {u u' : OpR} {ws r : List Bs} : readPart u 98 ws = some (u', r) ↔ ∃ x y z, (InI x ∧ InI y ∧ InI z) ∧ ws = itoa x :: itoa y :: itoa z :: r ∧ u' = { u with b1 := x, b2 := y, b3 := z } := by
  unfold readPart
  rw [if_neg (by decide), if_pos rfl]
  constructor
  · intro h
    simp only [Option.map_eq_some_iff, Prod.mk.injEq] at h
    obtain ⟨⟨⟨x, y, z⟩, r'⟩, h1, rfl, rfl⟩ := h
    obtain ⟨h2, h3⟩ := take3_iff.1 h1
    exact ⟨x, y, z, h2, h3, rfl⟩
  · rintro ⟨x, y, z, h2, h3, rfl⟩
    rw [take3_iff.2 ⟨h2, h3⟩]
    rfl
theorem read99 {u u' : OpR} {ws r : List Bs} : readPart u 99 ws = some (u', r) ↔ ∃ x y, (nameK x ≠ [] ∧ InU y) ∧ ws = nameK x :: itoa y :: r ∧ u' = { u with c1 := x, c2 := y } := by
  unfold readPart
  rw [if_neg (by decide), if_neg (by decide), if_pos rfl]
  constructor
  · intro h
    simp only [Option.map_eq_some_iff, Prod.mk.injEq] at h
    obtain ⟨⟨⟨x, y⟩, r'⟩, h1, rfl, rfl⟩ := h
    obtain ⟨h2, h3⟩ := takeC_iff.1 h1
    exact ⟨x, y, h2, h3, rfl⟩
  · rintro ⟨x, y, h2, h3, rfl⟩
    rw [takeC_iff.2 ⟨h2, h3⟩]
    rfl
theorem read100 {u u' : OpR} {ws r : List Bs} : readPart u 100 ws = some (u', r) ↔ ∃ x, (0 ≤ x ∧ x ≤ 5) ∧ ws = dirs.getD x.toNat [] :: r ∧ u' = { u with n := x } := by
  unfold readPart
  rw [if_neg (by decide), if_neg (by decide), if_neg (by decide), if_pos rfl]
  constructor
  · intro h
    simp only [Option.map_eq_some_iff, Prod.mk.injEq] at h
    obtain ⟨⟨x, r'⟩, h1, rfl, rfl⟩ := h
    obtain ⟨h2, h3⟩ := takeD_iff.1 h1
    exact ⟨x, h2, h3, rfl⟩
  · rintro ⟨x, h2, h3, rfl⟩
    rw [takeD_iff.2 ⟨h2, h3⟩]
    rfl
theorem read110 {u u' : OpR} {ws r : List Bs} : readPart u 110 ws = some (u', r) ↔ ∃ x, InI x ∧ ws = itoa x :: r ∧ u' = { u with n := x } := by
  unfold readPart
  rw [if_neg (by decide), if_neg (by decide), if_neg (by decide), if_neg (by decide)]
  constructor
  · intro h
    simp only [Option.map_eq_some_iff, Prod.mk.injEq] at h
    obtain ⟨⟨x, r'⟩, h1, rfl, rfl⟩ := h
    obtain ⟨h2, h3⟩ := takeN_iff.1 h1
    exact ⟨x, h2, h3, rfl⟩
  · rintro ⟨x, h2, h3, rfl⟩
    rw [takeN_iff.2 ⟨h2, h3⟩]
    rfl
theorem readP_nil {u o : OpR} {ws : List Bs} : readP u [] ws = some o ↔ ws = [] ∧ o = u := by
  unfold readP
  constructor
  · intro h
    split at h
    · rename_i e
      injection h with h
      exact ⟨e, h.symm⟩
    · cases h
  · rintro ⟨rfl, rfl⟩
    rfl
theorem readP_cons {u o : OpR} {p : UInt8} {ps : Bs} {ws : List Bs} : readP u (p :: ps) ws = some o ↔ ∃ u' r, readPart u p ws = some (u', r) ∧ readP u' ps r = some o := by
  rw [readP, Option.bind_eq_some_iff]
  constructor
  · rintro ⟨⟨u', r⟩, h1, h2⟩
    exact ⟨u', r, h1, h2⟩
  · rintro ⟨u', r, h1, h2⟩
    exact ⟨(u', r), h1, h2⟩
theorem inI_row {i : Nat} (h : i < 11) : InI ((i : Int) + 1) := by unfold InI; omega
set_option maxRecDepth 10000 in
theorem read_back {i : Nat} (hi : i < 11) {ws : List Bs} {o : OpR} (h : readP (opK ((i : Int) + 1)) (rowL.getD i ([], [])).2 ws = some o) :
    o.k = (i : Int) + 1 ∧ partsW o (rowL.getD i ([], [])).2 = some ws ∧ usedAll o (rowL.getD i ([], [])).2 = o ∧ o.Ok := by
  have hk := inI_row hi
  obtain rfl | rfl | rfl | rfl | rfl | rfl | rfl | rfl | rfl | rfl | rfl : i = 0 ∨ i = 1 ∨ i = 2 ∨ i = 3 ∨ i = 4 ∨ i = 5 ∨ i = 6 ∨ i = 7 ∨ i = 8 ∨ i = 9 ∨ i = 10 := by omega
  · obtain ⟨_, _, h1, h⟩ := readP_cons.1 h
    obtain ⟨_, _, h2, h⟩ := readP_cons.1 h
    obtain ⟨x, y, z, ⟨i1, i2, i3⟩, rfl, rfl⟩ := read112.1 h1
    obtain ⟨c, d, ⟨i4, i5⟩, rfl, rfl⟩ := read99.1 h2
    obtain ⟨rfl, rfl⟩ := readP_nil.1 h
    obtain ⟨j, hj, rfl, _⟩ := nameK_some i4
    exact ⟨rfl, by simp [rowL, partsW, partWords, i4], by simp [rowL, usedAll, used, opK], ⟨hk, i1, i2, i3, inI0, inI0, inI0, by unfold InU; simp only []; omega, i5, inI0⟩⟩
  · obtain ⟨_, _, h1, h⟩ := readP_cons.1 h
    obtain ⟨_, _, h0, h⟩ := readP_cons.1 h
    obtain ⟨_, _, h2, h⟩ := readP_cons.1 h
    obtain ⟨x, y, z, ⟨i1, i2, i3⟩, rfl, rfl⟩ := read112.1 h1
    obtain ⟨x', y', z', ⟨j1, j2, j3⟩, rfl, rfl⟩ := read98.1 h0
    obtain ⟨c, d, ⟨i4, i5⟩, rfl, rfl⟩ := read99.1 h2
    obtain ⟨rfl, rfl⟩ := readP_nil.1 h
    obtain ⟨j, hj, rfl, _⟩ := nameK_some i4
    exact ⟨rfl, by simp [rowL, partsW, partWords, i4], by simp [rowL, usedAll, used, opK], ⟨hk, i1, i2, i3, j1, j2, j3, by unfold InU; simp only []; omega, i5, inI0⟩⟩
  · obtain ⟨_, _, h1, h⟩ := readP_cons.1 h
    obtain ⟨_, _, h2, h⟩ := readP_cons.1 h
    obtain ⟨x, y, z, ⟨i1, i2, i3⟩, rfl, rfl⟩ := read112.1 h1
    obtain ⟨c, i4, rfl, rfl⟩ := read100.1 h2
    obtain ⟨rfl, rfl⟩ := readP_nil.1 h
    exact ⟨rfl, by simp [rowL, partsW, partWords, show ¬ (c < 0 ∨ 5 < c) by omega], by simp [rowL, usedAll, used, opK], ⟨hk, i1, i2, i3, inI0, inI0, inI0, inU0, inU0, inI_small (by simp only []; omega) (by simp only []; omega)⟩⟩
  · obtain ⟨_, _, h1, h⟩ := readP_cons.1 h
    obtain ⟨_, _, h2, h⟩ := readP_cons.1 h
    obtain ⟨c, i4, rfl, rfl⟩ := read110.1 h1
    obtain ⟨x, y, z, ⟨i1, i2, i3⟩, rfl, rfl⟩ := read112.1 h2
    obtain ⟨rfl, rfl⟩ := readP_nil.1 h
    exact ⟨rfl, by simp [rowL, partsW, partWords], by simp [rowL, usedAll, used, opK], ⟨hk, i1, i2, i3, inI0, inI0, inI0, inU0, inU0, i4⟩⟩
  · obtain ⟨_, _, h1, h⟩ := readP_cons.1 h
    obtain ⟨c, i4, rfl, rfl⟩ := read110.1 h1
    obtain ⟨rfl, rfl⟩ := readP_nil.1 h
    exact ⟨rfl, by simp [rowL, partsW, partWords], by simp [rowL, usedAll, used, opK], ⟨hk, inI0, inI0, inI0, inI0, inI0, inI0, inU0, inU0, i4⟩⟩
  · obtain ⟨_, _, h1, h⟩ := readP_cons.1 h
    obtain ⟨c, i4, rfl, rfl⟩ := read110.1 h1
    obtain ⟨rfl, rfl⟩ := readP_nil.1 h
    exact ⟨rfl, by simp [rowL, partsW, partWords], by simp [rowL, usedAll, used, opK], ⟨hk, inI0, inI0, inI0, inI0, inI0, inI0, inU0, inU0, i4⟩⟩
  · obtain ⟨_, _, h1, h⟩ := readP_cons.1 h
    obtain ⟨x, y, z, ⟨i1, i2, i3⟩, rfl, rfl⟩ := read112.1 h1
    obtain ⟨rfl, rfl⟩ := readP_nil.1 h
    exact ⟨rfl, by simp [rowL, partsW, partWords], by simp [rowL, usedAll, used, opK], ⟨hk, i1, i2, i3, inI0, inI0, inI0, inU0, inU0, inI0⟩⟩
  · obtain ⟨_, _, h1, h⟩ := readP_cons.1 h
    obtain ⟨_, _, h0, h⟩ := readP_cons.1 h
    obtain ⟨_, _, h2, h⟩ := readP_cons.1 h
    obtain ⟨x, y, z, ⟨i1, i2, i3⟩, rfl, rfl⟩ := read112.1 h1
    obtain ⟨x', y', z', ⟨j1, j2, j3⟩, rfl, rfl⟩ := read98.1 h0
    obtain ⟨c, i4, rfl, rfl⟩ := read110.1 h2
    obtain ⟨rfl, rfl⟩ := readP_nil.1 h
    exact ⟨rfl, by simp [rowL, partsW, partWords], by simp [rowL, usedAll, used, opK], ⟨hk, i1, i2, i3, j1, j2, j3, inU0, inU0, i4⟩⟩
  · obtain ⟨rfl, rfl⟩ := readP_nil.1 h
    exact ⟨rfl, by simp [rowL, partsW], by simp [rowL, usedAll, opK], ⟨hk, inI0, inI0, inI0, inI0, inI0, inI0, inU0, inU0, inI0⟩⟩
  · obtain ⟨rfl, rfl⟩ := readP_nil.1 h
    exact ⟨rfl, by simp [rowL, partsW], by simp [rowL, usedAll, opK], ⟨hk, inI0, inI0, inI0, inI0, inI0, inI0, inU0, inU0, inI0⟩⟩
  · obtain ⟨_, _, h1, h⟩ := readP_cons.1 h
    obtain ⟨c, i4, rfl, rfl⟩ := read110.1 h1
    obtain ⟨rfl, rfl⟩ := readP_nil.1 h
    exact ⟨rfl, by simp [rowL, partsW, partWords], by simp [rowL, usedAll, used, opK], ⟨hk, inI0, inI0, inI0, inI0, inI0, inI0, inU0, inU0, i4⟩⟩
/-- What is read is written so. -/
theorem put_get {o : OpR} {s : Bs} (h : getP s = some o) : putP o = some s ∧ o.Ok := by
  unfold getP at h
  split at h
  · cases h
  · rename_i w r hw
    rw [Option.bind_eq_some_iff] at h
    obtain ⟨i, hi, h⟩ := h
    obtain ⟨hj, rfl⟩ := kindW_some hi
    clear hi
    rw [row_at hj] at h
    obtain ⟨h1, h2, h3, h4⟩ := read_back hj h
    have hs := join_words s
    rw [hw] at hs
    refine ⟨?_, h4⟩
    unfold putP
    rw [h1, row_at hj, if_neg (rows_ok ⟨i, hj⟩).1, h2]
    simp only
    rw [if_pos h3, hs]
theorem get_iff {o : OpR} {s : Bs} (ho : o.Ok) : getP s = some o ↔ putP o = some s := ⟨fun h => (put_get h).1, get_put ho⟩

/-! ### lines that are none -/
theorem rows_apart : ∀ i j : Fin 11, (rowL.getD i.val ([], [])).1.isPrefixOf (rowL.getD j.val ([], [])).1 = true → i = j := by decide
/-- As many words as a row's parts have. -/
def partN (p : UInt8) : Nat := if p = 112 ∨ p = 98 then 3 else if p = 99 then 2 else 1
theorem part_count {o : OpR} {p : UInt8} {ws : List Bs} (h : partWords o p = some ws) : ws.length = partN p := by
  unfold partWords at h
  unfold partN
  split at h
  · rename_i e; injection h with h; subst h; simp [e]
  split at h
  · rename_i e; injection h with h; subst h; simp [e]
  split at h
  · rename_i e1 e2 e
    split at h
    · cases h
    · injection h with h; subst h; simp [e]
  split at h
  · rename_i e
    split at h
    · cases h
    · injection h with h; subst h; simp [e]
  · rename_i e1 e2 e3 e4; injection h with h; subst h; simp [e1, e2, e3]
theorem parts_count {o : OpR} : ∀ (ps : Bs) (ws : List Bs), partsW o ps = some ws → ws.length = (ps.map partN).sum
  | [], ws, h => by simp only [partsW, Option.some.injEq] at h; subst h; rfl
  | p :: ps, ws, h => by
    simp only [partsW, Option.bind_eq_some_iff, Option.map_eq_some_iff] at h
    obtain ⟨a, ha, b, hb, rfl⟩ := h
    rw [List.length_append, part_count ha, parts_count ps b hb, List.map_cons, List.sum_cons]
/-- A text whose first word begins another line's first word, and which has another number of words, is no line. -/
theorem get_none {o : OpR} {s t : Bs} (h : putP o = some s) (hp : ∀ w r v q, words t = w :: r → words s = v :: q → w.isPrefixOf v = true) (hn : (words t).length ≠ (words s).length) : getP t = none := by
  cases hg : getP t with
  | none => rfl
  | some o' =>
    exfalso
    obtain ⟨h1, _⟩ := put_get hg
    obtain ⟨i, l, hi, _, _, hl, _, _, hw⟩ := put_words h
    obtain ⟨j, m, hj, _, _, hm, _, _, hv⟩ := put_words h1
    have e := rows_apart ⟨j, hj⟩ ⟨i, hi⟩ (hp _ _ _ _ hv hw)
    have e : j = i := by injection e
    subst e
    apply hn
    rw [hw, hv, List.length_cons, List.length_cons, parts_count _ _ hl, parts_count _ _ hm]
theorem words_len : ∀ (a b : Bs), (words (a ++ b)).length + 1 = (words a).length + (words b).length
  | [], b => by simp [words]; omega
  | c :: a, b => by
    have ih := words_len a b
    by_cases h : c = 32
    · subst h
      rw [List.cons_append, words_blank, words_blank, List.length_cons, List.length_cons]
      omega
    · obtain ⟨w, r, h1, h2⟩ := words_letter c a h
      obtain ⟨w', r', h3, h4⟩ := words_letter c (a ++ b) h
      rw [List.cons_append, h4, h2]
      rw [h1, h3] at ih
      simpa using ih
theorem words_first : ∀ (a b : Bs), ∀ w r v q, words (a ++ 32 :: b) = w :: r → words (a ++ b) = v :: q → w.isPrefixOf v = true
  | [], b, w, r, v, q, h1, h2 => by
    rw [List.nil_append, words_blank] at h1
    injection h1 with e1 e2
    subst e1
    rfl
  | c :: a, b, w, r, v, q, h1, h2 => by
    by_cases h : c = 32
    · subst h
      rw [List.cons_append, words_blank] at h1
      injection h1 with e1 e2
      subst e1
      rfl
    · obtain ⟨w1, r1, h3, h4⟩ := words_letter c (a ++ 32 :: b) h
      obtain ⟨w2, r2, h5, h6⟩ := words_letter c (a ++ b) h
      rw [List.cons_append, h4] at h1
      rw [List.cons_append, h6] at h2
      injection h1 with e1 e2
      injection h2 with e3 e4
      subst e1 e3
      have ih := words_first a b _ _ _ _ h3 h5
      simp [List.isPrefixOf, ih]
/-- A blank more. -/
theorem get_blank {o : OpR} {a b : Bs} (h : putP o = some (a ++ b)) : getP (a ++ 32 :: b) = none := by
  refine get_none h (words_first a b) ?_
  have h1 := words_len a b
  have h2 := words_len a (32 :: b)
  rw [words_blank, List.length_cons] at h2
  omega
theorem first_same : ∀ (s t : Bs), ∀ w r v q, words (s ++ 32 :: t) = w :: r → words s = v :: q → w = v
  | [], t, w, r, v, q, h1, h2 => by
    rw [List.nil_append, words_blank] at h1
    simp only [words] at h2
    injection h1 with e1 e2
    injection h2 with e3 e4
    rw [← e1, ← e3]
  | c :: s, t, w, r, v, q, h1, h2 => by
    by_cases h : c = 32
    · subst h
      rw [List.cons_append, words_blank] at h1
      rw [words_blank] at h2
      injection h1 with e1 e2
      injection h2 with e3 e4
      rw [← e1, ← e3]
    · obtain ⟨w1, r1, h3, h4⟩ := words_letter c (s ++ 32 :: t) h
      obtain ⟨w2, r2, h5, h6⟩ := words_letter c s h
      rw [List.cons_append, h4] at h1
      rw [h6] at h2
      injection h1 with e1 e2
      injection h2 with e3 e4
      subst e1 e3
      rw [first_same s t _ _ _ _ h3 h5]
/-- Words behind a line. -/
theorem get_longer {o : OpR} {s t : Bs} (h : putP o = some s) : getP (s ++ 32 :: t) = none := by
  refine get_none h (fun w r v q h1 h2 => ?_) ?_
  · rw [first_same s t w r v q h1 h2]
    simp
  · have h2 := words_len s (32 :: t)
    rw [words_blank, List.length_cons] at h2
    have h3 : 0 < (words t).length := List.length_pos_iff.2 (words_ne t)
    omega
/-- How long a line is. -/
theorem part_len {o : OpR} {p : UInt8} {ws : List Bs} (ho : o.Ok) (h : partWords o p = some ws) : ∀ w ∈ ws, w.length ≤ 21 := by
  unfold partWords at h
  intro w hw
  split at h
  · injection h with h; subst h; simp at hw; rcases hw with rfl | rfl | rfl
    · exact itoa_length_le _ ho.a1.1 ho.a1.2
    · exact itoa_length_le _ ho.a2.1 ho.a2.2
    · exact itoa_length_le _ ho.a3.1 ho.a3.2
  split at h
  · injection h with h; subst h; simp at hw; rcases hw with rfl | rfl | rfl
    · exact itoa_length_le _ ho.b1.1 ho.b1.2
    · exact itoa_length_le _ ho.b2.1 ho.b2.2
    · exact itoa_length_le _ ho.b3.1 ho.b3.2
  split at h
  · split at h
    · cases h
    · injection h with h; subst h; simp at hw; rcases hw with rfl | rfl
      · have := nameK_len o.c1; omega
      · exact itoa_length_le _ ho.c2.i.1 ho.c2.i.2
  split at h
  · split at h
    · cases h
    · rename_i hn
      injection h with h; subst h; simp only [List.mem_singleton] at hw; subst hw
      exact Nat.le_trans (dirs_ok ⟨o.n.toNat, by omega⟩).2.2 (by decide)
  · injection h with h; subst h; simp only [List.mem_singleton] at hw; subst hw; exact itoa_length_le _ ho.n.1 ho.n.2
theorem parts_len {o : OpR} (ho : o.Ok) : ∀ (ps : Bs) (ws : List Bs), partsW o ps = some ws → ∀ w ∈ ws, w.length ≤ 21
  | [], ws, h, w, hw => by simp only [partsW, Option.some.injEq] at h; subst h; cases hw
  | p :: ps, ws, h, w, hw => by
    simp only [partsW, Option.bind_eq_some_iff, Option.map_eq_some_iff] at h
    obtain ⟨a, ha, b, hb, rfl⟩ := h
    rcases List.mem_append.1 hw with hw | hw
    · exact part_len ho ha w hw
    · exact parts_len ho ps b hb w hw
theorem lens_le {ws : List Bs} (h : ∀ w ∈ ws, w.length ≤ 21) : lens ws ≤ 21 * ws.length := by
  induction ws with
  | nil => simp [lens]
  | cons w ws ih =>
    have h1 := h w List.mem_cons_self
    have h2 := ih fun v hv => h v (List.mem_cons_of_mem _ hv)
    simp only [lens, List.map_cons, List.sum_cons, List.length_cons] at h2 ⊢
    omega
theorem rows_count : ∀ i : Fin 11, ((rowL.getD i.val ([], [])).2.map partN).sum ≤ 8 := by decide
theorem join_le {w : Bs} {ws : List Bs} (h0 : w.length ≤ 6) (h : ∀ w ∈ ws, w.length ≤ 21) (hn : ws.length ≤ 8) : (join (w :: ws) [32]).length ≤ 200 := by
  rw [join_length]
  have h1 := lens_le h
  have : lens (w :: ws) = w.length + lens ws := by simp [lens]
  simp only [List.length_cons, List.length_nil]
  omega
theorem put_len {o : OpR} {s : Bs} (ho : o.Ok) (h : putP o = some s) : 0 < s.length ∧ s.length ≤ 200 := by
  obtain ⟨i, l, hi, _, _, hl, _, hs, hw⟩ := put_words h
  have h1 := parts_len ho _ _ hl
  have h2 := parts_count _ _ hl
  have h3 := rows_count ⟨i, hi⟩
  simp only at h3
  refine ⟨?_, by rw [hs]; exact join_le (rows_ok ⟨i, hi⟩).2.2 h1 (by omega)⟩
  rcases Nat.eq_zero_or_pos s.length with h0 | h0
  · exfalso
    have e : s = [] := List.length_eq_zero_iff.1 h0
    rw [e] at hw
    simp only [words] at hw
    injection hw with e1 e2
    exact (rows_ok ⟨i, hi⟩).1 e1.symm
  · exact h0
end Go.Proofs.YtjbhkmpabajeoaaDoor
