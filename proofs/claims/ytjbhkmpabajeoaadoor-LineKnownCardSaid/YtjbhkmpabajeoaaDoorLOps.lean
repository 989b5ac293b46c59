/- Operations: what is written of one, what is read, and that each undoes the other. -/
import Derived.Test.YtjbhkmpabajeoaaDoorLPure
namespace Go.Proofs.YtjbhkmpabajeoaaDoor
set_option linter.unusedSimpArgs false
set_option linter.unusedVariables false
open Go.Lib

/-- An operation: kind, the places A and B, the cell, the number. -/
structure OpR where
  k : Int
  a1 : Int
  a2 : Int
  a3 : Int
  b1 : Int
  b2 : Int
  b3 : Int
  c1 : Int
  c2 : Int
  n : Int
deriving DecidableEq
def OpR.zero : OpR := ⟨0, 0, 0, 0, 0, 0, 0, 0, 0, 0⟩
def opK (k : Int) : OpR := ⟨k, 0, 0, 0, 0, 0, 0, 0, 0, 0⟩
def InU (n : Int) : Prop := 0 ≤ n ∧ n ≤ 255
structure OpR.Ok (o : OpR) : Prop where
  k : InI o.k
  a1 : InI o.a1
  a2 : InI o.a2
  a3 : InI o.a3
  b1 : InI o.b1
  b2 : InI o.b2
  b3 : InI o.b3
  c1 : InU o.c1
  c2 : InU o.c2
  n : InI o.n
theorem InU.i {n : Int} (h : InU n) : InI n := by unfold InU at h; unfold InI; omega

/-- What stands behind a word, for a part. -/
def partWords (o : OpR) (p : UInt8) : Option (List Bs) :=
  if p = 112 then some [itoa o.a1, itoa o.a2, itoa o.a3]
  else if p = 98 then some [itoa o.b1, itoa o.b2, itoa o.b3]
  else if p = 99 then if nameK o.c1 = [] then none else some [nameK o.c1, itoa o.c2]
  else if p = 100 then if o.n < 0 ∨ 5 < o.n then none else some [dirs.getD o.n.toNat []]
  else some [itoa o.n]
/-- The fields that a part names are taken over. -/
def used (o u : OpR) (p : UInt8) : OpR :=
  if p = 112 then { u with a1 := o.a1, a2 := o.a2, a3 := o.a3 }
  else if p = 98 then { u with b1 := o.b1, b2 := o.b2, b3 := o.b3 }
  else if p = 99 then { u with c1 := o.c1, c2 := o.c2 }
  else { u with n := o.n }
def partsW (o : OpR) : Bs → Option (List Bs)
  | [] => some []
  | p :: ps => (partWords o p).bind fun a => (partsW o ps).map (a ++ ·)
theorem partsW_snoc (o : OpR) : ∀ (ps : Bs) (p : UInt8), partsW o (ps ++ [p]) = (partsW o ps).bind fun a => (partWords o p).map (a ++ ·)
  | [], p => by simp [partsW]
  | q :: ps, p => by
    simp only [List.cons_append, partsW, partsW_snoc o ps p]
    cases partWords o q with
    | none => rfl
    | some a => cases partsW o ps <;> cases partWords o p <;> simp
def usedAll (o : OpR) (ps : Bs) : OpR := ps.foldl (used o) (opK o.k)
theorem usedAll_snoc (o : OpR) (ps : Bs) (p : UInt8) : usedAll o (ps ++ [p]) = used o (usedAll o ps) p := by simp [usedAll]
/-- As which line an operation is written. -/
def putP (o : OpR) : Option Bs :=
  if (rowOf o.k).1 = [] then none
  else match partsW o (rowOf o.k).2 with
    | none => none
    | some l => if usedAll o (rowOf o.k).2 = o then some (join ((rowOf o.k).1 :: l) [32]) else none

def takeN (ws : List Bs) : Option (Int × List Bs) := match ws with | [] => none | w :: r => (numP w).map fun v => (v, r)
def take3 (ws : List Bs) : Option ((Int × Int × Int) × List Bs) :=
  (takeN ws).bind fun x => (takeN x.2).bind fun y => (takeN y.2).map fun z => ((x.1, y.1, z.1), z.2)
def takeC (ws : List Bs) : Option ((Int × Int) × List Bs) :=
  match ws with
  | [] => none
  | w :: r => (takeN r).bind fun x => match kindOf w with | none => none | some k => if x.1 < 0 ∨ 255 < x.1 then none else some (((k : Int), x.1), x.2)
def takeD (ws : List Bs) : Option (Int × List Bs) := match ws with | [] => none | w :: r => (dirOf w).map fun (d : Nat) => ((d : Int), r)
def readPart (u : OpR) (p : UInt8) (ws : List Bs) : Option (OpR × List Bs) :=
  if p = 112 then (take3 ws).map fun x => ({ u with a1 := x.1.1, a2 := x.1.2.1, a3 := x.1.2.2 }, x.2)
  else if p = 98 then (take3 ws).map fun x => ({ u with b1 := x.1.1, b2 := x.1.2.1, b3 := x.1.2.2 }, x.2)
  else if p = 99 then (takeC ws).map fun x => ({ u with c1 := x.1.1, c2 := x.1.2 }, x.2)
  else if p = 100 then (takeD ws).map fun x => ({ u with n := x.1 }, x.2)
  else (takeN ws).map fun x => ({ u with n := x.1 }, x.2)
def readP (u : OpR) : Bs → List Bs → Option OpR
  | [], ws => if ws = [] then some u else none
  | p :: ps, ws => (readPart u p ws).bind fun x => readP x.1 ps x.2
def kindW (w : Bs) : Option Nat := rowL.findIdx? (fun r => r.1 == w)
/-- Which operation a line is. -/
def getP (s : Bs) : Option OpR :=
  match words s with
  | [] => none
  | w :: r => (kindW w).bind fun i => readP (opK ((i : Int) + 1)) (rowOf ((i : Int) + 1)).2 r

/-! ### what is read -/
theorem takeN_iff {ws r : List Bs} {v : Int} : takeN ws = some (v, r) ↔ InI v ∧ ws = itoa v :: r := by
  constructor
  · intro h
    cases ws with
    | nil => simp [takeN] at h
    | cons w ws =>
      simp only [takeN, Option.map_eq_some_iff] at h
      obtain ⟨u, hu, e⟩ := h
      injection e with e1 e2
      subst e1 e2
      obtain ⟨h1, h2⟩ := numP_some hu
      exact ⟨h2, by rw [h1]⟩
  · rintro ⟨h, rfl⟩
    simp [takeN, numP_itoa h]
theorem take3_iff {ws r : List Bs} {x y z : Int} : take3 ws = some ((x, y, z), r) ↔ (InI x ∧ InI y ∧ InI z) ∧ ws = itoa x :: itoa y :: itoa z :: r := by
  constructor
  · intro h
    simp only [take3, Option.bind_eq_some_iff, Option.map_eq_some_iff] at h
    obtain ⟨⟨x', r1⟩, h1, ⟨y', r2⟩, h2, ⟨z', r3⟩, h3, e⟩ := h
    simp only [Prod.mk.injEq] at e
    obtain ⟨⟨rfl, rfl, rfl⟩, rfl⟩ := e
    obtain ⟨i1, rfl⟩ := takeN_iff.1 h1
    obtain ⟨i2, e2⟩ := takeN_iff.1 h2
    obtain ⟨i3, e3⟩ := takeN_iff.1 h3
    simp only at e2 e3
    subst e2 e3
    exact ⟨⟨i1, i2, i3⟩, rfl⟩
  · rintro ⟨⟨h1, h2, h3⟩, rfl⟩
    simp [take3, takeN_iff.2 ⟨h1, rfl⟩, takeN_iff.2 ⟨h2, rfl⟩, takeN_iff.2 ⟨h3, rfl⟩]
theorem takeC_iff {ws r : List Bs} {x y : Int} : takeC ws = some ((x, y), r) ↔ (nameK x ≠ [] ∧ InU y) ∧ ws = nameK x :: itoa y :: r := by
  constructor
  · intro h
    cases ws with
    | nil => simp [takeC] at h
    | cons w ws =>
      simp only [takeC, Option.bind_eq_some_iff] at h
      obtain ⟨⟨y', r1⟩, h1, h⟩ := h
      obtain ⟨i1, rfl⟩ := takeN_iff.1 h1
      split at h
      · cases h
      · rename_i k hk
        split at h
        · cases h
        · rename_i hb
          simp only [Option.some.injEq, Prod.mk.injEq] at h
          obtain ⟨⟨rfl, rfl⟩, rfl⟩ := h
          obtain ⟨h1, h2⟩ := kindOf_some hk
          refine ⟨⟨?_, by unfold InU; simp only at hb; omega⟩, by rw [h2]⟩
          rw [nameK_at h1]
          exact (names_ok ⟨k, h1⟩).1
  · rintro ⟨⟨h1, h2⟩, rfl⟩
    obtain ⟨i, hi, e, _⟩ := nameK_some h1
    simp only [takeC, takeN_iff.2 ⟨h2.i, rfl⟩, kindOf_name h1, Option.bind_some]
    unfold InU at h2
    rw [if_neg (by omega)]
    simp only [Option.some.injEq, Prod.mk.injEq, and_true]
    omega
theorem takeD_iff {ws r : List Bs} {x : Int} : takeD ws = some (x, r) ↔ (0 ≤ x ∧ x ≤ 5) ∧ ws = dirs.getD x.toNat [] :: r := by
  constructor
  · intro h
    cases ws with
    | nil => simp [takeD] at h
    | cons w ws =>
      simp only [takeD, Option.map_eq_some_iff, Prod.mk.injEq] at h
      obtain ⟨d, hd, rfl, rfl⟩ := h
      obtain ⟨h1, h2⟩ := dirOf_some hd
      exact ⟨by omega, by rw [← h2]; rfl⟩
  · rintro ⟨h1, rfl⟩
    simp only [takeD, dirOf_at (show x.toNat < 6 by omega), Option.map_some, Option.some.injEq, Prod.mk.injEq, and_true]
    omega
/-! ### a part that is written is read, one that is read is written -/
/-- The fields that a part names, of one operation and another one. -/
def Agree (p : UInt8) (o u : OpR) : Prop := used o u p = u
theorem read_part {o u : OpR} {p : UInt8} {ws r : List Bs} (ho : o.Ok) (h : partWords o p = some ws) : readPart u p (ws ++ r) = some (used o u p, r) := by
  unfold partWords at h
  unfold readPart used
  by_cases h1 : p = 112
  · rw [if_pos h1] at h ⊢
    rw [if_pos h1]
    injection h with h
    subst h
    simp [take3_iff.2 ⟨⟨ho.a1, ho.a2, ho.a3⟩, rfl⟩]
  rw [if_neg h1] at h ⊢
  rw [if_neg h1]
  by_cases h2 : p = 98
  · rw [if_pos h2] at h ⊢
    rw [if_pos h2]
    injection h with h
    subst h
    simp [take3_iff.2 ⟨⟨ho.b1, ho.b2, ho.b3⟩, rfl⟩]
  rw [if_neg h2] at h ⊢
  rw [if_neg h2]
  by_cases h3 : p = 99
  · rw [if_pos h3] at h ⊢
    rw [if_pos h3]
    split at h
    · cases h
    · rename_i hk
      injection h with h
      subst h
      simp [takeC_iff.2 ⟨⟨hk, ho.c2⟩, rfl⟩]
  rw [if_neg h3] at h ⊢
  rw [if_neg h3]
  by_cases h4 : p = 100
  · rw [if_pos h4] at h ⊢
    split at h
    · cases h
    · rename_i hk
      injection h with h
      subst h
      rw [List.cons_append, List.nil_append, takeD_iff.2 ⟨(show 0 ≤ o.n ∧ o.n ≤ 5 by omega), rfl⟩]
      rfl
  · rw [if_neg h4] at h ⊢
    injection h with h
    subst h
    simp [takeN_iff.2 ⟨ho.n, rfl⟩]
theorem read_parts {o : OpR} (ho : o.Ok) : ∀ (ps : Bs) (u : OpR) (ws : List Bs), partsW o ps = some ws → readP u ps ws = some (ps.foldl (used o) u)
  | [], u, ws, h => by
    simp only [partsW, Option.some.injEq] at h
    subst h
    simp [readP]
  | p :: ps, u, ws, h => by
    simp only [partsW, Option.bind_eq_some_iff, Option.map_eq_some_iff] at h
    obtain ⟨a, ha, b, hb, rfl⟩ := h
    unfold readP
    rw [read_part ho ha, Option.bind_some]
    exact read_parts ho ps _ b hb
theorem part_noB {o : OpR} {p : UInt8} {ws : List Bs} (h : partWords o p = some ws) : ∀ w ∈ ws, noB w ∧ w ≠ [] ∧ w.length ≤ 21 ∨ noB w ∧ w ≠ [] := by
  unfold partWords at h
  intro w hw
  right
  split at h
  · injection h with h; subst h; simp at hw; rcases hw with rfl | rfl | rfl <;> exact ⟨itoa_noB _, itoa_ne _⟩
  split at h
  · injection h with h; subst h; simp at hw; rcases hw with rfl | rfl | rfl <;> exact ⟨itoa_noB _, itoa_ne _⟩
  split at h
  · split at h
    · cases h
    · injection h with h; subst h; simp at hw; rcases hw with rfl | rfl
      · exact ⟨nameK_noB _, by assumption⟩
      · exact ⟨itoa_noB _, itoa_ne _⟩
  split at h
  · split at h
    · cases h
    · rename_i hn
      injection h with h; subst h; simp only [List.mem_singleton] at hw; subst hw
      have := dirs_ok ⟨o.n.toNat, by omega⟩
      exact ⟨noB_of_all this.2.1, this.1⟩
  · injection h with h; subst h; simp only [List.mem_singleton] at hw; subst hw; exact ⟨itoa_noB _, itoa_ne _⟩
theorem parts_noB {o : OpR} : ∀ (ps : Bs) (ws : List Bs), partsW o ps = some ws → ∀ w ∈ ws, noB w ∧ w ≠ []
  | [], ws, h, w, hw => by simp only [partsW, Option.some.injEq] at h; subst h; cases hw
  | p :: ps, ws, h, w, hw => by
    simp only [partsW, Option.bind_eq_some_iff, Option.map_eq_some_iff] at h
    obtain ⟨a, ha, b, hb, rfl⟩ := h
    rcases List.mem_append.1 hw with hw | hw
    · rcases part_noB ha w hw with h | h
      · exact ⟨h.1, h.2.1⟩
      · exact h
    · exact parts_noB ps b hb w hw
theorem row_k {k : Int} (h : (rowOf k).1 ≠ []) : ∃ i : Nat, i < 11 ∧ k = (i : Int) + 1 ∧ rowOf k = rowL.getD i ([], []) := by
  unfold rowOf at h ⊢
  split at h
  · rename_i hk
    exact ⟨(k - 1).toNat, by omega, by omega, by rw [if_pos hk]⟩
  · exact absurd rfl h
theorem row_at {i : Nat} (h : i < 11) : rowOf ((i : Int) + 1) = rowL.getD i ([], []) := by
  unfold rowOf
  rw [if_pos (by omega), show ((i : Int) + 1 - 1).toNat = i by omega]
theorem kindW_fin : ∀ i : Fin 11, kindW (rowL.getD i.val ([], [])).1 = some i.val := by decide
theorem kindW_at {i : Nat} (h : i < 11) : kindW (rowL.getD i ([], [])).1 = some i := kindW_fin ⟨i, h⟩
theorem kindW_some {w : Bs} {i : Nat} (h : kindW w = some i) : i < 11 ∧ (rowL.getD i ([], [])).1 = w := by
  unfold kindW at h
  rw [List.findIdx?_eq_some_iff_getElem] at h
  obtain ⟨h1, h2, _⟩ := h
  refine ⟨by simpa [rowL] using h1, ?_⟩
  rw [List.getD_eq_getElem?_getD, List.getElem?_eq_getElem h1]
  simpa using h2
/-- The words of a line that is written. -/
theorem put_words {o : OpR} {s : Bs} (h : putP o = some s) : ∃ (i : Nat) (l : List Bs), i < 11 ∧ o.k = (i : Int) + 1 ∧ rowOf o.k = rowL.getD i ([], []) ∧ partsW o (rowL.getD i ([], [])).2 = some l ∧
    usedAll o (rowL.getD i ([], [])).2 = o ∧ s = join ((rowL.getD i ([], [])).1 :: l) [32] ∧ words s = (rowL.getD i ([], [])).1 :: l := by
  unfold putP at h
  split at h
  · cases h
  · rename_i hr
    obtain ⟨i, hi, hk, e⟩ := row_k hr
    rw [e] at h hr ⊢
    split at h
    · cases h
    · rename_i l hl
      split at h
      · rename_i hu
        injection h with h
        refine ⟨i, l, hi, hk, rfl, hl, hu, h.symm, ?_⟩
        rw [← h]
        refine words_join _ _ fun v hv => ?_
        rcases List.mem_cons.1 hv with rfl | hv
        · exact noB_of_all (rows_ok ⟨i, hi⟩).2.1
        · exact (parts_noB _ _ hl v hv).1
      · cases h
/-- What is written is read. -/
theorem get_put {o : OpR} {s : Bs} (ho : o.Ok) (h : putP o = some s) : getP s = some o := by
  obtain ⟨i, l, hi, hk, _, hl, hu, _, hw⟩ := put_words h
  unfold getP
  rw [hw]
  simp only [kindW_at hi, Option.bind_some]
  rw [row_at hi, read_parts ho _ _ _ hl]
  rw [← hk]
  exact congrArg some hu
end Go.Proofs.YtjbhkmpabajeoaaDoor
