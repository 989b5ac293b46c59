/- Spots near anchors: plain laws. -/
import Derived.Test.YtokmbnmhdicljaaRows
import Derived.WalkKit
import Derived.Laws.BitsLemmas
namespace Go.Proofs.Ytokmbnmhdicljaa

/-- A spot: x, y, z. -/
abbrev Sp := Int × Int × Int
/-- An anchor: its spot; is it on? -/
abbrev An := Sp × Bool
def maySpot (s : Sp) : Bool := decide (-65536 ≤ s.1 ∧ s.1 < 65536 ∧ -65536 ≤ s.2.2 ∧ s.2.2 < 65536 ∧ 0 ≤ s.2.1 ∧ s.2.1 < 4)
theorem maySpot_iff {s : Sp} : maySpot s = true ↔ -65536 ≤ s.1 ∧ s.1 < 65536 ∧ -65536 ≤ s.2.2 ∧ s.2.2 < 65536 ∧ 0 ≤ s.2.1 ∧ s.2.1 < 4 := by simp [maySpot]
def ltS (a b : Sp) : Prop := a.1 < b.1 ∨ a.1 = b.1 ∧ (a.2.2 < b.2.2 ∨ a.2.2 = b.2.2 ∧ a.2.1 < b.2.1)
def cmp1 (a b : Int) : Int := if a < b then -1 else if b < a then 1 else 0
def cmpS (a b : Sp) : Int := if a.1 = b.1 then (if a.2.2 = b.2.2 then cmp1 a.2.1 b.2.1 else cmp1 a.2.2 b.2.2) else cmp1 a.1 b.1
theorem cmpS_lt {a b : Sp} : cmpS a b < 0 ↔ ltS a b := by
  unfold cmpS ltS cmp1
  by_cases h1 : a.1 = b.1
  · by_cases h2 : a.2.2 = b.2.2
    · by_cases h3 : a.2.1 < b.2.1
      · simp [h1, h2, h3]
      · by_cases h4 : b.2.1 < a.2.1 <;> simp [h1, h2, h3, h4]
    · by_cases h3 : a.2.2 < b.2.2
      · simp [h1, h2, h3]
      · by_cases h4 : b.2.2 < a.2.2 <;> simp [h1, h2, h3, h4]
  · by_cases h3 : a.1 < b.1
    · simp [h1, h3]
    · by_cases h4 : b.1 < a.1 <;> simp [h1, h3, h4]
theorem ltS_irrefl (a : Sp) : ¬ ltS a a := by unfold ltS; omega
theorem ltS_trans {a b c : Sp} (h : ltS a b) (k : ltS b c) : ltS a c := by unfold ltS at *; omega
theorem ltS_asymm {a b : Sp} (h : ltS a b) : ¬ ltS b a := by unfold ltS at *; omega
theorem ltS_total {a b : Sp} (h : ¬ ltS a b) (k : ¬ ltS b a) : a = b := by
  unfold ltS at *
  obtain ⟨a1, a2, a3⟩ := a
  obtain ⟨b1, b2, b3⟩ := b
  simp only [Prod.mk.injEq] at *
  omega
theorem cmpS_eq {a b : Sp} : cmpS a b = 0 ↔ a = b := by
  constructor
  · intro h
    have h1 : ¬ ltS a b := fun k => by have := cmpS_lt.2 k; omega
    refine ltS_total h1 fun k => ?_
    have := cmpS_lt.2 k
    unfold cmpS cmp1 at *
    unfold ltS at *
    repeat' split at h
    all_goals omega
  · rintro rfl
    simp [cmpS, cmp1]
instance (a b : Sp) : Decidable (ltS a b) := by unfold ltS; infer_instance

/-! ### lists that rise -/
def Asc (m : List Sp) : Prop := m.Pairwise ltS
theorem asc_unique : ∀ {l m : List Sp}, Asc l → Asc m → (∀ s, s ∈ l ↔ s ∈ m) → l = m := by
  intro l m hl hm h
  have nd : ∀ {l : List Sp}, Asc l → l.Nodup := fun hl => List.nodup_iff_pairwise_ne.2 (hl.imp fun {a b} hab e => by subst e; exact ltS_irrefl _ hab)
  exact List.Perm.eq_of_pairwise (le := ltS) (fun x y _ _ h1 h2 => absurd h2 (ltS_asymm h1)) hl hm ((List.perm_ext_iff_of_nodup (nd hl) (nd hm)).2 h)

/-! ### who is near -/
def near (a : An) (s : Sp) : Bool := a.2 && decide (a.1.1 - 1 ≤ s.1 ∧ s.1 ≤ a.1.1 + 1 ∧ a.1.2.2 - 1 ≤ s.2.2 ∧ s.2.2 ≤ a.1.2.2 + 1)
def inS (a b : An) (s : Sp) : Bool := maySpot s && (near a s || near b s)
theorem inS_swap (a b : An) (s : Sp) : inS a b s = inS b a s := by unfold inS; rw [Bool.or_comm]

/-- The pairs x, z near an anchor, rising. -/
def pairs (a : An) : List (Int × Int) :=
  if a.2 then ([(-1, -1), (-1, 0), (-1, 1), (0, -1), (0, 0), (0, 1), (1, -1), (1, 0), (1, 1)].map fun d => (a.1.1 + d.1, a.1.2.2 + d.2)).filter fun p => decide (-65536 ≤ p.1 ∧ p.1 < 65536 ∧ -65536 ≤ p.2 ∧ p.2 < 65536) else []
def ltP (a b : Int × Int) : Prop := a.1 < b.1 ∨ a.1 = b.1 ∧ a.2 < b.2
instance (a b : Int × Int) : Decidable (ltP a b) := by unfold ltP; infer_instance
def insP (p : Int × Int) : List (Int × Int) → List (Int × Int)
  | [] => [p]
  | q :: m => if ltP q p then q :: insP p m else if q = p then q :: m else p :: q :: m
def pairsAll (a b : An) : List (Int × Int) := (pairs b).foldl (fun m p => insP p m) (pairs a)
def four (p : Int × Int) : List Sp := [(p.1, 0, p.2), (p.1, 1, p.2), (p.1, 2, p.2), (p.1, 3, p.2)]
/-- What ticks. -/
def spotsL (a b : An) : List Sp := (pairsAll a b).flatMap four
def AscP (m : List (Int × Int)) : Prop := m.Pairwise ltP
theorem mem_insP {p q : Int × Int} : ∀ {m : List (Int × Int)}, q ∈ insP p m ↔ q = p ∨ q ∈ m
  | [] => by simp [insP]
  | x :: m => by
    unfold insP
    split
    · rw [List.mem_cons, mem_insP, List.mem_cons]
      constructor
      · rintro (h | h | h) <;> simp [h]
      · rintro (h | h | h) <;> simp [h]
    · split
      · rename_i h
        subst h
        constructor
        · intro h; exact .inr h
        · rintro (h | h)
          · rw [h]; exact List.mem_cons_self
          · exact h
      · simp
theorem asc_insP {p : Int × Int} : ∀ {m : List (Int × Int)}, AscP m → AscP (insP p m)
  | [], _ => List.pairwise_singleton _ _
  | x :: m, h => by
    obtain ⟨h1, h2⟩ := List.pairwise_cons.1 h
    unfold insP
    split
    · rename_i hx
      refine List.pairwise_cons.2 ⟨fun y hy => ?_, asc_insP h2⟩
      rcases mem_insP.1 hy with rfl | hy
      · exact hx
      · exact h1 y hy
    · rename_i hx
      split
      · exact h
      · rename_i hne
        have hpx : ltP p x := by
          unfold ltP at *
          have : ¬ (x.1 = p.1 ∧ x.2 = p.2) := fun e => hne (Prod.ext e.1 e.2)
          omega
        refine List.pairwise_cons.2 ⟨fun y hy => ?_, h⟩
        rcases List.mem_cons.1 hy with rfl | hy
        · exact hpx
        · have := h1 y hy
          unfold ltP at *
          omega
theorem insP_length {p : Int × Int} : ∀ {m : List (Int × Int)}, (insP p m).length ≤ m.length + 1
  | [] => by simp [insP]
  | x :: m => by
    unfold insP
    split
    · simp only [List.length_cons]; have := insP_length (p := p) (m := m); omega
    · split <;> simp
theorem asc_pairs (a : An) : AscP (pairs a) := by
  unfold pairs
  split
  · refine List.Pairwise.filter _ ?_
    simp [List.pairwise_cons, ltP]
    omega
  · exact List.Pairwise.nil
theorem pairs_length (a : An) : (pairs a).length ≤ 9 := by
  unfold pairs
  split
  · exact Nat.le_trans (List.length_filter_le _ _) (by simp)
  · simp
theorem mem_pairs {a : An} {p : Int × Int} : p ∈ pairs a ↔ a.2 = true ∧ (a.1.1 - 1 ≤ p.1 ∧ p.1 ≤ a.1.1 + 1 ∧ a.1.2.2 - 1 ≤ p.2 ∧ p.2 ≤ a.1.2.2 + 1) ∧ -65536 ≤ p.1 ∧ p.1 < 65536 ∧ -65536 ≤ p.2 ∧ p.2 < 65536 := by
  unfold pairs
  by_cases h : a.2 = true
  · rw [if_pos h, List.mem_filter]
    simp only [h, true_and, decide_eq_true_eq]
    refine and_congr_left fun _ => ?_
    obtain ⟨x, z⟩ := p
    simp only [List.map_cons, List.map_nil, List.mem_cons, Prod.mk.injEq, List.not_mem_nil, or_false]
    omega
  · simp [h]
theorem mem_fold : ∀ (l m : List (Int × Int)) (q : Int × Int), q ∈ l.foldl (fun m p => insP p m) m ↔ q ∈ l ∨ q ∈ m
  | [], m, q => by simp
  | p :: l, m, q => by
    rw [List.foldl_cons, mem_fold, mem_insP, List.mem_cons]
    constructor
    · rintro (h | h | h) <;> simp [h]
    · rintro ((h | h) | h) <;> simp [h]
theorem asc_fold : ∀ (l m : List (Int × Int)), AscP m → AscP (l.foldl (fun m p => insP p m) m)
  | [], _, h => h
  | _ :: l, _, h => asc_fold l _ (asc_insP h)
theorem fold_length : ∀ (l m : List (Int × Int)), (l.foldl (fun m p => insP p m) m).length ≤ l.length + m.length
  | [], m => by simp
  | p :: l, m => by
    rw [List.foldl_cons]
    have h1 := fold_length l (insP p m)
    have h2 := insP_length (p := p) (m := m)
    simp only [List.length_cons]
    omega
theorem mem_pairsAll {a b : An} {p : Int × Int} : p ∈ pairsAll a b ↔ p ∈ pairs a ∨ p ∈ pairs b := by
  unfold pairsAll
  rw [mem_fold, or_comm]
theorem asc_pairsAll (a b : An) : AscP (pairsAll a b) := asc_fold _ _ (asc_pairs a)
theorem mem_four {p : Int × Int} {s : Sp} : s ∈ four p ↔ s.1 = p.1 ∧ s.2.2 = p.2 ∧ 0 ≤ s.2.1 ∧ s.2.1 < 4 := by
  obtain ⟨x, y, z⟩ := s
  simp only [four, List.mem_cons, Prod.mk.injEq, List.not_mem_nil, or_false]
  omega
theorem mem_spotsL {a b : An} {s : Sp} : s ∈ spotsL a b ↔ inS a b s = true := by
  unfold spotsL inS near
  simp only [List.mem_flatMap, mem_four, mem_pairsAll, mem_pairs, maySpot, Bool.and_eq_true, Bool.or_eq_true, decide_eq_true_eq]
  constructor
  · rintro ⟨p, hp, h1, h2, h3, h4⟩
    rcases hp with ⟨h, hp⟩ | ⟨h, hp⟩
    · exact ⟨by omega, .inl ⟨h, by omega⟩⟩
    · exact ⟨by omega, .inr ⟨h, by omega⟩⟩
  · rintro ⟨h0, ⟨h, h1⟩ | ⟨h, h1⟩⟩
    · exact ⟨(s.1, s.2.2), .inl ⟨h, by simp only; omega⟩, rfl, rfl, by omega, by omega⟩
    · exact ⟨(s.1, s.2.2), .inr ⟨h, by simp only; omega⟩, rfl, rfl, by omega, by omega⟩
theorem asc_flat : ∀ {m : List (Int × Int)}, AscP m → Asc (m.flatMap four)
  | [], _ => List.Pairwise.nil
  | p :: m, h => by
    obtain ⟨h1, h2⟩ := List.pairwise_cons.1 h
    rw [List.flatMap_cons]
    refine List.pairwise_append.2 ⟨?_, asc_flat h2, fun x hx y hy => ?_⟩
    · simp [four, List.pairwise_cons, ltS]
    · obtain ⟨q, hq, hyq⟩ := List.mem_flatMap.1 hy
      have := h1 q hq
      rw [mem_four] at hx hyq
      unfold ltS ltP at *
      omega
theorem asc_spotsL (a b : An) : Asc (spotsL a b) := asc_flat (asc_pairsAll a b)
theorem spots_eq {a b : An} {l : List Sp} (hl : Asc l) (h : ∀ s, s ∈ l ↔ inS a b s = true) : l = spotsL a b :=
  asc_unique hl (asc_spotsL a b) fun s => (h s).trans mem_spotsL.symm
theorem spotsL_swap (a b : An) : spotsL a b = spotsL b a := (spots_eq (asc_spotsL a b) fun s => by rw [mem_spotsL, inS_swap])
theorem flat_length (m : List (Int × Int)) : (m.flatMap four).length = 4 * m.length := by
  induction m with
  | nil => rfl
  | cons p m ih => rw [List.flatMap_cons, List.length_append, ih]; simp [four]; omega
theorem spotsL_four (a b : An) : (spotsL a b).length % 4 = 0 := by unfold spotsL; rw [flat_length]; omega
theorem spotsL_72 (a b : An) : (spotsL a b).length ≤ 72 := by
  unfold spotsL
  rw [flat_length]
  have := fold_length (pairs b) (pairs a)
  have h1 := pairs_length a
  have h2 := pairs_length b
  unfold pairsAll
  omega
def nthS (l : List Sp) (i : Nat) : Sp := l.getD i (0, 0, 0)
theorem flat_y : ∀ (m : List (Int × Int)) (i : Nat), i < 4 * m.length → (nthS (m.flatMap four) i).2.1 = ((i % 4 : Nat) : Int)
  | [], i, h => by simp at h
  | p :: m, i, h => by
    rw [List.flatMap_cons]
    unfold nthS
    by_cases hi : i < 4
    · rw [List.getD_eq_getElem?_getD, List.getElem?_append_left (by simp [four]; exact hi)]
      match i, hi with
      | 0, _ => rfl
      | 1, _ => rfl
      | 2, _ => rfl
      | 3, _ => rfl
    · rw [List.getD_eq_getElem?_getD, List.getElem?_append_right (by simp [four]; omega), ← List.getD_eq_getElem?_getD]
      have := flat_y m (i - 4) (by simp at h; omega)
      unfold nthS at this
      rw [show (four p).length = 4 from rfl, this]
      congr 1
      omega
theorem spotsL_y {a b : An} {i : Nat} (h : i < (spotsL a b).length) : (nthS (spotsL a b) i).2.1 = ((i % 4 : Nat) : Int) := by
  unfold spotsL at *
  rw [flat_length] at h
  exact flat_y _ i h
theorem nthS_get {l : List Sp} {i : Nat} (h : i < l.length) : nthS l i = l[i] := by simp [nthS, h]
theorem nthS_mem {l : List Sp} {i : Nat} (h : i < l.length) : nthS l i ∈ l := by rw [nthS_get h]; exact List.getElem_mem h
theorem Asc.at_ {l : List Sp} (h : Asc l) {i j : Nat} (hij : i < j) (hj : j < l.length) : ltS (nthS l i) (nthS l j) := by
  rw [nthS_get (by omega), nthS_get hj]
  exact List.pairwise_iff_getElem.1 h i j (by omega) hj hij

/-! ### the candidates, in Go's integers -/
/-- x and a number, less one, in Go's integers. -/
def addw (x d : Int) : Int := IntKind.i64.wrap (IntKind.i64.wrap (x + d) - 1)
theorem wrap_is (x : Int) : IntKind.i64.wrap x = (x + 9223372036854775808) % 18446744073709551616 - 9223372036854775808 := by
  rw [IntKind.wrap_i64]
theorem addw_small {x d : Int} (hx : -9223372036854775808 ≤ x ∧ x ≤ 9223372036854775807) (_hd : 0 ≤ d ∧ d ≤ 2) (h : -65536 ≤ addw x d ∧ addw x d < 65536) : addw x d = x + d - 1 := by
  unfold addw at *
  rw [wrap_is, wrap_is] at *
  omega
theorem addw_fits {x d : Int} (h : -65536 ≤ x + d - 1 ∧ x + d - 1 < 65536) (_hd : 0 ≤ d ∧ d ≤ 2) : addw x d = x + d - 1 := by
  unfold addw
  rw [wrap_is, wrap_is]
  omega
def cand (a : An) (n : Nat) : Sp := (addw a.1.1 ((n / 12 : Nat) : Int), ((n % 4 : Nat) : Int), addw a.1.2.2 ((n / 4 % 3 : Nat) : Int))
def AnOk (a : An) : Prop := (-9223372036854775808 ≤ a.1.1 ∧ a.1.1 ≤ 9223372036854775807) ∧ (-9223372036854775808 ≤ a.1.2.1 ∧ a.1.2.1 ≤ 9223372036854775807) ∧ (-9223372036854775808 ≤ a.1.2.2 ∧ a.1.2.2 ≤ 9223372036854775807)
theorem cand_near {a : An} (ho : AnOk a) {n : Nat} (hn : n < 36) (hm : maySpot (cand a n) = true) (hon : a.2 = true) : near a (cand a n) = true := by
  rw [maySpot_iff] at hm
  have h1 := addw_small (x := a.1.1) (d := ((n / 12 : Nat) : Int)) ho.1 (by omega) ⟨hm.1, hm.2.1⟩
  have h2 := addw_small (x := a.1.2.2) (d := ((n / 4 % 3 : Nat) : Int)) ho.2.2 (by omega) ⟨hm.2.2.1, hm.2.2.2.1⟩
  simp only [near, hon, Bool.true_and, decide_eq_true_eq]
  show _ ≤ addw a.1.1 _ ∧ addw a.1.1 _ ≤ _ ∧ _ ≤ addw a.1.2.2 _ ∧ addw a.1.2.2 _ ≤ _
  rw [h1, h2]
  omega
theorem near_cand {a : An} {s : Sp} (hm : maySpot s = true) (hn : near a s = true) : ∃ n, n < 36 ∧ cand a n = s := by
  rw [maySpot_iff] at hm
  simp only [near, Bool.and_eq_true, decide_eq_true_eq] at hn
  obtain ⟨hon, h1, h2, h3, h4⟩ := hn
  refine ⟨(s.1 - a.1.1 + 1).toNat * 12 + (s.2.2 - a.1.2.2 + 1).toNat * 4 + s.2.1.toNat, by omega, ?_⟩
  have e1 : ((s.1 - a.1.1 + 1).toNat * 12 + (s.2.2 - a.1.2.2 + 1).toNat * 4 + s.2.1.toNat) / 12 = (s.1 - a.1.1 + 1).toNat := by omega
  have e2 : ((s.1 - a.1.1 + 1).toNat * 12 + (s.2.2 - a.1.2.2 + 1).toNat * 4 + s.2.1.toNat) % 4 = s.2.1.toNat := by omega
  have e3 : ((s.1 - a.1.1 + 1).toNat * 12 + (s.2.2 - a.1.2.2 + 1).toNat * 4 + s.2.1.toNat) / 4 % 3 = (s.2.2 - a.1.2.2 + 1).toNat := by omega
  unfold cand
  rw [e1, e2, e3, addw_fits (by omega) (by omega), addw_fits (by omega) (by omega)]
  obtain ⟨x, y, z⟩ := s
  simp only [Prod.mk.injEq]
  simp only at *
  omega
/-- The candidates that were seen: of the first anchor n, or all and of the second n. -/
def seen (a b : An) (i n : Nat) : List Sp :=
  (if a.2 = true then (List.range (if i = 0 then n else 36)).map (cand a) else []) ++ (if b.2 = true ∧ 1 ≤ i then (List.range (if i = 1 then n else 36)).map (cand b) else [])
theorem seen_all {a b : An} (ha : AnOk a) (hb : AnOk b) (s : Sp) : (maySpot s = true ∧ s ∈ seen a b 2 0) ↔ inS a b s = true := by
  unfold seen inS
  simp only [Bool.and_eq_true, Bool.or_eq_true, List.mem_append]
  constructor
  · rintro ⟨hm, h | h⟩
    · split at h
      · rename_i hon
        obtain ⟨n, hn, rfl⟩ := List.mem_map.1 h
        exact ⟨hm, .inl (cand_near ha (by simpa using hn) hm hon)⟩
      · cases h
    · split at h
      · rename_i hon
        obtain ⟨n, hn, rfl⟩ := List.mem_map.1 h
        exact ⟨hm, .inr (cand_near hb (by simpa using hn) hm hon.1)⟩
      · cases h
  · rintro ⟨hm, h | h⟩
    · obtain ⟨n, hn, rfl⟩ := near_cand hm h
      have hon : a.2 = true := by simp [near] at h; exact h.1
      exact ⟨hm, .inl (by rw [if_pos hon]; exact List.mem_map.2 ⟨n, by simpa using hn, rfl⟩)⟩
    · obtain ⟨n, hn, rfl⟩ := near_cand hm h
      have hon : b.2 = true := by simp [near] at h; exact h.1
      exact ⟨hm, .inr (by rw [if_pos ⟨hon, by decide⟩]; exact List.mem_map.2 ⟨n, by simpa using hn, rfl⟩)⟩
end Go.Proofs.Ytokmbnmhdicljaa
