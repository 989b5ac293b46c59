/- The least due of an index: the plain law. -/
import Derived.Test.YtlccplpniidjfaaQLater
namespace Go.Proofs.Ytlccplpniidjfaa
open Go.RowKit

/-- o is the earliest due of the ticks of index a. -/
def LeastOf (ts : List Tk) (a : Int) : Option Int → Prop
  | none => ∀ t ∈ ts, mayT t = true → t.1 ≠ a
  | some d => (∃ t ∈ ts, mayT t = true ∧ t.1 = a ∧ t.2 = d) ∧ ∀ t ∈ ts, mayT t = true → t.1 = a → d ≤ t.2
theorem LeastOf.unique {ts : List Tk} {a : Int} : ∀ {o p : Option Int}, LeastOf ts a o → LeastOf ts a p → o = p
  | none, none, _, _ => rfl
  | none, some _, h, ⟨⟨t, ht, hm, ha, _⟩, _⟩ => absurd ha (h t ht hm)
  | some _, none, ⟨⟨t, ht, hm, ha, _⟩, _⟩, h => absurd ha (h t ht hm)
  | some d, some e, ⟨⟨t, ht, hm, ha, hd⟩, h1⟩, ⟨⟨u, hu, hn, hb, he⟩, h2⟩ => by
    have := h1 u hu hn hb
    have := h2 t ht hm ha
    congr 1
    omega
theorem LeastOf.same {ts us : List Tk} {a : Int} (hs : ∀ t, t ∈ ts ↔ t ∈ us) : ∀ {o : Option Int}, LeastOf ts a o → LeastOf us a o
  | none, h => fun t ht => h t ((hs t).2 ht)
  | some _, ⟨⟨t, ht, r⟩, h⟩ => ⟨⟨t, (hs t).1 ht, r⟩, fun u hu => h u ((hs u).2 hu)⟩
theorem LeastOf.pos {ts : List Tk} {a d : Int} (h : LeastOf ts a (some d)) : 1 ≤ d := by
  obtain ⟨⟨t, _, hm, _, hd⟩, _⟩ := h
  have := mayT_iff.1 hm
  omega

def dueM (m : List Tk) (a : Int) : Option Int := (findM m a).map (·.2)
theorem findM_some {m : List Tk} {a : Int} {x : Tk} (h : findM m a = some x) : x ∈ m ∧ x.1 = a := ⟨List.mem_of_find?_eq_some h, by have := List.find?_some h; simpa using this⟩
theorem findM_none {m : List Tk} {a : Int} (h : findM m a = none) : ∀ x ∈ m, x.1 ≠ a := fun x hx => by
  have := List.find?_eq_none.1 h x hx
  simpa using this
theorem Rising.inj : ∀ {m : List Tk}, Rising m → ∀ {x y : Tk}, x ∈ m → y ∈ m → x.1 = y.1 → x = y
  | z :: m, h, x, y, hx, hy, he => by
    have hh := h.head
    have htl := h.tail
    rcases List.mem_cons.1 hx with h1 | h1 <;> rcases List.mem_cons.1 hy with h2 | h2
    · rw [h1, h2]
    · have := hh y h2; rw [← h1] at this; omega
    · have := hh x h1; rw [← h2] at this; omega
    · exact htl.inj h1 h2 he
theorem findM_eq {m : List Tk} (hm : Rising m) {x : Tk} (hx : x ∈ m) : findM m x.1 = some x := by
  cases h : findM m x.1 with
  | none => exact absurd rfl (findM_none h x hx)
  | some y => rw [hm.inj (findM_some h).1 hx (findM_some h).2]
theorem mem_putM_iff {m : List Tk} (hm : Rising m) {t x : Tk} : x ∈ putM m t ↔ x = t ∨ (x ∈ m ∧ x.1 ≠ t.1) := by
  rw [(putM_perm hm).mem_iff, List.mem_cons, mem_rest]
theorem dueM_some {m : List Tk} {a d : Int} (hm : Rising m) : dueM m a = some d ↔ (a, d) ∈ m := by
  constructor
  · intro h
    unfold dueM at h
    cases hf : findM m a with
    | none => rw [hf] at h; cases h
    | some x =>
      rw [hf] at h
      injection h with h
      have := findM_some hf
      rw [← this.2, ← h]; exact this.1
  · intro h
    unfold dueM
    rw [findM_eq hm h]; rfl
theorem dueM_none {m : List Tk} {a : Int} : dueM m a = none ↔ ∀ x ∈ m, x.1 ≠ a := by
  constructor
  · intro h
    unfold dueM at h
    cases hf : findM m a with
    | none => exact findM_none hf
    | some x => rw [hf] at h; cases h
  · intro h
    unfold dueM
    cases hf : findM m a with
    | none => rfl
    | some x => exact absurd (findM_some hf).2 (h x (findM_some hf).1)
theorem putR_rising {m : List Tk} (t : Tk) (hm : Rising m) : Rising (putR m t).2.2 := by
  unfold putR
  split
  · split
    · split
      · exact hm
      · exact putM_rising hm
    · exact putM_rising hm
  · exact hm
/-- What Put does to an index's due. -/
theorem putR_least {m : List Tk} (t : Tk) (hm : Rising m) (ts : List Tk) (a : Int) (h : LeastOf ts a (dueM m a)) : LeastOf (ts ++ [t]) a (dueM (putR m t).2.2 a) := by
  have mem_ : ∀ u, u ∈ ts ++ [t] ↔ u ∈ ts ∨ u = t := fun u => by simp
  cases hmt : mayT t with
  | false =>
    have e : (putR m t).2.2 = m := by simp [putR, hmt]
    rw [e]
    cases hd : dueM m a with
    | none =>
      rw [hd] at h
      intro u hu hmu
      rcases (mem_ u).1 hu with hu | rfl
      · exact h u hu hmu
      · rw [hmt] at hmu; cases hmu
    | some d =>
      rw [hd] at h
      obtain ⟨⟨x, hx, r⟩, h2⟩ := h
      refine ⟨⟨x, (mem_ x).2 (.inl hx), r⟩, fun u hu hmu => ?_⟩
      rcases (mem_ u).1 hu with hu | rfl
      · exact h2 u hu hmu
      · rw [hmt] at hmu; cases hmu
  | true =>
    by_cases ha : t.1 = a
    · subst ha
      cases hf : findM m t.1 with
      | none =>
        have e : (putR m t).2.2 = putM m t := by simp [putR, hmt, hf]
        have hd : dueM m t.1 = none := by simp [dueM, hf]
        have hd2 : dueM (putM m t) t.1 = some t.2 := (dueM_some (putM_rising hm)).2 ((mem_putM_iff hm).2 (.inl rfl))
        rw [hd] at h
        rw [e, hd2]
        refine ⟨⟨t, (mem_ t).2 (.inr rfl), hmt, rfl, rfl⟩, fun u hu hmu hua => ?_⟩
        rcases (mem_ u).1 hu with hu | rfl
        · exact absurd hua (h u hu hmu)
        · exact Int.le_refl _
      | some x =>
        have hx := findM_some hf
        have hd : dueM m t.1 = some x.2 := by simp [dueM, hf]
        rw [hd] at h
        obtain ⟨⟨y, hy, hmy, hya, hyd⟩, h2⟩ := h
        by_cases hle : x.2 ≤ t.2
        · have e : (putR m t).2.2 = m := by simp [putR, hmt, hf, hle]
          rw [e, hd]
          refine ⟨⟨y, (mem_ y).2 (.inl hy), hmy, hya, hyd⟩, fun u hu hmu hua => ?_⟩
          rcases (mem_ u).1 hu with hu | rfl
          · exact h2 u hu hmu hua
          · exact hle
        · have e : (putR m t).2.2 = putM m t := by simp [putR, hmt, hf, hle]
          have hd2 : dueM (putM m t) t.1 = some t.2 := (dueM_some (putM_rising hm)).2 ((mem_putM_iff hm).2 (.inl rfl))
          rw [e, hd2]
          refine ⟨⟨t, (mem_ t).2 (.inr rfl), hmt, rfl, rfl⟩, fun u hu hmu hua => ?_⟩
          rcases (mem_ u).1 hu with hu | rfl
          · have := h2 u hu hmu hua; omega
          · exact Int.le_refl _
    · have e : dueM (putR m t).2.2 a = dueM m a := by
        have key : dueM (putM m t) a = dueM m a := by
          cases hd : dueM m a with
          | none =>
            rw [dueM_none] at hd ⊢
            intro x hx
            rcases (mem_putM_iff hm).1 hx with rfl | ⟨hx, _⟩
            · exact ha
            · exact hd x hx
          | some d =>
            rw [dueM_some hm] at hd
            rw [dueM_some (putM_rising hm), mem_putM_iff hm]
            exact .inr ⟨hd, fun h => ha h.symm⟩
        unfold putR
        rw [if_pos hmt]
        split
        · split
          · rfl
          · exact key
        · exact key
      rw [e]
      cases hd : dueM m a with
      | none =>
        rw [hd] at h
        intro u hu hmu
        rcases (mem_ u).1 hu with hu | rfl
        · exact h u hu hmu
        · exact ha
      | some d =>
        rw [hd] at h
        obtain ⟨⟨x, hx, r⟩, h2⟩ := h
        refine ⟨⟨x, (mem_ x).2 (.inl hx), r⟩, fun u hu hmu hua => ?_⟩
        rcases (mem_ u).1 hu with hu | rfl
        · exact h2 u hu hmu hua
        · exact absurd hua ha
theorem putAll_least (ts : List Tk) (a : Int) : Rising (putAll ts []) ∧ LeastOf ts a (dueM (putAll ts []) a) := by
  have key : ∀ k, k ≤ ts.length → Rising (putAll (ts.take k) []) ∧ LeastOf (ts.take k) a (dueM (putAll (ts.take k) []) a) := by
    intro k
    induction k with
    | zero => intro _; exact ⟨List.Pairwise.nil, fun t ht => by simp at ht⟩
    | succ k ih =>
      intro hk
      obtain ⟨h1, h2⟩ := ih (by omega)
      rw [putAll_take ts k hk]
      have := putR_least (nth ts k) h1 _ a h2
      rw [nth_get hk, ← List.take_succ_eq_append_getElem hk] at this
      rw [nth_get hk]
      exact ⟨putR_rising _ h1, this⟩
  have := key ts.length (Nat.le_refl _)
  rwa [List.take_length] at this
theorem putAll_reverse (ts : List Tk) : putAll ts.reverse [] = putAll ts [] := by
  have h1 := fun a => putAll_least ts a
  have h2 := fun a => putAll_least ts.reverse a
  have hd : ∀ a, dueM (putAll ts.reverse []) a = dueM (putAll ts []) a := fun a =>
    ((h2 a).2.same (us := ts) (fun t => by simp)).unique (h1 a).2
  have hr1 := (h1 0).1
  have hr2 := (h2 0).1
  refine List.Perm.eq_of_pairwise (le := fun (a b : Tk) => a.1 < b.1) (fun x y _ _ h1 h2 => absurd h1 (by omega)) hr2 hr1 ?_
  refine (List.perm_ext_iff_of_nodup ?_ ?_).2 fun x => ?_
  · rw [List.nodup_iff_pairwise_ne]; exact hr2.imp (fun h e => by rw [e] at h; omega)
  · rw [List.nodup_iff_pairwise_ne]; exact hr1.imp (fun h e => by rw [e] at h; omega)
  · have : x = (x.1, x.2) := rfl
    rw [this, ← dueM_some hr2, ← dueM_some hr1, hd]

/-- The law's own reckoning: from the last tick to the first. -/
def leastStep (a : Int) (t : Tk) (r : Int) : Int := if mayT t = true ∧ t.1 = a ∧ (r = 0 ∨ t.2 < r) then t.2 else r
def leastR (a : Int) (ts : List Tk) : Int := ts.foldr (leastStep a) 0
theorem leastR_least (a : Int) : ∀ ts : List Tk, LeastOf ts a (if leastR a ts = 0 then none else some (leastR a ts))
  | [] => by intro t ht; simp at ht
  | t :: ts => by
    have ih := leastR_least a ts
    have e : leastR a (t :: ts) = leastStep a t (leastR a ts) := rfl
    rw [e]
    generalize leastR a ts = r at ih
    unfold leastStep
    by_cases hc : mayT t = true ∧ t.1 = a ∧ (r = 0 ∨ t.2 < r)
    · rw [if_pos hc]
      have hb := mayT_iff.1 hc.1
      rw [if_neg (by omega)]
      refine ⟨⟨t, List.mem_cons_self, hc.1, hc.2.1, rfl⟩, fun u hu hmu hua => ?_⟩
      rcases List.mem_cons.1 hu with rfl | hu
      · exact Int.le_refl _
      · by_cases hr : r = 0
        · rw [if_pos hr] at ih; exact absurd hua (ih u hu hmu)
        · rw [if_neg hr] at ih
          have := ih.2 u hu hmu hua
          rcases hc.2.2 with h | h
          · exact absurd h hr
          · omega
    · rw [if_neg hc]
      by_cases hr : r = 0
      · rw [if_pos hr] at ih ⊢
        intro u hu hmu
        rcases List.mem_cons.1 hu with rfl | hu
        · intro hua; exact hc ⟨hmu, hua, .inl hr⟩
        · exact ih u hu hmu
      · rw [if_neg hr] at ih ⊢
        obtain ⟨⟨x, hx, r'⟩, h2⟩ := ih
        refine ⟨⟨x, List.mem_cons_of_mem _ hx, r'⟩, fun u hu hmu hua => ?_⟩
        rcases List.mem_cons.1 hu with rfl | hu
        · have : ¬ (u.2 < r) := fun h => hc ⟨hmu, hua, .inr h⟩
          omega
        · exact h2 u hu hmu hua
theorem least_due (ts : List Tk) (a : Int) : dueM (putAll ts []) a = if leastR a ts = 0 then none else some (leastR a ts) := (putAll_least ts a).2.unique (leastR_least a ts)
theorem leastR_bound (a : Int) (ts : List Tk) : 0 ≤ leastR a ts ∧ leastR a ts ≤ 2199023255552 := by
  induction ts with
  | nil => simp [leastR]
  | cons t ts ih =>
    have e : leastR a (t :: ts) = leastStep a t (leastR a ts) := rfl
    rw [e]
    unfold leastStep
    split
    · rename_i h; have := mayT_iff.1 h.1; omega
    · exact ih
theorem leastR_drop (a : Int) (ts : List Tk) (k : Nat) (h : k < ts.length) : leastR a (ts.drop k) = leastStep a (nth ts k) (leastR a (ts.drop (k + 1))) := by
  rw [List.drop_eq_getElem_cons h, nth_get h]; rfl
end Go.Proofs.Ytlccplpniidjfaa
