/- A queue, as the list of its ticks by rising indexes: what each call answers and leaves. -/
import Derived.Test.YtlccplpniidjfaaQM
namespace Go.Proofs.Ytlccplpniidjfaa
open Go.RowKit

def QQ (w : World) (base g : Nat) (m : List Tk) (r : Option Nat) : Prop :=
  ∃ l, QS w base g l r ∧ Heap l l.length ∧ l.Perm m ∧ Rising m ∧ ∀ t ∈ m, mayT t = true

theorem QQ.lt {w : World} {base g : Nat} {m : List Tk} {r : Option Nat} (h : QQ w base g m r) : ∀ k, QF g r k → base ≤ k ∧ k < w.heap.size := by
  obtain ⟨l, hq, _⟩ := h
  exact hq.lt
theorem QQ.only {w w' : World} {S : Nat → Prop} {base g : Nat} {m : List Tk} {r : Option Nat} (h : QQ w base g m r) (ho : Only w w' S) (hn : ∀ k, QF g r k → ¬ S k) : QQ w' base g m r := by
  obtain ⟨l, hq, hr⟩ := h
  exact ⟨l, hq.only ho hn, hr⟩
theorem QQ.below {w w' : World} {base g : Nat} {m : List Tk} {r : Option Nat} (h : QQ w base g m r) (hb : Below w.heap.size w w') : QQ w' base g m r := by
  obtain ⟨l, hq, hr⟩ := h
  exact ⟨l, hq.below hb, hr⟩
theorem QQ.drewN {w : World} {base g : Nat} {m : List Tk} {r : Option Nat} (h : QQ w base g m r) (n : Nat) : QQ (w.drewN n) base g m r := h
theorem mayT_iff {t : Tk} : mayT t = true ↔ 0 ≤ t.1 ∧ t.1 < 4096 ∧ 1 ≤ t.2 ∧ t.2 ≤ 2199023255552 := by simp [mayT]

theorem perm_nth {l m : List Tk} (h : l.Perm m) {x : Tk} (hx : x ∈ m) : ∃ i, i < l.length ∧ nth l i = x := by
  obtain ⟨i, hi, he⟩ := List.getElem_of_mem (h.mem_iff.2 hx)
  exact ⟨i, hi, by rw [nth_get hi]; exact he⟩

theorem small_q {w : World} {base g : Nat} {m : List Tk} {r : Option Nat} (h : QQ w base g m r) : m.length ≤ 4096 := by
  obtain ⟨l, hq, _, hp, _⟩ := h
  rw [← hp.length_eq]; exact hq.apt.small

/-- What Put answers: whether something is so, the error, what there is then. -/
def putR (m : List Tk) (t : Tk) : Bool × Int × List Tk :=
  if mayT t = true then
    match findM m t.1 with
    | some x => if x.2 ≤ t.2 then (false, 0, m) else (true, 0, putM m t)
    | none => (true, 0, putM m t)
  else (false, 2, m)

theorem put_q {w : World} {base g : Nat} {m : List Tk} {r : Option Nat} (h : QQ w base g m r) (hbs : base ≤ w.heap.size) (t : Tk) :
    Calls Try.prog 21 #[.pointer (some ⟨g, 0, none⟩), .agg #[.int .i64 t.1, .int .i64 t.2]] w fun e w' =>
      e = .returned (.tuple #[.bool (putR m t).1, .int .i64 (putR m t).2.1]) ∧ ∃ r', QQ w' base g (putR m t).2.2 r' ∧ Only w w' (QF g r) ∧ RNew w r r' := by
  obtain ⟨l, hq, hh, hp, hm, hmay⟩ := h
  cases hmt : mayT t with
  | false =>
    refine (put_bad hq t hmt).mono ?_
    rintro e w' ⟨he, hb⟩
    rw [show putR m t = (false, 2, m) by simp [putR, hmt]]
    exact ⟨he, r, ⟨l, hq.below hb, hh, hp, hm, hmay⟩, Only.of_below hb, RNew.refl _ _⟩
  | true =>
    have hb := mayT_iff.1 hmt
    obtain ⟨a, hat⟩ : ∃ a : Nat, t.1 = a := ⟨t.1.toNat, by omega⟩
    have ht : t = ((a : Int), t.2) := by rw [← hat]
    cases hf : findM m t.1 with
    | none =>
      have hno : ∀ x ∈ m, x.1 ≠ t.1 := fun x hx => by
        have := List.find?_eq_none.1 hf x hx
        simpa using this
      have hno' : ∀ i, i < l.length → (nth l i).1 ≠ (a : Int) := fun i hi => by
        rw [← hat]; exact hno _ (hp.mem_iff.1 (nth_mem hi))
      have hcall := put_new hq hbs a t.2 (by rw [← ht]; exact hmt) hno'
      rw [← ht] at hcall
      rw [hat]
      refine hcall.mono ?_
      rintro e w' ⟨he, r', hq', ho, hr⟩
      rw [show putR m t = (true, 0, putM m t) by simp [putR, hmt, hf]]
      refine ⟨he, r', ⟨_, hq', ?_, ?_, putM_rising hm, ?_⟩, ho, hr⟩
      · rw [upL_length _ _ _ (by simp)]
        simpa using push_heap t hh
      · refine (upL_perm _ _ _ (by simp)).trans (List.perm_append_comm.trans ?_)
        refine (List.Perm.cons t ?_).trans (putM_perm hm).symm
        rw [rest_none hno]
        exact hp
      · intro x hx
        rcases mem_putM hx with rfl | hx
        · exact hmt
        · exact hmay x hx
    | some x =>
      have hxm := List.mem_of_find?_eq_some hf
      have hxt : x.1 = t.1 := by have := List.find?_some hf; simpa using this
      obtain ⟨i, hi, hix⟩ := perm_nth hp hxm
      by_cases hd : x.2 ≤ t.2
      · have hcall := put_old hq a t.2 (by rw [← ht]; exact hmt) i hi (by rw [hix, hxt, hat]) (by rw [hix]; exact hd)
        rw [hat]
        refine hcall.mono ?_
        rintro e w' ⟨he, hb⟩
        rw [show putR m t = (false, 0, m) by simp [putR, hmt, hf, hd]]
        exact ⟨he, r, ⟨l, hq.below hb, hh, hp, hm, hmay⟩, Only.of_below hb, RNew.refl _ _⟩
      · have hcall := put_less hq a t.2 (by rw [← ht]; exact hmt) i hi (by rw [hix, hxt, hat]) (by rw [hix]; omega)
        rw [← ht] at hcall
        rw [hat]
        refine hcall.mono ?_
        rintro e w' ⟨he, hq', ho⟩
        rw [show putR m t = (true, 0, putM m t) by simp [putR, hmt, hf, hd]]
        have hl : (l.set i t).length = l.length := by simp
        refine ⟨he, r, ⟨_, hq', ?_, ?_, putM_rising hm, ?_⟩, ho, RNew.refl _ _⟩
        · rw [mendL_length (by rw [hl]; exact Nat.le_refl _) (by rw [hl]; exact hi), hl]
          exact set_heap t hh hi
        · refine (mendL_perm (by rw [hl]; exact Nat.le_refl _) (by rw [hl]; exact hi)).trans ((set_perm hq.apt hi t (by rw [hix, hxt])).trans ?_)
          exact (List.Perm.cons t (rest_perm hp t.1)).trans (putM_perm hm).symm
        · intro y hy
          rcases mem_putM hy with rfl | hy
          · exact hmt
          · exact hmay y hy

/-- The rest behind one that goes. -/
theorem gone {l m l' : List Tk} {x : Tk} (hap : Apt l) (hp : l.Perm m) (hx : x ∈ l) (hs : (l' ++ [x]).Perm l) : l'.Perm (rest m x.1) := by
  have h1 := hs.trans (perm_rest hap.keys hx)
  have h2 := (List.perm_append_comm.symm.trans h1).cons_inv
  exact h2.trans (rest_perm hp x.1)

theorem drop_q {w : World} {base g : Nat} {m : List Tk} {r : Option Nat} (h : QQ w base g m r) (a : Int) :
    Calls Try.prog 22 #[.pointer (some ⟨g, 0, none⟩), .int .i64 a] w fun e w' =>
      e = .returned (.bool (findM m a).isSome) ∧ QQ w' base g (rest m a) r ∧ Only w w' (QF g r) := by
  obtain ⟨l, hq, hh, hp, hm, hmay⟩ := h
  cases hf : findM m a with
  | none =>
    have hno : ∀ x ∈ m, x.1 ≠ a := fun x hx => by
      have := List.find?_eq_none.1 hf x hx
      simpa using this
    refine (drop_out hq a (fun i hi => hno _ (hp.mem_iff.1 (nth_mem hi)))).mono ?_
    rintro e w' ⟨he, rfl⟩
    refine ⟨he, ?_, Only.refl _ _⟩
    rw [rest_none hno]
    exact ⟨l, hq, hh, hp, hm, hmay⟩
  | some x =>
    have hxm := List.mem_of_find?_eq_some hf
    have hxa : x.1 = a := by have := List.find?_some hf; simpa using this
    obtain ⟨i, hi, hix⟩ := perm_nth hp hxm
    have hcall := drop_in hq i hi
    rw [hix, hxa] at hcall
    refine hcall.mono ?_
    rintro e w' ⟨he, hq', ho⟩
    obtain ⟨n, hn⟩ : ∃ n, l.length = n + 1 := ⟨l.length - 1, by omega⟩
    have hs := remove_split hn hi
    rw [hix] at hs
    refine ⟨he, ⟨_, hq', ?_, ?_, hm.rest a, fun t ht => hmay t (mem_rest.1 ht).1⟩, ho⟩
    · rw [hs.2]; exact remove_heap hn hi hh
    · have := gone hq.apt hp (by rw [← hix]; exact nth_mem hi) hs.1
      rwa [hxa] at this

theorem due_q {w : World} {base g : Nat} {m : List Tk} {r : Option Nat} (h : QQ w base g m r) (a : Int) :
    Calls Try.prog 12 #[.pointer (some ⟨g, 0, none⟩), .int .i64 a] w fun e w' =>
      e = .returned (.tuple #[.int .i64 ((findM m a).map (·.2) |>.getD 0), .bool (findM m a).isSome]) ∧ w = w' := by
  obtain ⟨l, hq, hh, hp, hm, hmay⟩ := h
  cases hf : findM m a with
  | none =>
    have hno : ∀ x ∈ m, x.1 ≠ a := fun x hx => by
      have := List.find?_eq_none.1 hf x hx
      simpa using this
    exact due_out hq a (fun i hi => hno _ (hp.mem_iff.1 (nth_mem hi)))
  | some x =>
    have hxm := List.mem_of_find?_eq_some hf
    have hxa : x.1 = a := by have := List.find?_some hf; simpa using this
    obtain ⟨i, hi, hix⟩ := perm_nth hp hxm
    have hcall := due_in hq i hi
    rw [hix, hxa] at hcall
    exact hcall

theorem qlen_q {w : World} {base g : Nat} {m : List Tk} {r : Option Nat} (h : QQ w base g m r) :
    Calls Try.prog 13 #[.pointer (some ⟨g, 0, none⟩)] w fun e w' => e = .returned (.int .i64 m.length) ∧ w = w' := by
  obtain ⟨l, hq, hh, hp, hm, hmay⟩ := h
  rw [← hp.length_eq]; exact len_q hq

theorem min_root {l m : List Tk} (hh : Heap l l.length) (hp : l.Perm m) (h0 : 0 < l.length) : IsMin m (nth l 0) := by
  refine ⟨hp.mem_iff.1 (nth_mem h0), fun x hx => ?_⟩
  obtain ⟨i, hi, rfl⟩ := perm_nth hp hx
  exact hh.root i hi
theorem min_unique {m : List Tk} {t u : Tk} (ht : IsMin m t) (hu : IsMin m u) : t = u := by
  have h1 := ht.2 u hu.1
  have h2 := hu.2 t ht.1
  rw [lessT_false] at h1 h2
  exact Prod.ext (by omega) (by omega)
theorem first_q {w : World} {base g : Nat} {m : List Tk} {r : Option Nat} (h : QQ w base g m r) :
    Calls Try.prog 16 #[.pointer (some ⟨g, 0, none⟩)] w fun e w' =>
      ((m = [] ∧ e = tickRes (0, 0) false) ∨ ∃ t, IsMin m t ∧ e = tickRes t true) ∧ Below w.heap.size w w' := by
  obtain ⟨l, hq, hh, hp, hm, hmay⟩ := h
  by_cases h0 : l.length = 0
  · refine (first_out hq h0).mono ?_
    rintro e w' ⟨he, hb⟩
    exact ⟨.inl ⟨List.eq_nil_of_length_eq_zero (by rw [← hp.length_eq]; exact h0), he⟩, hb⟩
  · refine (first_in hq (by omega)).mono ?_
    rintro e w' ⟨he, hb⟩
    exact ⟨.inr ⟨_, min_root hh hp (by omega), he⟩, hb⟩
theorem take_q {w : World} {base g : Nat} {m : List Tk} {r : Option Nat} (h : QQ w base g m r) (now : Int) :
    Calls Try.prog 15 #[.pointer (some ⟨g, 0, none⟩), .int .i64 now] w fun e w' =>
      (((m = [] ∨ ∃ t, IsMin m t ∧ now < t.2) ∧ e = tickRes (0, 0) false ∧ QQ w' base g m r) ∨ ∃ t, IsMin m t ∧ t.2 ≤ now ∧ e = tickRes t true ∧ QQ w' base g (rest m t.1) r) ∧ Only w w' (QF g r) := by
  obtain ⟨l, hq, hh, hp, hm, hmay⟩ := h
  by_cases h0 : l.length = 0
  · refine (take_no hq now (.inl h0)).mono ?_
    rintro e w' ⟨he, hb⟩
    exact ⟨.inl ⟨.inl (List.eq_nil_of_length_eq_zero (by rw [← hp.length_eq]; exact h0)), he, ⟨l, hq.below hb, hh, hp, hm, hmay⟩⟩, Only.of_below hb⟩
  · have hmin := min_root hh hp (by omega)
    by_cases hd : now < (nth l 0).2
    · refine (take_no hq now (.inr hd)).mono ?_
      rintro e w' ⟨he, hb⟩
      exact ⟨.inl ⟨.inr ⟨_, hmin, hd⟩, he, ⟨l, hq.below hb, hh, hp, hm, hmay⟩⟩, Only.of_below hb⟩
    · refine (take_yes hq now (by omega) (by omega)).mono ?_
      rintro e w' ⟨he, hq', ho⟩
      obtain ⟨n, hn⟩ : ∃ n, l.length = n + 1 := ⟨l.length - 1, by omega⟩
      have hs := pop_split hn
      refine ⟨.inr ⟨_, hmin, by omega, he, _, hq', ?_, gone hq.apt hp (nth_mem (by omega)) hs.1, hm.rest _, fun t ht => hmay t (mem_rest.1 ht).1⟩, ho⟩
      rw [hs.2]; exact pop_heap hn hh
end Go.Proofs.Ytlccplpniidjfaa
