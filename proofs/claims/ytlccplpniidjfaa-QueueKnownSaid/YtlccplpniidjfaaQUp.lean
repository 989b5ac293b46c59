/- heap.up over a queue's rows: the walk. -/
import Derived.Test.YtlccplpniidjfaaQSwap
namespace Go.Proofs.Ytlccplpniidjfaa
open Go.RowKit

theorem Apt.bound {l : List Tk} (h : Apt l) {i : Nat} (hi : i < l.length) : 0 ≤ (nth l i).1 ∧ (nth l i).1 < 4096 := h.1 i hi
theorem Apt.nodup {l : List Tk} (h : Apt l) : (l.map fun t => t.1.toNat).Nodup := by
  rw [List.nodup_iff_pairwise_ne, List.pairwise_iff_getElem]
  intro i j hi hj hlt he
  simp only [List.length_map] at hi hj
  simp only [List.getElem_map] at he
  have b1 := h.1 i hi
  have b2 := h.1 j hj
  rw [nth_get hi] at b1
  rw [nth_get hj] at b2
  have := h.2 i j hi hj (by rw [nth_get hi, nth_get hj]; omega)
  omega
theorem nodup_lt_length : ∀ {m : Nat} {l : List Nat}, l.Nodup → (∀ x ∈ l, x < m) → l.length ≤ m
  | 0, l, _, hm => by
    cases l with
    | nil => simp
    | cons a l => exact absurd (hm a List.mem_cons_self) (by omega)
  | m + 1, l, hn, hm => by
    have h1 := nodup_lt_length (m := m) (hn.erase m) (fun x hx => by
      have h2 := (hn.mem_erase_iff).1 hx
      have := hm x h2.2
      omega)
    have h2 := List.length_erase (a := m) (l := l)
    split at h2 <;> omega
theorem Apt.small {l : List Tk} (h : Apt l) : l.length ≤ 4096 := by
  have := nodup_lt_length h.nodup (m := 4096) (fun x hx => by
    simp only [List.mem_map] at hx
    obtain ⟨t, ht, rfl⟩ := hx
    obtain ⟨i, hi, rfl⟩ := List.getElem_of_mem ht
    have := h.1 i hi
    rw [nth_get hi] at this
    omega)
  simpa using this

theorem Apt.perm {l l' : List Tk} (h : Apt l) (hp : l'.Perm l) : Apt l' := by
  have hn := h.nodup
  have hn' : (l'.map fun t => t.1.toNat).Nodup := ((hp.map _).nodup_iff).2 hn
  have hb : ∀ i, i < l'.length → 0 ≤ (nth l' i).1 ∧ (nth l' i).1 < 4096 := by
    intro i hi
    have hm : nth l' i ∈ l := hp.mem_iff.1 (by rw [nth_get hi]; exact List.getElem_mem hi)
    obtain ⟨k, hk, he⟩ := List.getElem_of_mem hm
    have := h.1 k hk
    rw [nth_get hk, he] at this
    exact this
  refine ⟨hb, fun i j hi hj he => ?_⟩
  rw [List.nodup_iff_pairwise_ne, List.pairwise_iff_getElem] at hn'
  rcases Nat.lt_trichotomy i j with hlt | heq | hlt
  · refine absurd ?_ (hn' i j (by simpa using hi) (by simpa using hj) hlt)
    simp only [List.getElem_map]
    rw [nth_get hi, nth_get hj] at he
    rw [he]
  · exact heq
  · refine absurd ?_ (hn' j i (by simpa using hj) (by simpa using hi) hlt)
    simp only [List.getElem_map]
    rw [nth_get hi, nth_get hj] at he
    rw [he]

theorem whereIs_swap {f : Nat → Nat} {l : List Tk} {i k : Nat} (hf : WhereIs f l) (ha : Apt l) (hi : i < l.length) (hk : k < l.length) :
    WhereIs (upd (upd f (nth l k).1.toNat (i + 1)) (nth l i).1.toNat (k + 1)) (swapL l i k) := by
  have bi := ha.1 i hi
  have bk := ha.1 k hk
  refine ⟨fun j hj => ?_, fun a hna => ?_⟩
  · rw [swapL_length] at hj
    rw [nth_swap hi hk]
    have bj := ha.1 j hj
    by_cases e : k = j
    · subst e
      rw [if_pos rfl]
      simp [upd]
    · rw [if_neg e]
      by_cases e2 : i = j
      · subst e2
        rw [if_pos rfl]
        have : (nth l k).1.toNat ≠ (nth l i).1.toNat := fun h => e (ha.2 k i hk hi (by omega))
        simp [upd, this]
      · rw [if_neg e2]
        have h1 : (nth l j).1.toNat ≠ (nth l i).1.toNat := fun h => e2 (ha.2 i j hi hj (by omega))
        have h2 : (nth l j).1.toNat ≠ (nth l k).1.toNat := fun h => e (ha.2 k j hk hj (by omega))
        simp only [upd, if_neg h1, if_neg h2]
        exact hf.1 j hj
  · have h1 : a ≠ (nth l i).1.toNat := fun h => hna k (by rw [swapL_length]; exact hk) (by rw [nth_swap hi hk, if_pos rfl]; omega)
    have h2 : a ≠ (nth l k).1.toNat := fun h => hna i (by rw [swapL_length]; exact hi) (by
      rw [nth_swap hi hk]
      by_cases e : k = i
      · subst e; rw [if_pos rfl]; omega
      · rw [if_neg e, if_pos rfl]; omega)
    simp only [upd, if_neg h1, if_neg h2]
    refine hf.2 a fun j hj he => ?_
    have h3 := hna j (by rw [swapL_length]; exact hj)
    rw [nth_swap hi hk] at h3
    by_cases e : k = j
    · subst e; omega
    · rw [if_neg e] at h3
      by_cases e2 : i = j
      · subst e2; omega
      · rw [if_neg e2] at h3; exact h3 he

theorem QS.drewN {w : World} {base g : Nat} {l : List Tk} {r : Option Nat} (h : QS w base g l r) (n : Nat) : QS (w.drewN n) base g l r := h
theorem QS.apt {w : World} {base g : Nat} {l : List Tk} {r : Option Nat} (h : QS w base g l r) : Apt l := by obtain ⟨v, f, _, _, _, _, _, h⟩ := h; exact h

/-- Swap, of a queue. -/
theorem swap_any {w : World} {base g : Nat} {l : List Tk} {r : Option Nat} (h : QS w base g l r) (i k : Nat) (hik : i ≤ k) (hk : k < l.length) :
    Calls Try.prog 83 #[.pointer (some ⟨g, 0, none⟩), .int .i64 i, .int .i64 k] w fun e w' => e = .returned (.tuple #[]) ∧ QS w' base g (swapL l i k) r ∧ Only w w' (QF g r) := by
  obtain ⟨v, f, hb, ho, hr, hbg, hf, ha⟩ := h
  obtain ⟨d, c, rfl, hd⟩ := row_form ho (by omega)
  have hi : i < l.length := by omega
  have post : ∀ w', Swapped w w' base g d l.length c f l i k → QS w' base g (swapL l i k) r ∧ Only w w' (QF g r) := by
    rintro w' ⟨h1, h2, h3⟩
    refine ⟨⟨_, _, h2, by rw [swapL_length]; exact h1, hr, hbg, whereIs_swap hf ha hi hk, ha.perm (swapL_perm hi hk)⟩, ?_⟩
    rw [hr]; exact h3
  by_cases e : i = k
  · subst e
    exact (swap_eq w base g d _ c f l i rfl hi ha.small hb ho (ha.1 i hi)).mono fun e w' ⟨h1, h2⟩ => ⟨h1, post w' h2⟩
  · exact (swap_ne w base g d _ c f l i k rfl hi hk (by omega) ha.small hb ho (ha.1 i hi) (ha.1 k hk)).mono fun e w' ⟨h1, h2⟩ => ⟨h1, post w' h2⟩
theorem less_q {w : World} {base g : Nat} {l : List Tk} {r : Option Nat} (h : QS w base g l r) (i k : Nat) (hi : i < l.length) (hk : k < l.length) :
    ∃ ao c, w.cell? ⟨g, 0, none⟩ = some (.slice ao l.length c) ∧
      Calls Try.prog 80 #[.slice ao l.length c, .int .i64 i, .int .i64 k] w fun e w' => e = .returned (.bool (lessT (nth l i) (nth l k))) ∧ ∃ m, w' = w.drewN m := by
  obtain ⟨v, f, hb, ho, hr, hbg, hf, ha⟩ := h
  obtain ⟨d, c, rfl, hd⟩ := row_form ho (by omega)
  exact ⟨_, _, hb.cell, less_any ho i k hi hk⟩
end Go.Proofs.Ytlccplpniidjfaa
