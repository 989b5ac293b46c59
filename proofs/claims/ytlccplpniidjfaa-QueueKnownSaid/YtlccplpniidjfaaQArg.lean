/- An argument that is a slice of ticks. -/
import Derived.Test.YtlccplpniidjfaaQLaw
import Derived.ProofKit
import Derived.OpenShut
import Derived.SizedLaws
namespace Go.Proofs.Ytlccplpniidjfaa
open Go.ChangeShapes Go.WideShapes Go.ChangeAt Go.RowKit Go.Deep

theorem lt_of_cell {w : World} {a : Addr} {v : Value} (h : w.cell? a = some v) : a.block < w.heap.size := by
  rcases Nat.lt_or_ge a.block w.heap.size with h' | h'
  · exact h'
  · simp [World.cell?, Array.getElem?_eq_none h'] at h
theorem spot_of_cell {w : World} {a : Addr} {v : Value} (h : w.cell? a = some v) : a.spot = none := by
  unfold World.cell? at h
  split at h
  · split at h
    · cases h
    · rename_i hs; simpa using hs
  · cases h

theorem choose_list {Q : Nat → Tk → Prop} : ∀ n, (∀ i, i < n → ∃ t, Q i t) → ∃ ts : List Tk, ts.length = n ∧ ∀ i, i < n → Q i (nth ts i)
  | 0, _ => ⟨[], rfl, fun i hi => by omega⟩
  | n + 1, h => by
    obtain ⟨ts, hl, ht⟩ := choose_list n fun i hi => h i (by omega)
    obtain ⟨t, hq⟩ := h n (by omega)
    refine ⟨ts ++ [t], by simp [hl], fun i hi => ?_⟩
    by_cases e : i < n
    · rw [nth_append (by omega)]; exact ht i e
    · obtain rfl : i = n := by omega
      have := nth_push_last ts t
      rw [hl] at this
      rw [this]; exact hq
theorem ticks_arg {H : Type} {enc : TypeId × Value → H} {W : World} {base : Nat} {ao : Option Addr} {len cap : Nat} {d : DataW H} {p : List MemPlace}
    (h : DataW.Trod enc Try.prog W base (fun _ => true) true 22 (.slice ao len cap) d p) :
    ∃ ts : List Tk, TicksAt W (.slice ao len cap) ts ∧ len ≤ cap ∧ cap ≤ maxLen ∧ (cap = 0 ∨ ∃ E S, d = .slice E S ∧ E.length = len ∧ E.length + S.length = cap) := by
  obtain ⟨fuel, hf⟩ := h
  rcases open_slice_fields Try.underlying22 Try.underlying24 (by kernel_rfl) (by kernel_rfl) hf with ⟨hcs, _⟩ | ⟨a, len', cap', m, D, Pl, hcs, _, hl, hm, hmm, hx, hcell⟩
  · simp [Value.cells] at hcs
    obtain ⟨rfl, rfl, rfl⟩ := hcs
    exact ⟨[], ⟨none, 0, rfl, fun i hi => by simp at hi⟩, Nat.le_refl _, Nat.zero_le _, .inl rfl⟩
  · simp [Value.cells] at hcs
    obtain ⟨rfl, rfl, rfl⟩ := hcs
    simp only [if_true] at hmm
    subst hmm
    have each : ∀ i, i < len → ∃ t : Tk, W.cell? (a.add (i * 2)) = some (.int .i64 t.1) ∧ W.cell? (a.add (i * 2 + 1)) = some (.int .i64 t.2) := by
      intro i hi
      obtain ⟨ys, n, _, _, _, hf⟩ := hcell i (by omega)
      obtain ⟨v0, y0, c0, _, h0⟩ := hf 0 _ rfl
      obtain ⟨v1, y1, c1, _, h1⟩ := hf 1 _ rfl
      obtain ⟨m0, e0, _, _⟩ := DataW.trod_int (k := .i64) Try.underlying3 h0
      obtain ⟨m1, e1, _, _⟩ := DataW.trod_int (k := .i64) Try.underlying2 h1
      injection e0 with e0 _
      injection e1 with e1 _
      subst e0 e1
      exact ⟨(m0, m1), c0, c1⟩
    obtain ⟨ts, hts, hcells⟩ := choose_list len each
    refine ⟨ts, ⟨some a, m, by rw [hts], fun i hi => ?_⟩, hl, hm, .inr ⟨_, _, (congrArg Prod.fst hx), by simp, by simp; omega⟩⟩
    rw [hts] at hi
    have hc := hcells i hi
    have hsp : a.spot = none := by
      have h0 := spot_of_cell (hcells 0 (by omega)).1
      simpa [Addr.add] using h0
    obtain ⟨b, off, sp⟩ := a
    have hsp : sp = none := hsp
    subst hsp
    have ha : ∀ j, (⟨b, off, none⟩ : Addr).add j = ⟨b, off + j, none⟩ := fun j => by
      unfold Addr.add
      split
      · rename_i h0; subst h0; rfl
      · rfl
    rw [ha, ha] at hc
    exact ⟨b, off, rfl, lt_of_cell hc.1, hc.1, hc.2⟩
end Go.Proofs.Ytlccplpniidjfaa
