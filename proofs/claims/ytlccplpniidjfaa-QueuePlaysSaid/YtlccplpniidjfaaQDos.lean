/- An argument that is a slice of calls. -/
import Derived.Test.YtlccplpniidjfaaQArg
import Derived.Test.YtlccplpniidjfaaFlat
namespace Go.Proofs.Ytlccplpniidjfaa
open Go.ChangeShapes Go.WideShapes Go.ChangeAt Go.RowKit Go.Deep

abbrev Call3 := Int × Tk
def nthD (l : List Call3) (i : Nat) : Call3 := l.getD i (0, 0, 0)
/-- A slice that reads as calls. -/
def DosAt (w : World) (v : Value) (ds : List Call3) : Prop :=
  ∃ ao cap, v = .slice ao ds.length cap ∧ ∀ i, i < ds.length → (-9223372036854775808 ≤ (nthD ds i).1 ∧ (nthD ds i).1 ≤ 9223372036854775807) ∧ ∃ b off, ao = some ⟨b, off, none⟩ ∧ b < w.heap.size ∧
    w.cell? ⟨b, off + i * 3, none⟩ = some (.int .i64 (nthD ds i).1) ∧ w.cell? ⟨b, off + i * 3 + 1, none⟩ = some (.int .i64 (nthD ds i).2.1) ∧ w.cell? ⟨b, off + i * 3 + 2, none⟩ = some (.int .i64 (nthD ds i).2.2)
theorem DosAt.below {w w' : World} {v : Value} {ds : List Call3} (h : DosAt w v ds) (hb : Below w.heap.size w w') : DosAt w' v ds := by
  obtain ⟨ao, cap, hv, h⟩ := h
  refine ⟨ao, cap, hv, fun i hi => ?_⟩
  obtain ⟨hr, b, off, h1, h2, h3, h4, h5⟩ := h i hi
  exact ⟨hr, b, off, h1, Nat.lt_of_lt_of_le h2 hb.size, (hb.cell (p := ⟨b, _, none⟩) h2).trans h3, (hb.cell (p := ⟨b, _, none⟩) h2).trans h4, (hb.cell (p := ⟨b, _, none⟩) h2).trans h5⟩
theorem choose_of {α : Type} (d : α) {Q : Nat → α → Prop} : ∀ n, (∀ i, i < n → ∃ t, Q i t) → ∃ ts : List α, ts.length = n ∧ ∀ i, i < n → Q i (ts.getD i d)
  | 0, _ => ⟨[], rfl, fun i hi => by omega⟩
  | n + 1, h => by
    obtain ⟨ts, hl, ht⟩ := choose_of d n fun i hi => h i (by omega)
    obtain ⟨t, hq⟩ := h n (by omega)
    refine ⟨ts ++ [t], by simp [hl], fun i hi => ?_⟩
    by_cases e : i < n
    · have := ht i e
      rwa [List.getD_eq_getElem?_getD, List.getElem?_append_left (by omega), ← List.getD_eq_getElem?_getD]
    · obtain rfl : i = n := by omega
      rw [List.getD_eq_getElem?_getD, List.getElem?_append_right (by omega), hl]
      simpa using hq
theorem fits_int {k : IntKind} {L : List TypeDesc} {cs : List Value} (h : Fits (.int k :: L) cs) : ∃ a cs', cs = .int k a :: cs' ∧ (Lit.int k a).wf = true ∧ Fits L cs' := by
  cases cs with
  | nil => exact h.elim
  | cons v cs =>
    obtain ⟨h1, h2⟩ := h
    cases v <;> try exact h1.elim
    obtain ⟨rfl, hw⟩ := h1
    exact ⟨_, _, rfl, hw, h2⟩
theorem fits_nil {cs : List Value} (h : Fits [] cs) : cs = [] := by
  cases cs with
  | nil => rfl
  | cons => exact h.elim
theorem dos_arg {H : Type} {enc : TypeId × Value → H} {W : World} {base : Nat} {ao : Option Addr} {len cap : Nat} {d : DataW H} {p : List MemPlace}
    (h : DataW.Trod enc Try.prog W base (fun _ => true) true 55 (.slice ao len cap) d p) :
    ∃ ds : List Call3, DosAt W (.slice ao len cap) ds ∧ len ≤ cap ∧ cap ≤ maxLen ∧ (cap = 0 ∨ ∃ E S, d = .slice E S ∧ E.length = len ∧ E.length + S.length = cap) := by
  obtain ⟨h1, h2, h3, h4⟩ := flat_slice (n := 4) (L := [.int .i64, .int .i64, .int .i64]) Try.underlying55 (by kernel_rfl) (by kernel_rfl) h
  have each : ∀ i, i < len → ∃ t : Call3, (-9223372036854775808 ≤ t.1 ∧ t.1 ≤ 9223372036854775807) ∧ ∃ a, ao = some a ∧ W.cell? (a.add (i * 3)) = some (.int .i64 t.1) ∧ W.cell? (a.add (i * 3 + 1)) = some (.int .i64 t.2.1) ∧ W.cell? (a.add (i * 3 + 2)) = some (.int .i64 t.2.2) := by
    intro i hi
    obtain ⟨a, ha, hc⟩ := h4 (by omega)
    obtain ⟨cs, hf, hcell⟩ := hc i hi
    obtain ⟨x, cs, rfl, wx, hf⟩ := fits_int hf
    obtain ⟨y, cs, rfl, wy, hf⟩ := fits_int hf
    obtain ⟨z, cs, rfl, wz, hf⟩ := fits_int hf
    simp only [Lit.wf, Bool.and_eq_true, decide_eq_true_eq] at wx
    exact ⟨(x, y, z), wx, a, ha, hcell 0 (by simp), hcell 1 (by simp), hcell 2 (by simp)⟩
  obtain ⟨ds, hds, hcells⟩ := choose_of ((0, 0, 0) : Call3) len each
  refine ⟨ds, ⟨ao, cap, by rw [hds], fun i hi => ?_⟩, h1, h2, h3⟩
  rw [hds] at hi
  obtain ⟨hr, a, rfl, c0, c1, c2⟩ := hcells i hi
  have hsp : a.spot = none := by
    obtain ⟨_, a', ha', c0', _⟩ := hcells 0 (by omega)
    injection ha' with ha'
    subst ha'
    have h0 := spot_of_cell c0'
    simpa [Addr.add] using h0
  obtain ⟨b, off, sp⟩ := a
  have hsp : sp = none := hsp
  subst hsp
  have ha : ∀ j, (⟨b, off, none⟩ : Addr).add j = ⟨b, off + j, none⟩ := fun j => by
    unfold Addr.add
    split
    · rename_i h0; subst h0; rfl
    · rfl
  rw [ha] at c0 c1 c2
  exact ⟨hr, b, off, rfl, lt_of_cell c0, c0, c1, c2⟩
end Go.Proofs.Ytlccplpniidjfaa
