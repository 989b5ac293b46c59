/- Joined texts of one seat, each under its own heading below. -/
import Derived.Test.YtlhjjmfbifhgfaaRows
import Derived.Deep.Slices
import Derived.ChangeArms
import Derived.ChangeSame
import Derived.WideShapes
import Derived.DataReads
/- Arguments whose cells are numbers, bools and strings, however they are nested (structs in structs, arrays): opened to their cells. -/
namespace Go.Proofs.Ytlhjjmfbifhgfaa
set_option linter.unusedSimpArgs false
set_option linter.unusedVariables false
open Go.ChangeShapes Go.WideShapes

/-- Does a cell fit a leaf's type? -/
def leafOk : TypeDesc → Value → Prop
  | .bool, .bool _ => True
  | .int k, .int k' n => k' = k ∧ (Lit.int k n).wf = true
  | .string, .string s => s.size ≤ maxLen
  | _, _ => False
def Fits : List TypeDesc → List Value → Prop
  | [], [] => True
  | d :: L, v :: cs => leafOk d v ∧ Fits L cs
  | _, _ => False
theorem Fits.append : ∀ {L1 L2 : List TypeDesc} {c1 c2 : List Value}, Fits L1 c1 → Fits L2 c2 → Fits (L1 ++ L2) (c1 ++ c2)
  | [], _, [], _, _, h => h
  | _ :: _, _, _ :: _, _, h1, h => ⟨h1.1, Fits.append h1.2 h⟩
  | [], _, _ :: _, _, h1, _ => h1.elim
  | _ :: _, _, [], _, h1, _ => h1.elim
theorem Fits.length : ∀ {L : List TypeDesc} {cs : List Value}, Fits L cs → cs.length = L.length
  | [], [], _ => rfl
  | _ :: _, _ :: _, h => by simp [Fits.length h.2]
  | [], _ :: _, h => h.elim
  | _ :: _, [], h => h.elim

def flatFs (g : TypeId → Option (List TypeDesc)) (co : TypeId → Nat) : List Field → Nat → Option (List TypeDesc)
  | [], _ => some []
  | f :: fs, off => if f.offset = off then (g f.type).bind fun l => if co f.type = l.length then (flatFs g co fs (off + l.length)).map (l ++ ·) else none else none
def flatRep (l : List TypeDesc) : Nat → List TypeDesc
  | 0 => []
  | n + 1 => l ++ flatRep l n
/-- A type's leaves, one behind the other. -/
def flatF (P : Program) : Nat → TypeId → Option (List TypeDesc)
  | 0, _ => none
  | n + 1, t =>
    match P.underlying t with
    | some .bool => some [.bool]
    | some (.int k) => some [.int k]
    | some .string => some [.string]
    | some (.struct fs) => (flatFs (flatF P n) P.cellsOf fs.toList 0).bind fun L => if L.length = P.cellsOf t then some L else none
    | some (.array k e) => (flatF P n e).bind fun l => if l.length = P.cellsOf e ∧ (flatRep l k).length = P.cellsOf t then some (flatRep l k) else none
    | _ => none

section
variable {H : Type} {enc : TypeId × Value → H} {P : Program} {w : World} {base : Nat} {spare : Nat → Bool} {held : Bool}
theorem flatFs_fits {g : TypeId → Option (List TypeDesc)} {cs : List Value} : ∀ (fl : List Field) (off : Nat) (L : List TypeDesc), flatFs g P.cellsOf fl off = some L →
    (∀ f ∈ fl, ∀ l, g f.type = some l → Fits l ((cs.drop f.offset).take (P.cellsOf f.type))) → cs.length = off + L.length → Fits L (cs.drop off)
  | [], off, L, h, _, hl => by
    simp [flatFs] at h
    subst h
    rw [List.drop_of_length_le (by simp at hl; omega)]
    trivial
  | f :: fl, off, L, h, hf, hl => by
    unfold flatFs at h
    split at h
    · rename_i ho
      simp only [Option.bind_eq_some_iff] at h
      obtain ⟨l, hg, h⟩ := h
      split at h
      · rename_i hc
        simp only [Option.map_eq_some_iff] at h
        obtain ⟨L', hL', rfl⟩ := h
        have h1 := hf f List.mem_cons_self l hg
        rw [ho, hc] at h1
        have h2 := flatFs_fits fl (off + l.length) L' hL' (fun f' hf' => hf f' (List.mem_cons_of_mem _ hf')) (by simp at hl; omega)
        have e : cs.drop off = (cs.drop off).take l.length ++ cs.drop (off + l.length) := by
          rw [← List.drop_drop, List.take_append_drop]
        rw [e]
        exact h1.append h2
      · cases h
    · cases h
theorem flatRep_fits {l : List TypeDesc} {cs : List Value} {off : Nat} : ∀ (n : Nat), (∀ i, i < n → Fits l ((cs.drop (off + i * l.length)).take l.length)) → cs.length = off + (flatRep l n).length → Fits (flatRep l n) (cs.drop off)
  | 0, _, hl => by
    rw [List.drop_of_length_le (by simp [flatRep] at hl; omega)]
    trivial
  | n + 1, h, hl => by
    have h1 := h 0 (by omega)
    simp only [Nat.zero_mul, Nat.add_zero] at h1
    have h2 := flatRep_fits (l := l) (cs := cs) (off := off + l.length) n (fun i hi => by
      have := h (i + 1) (by omega)
      rwa [show off + (i + 1) * l.length = off + l.length + i * l.length by rw [Nat.add_mul]; omega] at this) (by simp [flatRep] at hl; omega)
    have e : cs.drop off = (cs.drop off).take l.length ++ cs.drop (off + l.length) := by
      rw [← List.drop_drop, List.take_append_drop]
    rw [e]
    exact h1.append h2
theorem trod_array {t e : TypeId} {k fuel : Nat} {cs : List Value} {x : DataW H × List MemPlace} (ht : P.underlying t = some (.array k e)) (h : DataW.trod enc P w base spare held fuel t cs = some x) :
    ∃ n, cs.length = P.cellsOf t ∧ ∀ i, i < k → ∃ y, DataW.trod enc P w base spare held n e ((cs.drop (i * P.cellsOf e)).take (P.cellsOf e)) = some y := by
  cases fuel with
  | zero => simp [DataW.trod] at h
  | succ n =>
    unfold DataW.trod at h
    rw [ht] at h
    simp at h
    obtain ⟨hl, xs, hp, hd⟩ := h
    refine ⟨n, hl, fun i hi => ?_⟩
    have h1 := mapM_some_get hp i i (by simp [hi])
    have h2 := mapM_some_length hp
    simp only [List.length_range] at h2
    rw [h1, List.getElem?_eq_getElem (by omega)]
    exact ⟨_, rfl⟩
theorem flat_trod : ∀ (n : Nat) (t : TypeId) (L : List TypeDesc), flatF P n t = some L → ∀ (fuel : Nat) (cs : List Value) (x : DataW H × List MemPlace), DataW.trod enc P w base spare held fuel t cs = some x → Fits L cs
  | 0, t, L, h, _, _, _, _ => by simp [flatF] at h
  | n + 1, t, L, h, fuel, cs, x, ht => by
    unfold flatF at h
    split at h
    · rename_i hu
      cases h
      cases fuel with
      | zero => simp [DataW.trod] at ht
      | succ m =>
        unfold DataW.trod at ht
        rw [hu] at ht
        split at ht <;> simp_all
        trivial
    · rename_i k hu
      cases h
      cases fuel with
      | zero => simp [DataW.trod] at ht
      | succ m =>
        unfold DataW.trod at ht
        rw [hu] at ht
        split at ht <;> simp_all
        exact ⟨⟨rfl, ht.1.2⟩, trivial⟩
    · rename_i hu
      cases h
      cases fuel with
      | zero => simp [DataW.trod] at ht
      | succ m =>
        unfold DataW.trod at ht
        rw [hu] at ht
        split at ht <;> simp_all
        exact ⟨ht.1, trivial⟩
    · rename_i fs hu
      simp only [Option.bind_eq_some_iff] at h
      obtain ⟨L', hL', h⟩ := h
      split at h
      · rename_i hlen
        cases h
        obtain ⟨xs, m, _, _, hl, hxl, hf⟩ := DataW.trod_struct hu ht
        have := flatFs_fits (P := P) (g := flatF P n) (cs := cs) fs.toList 0 L hL' (fun f hfm l hg => by
          obtain ⟨i, hi, hif⟩ := List.getElem_of_mem hfm
          have hi' : i < fs.size := by simpa using hi
          have h1 := hf i f (by rw [← hif]; simp)
          rw [List.getElem?_eq_getElem (by omega)] at h1
          exact flat_trod n f.type l hg m _ _ h1) (by omega)
        simpa using this
      · cases h
    · rename_i k e hu
      simp only [Option.bind_eq_some_iff] at h
      obtain ⟨l, hl, h⟩ := h
      split at h
      · rename_i hlen
        cases h
        obtain ⟨m, hcl, hi⟩ := trod_array hu ht
        have := flatRep_fits (l := l) (cs := cs) (off := 0) k (fun i hik => by
          obtain ⟨y, hy⟩ := hi i hik
          have := flat_trod n e l hl m _ _ hy
          rw [← hlen.1] at this
          simpa using this) (by rw [hcl]; omega)
        simpa using this
      · cases h
    · cases h
/-- A struct or an array by value, its cells. -/
theorem flat_arg {t : TypeId} {n : Nat} {L : List TypeDesc} {v : Value} {d : DataW H} {p : List MemPlace} (hL : flatF P n t = some L) (h : DataW.Trod enc P w base spare held t v d p) : Fits L v.cells.toList := by
  obtain ⟨fuel, hf⟩ := h
  exact flat_trod n t L hL fuel _ _ hf
/-- A slice of them, its cells. -/
theorem flat_slice {t e : TypeId} {n : Nat} {L : List TypeDesc} {ao : Option Addr} {len cap : Nat} {d : DataW H} {p : List MemPlace} (hu : P.underlying t = some (.slice e)) (hL : flatF P n e = some L) (hC : P.cellsOf e = L.length) (h : DataW.Trod enc P w base (fun _ => true) held t (.slice ao len cap) d p) :
    len ≤ cap ∧ cap ≤ maxLen ∧ (cap = 0 ∨ ∃ E S, d = .slice E S ∧ E.length = len ∧ E.length + S.length = cap) ∧
    (0 < len → ∃ a, ao = some a ∧ ∀ i, i < len → ∃ cs, Fits L cs ∧ ∀ j, j < L.length → w.cell? (a.add (i * L.length + j)) = cs[j]?) := by
  obtain ⟨fuel, hf⟩ := h
  rcases Go.Deep.open_slice hu hf with ⟨hcs, _⟩ | ⟨a, len', cap', m, n', D, Pl, hcs, _, hl, hm, hmm, hx, hi⟩
  · simp [Value.cells] at hcs
    obtain ⟨rfl, rfl, rfl⟩ := hcs
    exact ⟨Nat.le_refl _, Nat.zero_le _, .inl rfl, fun h => absurd h (Nat.lt_irrefl _)⟩
  · simp [Value.cells] at hcs
    obtain ⟨rfl, rfl, rfl⟩ := hcs
    simp only [if_true] at hmm
    subst hmm
    refine ⟨hl, hm, .inr ⟨_, _, congrArg Prod.fst hx, by simp, by simp; omega⟩, fun _ => ⟨a, rfl, fun i hil => ?_⟩⟩
    obtain ⟨cs, hc, htr⟩ := hi i (by omega)
    obtain ⟨_, hcl, hat⟩ := World.cells?_some hc
    refine ⟨cs, flat_trod n e L hL n' _ _ htr, fun j hj => ?_⟩
    have := hat j (by omega)
    rw [Go.Deep.add_add, hC] at this
    exact this
end
end Go.Proofs.Ytlhjjmfbifhgfaa
