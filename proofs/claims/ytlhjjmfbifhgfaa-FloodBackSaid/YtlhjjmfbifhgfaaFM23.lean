/- Joined texts of one seat, each under its own heading below. -/
import Derived.Test.YtlhjjmfbifhgfaaFM18
import Derived.Test.YtlhjjmfbifhgfaaFM20
import Derived.Test.YtlhjjmfbifhgfaaFM22
/- Arguments: a hole, an edit, edits. -/
namespace Go.Proofs.Ytlhjjmfbifhgfaa
set_option linter.unusedSimpArgs false
set_option linter.unusedVariables false
open Go.ChangeShapes Go.WideShapes Go.RowKit Go.Deep
set_option maxRecDepth 100000

theorem fits_int {k : IntKind} {L : List TypeDesc} {cs : List Value} (h : Fits (.int k :: L) cs) : ∃ a cs', cs = .int k a :: cs' ∧ (Lit.int k a).wf = true ∧ Fits L cs' := by
  cases cs with
  | nil => exact h.elim
  | cons v cs =>
    obtain ⟨h1, h2⟩ := h
    cases v <;> try exact h1.elim
    obtain ⟨rfl, hw⟩ := h1
    exact ⟨_, _, rfl, hw, h2⟩
theorem fits_nil {cs : List Value} (h : Fits [] cs) : cs = [] := by
  cases cs with
  | nil => rfl
  | cons => exact h.elim
theorem wf_u8 {x : Int} (h : (Lit.int .u8 x).wf = true) : InU x := by
  simp only [Lit.wf, Bool.and_eq_true, decide_eq_true_eq] at h
  exact h
theorem okWide_agg {W : World} {base : Nat} {t : TypeId} {v : Value} (ht : (match Try.prog.underlying t with | some (.struct _) | some (.array _ _) => true | _ => false) = true) (h : Value.okWide Try.prog W .any base t v) : ∃ cs, v = .agg cs := by
  unfold Value.okWide at h
  split at h
  · exact ⟨_, h.choose_spec.1⟩
  · exact ⟨_, h.choose_spec.1⟩
  · split at ht <;> simp_all
theorem lt_of_cell {w : World} {a : Addr} {v : Value} (h : w.cell? a = some v) : a.block < w.heap.size := by
  rcases Nat.lt_or_ge a.block w.heap.size with h' | h'
  · exact h'
  · simp [World.cell?, Array.getElem?_eq_none h'] at h
theorem spot_of_cell {w : World} {a : Addr} {v : Value} (h : w.cell? a = some v) : a.spot = none := by
  unfold World.cell? at h
  split at h
  · split at h
    · cases h
    · rename_i hs; simpa using hs
  · cases h
/-- Elements that are each some value's cells make a list. -/
theorem rat_choose {α : Type} {enc : α → List Value} {k : Nat} (hk0 : 0 < k) (d : α) (hk : ∀ x, (enc x).length = k) {Q : α → Prop} {w : World} {ao : Option Addr} {len : Nat} (cap : Nat)
    (h : 0 < len → ∃ a, ao = some a ∧ ∀ i, i < len → ∃ x, Q x ∧ ∀ j, j < k → w.cell? (a.add (i * k + j)) = (enc x)[j]?) : ∃ l : List α, l.length = len ∧ RAt enc k d w (.slice ao len cap) l ∧ ∀ x ∈ l, Q x := by
  rcases Nat.eq_zero_or_pos len with h0 | h0
  · subst h0
    exact ⟨[], rfl, RAt.nil w ao cap, fun x hx => by cases hx⟩
  · obtain ⟨a, rfl, hh⟩ := h h0
    obtain ⟨F, hF⟩ : ∃ F : Nat → α, ∀ i, i < len → Q (F i) ∧ ∀ j, j < k → w.cell? (a.add (i * k + j)) = (enc (F i))[j]? := by
      classical
      exact ⟨fun i => if h : i < len then (hh i h).choose else d, fun i hi => by simp only [dif_pos hi]; exact (hh i hi).choose_spec⟩
    have hl : ((List.range len).map F).length = len := by simp
    have hg : ∀ i, i < len → ((List.range len).map F).getD i d = F i := fun i hi => by rw [List.getD_eq_getElem?_getD, List.getElem?_map, List.getElem?_range hi]; rfl
    refine ⟨(List.range len).map F, hl, ⟨some a, cap, by rw [hl], fun i hi => ?_⟩, fun x hx => ?_⟩
    · rw [hl] at hi
      have h1 := (hF i hi).2
      have h2 := h1 0 hk0
      have hne : 0 < (enc (F i)).length := by rw [hk]; exact hk0
      rw [List.getElem?_eq_getElem hne] at h2
      have hb0 := lt_of_cell h2
      have hsp : a.spot = none := by
        have h3 := (hF 0 h0).2 0 hk0
        have hne0 : 0 < (enc (F 0)).length := by rw [hk]; exact hk0
        rw [List.getElem?_eq_getElem hne0] at h3
        have h4 := spot_of_cell h3
        simpa [Addr.add] using h4
      obtain ⟨b, off, sp⟩ := a
      have hsp : sp = none := hsp
      subst hsp
      have ha : ∀ j, (⟨b, off, none⟩ : Addr).add j = ⟨b, off + j, none⟩ := fun j => by
        unfold Addr.add
        split
        · rename_i h0; subst h0; rfl
        · rfl
      rw [ha] at hb0
      refine ⟨b, off, rfl, hb0, fun j hj => ?_⟩
      have h3 := h1 j hj
      rw [ha] at h3
      rw [hg i hi, ← h3, Nat.add_assoc]
    · obtain ⟨i, hi, rfl⟩ := List.mem_map.1 hx
      exact (hF i (List.mem_range.1 hi)).1
section
variable {H : Type} {enc : TypeId × Value → H} {W : World} {base base' : Nat}
/-- A slice of cells. -/
theorem cells_arg {ao : Option Addr} {len cap : Nat} {d : DataW H} {p : List MemPlace} (h : DataW.Trod enc Try.prog W base (fun _ => true) true 24 (.slice ao len cap) d p) :
    ∃ cl : List (Int × Int), cl.length = len ∧ len ≤ maxLen ∧ RAt clE 2 ((0, 0) : Int × Int) W (.slice ao len cap) cl ∧ ∀ c ∈ cl, InU c.1 ∧ InU c.2 := by
  obtain ⟨h1, h2, -, h3⟩ := flat_slice (n := 4) (L := [.int .u8, .int .u8]) Try.underlying24 (by kernel_rfl) (by kernel_rfl) h
  obtain ⟨cl, hl, hr, hq⟩ := rat_choose (enc := clE) (k := 2) (by decide) ((0, 0) : Int × Int) clE_len (Q := fun c => InU c.1 ∧ InU c.2) cap (fun h0 => by
    obtain ⟨a, ha, hc⟩ := h3 h0
    refine ⟨a, ha, fun i hi => ?_⟩
    obtain ⟨cs, hf, hat⟩ := hc i hi
    obtain ⟨x, l, rfl, wx, hf⟩ := fits_int hf
    obtain ⟨y, l, rfl, wy, hf⟩ := fits_int hf
    obtain rfl := fits_nil hf
    exact ⟨(x, y), ⟨wf_u8 wx, wf_u8 wy⟩, hat⟩)
  exact ⟨cl, hl, by omega, hr, hq⟩
/-- An edit's cells. -/
def edE (e : Int × (Int × Int)) : List Value := [.int .i64 e.1, .int .u8 e.2.1, .int .u8 e.2.2]
theorem edE_len (e : Int × (Int × Int)) : (edE e).length = 3 := rfl
theorem edits_arg {ao : Option Addr} {len cap : Nat} {d : DataW H} {p : List MemPlace} (h : DataW.Trod enc Try.prog W base (fun _ => true) true 27 (.slice ao len cap) d p) :
    ∃ es : List (Int × (Int × Int)), es.length = len ∧ len ≤ maxLen ∧ RAt edE 3 ((0, 0, 0) : Int × (Int × Int)) W (.slice ao len cap) es ∧ ∀ e ∈ es, InU e.2.1 ∧ InU e.2.2 := by
  obtain ⟨h1, h2, -, h3⟩ := flat_slice (n := 4) (L := [.int .i64, .int .u8, .int .u8]) Try.underlying27 (by kernel_rfl) (by kernel_rfl) h
  obtain ⟨cl, hl, hr, hq⟩ := rat_choose (enc := edE) (k := 3) (by decide) ((0, 0, 0) : Int × (Int × Int)) edE_len (Q := fun e => InU e.2.1 ∧ InU e.2.2) cap (fun h0 => by
    obtain ⟨a, ha, hc⟩ := h3 h0
    refine ⟨a, ha, fun i hi => ?_⟩
    obtain ⟨cs, hf, hat⟩ := hc i hi
    obtain ⟨n, l, rfl, wn, hf⟩ := fits_int hf
    obtain ⟨x, l, rfl, wx, hf⟩ := fits_int hf
    obtain ⟨y, l, rfl, wy, hf⟩ := fits_int hf
    obtain rfl := fits_nil hf
    exact ⟨(n, x, y), ⟨wf_u8 wx, wf_u8 wy⟩, hat⟩)
  exact ⟨cl, hl, by omega, hr, hq⟩
theorem edit_arg {v : Value} {d : DataW H} {p : List MemPlace} (hv : Value.okWide Try.prog W .any base 35 v) (h : DataW.Trod enc Try.prog W base' (fun _ => true) true 35 v d p) :
    ∃ (n : Int) (c : Int × Int), v = .agg #[.int .i64 n, .int .u8 c.1, .int .u8 c.2] ∧ InU c.1 ∧ InU c.2 := by
  obtain ⟨cs, rfl⟩ := okWide_agg (by rw [Try.underlying35]) hv
  have hf := flat_arg (n := 5) (L := [.int .i64, .int .u8, .int .u8]) (by kernel_rfl) h
  simp only [Value.cells] at hf
  obtain ⟨n, l, hx, wn, hf⟩ := fits_int hf
  obtain ⟨x, l, rfl, wx, hf⟩ := fits_int hf
  obtain ⟨y, l, rfl, wy, hf⟩ := fits_int hf
  obtain rfl := fits_nil hf
  exact ⟨n, (x, y), congrArg Value.agg (Array.ext' hx), wf_u8 wx, wf_u8 wy⟩
theorem hole_arg {v : Value} {d : DataW H} {p : List MemPlace} (hv : Value.okWide Try.prog W .any base 26 v) (h : DataW.Trod enc Try.prog W base' (fun _ => true) true 26 v d p) :
    ∃ (a : Pl) (x y z : Int) (u : Value) (cl : List (Int × Int)), v = .agg #[.int .i64 a.1, .int .i64 a.2.1, .int .i64 a.2.2, .int .i64 x, .int .i64 y, .int .i64 z, u] ∧ RAt clE 2 ((0, 0) : Int × Int) W u cl ∧ (∀ c ∈ cl, InU c.1 ∧ InU c.2) ∧ cl.length ≤ maxLen := by
  obtain ⟨cs, rfl⟩ := okWide_agg (by rw [Try.underlying26]) hv
  obtain ⟨fuel, hf⟩ := h
  obtain ⟨xs, n, _, _, hl, hxl, hfd⟩ := DataW.trod_struct Try.underlying26 hf
  have hl7 : (Value.agg cs).cells.toList.length = 7 := hl.trans (by kernel_rfl)
  simp only [Value.cells] at hl7 hfd
  have g0 := hfd 0 _ rfl
  have g1 := hfd 1 _ rfl
  have g2 := hfd 2 _ rfl
  have g3 := hfd 3 _ rfl
  have g4 := hfd 4 _ rfl
  have hx5 : xs.length = 5 := hxl
  obtain ⟨l, hcs⟩ : ∃ l, l = cs.toList := ⟨_, rfl⟩
  rw [← hcs] at g0 g1 g2 g3 g4 hl7
  match l, hl7 with
  | [c0, c1, c2, c3, c4, c5, c6], _ =>
    rw [List.getElem?_eq_getElem (by omega)] at g0 g1 g2 g3 g4
    have f0 := flat_trod 4 _ [.int .i64, .int .i64, .int .i64] (by kernel_rfl) _ _ _ g0
    have f1 := flat_trod 4 _ [.int .i64] (by kernel_rfl) _ _ _ g1
    have f2 := flat_trod 4 _ [.int .i64] (by kernel_rfl) _ _ _ g2
    have f3 := flat_trod 4 _ [.int .i64] (by kernel_rfl) _ _ _ g3
    have e0 : Fits [.int .i64, .int .i64, .int .i64] [c0, c1, c2] := f0
    have e1 : Fits [.int .i64] [c3] := f1
    have e2 : Fits [.int .i64] [c4] := f2
    have e3 : Fits [.int .i64] [c5] := f3
    obtain ⟨a1, l1, h1, _, e0⟩ := fits_int e0
    obtain ⟨a2, l2, rfl, _, e0⟩ := fits_int e0
    obtain ⟨a3, l3, rfl, _, e0⟩ := fits_int e0
    obtain rfl := fits_nil e0
    obtain ⟨x, l4, h2, _, e1⟩ := fits_int e1
    obtain rfl := fits_nil e1
    obtain ⟨y, l5, h3, _, e2⟩ := fits_int e2
    obtain rfl := fits_nil e2
    obtain ⟨z, l6, h4, _, e3⟩ := fits_int e3
    obtain rfl := fits_nil e3
    simp only [List.cons.injEq, and_true] at h1 h2 h3 h4
    obtain ⟨rfl, rfl, rfl⟩ := h1
    subst h2 h3 h4
    have hs : ∃ ao len cap, c6 = .slice ao len cap := by
      rcases open_slice Try.underlying24 g4 with ⟨h, _⟩ | ⟨a, len, cap, _, _, _, _, h, _⟩
      · have h' : [c6] = [Value.slice none 0 0] := h
        injection h' with h' _
        exact ⟨_, _, _, h'⟩
      · have h' : [c6] = [Value.slice (some a) len cap] := h
        injection h' with h' _
        exact ⟨_, _, _, h'⟩
    obtain ⟨ao, len, cap, rfl⟩ := hs
    obtain ⟨cl, h5, h6, h7, h8⟩ := cells_arg (enc := enc) (W := W) (base := base') (ao := ao) (len := len) (cap := cap) ⟨_, g4⟩
    exact ⟨(a1, a2, a3), x, y, z, _, cl, congrArg Value.agg (Array.ext' hcs.symm), h7, h8, by omega⟩
end
end Go.Proofs.Ytlhjjmfbifhgfaa
