/- Arguments: two anchors; a spot or a place. -/
import Derived.Test.YtokmbnmhdicljaaASpots
import Derived.Test.YtokmbnmhdicljaaFlat

namespace Go.Proofs.Ytokmbnmhdicljaa
open Go.ChangeShapes Go.WideShapes Go.RowKit Go.Deep

theorem fits_int {k : IntKind} {L : List TypeDesc} {cs : List Value} (h : Fits (.int k :: L) cs) : ∃ a cs', cs = .int k a :: cs' ∧ (Lit.int k a).wf = true ∧ Fits L cs' := by
  cases cs with
  | nil => exact h.elim
  | cons v cs =>
    obtain ⟨h1, h2⟩ := h
    cases v <;> try exact h1.elim
    obtain ⟨rfl, hw⟩ := h1
    exact ⟨_, _, rfl, hw, h2⟩
theorem fits_bool {L : List TypeDesc} {cs : List Value} (h : Fits (.bool :: L) cs) : ∃ a cs', cs = .bool a :: cs' ∧ Fits L cs' := by
  cases cs with
  | nil => exact h.elim
  | cons v cs =>
    obtain ⟨h1, h2⟩ := h
    cases v <;> try exact h1.elim
    exact ⟨_, _, rfl, h2⟩
theorem fits_nil {cs : List Value} (h : Fits [] cs) : cs = [] := by
  cases cs with
  | nil => rfl
  | cons => exact h.elim
theorem wf_in {x : Int} (h : (Lit.int .i64 x).wf = true) : -9223372036854775808 ≤ x ∧ x ≤ 9223372036854775807 := by
  simp only [Lit.wf, Bool.and_eq_true, decide_eq_true_eq] at h
  exact h
theorem okWide_agg {W : World} {base : Nat} {t : TypeId} {v : Value} (ht : (match Try.prog.underlying t with | some (.struct _) | some (.array _ _) => true | _ => false) = true) (h : Value.okWide Try.prog W .any base t v) : ∃ cs, v = .agg cs := by
  unfold Value.okWide at h
  split at h
  · exact ⟨_, h.choose_spec.1⟩
  · exact ⟨_, h.choose_spec.1⟩
  · split at ht <;> simp_all
theorem sp_of {t : TypeId} {W : World} {H : Type} {enc : TypeId × Value → H} {base' : Nat} {v : Value} {d : DataW H} {p : List MemPlace} (hL : flatF Try.prog 4 t = some [.int .i64, .int .i64, .int .i64])
    (hv : ∃ cs, v = .agg cs) (h : DataW.Trod enc Try.prog W base' (fun _ => true) true t v d p) : ∃ s : Sp, v = .agg #[.int .i64 s.1, .int .i64 s.2.1, .int .i64 s.2.2] ∧ SpOk s := by
  obtain ⟨cs, rfl⟩ := hv
  have hf := flat_arg hL h
  simp only [Value.cells] at hf
  obtain ⟨x, l, hx, wx, hf⟩ := fits_int hf
  obtain ⟨y, l, rfl, wy, hf⟩ := fits_int hf
  obtain ⟨z, l, rfl, wz, hf⟩ := fits_int hf
  obtain rfl := fits_nil hf
  exact ⟨(x, y, z), congrArg Value.agg (Array.ext' hx), wf_in wx, wf_in wy, wf_in wz⟩
theorem spot_arg {W : World} {H : Type} {enc : TypeId × Value → H} {base base' : Nat} {v : Value} {d : DataW H} {p : List MemPlace} (hv : Value.okWide Try.prog W .any base 23 v)
    (h : DataW.Trod enc Try.prog W base' (fun _ => true) true 23 v d p) : ∃ s : Sp, v = .agg #[.int .i64 s.1, .int .i64 s.2.1, .int .i64 s.2.2] ∧ SpOk s :=
  sp_of (by kernel_rfl) (okWide_agg (by rw [Try.underlying23]) hv) h
theorem place_arg {W : World} {H : Type} {enc : TypeId × Value → H} {base base' : Nat} {v : Value} {d : DataW H} {p : List MemPlace} (hv : Value.okWide Try.prog W .any base 32 v)
    (h : DataW.Trod enc Try.prog W base' (fun _ => true) true 32 v d p) : ∃ s : Sp, v = .agg #[.int .i64 s.1, .int .i64 s.2.1, .int .i64 s.2.2] ∧ SpOk s :=
  sp_of (by kernel_rfl) (okWide_agg (by rw [Try.underlying32]) hv) h
theorem two_arg {W : World} {H : Type} {enc : TypeId × Value → H} {base base' : Nat} {v : Value} {d : DataW H} {p : List MemPlace} (hv : Value.okWide Try.prog W .any base 26 v)
    (h : DataW.Trod enc Try.prog W base' (fun _ => true) true 26 v d p) : ∃ (s t : Sp) (o q : Bool), v = .agg #[.int .i64 s.1, .int .i64 s.2.1, .int .i64 s.2.2, .bool o, .int .i64 t.1, .int .i64 t.2.1, .int .i64 t.2.2, .bool q] ∧ AnOk (s, o) ∧ AnOk (t, q) := by
  obtain ⟨cs, rfl⟩ := okWide_agg (by rw [Try.underlying26]) hv
  have hf := flat_arg (n := 6) (L := [.int .i64, .int .i64, .int .i64, .bool, .int .i64, .int .i64, .int .i64, .bool]) (by kernel_rfl) h
  simp only [Value.cells] at hf
  obtain ⟨x, l, hx, wx, hf⟩ := fits_int hf
  obtain ⟨y, l, rfl, wy, hf⟩ := fits_int hf
  obtain ⟨z, l, rfl, wz, hf⟩ := fits_int hf
  obtain ⟨o, l, rfl, hf2⟩ := fits_bool hf
  clear hf
  obtain ⟨x', l, rfl, wx', hf⟩ := fits_int hf2
  obtain ⟨y', l, rfl, wy', hf⟩ := fits_int hf
  obtain ⟨z', l, rfl, wz', hf⟩ := fits_int hf
  obtain ⟨q, l, rfl, hf3⟩ := fits_bool hf
  obtain rfl := fits_nil hf3
  exact ⟨(x, y, z), (x', y', z'), o, q, congrArg Value.agg (Array.ext' hx), ⟨wf_in wx, wf_in wy, wf_in wz⟩, wf_in wx', wf_in wy', wf_in wz'⟩
end Go.Proofs.Ytokmbnmhdicljaa
