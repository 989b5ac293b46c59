/- Arguments: an operation; and what the listed variables give. -/
import Derived.Test.YtjbhkmpabajeoaaDoorLWorks
import Derived.Test.YtjbhkmpabajeoaaDoorFlat
import Derived.Stop.LaidErr
import Derived.Shelf.Vars
import Derived.MakeChecks
import Derived.Lay
import Derived.KernelRfl
namespace Go.Proofs.YtjbhkmpabajeoaaDoor
set_option linter.unusedSimpArgs false
set_option linter.unusedVariables false
open Go.ChangeShapes Go.WideShapes Go.RowKit Go.Deep
set_option maxRecDepth 100000

theorem fits_k {k : IntKind} {L : List TypeDesc} {cs : List Value} (h : Fits (.int k :: L) cs) : ∃ a cs', cs = .int k a :: cs' ∧ (Lit.int k a).wf = true ∧ Fits L cs' := by
  cases cs with
  | nil => exact h.elim
  | cons v cs =>
    obtain ⟨h1, h2⟩ := h
    cases v <;> try exact h1.elim
    obtain ⟨rfl, hw⟩ := h1
    exact ⟨_, _, rfl, hw, h2⟩
theorem fits_nil {cs : List Value} (h : Fits [] cs) : cs = [] := by
  cases cs with
  | nil => rfl
  | cons => exact h.elim
theorem wf_in {x : Int} (h : (Lit.int .i64 x).wf = true) : InI x := by
  simp only [Lit.wf, Bool.and_eq_true, decide_eq_true_eq] at h
  exact h
theorem wf_inU {x : Int} (h : (Lit.int .u8 x).wf = true) : InU x := by
  unfold InU
  simp only [Lit.wf, Bool.and_eq_true, decide_eq_true_eq] at h
  exact h
theorem okWide_agg {W : World} {base : Nat} {t : TypeId} {v : Value} (ht : (match Tryd.prog.underlying t with | some (.struct _) | some (.array _ _) => true | _ => false) = true) (h : Value.okWide Tryd.prog W .any base t v) : ∃ cs, v = .agg cs := by
  unfold Value.okWide at h
  split at h
  · exact ⟨_, h.choose_spec.1⟩
  · exact ⟨_, h.choose_spec.1⟩
  · split at ht <;> simp_all
theorem op_arg {W : World} {H : Type} {enc : TypeId × Value → H} {base base' : Nat} {v : Value} {d : DataW H} {p : List MemPlace} (hv : Value.okWide Tryd.prog W .any base 27 v)
    (h : DataW.Trod enc Tryd.prog W base' (fun _ => true) true 27 v d p) : ∃ o : OpR, v = opV o ∧ o.Ok := by
  obtain ⟨cs, rfl⟩ := okWide_agg (by rw [Tryd.underlying27]) hv
  have hf := flat_arg (n := 6) (L := [.int .i64, .int .i64, .int .i64, .int .i64, .int .i64, .int .i64, .int .i64, .int .u8, .int .u8, .int .i64]) (by kernel_rfl) h
  simp only [Value.cells] at hf
  obtain ⟨k, l, hx, wk, hf⟩ := fits_k hf
  obtain ⟨a1, l, rfl, wa1, hf⟩ := fits_k hf
  obtain ⟨a2, l, rfl, wa2, hf⟩ := fits_k hf
  obtain ⟨a3, l, rfl, wa3, hf⟩ := fits_k hf
  obtain ⟨b1, l, rfl, wb1, hf⟩ := fits_k hf
  obtain ⟨b2, l, rfl, wb2, hf⟩ := fits_k hf
  obtain ⟨b3, l, rfl, wb3, hf⟩ := fits_k hf
  obtain ⟨c1, l, rfl, wc1, hf⟩ := fits_k hf
  obtain ⟨c2, l, rfl, wc2, hf⟩ := fits_k hf
  obtain ⟨n, l, rfl, wn, hf⟩ := fits_k hf
  obtain rfl := fits_nil hf
  exact ⟨⟨k, a1, a2, a3, b1, b2, b3, c1, c2, n⟩, congrArg Value.agg (Array.ext' hx), wf_in wk, wf_in wa1, wf_in wa2, wf_in wa3, wf_in wb1, wf_in wb2, wf_in wb3, wf_inU wc1, wf_inU wc2, wf_in wn⟩
theorem rowErr (u : TypeId) (h : Tryd.prog.typeName? 3 u = some "*errors.errorString") : u = 143 := by
  have star : "*" ++ "errors.errorString" = "*errors.errorString" := by decide
  exact typeName_ptr_named (nm := "errors.errorString") (by rw [star]; kernel_rfl) (by kernel_rfl) (by decide) u (by rw [star]; exact h)

theorem env_of {W : World} (hL : laidMetH Tryd.prog Rows.linePutsRow.laid W) (hS : W.ShapedOpen Tryd.prog) : Env W := by
  rw [MakeChecks.laidMetH_plain _ _ _ (by kernel_rfl)] at hL
  have h1 : laidMet Tryd.prog (("math/bits.deBruijn64tab", Rows.laid_math_bits_deBruijn64tab) :: _) W := hL.tail
  have h2 : laidMet Tryd.prog (("internal/strconv.uint64pow10", Rows.laid_internal_strconv_uint64pow10) :: _) W := h1.tail
  have h4 : laidMet Tryd.prog (("strconv.ErrRange", Rows.laid_strconv_ErrRange) :: _) W := h2.tail.tail
  have h5 : laidMet Tryd.prog (("strconv.ErrSyntax", Rows.laid_strconv_ErrSyntax) :: _) W := h4.tail
  obtain ⟨a1, s1, hv1, -, -, -⟩ := laid_sentinel h4 gRan (by kernel_rfl) Tryd.underlying95 rowErr Tryd.underlying143 Tryd.underlying145 rfl rfl Tryd.underlying9 (by kernel_rfl) (by kernel_rfl)
  obtain ⟨a0, s0, hv0, -, -, -⟩ := laid_sentinel h5 gSyn (by kernel_rfl) Tryd.underlying95 rowErr Tryd.underlying143 Tryd.underlying145 rfl rfl Tryd.underlying9 (by kernel_rfl) (by kernel_rfl)
  refine ⟨?_, ?_, ⟨_, _, hv0⟩, ⟨_, _, hv1⟩, ?_⟩
  · exact Go.Proofs.cell_of_shapedOpen_int hS (of_decide_eq_true (by kernel_rfl)) (t := 3) (zero := #[.int .i64 0]) (by kernel_rfl) rfl (by kernel_rfl) (by kernel_rfl) Tryd.underlying3
  · exact Lib.tabIs_of_head gPow (by kernel_rfl) Tryd.underlying124 Tryd.underlying88 (by kernel_rfl) (by kernel_rfl) (zs := Lib.pow10Tab) h2
  · obtain ⟨ps, ⟨g', t', cs, fuel, p, q, hg', ht', hvar, hd, _, _⟩, _⟩ := h1
    rw [World.var?, show Tryd.prog.globalNamed "math/bits.deBruijn64tab" = some 7 by kernel_rfl] at hvar
    simp only [Option.bind_some] at hvar
    rcases Nat.lt_or_ge 7 W.heap.size with h | h
    · exact h
    · simp [Array.getElem?_eq_none h] at hvar
end Go.Proofs.YtjbhkmpabajeoaaDoor
