/- Operations as values; == of operations. -/
import Derived.Test.YtjbhkmpabajeoaaDoorLOf
import Derived.DeepKeys4
namespace Go.Proofs.YtjbhkmpabajeoaaDoor
set_option linter.unusedSimpArgs false
set_option linter.unusedVariables false
open Go.RowKit

def opC (o : OpR) : Array Value := #[.int .i64 o.k, .int .i64 o.a1, .int .i64 o.a2, .int .i64 o.a3, .int .i64 o.b1, .int .i64 o.b2, .int .i64 o.b3, .int .u8 o.c1, .int .u8 o.c2, .int .i64 o.n]
def opV (o : OpR) : Value := .agg (opC o)
def opL (o : OpR) : List Lit := [.int .i64 o.k, .int .i64 o.a1, .int .i64 o.a2, .int .i64 o.a3, .int .i64 o.b1, .int .i64 o.b2, .int .i64 o.b3, .int .u8 o.c1, .int .u8 o.c2, .int .i64 o.n]
theorem cellsInt_ : Tryd.prog.cellsOf 3 = 1 := by kernel_rfl
theorem cellsU8_ : Tryd.prog.cellsOf 5 = 1 := by kernel_rfl
theorem cellsPlace_ : Tryd.prog.cellsOf 23 = 3 := by kernel_rfl
theorem cellsCell_ : Tryd.prog.cellsOf 25 = 2 := by kernel_rfl
theorem cellsOp_ : Tryd.prog.cellsOf 27 = 10 := by kernel_rfl
theorem keyOp_ : Tryd.prog.keyTypeAt 4 27 = true := by kernel_rfl
theorem wfI {n : Int} (h : InI n) : (Lit.int .i64 n).wf = true := WalkArith.wf_i64 (by unfold InI at h; omega)
theorem wfB {n : Int} (h : InU n) : (Lit.int .u8 n).wf = true := by
  unfold InU at h
  simp [Lit.wf, IntKind.min, IntKind.max, IntKind.signed, IntKind.bits]
  omega
theorem lits_place {x y z : Int} (hx : InI x) (hy : InI y) (hz : InI z) : Tryd.prog.keyLits 6 23 [.int .i64 x, .int .i64 y, .int .i64 z] = some [.int .i64 x, .int .i64 y, .int .i64 z] := by
  have w1 := wfI hx
  have w2 := wfI hy
  have w3 := wfI hz
  simp [Program.keyLits, Tryd.underlying23, Tryd.underlying3, cellsPlace_, cellsInt_, w1, w2, w3]
theorem lits_cell {x y : Int} (hx : InU x) (hy : InU y) : Tryd.prog.keyLits 6 25 [.int .u8 x, .int .u8 y] = some [.int .u8 x, .int .u8 y] := by
  have w1 := wfB hx
  have w2 := wfB hy
  simp [Program.keyLits, Tryd.underlying25, Tryd.underlying5, cellsCell_, cellsU8_, w1, w2]
theorem lits_int {x : Int} (hx : InI x) : Tryd.prog.keyLits 6 3 [.int .i64 x] = some [.int .i64 x] := by
  simp [Program.keyLits, Tryd.underlying3, wfI hx]
theorem lits_op {o : OpR} (h : o.Ok) : Tryd.prog.keyLits 7 27 (opC o).toList = some (opL o) := by
  unfold Program.keyLits
  simp [opC, opL, Tryd.underlying27, cellsOp_, cellsPlace_, cellsCell_, cellsInt_, lits_place h.a1 h.a2 h.a3, lits_place h.b1 h.b2 h.b3, lits_cell h.c1 h.c2, lits_int h.k, lits_int h.n]
theorem opL_inj {u o : OpR} : opL u = opL o ↔ u = o := by
  constructor
  · intro h
    cases u
    cases o
    simp only [opL, List.cons.injEq, Lit.int.injEq, true_and, and_true] at h
    simp [h]
  · rintro rfl
    rfl
theorem eq_op {u o : OpR} (hu : u.Ok) (ho : o.Ok) (w : World) : (Op.equalIn 10000 27 (opV u) (opV o)).run Tryd.prog w = .ok (decide (u = o)) w := by
  have hf : ∀ x : OpR, (opV x).formed Tryd.prog 27 = true := fun x => by simp [opV, opC, Value.formed, Tryd.underlying27, cellsOp_]
  obtain ⟨r, hr, hiff⟩ := run_equalIn_deep (10000 - 4) 4 _ keyOp_ w 7 7 _ _ (opL u) (opL o) (hf u) (hf o) (lits_op hu) (lits_op ho)
  rw [opL_inj] at hiff
  have e : r = decide (u = o) := by
    rw [Bool.eq_iff_iff, hiff]
    simp
  rw [e] at hr
  exact hr
end Go.Proofs.YtjbhkmpabajeoaaDoor
