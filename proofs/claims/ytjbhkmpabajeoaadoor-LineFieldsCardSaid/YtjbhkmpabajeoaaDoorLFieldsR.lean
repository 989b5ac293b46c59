/- LineFields: the region that makes the four operations. (Printed by genfields.py.) -/
import Derived.Test.YtjbhkmpabajeoaaDoorLStrictK
import Derived.Test.YtjbhkmpabajeoaaDoorLFields
import Derived.Deep.RegionHeld
namespace Go.Proofs.YtjbhkmpabajeoaaDoor
set_option linter.unusedSimpArgs false
set_option linter.unusedVariables false
open Go.RowKit
/-- What Put answers, of whatever operation. -/
theorem put_code (o : OpR) : ∃ s n, putV o = .tuple #[.string (str s), .int .i64 n] ∧ (n == 0) = (putP o).isSome := by
  unfold putV
  cases putP o with
  | none => exact ⟨_, _, rfl, by simp⟩
  | some l => exact ⟨_, _, rfl, by simp⟩
theorem Blk.new1 (w : World) (x : Obj) (t : TypeId) (cs : Array Value) : Blk ((w.alloc x).alloc (.cells cs t)) (w.heap.size + 1) t cs := by
  have := Blk.new (w.alloc x) t cs
  rwa [show (w.alloc x).heap.size = w.heap.size + 1 from by simp] at this
theorem Blk.new2 (w : World) (x y : Obj) (t : TypeId) (cs : Array Value) : Blk (((w.alloc x).alloc y).alloc (.cells cs t)) (w.heap.size + 1 + 1) t cs := by
  have := Blk.new ((w.alloc x).alloc y) t cs
  rwa [show ((w.alloc x).alloc y).heap.size = w.heap.size + 1 + 1 from by simp] at this
theorem Blk.new3 (w : World) (x y z : Obj) (t : TypeId) (cs : Array Value) : Blk ((((w.alloc x).alloc y).alloc z).alloc (.cells cs t)) (w.heap.size + 1 + 1 + 1) t cs := by
  have := Blk.new (((w.alloc x).alloc y).alloc z) t cs
  rwa [show (((w.alloc x).alloc y).alloc z).heap.size = w.heap.size + 1 + 1 + 1 from by simp] at this
theorem cut_region {P : Program} {c : Code} {K : Act → World → Prop} {Q : Exit → Act → World → Prop} {a : Act} {w : World} (R : Act → World → Prop) (h1 : c.wp P (Exit.then R Q) a w) (h2 : ∀ a W, R a W → K a W) : c.wp P (Exit.then K Q) a w :=
  wp_mono h1 fun e a w h => by cases e <;> first | exact h2 _ _ h | exact h
def RegOut (w : World) (o : OpR) (n : Int) (l : Bs) : Act → World → Prop := (fun a A => ∃ g7 g8 g9 g10 : Nat, a = { tmps := #[.agg #[.int .i64 o.k, .int .i64 o.a1, .int .i64 o.a2, .int .i64 o.a3, .int .i64 o.b1, .int .i64 o.b2, .int .i64 o.b3, .int .u8 o.c1, .int .u8 o.c2, .int .i64 o.n], .int .i64 n, .pointer (some ⟨w.heap.size, 0, none⟩), undef, .bool false, .string (str l), .int .i64 0, .pointer (some ⟨g7, 0, none⟩), .pointer (some ⟨g8, 0, none⟩), .pointer (some ⟨g9, 0, none⟩), .pointer (some ⟨g10, 0, none⟩), undef, undef, undef, undef, undef, undef, undef, undef, undef, undef, undef, undef, .tuple #[.string (str l), .int .i64 0], .agg #[.int .i64 o.k, .int .i64 o.a1, .int .i64 o.a2, .int .i64 o.a3, .int .i64 o.b1, .int .i64 o.b2, .int .i64 o.b3, .int .u8 o.c1, .int .u8 o.c2, .int .i64 o.n], .tuple #[.string (str l), .int .i64 0], .string (str l), .int .i64 0, .int .i64 0, .bool false, .bool false, .int .i64 n, .bool false, .bool false, undef, .agg #[.int .i64 o.k, .int .i64 o.a1, .int .i64 o.a2, .int .i64 o.a3, .int .i64 o.b1, .int .i64 o.b2, .int .i64 o.b3, .int .u8 o.c1, .int .u8 o.c2, .int .i64 o.n], .agg #[.int .i64 o.k, .int .i64 o.a1, .int .i64 o.a2, .int .i64 o.a3, .int .i64 o.b1, .int .i64 o.b2, .int .i64 o.b3, .int .u8 o.c1, .int .u8 o.c2, .int .i64 o.n], .agg #[.int .i64 o.k, .int .i64 o.a1, .int .i64 o.a2, .int .i64 o.a3, .int .i64 o.b1, .int .i64 o.b2, .int .i64 o.b3, .int .u8 o.c1, .int .u8 o.c2, .int .i64 o.n], .agg #[.int .i64 o.k, .int .i64 o.a1, .int .i64 o.a2, .int .i64 o.a3, .int .i64 o.b1, .int .i64 o.b2, .int .i64 o.b3, .int .u8 o.c1, .int .u8 o.c2, .int .i64 o.n], undef, undef, undef, undef, undef, undef, undef, undef, undef, undef, undef, undef, undef, undef, undef, undef, undef, undef, undef, undef, undef, undef, undef, undef, undef, undef, undef, undef, undef, undef, undef, undef, undef, undef, undef, undef, undef, undef, undef, undef, undef, undef, undef, undef, undef, undef, undef, undef, undef, undef, undef, undef, undef, undef, undef, undef, undef, undef, undef, undef, undef, undef, undef, undef, undef, undef, undef, undef, undef, undef, undef, undef, undef, undef, undef, undef, undef, undef, undef, undef, undef, undef, undef, undef, undef, undef, undef, undef, undef, undef, undef, undef, undef, undef, undef, undef, undef, undef, undef, undef, undef, undef, undef, undef, undef, undef, undef, undef, undef, undef, undef, undef, undef, undef, undef, undef, undef, undef, undef, undef, undef, undef], defers := [] } ∧ Below w.heap.size w A ∧ Blk A w.heap.size 27 (opC o) ∧ Blk A g7 27 (opC o) ∧ Blk A g8 27 (opC o) ∧ Blk A g9 27 (opC o) ∧ Blk A g10 27 (opC o) ∧ (w.heap.size < g7 ∧ w.heap.size < g8 ∧ w.heap.size < g9 ∧ w.heap.size < g10) ∧ (g7 ≠ g8 ∧ g7 ≠ g9 ∧ g7 ≠ g10 ∧ g8 ≠ g9 ∧ g8 ≠ g10 ∧ g9 ≠ g10))
def nav : Code → List Bool → Code
  | .seq _ y, true :: p => nav y p
  | .seq x _, false :: p => nav x p
  | c, _ => c
set_option maxRecDepth 100000 in
set_option maxHeartbeats 8000000 in
theorem fields_region (w w1 : World) (o : OpR) (n : Int) (l : Bs) (HB1_ : Below w.heap.size w w1) (HK1_ : Blk w1 w.heap.size 27 (opC o)) :
    Code.wp Tryd.prog (nav (Tryd.f8.body.getD .skip) [true, true, true, false]) (Exit.then (RegOut w o n l) (bodyPost Tryd.prog Tryd.f8 fun e w' => e = .returned (.bool true) ∧ Below w.heap.size w w')) { tmps := #[.agg #[.int .i64 o.k, .int .i64 o.a1, .int .i64 o.a2, .int .i64 o.a3, .int .i64 o.b1, .int .i64 o.b2, .int .i64 o.b3, .int .u8 o.c1, .int .u8 o.c2, .int .i64 o.n], .int .i64 n, .pointer (some ⟨w.heap.size, 0, none⟩), undef, .bool false, .string (str l), .int .i64 0, undef, undef, undef, undef, undef, undef, undef, undef, undef, undef, undef, undef, undef, undef, undef, undef, .tuple #[.string (str l), .int .i64 0], .agg #[.int .i64 o.k, .int .i64 o.a1, .int .i64 o.a2, .int .i64 o.a3, .int .i64 o.b1, .int .i64 o.b2, .int .i64 o.b3, .int .u8 o.c1, .int .u8 o.c2, .int .i64 o.n], .tuple #[.string (str l), .int .i64 0], .string (str l), .int .i64 0, .int .i64 0, .bool false, .bool false, .int .i64 n, .bool false, .bool false, undef, undef, undef, undef, undef, undef, undef, undef, undef, undef, undef, undef, undef, undef, undef, undef, undef, undef, undef, undef, undef, undef, undef, undef, undef, undef, undef, undef, undef, undef, undef, undef, undef, undef, undef, undef, undef, undef, undef, undef, undef, undef, undef, undef, undef, undef, undef, undef, undef, undef, undef, undef, undef, undef, undef, undef, undef, undef, undef, undef, undef, undef, undef, undef, undef, undef, undef, undef, undef, undef, undef, undef, undef, undef, undef, undef, undef, undef, undef, undef, undef, undef, undef, undef, undef, undef, undef, undef, undef, undef, undef, undef, undef, undef, undef, undef, undef, undef, undef, undef, undef, undef, undef, undef, undef, undef, undef, undef, undef, undef, undef, undef, undef, undef, undef, undef, undef, undef, undef, undef, undef, undef, undef, undef, undef, undef, undef], defers := [] } w1 := by
  have HB1 := Lib.hid HB1_
  have HK1 := Lib.hid HK1_
  clear HB1_ HK1_
  refine (show Code.wp Tryd.prog (Code.region 4 _ true) _ _ _ from ?_)
  have hlt : w.heap.size < w1.heap.size := HK1.out.lt
  obtain ⟨⟨c0, c1, c2, c3, c4, c5, c6, c7, c8, c9⟩, -⟩ := HK1.out.op
  go_region_held (fun w' => w'.cell? ⟨w.heap.size, 0, none⟩ = some (.int .i64 o.k) ∧ w'.cell? ⟨w.heap.size, 1, none⟩ = some (.int .i64 o.a1) ∧ w'.cell? ⟨w.heap.size, 2, none⟩ = some (.int .i64 o.a2) ∧ w'.cell? ⟨w.heap.size, 3, none⟩ = some (.int .i64 o.a3) ∧ w'.cell? ⟨w.heap.size, 4, none⟩ = some (.int .i64 o.b1) ∧ w'.cell? ⟨w.heap.size, 5, none⟩ = some (.int .i64 o.b2) ∧ w'.cell? ⟨w.heap.size, 6, none⟩ = some (.int .i64 o.b3) ∧ w'.cell? ⟨w.heap.size, 7, none⟩ = some (.int .u8 o.c1) ∧ w'.cell? ⟨w.heap.size, 8, none⟩ = some (.int .u8 o.c2) ∧ w'.cell? ⟨w.heap.size, 9, none⟩ = some (.int .i64 o.n)) (exact (Blk.op (o := o) (by repeat (first | with_reducible refine Blk.alloc ?_ _ | with_reducible refine Blk.other ?_ (by simp <;> omega) _ | with_reducible refine Blk.drew ?_ | exact HK1.out))).1) (fail)
  all_goals
    have z1 := HB1.out.size
    show RegOut w o n l _ _
    unfold RegOut
    refine ⟨_, _, _, _, rfl, ?_, ((((HK1.out.alloc _).alloc _).alloc _).alloc _), ?_, ?_, ?_, ?_, ⟨?_, ?_, ?_, ?_⟩, ⟨?_, ?_, ?_, ?_, ?_, ?_⟩⟩
    · exact (((((HB1.out.alloc (by first | omega | (simp; omega)) _).alloc (by first | omega | (simp; omega)) _).alloc (by first | omega | (simp; omega)) _).alloc (by first | omega | (simp; omega)) _)).drew
    all_goals first | omega | (refine Blk.drew ?_; first | exact (((Blk.new _ _ _).alloc _).alloc _).alloc _ | exact ((Blk.new1 _ _ _ _).alloc _).alloc _ | exact (Blk.new2 _ _ _ _ _).alloc _ | exact Blk.new3 _ _ _ _ _ _)
end Go.Proofs.YtjbhkmpabajeoaaDoor
