/- What Get defers: the walks. -/
import Derived.Test.YtjbhkmpabajeoaaDoorLRead
import Derived.Defers
import Derived.Recover
namespace Go.Proofs.YtjbhkmpabajeoaaDoor
set_option linter.unusedSimpArgs false
set_option linter.unusedVariables false
open Go.RowKit

/-- The world in which the two results are set. -/
def setTen (w : World) (g : Nat) (o : OpR) : World := ((((((((((w.setCell ⟨g, 0, none⟩ (.int .i64 o.k)).setCell ⟨g, 1, none⟩ (.int .i64 o.a1)).setCell ⟨g, 2, none⟩ (.int .i64 o.a2)).setCell ⟨g, 3, none⟩ (.int .i64 o.a3)).setCell ⟨g, 4, none⟩ (.int .i64 o.b1)).setCell ⟨g, 5, none⟩ (.int .i64 o.b2)).setCell ⟨g, 6, none⟩ (.int .i64 o.b3)).setCell ⟨g, 7, none⟩ (.int .u8 o.c1)).setCell ⟨g, 8, none⟩ (.int .u8 o.c2)).setCell ⟨g, 9, none⟩ (.int .i64 o.n))
theorem setTen_blk {w : World} {g : Nat} {t : TypeId} {o u : OpR} (h : Blk w g t (opC u)) : Blk (setTen w g o) g t (opC o) := by
  have b0 : Blk (w.setCell ⟨g, 0, none⟩ (.int .i64 o.k)) g t #[.int .i64 o.k, .int .i64 u.a1, .int .i64 u.a2, .int .i64 u.a3, .int .i64 u.b1, .int .i64 u.b2, .int .i64 u.b3, .int .u8 u.c1, .int .u8 u.c2, .int .i64 u.n] := h.set_ 0 (.int .i64 o.k)
  have b1 : Blk ((w.setCell ⟨g, 0, none⟩ (.int .i64 o.k)).setCell ⟨g, 1, none⟩ (.int .i64 o.a1)) g t #[.int .i64 o.k, .int .i64 o.a1, .int .i64 u.a2, .int .i64 u.a3, .int .i64 u.b1, .int .i64 u.b2, .int .i64 u.b3, .int .u8 u.c1, .int .u8 u.c2, .int .i64 u.n] := b0.set_ 1 (.int .i64 o.a1)
  have b2 : Blk (((w.setCell ⟨g, 0, none⟩ (.int .i64 o.k)).setCell ⟨g, 1, none⟩ (.int .i64 o.a1)).setCell ⟨g, 2, none⟩ (.int .i64 o.a2)) g t #[.int .i64 o.k, .int .i64 o.a1, .int .i64 o.a2, .int .i64 u.a3, .int .i64 u.b1, .int .i64 u.b2, .int .i64 u.b3, .int .u8 u.c1, .int .u8 u.c2, .int .i64 u.n] := b1.set_ 2 (.int .i64 o.a2)
  have b3 : Blk ((((w.setCell ⟨g, 0, none⟩ (.int .i64 o.k)).setCell ⟨g, 1, none⟩ (.int .i64 o.a1)).setCell ⟨g, 2, none⟩ (.int .i64 o.a2)).setCell ⟨g, 3, none⟩ (.int .i64 o.a3)) g t #[.int .i64 o.k, .int .i64 o.a1, .int .i64 o.a2, .int .i64 o.a3, .int .i64 u.b1, .int .i64 u.b2, .int .i64 u.b3, .int .u8 u.c1, .int .u8 u.c2, .int .i64 u.n] := b2.set_ 3 (.int .i64 o.a3)
  have b4 : Blk (((((w.setCell ⟨g, 0, none⟩ (.int .i64 o.k)).setCell ⟨g, 1, none⟩ (.int .i64 o.a1)).setCell ⟨g, 2, none⟩ (.int .i64 o.a2)).setCell ⟨g, 3, none⟩ (.int .i64 o.a3)).setCell ⟨g, 4, none⟩ (.int .i64 o.b1)) g t #[.int .i64 o.k, .int .i64 o.a1, .int .i64 o.a2, .int .i64 o.a3, .int .i64 o.b1, .int .i64 u.b2, .int .i64 u.b3, .int .u8 u.c1, .int .u8 u.c2, .int .i64 u.n] := b3.set_ 4 (.int .i64 o.b1)
  have b5 : Blk ((((((w.setCell ⟨g, 0, none⟩ (.int .i64 o.k)).setCell ⟨g, 1, none⟩ (.int .i64 o.a1)).setCell ⟨g, 2, none⟩ (.int .i64 o.a2)).setCell ⟨g, 3, none⟩ (.int .i64 o.a3)).setCell ⟨g, 4, none⟩ (.int .i64 o.b1)).setCell ⟨g, 5, none⟩ (.int .i64 o.b2)) g t #[.int .i64 o.k, .int .i64 o.a1, .int .i64 o.a2, .int .i64 o.a3, .int .i64 o.b1, .int .i64 o.b2, .int .i64 u.b3, .int .u8 u.c1, .int .u8 u.c2, .int .i64 u.n] := b4.set_ 5 (.int .i64 o.b2)
  have b6 : Blk (((((((w.setCell ⟨g, 0, none⟩ (.int .i64 o.k)).setCell ⟨g, 1, none⟩ (.int .i64 o.a1)).setCell ⟨g, 2, none⟩ (.int .i64 o.a2)).setCell ⟨g, 3, none⟩ (.int .i64 o.a3)).setCell ⟨g, 4, none⟩ (.int .i64 o.b1)).setCell ⟨g, 5, none⟩ (.int .i64 o.b2)).setCell ⟨g, 6, none⟩ (.int .i64 o.b3)) g t #[.int .i64 o.k, .int .i64 o.a1, .int .i64 o.a2, .int .i64 o.a3, .int .i64 o.b1, .int .i64 o.b2, .int .i64 o.b3, .int .u8 u.c1, .int .u8 u.c2, .int .i64 u.n] := b5.set_ 6 (.int .i64 o.b3)
  have b7 : Blk ((((((((w.setCell ⟨g, 0, none⟩ (.int .i64 o.k)).setCell ⟨g, 1, none⟩ (.int .i64 o.a1)).setCell ⟨g, 2, none⟩ (.int .i64 o.a2)).setCell ⟨g, 3, none⟩ (.int .i64 o.a3)).setCell ⟨g, 4, none⟩ (.int .i64 o.b1)).setCell ⟨g, 5, none⟩ (.int .i64 o.b2)).setCell ⟨g, 6, none⟩ (.int .i64 o.b3)).setCell ⟨g, 7, none⟩ (.int .u8 o.c1)) g t #[.int .i64 o.k, .int .i64 o.a1, .int .i64 o.a2, .int .i64 o.a3, .int .i64 o.b1, .int .i64 o.b2, .int .i64 o.b3, .int .u8 o.c1, .int .u8 u.c2, .int .i64 u.n] := b6.set_ 7 (.int .u8 o.c1)
  have b8 : Blk (((((((((w.setCell ⟨g, 0, none⟩ (.int .i64 o.k)).setCell ⟨g, 1, none⟩ (.int .i64 o.a1)).setCell ⟨g, 2, none⟩ (.int .i64 o.a2)).setCell ⟨g, 3, none⟩ (.int .i64 o.a3)).setCell ⟨g, 4, none⟩ (.int .i64 o.b1)).setCell ⟨g, 5, none⟩ (.int .i64 o.b2)).setCell ⟨g, 6, none⟩ (.int .i64 o.b3)).setCell ⟨g, 7, none⟩ (.int .u8 o.c1)).setCell ⟨g, 8, none⟩ (.int .u8 o.c2)) g t #[.int .i64 o.k, .int .i64 o.a1, .int .i64 o.a2, .int .i64 o.a3, .int .i64 o.b1, .int .i64 o.b2, .int .i64 o.b3, .int .u8 o.c1, .int .u8 o.c2, .int .i64 u.n] := b7.set_ 8 (.int .u8 o.c2)
  have b9 : Blk ((((((((((w.setCell ⟨g, 0, none⟩ (.int .i64 o.k)).setCell ⟨g, 1, none⟩ (.int .i64 o.a1)).setCell ⟨g, 2, none⟩ (.int .i64 o.a2)).setCell ⟨g, 3, none⟩ (.int .i64 o.a3)).setCell ⟨g, 4, none⟩ (.int .i64 o.b1)).setCell ⟨g, 5, none⟩ (.int .i64 o.b2)).setCell ⟨g, 6, none⟩ (.int .i64 o.b3)).setCell ⟨g, 7, none⟩ (.int .u8 o.c1)).setCell ⟨g, 8, none⟩ (.int .u8 o.c2)).setCell ⟨g, 9, none⟩ (.int .i64 o.n)) g t #[.int .i64 o.k, .int .i64 o.a1, .int .i64 o.a2, .int .i64 o.a3, .int .i64 o.b1, .int .i64 o.b2, .int .i64 o.b3, .int .u8 o.c1, .int .u8 o.c2, .int .i64 o.n] := b8.set_ 9 (.int .i64 o.n)
  exact b9
theorem setTen_far {w : World} {g b : Nat} {t : TypeId} {cs : Array Value} {o : OpR} (h : Blk w b t cs) (hne : b ≠ g) : Blk (setTen w g o) b t cs := by
  unfold setTen
  exact (((((((((h.far hne _).far hne _).far hne _).far hne _).far hne _).far hne _).far hne _).far hne _).far hne _).far hne _
theorem setTen_below {w w' : World} {B g : Nat} {o : OpR} (h : Below B w w') (hg : B ≤ g) : Below B w (setTen w' g o) := by
  unfold setTen
  exact (((((((((h.setCell hg _).setCell hg _).setCell hg _).setCell hg _).setCell hg _).setCell hg _).setCell hg _).setCell hg _).setCell hg _).setCell hg _
set_option maxRecDepth 100000 in
set_option maxHeartbeats 1000000 in
theorem catch_panicking (g b : Nat) (u : OpR) (n : Int) (T : TypeId) (pv : Value) (older : List PanicEntry) (w : World) (h1 : Blk w g 27 (opC u)) (h2 : Blk w b 28 #[.int .i64 n]) (hne : b ≠ g) :
    CallsD Tryd.prog 28 #[.pointer (some ⟨g, 0, none⟩), .pointer (some ⟨b, 0, none⟩)] (.panicking ({ v := .iface T pv, recovered := false } :: older)) w fun e u' w' =>
      e = .returned (.tuple #[]) ∧ u' = .panicking ({ v := .iface T pv, recovered := true } :: older) ∧ w' = (setTen w g OpR.zero).setCell ⟨b, 0, none⟩ (.int .i64 30) := by
  obtain ⟨⟨c0, c1, c2, c3, c4, c5, c6, c7, c8, c9⟩, f0, f1, f2, f3, f4, f5, f6, f7, f8, f9⟩ := h1.op
  have h3 := setTen_far (o := OpR.zero) h2 hne
  have d0 := h3.cell 0
  have e0 := h3.frozen 0
  simp only [setTen, OpR.zero] at d0 e0 ⊢
  simp only [List.getElem?_toArray, List.getElem?_cons_zero] at d0
  refine callsD_of_wpS Tryd.func28 rfl fun c₀ cs hu => ?_
  apply wpS_seq
  apply wpS_region
  simp [wpOpsS, go_sem, recoverD, hu, Tryd.ntmps28, Exit.thenS]
  apply wpS_seq
  apply wpS_region
  simp [wpOpsS, go_sem, Exit.thenS]
  refine wpS_cond (t := true) (by simp [Act.eval]) ?_
  simp only [if_true]
  apply wpS_region
  simp [wpOpsS, go_sem, c0, c1, c2, c3, c4, c5, c6, c7, c8, c9, f0, f1, f2, f3, f4, f5, f6, f7, f8, f9, d0, e0, bodyPostS, results, Tryd.results28]
theorem catch_idle (g b : Nat) (w : World) :
    CallsD Tryd.prog 28 #[.pointer (some ⟨g, 0, none⟩), .pointer (some ⟨b, 0, none⟩)] .returning w fun e u' w' => e = .returned (.tuple #[]) ∧ u' = .returning ∧ w' = w := by
  refine callsD_of_wpS Tryd.func28 rfl fun c₀ cs hu => ?_
  apply wpS_seq
  apply wpS_region
  simp [wpOpsS, go_sem, recoverD, hu, Tryd.ntmps28, Exit.thenS]
  apply wpS_seq
  apply wpS_region
  simp [wpOpsS, go_sem, Exit.thenS]
  refine wpS_cond (t := false) (by simp [Act.eval]) ?_
  simp only [Bool.false_eq_true, if_false]
  refine wpS_of_wp (wp_skip ?_)
  cases c₀
  simp_all [bodyPostS, results, Tryd.results28]
end Go.Proofs.YtjbhkmpabajeoaaDoor
