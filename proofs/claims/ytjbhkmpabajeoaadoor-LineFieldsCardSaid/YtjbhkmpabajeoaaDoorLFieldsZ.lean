/- LineFields: the walks where no operation is written, or the number is zero; the walk. -/
import Derived.Test.YtjbhkmpabajeoaaDoorLFieldsW
namespace Go.Proofs.YtjbhkmpabajeoaaDoor
set_option linter.unusedSimpArgs false
set_option linter.unusedVariables false
open Go.RowKit
set_option maxRecDepth 100000 in
set_option maxHeartbeats 2000000 in
theorem fields_none (w : World) (o : OpR) (n : Int) (hp : putP o = none) (ho : o.Ok) (he : Env w) : Calls Tryd.prog 8 #[opV o, .int .i64 n] w fun e w' => e = .returned (.bool true) ∧ Below w.heap.size w w' := by
  have HP := Lib.hid (fun W => put_walk W o ho)
  have HW := Lib.hid works_any
  rw [putV_none hp] at HP
  have HE := Lib.hid (he.alloc (.cells (opC o) 27))
  have HB := Lib.hid ((Below.refl w.heap.size w).alloc (Nat.le_refl _) (.cells (opC o) 27))
  unfold opV at HP ⊢
  simp only [opC] at HP HE HB ⊢
  clear he
  go_enter Tryd.func8, Tryd.ntmps8
  go_wp2_with fail
  go_at_call 11
  refine (HP.out _ HE.out).mono ?_
  rintro e w1 ⟨rfl, hb⟩
  have HE1 := Lib.hid (HE.out.next hb)
  have HB1 := Lib.hid (HB.out.trans (hb.mono HB.out.size))
  clear hb
  go_wp2_with (go_at_call 13; (with_reducible refine (HW.out _ HE1.out).mono ?_); rintro e w3 ⟨rfl, hb⟩)
  go_ret
  exact ⟨rfl, HB1.out.trans (hb.mono HB1.out.size)⟩
set_option maxRecDepth 100000 in
set_option maxHeartbeats 2000000 in
theorem fields_zero (w : World) (o : OpR) (n : Int) (l : Bs) (hn : (n == 0) = true) (hp : putP o = some l) (ho : o.Ok) (he : Env w) : Calls Tryd.prog 8 #[opV o, .int .i64 n] w fun e w' => e = .returned (.bool true) ∧ Below w.heap.size w w' := by
  have HP := Lib.hid (fun W => put_walk W o ho)
  have HW := Lib.hid works_any
  rw [putV_some hp] at HP
  have HE := Lib.hid (he.alloc (.cells (opC o) 27))
  have HB := Lib.hid ((Below.refl w.heap.size w).alloc (Nat.le_refl _) (.cells (opC o) 27))
  unfold opV at HP ⊢
  simp only [opC] at HP HE HB ⊢
  clear he
  go_enter Tryd.func8, Tryd.ntmps8
  go_wp2_with fail
  go_at_call 11
  refine (HP.out _ HE.out).mono ?_
  rintro e w1 ⟨rfl, hb⟩
  have HE1 := Lib.hid (HE.out.next hb)
  have HB1 := Lib.hid (HB.out.trans (hb.mono HB.out.size))
  clear hb
  go_wp2_with (go_at_call 13; (with_reducible refine (HW.out _ HE1.out).mono ?_); rintro e w3 ⟨rfl, hb⟩)
  go_ret
  exact ⟨rfl, HB1.out.trans (hb.mono HB1.out.size)⟩
theorem fields_walk (w : World) (o : OpR) (n : Int) (hn : InI n) (ho : o.Ok) (he : Env w) : Calls Tryd.prog 8 #[opV o, .int .i64 n] w fun e w' => e = .returned (.bool true) ∧ Below w.heap.size w w' := by
  cases hp : putP o with
  | none => exact fields_none w o n hp ho he
  | some l =>
    cases h : (n == 0) with
    | true => exact fields_zero w o n l h hp ho he
    | false => exact fields_some w o n l hn h ho he hp
end Go.Proofs.YtjbhkmpabajeoaaDoor
