/- A kind's name: the walk. -/
import Derived.Test.YtjbhkmpabajeoaaDoorLKinds
namespace Go.Proofs.YtjbhkmpabajeoaaDoor
set_option linter.unusedSimpArgs false
set_option linter.unusedVariables false
open Go.RowKit

theorem field_name (s : ByteArray) (b c d : Int) (w : World) : (Instr.field 75 (.agg #[.string s, .int .u8 b, .int .u8 c, .int .u8 d]) 0).run Tryd.prog w = .ok (.string s) w := by kernel_rfl
set_option maxRecDepth 100000 in
theorem name_any (w : World) (k : Int) (hk : InU k) : Calls Tryd.prog 22 #[.int .u8 k] w fun e w' => e = .returned (.string (str (nameK k))) ∧ Below w.heap.size w w' := by
  have H := Lib.hid (of_any w k hk)
  have HN := Lib.hid (kindR_name k)
  unfold kv at H
  generalize kindR k = x at H HN
  obtain ⟨x1, x2, x3, x4⟩ := x
  have hf := field_name
  go_enter Tryd.func22, Tryd.ntmps22
  go_wp2_with (go_at_call 40; (with_reducible refine H.out.mono ?_); rintro e w' ⟨rfl, hb⟩)
  go_ret
  have e : x1 = nameK k := HN.out
  subst e
  exact ⟨rfl, hb⟩
end Go.Proofs.YtjbhkmpabajeoaaDoor
