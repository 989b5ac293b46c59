/- LineStrict: the walk. (Printed by genstrict.py.) -/
import Derived.Test.YtjbhkmpabajeoaaDoorLStrictA
import Derived.Test.YtjbhkmpabajeoaaDoorLStrictB
import Derived.Test.YtjbhkmpabajeoaaDoorLStrictC
namespace Go.Proofs.YtjbhkmpabajeoaaDoor
open Go.RowKit
theorem strict_walk (w : World) (o : OpR) (at_ : Int) (ho : o.Ok) (he : Env w) : Calls Tryd.prog 6 #[opV o, .int .i64 at_] w fun e w' => e = .returned (.bool true) ∧ Below w.heap.size w w' := by
  cases hp : putP o with
  | none => exact strict_none_put w o at_ ho he hp
  | some l =>
    by_cases hat : at_ < 0 ∨ (l.length : Int) ≤ at_
    · exact strict_out w o at_ l hat ho he hp
    · obtain ⟨m, rfl⟩ : ∃ m : Nat, at_ = m := ⟨at_.toNat, by omega⟩
      have hm : m < l.length := by omega
      cases hc : ((((str l)[m]'hm).toNat : Int) == 32) with
      | false => exact strict_no w o m l hm hc ho he hp
      | true =>
        obtain ⟨l0, l1⟩ := put_len ho hp
        have hlen : (l.take m ++ l.drop (m + 1)).length = l.length - 1 := by rw [List.length_append, List.length_take, List.length_drop]; omega
        cases hg : getP (l.take m ++ l.drop (m + 1)) with
        | none => exact strict_none w o m l hm hc (getV_none (by omega) hg) ho he hp
        | some p =>
          obtain ⟨hq, hpo⟩ := put_get hg
          refine strict_other w o m l hm hc p hpo (fun e => ?_) (by unfold getV; rw [if_neg (by omega), hg]) ho he hp
          subst e
          rw [hp] at hq
          have := congrArg List.length (Option.some.inj hq)
          omega
end Go.Proofs.YtjbhkmpabajeoaaDoor
