/- LineStrict: the walks (a blank is taken out: what is left is none). (Printed by genstrict.py.) -/
import Derived.Test.YtjbhkmpabajeoaaDoorLStrictK
namespace Go.Proofs.YtjbhkmpabajeoaaDoor
set_option linter.unusedSimpArgs false
set_option linter.unusedVariables false
open Go.RowKit
set_option maxRecDepth 100000 in
set_option maxHeartbeats 4000000 in
theorem strict_none (w : World) (o : OpR) (m : Nat) (l : Bs) (hm : m < l.length) (hat : (((((str l)[m]'hm).toNat : Int) == 32) = true)) (hg : getV (l.take m ++ l.drop (m + 1)) = .tuple #[opV OpR.zero, .int .i64 30]) (ho : o.Ok) (he : Env w) (hp : putP o = some l) : Calls Tryd.prog 6 #[opV o, .int .i64 (m : Int)] w fun e w' => e = .returned (.bool true) ∧ Below w.heap.size w w' := by
  have HP := Lib.hid (fun W => put_walk W o ho)
  have HW := Lib.hid works_any
  obtain ⟨l0, l1⟩ := put_len ho hp
  rw [putV_some hp] at HP
  have HG := Lib.hid (get_split ho hp)
  have HX := Lib.hid (fun x => get_less (x := x) l1 hg)
  have HE0 := Lib.hid he
  have HE := Lib.hid (he.alloc (.cells (opC o) 27))
  have HB := Lib.hid ((Below.refl w.heap.size w).alloc (Nat.le_refl _) (.cells (opC o) 27))
  have HK := Lib.hid (Blk.new w 27 (opC o))
  unfold opV at HP HG HX ⊢
  simp only [opC, OpR.zero] at HP HG HE HB HK HX ⊢
  have hm0 : decide ((m : Int) < 0) = false := by simp
  have hm1 : m + 1 ≤ l.length := hm
  have hm2 : ((m : Int) + 1) ≤ (l.length : Int) := by omega
  have hm3 : 0 ≤ (m : Int) + 1 := by omega
  have hm4 : ¬ l.length < m + 1 := by omega
  have hwr : IntKind.i64.wrap ((m : Int) + 1) = (m : Int) + 1 := IntWalk.i64_in _ (by omega)
  have hto : ((m : Int) + 1).toNat = m + 1 := by omega
  clear he
  clear hg
  go_enter Tryd.func6, Tryd.ntmps6
  go_wp2_with fail
  go_at_call 11
  refine (HP.out _ HE.out).mono ?_
  rintro e w1 ⟨rfl, hb⟩
  have HE1 := Lib.hid (HE.out.next hb)
  have HB1 := Lib.hid (HB.out.trans (hb.mono HB.out.size))
  have HK1 := Lib.hid (HK.out.below hb HK.out.lt)
  clear hb
  go_wp2_with fail
  all_goals try (exfalso; omega)
  go_region_with (go_at_call 14; refine (HG.out _ m (cut_list2 l m) _ ?_).mono ?_; (first | with_reducible exact HE1.out.drew | exact HE1.out.drew.alloc _); rintro e w2 ⟨rfl, hb⟩; (first | (have hk := zero_kept hb; obtain ⟨⟨c0, c1, c2, c3, c4, c5, c6, c7, c8, c9⟩, f0, f1, f2, f3, f4, f5, f6, f7, f8, f9⟩ := hk) | skip))
  all_goals
    have HB2 := Lib.hid (show Below w.heap.size w w2 from by first | exact st_a HB1.out hb | exact st_b HB1.out hb)
    have hz1 : w.heap.size ≤ w1.heap.size := HB1.out.size
    have hz2 : w.heap.size ≤ w2.heap.size := HB2.out.size
    clear hb
    refine gen_below (w := w) ?_ ?_
    · repeat (first | with_reducible exact HB2.out | with_reducible refine Below.setCell ?_ (by exact hz1) _ | with_reducible refine Below.alloc ?_ (by simpa using hz2) _ | with_reducible refine Below.drew ?_)
    intro W3 hB3
    try clear c0 c1 c2 c3 c4 c5 c6 c7 c8 c9 f0 f1 f2 f3 f4 f5 f6 f7 f8 f9
    have HB3 := Lib.hid hB3
    have HE3 := Lib.hid (HE0.out.next hB3)
    clear hB3 hz1 hz2 HB2
    go_wp2_with fail
    go_region_with (go_at_call 14; refine (HX.out _ (less_list l m) _ ?_).mono ?_; (first | with_reducible exact HE3.out.drew | exact HE3.out.drew.alloc _); rintro e w5 ⟨rfl, hb⟩; (first | (have hk := zero_kept hb; obtain ⟨⟨c0, c1, c2, c3, c4, c5, c6, c7, c8, c9⟩, f0, f1, f2, f3, f4, f5, f6, f7, f8, f9⟩ := hk) | skip))
    all_goals
      have HB5 := Lib.hid (show Below w.heap.size w w5 from by first | exact st_a HB3.out hb | exact st_b HB3.out hb)
      have hz1 : w.heap.size ≤ W3.heap.size := HB3.out.size
      have hz2 : w.heap.size ≤ w5.heap.size := HB5.out.size
      clear hb
      refine gen_below (w := w) ?_ ?_
      · repeat (first | with_reducible exact HB5.out | with_reducible refine Below.setCell ?_ (by exact hz1) _ | with_reducible refine Below.alloc ?_ (by simpa using hz2) _ | with_reducible refine Below.drew ?_)
      intro W6 hB6
      try clear c0 c1 c2 c3 c4 c5 c6 c7 c8 c9 f0 f1 f2 f3 f4 f5 f6 f7 f8 f9
      have HB6 := Lib.hid hB6
      have HE6 := Lib.hid (HE0.out.next hB6)
      clear hB6 hz1 hz2 HB5
      go_wp2_with (go_at_call 13; (with_reducible refine (HW.out _ HE6.out).mono ?_); rintro e w4 ⟨rfl, hb⟩)
      go_ret
      exact ⟨rfl, HB6.out.trans (hb.mono HB6.out.size)⟩
end Go.Proofs.YtjbhkmpabajeoaaDoor
