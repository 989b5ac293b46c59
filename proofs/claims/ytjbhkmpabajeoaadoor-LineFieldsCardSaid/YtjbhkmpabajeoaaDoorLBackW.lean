/- LineBack: the walks. (Printed by genback.py.) -/
import Derived.Test.YtjbhkmpabajeoaaDoorLShort
namespace Go.Proofs.YtjbhkmpabajeoaaDoor
set_option linter.unusedSimpArgs false
set_option linter.unusedVariables false
open Go.RowKit
theorem str_back (s : ByteArray) : str s.data.toList = s := rfl

set_option maxRecDepth 100000 in
set_option maxHeartbeats 4000000 in
theorem back_none_long (w : World) (o : OpR) (s : ByteArray) (hs : s.size ≤ 140737488351232) (ho : o.Ok) (he : Env w) (hp : putP o = none) (hg : getV s.data.toList = .tuple #[opV OpR.zero, .int .i64 3]) : Calls Tryd.prog 5 #[opV o, .string s] w fun e w' => e = .returned (.bool true) ∧ Below w.heap.size w w' := by
  have HP := Lib.hid (fun W => put_walk W o ho)
  have HW := Lib.hid works_any
  have HS := Lib.hid (fun W => get_walk W s (by omega))
  rw [hg] at HS
  rw [putV_none hp] at HP
  have HE := Lib.hid (he.alloc (.cells (opC o) 27))
  have HB := Lib.hid ((Below.refl w.heap.size w).alloc (Nat.le_refl _) (.cells (opC o) 27))
  have HK := Lib.hid (Blk.new w 27 (opC o))
  unfold opV at HP HS ⊢
  simp only [opC, OpR.zero] at HP HS HE HB ⊢
  clear he hg hp
  go_enter Tryd.func5, Tryd.ntmps5
  go_wp2_with fail
  go_at_call 11
  refine (HP.out _ HE.out).mono ?_
  rintro e w1 ⟨rfl, hb⟩
  have HE1 := Lib.hid (HE.out.next hb)
  have HB1 := Lib.hid (HB.out.trans (hb.mono HB.out.size))
  clear hb
  go_wp2_with fail
  go_at_call 14
  refine (HS.out _ HE1.out).mono ?_
  rintro e w3 ⟨rfl, hb⟩
  have HE3 := Lib.hid ((HE1.out.next hb).alloc (.cells #[.int .i64 0, .int .i64 0, .int .i64 0, .int .i64 0, .int .i64 0, .int .i64 0, .int .i64 0, .int .u8 0, .int .u8 0, .int .i64 0] 27))
  have HB3 := Lib.hid (let x := HB1.out.trans (hb.mono HB1.out.size); x.alloc x.size (.cells #[.int .i64 0, .int .i64 0, .int .i64 0, .int .i64 0, .int .i64 0, .int .i64 0, .int .i64 0, .int .u8 0, .int .u8 0, .int .i64 0] 27))
  clear hb
  go_wp2_with (go_at_call 13; (with_reducible refine (HW.out _ HE3.out).mono ?_); rintro e w5 ⟨rfl, hb⟩)
  go_ret
  exact ⟨rfl, HB3.out.trans (hb.mono HB3.out.size)⟩

set_option maxRecDepth 100000 in
set_option maxHeartbeats 4000000 in
theorem back_none_none (w : World) (o : OpR) (s : ByteArray) (hs : s.size ≤ 140737488351232) (ho : o.Ok) (he : Env w) (hp : putP o = none) (hg : getV s.data.toList = .tuple #[opV OpR.zero, .int .i64 30]) : Calls Tryd.prog 5 #[opV o, .string s] w fun e w' => e = .returned (.bool true) ∧ Below w.heap.size w w' := by
  have HP := Lib.hid (fun W => put_walk W o ho)
  have HW := Lib.hid works_any
  have HS := Lib.hid (fun W => get_walk W s (by omega))
  rw [hg] at HS
  rw [putV_none hp] at HP
  have HE := Lib.hid (he.alloc (.cells (opC o) 27))
  have HB := Lib.hid ((Below.refl w.heap.size w).alloc (Nat.le_refl _) (.cells (opC o) 27))
  have HK := Lib.hid (Blk.new w 27 (opC o))
  unfold opV at HP HS ⊢
  simp only [opC, OpR.zero] at HP HS HE HB ⊢
  clear he hg hp
  go_enter Tryd.func5, Tryd.ntmps5
  go_wp2_with fail
  go_at_call 11
  refine (HP.out _ HE.out).mono ?_
  rintro e w1 ⟨rfl, hb⟩
  have HE1 := Lib.hid (HE.out.next hb)
  have HB1 := Lib.hid (HB.out.trans (hb.mono HB.out.size))
  clear hb
  go_wp2_with fail
  go_at_call 14
  refine (HS.out _ HE1.out).mono ?_
  rintro e w3 ⟨rfl, hb⟩
  have HE3 := Lib.hid ((HE1.out.next hb).alloc (.cells #[.int .i64 0, .int .i64 0, .int .i64 0, .int .i64 0, .int .i64 0, .int .i64 0, .int .i64 0, .int .u8 0, .int .u8 0, .int .i64 0] 27))
  have HB3 := Lib.hid (let x := HB1.out.trans (hb.mono HB1.out.size); x.alloc x.size (.cells #[.int .i64 0, .int .i64 0, .int .i64 0, .int .i64 0, .int .i64 0, .int .i64 0, .int .i64 0, .int .u8 0, .int .u8 0, .int .i64 0] 27))
  clear hb
  go_wp2_with (go_at_call 13; (with_reducible refine (HW.out _ HE3.out).mono ?_); rintro e w5 ⟨rfl, hb⟩)
  go_ret
  exact ⟨rfl, HB3.out.trans (hb.mono HB3.out.size)⟩

set_option maxRecDepth 100000 in
set_option maxHeartbeats 4000000 in
theorem back_none_some (w : World) (o : OpR) (s : ByteArray) (hs : s.size ≤ 140737488351232) (ho : o.Ok) (he : Env w) (hp : putP o = none) (p : OpR) (hpo : p.Ok) (hg : getV s.data.toList = .tuple #[opV p, .int .i64 0]) (hq : putP p = some s.data.toList) : Calls Tryd.prog 5 #[opV o, .string s] w fun e w' => e = .returned (.bool true) ∧ Below w.heap.size w w' := by
  have HP := Lib.hid (fun W => put_walk W o ho)
  have HW := Lib.hid works_any
  have HS := Lib.hid (fun W => get_walk W s (by omega))
  rw [hg] at HS
  rw [putV_none hp] at HP
  have HQ := Lib.hid (fun W => put_walk W p hpo)
  rw [putV_some hq, str_back] at HQ
  have HE := Lib.hid (he.alloc (.cells (opC o) 27))
  have HB := Lib.hid ((Below.refl w.heap.size w).alloc (Nat.le_refl _) (.cells (opC o) 27))
  have HK := Lib.hid (Blk.new w 27 (opC o))
  unfold opV at HP HS HQ ⊢
  simp only [opC] at HP HS HQ HE HB ⊢
  clear he hg hp hq
  go_enter Tryd.func5, Tryd.ntmps5
  go_wp2_with fail
  go_at_call 11
  refine (HP.out _ HE.out).mono ?_
  rintro e w1 ⟨rfl, hb⟩
  have HE1 := Lib.hid (HE.out.next hb)
  have HB1 := Lib.hid (HB.out.trans (hb.mono HB.out.size))
  clear hb
  go_wp2_with fail
  go_at_call 14
  refine (HS.out _ HE1.out).mono ?_
  rintro e w3 ⟨rfl, hb⟩
  have HE3 := Lib.hid ((HE1.out.next hb).alloc (.cells #[.int .i64 p.k, .int .i64 p.a1, .int .i64 p.a2, .int .i64 p.a3, .int .i64 p.b1, .int .i64 p.b2, .int .i64 p.b3, .int .u8 p.c1, .int .u8 p.c2, .int .i64 p.n] 27))
  have HB3 := Lib.hid (let x := HB1.out.trans (hb.mono HB1.out.size); x.alloc x.size (.cells #[.int .i64 p.k, .int .i64 p.a1, .int .i64 p.a2, .int .i64 p.a3, .int .i64 p.b1, .int .i64 p.b2, .int .i64 p.b3, .int .u8 p.c1, .int .u8 p.c2, .int .i64 p.n] 27))
  clear hb
  go_wp2_with fail
  go_at_call 11
  refine (HQ.out _ HE3.out).mono ?_
  rintro e w4 ⟨rfl, hb⟩
  have HE4 := Lib.hid (HE3.out.next hb)
  have HB4 := Lib.hid (HB3.out.trans (hb.mono HB3.out.size))
  clear hb
  go_wp2_with (go_at_call 13; (with_reducible refine (HW.out _ HE4.out).mono ?_); rintro e w5 ⟨rfl, hb⟩)
  go_ret
  exact ⟨rfl, HB4.out.trans (hb.mono HB4.out.size)⟩

set_option maxRecDepth 100000 in
set_option maxHeartbeats 4000000 in
theorem back_some_long (w : World) (o : OpR) (s : ByteArray) (hs : s.size ≤ 140737488351232) (ho : o.Ok) (he : Env w) (l : Bs) (hp : putP o = some l) (hg : getV s.data.toList = .tuple #[opV OpR.zero, .int .i64 3]) : Calls Tryd.prog 5 #[opV o, .string s] w fun e w' => e = .returned (.bool true) ∧ Below w.heap.size w w' := by
  have HP := Lib.hid (fun W => put_walk W o ho)
  have HW := Lib.hid works_any
  have HS := Lib.hid (fun W => get_walk W s (by omega))
  rw [hg] at HS
  rw [putV_some hp] at HP
  obtain ⟨l0, l1⟩ := put_len ho hp
  have HG := Lib.hid (fun W => get_walk W (str l) (by rw [str_size]; omega))
  rw [show getV (str l).data.toList = .tuple #[opV o, .int .i64 0] by unfold getV; rw [str_list, if_neg (by omega), get_put ho hp]] at HG
  have hEq := eq_run ho ho
  simp only [decide_true] at hEq
  have HE := Lib.hid (he.alloc (.cells (opC o) 27))
  have HB := Lib.hid ((Below.refl w.heap.size w).alloc (Nat.le_refl _) (.cells (opC o) 27))
  have HK := Lib.hid (Blk.new w 27 (opC o))
  unfold opV at HP HS HG ⊢
  simp only [opC, OpR.zero] at HP HS HG HE HB ⊢
  clear he hg hp
  go_enter Tryd.func5, Tryd.ntmps5
  go_wp2_with fail
  go_at_call 11
  refine (HP.out _ HE.out).mono ?_
  rintro e w1 ⟨rfl, hb⟩
  have HE1 := Lib.hid (HE.out.next hb)
  have HB1 := Lib.hid (HB.out.trans (hb.mono HB.out.size))
  have HK1 := Lib.hid (HK.out.below hb HK.out.lt)
  clear hb
  go_wp2_with fail
  go_at_call 14
  refine (HG.out _ HE1.out).mono ?_
  rintro e w2 ⟨rfl, hb⟩
  have HE2 := Lib.hid ((HE1.out.next hb).alloc (.cells #[.int .i64 o.k, .int .i64 o.a1, .int .i64 o.a2, .int .i64 o.a3, .int .i64 o.b1, .int .i64 o.b2, .int .i64 o.b3, .int .u8 o.c1, .int .u8 o.c2, .int .i64 o.n] 27))
  have HB2 := Lib.hid (let x := HB1.out.trans (hb.mono HB1.out.size); x.alloc x.size (.cells #[.int .i64 o.k, .int .i64 o.a1, .int .i64 o.a2, .int .i64 o.a3, .int .i64 o.b1, .int .i64 o.b2, .int .i64 o.b3, .int .u8 o.c1, .int .u8 o.c2, .int .i64 o.n] 27))
  have HK2 := Lib.hid ((HK1.out.below hb HK1.out.lt).alloc (.cells #[.int .i64 o.k, .int .i64 o.a1, .int .i64 o.a2, .int .i64 o.a3, .int .i64 o.b1, .int .i64 o.b2, .int .i64 o.b3, .int .u8 o.c1, .int .u8 o.c2, .int .i64 o.n] 27))
  obtain ⟨⟨c0, c1, c2, c3, c4, c5, c6, c7, c8, c9⟩, -⟩ := HK2.out.op
  clear hb
  go_wp2_with fail
  go_at_call 14
  refine (HS.out _ HE2.out).mono ?_
  rintro e w3 ⟨rfl, hb⟩
  have HE3 := Lib.hid ((HE2.out.next hb).alloc (.cells #[.int .i64 0, .int .i64 0, .int .i64 0, .int .i64 0, .int .i64 0, .int .i64 0, .int .i64 0, .int .u8 0, .int .u8 0, .int .i64 0] 27))
  have HB3 := Lib.hid (let x := HB2.out.trans (hb.mono HB2.out.size); x.alloc x.size (.cells #[.int .i64 0, .int .i64 0, .int .i64 0, .int .i64 0, .int .i64 0, .int .i64 0, .int .i64 0, .int .u8 0, .int .u8 0, .int .i64 0] 27))
  clear hb c0 c1 c2 c3 c4 c5 c6 c7 c8 c9
  go_wp2_with (go_at_call 13; (with_reducible refine (HW.out _ HE3.out).mono ?_); rintro e w5 ⟨rfl, hb⟩)
  go_ret
  exact ⟨rfl, HB3.out.trans (hb.mono HB3.out.size)⟩

set_option maxRecDepth 100000 in
set_option maxHeartbeats 4000000 in
theorem back_some_none (w : World) (o : OpR) (s : ByteArray) (hs : s.size ≤ 140737488351232) (ho : o.Ok) (he : Env w) (l : Bs) (hp : putP o = some l) (hg : getV s.data.toList = .tuple #[opV OpR.zero, .int .i64 30]) : Calls Tryd.prog 5 #[opV o, .string s] w fun e w' => e = .returned (.bool true) ∧ Below w.heap.size w w' := by
  have HP := Lib.hid (fun W => put_walk W o ho)
  have HW := Lib.hid works_any
  have HS := Lib.hid (fun W => get_walk W s (by omega))
  rw [hg] at HS
  rw [putV_some hp] at HP
  obtain ⟨l0, l1⟩ := put_len ho hp
  have HG := Lib.hid (fun W => get_walk W (str l) (by rw [str_size]; omega))
  rw [show getV (str l).data.toList = .tuple #[opV o, .int .i64 0] by unfold getV; rw [str_list, if_neg (by omega), get_put ho hp]] at HG
  have hEq := eq_run ho ho
  simp only [decide_true] at hEq
  have HE := Lib.hid (he.alloc (.cells (opC o) 27))
  have HB := Lib.hid ((Below.refl w.heap.size w).alloc (Nat.le_refl _) (.cells (opC o) 27))
  have HK := Lib.hid (Blk.new w 27 (opC o))
  unfold opV at HP HS HG ⊢
  simp only [opC, OpR.zero] at HP HS HG HE HB ⊢
  clear he hg hp
  go_enter Tryd.func5, Tryd.ntmps5
  go_wp2_with fail
  go_at_call 11
  refine (HP.out _ HE.out).mono ?_
  rintro e w1 ⟨rfl, hb⟩
  have HE1 := Lib.hid (HE.out.next hb)
  have HB1 := Lib.hid (HB.out.trans (hb.mono HB.out.size))
  have HK1 := Lib.hid (HK.out.below hb HK.out.lt)
  clear hb
  go_wp2_with fail
  go_at_call 14
  refine (HG.out _ HE1.out).mono ?_
  rintro e w2 ⟨rfl, hb⟩
  have HE2 := Lib.hid ((HE1.out.next hb).alloc (.cells #[.int .i64 o.k, .int .i64 o.a1, .int .i64 o.a2, .int .i64 o.a3, .int .i64 o.b1, .int .i64 o.b2, .int .i64 o.b3, .int .u8 o.c1, .int .u8 o.c2, .int .i64 o.n] 27))
  have HB2 := Lib.hid (let x := HB1.out.trans (hb.mono HB1.out.size); x.alloc x.size (.cells #[.int .i64 o.k, .int .i64 o.a1, .int .i64 o.a2, .int .i64 o.a3, .int .i64 o.b1, .int .i64 o.b2, .int .i64 o.b3, .int .u8 o.c1, .int .u8 o.c2, .int .i64 o.n] 27))
  have HK2 := Lib.hid ((HK1.out.below hb HK1.out.lt).alloc (.cells #[.int .i64 o.k, .int .i64 o.a1, .int .i64 o.a2, .int .i64 o.a3, .int .i64 o.b1, .int .i64 o.b2, .int .i64 o.b3, .int .u8 o.c1, .int .u8 o.c2, .int .i64 o.n] 27))
  obtain ⟨⟨c0, c1, c2, c3, c4, c5, c6, c7, c8, c9⟩, -⟩ := HK2.out.op
  clear hb
  go_wp2_with fail
  go_at_call 14
  refine (HS.out _ HE2.out).mono ?_
  rintro e w3 ⟨rfl, hb⟩
  have HE3 := Lib.hid ((HE2.out.next hb).alloc (.cells #[.int .i64 0, .int .i64 0, .int .i64 0, .int .i64 0, .int .i64 0, .int .i64 0, .int .i64 0, .int .u8 0, .int .u8 0, .int .i64 0] 27))
  have HB3 := Lib.hid (let x := HB2.out.trans (hb.mono HB2.out.size); x.alloc x.size (.cells #[.int .i64 0, .int .i64 0, .int .i64 0, .int .i64 0, .int .i64 0, .int .i64 0, .int .i64 0, .int .u8 0, .int .u8 0, .int .i64 0] 27))
  clear hb c0 c1 c2 c3 c4 c5 c6 c7 c8 c9
  go_wp2_with (go_at_call 13; (with_reducible refine (HW.out _ HE3.out).mono ?_); rintro e w5 ⟨rfl, hb⟩)
  go_ret
  exact ⟨rfl, HB3.out.trans (hb.mono HB3.out.size)⟩

set_option maxRecDepth 100000 in
set_option maxHeartbeats 4000000 in
theorem back_some_some (w : World) (o : OpR) (s : ByteArray) (hs : s.size ≤ 140737488351232) (ho : o.Ok) (he : Env w) (l : Bs) (hp : putP o = some l) (p : OpR) (hpo : p.Ok) (hg : getV s.data.toList = .tuple #[opV p, .int .i64 0]) (hq : putP p = some s.data.toList) : Calls Tryd.prog 5 #[opV o, .string s] w fun e w' => e = .returned (.bool true) ∧ Below w.heap.size w w' := by
  have HP := Lib.hid (fun W => put_walk W o ho)
  have HW := Lib.hid works_any
  have HS := Lib.hid (fun W => get_walk W s (by omega))
  rw [hg] at HS
  rw [putV_some hp] at HP
  obtain ⟨l0, l1⟩ := put_len ho hp
  have HG := Lib.hid (fun W => get_walk W (str l) (by rw [str_size]; omega))
  rw [show getV (str l).data.toList = .tuple #[opV o, .int .i64 0] by unfold getV; rw [str_list, if_neg (by omega), get_put ho hp]] at HG
  have hEq := eq_run ho ho
  simp only [decide_true] at hEq
  have HQ := Lib.hid (fun W => put_walk W p hpo)
  rw [putV_some hq, str_back] at HQ
  have HE := Lib.hid (he.alloc (.cells (opC o) 27))
  have HB := Lib.hid ((Below.refl w.heap.size w).alloc (Nat.le_refl _) (.cells (opC o) 27))
  have HK := Lib.hid (Blk.new w 27 (opC o))
  unfold opV at HP HS HG HQ ⊢
  simp only [opC] at HP HS HG HQ HE HB ⊢
  clear he hg hp hq
  go_enter Tryd.func5, Tryd.ntmps5
  go_wp2_with fail
  go_at_call 11
  refine (HP.out _ HE.out).mono ?_
  rintro e w1 ⟨rfl, hb⟩
  have HE1 := Lib.hid (HE.out.next hb)
  have HB1 := Lib.hid (HB.out.trans (hb.mono HB.out.size))
  have HK1 := Lib.hid (HK.out.below hb HK.out.lt)
  clear hb
  go_wp2_with fail
  go_at_call 14
  refine (HG.out _ HE1.out).mono ?_
  rintro e w2 ⟨rfl, hb⟩
  have HE2 := Lib.hid ((HE1.out.next hb).alloc (.cells #[.int .i64 o.k, .int .i64 o.a1, .int .i64 o.a2, .int .i64 o.a3, .int .i64 o.b1, .int .i64 o.b2, .int .i64 o.b3, .int .u8 o.c1, .int .u8 o.c2, .int .i64 o.n] 27))
  have HB2 := Lib.hid (let x := HB1.out.trans (hb.mono HB1.out.size); x.alloc x.size (.cells #[.int .i64 o.k, .int .i64 o.a1, .int .i64 o.a2, .int .i64 o.a3, .int .i64 o.b1, .int .i64 o.b2, .int .i64 o.b3, .int .u8 o.c1, .int .u8 o.c2, .int .i64 o.n] 27))
  have HK2 := Lib.hid ((HK1.out.below hb HK1.out.lt).alloc (.cells #[.int .i64 o.k, .int .i64 o.a1, .int .i64 o.a2, .int .i64 o.a3, .int .i64 o.b1, .int .i64 o.b2, .int .i64 o.b3, .int .u8 o.c1, .int .u8 o.c2, .int .i64 o.n] 27))
  obtain ⟨⟨c0, c1, c2, c3, c4, c5, c6, c7, c8, c9⟩, -⟩ := HK2.out.op
  clear hb
  go_wp2_with fail
  go_at_call 14
  refine (HS.out _ HE2.out).mono ?_
  rintro e w3 ⟨rfl, hb⟩
  have HE3 := Lib.hid ((HE2.out.next hb).alloc (.cells #[.int .i64 p.k, .int .i64 p.a1, .int .i64 p.a2, .int .i64 p.a3, .int .i64 p.b1, .int .i64 p.b2, .int .i64 p.b3, .int .u8 p.c1, .int .u8 p.c2, .int .i64 p.n] 27))
  have HB3 := Lib.hid (let x := HB2.out.trans (hb.mono HB2.out.size); x.alloc x.size (.cells #[.int .i64 p.k, .int .i64 p.a1, .int .i64 p.a2, .int .i64 p.a3, .int .i64 p.b1, .int .i64 p.b2, .int .i64 p.b3, .int .u8 p.c1, .int .u8 p.c2, .int .i64 p.n] 27))
  clear hb c0 c1 c2 c3 c4 c5 c6 c7 c8 c9
  go_wp2_with fail
  go_at_call 11
  refine (HQ.out _ HE3.out).mono ?_
  rintro e w4 ⟨rfl, hb⟩
  have HE4 := Lib.hid (HE3.out.next hb)
  have HB4 := Lib.hid (HB3.out.trans (hb.mono HB3.out.size))
  clear hb
  go_wp2_with (go_at_call 13; (with_reducible refine (HW.out _ HE4.out).mono ?_); rintro e w5 ⟨rfl, hb⟩)
  go_ret
  exact ⟨rfl, HB4.out.trans (hb.mono HB4.out.size)⟩

theorem back_walk (w : World) (o : OpR) (s : ByteArray) (hs : s.size ≤ 140737488351232) (ho : o.Ok) (he : Env w) : Calls Tryd.prog 5 #[opV o, .string s] w fun e w' => e = .returned (.bool true) ∧ Below w.heap.size w w' := by
  by_cases h : 1024 < s.data.toList.length
  · have hg : getV s.data.toList = .tuple #[opV OpR.zero, .int .i64 3] := by unfold getV; rw [if_pos h]
    cases hp : putP o with
    | none => exact back_none_long w o s hs ho he hp hg
    | some l => exact back_some_long w o s hs ho he l hp hg
  cases hgp : getP s.data.toList with
  | none =>
    have hg : getV s.data.toList = .tuple #[opV OpR.zero, .int .i64 30] := by unfold getV; rw [if_neg h, hgp]
    cases hp : putP o with
    | none => exact back_none_none w o s hs ho he hp hg
    | some l => exact back_some_none w o s hs ho he l hp hg
  | some p =>
    have hg : getV s.data.toList = .tuple #[opV p, .int .i64 0] := by unfold getV; rw [if_neg h, hgp]
    obtain ⟨hq, hpo⟩ := put_get hgp
    cases hp : putP o with
    | none => exact back_none_some w o s hs ho he hp p hpo hg hq
    | some l => exact back_some_some w o s hs ho he l hp p hpo hg hq
end Go.Proofs.YtjbhkmpabajeoaaDoor
