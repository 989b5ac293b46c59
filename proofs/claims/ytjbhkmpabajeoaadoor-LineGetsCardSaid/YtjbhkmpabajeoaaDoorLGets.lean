/- The document's Get of whatever text; the statement's walk. -/
import Derived.Test.YtjbhkmpabajeoaaDoorLFGet
import Derived.Test.YtjbhkmpabajeoaaDoorLWorks
namespace Go.Proofs.YtjbhkmpabajeoaaDoor
set_option linter.unusedSimpArgs false
set_option linter.unusedVariables false
open Go.RowKit

set_option maxRecDepth 100000 in
set_option maxHeartbeats 4000000 in
theorem fget_long (w : World) (s : ByteArray) (h : 1024 < s.size) (h2 : s.size ≤ 9223372036854775807) : Calls Tryd.prog 15 #[.string s] w fun e w' => e = .returned (getV s.data.toList) ∧ Below w.heap.size w w' := by
  have HG := Lib.hid (show getV s.data.toList = .tuple #[opV OpR.zero, .int .i64 3] by unfold getV; rw [if_pos (by simpa using h)])
  generalize getV s.data.toList = res at HG ⊢
  have hi : (1024 : Int) < (s.size : Int) := by omega
  go_enter Tryd.func15, Tryd.ntmps15
  go_wp2
  refine bodyPost_ret (v := .tuple #[opV OpR.zero, .int .i64 3]) (by simp [results, Tryd.results15, go_sem, opV, opC, OpR.zero]) rfl ⟨?_, ?_⟩
  · rw [HG.out]
  · exact (Below.refl _ _).alloc (Nat.le_refl _) _
theorem fget_any (w : World) (s : ByteArray) (h : s.size ≤ 9223372036854775807) : Calls Tryd.prog 15 #[.string s] w fun e w' => e = .returned (getV s.data.toList) ∧ Below w.heap.size w w' := by
  by_cases h2 : s.size ≤ 1024
  · exact fget_short w s.data.toList (by simpa using h2)
  · exact fget_long w s (by omega) h
theorem getV_form (l : Bs) : ∃ o n, getV l = .tuple #[opV o, .int .i64 n] ∧ o.Ok := by
  unfold getV
  split
  · exact ⟨_, _, rfl, opK_ok inI0⟩
  · cases h : getP l with
    | none => exact ⟨_, _, rfl, opK_ok inI0⟩
    | some o => exact ⟨_, _, rfl, (put_get h).2⟩
set_option maxRecDepth 100000 in
set_option maxHeartbeats 4000000 in
theorem gets_walk (w : World) (s : ByteArray) (hs : s.size ≤ 140737488351232) (he : Env w) : Calls Tryd.prog 4 #[.string s] w fun e w' => e = .returned (.bool true) ∧ Below w.heap.size w w' := by
  have HS := Lib.hid (fun W => get_walk W s (by omega))
  have HF := Lib.hid (fun W => fget_any W s (by omega))
  have HW := Lib.hid works_any
  obtain ⟨o, n, hg, ho⟩ := getV_form s.data.toList
  rw [hg] at HS HF
  have hEq := eq_run ho ho
  simp only [decide_true] at hEq
  have HE := Lib.hid he
  unfold opV at HS HF
  simp only [opC] at HS HF
  clear he hg
  go_enter Tryd.func4, Tryd.ntmps4
  go_wp2_with fail
  go_at_call 14
  refine (HS.out _ HE.out).mono ?_
  rintro e w1 ⟨rfl, hb⟩
  have HE1 := Lib.hid ((HE.out.next hb).alloc (.cells #[.int .i64 o.k, .int .i64 o.a1, .int .i64 o.a2, .int .i64 o.a3, .int .i64 o.b1, .int .i64 o.b2, .int .i64 o.b3, .int .u8 o.c1, .int .u8 o.c2, .int .i64 o.n] 27))
  have HB1 := Lib.hid (hb.alloc hb.size (.cells #[.int .i64 o.k, .int .i64 o.a1, .int .i64 o.a2, .int .i64 o.a3, .int .i64 o.b1, .int .i64 o.b2, .int .i64 o.b3, .int .u8 o.c1, .int .u8 o.c2, .int .i64 o.n] 27))
  have HK1 := Lib.hid (Blk.new w1 27 (opC o))
  have hz := hb.size
  clear hb
  go_wp2_with fail
  go_at_call 15
  refine (HF.out _).mono ?_
  rintro e w2 ⟨rfl, hb⟩
  have HE2 := Lib.hid ((HE1.out.next hb).alloc (.cells #[.int .i64 o.k, .int .i64 o.a1, .int .i64 o.a2, .int .i64 o.a3, .int .i64 o.b1, .int .i64 o.b2, .int .i64 o.b3, .int .u8 o.c1, .int .u8 o.c2, .int .i64 o.n] 27))
  have HB2 := Lib.hid (let x := HB1.out.trans (hb.mono HB1.out.size); x.alloc x.size (.cells #[.int .i64 o.k, .int .i64 o.a1, .int .i64 o.a2, .int .i64 o.a3, .int .i64 o.b1, .int .i64 o.b2, .int .i64 o.b3, .int .u8 o.c1, .int .u8 o.c2, .int .i64 o.n] 27))
  have HK2 := Lib.hid ((HK1.out.below hb HK1.out.lt).alloc (.cells #[.int .i64 o.k, .int .i64 o.a1, .int .i64 o.a2, .int .i64 o.a3, .int .i64 o.b1, .int .i64 o.b2, .int .i64 o.b3, .int .u8 o.c1, .int .u8 o.c2, .int .i64 o.n] 27))
  obtain ⟨⟨c0, c1, c2, c3, c4, c5, c6, c7, c8, c9⟩, -⟩ := HK2.out.op
  clear hb
  go_wp2_with (go_at_call 13; (with_reducible refine (HW.out _ HE2.out).mono ?_); rintro e w3 ⟨rfl, hb⟩)
  go_ret
  exact ⟨rfl, HB2.out.trans (hb.mono HB2.out.size)⟩
end Go.Proofs.YtjbhkmpabajeoaaDoor
