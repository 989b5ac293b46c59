/- works: a line, there and back; LinePuts: the walks. -/
import Derived.Test.YtjbhkmpabajeoaaDoorLGet
namespace Go.Proofs.YtjbhkmpabajeoaaDoor
set_option linter.unusedSimpArgs false
set_option linter.unusedVariables false
open Go.RowKit

def oW : OpR := { opK 3 with a2 := -1, a3 := 2, n := 4 }
def sW : Bs := [112, 117, 115, 104, 32, 48, 32, 45, 49, 32, 50, 32, 117, 112]
theorem itoa_digit {n : Nat} (h : n < 10) : Lib.itoa (n : Int) = [UInt8.ofNat (48 + n)] := by rw [Lib.itoa_nonneg, Lib.decDigits_one h]
theorem oW_ok : oW.Ok := ⟨inI_small (by decide) (by decide), inI0, inI_small (by decide) (by decide), inI_small (by decide) (by decide), inI0, inI0, inI0, inU0, inU0, inI_small (by decide) (by decide)⟩
theorem put_oW : putP oW = some sW := by
  have e0 : Lib.itoa 0 = [48] := itoa_digit (n := 0) (by decide)
  have e2 : Lib.itoa 2 = [50] := itoa_digit (n := 2) (by decide)
  have e1 : Lib.itoa (-1) = [45, 49] := by
    have := Lib.itoa_neg 1 (by decide)
    rw [Lib.decDigits_one (by decide)] at this
    exact this
  simp [putP, oW, opK, rowOf, rowL, partsW, partWords, usedAll, used, e0, e1, e2, join_tail, dirs, sW]
theorem get_sW : getP sW = some oW := get_put oW_ok put_oW
set_option maxRecDepth 100000 in
set_option maxHeartbeats 2000000 in
theorem works_any (w : World) (he : Env w) : Calls Tryd.prog 13 #[] w fun e w' => e = .returned (.bool true) ∧ Below w.heap.size w w' := by
  have HG := Lib.hid (get_walk w (str sW) (by decide) he)
  have HP := Lib.hid (fun W => put_walk W oW oW_ok)
  have hg : getV (str sW).data.toList = .tuple #[opV oW, .int .i64 0] := by
    unfold getV
    rw [if_neg (by decide), str_list, get_sW]
  have hp : putV oW = .tuple #[.string (str sW), .int .i64 0] := by unfold putV; rw [put_oW]
  rw [hg] at HG
  rw [hp] at HP
  have hEq := eq_run oW_ok oW_ok
  simp only [opV, opC, oW, opK, decide_true] at HG HP hEq
  have HE := Lib.hid he
  clear he hg hp
  go_enter Tryd.func13, Tryd.ntmps13
  go_wp2_with fail
  go_at_call 14
  refine HG.out.mono ?_
  rintro e w1 ⟨rfl, hb⟩
  have HE1 := Lib.hid ((HE.out.next hb).alloc (.cells #[.int .i64 3, .int .i64 0, .int .i64 (-1), .int .i64 2, .int .i64 0, .int .i64 0, .int .i64 0, .int .u8 0, .int .u8 0, .int .i64 4] 27))
  have HB1 := Lib.hid (hb.alloc hb.size (.cells #[.int .i64 3, .int .i64 0, .int .i64 (-1), .int .i64 2, .int .i64 0, .int .i64 0, .int .i64 0, .int .u8 0, .int .u8 0, .int .i64 4] 27))
  clear hb
  go_wp2_with fail
  go_at_call 11
  refine (HP.out _ HE1.out).mono ?_
  rintro e w2 ⟨rfl, hb⟩
  have HB2 := Lib.hid (HB1.out.trans (hb.mono HB1.out.size))
  clear hb
  go_wp2
  go_ret
  exact ⟨rfl, HB2.out⟩
set_option maxRecDepth 100000 in
set_option maxHeartbeats 2000000 in
theorem puts_walk (w : World) (o : OpR) (ho : o.Ok) (he : Env w) : Calls Tryd.prog 3 #[opV o] w fun e w' => e = .returned (.bool true) ∧ Below w.heap.size w w' := by
  have HP := Lib.hid (fun W => put_walk W o ho)
  have HF := Lib.hid (fun W => fput_walk W o ho)
  have HW := Lib.hid works_any
  obtain ⟨s, n, hv⟩ : ∃ s n, putV o = .tuple #[.string (str s), .int .i64 n] := by
    unfold putV
    cases putP o <;> exact ⟨_, _, rfl⟩
  rw [hv] at HP HF
  have HE := Lib.hid (he.alloc (.cells (opC o) 27))
  have HB := Lib.hid ((Below.refl w.heap.size w).alloc (Nat.le_refl _) (.cells (opC o) 27))
  have HK := Lib.hid (Blk.new w 27 (opC o))
  unfold opV at HP HF ⊢
  simp only [opC] at HP HF HE HB ⊢
  clear hv he
  go_enter Tryd.func3, Tryd.ntmps3
  go_wp2_with fail
  go_at_call 11
  refine (HP.out _ HE.out).mono ?_
  rintro e w1 ⟨rfl, hb⟩
  have HK1 := Lib.hid (HK.out.below hb HK.out.lt)
  have HE1 := Lib.hid (HE.out.next hb)
  have HB1 := Lib.hid (HB.out.trans (hb.mono HB.out.size))
  clear hb
  obtain ⟨⟨c0, c1, c2, c3, c4, c5, c6, c7, c8, c9⟩, -⟩ := HK1.out.op
  go_wp2_with fail
  go_at_call 12
  refine (HF.out _).mono ?_
  rintro e w2 ⟨rfl, hb⟩
  have HE2 := Lib.hid (HE1.out.next hb)
  have HB2 := Lib.hid (HB1.out.trans (hb.mono HB1.out.size))
  clear hb c0 c1 c2 c3 c4 c5 c6 c7 c8 c9
  go_wp2_with (go_at_call 13; (with_reducible refine (HW.out _ HE2.out).mono ?_); rintro e w3 ⟨rfl, hb⟩)
  go_ret
  exact ⟨rfl, HB2.out.trans (hb.mono HB2.out.size)⟩
end Go.Proofs.YtjbhkmpabajeoaaDoor
