/- LineShort: the walk. -/
import Derived.Test.YtjbhkmpabajeoaaDoorLArg
namespace Go.Proofs.YtjbhkmpabajeoaaDoor
set_option linter.unusedSimpArgs false
set_option linter.unusedVariables false
open Go.RowKit

theorem zero_opV : opV OpR.zero = .agg #[.int .i64 0, .int .i64 0, .int .i64 0, .int .i64 0, .int .i64 0, .int .i64 0, .int .i64 0, .int .u8 0, .int .u8 0, .int .i64 0] := rfl
theorem getV_none {l : Bs} (h1 : l.length ≤ 1024) (h : getP l = none) : getV l = .tuple #[opV OpR.zero, .int .i64 30] := by
  unfold getV
  rw [if_neg (by omega), h]
theorem putV_some {o : OpR} {l : Bs} (h : putP o = some l) : putV o = .tuple #[.string (str l), .int .i64 0] := by
  unfold putV
  rw [h]
theorem putV_none {o : OpR} (h : putP o = none) : putV o = .tuple #[.string (str []), .int .i64 2] := by
  unfold putV
  rw [h]
set_option maxRecDepth 100000 in
set_option maxHeartbeats 2000000 in
theorem short_none (w : World) (o : OpR) (s : ByteArray) (ho : o.Ok) (he : Env w) (hp : putP o = none) : Calls Tryd.prog 7 #[opV o, .string s] w fun e w' => e = .returned (.bool true) ∧ Below w.heap.size w w' := by
  have HP := Lib.hid (fun W => put_walk W o ho)
  have HW := Lib.hid works_any
  rw [putV_none hp] at HP
  have HE := Lib.hid (he.alloc (.cells (opC o) 27))
  have HB := Lib.hid ((Below.refl w.heap.size w).alloc (Nat.le_refl _) (.cells (opC o) 27))
  unfold opV at HP ⊢
  simp only [opC] at HP HE HB ⊢
  clear he
  go_enter Tryd.func7, Tryd.ntmps7
  go_wp2_with fail
  go_at_call 11
  refine (HP.out _ HE.out).mono ?_
  rintro e w1 ⟨rfl, hb⟩
  have HE1 := Lib.hid (HE.out.next hb)
  have HB1 := Lib.hid (HB.out.trans (hb.mono HB.out.size))
  clear hb
  go_wp2_with (go_at_call 13; (with_reducible refine (HW.out _ HE1.out).mono ?_); rintro e w3 ⟨rfl, hb⟩)
  go_ret
  exact ⟨rfl, HB1.out.trans (hb.mono HB1.out.size)⟩
theorem ext_len (s : ByteArray) (n : Nat) : (s.extract 0 n).data.toList.length ≤ n := by
  have : (s.extract 0 n).size = min n s.size := by simp [ByteArray.size_extract]
  have h2 : (s.extract 0 n).data.toList.length = (s.extract 0 n).size := by rw [Array.length_toList]; rfl
  omega
theorem cat_list (l : Bs) (s : ByteArray) : (str l ++ ⟨#[32]⟩ ++ s : ByteArray).data.toList = l ++ 32 :: s.data.toList := by
  simp [ByteArray.data_append, str]
set_option maxRecDepth 100000 in
set_option maxHeartbeats 2000000 in
theorem short_some (w : World) (o : OpR) (s : ByteArray) (hs : s.size ≤ 140737488351232) (l : Bs) (ho : o.Ok) (he : Env w) (hp : putP o = some l) : Calls Tryd.prog 7 #[opV o, .string s] w fun e w' => e = .returned (.bool true) ∧ Below w.heap.size w w' := by
  have HP := Lib.hid (fun W => put_walk W o ho)
  have HW := Lib.hid works_any
  obtain ⟨l0, l1⟩ := put_len ho hp
  rw [putV_some hp] at HP
  have hx := ext_len s (min (s.size : Int) 100).toNat
  have hlen : (str l ++ ⟨#[32]⟩ ++ s.extract 0 (min (s.size : Int) 100).toNat : ByteArray).data.toList.length ≤ 301 := by
    rw [cat_list, List.length_append, List.length_cons]
    omega
  have HG := Lib.hid (fun W => get_walk W (str l ++ ⟨#[32]⟩ ++ s.extract 0 (min (s.size : Int) 100).toNat) (by simp only [Array.length_toList] at hlen; exact Nat.le_trans hlen (by decide)))
  rw [getV_none (by omega) (by rw [cat_list]; exact get_longer hp)] at HG
  have l2 : 0 < (str l).size := l0
  have l3 : (str l).size ≤ 200 := l1
  have HE := Lib.hid (he.alloc (.cells (opC o) 27))
  have HB := Lib.hid ((Below.refl w.heap.size w).alloc (Nat.le_refl _) (.cells (opC o) 27))
  unfold opV at HP HG ⊢
  simp only [opC, OpR.zero] at HP HG HE HB ⊢
  clear he hx hlen
  go_enter Tryd.func7, Tryd.ntmps7
  go_wp2_with fail
  go_at_call 11
  refine (HP.out _ HE.out).mono ?_
  rintro e w1 ⟨rfl, hb⟩
  have HE1 := Lib.hid (HE.out.next hb)
  have HB1 := Lib.hid (HB.out.trans (hb.mono HB.out.size))
  clear hb
  go_wp2_with fail
  go_at_call 14
  refine (HG.out _ HE1.out).mono ?_
  rintro e w2 ⟨rfl, hb⟩
  have HE2 := Lib.hid ((HE1.out.next hb).alloc (.cells #[.int .i64 0, .int .i64 0, .int .i64 0, .int .i64 0, .int .i64 0, .int .i64 0, .int .i64 0, .int .u8 0, .int .u8 0, .int .i64 0] 27))
  have HB2 := Lib.hid (let x := HB1.out.trans (hb.mono HB1.out.size); x.alloc x.size (.cells #[.int .i64 0, .int .i64 0, .int .i64 0, .int .i64 0, .int .i64 0, .int .i64 0, .int .i64 0, .int .u8 0, .int .u8 0, .int .i64 0] 27))
  clear hb
  go_wp2_with (go_at_call 13; (with_reducible refine (HW.out _ HE2.out).mono ?_); rintro e w3 ⟨rfl, hb⟩)
  go_ret
  exact ⟨rfl, HB2.out.trans (hb.mono HB2.out.size)⟩
theorem short_walk (w : World) (o : OpR) (s : ByteArray) (hs : s.size ≤ 140737488351232) (ho : o.Ok) (he : Env w) : Calls Tryd.prog 7 #[opV o, .string s] w fun e w' => e = .returned (.bool true) ∧ Below w.heap.size w w' := by
  cases hp : putP o with
  | none => exact short_none w o s ho he hp
  | some l => exact short_some w o s hs l ho he hp
end Go.Proofs.YtjbhkmpabajeoaaDoor
