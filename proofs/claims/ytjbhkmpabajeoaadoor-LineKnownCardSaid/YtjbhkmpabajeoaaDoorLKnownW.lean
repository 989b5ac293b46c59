/- LineKnown: the statement's walk. (Printed by genknown.py.) -/
import Derived.Test.YtjbhkmpabajeoaaDoorLKnown
namespace Go.Proofs.YtjbhkmpabajeoaaDoor
set_option linter.unusedSimpArgs false
set_option linter.unusedVariables false
open Go.RowKit

theorem set_ok : oSet.Ok := (put_get get_set).2
theorem ray_ok : oRay.Ok := (put_get get_ray).2
theorem tick_ok : oTick.Ok := (put_get get_tick).2
set_option maxRecDepth 100000 in
set_option maxHeartbeats 8000000 in
theorem known_walk (w : World) (he : Env w) : Calls Tryd.prog 10 #[] w fun e w' => e = .returned (.bool true) ∧ Below w.heap.size w w' := by
  have HP := Lib.hid (put_walk w oSet set_ok he)
  rw [putV_set] at HP
  have HGR := Lib.hid (fun W (h : Env W) => (by have := get_walk W (str sRay) (by decide) h; rwa [str_list, getV_ray] at this : Calls Tryd.prog 14 #[.string (str sRay)] W fun e w' => e = .returned (.tuple #[opV oRay, .int .i64 0]) ∧ Below W.heap.size W w'))
  have HGT := Lib.hid (fun W (h : Env W) => (by have := get_walk W (str sTick) (by decide) h; rwa [str_list, getV_tick] at this : Calls Tryd.prog 14 #[.string (str sTick)] W fun e w' => e = .returned (.tuple #[opV oTick, .int .i64 0]) ∧ Below W.heap.size W w'))
  have HGZ := Lib.hid (fun W (h : Env W) => (by have := get_walk W (str zer) (by rw [str_size]; unfold zer; rw [List.length_replicate]; decide) h; rwa [str_list, zer_get] at this : Calls Tryd.prog 14 #[.string (str zer)] W fun e w' => e = .returned (.tuple #[opV OpR.zero, .int .i64 3]) ∧ Below W.heap.size W w'))
  have HGB := Lib.hid (fun i (hi : i < 15) W (h : Env W) => (by have := get_walk W (str (badS.getD i [])) (by rw [str_size]; have := (badS_get hi).2; omega) h; rwa [str_list, (badS_get hi).1] at this : Calls Tryd.prog 14 #[.string (str (badS.getD i []))] W fun e w' => e = .returned (.tuple #[opV OpR.zero, .int .i64 30]) ∧ Below W.heap.size W w'))
  have HA1 := Lib.hid (fun W (h : Env W) => (by have := lans_any W 7 ansLook ansLook_ok h; rwa [ansLook_is] at this : Calls Tryd.prog 16 #[.int .i64 7, ansV ansLook] W fun e w' => e = .returned (.string (str [119, 97, 116, 101, 114, 32, 51, 32, 115, 107, 121, 32, 49, 53, 32, 108, 97, 109, 112, 32, 50, 32, 100, 117, 101, 32, 57])) ∧ Below W.heap.size W w'))
  have HA2 := Lib.hid (fun W (h : Env W) => (by have := lans_any W 6 ansLong ansLong_ok h; rwa [ansLong_is] at this : Calls Tryd.prog 16 #[.int .i64 6, ansV ansLong] W fun e w' => e = .returned (.string (str [101, 114, 114, 111, 114, 32, 108, 111, 110, 103])) ∧ Below W.heap.size W w'))
  have HA3 := Lib.hid (fun W (h : Env W) => (by have := lans_any W 6 ansOk ansOk_ok h; rwa [ansOk_is] at this : Calls Tryd.prog 16 #[.int .i64 6, ansV ansOk] W fun e w' => e = .returned (.string (str [111, 107])) ∧ Below W.heap.size W w'))
  have HA4 := Lib.hid (fun W (h : Env W) => (by have := lans_any W 6 ansNo ansNo_ok h; rwa [ansNo_is] at this : Calls Tryd.prog 16 #[.int .i64 6, ansV ansNo] W fun e w' => e = .returned (.string (str [101, 114, 114, 111, 114, 32, 57, 57])) ∧ Below W.heap.size W w'))
  have HWK := Lib.hid works_any
  have hEqR := eq_run ray_ok ray_ok
  have hEqZ := eq_run (opK_ok inI0) (opK_ok inI0)
  have hmk := make_big
  have hcv := conv_big
  have HE := Lib.hid he
  simp only [opV, opC, oSet, oRay, oTick, opK, OpR.zero, ansV, ansC, ansLook, ansLong, ansOk, ansNo, aZero, decide_true] at HP HGR HGT HGZ HGB HA1 HA2 HA3 HA4 hEqR hEqZ
  clear he
  go_enter Tryd.func10, Tryd.ntmps10
  go_wp2_with fail
  go_at_call 11
  refine HP.out.mono ?_
  rintro e w1 ⟨rfl, hb⟩
  have HB1 := Lib.hid hb
  have HE1 := Lib.hid (HE.out.next hb)
  clear hb
  obtain ⟨W2, hW2⟩ : ∃ W2, W2 = w1.alloc (.cells #[.int .i64 9, .int .i64 0, .int .i64 0, .int .i64 0, .int .i64 0, .int .i64 0, .int .i64 0, .int .u8 0, .int .u8 0, .int .i64 1, .int .i64 0, .int .i64 0, .int .i64 0, .int .i64 0, .int .i64 0, .int .i64 0, .int .i64 0, .int .u8 0, .int .u8 0, .int .i64 0, .int .i64 3, .int .i64 0, .int .i64 0, .int .i64 0, .int .i64 0, .int .i64 0, .int .i64 0, .int .u8 0, .int .u8 0, .int .i64 6, .int .i64 1, .int .i64 0, .int .i64 0, .int .i64 0, .int .i64 0, .int .i64 0, .int .i64 0, .int .u8 15, .int .u8 0, .int .i64 0] 27) := ⟨_, rfl⟩
  have hr2 : W2.ownsRow w1.heap.size 27 10 (.slice (some ⟨w1.heap.size, 0, none⟩) 4 4) badO.length (rc opE badO) := by rw [hW2]; exact row_of rfl (by decide) rfl
  have HR2 := Lib.hid (fun W' (hb : Below W2.heap.size W2 W') i (hi : i < badO.length) => row_cells (own_below hr2 hb) hi)
  have HB2 := Lib.hid (show Below w.heap.size w W2 by rw [hW2]; exact HB1.out.alloc HB1.out.size _)
  have HE2 := Lib.hid (show Env W2 by rw [hW2]; exact HE1.out.alloc _)
  have HW2 := Lib.hid hW2
  clear hW2 hr2
  go_wp2
  rw [← HW2.out]
  go_loopw [4] (fun i wr => ∃ j : Nat, j ≤ 4 ∧ i = .int .i64 j ∧ Below W2.heap.size W2 wr) (fun i _ => 4 - (intOf i).toNat)
  case atStart => exact ⟨0, Nat.zero_le _, rfl, Below.refl _ _⟩
  case round =>
    obtain ⟨j, hj, rfl, hb⟩ := hrel
    have HB3 := Lib.hid hb
    clear hb
    by_cases hlt : j < 4
    · obtain ⟨c0, c1, c2, c3, c4, c5, c6, c7, c8, c9⟩ := HR2.out _ HB3.out j hlt
      have hpo := badO_put hlt
      have hltI : (j : Int) < 4 := by omega
      generalize badO.getD j OpR.zero = o at c0 c1 c2 c3 c4 c5 c6 c7 c8 c9 hpo
      have HPO := Lib.hid (put_walk wr o hpo.2 (HE2.out.next HB3.out))
      rw [hpo.1] at HPO
      unfold opV opC at HPO
      clear hpo
      go_wp2_with fail
      go_at_call 11
      refine HPO.out.mono ?_
      rintro e w3 ⟨rfl, hb⟩
      have HB4 := Lib.hid (HB3.out.trans (hb.mono HB3.out.size))
      clear hb c0 c1 c2 c3 c4 c5 c6 c7 c8 c9
      go_wp2
      go_roundw
      case rel => exact ⟨j + 1, by omega, by go_num, HB4.out⟩
      case measure => simp [intOf]; omega
    · obtain rfl : j = 4 := by omega
      obtain ⟨w4, rfl⟩ : ∃ w4, w4 = wr := ⟨_, rfl⟩
      have HB4 := Lib.hid (HB2.out.trans (HB3.out.mono HB2.out.size))
      have HE4 := Lib.hid (HE2.out.next HB3.out)
      clear HR2 HB3 HB2 HE2 HW2 HB1 HE1 HE HP
      go_wp2_with fail
      go_at_call 14
      refine (HGR.out _ HE4.out).mono ?_
      rintro e w5 ⟨rfl, hb⟩
      have HB5 := Lib.hid (HB4.out.trans (hb.mono HB4.out.size))
      have HE5 := Lib.hid (HE4.out.next hb)
      clear hb
      obtain ⟨W6, hW6⟩ : ∃ W6, W6 = (w5.alloc (.cells #[.int .i64 8, .int .i64 0, .int .i64 20, .int .i64 0, .int .i64 1, .int .i64 0, .int .i64 (-2), .int .u8 0, .int .u8 0, .int .i64 9] 27)).alloc (.cells (badS.map sv).toArray 9) := ⟨_, rfl⟩
      have HB6 := Lib.hid (show Below w.heap.size w W6 by rw [hW6]; exact (HB5.out.alloc HB5.out.size _).alloc (by have := HB5.out.size; simp; omega) _)
      have HE6 := Lib.hid (show Env W6 by rw [hW6]; exact (HE5.out.alloc _).alloc _)
      have HS6 := Lib.hid (show Blk W6 (w5.heap.size + 1) 9 (badS.map sv).toArray by
        have := Blk.new (w5.alloc (.cells #[.int .i64 8, .int .i64 0, .int .i64 20, .int .i64 0, .int .i64 1, .int .i64 0, .int .i64 (-2), .int .u8 0, .int .u8 0, .int .i64 9] 27)) 9 (badS.map sv).toArray
        rw [← hW6] at this
        simpa using this)
      simp only [badS, List.map_cons, List.map_nil, sv] at hW6
      have HW6 := Lib.hid hW6
      clear hW6
      go_wp2
      rw [← HW6.out]
      go_loopw [10] (fun i wr => ∃ j : Nat, j ≤ 15 ∧ i = .int .i64 j ∧ Below W6.heap.size W6 wr) (fun i _ => 15 - (intOf i).toNat)
      case atStart => exact ⟨0, Nat.zero_le _, rfl, Below.refl _ _⟩
      case round =>
        obtain ⟨j, hj, rfl, hb⟩ := hrel
        have HB7 := Lib.hid hb
        clear hb
        by_cases hlt : j < 15
        · have c0 := strs_at (HS6.out.below HB7.out HS6.out.lt) (i := j) hlt
          have HG := Lib.hid (HGB.out j hlt wr (HE6.out.next HB7.out))
          have hltI : (j : Int) < 15 := by omega
          generalize badS.getD j [] = x at c0 HG
          go_wp2_with fail
          go_at_call 14
          refine HG.out.mono ?_
          rintro e w8 ⟨rfl, hb⟩
          have HB8 := Lib.hid (let x := HB7.out.trans (hb.mono HB7.out.size); x.alloc x.size (.cells #[.int .i64 0, .int .i64 0, .int .i64 0, .int .i64 0, .int .i64 0, .int .i64 0, .int .i64 0, .int .u8 0, .int .u8 0, .int .i64 0] 27))
          clear hb c0
          go_wp2
          go_roundw
          case rel => exact ⟨j + 1, by omega, by go_num, HB8.out⟩
          case measure => simp [intOf]; omega
        · obtain rfl : j = 15 := by omega
          obtain ⟨w9, rfl⟩ : ∃ w9, w9 = wr := ⟨_, rfl⟩
          have HB9 := Lib.hid (HB6.out.trans (HB7.out.mono HB6.out.size))
          have HE9 := Lib.hid (HE6.out.next HB7.out)
          clear HS6 HB7 HB6 HE6 HW6 HB5 HE5 HB4 HE4 HGB HGR
          have HE10 := Lib.hid (HE9.out.alloc (.cells bigZ 5))
          have HB10 := Lib.hid (HB9.out.alloc HB9.out.size (.cells bigZ 5))
          go_wp2_with fail
          go_at_call 14
          refine (HGZ.out _ HE10.out).mono ?_
          rintro e w11 ⟨rfl, hb⟩
          have HB11 := Lib.hid (let x := HB10.out.trans (hb.mono HB10.out.size); x.alloc x.size (.cells #[.int .i64 0, .int .i64 0, .int .i64 0, .int .i64 0, .int .i64 0, .int .i64 0, .int .i64 0, .int .u8 0, .int .u8 0, .int .i64 0] 27))
          have HE11 := Lib.hid ((HE10.out.next hb).alloc (.cells #[.int .i64 0, .int .i64 0, .int .i64 0, .int .i64 0, .int .i64 0, .int .i64 0, .int .i64 0, .int .u8 0, .int .u8 0, .int .i64 0] 27))
          clear hb
          go_wp2_with fail
          go_at_call 16
          refine (HA1.out _ HE11.out).mono ?_
          rintro e w12 ⟨rfl, hb⟩
          have HB12 := Lib.hid (HB11.out.trans (hb.mono HB11.out.size))
          have HE12 := Lib.hid (HE11.out.next hb)
          clear hb
          go_wp2_with fail
          go_at_call 16
          refine (HA2.out _ HE12.out).mono ?_
          rintro e w13 ⟨rfl, hb⟩
          have HB13 := Lib.hid (HB12.out.trans (hb.mono HB12.out.size))
          have HE13 := Lib.hid (HE12.out.next hb)
          clear hb
          go_wp2_with fail
          go_at_call 16
          refine (HA3.out _ HE13.out).mono ?_
          rintro e w14 ⟨rfl, hb⟩
          have HB14 := Lib.hid (HB13.out.trans (hb.mono HB13.out.size))
          have HE14 := Lib.hid (HE13.out.next hb)
          clear hb
          go_wp2_with fail
          go_at_call 16
          refine (HA4.out _ HE14.out).mono ?_
          rintro e w15 ⟨rfl, hb⟩
          have HB15 := Lib.hid (HB14.out.trans (hb.mono HB14.out.size))
          have HE15 := Lib.hid (HE14.out.next hb)
          clear hb
          go_wp2_with fail
          go_at_call 14
          refine (HGT.out _ HE15.out).mono ?_
          rintro e w16 ⟨rfl, hb⟩
          have HB16 := Lib.hid (let x := HB15.out.trans (hb.mono HB15.out.size); x.alloc x.size (.cells #[.int .i64 6, .int .i64 0, .int .i64 0, .int .i64 0, .int .i64 0, .int .i64 0, .int .i64 0, .int .u8 0, .int .u8 0, .int .i64 (-9223372036854775808)] 27))
          have HE16 := Lib.hid ((HE15.out.next hb).alloc (.cells #[.int .i64 6, .int .i64 0, .int .i64 0, .int .i64 0, .int .i64 0, .int .i64 0, .int .i64 0, .int .u8 0, .int .u8 0, .int .i64 (-9223372036854775808)] 27))
          clear hb
          go_wp2_with (go_at_call 13; (with_reducible refine (HWK.out _ HE16.out).mono ?_); rintro e w17 ⟨rfl, hb⟩)
          go_ret
          exact ⟨rfl, HB16.out.trans (hb.mono HB16.out.size)⟩
end Go.Proofs.YtjbhkmpabajeoaaDoor
