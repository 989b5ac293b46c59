/- AnchorHangs: the walk. -/
import Derived.Test.YtokmbnmhdicljaaAAwake
namespace Go.Proofs.Ytokmbnmhdicljaa
open Go.RowKit

theorem cmpS_m1 {a b : Sp} (h : ltS a b) : cmpS a b = -1 := by
  unfold cmpS cmp1
  unfold ltS at h
  repeat' split
  all_goals omega
theorem maySpot_lit (w : World) (s : Sp) (h : maySpot s = true) : Calls Try.prog 18 #[spV s] w fun e w' => e = .returned (.bool true) ∧ Below w.heap.size w w' := h ▸ maySpot_any w s
theorem cmpSpot_lit (w : World) (a b : Sp) (h : ltS a b) : Calls Try.prog 19 #[spV a, spV b] w fun e w' => e = .returned (.int .i64 (-1)) ∧ Below w.heap.size w w' := cmpS_m1 h ▸ cmpSpot_below w a b
theorem spotOf_may {q : Sp} {h : Sp} (e : spotOf q = (h, true)) : maySpot h = true := by
  unfold spotOf at e
  split at e
  · rename_i hm
    have hb : -1048576 ≤ q.1 ∧ q.1 < 1048576 ∧ -1048576 ≤ q.2.2 ∧ q.2.2 < 1048576 ∧ 0 ≤ q.2.1 ∧ q.2.1 < 64 := by simpa [mayP] using hm
    injection e with e _
    subst e
    rw [maySpot_iff]
    simp only
    omega
  · cases e
theorem in_home {h : Sp} (e : maySpot h = true) (b : An) : inS (h, true) b h = true := by
  unfold inS near
  rw [e]
  simp
  exact .inl (by omega)
theorem in_home' {h : Sp} (e : maySpot h = true) (b : An) : inS b (h, true) h = true := by rw [inS_swap]; exact in_home e b
theorem in_true (w : World) (a b : An) (s : Sp) (ha : AnOk a) (hb : AnOk b) (h : inS a b s = true) :
    Calls Try.prog 10 #[.agg #[.int .i64 a.1.1, .int .i64 a.1.2.1, .int .i64 a.1.2.2, .bool a.2, .int .i64 b.1.1, .int .i64 b.1.2.1, .int .i64 b.1.2.2, .bool b.2], spV s] w fun e w' => e = .returned (.bool true) ∧ Below w.heap.size w w' := h ▸ aIn_any w a b s ha hb
theorem put_is (w : World) (s t : Sp) (o p : Bool) (id : Int) (q : Sp) (h1 : -9223372036854775808 ≤ id ∧ id ≤ 9223372036854775807) (x y : An) (n : Int) (h : putA (s, o) (t, p) id q = (x, y, n)) :
    Calls Try.prog 13 #[.agg #[.int .i64 s.1, .int .i64 s.2.1, .int .i64 s.2.2, .bool o, .int .i64 t.1, .int .i64 t.2.1, .int .i64 t.2.2, .bool p], .int .i64 id, .agg #[.int .i64 q.1, .int .i64 q.2.1, .int .i64 q.2.2]] w fun e w' => e = .returned (.tuple #[.agg #[.int .i64 x.1.1, .int .i64 x.1.2.1, .int .i64 x.1.2.2, .bool x.2, .int .i64 y.1.1, .int .i64 y.1.2.1, .int .i64 y.1.2.2, .bool y.2], .int .i64 n]) ∧ Below w.heap.size w w' := by
  have k := aPut_any w s t o p id q h1.1 h1.2
  rw [h] at k
  exact k
theorem put_bad (w : World) (s t : Sp) (o p : Bool) (id : Int) (q : Sp) (h1 : -9223372036854775808 ≤ id ∧ id ≤ 9223372036854775807) (n : Int) (h : putA (s, o) (t, p) id q = (zeroA, zeroA, n)) :
    Calls Try.prog 13 #[.agg #[.int .i64 s.1, .int .i64 s.2.1, .int .i64 s.2.2, .bool o, .int .i64 t.1, .int .i64 t.2.1, .int .i64 t.2.2, .bool p], .int .i64 id, .agg #[.int .i64 q.1, .int .i64 q.2.1, .int .i64 q.2.2]] w fun e w' => e = .returned (.tuple #[.agg #[.int .i64 0, .int .i64 0, .int .i64 0, .bool false, .int .i64 0, .int .i64 0, .int .i64 0, .bool false], .int .i64 n]) ∧ Below w.heap.size w w' := put_is w s t o p id q h1 zeroA zeroA n h
theorem lift_is (w : World) (s t : Sp) (o p : Bool) (id : Int) (h1 : -9223372036854775808 ≤ id ∧ id ≤ 9223372036854775807) (x y : An) (n : Int) (h : liftA (s, o) (t, p) id = (x, y, n)) :
    Calls Try.prog 15 #[.agg #[.int .i64 s.1, .int .i64 s.2.1, .int .i64 s.2.2, .bool o, .int .i64 t.1, .int .i64 t.2.1, .int .i64 t.2.2, .bool p], .int .i64 id] w fun e w' => e = .returned (.tuple #[.agg #[.int .i64 x.1.1, .int .i64 x.1.2.1, .int .i64 x.1.2.2, .bool x.2, .int .i64 y.1.1, .int .i64 y.1.2.1, .int .i64 y.1.2.2, .bool y.2], .int .i64 n]) ∧ Below w.heap.size w w' := by
  have k := aLift_any w s t o p id h1.1 h1.2
  rw [h] at k
  exact k
theorem spot_is (w : World) (q h : Sp) (e : spotOf q = (h, true)) : Calls Try.prog 20 #[.agg #[.int .i64 q.1, .int .i64 q.2.1, .int .i64 q.2.2]] w fun e w' => e = .returned (.tuple #[.agg #[.int .i64 h.1, .int .i64 h.2.1, .int .i64 h.2.2], .bool true]) ∧ Below w.heap.size w w' := by
  have k := spot_any w q
  rw [e] at k
  exact k
theorem put_cases (a b : An) (id : Int) (q : Sp) : (∃ n, n ≠ 0 ∧ putA a b id q = (zeroA, zeroA, n)) ∨ ((id = 0 ∨ id = 1) ∧ ∃ h, spotOf q = (h, true)) := by
  unfold putA
  by_cases h : id = 0 ∨ id = 1
  · rw [if_pos h]
    cases hs : spotOf q with
    | mk h0 ok =>
      cases ok with
      | true => exact .inr ⟨h, h0, rfl⟩
      | false => exact .inl ⟨10, by decide, rfl⟩
  · rw [if_neg h]
    exact .inl ⟨2, by decide, rfl⟩
set_option maxRecDepth 100000 in
set_option maxHeartbeats 8000000 in
theorem hangs_walk (w : World) (s t : Sp) (o p : Bool) (id : Int) (q : Sp) (h1 : -9223372036854775808 ≤ id) (h2 : id ≤ 9223372036854775807) (ha : AnOk (s, o)) (hb : AnOk (t, p)) :
    Calls Try.prog 6 #[.agg #[.int .i64 s.1, .int .i64 s.2.1, .int .i64 s.2.2, .bool o, .int .i64 t.1, .int .i64 t.2.1, .int .i64 t.2.2, .bool p], .int .i64 id, .agg #[.int .i64 q.1, .int .i64 q.2.1, .int .i64 q.2.2]] w fun e w' => e = .returned (.bool true) ∧ Below w.heap.size w w' := by
  have HID := Lib.hid (And.intro h1 h2)
  have HA := Lib.hid ha
  have HB := Lib.hid hb
  have HB0 := Lib.hid (below_two w (.cells #[.int .i64 s.1, .int .i64 s.2.1, .int .i64 s.2.2, .bool o, .int .i64 t.1, .int .i64 t.2.1, .int .i64 t.2.2, .bool p] 26) (.cells #[.int .i64 q.1, .int .i64 q.2.1, .int .i64 q.2.2] 32))
  have hs1 : (w.alloc (.cells #[.int .i64 s.1, .int .i64 s.2.1, .int .i64 s.2.2, .bool o, .int .i64 t.1, .int .i64 t.2.1, .int .i64 t.2.2, .bool p] 26)).heap.size = w.heap.size + 1 := by simp
  have HL0 := Lib.hid ((Blk.new w 26 #[.int .i64 s.1, .int .i64 s.2.1, .int .i64 s.2.2, .bool o, .int .i64 t.1, .int .i64 t.2.1, .int .i64 t.2.2, .bool p]).alloc (.cells #[.int .i64 q.1, .int .i64 q.2.1, .int .i64 q.2.2] 32))
  have HQ0 := Lib.hid (show Blk _ (w.heap.size + 1) _ _ from hs1 ▸ Blk.new (w.alloc (.cells #[.int .i64 s.1, .int .i64 s.2.1, .int .i64 s.2.2, .bool o, .int .i64 t.1, .int .i64 t.2.1, .int .i64 t.2.2, .bool p] 26)) 32 #[.int .i64 q.1, .int .i64 q.2.1, .int .i64 q.2.2])
  obtain ⟨k, hk⟩ : ∃ k, k = (spotsL (s, o) (t, p)).length := ⟨_, rfl⟩
  have HSP := Lib.hid (spots_at ((w.alloc (.cells #[.int .i64 s.1, .int .i64 s.2.1, .int .i64 s.2.2, .bool o, .int .i64 t.1, .int .i64 t.2.1, .int .i64 t.2.2, .bool p] 26)).alloc (.cells #[.int .i64 q.1, .int .i64 q.2.1, .int .i64 q.2.2] 32)) (s, o) (t, p) ha hb)
  have HSW := Lib.hid (fun w => spots_at w (t, p) (s, o) hb ha)
  rw [spotsL_swap (t, p) (s, o)] at HSW
  rw [← hk] at HSP HSW
  have k4 : (k : Int) % 4 = 0 := by have := spotsL_four (s, o) (t, p); rw [← hk] at this; omega
  have k4' : (k : Int).tmod 4 = 0 := by rw [Int.tmod_eq_emod_of_nonneg (by omega)]; exact k4
  have k72 : k ≤ 72 := by have := spotsL_72 (s, o) (t, p); rw [← hk] at this; exact this
  have HKL := Lib.hid hk
  clear hs1 h1 h2 ha hb hk
  go_enter Try.func6, Try.ntmps6
  go_wp2_with fail
  go_at_call 7
  refine HSP.out.mono ?_
  rintro e w1 ⟨⟨ao, c, rfl, hc1, hc2, hrow⟩, hb1⟩
  have HB1 := Lib.hid (HB0.out.trans (hb1.mono HB0.out.size))
  have HL1 := Lib.hid (HL0.out.below hb1 HL0.out.lt)
  have HQ1 := Lib.hid (HQ0.out.below hb1 HQ0.out.lt)
  have HS1 := Lib.hid (row_sat hrow).1
  clear hb1 hrow
  obtain ⟨⟨a0, a1, a2, a3, a4, a5, a6, a7⟩, -⟩ := HL1.out.eight
  go_wp2_with fail
  go_at_call 7
  refine (HSW.out _).mono ?_
  rintro e w2 ⟨⟨ao', c', rfl, hc1', hc2', hrow⟩, hb2⟩
  have HB2 := Lib.hid (HB1.out.trans (hb2.mono HB1.out.size))
  have HL2 := Lib.hid (HL1.out.below hb2 HL1.out.lt)
  have HQ2 := Lib.hid (HQ1.out.below hb2 HQ1.out.lt)
  have HS2 := Lib.hid (HS1.out.below hb2)
  have HT2 := Lib.hid (row_sat hrow).1
  clear hb2 hrow a0 a1 a2 a3 a4 a5 a6 a7
  have k72' : (k : Int) ≤ 72 := by omega
  go_wp2
  clear k4 k4' hc1 hc2 hc1' hc2'
  go_loopw [9] (fun i wr => ∃ i' : Nat, i' ≤ k ∧ i = .int .i64 (i' : Nat) ∧ Below w2.heap.size w2 wr) (fun i _ => k - (intOf i).toNat)
  case atStart => exact ⟨0, Nat.zero_le _, rfl, Below.refl _ _⟩
  case round =>
    obtain ⟨i, hi, rfl, hbl⟩ := hrel
    have HBL := Lib.hid hbl
    by_cases hik : i < k
    · have l1 : (i : Int) < (k : Int) := by omega
      have hil : i < (spotsL (s, o) (t, p)).length := by rw [← HKL.out]; exact hik
      obtain ⟨b, off, rfl, hb1, c0, c1, c2⟩ := (HS2.out.below hbl).some3 (i := i) hil
      obtain ⟨b', off', rfl, hb1', d0, d1, d2⟩ := (HT2.out.below hbl).some3 (i := i) hil
      have hy := spotsL_y hil
      have HMAY := Lib.hid (show maySpot (nthS (spotsL (s, o) (t, p)) i) = true by
        have := mem_spotsL.1 (nthS_mem hil)
        unfold inS at this
        simp only [Bool.and_eq_true] at this
        exact this.1)
      obtain ⟨u, hu⟩ : ∃ u, u = nthS (spotsL (s, o) (t, p)) i := ⟨_, rfl⟩
      rw [← hu] at c0 c1 c2 d0 d1 d2 hy HMAY
      rw [hy] at c1 d1
      have e4 : (((i % 4 : Nat) : Int)) = (i : Int) % 4 := by omega
      rw [e4] at c1 d1
      have m4 : (i : Int).tmod 4 = (i : Int) % 4 := Int.tmod_eq_emod_of_nonneg (by omega)
      have HMV := Lib.hid (fun w => maySpot_lit w u HMAY.out)
      have C0 := fun (pw : InB wr) => pw.cell c0 hb1
      have C1 := fun (pw : InB wr) => pw.cell c1 hb1
      have C2 := fun (pw : InB wr) => pw.cell c2 hb1
      have D0 := fun (pw : InB wr) => pw.cell d0 hb1'
      have D1 := fun (pw : InB wr) => pw.cell d1 hb1'
      have D2 := fun (pw : InB wr) => pw.cell d2 hb1'
      have hU : spV u = .agg #[.int .i64 u.1, .int .i64 ((i : Int) % 4), .int .i64 u.2.2] := by rw [← e4, ← hy]
      have HUU := Lib.hid hU
      have HU := Lib.hid hu
      clear hbl d0 d1 d2 hy e4 hu hU hb1'
      by_cases h0 : i = 0
      · subst h0
        clear c0 c1 c2 hb1 hil
        rw [show (((0 : Nat) : Int)) = 0 from rfl] at *
        simp only [Nat.zero_mul, Nat.add_zero] at C0 C1 C2 D0 D1 D2
        rw [HUU.out] at HMV
        go_wp2
        refine wp_region_quiet_below (by kernel_rfl) (by kernel_rfl) ?_
        repeat (go_big_quiet_step ((go_at_call 18; exact calls_below (HMV.out _))))
        refine wpQuiet_nil ?_
        intro _ hw'
        obtain ⟨⟨wq, hbq⟩, hw''⟩ := hw'
        subst hw''
        have HBQ := Lib.hid (HBL.out.trans (hbq.mono HBL.out.size))
        clear C0 C1 C2 D0 D1 D2 hbq m4
        go_wp2
        go_roundw
        case rel => exact ⟨1, by omega, rfl, HBQ.out⟩
        case measure => simp [intOf]; omega
      · obtain ⟨j, hj⟩ : ∃ j, i = j + 1 := ⟨i - 1, by omega⟩
        have hjl : j < (spotsL (s, o) (t, p)).length := by omega
        obtain ⟨-, p0, p1, p2⟩ := (HS2.out.below HBL.out).cells3 (i := j) hjl
        have hlt : ltS (nthS (spotsL (s, o) (t, p)) j) u := by rw [HU.out]; exact (asc_spotsL _ _).at_ (by omega) hil
        obtain ⟨z, hz⟩ : ∃ z, z = nthS (spotsL (s, o) (t, p)) j := ⟨_, rfl⟩
        rw [← hz] at p0 p1 p2 hlt
        have HCM := Lib.hid (fun w => cmpSpot_lit w z u hlt)
        rw [HUU.out] at HCM HMV
        have P0 := fun (pw : InB wr) => pw.cell p0 hb1
        have P1 := fun (pw : InB wr) => pw.cell p1 hb1
        have P2 := fun (pw : InB wr) => pw.cell p2 hb1
        have j1 : (i : Int) - 1 = (j : Int) := by omega
        have l2 : (j : Int) < (k : Int) := by omega
        have l3 : 0 < (i : Int) := by omega
        have l4 : 0 < i := by omega
        clear c0 c1 c2 p0 p1 p2 hb1 hil hjl hlt hz hj h0
        go_wp2
        refine wp_region_quiet_below (by kernel_rfl) (by kernel_rfl) ?_
        repeat (go_big_quiet_step ((first | (go_at_call 18; exact calls_below (HMV.out _)) | (go_at_call 19; exact calls_below (HCM.out _)))))
        refine wpQuiet_nil ?_
        intro _ hw'
        obtain ⟨⟨wq, hbq⟩, hw''⟩ := hw'
        subst hw''
        have HBQ := Lib.hid (HBL.out.trans (hbq.mono HBL.out.size))
        clear C0 C1 C2 D0 D1 D2 P0 P1 P2 hbq m4 j1
        go_wp2
        go_roundw
        case rel => exact ⟨i + 1, by omega, by go_num, HBQ.out⟩
        case measure => simp [intOf]; omega
    · obtain rfl : i = k := by omega
      have HBB := Lib.hid (HB2.out.trans (hbl.mono HB2.out.size))
      have HLL := Lib.hid (HL2.out.below hbl HL2.out.lt)
      have HQQ := Lib.hid (HQ2.out.below hbl HQ2.out.lt)
      clear hbl hik
      obtain ⟨⟨a0, a1, a2, a3, a4, a5, a6, a7⟩, -⟩ := HLL.out.eight
      obtain ⟨b0, b1, b2, -⟩ := HQQ.out.three
      rcases put_cases (s, o) (t, p) id q with ⟨n, hn, hput⟩ | ⟨hid, h, hsp⟩
      · have HP := Lib.hid (put_bad wr s t o p id q HID.out _ hput)
        have hEq := eq_two zeroA zeroA (ok_lit _ _ _ _ (by decide)) (ok_lit _ _ _ _ (by decide))
        change ∀ w, (Op.equalIn 10000 26 (.agg #[.int .i64 0, .int .i64 0, .int .i64 0, .bool false, .int .i64 0, .int .i64 0, .int .i64 0, .bool false]) (.agg #[.int .i64 0, .int .i64 0, .int .i64 0, .bool false, .int .i64 0, .int .i64 0, .int .i64 0, .bool false])).run Try.prog w = .ok true w at hEq
        have gn : (n != 0) = true := by simpa using hn
        clear hput hn
        go_wp2_with fail
        go_at_call 13
        refine HP.out.mono ?_
        rintro e w3 ⟨rfl, hb⟩
        have hb' := HBB.out.trans (hb.mono HBB.out.size)
        have HB3 := Lib.hid (hb'.alloc hb'.size (.cells #[.int .i64 0, .int .i64 0, .int .i64 0, .bool false, .int .i64 0, .int .i64 0, .int .i64 0, .bool false] 26))
        clear hb hb' a0 a1 a2 a3 a4 a5 a6 a7 b0 b1 b2
        go_wp2_with fail
        go_at_call 12
        refine (awake_any _).mono ?_
        rintro e w4 ⟨rfl, hb⟩
        have HB4 := Lib.hid (HB3.out.trans (hb.mono HB3.out.size))
        clear hb
        go_wp2
        go_ret
        exact ⟨rfl, HB4.out⟩
      · have HM := Lib.hid (spotOf_may hsp)
        have HSPO := Lib.hid hsp
        clear hsp
        rcases hid with rfl | rfl
        · have hbit : bits BinOp.and IntKind.i64 0 1 = 0 := by decide
          have HP := Lib.hid (put_is wr s t o p 0 q (by decide) (h, true) (t, p) 0 (by unfold putA; rw [HSPO.out]; rfl))
          have HSO := Lib.hid (fun w => spot_is w q h HSPO.out)
          have HOH := Lib.hid (show AnOk (h, true) from SpOk.of_may HM.out)
          have HIN := Lib.hid (fun w => in_true w (h, true) (t, p) h HOH.out HB.out (in_home HM.out _))
          go_wp2_with fail
          go_at_call 13
          refine HP.out.mono ?_
          rintro e w3 ⟨rfl, hb⟩
          have hb' := HBB.out.trans (hb.mono HBB.out.size)
          have HB3 := Lib.hid (hb'.alloc hb'.size (.cells #[.int .i64 h.1, .int .i64 h.2.1, .int .i64 h.2.2, .bool true, .int .i64 t.1, .int .i64 t.2.1, .int .i64 t.2.2, .bool p] 26))
          have HL3 := Lib.hid ((HLL.out.below hb HLL.out.lt).alloc (.cells #[.int .i64 h.1, .int .i64 h.2.1, .int .i64 h.2.2, .bool true, .int .i64 t.1, .int .i64 t.2.1, .int .i64 t.2.2, .bool p] 26))
          have HQ3 := Lib.hid ((HQQ.out.below hb HQQ.out.lt).alloc (.cells #[.int .i64 h.1, .int .i64 h.2.1, .int .i64 h.2.2, .bool true, .int .i64 t.1, .int .i64 t.2.1, .int .i64 t.2.2, .bool p] 26))
          have HA3 := Lib.hid (Blk.new w3 26 #[.int .i64 h.1, .int .i64 h.2.1, .int .i64 h.2.2, .bool true, .int .i64 t.1, .int .i64 t.2.1, .int .i64 t.2.2, .bool p])
          clear hb hb' a0 a1 a2 a3 a4 a5 a6 a7 b0 b1 b2
          obtain ⟨b0, b1, b2, -⟩ := HQ3.out.three
          go_wp2_with fail
          go_at_call 20
          refine (HSO.out _).mono ?_
          rintro e w4 ⟨rfl, hb⟩
          obtain ⟨W4, hW4⟩ : ∃ W4 : World, W4 = w4.alloc (.cells #[.int .i64 h.1, .int .i64 h.2.1, .int .i64 h.2.2] 23) := ⟨_, rfl⟩
          have hb' := HB3.out.trans (hb.mono HB3.out.size)
          have HB4 := Lib.hid (show Below w.heap.size w W4 by rw [hW4]; exact hb'.alloc hb'.size _)
          have hl4 := show Blk W4 _ _ _ by rw [hW4]; exact (HL3.out.below hb HL3.out.lt).alloc (.cells #[.int .i64 h.1, .int .i64 h.2.1, .int .i64 h.2.2] 23)
          have ha4 := show Blk W4 _ _ _ by rw [hW4]; exact (HA3.out.below hb HA3.out.lt).alloc (.cells #[.int .i64 h.1, .int .i64 h.2.1, .int .i64 h.2.2] 23)
          have hh4 := show Blk W4 _ _ _ by rw [hW4]; exact Blk.new w4 23 #[.int .i64 h.1, .int .i64 h.2.1, .int .i64 h.2.2]
          have HL4 := Lib.hid hl4
          have HA4 := Lib.hid ha4
          obtain ⟨⟨l0, l1, l2, l3, l4, l5, l6, l7⟩, -⟩ := hl4.eight
          obtain ⟨⟨a0, a1, a2, a3, a4, a5, a6, a7⟩, -⟩ := ha4.eight
          obtain ⟨m0, m1, m2, -⟩ := hh4.three
          have ll := hl4.lt
          have la := ha4.lt
          have lm := hh4.lt
          clear hb hb' b0 b1 b2 hl4 ha4 hh4
          have A0 := fun (pw : InB W4) => pw.cell a0 la
          have A1 := fun (pw : InB W4) => pw.cell a1 la
          have A2 := fun (pw : InB W4) => pw.cell a2 la
          have A3 := fun (pw : InB W4) => pw.cell a3 la
          have A4 := fun (pw : InB W4) => pw.cell a4 la
          have A5 := fun (pw : InB W4) => pw.cell a5 la
          have A6 := fun (pw : InB W4) => pw.cell a6 la
          have A7 := fun (pw : InB W4) => pw.cell a7 la
          have L4 := fun (pw : InB W4) => pw.cell l4 ll
          have L5 := fun (pw : InB W4) => pw.cell l5 ll
          have L6 := fun (pw : InB W4) => pw.cell l6 ll
          have L7 := fun (pw : InB W4) => pw.cell l7 ll
          have M0 := fun (pw : InB W4) => pw.cell m0 lm
          have M1 := fun (pw : InB W4) => pw.cell m1 lm
          have M2 := fun (pw : InB W4) => pw.cell m2 lm
          have hEq := eq_an (t, p) HB.out
          go_wp2
          rw [← hW4]
          refine wp_region_quiet_below (by kernel_rfl) (by kernel_rfl) ?_
          repeat (go_big_quiet_step ((go_at_call 10; exact calls_below (HIN.out _))))
          refine wpQuiet_nil ?_
          intro w5 hw'
          obtain ⟨⟨wq, hbq⟩, hw''⟩ := hw'
          subst hw''
          have HB5 := Lib.hid (HB4.out.trans (hbq.mono HB4.out.size))
          have HL5 := Lib.hid (HL4.out.below hbq HL4.out.lt)
          have HA5 := Lib.hid (HA4.out.below hbq HA4.out.lt)
          clear hbq A0 A1 A2 A3 A4 A5 A6 A7 L4 L5 L6 L7 M0 M1 M2 hEq ll la lm l0 l1 l2 l3 l4 l5 l6 l7 a0 a1 a2 a3 a4 a5 a6 a7 m0 m1 m2
          obtain ⟨⟨a0, a1, a2, a3, a4, a5, a6, a7⟩, -⟩ := HA5.out.eight
          have HLI := Lib.hid (show Calls Try.prog 15 #[.agg #[.int .i64 h.1, .int .i64 h.2.1, .int .i64 h.2.2, .bool true, .int .i64 t.1, .int .i64 t.2.1, .int .i64 t.2.2, .bool p], .int .i64 0] w5 fun e w' => e = .returned (.tuple #[.agg #[.int .i64 0, .int .i64 0, .int .i64 0, .bool false, .int .i64 t.1, .int .i64 t.2.1, .int .i64 t.2.2, .bool p], .int .i64 0]) ∧ Below w5.heap.size w5 w' from lift_is w5 h t true p 0 (by decide) zeroA (t, p) 0 rfl)
          go_wp2_with fail
          go_at_call 15
          refine HLI.out.mono ?_
          rintro e w6 ⟨rfl, hb⟩
          have hb' := HB5.out.trans (hb.mono HB5.out.size)
          have hb2 := hb'.alloc hb'.size (.cells #[.int .i64 0, .int .i64 0, .int .i64 0, .bool false, .int .i64 t.1, .int .i64 t.2.1, .int .i64 t.2.2, .bool p] 26)
          have HB6 := Lib.hid (hb2.alloc hb2.size (.cells #[.int .i64 0, .int .i64 0, .int .i64 0, .bool false, .int .i64 t.1, .int .i64 t.2.1, .int .i64 t.2.2, .bool p] 26))
          have hl6 := ((HL5.out.below hb HL5.out.lt).alloc (.cells #[.int .i64 0, .int .i64 0, .int .i64 0, .bool false, .int .i64 t.1, .int .i64 t.2.1, .int .i64 t.2.2, .bool p] 26)).alloc (.cells #[.int .i64 0, .int .i64 0, .int .i64 0, .bool false, .int .i64 0, .int .i64 0, .int .i64 0, .bool false] 26)
          obtain ⟨⟨l0, l1, l2, l3, l4, l5, l6, l7⟩, -⟩ := hl6.eight
          have hEq2 : ∀ w, (Op.equalIn 10000 26 (.agg #[.int .i64 0, .int .i64 0, .int .i64 0, .bool false, .int .i64 t.1, .int .i64 t.2.1, .int .i64 t.2.2, .bool p]) (.agg #[.int .i64 0, .int .i64 0, .int .i64 0, .bool false, .int .i64 t.1, .int .i64 t.2.1, .int .i64 t.2.2, .bool p])).run Try.prog w = .ok true w := eq_two zeroA (t, p) (ok_lit _ _ _ _ (by decide)) HB.out
          clear hb hb' hb2 hl6 a0 a1 a2 a3 a4 a5 a6 a7
          go_wp2_with fail
          go_at_call 12
          refine (awake_any _).mono ?_
          rintro e w7 ⟨rfl, hb⟩
          have HB7 := Lib.hid (HB6.out.trans (hb.mono HB6.out.size))
          clear hb hEq2 l0 l1 l2 l3 l4 l5 l6 l7
          go_wp2
          go_ret
          exact ⟨rfl, HB7.out⟩
        · have hbit : bits BinOp.and IntKind.i64 1 1 = 1 := by decide
          have HP := Lib.hid (put_is wr s t o p 1 q (by decide) (s, o) (h, true) 0 (by unfold putA; rw [HSPO.out]; rfl))
          have HSO := Lib.hid (fun w => spot_is w q h HSPO.out)
          have HOH := Lib.hid (show AnOk (h, true) from SpOk.of_may HM.out)
          have HIN := Lib.hid (fun w => in_true w (s, o) (h, true) h HA.out HOH.out (in_home' HM.out _))
          go_wp2_with fail
          go_at_call 13
          refine HP.out.mono ?_
          rintro e w3 ⟨rfl, hb⟩
          have hb' := HBB.out.trans (hb.mono HBB.out.size)
          have HB3 := Lib.hid (hb'.alloc hb'.size (.cells #[.int .i64 s.1, .int .i64 s.2.1, .int .i64 s.2.2, .bool o, .int .i64 h.1, .int .i64 h.2.1, .int .i64 h.2.2, .bool true] 26))
          have HL3 := Lib.hid ((HLL.out.below hb HLL.out.lt).alloc (.cells #[.int .i64 s.1, .int .i64 s.2.1, .int .i64 s.2.2, .bool o, .int .i64 h.1, .int .i64 h.2.1, .int .i64 h.2.2, .bool true] 26))
          have HQ3 := Lib.hid ((HQQ.out.below hb HQQ.out.lt).alloc (.cells #[.int .i64 s.1, .int .i64 s.2.1, .int .i64 s.2.2, .bool o, .int .i64 h.1, .int .i64 h.2.1, .int .i64 h.2.2, .bool true] 26))
          have HA3 := Lib.hid (Blk.new w3 26 #[.int .i64 s.1, .int .i64 s.2.1, .int .i64 s.2.2, .bool o, .int .i64 h.1, .int .i64 h.2.1, .int .i64 h.2.2, .bool true])
          clear hb hb' a0 a1 a2 a3 a4 a5 a6 a7 b0 b1 b2
          obtain ⟨b0, b1, b2, -⟩ := HQ3.out.three
          go_wp2_with fail
          go_at_call 20
          refine (HSO.out _).mono ?_
          rintro e w4 ⟨rfl, hb⟩
          obtain ⟨W4, hW4⟩ : ∃ W4 : World, W4 = w4.alloc (.cells #[.int .i64 h.1, .int .i64 h.2.1, .int .i64 h.2.2] 23) := ⟨_, rfl⟩
          have hb' := HB3.out.trans (hb.mono HB3.out.size)
          have HB4 := Lib.hid (show Below w.heap.size w W4 by rw [hW4]; exact hb'.alloc hb'.size _)
          have hl4 := show Blk W4 _ _ _ by rw [hW4]; exact (HL3.out.below hb HL3.out.lt).alloc (.cells #[.int .i64 h.1, .int .i64 h.2.1, .int .i64 h.2.2] 23)
          have ha4 := show Blk W4 _ _ _ by rw [hW4]; exact (HA3.out.below hb HA3.out.lt).alloc (.cells #[.int .i64 h.1, .int .i64 h.2.1, .int .i64 h.2.2] 23)
          have hh4 := show Blk W4 _ _ _ by rw [hW4]; exact Blk.new w4 23 #[.int .i64 h.1, .int .i64 h.2.1, .int .i64 h.2.2]
          have HL4 := Lib.hid hl4
          have HA4 := Lib.hid ha4
          obtain ⟨⟨l0, l1, l2, l3, l4, l5, l6, l7⟩, -⟩ := hl4.eight
          obtain ⟨⟨a0, a1, a2, a3, a4, a5, a6, a7⟩, -⟩ := ha4.eight
          obtain ⟨m0, m1, m2, -⟩ := hh4.three
          have ll := hl4.lt
          have la := ha4.lt
          have lm := hh4.lt
          clear hb hb' b0 b1 b2 hl4 ha4 hh4
          have A0 := fun (pw : InB W4) => pw.cell a0 la
          have A1 := fun (pw : InB W4) => pw.cell a1 la
          have A2 := fun (pw : InB W4) => pw.cell a2 la
          have A3 := fun (pw : InB W4) => pw.cell a3 la
          have A4 := fun (pw : InB W4) => pw.cell a4 la
          have A5 := fun (pw : InB W4) => pw.cell a5 la
          have A6 := fun (pw : InB W4) => pw.cell a6 la
          have A7 := fun (pw : InB W4) => pw.cell a7 la
          have L0 := fun (pw : InB W4) => pw.cell l0 ll
          have L1 := fun (pw : InB W4) => pw.cell l1 ll
          have L2 := fun (pw : InB W4) => pw.cell l2 ll
          have L3 := fun (pw : InB W4) => pw.cell l3 ll
          have M0 := fun (pw : InB W4) => pw.cell m0 lm
          have M1 := fun (pw : InB W4) => pw.cell m1 lm
          have M2 := fun (pw : InB W4) => pw.cell m2 lm
          have hEq := eq_an (s, o) HA.out
          go_wp2
          rw [← hW4]
          refine wp_region_quiet_below (by kernel_rfl) (by kernel_rfl) ?_
          repeat (go_big_quiet_step ((go_at_call 10; exact calls_below (HIN.out _))))
          refine wpQuiet_nil ?_
          intro w5 hw'
          obtain ⟨⟨wq, hbq⟩, hw''⟩ := hw'
          subst hw''
          have HB5 := Lib.hid (HB4.out.trans (hbq.mono HB4.out.size))
          have HL5 := Lib.hid (HL4.out.below hbq HL4.out.lt)
          have HA5 := Lib.hid (HA4.out.below hbq HA4.out.lt)
          clear hbq A0 A1 A2 A3 A4 A5 A6 A7 L0 L1 L2 L3 M0 M1 M2 hEq ll la lm l0 l1 l2 l3 l4 l5 l6 l7 a0 a1 a2 a3 a4 a5 a6 a7 m0 m1 m2
          obtain ⟨⟨a0, a1, a2, a3, a4, a5, a6, a7⟩, -⟩ := HA5.out.eight
          have HLI := Lib.hid (show Calls Try.prog 15 #[.agg #[.int .i64 s.1, .int .i64 s.2.1, .int .i64 s.2.2, .bool o, .int .i64 h.1, .int .i64 h.2.1, .int .i64 h.2.2, .bool true], .int .i64 1] w5 fun e w' => e = .returned (.tuple #[.agg #[.int .i64 s.1, .int .i64 s.2.1, .int .i64 s.2.2, .bool o, .int .i64 0, .int .i64 0, .int .i64 0, .bool false], .int .i64 0]) ∧ Below w5.heap.size w5 w' from lift_is w5 s h o true 1 (by decide) (s, o) zeroA 0 rfl)
          go_wp2_with fail
          go_at_call 15
          refine HLI.out.mono ?_
          rintro e w6 ⟨rfl, hb⟩
          have hb' := HB5.out.trans (hb.mono HB5.out.size)
          have hb2 := hb'.alloc hb'.size (.cells #[.int .i64 s.1, .int .i64 s.2.1, .int .i64 s.2.2, .bool o, .int .i64 0, .int .i64 0, .int .i64 0, .bool false] 26)
          have HB6 := Lib.hid (hb2.alloc hb2.size (.cells #[.int .i64 s.1, .int .i64 s.2.1, .int .i64 s.2.2, .bool o, .int .i64 0, .int .i64 0, .int .i64 0, .bool false] 26))
          have hl6 := ((HL5.out.below hb HL5.out.lt).alloc (.cells #[.int .i64 s.1, .int .i64 s.2.1, .int .i64 s.2.2, .bool o, .int .i64 0, .int .i64 0, .int .i64 0, .bool false] 26)).alloc (.cells #[.int .i64 0, .int .i64 0, .int .i64 0, .bool false, .int .i64 0, .int .i64 0, .int .i64 0, .bool false] 26)
          obtain ⟨⟨l0, l1, l2, l3, l4, l5, l6, l7⟩, -⟩ := hl6.eight
          have hEq2 : ∀ w, (Op.equalIn 10000 26 (.agg #[.int .i64 s.1, .int .i64 s.2.1, .int .i64 s.2.2, .bool o, .int .i64 0, .int .i64 0, .int .i64 0, .bool false]) (.agg #[.int .i64 s.1, .int .i64 s.2.1, .int .i64 s.2.2, .bool o, .int .i64 0, .int .i64 0, .int .i64 0, .bool false])).run Try.prog w = .ok true w := eq_two (s, o) zeroA HA.out (ok_lit _ _ _ _ (by decide))
          clear hb hb' hb2 hl6 a0 a1 a2 a3 a4 a5 a6 a7
          go_wp2_with fail
          go_at_call 12
          refine (awake_any _).mono ?_
          rintro e w7 ⟨rfl, hb⟩
          have HB7 := Lib.hid (HB6.out.trans (hb.mono HB6.out.size))
          clear hb hEq2 l0 l1 l2 l3 l4 l5 l6 l7
          go_wp2
          go_ret
          exact ⟨rfl, HB7.out⟩
end Go.Proofs.Ytokmbnmhdicljaa
