/- The document's In: the walk. -/
import Derived.Test.YtokmbnmhdicljaaARef
namespace Go.Proofs.Ytokmbnmhdicljaa
open Go.RowKit

def I64 (x : Int) : Prop := -9223372036854775808 ≤ x ∧ x ≤ 9223372036854775807
def by1B (x y : Int) : Bool := decide (x - 1 ≤ y ∧ y ≤ x + 1)
set_option maxRecDepth 100000 in
theorem by1_any (w : World) (x y : Int) (hx : I64 x) (hy : I64 y) : Calls Try.prog 25 #[.int .i64 x, .int .i64 y] w fun e w' => e = .returned (.bool (by1B x y)) ∧ w = w' := by
  go_enter Try.func25, Try.ntmps25
  obtain ⟨hx1, hx2⟩ := hx
  obtain ⟨hy1, hy2⟩ := hy
  rcases Int.lt_trichotomy x y with h | h | h
  · have g1 : (x == y) = false := by simp; omega
    have g2 : decide (y < x) = false := by simp; omega
    go_wp2
    all_goals
      go_ret
      exact ⟨ret_bool (by rw [Bool.eq_iff_iff]; simp [by1B]; try omega), rfl⟩
  · subst h
    go_wp2
    all_goals
      go_ret
      exact ⟨ret_bool (by rw [Bool.eq_iff_iff]; simp [by1B]; try omega), rfl⟩
  · have g1 : (x == y) = false := by simp; omega
    have g2 : decide (x < y) = false := by simp; omega
    go_wp2
    all_goals
      go_ret
      exact ⟨ret_bool (by rw [Bool.eq_iff_iff]; simp [by1B]; try omega), rfl⟩
theorem by1_below (w : World) (x y : Int) (hx : I64 x) (hy : I64 y) : Calls Try.prog 25 #[.int .i64 x, .int .i64 y] w fun e w' => e = .returned (.bool (by1B x y)) ∧ Below w.heap.size w w' :=
  (by1_any w x y hx hy).mono fun _ _ ⟨he, hw⟩ => ⟨he, hw ▸ Below.refl _ _⟩
theorem eq_false_or_true (b : Bool) : b = false ∨ b = true := by cases b <;> simp
theorem by1_lit (w : World) (x y : Int) (b : Bool) (hx : I64 x) (hy : I64 y) (h : by1B x y = b) : Calls Try.prog 25 #[.int .i64 x, .int .i64 y] w fun e w' => e = .returned (.bool b) ∧ Below w.heap.size w w' := h ▸ by1_below w x y hx hy
theorem qMaySpot_lit (w : World) (s : Sp) (b : Bool) (h : maySpot s = b) : Calls Try.prog 24 #[spV s] w fun e w' => e = .returned (.bool b) ∧ Below w.heap.size w w' := h ▸ qMaySpot_any w s
theorem near_by1 (x s : Sp) (o : Bool) : near (x, o) s = (o && (by1B x.1 s.1 && by1B x.2.2 s.2.2)) := by
  unfold near by1B
  rw [Bool.eq_iff_iff]
  simp only [Bool.and_eq_true, decide_eq_true_eq]
  constructor <;> (rintro ⟨h, k⟩; exact ⟨h, by omega⟩)
set_option maxRecDepth 100000 in
set_option maxHeartbeats 8000000 in
theorem rIn_any (w : World) (s0 t0 : Sp) (o p : Bool) (s : Sp) (ha : AnOk (s0, o)) (hb : AnOk (t0, p)) (hs : SpOk s) :
    Calls Try.prog 11 #[.agg #[.int .i64 s0.1, .int .i64 s0.2.1, .int .i64 s0.2.2, .bool o, .int .i64 t0.1, .int .i64 t0.2.1, .int .i64 t0.2.2, .bool p], spV s] w fun e w' => e = .returned (.bool (inS (s0, o) (t0, p) s)) ∧ Below w.heap.size w w' := by
  have i1 : I64 s0.1 := ha.1
  have i2 : I64 s0.2.2 := ha.2.2
  have i3 : I64 t0.1 := hb.1
  have i4 : I64 t0.2.2 := hb.2.2
  have i5 : I64 s.1 := hs.1
  have i6 : I64 s.2.2 := hs.2.2
  clear ha hb hs
  obtain ⟨X, hX⟩ : ∃ X : World, X = w.alloc (.cells #[.int .i64 s0.1, .int .i64 s0.2.1, .int .i64 s0.2.2, .bool o, .int .i64 t0.1, .int .i64 t0.2.1, .int .i64 t0.2.2, .bool p] 26) := ⟨_, rfl⟩
  have hxs : X.heap.size = w.heap.size + 1 := by rw [hX]; simp
  have hbx : Below w.heap.size w X := by rw [hX]; exact (Below.refl _ _).alloc (Nat.le_refl _) _
  have HK := Lib.hid (show Blk (X.alloc (.cells #[.int .i64 s.1, .int .i64 s.2.1, .int .i64 s.2.2] 23)) w.heap.size 26 #[.int .i64 s0.1, .int .i64 s0.2.1, .int .i64 s0.2.2, .bool o, .int .i64 t0.1, .int .i64 t0.2.1, .int .i64 t0.2.2, .bool p] by rw [hX]; exact (Blk.new w _ _).alloc _)
  have HS := Lib.hid (show Blk (X.alloc (.cells #[.int .i64 s.1, .int .i64 s.2.1, .int .i64 s.2.2] 23)) (w.heap.size + 1) 23 #[.int .i64 s.1, .int .i64 s.2.1, .int .i64 s.2.2] by rw [← hxs]; exact Blk.new _ _ _)
  have HB := Lib.hid (hbx.alloc (by omega) (.cells #[.int .i64 s.1, .int .i64 s.2.1, .int .i64 s.2.2] 23))
  have HX := Lib.hid hX
  clear hX hxs hbx
  go_enter Try.func11, Try.ntmps11
  go_wp2
  go_loopw [5] (fun i wr => ∃ i' : Nat, i' ≤ 2 ∧ i = .int .i64 (i' : Nat) ∧ Below w.heap.size w wr ∧ Blk wr w.heap.size 26 #[.int .i64 s0.1, .int .i64 s0.2.1, .int .i64 s0.2.2, .bool o, .int .i64 t0.1, .int .i64 t0.2.1, .int .i64 t0.2.2, .bool p] ∧
      Blk wr (w.heap.size + 1) 23 #[.int .i64 s.1, .int .i64 s.2.1, .int .i64 s.2.2] ∧ (0 < i' → (maySpot s && near (s0, o) s) = false) ∧ (1 < i' → (maySpot s && near (t0, p) s) = false)) (fun i _ => 2 - (intOf i).toNat)
  case atStart => exact ⟨0, Nat.zero_le _, rfl, by rw [← HX.out]; exact HB.out, by rw [← HX.out]; exact HK.out, by rw [← HX.out]; exact HS.out, fun h => absurd h (by decide), fun h => absurd h (by decide)⟩
  case round =>
    obtain ⟨i, hi, rfl, hbl, hk, hsp, h01, h02⟩ := hrel
    have HBL := Lib.hid hbl
    have HKK := Lib.hid hk
    have HSS := Lib.hid hsp
    have H01_ := Lib.hid h01
    have H02_ := Lib.hid h02
    clear hbl h01 h02
    match i, hi with
    | 0, _ =>
      rw [show ((0 : Nat) : Int) = 0 from rfl]
      have hn : near (s0, o) s = (o && (by1B s0.1 s.1 && by1B s0.2.2 s.2.2)) := near_by1 _ _ _
      have C0 := fun (pw : InB wr) => pw.cell (hk.cell 0) hk.lt
      have C2 := fun (pw : InB wr) => pw.cell (hk.cell 2) hk.lt
      have C3 := fun (pw : InB wr) => pw.cell (hk.cell 3) hk.lt
      have S0 := fun (pw : InB wr) => pw.cell hsp.three.1 hsp.lt
      have S1 := fun (pw : InB wr) => pw.cell hsp.three.2.1 hsp.lt
      have S2 := fun (pw : InB wr) => pw.cell hsp.three.2.2.1 hsp.lt
      replace C0 : ∀ pw : InB wr, pw.w'.cell? ⟨w.heap.size, 0, none⟩ = some (.int .i64 s0.1) := C0
      replace C2 : ∀ pw : InB wr, pw.w'.cell? ⟨w.heap.size, 2, none⟩ = some (.int .i64 s0.2.2) := C2
      replace C3 : ∀ pw : InB wr, pw.w'.cell? ⟨w.heap.size, 3, none⟩ = some (.bool o) := C3
      clear hk hsp
      rcases Bool.eq_false_or_eq_true o with ho | ho
      · rw [ho] at C3
        have HO := Lib.hid ho
        clear ho
        rcases eq_false_or_true (maySpot s) with hm | hm
        ·
          have HM := Lib.hid hm
          clear hm
          have HN := Lib.hid (show (maySpot s && near (s0, o) s) = false by rw [HM.out]; simp)
          clear hn
          go_wp2
          refine wp_region_quiet_below (by kernel_rfl) (by kernel_rfl) ?_
          repeat (go_big_quiet_step ((first | (go_at_call 24; exact calls_below (qMaySpot_lit _ s _ HM.out)))))
          refine wpQuiet_nil ?_
          intro _ hw'
          obtain ⟨⟨wq, hbq⟩, hw''⟩ := hw'
          subst hw''
          have HB1 := Lib.hid (HBL.out.trans (hbq.mono HBL.out.size))
          have HK1 := Lib.hid (HKK.out.below hbq HKK.out.lt)
          have HS1 := Lib.hid (HSS.out.below hbq HSS.out.lt)
          clear C0 C2 C3 S0 S1 S2 hbq
          go_wp2
          go_roundw
          case rel => exact ⟨1, by omega, rfl, HB1.out, HK1.out, HS1.out, fun _ => HN.out, fun h => absurd h (by decide)⟩
          case measure => simp [intOf]
        ·
          have HM := Lib.hid hm
          clear hm
          rcases eq_false_or_true (by1B s0.1 s.1) with hx | hx
          ·
            have HX := Lib.hid hx
            clear hx
            have HN := Lib.hid (show (maySpot s && near (s0, o) s) = false by rw [hn, HX.out]; simp)
            clear hn
            go_wp2
            refine wp_region_quiet_below (by kernel_rfl) (by kernel_rfl) ?_
            repeat (go_big_quiet_step ((first | (go_at_call 24; exact calls_below (qMaySpot_lit _ s _ HM.out)) | (go_at_call 25; exact calls_below (by1_lit _ _ _ _ (by assumption) (by assumption) HX.out)))))
            refine wpQuiet_nil ?_
            intro _ hw'
            obtain ⟨⟨wq, hbq⟩, hw''⟩ := hw'
            subst hw''
            have HB1 := Lib.hid (HBL.out.trans (hbq.mono HBL.out.size))
            have HK1 := Lib.hid (HKK.out.below hbq HKK.out.lt)
            have HS1 := Lib.hid (HSS.out.below hbq HSS.out.lt)
            clear C0 C2 C3 S0 S1 S2 hbq
            go_wp2
            go_roundw
            case rel => exact ⟨1, by omega, rfl, HB1.out, HK1.out, HS1.out, fun _ => HN.out, fun h => absurd h (by decide)⟩
            case measure => simp [intOf]
          ·
            have HX := Lib.hid hx
            clear hx
            rcases eq_false_or_true (by1B s0.2.2 s.2.2) with hz | hz
            ·
              have HZ := Lib.hid hz
              clear hz
              have HN := Lib.hid (show (maySpot s && near (s0, o) s) = false by rw [hn, HZ.out]; simp)
              clear hn
              go_wp2
              refine wp_region_quiet_below (by kernel_rfl) (by kernel_rfl) ?_
              repeat (go_big_quiet_step ((first | (go_at_call 24; exact calls_below (qMaySpot_lit _ s _ HM.out)) | (go_at_call 25; exact calls_below (by1_lit _ _ _ _ (by assumption) (by assumption) HX.out)) | (go_at_call 25; exact calls_below (by1_lit _ _ _ _ (by assumption) (by assumption) HZ.out)))))
              refine wpQuiet_nil ?_
              intro _ hw'
              obtain ⟨⟨wq, hbq⟩, hw''⟩ := hw'
              subst hw''
              have HB1 := Lib.hid (HBL.out.trans (hbq.mono HBL.out.size))
              have HK1 := Lib.hid (HKK.out.below hbq HKK.out.lt)
              have HS1 := Lib.hid (HSS.out.below hbq HSS.out.lt)
              clear C0 C2 C3 S0 S1 S2 hbq
              go_wp2
              go_roundw
              case rel => exact ⟨1, by omega, rfl, HB1.out, HK1.out, HS1.out, fun _ => HN.out, fun h => absurd h (by decide)⟩
              case measure => simp [intOf]
            ·
              have HZ := Lib.hid hz
              clear hz
              have HY := Lib.hid (show inS (s0, o) (t0, p) s = true by
                have h1 : near (s0, o) s = true := by rw [hn, HO.out, HX.out, HZ.out]; rfl
                unfold inS
                rw [HM.out, h1]
                simp)
              clear hn
              go_wp2
              refine wp_region_quiet_below (by kernel_rfl) (by kernel_rfl) ?_
              repeat (go_big_quiet_step ((first | (go_at_call 24; exact calls_below (qMaySpot_lit _ s _ HM.out)) | (go_at_call 25; exact calls_below (by1_lit _ _ _ _ (by assumption) (by assumption) HX.out)) | (go_at_call 25; exact calls_below (by1_lit _ _ _ _ (by assumption) (by assumption) HZ.out)))))
              refine wpQuiet_nil ?_
              intro _ hw'
              obtain ⟨⟨wq, hbq⟩, hw''⟩ := hw'
              subst hw''
              have HB1 := Lib.hid (HBL.out.trans (hbq.mono HBL.out.size))
              have HK1 := Lib.hid (HKK.out.below hbq HKK.out.lt)
              have HS1 := Lib.hid (HSS.out.below hbq HSS.out.lt)
              clear C0 C2 C3 S0 S1 S2 hbq
              go_wp2
              go_ret
              exact ⟨ret_bool HY.out.symm, HB1.out⟩
      · rw [ho] at C3
        have HO := Lib.hid ho
        clear ho
        rcases eq_false_or_true (maySpot s) with hm | hm
        ·
          have HM := Lib.hid hm
          clear hm
          have HN := Lib.hid (show (maySpot s && near (s0, o) s) = false by rw [hn, HO.out]; simp)
          clear hn
          go_wp2
          refine wp_region_quiet_below (by kernel_rfl) (by kernel_rfl) ?_
          repeat (go_big_quiet_step ((first | (go_at_call 24; exact calls_below (qMaySpot_lit _ s _ HM.out)))))
          refine wpQuiet_nil ?_
          intro _ hw'
          obtain ⟨⟨wq, hbq⟩, hw''⟩ := hw'
          subst hw''
          have HB1 := Lib.hid (HBL.out.trans (hbq.mono HBL.out.size))
          have HK1 := Lib.hid (HKK.out.below hbq HKK.out.lt)
          have HS1 := Lib.hid (HSS.out.below hbq HSS.out.lt)
          clear C0 C2 C3 S0 S1 S2 hbq
          go_wp2
          go_roundw
          case rel => exact ⟨1, by omega, rfl, HB1.out, HK1.out, HS1.out, fun _ => HN.out, fun h => absurd h (by decide)⟩
          case measure => simp [intOf]
        ·
          have HM := Lib.hid hm
          clear hm
          have HN := Lib.hid (show (maySpot s && near (s0, o) s) = false by rw [hn, HO.out]; simp)
          clear hn
          go_wp2
          refine wp_region_quiet_below (by kernel_rfl) (by kernel_rfl) ?_
          repeat (go_big_quiet_step ((first | (go_at_call 24; exact calls_below (qMaySpot_lit _ s _ HM.out)))))
          refine wpQuiet_nil ?_
          intro _ hw'
          obtain ⟨⟨wq, hbq⟩, hw''⟩ := hw'
          subst hw''
          have HB1 := Lib.hid (HBL.out.trans (hbq.mono HBL.out.size))
          have HK1 := Lib.hid (HKK.out.below hbq HKK.out.lt)
          have HS1 := Lib.hid (HSS.out.below hbq HSS.out.lt)
          clear C0 C2 C3 S0 S1 S2 hbq
          go_wp2
          go_roundw
          case rel => exact ⟨1, by omega, rfl, HB1.out, HK1.out, HS1.out, fun _ => HN.out, fun h => absurd h (by decide)⟩
          case measure => simp [intOf]
    | 1, _ =>
      have H01 := Lib.hid (H01_.out (by decide))
      rw [show ((1 : Nat) : Int) = 1 from rfl]
      have hn : near (t0, p) s = (p && (by1B t0.1 s.1 && by1B t0.2.2 s.2.2)) := near_by1 _ _ _
      have C0 := fun (pw : InB wr) => pw.cell (hk.cell 4) hk.lt
      have C2 := fun (pw : InB wr) => pw.cell (hk.cell 6) hk.lt
      have C3 := fun (pw : InB wr) => pw.cell (hk.cell 7) hk.lt
      have S0 := fun (pw : InB wr) => pw.cell hsp.three.1 hsp.lt
      have S1 := fun (pw : InB wr) => pw.cell hsp.three.2.1 hsp.lt
      have S2 := fun (pw : InB wr) => pw.cell hsp.three.2.2.1 hsp.lt
      replace C0 : ∀ pw : InB wr, pw.w'.cell? ⟨w.heap.size, 4, none⟩ = some (.int .i64 t0.1) := C0
      replace C2 : ∀ pw : InB wr, pw.w'.cell? ⟨w.heap.size, 6, none⟩ = some (.int .i64 t0.2.2) := C2
      replace C3 : ∀ pw : InB wr, pw.w'.cell? ⟨w.heap.size, 7, none⟩ = some (.bool p) := C3
      clear hk hsp
      rcases Bool.eq_false_or_eq_true p with ho | ho
      · rw [ho] at C3
        have HO := Lib.hid ho
        clear ho
        rcases eq_false_or_true (maySpot s) with hm | hm
        ·
          have HM := Lib.hid hm
          clear hm
          have HN := Lib.hid (show (maySpot s && near (t0, p) s) = false by rw [HM.out]; simp)
          clear hn
          go_wp2
          refine wp_region_quiet_below (by kernel_rfl) (by kernel_rfl) ?_
          repeat (go_big_quiet_step ((first | (go_at_call 24; exact calls_below (qMaySpot_lit _ s _ HM.out)))))
          refine wpQuiet_nil ?_
          intro _ hw'
          obtain ⟨⟨wq, hbq⟩, hw''⟩ := hw'
          subst hw''
          have HB1 := Lib.hid (HBL.out.trans (hbq.mono HBL.out.size))
          have HK1 := Lib.hid (HKK.out.below hbq HKK.out.lt)
          have HS1 := Lib.hid (HSS.out.below hbq HSS.out.lt)
          clear C0 C2 C3 S0 S1 S2 hbq
          go_wp2
          go_roundw
          case rel => exact ⟨2, by omega, rfl, HB1.out, HK1.out, HS1.out, fun _ => H01.out, fun _ => HN.out⟩
          case measure => simp [intOf]
        ·
          have HM := Lib.hid hm
          clear hm
          rcases eq_false_or_true (by1B t0.1 s.1) with hx | hx
          ·
            have HX := Lib.hid hx
            clear hx
            have HN := Lib.hid (show (maySpot s && near (t0, p) s) = false by rw [hn, HX.out]; simp)
            clear hn
            go_wp2
            refine wp_region_quiet_below (by kernel_rfl) (by kernel_rfl) ?_
            repeat (go_big_quiet_step ((first | (go_at_call 24; exact calls_below (qMaySpot_lit _ s _ HM.out)) | (go_at_call 25; exact calls_below (by1_lit _ _ _ _ (by assumption) (by assumption) HX.out)))))
            refine wpQuiet_nil ?_
            intro _ hw'
            obtain ⟨⟨wq, hbq⟩, hw''⟩ := hw'
            subst hw''
            have HB1 := Lib.hid (HBL.out.trans (hbq.mono HBL.out.size))
            have HK1 := Lib.hid (HKK.out.below hbq HKK.out.lt)
            have HS1 := Lib.hid (HSS.out.below hbq HSS.out.lt)
            clear C0 C2 C3 S0 S1 S2 hbq
            go_wp2
            go_roundw
            case rel => exact ⟨2, by omega, rfl, HB1.out, HK1.out, HS1.out, fun _ => H01.out, fun _ => HN.out⟩
            case measure => simp [intOf]
          ·
            have HX := Lib.hid hx
            clear hx
            rcases eq_false_or_true (by1B t0.2.2 s.2.2) with hz | hz
            ·
              have HZ := Lib.hid hz
              clear hz
              have HN := Lib.hid (show (maySpot s && near (t0, p) s) = false by rw [hn, HZ.out]; simp)
              clear hn
              go_wp2
              refine wp_region_quiet_below (by kernel_rfl) (by kernel_rfl) ?_
              repeat (go_big_quiet_step ((first | (go_at_call 24; exact calls_below (qMaySpot_lit _ s _ HM.out)) | (go_at_call 25; exact calls_below (by1_lit _ _ _ _ (by assumption) (by assumption) HX.out)) | (go_at_call 25; exact calls_below (by1_lit _ _ _ _ (by assumption) (by assumption) HZ.out)))))
              refine wpQuiet_nil ?_
              intro _ hw'
              obtain ⟨⟨wq, hbq⟩, hw''⟩ := hw'
              subst hw''
              have HB1 := Lib.hid (HBL.out.trans (hbq.mono HBL.out.size))
              have HK1 := Lib.hid (HKK.out.below hbq HKK.out.lt)
              have HS1 := Lib.hid (HSS.out.below hbq HSS.out.lt)
              clear C0 C2 C3 S0 S1 S2 hbq
              go_wp2
              go_roundw
              case rel => exact ⟨2, by omega, rfl, HB1.out, HK1.out, HS1.out, fun _ => H01.out, fun _ => HN.out⟩
              case measure => simp [intOf]
            ·
              have HZ := Lib.hid hz
              clear hz
              have HY := Lib.hid (show inS (s0, o) (t0, p) s = true by
                have h1 : near (t0, p) s = true := by rw [hn, HO.out, HX.out, HZ.out]; rfl
                unfold inS
                rw [HM.out, h1]
                simp)
              clear hn
              go_wp2
              refine wp_region_quiet_below (by kernel_rfl) (by kernel_rfl) ?_
              repeat (go_big_quiet_step ((first | (go_at_call 24; exact calls_below (qMaySpot_lit _ s _ HM.out)) | (go_at_call 25; exact calls_below (by1_lit _ _ _ _ (by assumption) (by assumption) HX.out)) | (go_at_call 25; exact calls_below (by1_lit _ _ _ _ (by assumption) (by assumption) HZ.out)))))
              refine wpQuiet_nil ?_
              intro _ hw'
              obtain ⟨⟨wq, hbq⟩, hw''⟩ := hw'
              subst hw''
              have HB1 := Lib.hid (HBL.out.trans (hbq.mono HBL.out.size))
              have HK1 := Lib.hid (HKK.out.below hbq HKK.out.lt)
              have HS1 := Lib.hid (HSS.out.below hbq HSS.out.lt)
              clear C0 C2 C3 S0 S1 S2 hbq
              go_wp2
              go_ret
              exact ⟨ret_bool HY.out.symm, HB1.out⟩
      · rw [ho] at C3
        have HO := Lib.hid ho
        clear ho
        rcases eq_false_or_true (maySpot s) with hm | hm
        ·
          have HM := Lib.hid hm
          clear hm
          have HN := Lib.hid (show (maySpot s && near (t0, p) s) = false by rw [hn, HO.out]; simp)
          clear hn
          go_wp2
          refine wp_region_quiet_below (by kernel_rfl) (by kernel_rfl) ?_
          repeat (go_big_quiet_step ((first | (go_at_call 24; exact calls_below (qMaySpot_lit _ s _ HM.out)))))
          refine wpQuiet_nil ?_
          intro _ hw'
          obtain ⟨⟨wq, hbq⟩, hw''⟩ := hw'
          subst hw''
          have HB1 := Lib.hid (HBL.out.trans (hbq.mono HBL.out.size))
          have HK1 := Lib.hid (HKK.out.below hbq HKK.out.lt)
          have HS1 := Lib.hid (HSS.out.below hbq HSS.out.lt)
          clear C0 C2 C3 S0 S1 S2 hbq
          go_wp2
          go_roundw
          case rel => exact ⟨2, by omega, rfl, HB1.out, HK1.out, HS1.out, fun _ => H01.out, fun _ => HN.out⟩
          case measure => simp [intOf]
        ·
          have HM := Lib.hid hm
          clear hm
          have HN := Lib.hid (show (maySpot s && near (t0, p) s) = false by rw [hn, HO.out]; simp)
          clear hn
          go_wp2
          refine wp_region_quiet_below (by kernel_rfl) (by kernel_rfl) ?_
          repeat (go_big_quiet_step ((first | (go_at_call 24; exact calls_below (qMaySpot_lit _ s _ HM.out)))))
          refine wpQuiet_nil ?_
          intro _ hw'
          obtain ⟨⟨wq, hbq⟩, hw''⟩ := hw'
          subst hw''
          have HB1 := Lib.hid (HBL.out.trans (hbq.mono HBL.out.size))
          have HK1 := Lib.hid (HKK.out.below hbq HKK.out.lt)
          have HS1 := Lib.hid (HSS.out.below hbq HSS.out.lt)
          clear C0 C2 C3 S0 S1 S2 hbq
          go_wp2
          go_roundw
          case rel => exact ⟨2, by omega, rfl, HB1.out, HK1.out, HS1.out, fun _ => H01.out, fun _ => HN.out⟩
          case measure => simp [intOf]
    | 2, _ =>
      rw [show ((2 : Nat) : Int) = 2 from rfl]
      have HN := Lib.hid (show inS (s0, o) (t0, p) s = false by
        unfold inS
        rw [Bool.and_or_distrib_left, H01_.out (by decide), H02_.out (by decide)]
        rfl)
      clear hk hsp
      go_wp2
      go_ret
      exact ⟨ret_bool HN.out.symm, HBL.out⟩
end Go.Proofs.Ytokmbnmhdicljaa
