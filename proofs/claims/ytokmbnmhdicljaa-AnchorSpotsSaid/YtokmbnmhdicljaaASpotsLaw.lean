/- AnchorSpots: the walk. -/
import Derived.Test.YtokmbnmhdicljaaARSpots
import Derived.Test.YtokmbnmhdicljaaAAwake
namespace Go.Proofs.Ytokmbnmhdicljaa
open Go.RowKit

theorem eight_of {w : World} {b : Nat} {s t : Sp} {o p : Bool} (h : Blk w b 26 #[.int .i64 s.1, .int .i64 s.2.1, .int .i64 s.2.2, .bool o, .int .i64 t.1, .int .i64 t.2.1, .int .i64 t.2.2, .bool p]) : w.cell? ⟨b, 0, none⟩ = some (.int .i64 s.1) ∧ w.cell? ⟨b, 1, none⟩ = some (.int .i64 s.2.1) ∧ w.cell? ⟨b, 2, none⟩ = some (.int .i64 s.2.2) ∧ w.cell? ⟨b, 3, none⟩ = some (.bool o) ∧ w.cell? ⟨b, 4, none⟩ = some (.int .i64 t.1) ∧ w.cell? ⟨b, 5, none⟩ = some (.int .i64 t.2.1) ∧ w.cell? ⟨b, 6, none⟩ = some (.int .i64 t.2.2) ∧ w.cell? ⟨b, 7, none⟩ = some (.bool p) := h.eight.1
theorem in_lit3 (w : World) (a b : An) (u : Sp) (ha : AnOk a) (hb : AnOk b) (h : inS a b u = true) : Calls Try.prog 10 #[.agg #[.int .i64 a.1.1, .int .i64 a.1.2.1, .int .i64 a.1.2.2, .bool a.2, .int .i64 b.1.1, .int .i64 b.1.2.1, .int .i64 b.1.2.2, .bool b.2], spV u] w fun e w' => e = .returned (.bool true) ∧ Below w.heap.size w w' := h ▸ aIn_any w a b u ha hb
set_option maxRecDepth 100000 in
set_option maxHeartbeats 8000000 in
theorem spots_law (w : World) (s t : Sp) (o p : Bool) (q : Sp) (ha : AnOk (s, o)) (hb : AnOk (t, p)) (hq : SpOk q) :
    Calls Try.prog 3 #[.agg #[.int .i64 s.1, .int .i64 s.2.1, .int .i64 s.2.2, .bool o, .int .i64 t.1, .int .i64 t.2.1, .int .i64 t.2.2, .bool p], .agg #[.int .i64 q.1, .int .i64 q.2.1, .int .i64 q.2.2]] w fun e w' => e = .returned (.bool true) ∧ Below w.heap.size w w' := by
  have HB0 := Lib.hid (below_two w (.cells #[.int .i64 s.1, .int .i64 s.2.1, .int .i64 s.2.2, .bool o, .int .i64 t.1, .int .i64 t.2.1, .int .i64 t.2.2, .bool p] 26) (.cells #[.int .i64 q.1, .int .i64 q.2.1, .int .i64 q.2.2] 23))
  have hs1 : (w.alloc (.cells #[.int .i64 s.1, .int .i64 s.2.1, .int .i64 s.2.2, .bool o, .int .i64 t.1, .int .i64 t.2.1, .int .i64 t.2.2, .bool p] 26)).heap.size = w.heap.size + 1 := by simp
  have HL0 := Lib.hid ((Blk.new w 26 #[.int .i64 s.1, .int .i64 s.2.1, .int .i64 s.2.2, .bool o, .int .i64 t.1, .int .i64 t.2.1, .int .i64 t.2.2, .bool p]).alloc (.cells #[.int .i64 q.1, .int .i64 q.2.1, .int .i64 q.2.2] 23))
  have HQ0 := Lib.hid (show Blk _ (w.heap.size + 1) _ _ from hs1 ▸ Blk.new (w.alloc (.cells #[.int .i64 s.1, .int .i64 s.2.1, .int .i64 s.2.2, .bool o, .int .i64 t.1, .int .i64 t.2.1, .int .i64 t.2.2, .bool p] 26)) 23 #[.int .i64 q.1, .int .i64 q.2.1, .int .i64 q.2.2])
  clear hs1
  obtain ⟨k, hk⟩ : ∃ k, k = (spotsL (s, o) (t, p)).length := ⟨_, rfl⟩
  have k72 : k ≤ 72 := by have := spotsL_72 (s, o) (t, p); rw [← hk] at this; exact this
  have HSP := Lib.hid (fun w => spots_at w (s, o) (t, p) ha hb)
  rw [← hk] at HSP
  have HKL := Lib.hid hk
  clear hk
  go_enter Try.func3, Try.ntmps3
  obtain ⟨W, hW⟩ : ∃ W : World, W = ((w.alloc (.cells #[.int .i64 s.1, .int .i64 s.2.1, .int .i64 s.2.2, .bool o, .int .i64 t.1, .int .i64 t.2.1, .int .i64 t.2.2, .bool p] 26)).alloc (.cells #[.int .i64 q.1, .int .i64 q.2.1, .int .i64 q.2.2] 23)).drew := ⟨_, rfl⟩
  have HBW := Lib.hid (show Below w.heap.size w W by rw [hW]; exact HB0.out.drew)
  have HLW := Lib.hid (show Blk W _ _ _ by rw [hW]; exact HL0.out.drew)
  have HQW := Lib.hid (show Blk W _ _ _ by rw [hW]; exact HQ0.out.drew)
  have a := eight_of HL0.out
  go_wp2
  go_region_held3 (fun w' => w'.cell? ⟨w.heap.size, 0, none⟩ = some (.int .i64 s.1) ∧ w'.cell? ⟨w.heap.size, 1, none⟩ = some (.int .i64 s.2.1) ∧ w'.cell? ⟨w.heap.size, 2, none⟩ = some (.int .i64 s.2.2) ∧ w'.cell? ⟨w.heap.size, 3, none⟩ = some (.bool o) ∧ w'.cell? ⟨w.heap.size, 4, none⟩ = some (.int .i64 t.1) ∧ w'.cell? ⟨w.heap.size, 5, none⟩ = some (.int .i64 t.2.1) ∧ w'.cell? ⟨w.heap.size, 6, none⟩ = some (.int .i64 t.2.2) ∧ w'.cell? ⟨w.heap.size, 7, none⟩ = some (.bool p))
    (first
      | go_keep
      | exact SW2.out
      | exact SW1.out)
    (first
      | (go_at_call 7
         refine (HSP.out _).mono ?_
         rintro e w1 ⟨⟨ao, c, rfl, hc1, hc2, hrow⟩, hb1⟩
         rw [← hW] at hb1 hrow
         have HR1 := Lib.hid hrow
         have HB1 := Lib.hid hb1
         have SW1 := Lib.hid (eight_of (HLW.out.below hb1 HLW.out.lt))
         clear hb1 hrow)
      | (go_at_call 7
         refine (HSP.out _).mono ?_
         rintro e w2 ⟨⟨ao', c', rfl, hc1', hc2', hrow'⟩, hb2⟩
         have HR2 := Lib.hid hrow'
         have HB2 := Lib.hid hb2
         have SW2 := Lib.hid (eight_of ((HLW.out.below HB1.out HLW.out.lt).below hb2 (HLW.out.below HB1.out HLW.out.lt).lt))
         clear hb2 hrow'))
  have HBB2 := Lib.hid (HBW.out.trans ((HB1.out.trans (HB2.out.mono HB1.out.size)).mono HBW.out.size))
  have HL2 := Lib.hid ((HLW.out.below HB1.out HLW.out.lt).below HB2.out (HLW.out.below HB1.out HLW.out.lt).lt)
  have HQ2 := Lib.hid ((HQW.out.below HB1.out HQW.out.lt).below HB2.out (HQW.out.below HB1.out HQW.out.lt).lt)
  obtain ⟨a0, a1, a2, a3, a4, a5, a6, a7⟩ := eight_of HL2.out
  go_wp2_with fail
  go_at_call 8
  refine (rspots_any _ s t o p ha hb).mono ?_
  rintro e w3 ⟨v3, rfl, hb3, hrow3⟩
  obtain ⟨hs3, ao3, c3, rfl, -, -⟩ := row_sat hrow3
  have HRC3 := Lib.hid hrow3
  rw [← HKL.out] at hs3 HRC3 ⊢
  have HC3 := Lib.hid hs3
  have HR13 := Lib.hid (own_below (own_below HR1.out HB2.out) hb3)
  have HR23 := Lib.hid (own_below HR2.out hb3)
  have HB3 := Lib.hid (HBB2.out.trans (hb3.mono HBB2.out.size))
  have HL3 := Lib.hid (HL2.out.below hb3 HL2.out.lt)
  have HQ3 := Lib.hid (HQ2.out.below hb3 HQ2.out.lt)
  have HA3 := Lib.hid (show SAt w3 (.slice ao k c) (spotsL (s, o) (t, p)) from (row_sat HR13.out).1)
  clear hb3 hrow3 hs3 a0 a1 a2 a3 a4 a5 a6 a7
  obtain ⟨a0, a1, a2, a3, a4, a5, a6, a7⟩ := eight_of HL3.out
  obtain ⟨q0, q1, q2, -⟩ := HQ3.out.three
  have ll := HL3.out.lt
  have lq := HQ3.out.lt
  have A0 := fun (pw : InB w3) => pw.cell a0 ll
  have A1 := fun (pw : InB w3) => pw.cell a1 ll
  have A2 := fun (pw : InB w3) => pw.cell a2 ll
  have A3 := fun (pw : InB w3) => pw.cell a3 ll
  have A4 := fun (pw : InB w3) => pw.cell a4 ll
  have A5 := fun (pw : InB w3) => pw.cell a5 ll
  have A6 := fun (pw : InB w3) => pw.cell a6 ll
  have A7 := fun (pw : InB w3) => pw.cell a7 ll
  have Q0 := fun (pw : InB w3) => pw.cell q0 lq
  have Q1 := fun (pw : InB w3) => pw.cell q1 lq
  have Q2 := fun (pw : InB w3) => pw.cell q2 lq
  clear a0 a1 a2 a3 a4 a5 a6 a7 q0 q1 q2 ll lq
  have HAI := Lib.hid (fun w => aIn_any w (s, o) (t, p) q ha hb)
  have HRI := Lib.hid (fun w => rIn_any w s t o p q ha hb hq)
  go_wp2
  refine wp_region_quiet_below (by kernel_rfl) (by kernel_rfl) ?_
  repeat (go_big_quiet_step ((first | (go_at_call 9; exact calls_below (rSame_any (HA3.out.below (InB.h _)) (HC3.out.below (InB.h _)) (by omega))) | (go_at_call 10; exact calls_below (HAI.out _)) | (go_at_call 11; exact calls_below (HRI.out _)))))
  refine wpQuiet_nil ?_
  intro w4 hw'
  obtain ⟨⟨wq, hbq⟩, hw''⟩ := hw'
  subst hw''
  have hi0 : Row w4 W.heap.size (.slice ao k c) (spotsL (s, o) (t, p)) ∧ Row w4 w1.heap.size (.slice ao' k c') (spotsL (s, o) (t, p)) ∧ Row w4 w2.heap.size (.slice ao3 k c3) (spotsL (s, o) (t, p)) ∧ Below w.heap.size w w4 ∧ Blk w4 w.heap.size 26 #[.int .i64 s.1, .int .i64 s.2.1, .int .i64 s.2.2, .bool o, .int .i64 t.1, .int .i64 t.2.1, .int .i64 t.2.2, .bool p] :=
    ⟨own_below HR13.out hbq, own_below HR23.out hbq, own_below HRC3.out hbq, HB3.out.trans (hbq.mono HB3.out.size), HL3.out.below hbq HL3.out.lt⟩
  have HI0 := Lib.hid hi0
  have HGA := Lib.hid (show ∀ g, ao = some ⟨g, 0, none⟩ → g < w1.heap.size from fun g hg => by have h := HR1.out; subst hg; exact (h.lt g rfl).2)
  have HW12 := Lib.hid HB2.out.size
  clear A0 A1 A2 A3 A4 A5 A6 A7 Q0 Q1 Q2 hi0 hbq
  go_wp2
  go_loopw [8] (fun i_ wr => ∃ (i : Nat) (m : List Sp), i ≤ k ∧ i_ = .int .i64 (i : Nat) ∧ m.length = k ∧ (∀ j, i ≤ j → nthS m j = nthS (spotsL (s, o) (t, p)) j) ∧ Row wr W.heap.size (.slice ao k c) m ∧ Row wr w1.heap.size (.slice ao' k c') (spotsL (s, o) (t, p)) ∧ Row wr w2.heap.size (.slice ao3 k c3) (spotsL (s, o) (t, p)) ∧ Below w.heap.size w wr ∧ Blk wr w.heap.size 26 #[.int .i64 s.1, .int .i64 s.2.1, .int .i64 s.2.2, .bool o, .int .i64 t.1, .int .i64 t.2.1, .int .i64 t.2.2, .bool p]) (fun i_ _ => k - (intOf i_).toNat)
  case atStart => exact ⟨0, _, Nat.zero_le _, rfl, HKL.out.symm, fun _ _ => rfl, HI0.out⟩
  case round =>
    obtain ⟨i, m, hi, rfl, hml, hmj, hra, hrb, hrc, hbw, hl⟩ := hrel
    have HJ := Lib.hid hmj
    have HRA := Lib.hid hra
    have HRB := Lib.hid hrb
    have HRC := Lib.hid hrc
    have HBW' := Lib.hid hbw
    have HL := Lib.hid hl
    have HML := Lib.hid hml
    have hml_ := hml
    clear hmj hrb hrc hbw hml
    by_cases hik : i < k
    · have l1 : (i : Int) < (k : Int) := by omega
      obtain ⟨hsat, ao9, c9, he9, hkc, -⟩ := row_sat hra
      have hc0 : 0 < c := by injection he9 with _ _ h; rw [hml_] at hkc; omega
      have hra_ : World.ownsRow wr W.heap.size 23 3 (.slice ao k c) m.length (rc encS m) := hra
      rw [hml_] at hra_
      obtain ⟨g, rfl, hgb, hgl⟩ := own_form hra_ hc0
      clear hra_
      obtain ⟨hbb, c0, c1, c2⟩ := hsat.cells3 (i := i) (by rw [HML.out]; exact hik)
      rw [HJ.out i (Nat.le_refl _)] at c0 c1 c2
      simp only [Nat.zero_add] at c0 c1 c2
      obtain ⟨u, hu⟩ : ∃ u, u = nthS (spotsL (s, o) (t, p)) i := ⟨_, rfl⟩
      rw [← hu] at c0 c1 c2
      have HIN := Lib.hid (fun w => in_lit3 w (s, o) (t, p) u ha hb (by rw [hu]; exact mem_spotsL.1 (nthS_mem (by rw [← HKL.out]; exact hik))))
      obtain ⟨a0, a1, a2, a3, a4, a5, a6, a7⟩ := eight_of hl
      have ll := hl.lt
      have A0 := fun (pw : InB wr) => pw.cell a0 ll
      have A1 := fun (pw : InB wr) => pw.cell a1 ll
      have A2 := fun (pw : InB wr) => pw.cell a2 ll
      have A3 := fun (pw : InB wr) => pw.cell a3 ll
      have A4 := fun (pw : InB wr) => pw.cell a4 ll
      have A5 := fun (pw : InB wr) => pw.cell a5 ll
      have A6 := fun (pw : InB wr) => pw.cell a6 ll
      have A7 := fun (pw : InB wr) => pw.cell a7 ll
      have C0 := fun (pw : InB wr) => pw.cell c0 hgl
      have C1 := fun (pw : InB wr) => pw.cell c1 hgl
      have C2 := fun (pw : InB wr) => pw.cell c2 hgl
      have HGB := Lib.hid hgb
      clear a0 a1 a2 a3 a4 a5 a6 a7 c0 c1 c2 ll hu hsat he9 hkc hgb hgl hbb hra hl
      go_wp2
      refine wp_region_quiet_below (by kernel_rfl) (by kernel_rfl) ?_
      repeat (go_big_quiet_step ((go_at_call 10; exact calls_below (HIN.out _))))
      refine wpQuiet_nil ?_
      intro w5 hw'
      obtain ⟨⟨wq, hbq⟩, hw''⟩ := hw'
      subst hw''
      have hra5 : Row w5 W.heap.size (.slice (some ⟨g, 0, none⟩) k c) m := own_below HRA.out hbq
      have hown5 : World.ownsRow w5 W.heap.size 23 3 (.slice (some ⟨g, 0, none⟩) k c) m.length (rc encS m) := hra5
      rw [HML.out] at hown5
      have g0 := hown5.cellAt (i * 3) (by omega) |>.trans (rc_at encS_len (0, 0, 0) m i 0 (by rw [HML.out]; exact hik) (by decide))
      have g1 := hown5.cellAt (i * 3 + 1) (by omega) |>.trans (rc_at encS_len (0, 0, 0) m i 1 (by rw [HML.out]; exact hik) (by decide))
      have g2 := hown5.cellAt (i * 3 + 2) (by omega) |>.trans (rc_at encS_len (0, 0, 0) m i 2 (by rw [HML.out]; exact hik) (by decide))
      replace g0 : w5.cell? ⟨g, i * 3, none⟩ = some (.int .i64 (nthS m i).1) := g0
      replace g1 : w5.cell? ⟨g, i * 3 + 1, none⟩ = some (.int .i64 (nthS m i).2.1) := g1
      replace g2 : w5.cell? ⟨g, i * 3 + 2, none⟩ = some (.int .i64 (nthS m i).2.2) := g2
      have f0 := World.ownsRow.frozenAt hown5 (i * 3)
      have f1 := World.ownsRow.frozenAt hown5 (i * 3 + 1)
      have f2 := World.ownsRow.frozenAt hown5 (i * 3 + 2)
      have HRA5 := Lib.hid hra5
      have HRB5 := Lib.hid (own_below HRB.out hbq)
      have HRC5 := Lib.hid (own_below HRC.out hbq)
      have HBW5 := Lib.hid (HBW'.out.trans (hbq.mono HBW'.out.size))
      have HL5 := Lib.hid (HL.out.below hbq HL.out.lt)
      clear hbq hra5 hown5 A0 A1 A2 A3 A4 A5 A6 A7 C0 C1 C2
      go_wp2
      go_roundw
      case rel =>
        have hg1 := HGA.out g rfl
        have hg2 := HGB.out
        have hg3 := HLW.out.lt
        have hg4 := HBW.out.size
        have hg5 := HW12.out
        have nb : Value.ownBlock (.slice ao' k c') ≠ some g := fun h => by have := (HRB5.out.lt g h).1; omega
        have nc : Value.ownBlock (.slice ao3 k c3) ≠ some g := fun h => by have := (HRC5.out.lt g h).1; omega
        have ne : w.heap.size ≠ g := by omega
        refine ⟨i + 1, m.set i (77, 0, 0), by omega, by go_num, by rw [List.length_set]; exact HML.out, fun j hj => ?_, row_set3 (i := i) HRA5.out HML.out.symm (by rw [HML.out]; exact hik) (77, 0, 0),
          ownsRow_setCell_other (ownsRow_setCell_other (ownsRow_setCell_other HRB5.out (a := ⟨g, _, none⟩) nb _) (a := ⟨g, _, none⟩) nb _) (a := ⟨g, _, none⟩) nb _,
          ownsRow_setCell_other (ownsRow_setCell_other (ownsRow_setCell_other HRC5.out (a := ⟨g, _, none⟩) nc _) (a := ⟨g, _, none⟩) nc _) (a := ⟨g, _, none⟩) nc _,
          ((HBW5.out.setCell (p := ⟨g, _, none⟩) (by show _ ≤ g; omega) _).setCell (p := ⟨g, _, none⟩) (by show _ ≤ g; omega) _).setCell (p := ⟨g, _, none⟩) (by show _ ≤ g; omega) _,
          ((HL5.out.far (p := ⟨g, _, none⟩) ne _).far (p := ⟨g, _, none⟩) ne _).far (p := ⟨g, _, none⟩) ne _⟩
        rw [← HJ.out j (by omega)]
        unfold nthS
        rw [List.getD_eq_getElem?_getD, List.getD_eq_getElem?_getD, List.getElem?_set_ne (by omega)]
      case measure => simp [intOf]; omega
    · obtain rfl : i = k := by omega
      clear hik hra hl
      go_wp2_with fail
      go_at_call 9
      refine (rSame_any (w := wr) (m := spotsL (s, o) (t, p)) (row_sat HRB.out).1 (row_sat HRC.out).1 (by omega)).mono ?_
      rintro e w5 ⟨rfl, hb5⟩
      have HB5 := Lib.hid (HBW'.out.trans (hb5.mono HBW'.out.size))
      clear hb5
      go_wp2_with fail
      go_at_call 12
      refine (awake_any _).mono ?_
      rintro e w6 ⟨rfl, hb6⟩
      have HB6 := Lib.hid (HB5.out.trans (hb6.mono HB5.out.size))
      clear hb6
      go_wp2
      go_ret
      exact ⟨rfl, HB6.out⟩
end Go.Proofs.Ytokmbnmhdicljaa
