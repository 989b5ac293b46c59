/- Joined texts of one seat, each under its own heading below. -/
import Derived.Test.YtlhjjmfbifhgfaaFM16
import Derived.Test.YtlhjjmfbifhgfaaFM17
import Derived.Test.YtlhjjmfbifhgfaaFM4
import Derived.Deep.RegionLaw
import Derived.Deep.RegionHeld
import Derived.Test.YtlhjjmfbifhgfaaFM14
import Derived.Laws.BitsAllLaws
import Derived.Test.YtlhjjmfbifhgfaaFM13
import Derived.StillTailTactics
/- Is a change one? the walk. (Printed by gentail.py.) -/
namespace Go.Proofs.Ytlhjjmfbifhgfaa
set_option linter.unusedSimpArgs false
set_option linter.unusedVariables false
open Go.RowKit
set_option maxRecDepth 1000000

section
variable (W W4 : World) (base g b3 b4 b5 b7 : Nat) (f : Fw) (cv lv av tv av3 : Value) (ok : f.Ok) (p : Pl) (hp : f.b.inside p) (o1 o2 n1 n2 : Int) (hold : InU o1 ∧ InU o2) (FL FS FL0 FS0 : Pl → Nat) (h0R : RightOf (f.old p (o1, o2)) FL0 FS0) (h1R : RightOf f FL FS)
include ok hp hold h0R h1R
set_option maxHeartbeats 32000000 in
theorem change_ask (hF : FieldAt W base g f cv lv av tv) (ha : Asks W W4 base g f cv lv av tv [p] av3) (hb3 : Blk W4 b3 64 #[.iface 29 (.pointer (some ⟨g, 0, none⟩))]) (hb4 : Blk W4 b4 23 (plC p)) (hb5 : Blk W4 b5 33 #[.int .u8 o1, .int .u8 o2]) (hb7 : Blk W4 b7 33 #[.int .u8 n1, .int .u8 n2]) (hav : av3.ownBlock ≠ some b4) (hnow : (n1, n2) = cellAt f p)
    (hlt : ∀ q, lightAt f q = ((FS0 q : Int), (FL0 q : Int))) (hl : f.asked.length ≤ 800000000) (htl : f.told.length ≤ 800000000)
    (u0 u1 u2 u6 u8 u9 u10 u11 u12 u13 u14 u15 u16 u17 u18 u19 u20 u21 u22 u23 u24 u25 u26 u27 u28 u29 u30 u31 u32 u33 u34 u35 u36 u37 u38 u39 u40 u41 u42 u43 u44 u45 u46 u47 u48 u49 u50 u51 u52 u53 u54 u55 u56 u57 u58 u59 u60 u61 u62 u63 u64 u65 u66 u67 u68 u69 u70 u71 u72 u73 u74 u75 u76 u77 u78 u79 u80 u81 u82 u83 u84 u85 u86 u87 u88 u89 u90 u91 u92 u93 u94 u95 u96 u97 u98 u99 u100 u101 u102 u103 u104 u105 u106 u107 u108 u109 u110 u111 u112 u113 u114 u115 u116 u117 u118 u119 u120 u121 u122 u123 u124 u125 u126 u127 u128 u129 u130 u131 u132 u133 u134 u135 u136 u137 u138 u139 u140 u141 u142 u143 u144 u145 u146 u147 u148 u149 u150 u151 : Value) :
    Code.wp Try.prog (gnav (Try.f11.body.getD .skip) [true, true, true]) (bodyPost Try.prog Try.f11 fun e w' => ∃ T A L' av' tv', e = .returned (.int .i64 (T.length : Nat)) ∧ Changed W w' base g f cv lv av tv FS FL p (o1, o2) T A L' av' tv') { tmps := #[u0, u1, u2, .pointer (some ⟨b3, 0, none⟩), .pointer (some ⟨b4, 0, none⟩), .pointer (some ⟨b5, 0, none⟩), u6, .pointer (some ⟨b7, 0, none⟩), u8, u9, u10, u11, u12, u13, u14, u15, u16, u17, u18, u19, u20, u21, u22, u23, u24, u25, u26, u27, u28, u29, u30, u31, u32, u33, u34, u35, u36, u37, u38, u39, u40, u41, u42, u43, u44, u45, u46, u47, u48, u49, u50, u51, u52, u53, u54, u55, u56, u57, u58, u59, u60, u61, u62, u63, u64, u65, u66, u67, u68, u69, u70, u71, u72, u73, u74, u75, u76, u77, u78, u79, u80, u81, u82, u83, u84, u85, u86, u87, u88, u89, u90, u91, u92, u93, u94, u95, u96, u97, u98, u99, u100, u101, u102, u103, u104, u105, u106, u107, u108, u109, u110, u111, u112, u113, u114, u115, u116, u117, u118, u119, u120, u121, u122, u123, u124, u125, u126, u127, u128, u129, u130, u131, u132, u133, u134, u135, u136, u137, u138, u139, u140, u141, u142, u143, u144, u145, u146, u147, u148, u149, u150, u151], defers := [] } W4 := by
  have hnin : InU n1 ∧ InU n2 := by
    have := cellAt_in ok p
    rw [← hnow] at this
    exact this
  have HKO := Lib.hid (fclear_any W4.drew o1 o2 hold.1 hold.2)
  have HKN := Lib.hid (fun w => fclear_any w n1 n2 hnin.1 hnin.2)
  have HLO := Lib.hid (fun w => klamp_any w o1 o2 hold.1 hold.2)
  have HLN := Lib.hid (fun w => klamp_any w n1 n2 hnin.1 hnin.2)
  obtain ⟨c0, c1⟩ := two_cells hb5
  obtain ⟨d0, d1⟩ := two_cells hb7
  have l5 := hb5.lt
  have l7 := hb7.lt
  have CC := Lib.hid (show ∀ w', Below W4.heap.size W4 w' → w'.cell? ⟨b5, 0, none⟩ = some (.int .u8 o1) ∧ w'.cell? ⟨b5, 1, none⟩ = some (.int .u8 o2) ∧ w'.cell? ⟨b7, 0, none⟩ = some (.int .u8 n1) ∧ w'.cell? ⟨b7, 1, none⟩ = some (.int .u8 n2) from fun w' hb => ⟨(hb.cell l5).trans c0, (hb.cell l5).trans c1, (hb.cell l7).trans d0, (hb.cell l7).trans d1⟩)
  obtain ⟨bw, hbw⟩ : ∃ bw, bw = clearC o1 o2 := ⟨_, rfl⟩
  obtain ⟨bi, hbi⟩ : ∃ bi, bi = clearC n1 n2 := ⟨_, rfl⟩
  rw [← hbw] at HKO
  rw [← hbi] at HKN
  have hbi2 : clrAt f p = bi := by
    unfold clrAt
    rw [← hnow]
    exact hbi.symm
  have HGO := Lib.hid (fun w' (hb : Below W4.heap.size W4 w') => change_go W w' base g b3 b4 f cv lv av tv av3 ok p hp (o1, o2) FL FS FL0 FS0 h0R h1R hF (ha.under hb) (hb3.below hb hb3.lt) (hb4.below hb hb4.lt) hav hlt hl htl bw bi hbw.symm hbi2)
  have HNO := Lib.hid (show bw = bi → lampC o1 o2 = lampC n1 n2 → ∀ w', Below W4.heap.size W4 w' → Changed W w' base g f cv lv av tv FS FL p (o1, o2) [] [p] f.lights av3 tv from fun h1 h2 w' hb => by
    obtain ⟨h3, h4⟩ := same_right ok hp h0R h1R (show clearC o1 o2 = clrAt f p by rw [hbi2, ← hbw]; exact h1)
    have h5 := h4 (show lampC o1 o2 = lampAt f p by unfold lampAt; rw [← hnow]; exact h2)
    have hfl : ∀ q, lightAt f q = ((FS q : Int), (FL q : Int)) := fun q => by rw [hlt, h3, h5]
    refine ⟨by rw [List.append_nil]; exact (ha.under hb).fld, List.Pairwise.nil, fun q => ?_, fun q hq => ?_, rfl, fun x hx => ?_, by simp, (ha.under hb).only.mono fun _ h => .inl h⟩
    · constructor
      · intro h; exact absurd h List.not_mem_nil
      · rintro ⟨_, h⟩
        exact absurd (hfl q) (of_decide_eq_true h)
    · have := hfl q
      unfold lightAt at this
      rwa [if_pos hq] at this
    · rw [List.mem_singleton.1 hx]
      exact .inl (by rw [farP_self]; omega))
  clear ok hp hold h0R h1R hF ha hb3 hb4 hb5 hb7 hav hnow hlt hl htl hnin hbw hbi hbi2 l5 l7
  refine (show Code.wp Try.prog (Code.seq (gnav (Try.f11.body.getD .skip) [true, true, true, false]) (gnav (Try.f11.body.getD .skip) [true, true, true, true])) _ _ _ from wp_seq_k ?_)
  intro K4 hK4
  have HK4 := Lib.hid hK4
  clear hK4
  refine (show Code.wp Try.prog (Code.region 4 _ true) _ _ _ from ?_)
  go_region_held (fun w' => w'.cell? ⟨b5, 0, none⟩ = some (.int .u8 o1) ∧ w'.cell? ⟨b5, 1, none⟩ = some (.int .u8 o2) ∧ w'.cell? ⟨b7, 0, none⟩ = some (.int .u8 n1) ∧ w'.cell? ⟨b7, 1, none⟩ = some (.int .u8 n2))
    (first | exact ⟨c0, c1, d0, d1⟩ | assumption | go_keep)
    (first | (go_at_call 25; (with_reducible refine HKO.out.mono ?_); rintro e wa ⟨rfl, hb⟩; have HBA := Lib.hid ((Below.refl W4.heap.size W4).drew.trans hb); have HKN4 := Lib.hid (HKN.out wa); have S_wa := CC.out _ HBA.out; clear hb) | (go_at_call 25; (with_reducible refine HKN4.out.mono ?_); rintro e wb ⟨rfl, hb⟩; have HBB := Lib.hid (HBA.out.trans (hb.mono HBA.out.size)); have S_wb := CC.out _ HBB.out; clear hb))
  clear S_wa S_wb c0 c1 d0 d1 HKN4 HKO HKN
  refine HK4.out _ _ ?_
  refine (show Code.wp Try.prog (Code.seq (gnav (Try.f11.body.getD .skip) [true, true, true, true, false]) (gnav (Try.f11.body.getD .skip) [true, true, true, true, true])) _ _ _ from wp_seq_k ?_)
  intro K5 hK5
  have HK5 := Lib.hid hK5
  clear hK5
  refine (show Code.wp Try.prog (Code.seq (Code.region 5 _ true) (Code.cond (.tmp 49) _ _)) _ _ _ from wp_seq_k ?_)
  intro K6 hK6
  have HK6 := Lib.hid hK6
  clear hK6
  have HLO4 := Lib.hid (HLO.out wb.drew)
  obtain ⟨c0, c1, d0, d1⟩ := CC.out wb HBB.out
  obtain ⟨yo, hyo⟩ : ∃ yo, yo = lampC o1 o2 := ⟨_, rfl⟩
  obtain ⟨yn, hyn⟩ : ∃ yn, yn = lampC n1 n2 := ⟨_, rfl⟩
  rw [← hyo] at HLO4 HNO
  rw [← hyn] at HLN HNO
  clear hyo hyn HLO
  by_cases hbb : bw = bi
  · subst hbb
    have hbe : (bw == bw) = true := by simp
    have HNO2 := Lib.hid (HNO.out rfl)
    clear HNO
    by_cases hyy : yo = yn
    · have HNO3 := Lib.hid (HNO2.out hyy)
      have hye : (yo == yn) = true := by rw [hyy]; simp
      clear HNO2 hyy
      go_region_held (fun w' => w'.cell? ⟨b5, 0, none⟩ = some (.int .u8 o1) ∧ w'.cell? ⟨b5, 1, none⟩ = some (.int .u8 o2) ∧ w'.cell? ⟨b7, 0, none⟩ = some (.int .u8 n1) ∧ w'.cell? ⟨b7, 1, none⟩ = some (.int .u8 n2))
        (first | exact ⟨c0, c1, d0, d1⟩ | assumption | go_keep)
        (first | (go_at_call 26; (with_reducible refine HLO4.out.mono ?_); rintro e wc ⟨rfl, hb⟩; have HBC := Lib.hid (HBB.out.drew.trans (hb.mono HBB.out.size)); have HLN4 := Lib.hid (HLN.out wc); have S_wc := CC.out _ HBC.out; clear hb) | (go_at_call 26; (with_reducible refine HLN4.out.mono ?_); rintro e wd ⟨rfl, hb⟩; have HBD := Lib.hid (HBC.out.trans (hb.mono HBC.out.size)); have S_wd := CC.out _ HBD.out; clear hb))
      clear S_wc S_wd c0 c1 d0 d1
      refine HK6.out _ _ (wp_cond_true rfl ?_)
      go_wp2
      go_ret
      exact ⟨[], [p], f.lights, av3, tv, rfl, HNO3.out wd HBD.out⟩
    · have hye : (yo == yn) = false := by simpa using hyy
      clear HNO2 hyy
      go_region_held (fun w' => w'.cell? ⟨b5, 0, none⟩ = some (.int .u8 o1) ∧ w'.cell? ⟨b5, 1, none⟩ = some (.int .u8 o2) ∧ w'.cell? ⟨b7, 0, none⟩ = some (.int .u8 n1) ∧ w'.cell? ⟨b7, 1, none⟩ = some (.int .u8 n2))
        (first | exact ⟨c0, c1, d0, d1⟩ | assumption | go_keep)
        (first | (go_at_call 26; (with_reducible refine HLO4.out.mono ?_); rintro e wc ⟨rfl, hb⟩; have HBC := Lib.hid (HBB.out.drew.trans (hb.mono HBB.out.size)); have HLN4 := Lib.hid (HLN.out wc); have S_wc := CC.out _ HBC.out; clear hb) | (go_at_call 26; (with_reducible refine HLN4.out.mono ?_); rintro e wd ⟨rfl, hb⟩; have HBD := Lib.hid (HBC.out.trans (hb.mono HBC.out.size)); have S_wd := CC.out _ HBD.out; clear hb))
      clear S_wc S_wd c0 c1 d0 d1
      refine HK6.out _ _ (wp_cond_false rfl ?_)
      go_wp2
      refine HK5.out _ _ ?_
      exact HGO.out wd HBD.out _ _ _ _ _ _ _ _ _ _ _ _ _ _ _ _ _ _ _ _ _ _ _ _ _ _ _ _ _ _ _ _ _ _ _ _ _ _ _ _ _ _ _ _ _ _ _ _ _ _ _ _ _ _ _ _ _ _ _ _ _ _ _ _ _ _ _ _ _ _ _ _ _ _ _ _ _ _ _ _ _ _ _ _ _ _ _ _ _ _ _ _ _ _ _ _ _ _ _ _ _ _ _ _ _ _ _ _ _ _ _ _ _ _ _ _ _ _ _ _ _ _ _ _ _ _ _ _ _ _ _ _ _ _ _ _ _ _ _ _ _ _ _ _ _ _ _ _
  · have hbe : (bw == bi) = false := by simpa using hbb
    clear HNO hbb
    go_quiet (fail)
    refine HK6.out _ _ (wp_cond_false rfl ?_)
    go_wp2
    refine HK5.out _ _ ?_
    exact HGO.out _ (below_drewN HBB.out _) _ _ _ _ _ _ _ _ _ _ _ _ _ _ _ _ _ _ _ _ _ _ _ _ _ _ _ _ _ _ _ _ _ _ _ _ _ _ _ _ _ _ _ _ _ _ _ _ _ _ _ _ _ _ _ _ _ _ _ _ _ _ _ _ _ _ _ _ _ _ _ _ _ _ _ _ _ _ _ _ _ _ _ _ _ _ _ _ _ _ _ _ _ _ _ _ _ _ _ _ _ _ _ _ _ _ _ _ _ _ _ _ _ _ _ _ _ _ _ _ _ _ _ _ _ _ _ _ _ _ _ _ _ _ _ _ _ _ _ _ _ _ _ _ _ _ _ _
end
end Go.Proofs.Ytlhjjmfbifhgfaa
/- A change: the walk. -/
namespace Go.Proofs.Ytlhjjmfbifhgfaa
set_option linter.unusedSimpArgs false
set_option linter.unusedVariables false
open Go.RowKit
set_option maxRecDepth 1000000

set_option maxHeartbeats 16000000 in
theorem change_any (W : World) (base g : Nat) (f : Fw) (cv lv av tv : Value) (h : FieldAt W base g f cv lv av tv) (ok : f.Ok) (p : Pl) (hp : f.b.inside p) (old : Int × Int) (hold : InU old.1 ∧ InU old.2) (FL FS FL0 FS0 : Pl → Nat) (h0R : RightOf (f.old p old) FL0 FS0) (h1R : RightOf f FL FS)
    (hlt : ∀ q, lightAt f q = ((FS0 q : Int), (FL0 q : Int))) (hl : f.asked.length ≤ 800000000) (htl : f.told.length ≤ 800000000) :
    Calls Try.prog 11 #[.iface 29 (.pointer (some ⟨g, 0, none⟩)), plV p, clV old] W fun e w' => ∃ T A L' av' tv', e = .returned (.int .i64 (T.length : Nat)) ∧ Changed W w' base g f cv lv av tv FS FL p old T A L' av' tv' := by
  have HF := Lib.hid h
  have HOK := Lib.hid ok
  have HP := Lib.hid hp
  have HOLD := Lib.hid hold
  have HMP := Lib.hid (Bx.inside_may ok.box hp)
  have HR := Lib.hid (And.intro h0R (And.intro h1R (And.intro hlt (And.intro hl htl))))
  have hmm := @run_makeMap Try.prog
  have hme := m_cell ⟨g, 0, none⟩
  have HPM := Lib.hid (fun w => pmay_any w p)
  rw [HMP.out] at HPM
  obtain ⟨W1, hW1⟩ : ∃ W1, W1 = ((W.alloc (.cells #[.iface 29 (.pointer (some ⟨g, 0, none⟩))] 64)).alloc (.cells (plC p) 23)).alloc (.cells #[.int .u8 old.1, .int .u8 old.2] 33) := ⟨_, rfl⟩
  have e1 : (W.alloc (.cells #[.iface 29 (.pointer (some ⟨g, 0, none⟩))] 64)).heap.size = W.heap.size + 1 := by simp
  have e2 : ((W.alloc (.cells #[.iface 29 (.pointer (some ⟨g, 0, none⟩))] 64)).alloc (.cells (plC p) 23)).heap.size = W.heap.size + 1 + 1 := by simp
  have hB1 : Below W.heap.size W W1 := by rw [hW1]; exact (((Below.refl _ _).alloc (Nat.le_refl _) _).alloc (by simp) _).alloc (by simp; omega) _
  have hb3 : Blk W1 W.heap.size 64 #[.iface 29 (.pointer (some ⟨g, 0, none⟩))] := by rw [hW1]; exact ((Blk.new _ _ _).alloc _).alloc _
  have hb4 : Blk W1 (W.heap.size + 1) 23 (plC p) := by
    have h1 := Blk.new (W.alloc (.cells #[.iface 29 (.pointer (some ⟨g, 0, none⟩))] 64)) 23 (plC p)
    rw [e1] at h1
    rw [hW1]; exact h1.alloc _
  have hb5 : Blk W1 (W.heap.size + 1 + 1) 33 #[.int .u8 old.1, .int .u8 old.2] := by
    have h1 := Blk.new ((W.alloc (.cells #[.iface 29 (.pointer (some ⟨g, 0, none⟩))] 64)).alloc (.cells (plC p) 23)) 33 #[.int .u8 old.1, .int .u8 old.2]
    rw [e2] at h1
    rw [hW1]; exact h1
  have HB1 := Lib.hid (And.intro hB1 (And.intro hb3 (And.intro hb4 hb5)))
  have v3 := hb3.cell 0
  obtain ⟨a0, a1, a2⟩ := three_cells hb4
  have HW1 := Lib.hid hW1
  rw [hW1] at v3 a0 a1 a2
  clear e1 e2 hB1 hb3 hb4 hb5 hW1 h ok hp hold h0R h1R hlt hl htl
  obtain ⟨px, py, pz⟩ := p
  obtain ⟨o1, o2⟩ := old
  unfold plV clV at *
  unfold plC at *
  simp only at *
  go_enter Try.func11, Try.ntmps11
  go_wp2_with fail
  rw [← HW1.out]
  go_at_call 24
  refine (HPM.out _).mono ?_
  rintro e w2 ⟨rfl, hb⟩
  have hb2 := HB1.out.1.trans (hb.mono HB1.out.1.size)
  have hsz2 := hb2.size
  have hsz1 := hb.size
  have hv3 := HB1.out.2.1.below hb HB1.out.2.1.lt
  have hv4 := HB1.out.2.2.1.below hb HB1.out.2.2.1.lt
  have hv5 := HB1.out.2.2.2.below hb HB1.out.2.2.2.lt
  have hf2 := HF.out.under hb2
  have hnew : ∀ k, W.heap.size ≤ k → ¬ QF g av.ownBlock k := fun k hk hq => by
    rcases hq with e | e
    · have := HF.out.blk.lt; omega
    · have := (HF.out.asked.lt k e.symm).2; omega
  have HNEW := Lib.hid hnew
  have HWC := Lib.hid (wcell_any w2 base g f cv lv av tv hf2 HOK.out (px, py, pz) HMP.out (by have := HR.out.2.2.2.1; omega))
  have v3 := hv3.cell 0
  obtain ⟨a0, a1, a2⟩ := three_of hv4
  have HV2 := Lib.hid (And.intro hb2 (And.intro hv3 (And.intro hv4 hv5)))
  have HS2 := Lib.hid (show W.heap.size + 3 ≤ w2.heap.size from by have := HV2.out.2.2.2.lt; omega)
  obtain ⟨⟨n1, n2⟩, hnow⟩ : ∃ n, n = cellAt f (px, py, pz) := ⟨_, rfl⟩
  rw [← hnow] at HWC
  have HNOW := Lib.hid hnow
  unfold plV plC clV at HWC
  simp only at HWC
  clear hb hb2 hsz2 hsz1 hv3 hv4 hv5 hf2 hnew hnow
  go_wp2_with fail
  go_at_call 13
  refine HWC.out.mono ?_
  rintro e w3 ⟨rfl, av3, ha3⟩
  obtain ⟨W4, hW4⟩ : ∃ W4, W4 = w3.alloc (.cells #[.int .u8 n1, .int .u8 n2] 33) := ⟨_, rfl⟩
  have hal : Below w3.heap.size w3 W4 := by rw [hW4]; exact (Below.refl _ _).alloc (Nat.le_refl _) _
  have HA4 := Lib.hid ((ha3.from_ HV2.out.1).under hal)
  have hv3 := (HV2.out.2.1.only ha3.only (HNEW.out _ (Nat.le_refl _))).below hal
  have HV4 := Lib.hid (show Blk W4 W.heap.size 64 #[.iface 29 (.pointer (some ⟨g, 0, none⟩))] ∧ Blk W4 (W.heap.size + 1) 23 #[.int .i64 px, .int .i64 py, .int .i64 pz] ∧ Blk W4 (W.heap.size + 1 + 1) 33 #[.int .u8 o1, .int .u8 o2] ∧ Blk W4 w3.heap.size 33 #[.int .u8 n1, .int .u8 n2] from by
    have h3 := HV2.out.2.1.only ha3.only (HNEW.out _ (Nat.le_refl _))
    have h4 := HV2.out.2.2.1.only ha3.only (HNEW.out _ (Nat.le_succ _))
    have h5 := HV2.out.2.2.2.only ha3.only (HNEW.out _ (by omega))
    exact ⟨h3.below hal h3.lt, h4.below hal h4.lt, h5.below hal h5.lt, by rw [hW4]; exact Blk.new _ _ _⟩)
  have hs4 : W4.heap.size = w3.heap.size + 1 := by rw [hW4]; simp
  have hs3 := ha3.only.size
  have HS4 := Lib.hid (show W.heap.size + 3 ≤ w3.heap.size ∧ w3.heap.size < W4.heap.size from by have := HS2.out; omega)
  have HNV := Lib.hid (show ∀ k, W.heap.size ≤ k → k < W.heap.size + 3 → av3.ownBlock ≠ some k from fun k h1 h2 => asked_far ha3.new (fun e => HNEW.out k h1 (.inr e.symm)) (by have := HS2.out; omega))
  have HW4 := Lib.hid hW4
  clear hal ha3 hv3 hW4 hs4 hs3 v3 a0 a1 a2
  have HASK := Lib.hid (change_ask W W4 base g W.heap.size (W.heap.size + 1) (W.heap.size + 1 + 1) w3.heap.size f cv lv av tv av3 HOK.out (px, py, pz) HP.out o1 o2 n1 n2 HOLD.out FL FS FL0 FS0 HR.out.1 HR.out.2.1 HF.out HA4.out HV4.out.1 HV4.out.2.1 HV4.out.2.2.1 HV4.out.2.2.2 (HNV.out _ (by omega) (by omega)) HNOW.out HR.out.2.2.1 HR.out.2.2.2.1 HR.out.2.2.2.2)
  rename_i K3 a3 Kl al
  have HK3 := Lib.hid a3
  clear a3
  go_wp2
  refine HK3.out _ _ ?_
  rw [← HW4.out]
  exact HASK.out _ _ _ _ _ _ _ _ _ _ _ _ _ _ _ _ _ _ _ _ _ _ _ _ _ _ _ _ _ _ _ _ _ _ _ _ _ _ _ _ _ _ _ _ _ _ _ _ _ _ _ _ _ _ _ _ _ _ _ _ _ _ _ _ _ _ _ _ _ _ _ _ _ _ _ _ _ _ _ _ _ _ _ _ _ _ _ _ _ _ _ _ _ _ _ _ _ _ _ _ _ _ _ _ _ _ _ _ _ _ _ _ _ _ _ _ _ _ _ _ _ _ _ _ _ _ _ _ _ _ _ _ _ _ _ _ _ _ _ _ _ _ _ _ _ _ _ _
end Go.Proofs.Ytlhjjmfbifhgfaa
/- What comes into a cell from its sides: the document's from: the walk. (Printed by genfrom.py.) -/
namespace Go.Proofs.Ytlhjjmfbifhgfaa
set_option linter.unusedSimpArgs false
set_option linter.unusedVariables false
open Go.RowKit
set_option maxRecDepth 1000000

/-- A row of numbers in a block, as a function. -/
def ICells (w : World) (g n : Nat) (l : Nat → Nat) : Prop := ∀ i, i < n → w.cell? ⟨g, i, none⟩ = some (.int .i64 (l i : Nat))
theorem wrap_small {i : Int} (h1 : -4000000 ≤ i) (h2 : i ≤ 4000000) : IntKind.i64.wrap i = i := IntWalk.i64_in _ (by omega)
theorem four_cells {w : World} {g t : Nat} {a b c d : Value} (h : Blk w g t #[a, b, c, d]) : w.cell? ⟨g, 0, none⟩ = some a ∧ w.cell? ⟨g, 1, none⟩ = some b ∧ w.cell? ⟨g, 2, none⟩ = some c ∧ w.cell? ⟨g, 3, none⟩ = some d := ⟨h.cell 0, h.cell 1, h.cell 2, h.cell 3⟩
section
variable (w : World) (g gl n c x y z a X Y Z : Nat) (cv : Value) (l : Nat → Nat)
set_option maxHeartbeats 4000000 in
theorem from_6 (hb : Blk w g 45 #[.int .i64 (X : Int), .int .i64 (Y : Int), .int .i64 (Z : Int), cv]) (hc : ICells w gl n l) (hn : n ≤ 1024) (hnc : n ≤ c) (hX : X ≤ 8) (hY : Y ≤ 16) (hZ : Z ≤ 8) (hx : x < X) (hy : y < Y) (hz : z < Z) (ha : a < n) (hl : ∀ i, l i ≤ 15) (q6 : (y + 1 < Y → a + X * Z < n)) (best : Nat) (hbe : best ≤ 15) (u0 u6 u7 u8 u9 u10 u13 u14 u15 u16 u17 u18 u19 u20 u21 u22 u23 u24 u25 u26 u27 u28 u29 u30 u31 u32 u33 u34 u35 u36 u37 u38 u39 u40 u41 u42 u43 u44 u45 u46 u47 u48 u49 u50 u51 u52 u53 u54 u55 u56 u57 u58 u59 u60 u61 u62 u63 u64 u65 u66 u67 u68 u69 u70 u71 u72 u73 u74 u75 u76 u77 u78 u79 u80 u81 u82 u83 u84 u85 u86 u87 u88 u89 u90 u91 u92 u93 u94 u95 u96 u97 u98 u99 u100 u101 u102 u103 u104 u105 u106 u107 : Value) :
    Code.wp Try.prog (gnav (Try.f76.body.getD .skip) [true, true, true, true, true, true, true, true]) (bodyPost Try.prog Try.f76 fun e w' => e = .returned (.int .i64 ((if y + 1 < Y then max best (l (a + X * Z) - 1) else best) : Nat)) ∧ w = w') { tmps := #[u0, .slice (some ⟨gl, 0, none⟩) n c, .int .i64 (x : Int), .int .i64 (y : Int), .int .i64 (z : Int), .pointer (some ⟨g, 0, none⟩), u6, u7, u8, u9, u10, .int .i64 (best : Int), .int .i64 (a : Int), u13, u14, u15, u16, u17, u18, u19, u20, u21, u22, u23, u24, u25, u26, u27, u28, u29, u30, u31, u32, u33, u34, u35, u36, u37, u38, u39, u40, u41, u42, u43, u44, u45, u46, u47, u48, u49, u50, u51, u52, u53, u54, u55, u56, u57, u58, u59, u60, u61, u62, u63, u64, u65, u66, u67, u68, u69, u70, u71, u72, u73, u74, u75, u76, u77, u78, u79, u80, u81, u82, u83, u84, u85, u86, u87, u88, u89, u90, u91, u92, u93, u94, u95, u96, u97, u98, u99, u100, u101, u102, u103, u104, u105, u106, u107], defers := [] } w := by
  refine (show Code.wp Try.prog (Code.seq (gnav (Try.f76.body.getD .skip) [true, true, true, true, true, true, true, true, false]) (gnav (Try.f76.body.getD .skip) [true, true, true, true, true, true, true, true, true])) _ _ _ from wp_seq_k ?_)
  intro K hK
  have HK := Lib.hid hK
  clear hK
  obtain ⟨e0, e1, e2, -⟩ := four_cells hb
  refine (show Code.wp Try.prog (Code.seq (Code.region 13 _ false) (Code.cond _ _ _)) _ _ _ from ?_)
  by_cases hq : y + 1 < Y
  · have hqi : (y : Int) + 1 < (Y : Int) := by omega
    have hbd := q6 hq
    have p0 : (0 : Int) ≤ (X : Int) * (Z : Int) := Int.mul_nonneg (by omega) (by omega)
    have p1 : (X : Int) * (Z : Int) ≤ 8 * 8 := Int.mul_le_mul (by omega) (by omega) (by omega) (by omega)
    have pc : ((X * Z : Nat) : Int) = (X : Int) * (Z : Int) := by push_cast; rfl
    have w0 : IntKind.i64.wrap ((X : Int) * (Z : Int)) = (X : Int) * (Z : Int) := wrap_small (by omega) (by omega)
    have hof : (a : Int) + (X : Int) * (Z : Int) = ((a + X * Z : Nat) : Int) := by rw [← pc]; omega
    have w1 : IntKind.i64.wrap ((a : Int) + (X : Int) * (Z : Int)) = ((a + X * Z : Nat) : Int) := by rw [hof]; exact wrap_small (by omega) (by omega)
    have hlt : a + X * Z < n := by omega
    have hlti : ((a + X * Z : Nat) : Int) < (n : Int) := by omega
    have c0 := hc (a + X * Z) hlt
    have hlv := hl (a + X * Z)
    have HE := Lib.hid (show (if y + 1 < Y then max best (l (a + X * Z) - 1) else best) = max best (l (a + X * Z) - 1) from if_pos hq)
    generalize hj : a + X * Z = j at *
    generalize l j = v at *
    have HM := Lib.hid (show max (best : Int) ((v : Int) - 1) = ((max best (v - 1) : Nat) : Int) by omega)
    have HMB := Lib.hid (show max best (v - 1) ≤ 15 by omega)
    have w2 : IntKind.i64.wrap ((v : Int) - 1) = (v : Int) - 1 := wrap_small (by omega) (by omega)
    clear hb hc hq hbd hlt hj
    go_wp2
    rw [HM.out]
    refine HK.out _ _ ?_
    rw [HE.out]
    refine (show Code.wp Try.prog (Code.seq (Code.region 15 _ false) _) _ _ _ from ?_)
    go_wp2
    go_ret
    exact ⟨rfl, rfl⟩
  · have hqi : ¬ (y : Int) + 1 < (Y : Int) := by omega
    have HE := Lib.hid (show (if y + 1 < Y then max best (l (a + X * Z) - 1) else best) = best from if_neg hq)
    clear hb hc hq
    go_wp2
    refine HK.out _ _ ?_
    rw [HE.out]
    refine (show Code.wp Try.prog (Code.seq (Code.region 15 _ false) _) _ _ _ from ?_)
    go_wp2
    go_ret
    exact ⟨rfl, rfl⟩
set_option maxHeartbeats 4000000 in
theorem from_5 (hb : Blk w g 45 #[.int .i64 (X : Int), .int .i64 (Y : Int), .int .i64 (Z : Int), cv]) (hc : ICells w gl n l) (hn : n ≤ 1024) (hnc : n ≤ c) (hX : X ≤ 8) (hY : Y ≤ 16) (hZ : Z ≤ 8) (hx : x < X) (hy : y < Y) (hz : z < Z) (ha : a < n) (hl : ∀ i, l i ≤ 15) (q5 : (0 < y → X * Z ≤ a)) (q6 : (y + 1 < Y → a + X * Z < n)) (best : Nat) (hbe : best ≤ 15) (u0 u6 u7 u8 u9 u10 u13 u14 u15 u16 u17 u18 u19 u20 u21 u22 u23 u24 u25 u26 u27 u28 u29 u30 u31 u32 u33 u34 u35 u36 u37 u38 u39 u40 u41 u42 u43 u44 u45 u46 u47 u48 u49 u50 u51 u52 u53 u54 u55 u56 u57 u58 u59 u60 u61 u62 u63 u64 u65 u66 u67 u68 u69 u70 u71 u72 u73 u74 u75 u76 u77 u78 u79 u80 u81 u82 u83 u84 u85 u86 u87 u88 u89 u90 u91 u92 u93 u94 u95 u96 u97 u98 u99 u100 u101 u102 u103 u104 u105 u106 u107 : Value) :
    Code.wp Try.prog (gnav (Try.f76.body.getD .skip) [true, true, true, true, true, true, true]) (bodyPost Try.prog Try.f76 fun e w' => e = .returned (.int .i64 ((if y + 1 < Y then max (if 0 < y then max best (l (a - X * Z) - 1) else best) (l (a + X * Z) - 1) else (if 0 < y then max best (l (a - X * Z) - 1) else best)) : Nat)) ∧ w = w') { tmps := #[u0, .slice (some ⟨gl, 0, none⟩) n c, .int .i64 (x : Int), .int .i64 (y : Int), .int .i64 (z : Int), .pointer (some ⟨g, 0, none⟩), u6, u7, u8, u9, u10, .int .i64 (best : Int), .int .i64 (a : Int), u13, u14, u15, u16, u17, u18, u19, u20, u21, u22, u23, u24, u25, u26, u27, u28, u29, u30, u31, u32, u33, u34, u35, u36, u37, u38, u39, u40, u41, u42, u43, u44, u45, u46, u47, u48, u49, u50, u51, u52, u53, u54, u55, u56, u57, u58, u59, u60, u61, u62, u63, u64, u65, u66, u67, u68, u69, u70, u71, u72, u73, u74, u75, u76, u77, u78, u79, u80, u81, u82, u83, u84, u85, u86, u87, u88, u89, u90, u91, u92, u93, u94, u95, u96, u97, u98, u99, u100, u101, u102, u103, u104, u105, u106, u107], defers := [] } w := by
  refine (show Code.wp Try.prog (Code.seq (gnav (Try.f76.body.getD .skip) [true, true, true, true, true, true, true, false]) (gnav (Try.f76.body.getD .skip) [true, true, true, true, true, true, true, true])) _ _ _ from wp_seq_k ?_)
  intro K hK
  have HK := Lib.hid hK
  clear hK
  obtain ⟨e0, e1, e2, -⟩ := four_cells hb
  have HN := Lib.hid (from_6 w g gl n c x y z a X Y Z cv l hb hc hn hnc hX hY hZ hx hy hz ha hl q6)
  refine (show Code.wp Try.prog (Code.seq (Code.region 11 _ false) (Code.cond _ _ _)) _ _ _ from ?_)
  by_cases hq : 0 < y
  · have hqi : (0 : Int) < (y : Int) := by omega
    have hbd := q5 hq
    have p0 : (0 : Int) ≤ (X : Int) * (Z : Int) := Int.mul_nonneg (by omega) (by omega)
    have p1 : (X : Int) * (Z : Int) ≤ 8 * 8 := Int.mul_le_mul (by omega) (by omega) (by omega) (by omega)
    have pc : ((X * Z : Nat) : Int) = (X : Int) * (Z : Int) := by push_cast; rfl
    have w0 : IntKind.i64.wrap ((X : Int) * (Z : Int)) = (X : Int) * (Z : Int) := wrap_small (by omega) (by omega)
    have hof : (a : Int) - (X : Int) * (Z : Int) = ((a - X * Z : Nat) : Int) := by rw [← pc]; omega
    have w1 : IntKind.i64.wrap ((a : Int) - (X : Int) * (Z : Int)) = ((a - X * Z : Nat) : Int) := by rw [hof]; exact wrap_small (by omega) (by omega)
    have hlt : a - X * Z < n := by omega
    have hlti : ((a - X * Z : Nat) : Int) < (n : Int) := by omega
    have c0 := hc (a - X * Z) hlt
    have hlv := hl (a - X * Z)
    have HE := Lib.hid (show (if 0 < y then max best (l (a - X * Z) - 1) else best) = max best (l (a - X * Z) - 1) from if_pos hq)
    generalize hj : a - X * Z = j at *
    generalize l j = v at *
    have HM := Lib.hid (show max (best : Int) ((v : Int) - 1) = ((max best (v - 1) : Nat) : Int) by omega)
    have HMB := Lib.hid (show max best (v - 1) ≤ 15 by omega)
    have w2 : IntKind.i64.wrap ((v : Int) - 1) = (v : Int) - 1 := wrap_small (by omega) (by omega)
    clear hb hc hq hbd hlt hj
    go_wp2
    rw [HM.out]
    refine HK.out _ _ ?_
    rw [HE.out]
    exact HN.out _ HMB.out _ _ _ _ _ _ _ _ _ _ _ _ _ _ _ _ _ _ _ _ _ _ _ _ _ _ _ _ _ _ _ _ _ _ _ _ _ _ _ _ _ _ _ _ _ _ _ _ _ _ _ _ _ _ _ _ _ _ _ _ _ _ _ _ _ _ _ _ _ _ _ _ _ _ _ _ _ _ _ _ _ _ _ _ _ _ _ _ _ _ _ _ _ _ _ _ _ _ _ _ _
  · have hqi : ¬ (0 : Int) < (y : Int) := by omega
    have HE := Lib.hid (show (if 0 < y then max best (l (a - X * Z) - 1) else best) = best from if_neg hq)
    clear hb hc hq
    go_wp2
    refine HK.out _ _ ?_
    rw [HE.out]
    exact HN.out _ hbe _ _ _ _ _ _ _ _ _ _ _ _ _ _ _ _ _ _ _ _ _ _ _ _ _ _ _ _ _ _ _ _ _ _ _ _ _ _ _ _ _ _ _ _ _ _ _ _ _ _ _ _ _ _ _ _ _ _ _ _ _ _ _ _ _ _ _ _ _ _ _ _ _ _ _ _ _ _ _ _ _ _ _ _ _ _ _ _ _ _ _ _ _ _ _ _ _ _ _ _ _
set_option maxHeartbeats 4000000 in
theorem from_4 (hb : Blk w g 45 #[.int .i64 (X : Int), .int .i64 (Y : Int), .int .i64 (Z : Int), cv]) (hc : ICells w gl n l) (hn : n ≤ 1024) (hnc : n ≤ c) (hX : X ≤ 8) (hY : Y ≤ 16) (hZ : Z ≤ 8) (hx : x < X) (hy : y < Y) (hz : z < Z) (ha : a < n) (hl : ∀ i, l i ≤ 15) (q4 : (z + 1 < Z → a + X < n)) (q5 : (0 < y → X * Z ≤ a)) (q6 : (y + 1 < Y → a + X * Z < n)) (best : Nat) (hbe : best ≤ 15) (u0 u6 u7 u8 u9 u10 u13 u14 u15 u16 u17 u18 u19 u20 u21 u22 u23 u24 u25 u26 u27 u28 u29 u30 u31 u32 u33 u34 u35 u36 u37 u38 u39 u40 u41 u42 u43 u44 u45 u46 u47 u48 u49 u50 u51 u52 u53 u54 u55 u56 u57 u58 u59 u60 u61 u62 u63 u64 u65 u66 u67 u68 u69 u70 u71 u72 u73 u74 u75 u76 u77 u78 u79 u80 u81 u82 u83 u84 u85 u86 u87 u88 u89 u90 u91 u92 u93 u94 u95 u96 u97 u98 u99 u100 u101 u102 u103 u104 u105 u106 u107 : Value) :
    Code.wp Try.prog (gnav (Try.f76.body.getD .skip) [true, true, true, true, true, true]) (bodyPost Try.prog Try.f76 fun e w' => e = .returned (.int .i64 ((if y + 1 < Y then max (if 0 < y then max (if z + 1 < Z then max best (l (a + X) - 1) else best) (l (a - X * Z) - 1) else (if z + 1 < Z then max best (l (a + X) - 1) else best)) (l (a + X * Z) - 1) else (if 0 < y then max (if z + 1 < Z then max best (l (a + X) - 1) else best) (l (a - X * Z) - 1) else (if z + 1 < Z then max best (l (a + X) - 1) else best))) : Nat)) ∧ w = w') { tmps := #[u0, .slice (some ⟨gl, 0, none⟩) n c, .int .i64 (x : Int), .int .i64 (y : Int), .int .i64 (z : Int), .pointer (some ⟨g, 0, none⟩), u6, u7, u8, u9, u10, .int .i64 (best : Int), .int .i64 (a : Int), u13, u14, u15, u16, u17, u18, u19, u20, u21, u22, u23, u24, u25, u26, u27, u28, u29, u30, u31, u32, u33, u34, u35, u36, u37, u38, u39, u40, u41, u42, u43, u44, u45, u46, u47, u48, u49, u50, u51, u52, u53, u54, u55, u56, u57, u58, u59, u60, u61, u62, u63, u64, u65, u66, u67, u68, u69, u70, u71, u72, u73, u74, u75, u76, u77, u78, u79, u80, u81, u82, u83, u84, u85, u86, u87, u88, u89, u90, u91, u92, u93, u94, u95, u96, u97, u98, u99, u100, u101, u102, u103, u104, u105, u106, u107], defers := [] } w := by
  refine (show Code.wp Try.prog (Code.seq (gnav (Try.f76.body.getD .skip) [true, true, true, true, true, true, false]) (gnav (Try.f76.body.getD .skip) [true, true, true, true, true, true, true])) _ _ _ from wp_seq_k ?_)
  intro K hK
  have HK := Lib.hid hK
  clear hK
  obtain ⟨e0, e1, e2, -⟩ := four_cells hb
  have HN := Lib.hid (from_5 w g gl n c x y z a X Y Z cv l hb hc hn hnc hX hY hZ hx hy hz ha hl q5 q6)
  refine (show Code.wp Try.prog (Code.seq (Code.region 9 _ false) (Code.cond _ _ _)) _ _ _ from ?_)
  by_cases hq : z + 1 < Z
  · have hqi : (z : Int) + 1 < (Z : Int) := by omega
    have hbd := q4 hq
    have hof : (a : Int) + (X : Int) = ((a + X : Nat) : Int) := by omega
    have w1 : IntKind.i64.wrap ((a : Int) + (X : Int)) = ((a + X : Nat) : Int) := by rw [hof]; exact wrap_small (by omega) (by omega)
    have hlt : a + X < n := by omega
    have hlti : ((a + X : Nat) : Int) < (n : Int) := by omega
    have c0 := hc (a + X) hlt
    have hlv := hl (a + X)
    have HE := Lib.hid (show (if z + 1 < Z then max best (l (a + X) - 1) else best) = max best (l (a + X) - 1) from if_pos hq)
    generalize hj : a + X = j at *
    generalize l j = v at *
    have HM := Lib.hid (show max (best : Int) ((v : Int) - 1) = ((max best (v - 1) : Nat) : Int) by omega)
    have HMB := Lib.hid (show max best (v - 1) ≤ 15 by omega)
    have w2 : IntKind.i64.wrap ((v : Int) - 1) = (v : Int) - 1 := wrap_small (by omega) (by omega)
    clear hb hc hq hbd hlt hj
    go_wp2
    rw [HM.out]
    refine HK.out _ _ ?_
    rw [HE.out]
    exact HN.out _ HMB.out _ _ _ _ _ _ _ _ _ _ _ _ _ _ _ _ _ _ _ _ _ _ _ _ _ _ _ _ _ _ _ _ _ _ _ _ _ _ _ _ _ _ _ _ _ _ _ _ _ _ _ _ _ _ _ _ _ _ _ _ _ _ _ _ _ _ _ _ _ _ _ _ _ _ _ _ _ _ _ _ _ _ _ _ _ _ _ _ _ _ _ _ _ _ _ _ _ _ _ _ _
  · have hqi : ¬ (z : Int) + 1 < (Z : Int) := by omega
    have HE := Lib.hid (show (if z + 1 < Z then max best (l (a + X) - 1) else best) = best from if_neg hq)
    clear hb hc hq
    go_wp2
    refine HK.out _ _ ?_
    rw [HE.out]
    exact HN.out _ hbe _ _ _ _ _ _ _ _ _ _ _ _ _ _ _ _ _ _ _ _ _ _ _ _ _ _ _ _ _ _ _ _ _ _ _ _ _ _ _ _ _ _ _ _ _ _ _ _ _ _ _ _ _ _ _ _ _ _ _ _ _ _ _ _ _ _ _ _ _ _ _ _ _ _ _ _ _ _ _ _ _ _ _ _ _ _ _ _ _ _ _ _ _ _ _ _ _ _ _ _ _
set_option maxHeartbeats 4000000 in
theorem from_3 (hb : Blk w g 45 #[.int .i64 (X : Int), .int .i64 (Y : Int), .int .i64 (Z : Int), cv]) (hc : ICells w gl n l) (hn : n ≤ 1024) (hnc : n ≤ c) (hX : X ≤ 8) (hY : Y ≤ 16) (hZ : Z ≤ 8) (hx : x < X) (hy : y < Y) (hz : z < Z) (ha : a < n) (hl : ∀ i, l i ≤ 15) (q3 : (0 < z → X ≤ a)) (q4 : (z + 1 < Z → a + X < n)) (q5 : (0 < y → X * Z ≤ a)) (q6 : (y + 1 < Y → a + X * Z < n)) (best : Nat) (hbe : best ≤ 15) (u0 u6 u7 u8 u9 u10 u13 u14 u15 u16 u17 u18 u19 u20 u21 u22 u23 u24 u25 u26 u27 u28 u29 u30 u31 u32 u33 u34 u35 u36 u37 u38 u39 u40 u41 u42 u43 u44 u45 u46 u47 u48 u49 u50 u51 u52 u53 u54 u55 u56 u57 u58 u59 u60 u61 u62 u63 u64 u65 u66 u67 u68 u69 u70 u71 u72 u73 u74 u75 u76 u77 u78 u79 u80 u81 u82 u83 u84 u85 u86 u87 u88 u89 u90 u91 u92 u93 u94 u95 u96 u97 u98 u99 u100 u101 u102 u103 u104 u105 u106 u107 : Value) :
    Code.wp Try.prog (gnav (Try.f76.body.getD .skip) [true, true, true, true, true]) (bodyPost Try.prog Try.f76 fun e w' => e = .returned (.int .i64 ((if y + 1 < Y then max (if 0 < y then max (if z + 1 < Z then max (if 0 < z then max best (l (a - X) - 1) else best) (l (a + X) - 1) else (if 0 < z then max best (l (a - X) - 1) else best)) (l (a - X * Z) - 1) else (if z + 1 < Z then max (if 0 < z then max best (l (a - X) - 1) else best) (l (a + X) - 1) else (if 0 < z then max best (l (a - X) - 1) else best))) (l (a + X * Z) - 1) else (if 0 < y then max (if z + 1 < Z then max (if 0 < z then max best (l (a - X) - 1) else best) (l (a + X) - 1) else (if 0 < z then max best (l (a - X) - 1) else best)) (l (a - X * Z) - 1) else (if z + 1 < Z then max (if 0 < z then max best (l (a - X) - 1) else best) (l (a + X) - 1) else (if 0 < z then max best (l (a - X) - 1) else best)))) : Nat)) ∧ w = w') { tmps := #[u0, .slice (some ⟨gl, 0, none⟩) n c, .int .i64 (x : Int), .int .i64 (y : Int), .int .i64 (z : Int), .pointer (some ⟨g, 0, none⟩), u6, u7, u8, u9, u10, .int .i64 (best : Int), .int .i64 (a : Int), u13, u14, u15, u16, u17, u18, u19, u20, u21, u22, u23, u24, u25, u26, u27, u28, u29, u30, u31, u32, u33, u34, u35, u36, u37, u38, u39, u40, u41, u42, u43, u44, u45, u46, u47, u48, u49, u50, u51, u52, u53, u54, u55, u56, u57, u58, u59, u60, u61, u62, u63, u64, u65, u66, u67, u68, u69, u70, u71, u72, u73, u74, u75, u76, u77, u78, u79, u80, u81, u82, u83, u84, u85, u86, u87, u88, u89, u90, u91, u92, u93, u94, u95, u96, u97, u98, u99, u100, u101, u102, u103, u104, u105, u106, u107], defers := [] } w := by
  refine (show Code.wp Try.prog (Code.seq (gnav (Try.f76.body.getD .skip) [true, true, true, true, true, false]) (gnav (Try.f76.body.getD .skip) [true, true, true, true, true, true])) _ _ _ from wp_seq_k ?_)
  intro K hK
  have HK := Lib.hid hK
  clear hK
  obtain ⟨e0, e1, e2, -⟩ := four_cells hb
  have HN := Lib.hid (from_4 w g gl n c x y z a X Y Z cv l hb hc hn hnc hX hY hZ hx hy hz ha hl q4 q5 q6)
  refine (show Code.wp Try.prog (Code.seq (Code.region 7 _ false) (Code.cond _ _ _)) _ _ _ from ?_)
  by_cases hq : 0 < z
  · have hqi : (0 : Int) < (z : Int) := by omega
    have hbd := q3 hq
    have hof : (a : Int) - (X : Int) = ((a - X : Nat) : Int) := by omega
    have w1 : IntKind.i64.wrap ((a : Int) - (X : Int)) = ((a - X : Nat) : Int) := by rw [hof]; exact wrap_small (by omega) (by omega)
    have hlt : a - X < n := by omega
    have hlti : ((a - X : Nat) : Int) < (n : Int) := by omega
    have c0 := hc (a - X) hlt
    have hlv := hl (a - X)
    have HE := Lib.hid (show (if 0 < z then max best (l (a - X) - 1) else best) = max best (l (a - X) - 1) from if_pos hq)
    generalize hj : a - X = j at *
    generalize l j = v at *
    have HM := Lib.hid (show max (best : Int) ((v : Int) - 1) = ((max best (v - 1) : Nat) : Int) by omega)
    have HMB := Lib.hid (show max best (v - 1) ≤ 15 by omega)
    have w2 : IntKind.i64.wrap ((v : Int) - 1) = (v : Int) - 1 := wrap_small (by omega) (by omega)
    clear hb hc hq hbd hlt hj
    go_wp2
    rw [HM.out]
    refine HK.out _ _ ?_
    rw [HE.out]
    exact HN.out _ HMB.out _ _ _ _ _ _ _ _ _ _ _ _ _ _ _ _ _ _ _ _ _ _ _ _ _ _ _ _ _ _ _ _ _ _ _ _ _ _ _ _ _ _ _ _ _ _ _ _ _ _ _ _ _ _ _ _ _ _ _ _ _ _ _ _ _ _ _ _ _ _ _ _ _ _ _ _ _ _ _ _ _ _ _ _ _ _ _ _ _ _ _ _ _ _ _ _ _ _ _ _ _
  · have hqi : ¬ (0 : Int) < (z : Int) := by omega
    have HE := Lib.hid (show (if 0 < z then max best (l (a - X) - 1) else best) = best from if_neg hq)
    clear hb hc hq
    go_wp2
    refine HK.out _ _ ?_
    rw [HE.out]
    exact HN.out _ hbe _ _ _ _ _ _ _ _ _ _ _ _ _ _ _ _ _ _ _ _ _ _ _ _ _ _ _ _ _ _ _ _ _ _ _ _ _ _ _ _ _ _ _ _ _ _ _ _ _ _ _ _ _ _ _ _ _ _ _ _ _ _ _ _ _ _ _ _ _ _ _ _ _ _ _ _ _ _ _ _ _ _ _ _ _ _ _ _ _ _ _ _ _ _ _ _ _ _ _ _ _
set_option maxHeartbeats 4000000 in
theorem from_2 (hb : Blk w g 45 #[.int .i64 (X : Int), .int .i64 (Y : Int), .int .i64 (Z : Int), cv]) (hc : ICells w gl n l) (hn : n ≤ 1024) (hnc : n ≤ c) (hX : X ≤ 8) (hY : Y ≤ 16) (hZ : Z ≤ 8) (hx : x < X) (hy : y < Y) (hz : z < Z) (ha : a < n) (hl : ∀ i, l i ≤ 15) (q2 : (x + 1 < X → a + 1 < n)) (q3 : (0 < z → X ≤ a)) (q4 : (z + 1 < Z → a + X < n)) (q5 : (0 < y → X * Z ≤ a)) (q6 : (y + 1 < Y → a + X * Z < n)) (best : Nat) (hbe : best ≤ 15) (u0 u6 u7 u8 u9 u10 u13 u14 u15 u16 u17 u18 u19 u20 u21 u22 u23 u24 u25 u26 u27 u28 u29 u30 u31 u32 u33 u34 u35 u36 u37 u38 u39 u40 u41 u42 u43 u44 u45 u46 u47 u48 u49 u50 u51 u52 u53 u54 u55 u56 u57 u58 u59 u60 u61 u62 u63 u64 u65 u66 u67 u68 u69 u70 u71 u72 u73 u74 u75 u76 u77 u78 u79 u80 u81 u82 u83 u84 u85 u86 u87 u88 u89 u90 u91 u92 u93 u94 u95 u96 u97 u98 u99 u100 u101 u102 u103 u104 u105 u106 u107 : Value) :
    Code.wp Try.prog (gnav (Try.f76.body.getD .skip) [true, true, true, true]) (bodyPost Try.prog Try.f76 fun e w' => e = .returned (.int .i64 ((if y + 1 < Y then max (if 0 < y then max (if z + 1 < Z then max (if 0 < z then max (if x + 1 < X then max best (l (a + 1) - 1) else best) (l (a - X) - 1) else (if x + 1 < X then max best (l (a + 1) - 1) else best)) (l (a + X) - 1) else (if 0 < z then max (if x + 1 < X then max best (l (a + 1) - 1) else best) (l (a - X) - 1) else (if x + 1 < X then max best (l (a + 1) - 1) else best))) (l (a - X * Z) - 1) else (if z + 1 < Z then max (if 0 < z then max (if x + 1 < X then max best (l (a + 1) - 1) else best) (l (a - X) - 1) else (if x + 1 < X then max best (l (a + 1) - 1) else best)) (l (a + X) - 1) else (if 0 < z then max (if x + 1 < X then max best (l (a + 1) - 1) else best) (l (a - X) - 1) else (if x + 1 < X then max best (l (a + 1) - 1) else best)))) (l (a + X * Z) - 1) else (if 0 < y then max (if z + 1 < Z then max (if 0 < z then max (if x + 1 < X then max best (l (a + 1) - 1) else best) (l (a - X) - 1) else (if x + 1 < X then max best (l (a + 1) - 1) else best)) (l (a + X) - 1) else (if 0 < z then max (if x + 1 < X then max best (l (a + 1) - 1) else best) (l (a - X) - 1) else (if x + 1 < X then max best (l (a + 1) - 1) else best))) (l (a - X * Z) - 1) else (if z + 1 < Z then max (if 0 < z then max (if x + 1 < X then max best (l (a + 1) - 1) else best) (l (a - X) - 1) else (if x + 1 < X then max best (l (a + 1) - 1) else best)) (l (a + X) - 1) else (if 0 < z then max (if x + 1 < X then max best (l (a + 1) - 1) else best) (l (a - X) - 1) else (if x + 1 < X then max best (l (a + 1) - 1) else best))))) : Nat)) ∧ w = w') { tmps := #[u0, .slice (some ⟨gl, 0, none⟩) n c, .int .i64 (x : Int), .int .i64 (y : Int), .int .i64 (z : Int), .pointer (some ⟨g, 0, none⟩), u6, u7, u8, u9, u10, .int .i64 (best : Int), .int .i64 (a : Int), u13, u14, u15, u16, u17, u18, u19, u20, u21, u22, u23, u24, u25, u26, u27, u28, u29, u30, u31, u32, u33, u34, u35, u36, u37, u38, u39, u40, u41, u42, u43, u44, u45, u46, u47, u48, u49, u50, u51, u52, u53, u54, u55, u56, u57, u58, u59, u60, u61, u62, u63, u64, u65, u66, u67, u68, u69, u70, u71, u72, u73, u74, u75, u76, u77, u78, u79, u80, u81, u82, u83, u84, u85, u86, u87, u88, u89, u90, u91, u92, u93, u94, u95, u96, u97, u98, u99, u100, u101, u102, u103, u104, u105, u106, u107], defers := [] } w := by
  refine (show Code.wp Try.prog (Code.seq (gnav (Try.f76.body.getD .skip) [true, true, true, true, false]) (gnav (Try.f76.body.getD .skip) [true, true, true, true, true])) _ _ _ from wp_seq_k ?_)
  intro K hK
  have HK := Lib.hid hK
  clear hK
  obtain ⟨e0, e1, e2, -⟩ := four_cells hb
  have HN := Lib.hid (from_3 w g gl n c x y z a X Y Z cv l hb hc hn hnc hX hY hZ hx hy hz ha hl q3 q4 q5 q6)
  refine (show Code.wp Try.prog (Code.seq (Code.region 5 _ false) (Code.cond _ _ _)) _ _ _ from ?_)
  by_cases hq : x + 1 < X
  · have hqi : (x : Int) + 1 < (X : Int) := by omega
    have hbd := q2 hq
    have hof : (a : Int) + 1 = ((a + 1 : Nat) : Int) := by omega
    have w1 : IntKind.i64.wrap ((a : Int) + 1) = ((a + 1 : Nat) : Int) := by rw [hof]; exact wrap_small (by omega) (by omega)
    have hlt : a + 1 < n := by omega
    have hlti : ((a + 1 : Nat) : Int) < (n : Int) := by omega
    have c0 := hc (a + 1) hlt
    have hlv := hl (a + 1)
    have HE := Lib.hid (show (if x + 1 < X then max best (l (a + 1) - 1) else best) = max best (l (a + 1) - 1) from if_pos hq)
    generalize hj : a + 1 = j at *
    generalize l j = v at *
    have HM := Lib.hid (show max (best : Int) ((v : Int) - 1) = ((max best (v - 1) : Nat) : Int) by omega)
    have HMB := Lib.hid (show max best (v - 1) ≤ 15 by omega)
    have w2 : IntKind.i64.wrap ((v : Int) - 1) = (v : Int) - 1 := wrap_small (by omega) (by omega)
    clear hb hc hq hbd hlt hj
    go_wp2
    rw [HM.out]
    refine HK.out _ _ ?_
    rw [HE.out]
    exact HN.out _ HMB.out _ _ _ _ _ _ _ _ _ _ _ _ _ _ _ _ _ _ _ _ _ _ _ _ _ _ _ _ _ _ _ _ _ _ _ _ _ _ _ _ _ _ _ _ _ _ _ _ _ _ _ _ _ _ _ _ _ _ _ _ _ _ _ _ _ _ _ _ _ _ _ _ _ _ _ _ _ _ _ _ _ _ _ _ _ _ _ _ _ _ _ _ _ _ _ _ _ _ _ _ _
  · have hqi : ¬ (x : Int) + 1 < (X : Int) := by omega
    have HE := Lib.hid (show (if x + 1 < X then max best (l (a + 1) - 1) else best) = best from if_neg hq)
    clear hb hc hq
    go_wp2
    refine HK.out _ _ ?_
    rw [HE.out]
    exact HN.out _ hbe _ _ _ _ _ _ _ _ _ _ _ _ _ _ _ _ _ _ _ _ _ _ _ _ _ _ _ _ _ _ _ _ _ _ _ _ _ _ _ _ _ _ _ _ _ _ _ _ _ _ _ _ _ _ _ _ _ _ _ _ _ _ _ _ _ _ _ _ _ _ _ _ _ _ _ _ _ _ _ _ _ _ _ _ _ _ _ _ _ _ _ _ _ _ _ _ _ _ _ _ _
set_option maxHeartbeats 4000000 in
theorem from_1 (hb : Blk w g 45 #[.int .i64 (X : Int), .int .i64 (Y : Int), .int .i64 (Z : Int), cv]) (hc : ICells w gl n l) (hn : n ≤ 1024) (hnc : n ≤ c) (hX : X ≤ 8) (hY : Y ≤ 16) (hZ : Z ≤ 8) (hx : x < X) (hy : y < Y) (hz : z < Z) (ha : a < n) (hl : ∀ i, l i ≤ 15) (q1 : (0 < x → 1 ≤ a)) (q2 : (x + 1 < X → a + 1 < n)) (q3 : (0 < z → X ≤ a)) (q4 : (z + 1 < Z → a + X < n)) (q5 : (0 < y → X * Z ≤ a)) (q6 : (y + 1 < Y → a + X * Z < n)) (best : Nat) (hbe : best ≤ 15) (u0 u6 u7 u8 u9 u10 u13 u14 u15 u16 u17 u18 u19 u20 u21 u22 u23 u24 u25 u26 u27 u28 u29 u30 u31 u32 u33 u34 u35 u36 u37 u38 u39 u40 u41 u42 u43 u44 u45 u46 u47 u48 u49 u50 u51 u52 u53 u54 u55 u56 u57 u58 u59 u60 u61 u62 u63 u64 u65 u66 u67 u68 u69 u70 u71 u72 u73 u74 u75 u76 u77 u78 u79 u80 u81 u82 u83 u84 u85 u86 u87 u88 u89 u90 u91 u92 u93 u94 u95 u96 u97 u98 u99 u100 u101 u102 u103 u104 u105 u106 u107 : Value) :
    Code.wp Try.prog (gnav (Try.f76.body.getD .skip) [true, true, true]) (bodyPost Try.prog Try.f76 fun e w' => e = .returned (.int .i64 ((if y + 1 < Y then max (if 0 < y then max (if z + 1 < Z then max (if 0 < z then max (if x + 1 < X then max (if 0 < x then max best (l (a - 1) - 1) else best) (l (a + 1) - 1) else (if 0 < x then max best (l (a - 1) - 1) else best)) (l (a - X) - 1) else (if x + 1 < X then max (if 0 < x then max best (l (a - 1) - 1) else best) (l (a + 1) - 1) else (if 0 < x then max best (l (a - 1) - 1) else best))) (l (a + X) - 1) else (if 0 < z then max (if x + 1 < X then max (if 0 < x then max best (l (a - 1) - 1) else best) (l (a + 1) - 1) else (if 0 < x then max best (l (a - 1) - 1) else best)) (l (a - X) - 1) else (if x + 1 < X then max (if 0 < x then max best (l (a - 1) - 1) else best) (l (a + 1) - 1) else (if 0 < x then max best (l (a - 1) - 1) else best)))) (l (a - X * Z) - 1) else (if z + 1 < Z then max (if 0 < z then max (if x + 1 < X then max (if 0 < x then max best (l (a - 1) - 1) else best) (l (a + 1) - 1) else (if 0 < x then max best (l (a - 1) - 1) else best)) (l (a - X) - 1) else (if x + 1 < X then max (if 0 < x then max best (l (a - 1) - 1) else best) (l (a + 1) - 1) else (if 0 < x then max best (l (a - 1) - 1) else best))) (l (a + X) - 1) else (if 0 < z then max (if x + 1 < X then max (if 0 < x then max best (l (a - 1) - 1) else best) (l (a + 1) - 1) else (if 0 < x then max best (l (a - 1) - 1) else best)) (l (a - X) - 1) else (if x + 1 < X then max (if 0 < x then max best (l (a - 1) - 1) else best) (l (a + 1) - 1) else (if 0 < x then max best (l (a - 1) - 1) else best))))) (l (a + X * Z) - 1) else (if 0 < y then max (if z + 1 < Z then max (if 0 < z then max (if x + 1 < X then max (if 0 < x then max best (l (a - 1) - 1) else best) (l (a + 1) - 1) else (if 0 < x then max best (l (a - 1) - 1) else best)) (l (a - X) - 1) else (if x + 1 < X then max (if 0 < x then max best (l (a - 1) - 1) else best) (l (a + 1) - 1) else (if 0 < x then max best (l (a - 1) - 1) else best))) (l (a + X) - 1) else (if 0 < z then max (if x + 1 < X then max (if 0 < x then max best (l (a - 1) - 1) else best) (l (a + 1) - 1) else (if 0 < x then max best (l (a - 1) - 1) else best)) (l (a - X) - 1) else (if x + 1 < X then max (if 0 < x then max best (l (a - 1) - 1) else best) (l (a + 1) - 1) else (if 0 < x then max best (l (a - 1) - 1) else best)))) (l (a - X * Z) - 1) else (if z + 1 < Z then max (if 0 < z then max (if x + 1 < X then max (if 0 < x then max best (l (a - 1) - 1) else best) (l (a + 1) - 1) else (if 0 < x then max best (l (a - 1) - 1) else best)) (l (a - X) - 1) else (if x + 1 < X then max (if 0 < x then max best (l (a - 1) - 1) else best) (l (a + 1) - 1) else (if 0 < x then max best (l (a - 1) - 1) else best))) (l (a + X) - 1) else (if 0 < z then max (if x + 1 < X then max (if 0 < x then max best (l (a - 1) - 1) else best) (l (a + 1) - 1) else (if 0 < x then max best (l (a - 1) - 1) else best)) (l (a - X) - 1) else (if x + 1 < X then max (if 0 < x then max best (l (a - 1) - 1) else best) (l (a + 1) - 1) else (if 0 < x then max best (l (a - 1) - 1) else best)))))) : Nat)) ∧ w = w') { tmps := #[u0, .slice (some ⟨gl, 0, none⟩) n c, .int .i64 (x : Int), .int .i64 (y : Int), .int .i64 (z : Int), .pointer (some ⟨g, 0, none⟩), u6, u7, u8, u9, u10, .int .i64 (best : Int), .int .i64 (a : Int), u13, u14, u15, u16, u17, u18, u19, u20, u21, u22, u23, u24, u25, u26, u27, u28, u29, u30, u31, u32, u33, u34, u35, u36, u37, u38, u39, u40, u41, u42, u43, u44, u45, u46, u47, u48, u49, u50, u51, u52, u53, u54, u55, u56, u57, u58, u59, u60, u61, u62, u63, u64, u65, u66, u67, u68, u69, u70, u71, u72, u73, u74, u75, u76, u77, u78, u79, u80, u81, u82, u83, u84, u85, u86, u87, u88, u89, u90, u91, u92, u93, u94, u95, u96, u97, u98, u99, u100, u101, u102, u103, u104, u105, u106, u107], defers := [] } w := by
  refine (show Code.wp Try.prog (Code.seq (gnav (Try.f76.body.getD .skip) [true, true, true, false]) (gnav (Try.f76.body.getD .skip) [true, true, true, true])) _ _ _ from wp_seq_k ?_)
  intro K hK
  have HK := Lib.hid hK
  clear hK
  obtain ⟨e0, e1, e2, -⟩ := four_cells hb
  have HN := Lib.hid (from_2 w g gl n c x y z a X Y Z cv l hb hc hn hnc hX hY hZ hx hy hz ha hl q2 q3 q4 q5 q6)
  refine (show Code.wp Try.prog (Code.seq (Code.region 3 _ false) (Code.cond _ _ _)) _ _ _ from ?_)
  by_cases hq : 0 < x
  · have hqi : (0 : Int) < (x : Int) := by omega
    have hbd := q1 hq
    have hof : (a : Int) - 1 = ((a - 1 : Nat) : Int) := by omega
    have w1 : IntKind.i64.wrap ((a : Int) - 1) = ((a - 1 : Nat) : Int) := by rw [hof]; exact wrap_small (by omega) (by omega)
    have hlt : a - 1 < n := by omega
    have hlti : ((a - 1 : Nat) : Int) < (n : Int) := by omega
    have c0 := hc (a - 1) hlt
    have hlv := hl (a - 1)
    have HE := Lib.hid (show (if 0 < x then max best (l (a - 1) - 1) else best) = max best (l (a - 1) - 1) from if_pos hq)
    generalize hj : a - 1 = j at *
    generalize l j = v at *
    have HM := Lib.hid (show max (best : Int) ((v : Int) - 1) = ((max best (v - 1) : Nat) : Int) by omega)
    have HMB := Lib.hid (show max best (v - 1) ≤ 15 by omega)
    have w2 : IntKind.i64.wrap ((v : Int) - 1) = (v : Int) - 1 := wrap_small (by omega) (by omega)
    clear hb hc hq hbd hlt hj
    go_wp2
    rw [HM.out]
    refine HK.out _ _ ?_
    rw [HE.out]
    exact HN.out _ HMB.out _ _ _ _ _ _ _ _ _ _ _ _ _ _ _ _ _ _ _ _ _ _ _ _ _ _ _ _ _ _ _ _ _ _ _ _ _ _ _ _ _ _ _ _ _ _ _ _ _ _ _ _ _ _ _ _ _ _ _ _ _ _ _ _ _ _ _ _ _ _ _ _ _ _ _ _ _ _ _ _ _ _ _ _ _ _ _ _ _ _ _ _ _ _ _ _ _ _ _ _ _
  · have hqi : ¬ (0 : Int) < (x : Int) := by omega
    have HE := Lib.hid (show (if 0 < x then max best (l (a - 1) - 1) else best) = best from if_neg hq)
    clear hb hc hq
    go_wp2
    refine HK.out _ _ ?_
    rw [HE.out]
    exact HN.out _ hbe _ _ _ _ _ _ _ _ _ _ _ _ _ _ _ _ _ _ _ _ _ _ _ _ _ _ _ _ _ _ _ _ _ _ _ _ _ _ _ _ _ _ _ _ _ _ _ _ _ _ _ _ _ _ _ _ _ _ _ _ _ _ _ _ _ _ _ _ _ _ _ _ _ _ _ _ _ _ _ _ _ _ _ _ _ _ _ _ _ _ _ _ _ _ _ _ _ _ _ _ _
end
end Go.Proofs.Ytlhjjmfbifhgfaa
/- The document's from, from its beginning: the walk. -/
namespace Go.Proofs.Ytlhjjmfbifhgfaa
set_option linter.unusedSimpArgs false
set_option linter.unusedVariables false
open Go.RowKit
set_option maxRecDepth 1000000

def boxV (b : Bx) (cv : Value) : Value := .agg #[.int .i64 (b.X : Int), .int .i64 (b.Y : Int), .int .i64 (b.Z : Int), cv]
theorem ix_int (b : Bx) (x y z : Nat) : ((b.ix x y z : Nat) : Int) = ((y : Int) * (b.Z : Int) + (z : Int)) * (b.X : Int) + (x : Int) := by
  unfold Bx.ix
  push_cast
  rfl
theorem ix_bounds {b : Bx} (ok : b.Ok) {x y z : Nat} (hx : x < b.X) (hy : y < b.Y) (hz : z < b.Z) :
    (0 ≤ (y : Int) * (b.Z : Int) ∧ (y : Int) * (b.Z : Int) ≤ 128) ∧ (0 ≤ ((y : Int) * (b.Z : Int) + (z : Int)) * (b.X : Int) ∧ ((y : Int) * (b.Z : Int) + (z : Int)) * (b.X : Int) ≤ 1100) := by
  have h1 := ok.x8; have h2 := ok.y16; have h3 := ok.z8
  have q1 : (0 : Int) ≤ (y : Int) * (b.Z : Int) := Int.mul_nonneg (by omega) (by omega)
  have q2 : (y : Int) * (b.Z : Int) ≤ 16 * 8 := Int.mul_le_mul (by omega) (by omega) (by omega) (by omega)
  have q3 : (0 : Int) ≤ ((y : Int) * (b.Z : Int) + (z : Int)) * (b.X : Int) := Int.mul_nonneg (by omega) (by omega)
  have q4 : ((y : Int) * (b.Z : Int) + (z : Int)) * (b.X : Int) ≤ 136 * 8 := Int.mul_le_mul (by omega) (by omega) (by omega) (by omega)
  omega
theorem from_ok {b : Bx} {x y z n : Nat} (hn : n = b.size) (hx : x < b.X) (hy : y < b.Y) (hz : z < b.Z) :
    b.ix x y z < n ∧ (0 < x → 1 ≤ b.ix x y z) ∧ (x + 1 < b.X → b.ix x y z + 1 < n) ∧ (0 < z → b.X ≤ b.ix x y z) ∧ (z + 1 < b.Z → b.ix x y z + b.X < n) ∧ (0 < y → b.X * b.Z ≤ b.ix x y z) ∧ (y + 1 < b.Y → b.ix x y z + b.X * b.Z < n) := by
  subst hn
  refine ⟨b.ix_lt hx hy hz, fun h => ?_, fun h => ?_, fun h => ?_, fun h => ?_, fun h => ?_, fun h => ?_⟩
  · unfold Bx.ix; omega
  · rw [ix_x2]; exact b.ix_lt h hy hz
  · have := ix_z2 b x y (z - 1)
    rw [show z - 1 + 1 = z by omega] at this
    omega
  · rw [ix_z2]; exact b.ix_lt hx hy h
  · have := ix_y2 b x (y - 1) z
    rw [show y - 1 + 1 = y by omega] at this
    omega
  · rw [ix_y2]; exact b.ix_lt hx h hz
theorem ICells.below {w w' : World} {g n : Nat} {l : Nat → Nat} (h : ICells w g n l) (hb : Below w.heap.size w w') (hg : 0 < n → g < w.heap.size) : ICells w' g n l := fun i hi => (hb.cell (p := ⟨g, i, none⟩) (hg (by omega))).trans (h i hi)
set_option maxHeartbeats 4000000 in
theorem from_any (W : World) (b : Bx) (ok : b.Ok) (cv : Value) (gl n c x y z : Nat) (l : Nat → Nat) (hc : ICells W gl n l) (hg : gl < W.heap.size) (hn : n = b.size) (hnc : n ≤ c) (hx : x < b.X) (hy : y < b.Y) (hz : z < b.Z) (hl : ∀ i, l i ≤ 15) :
    Calls Try.prog 76 #[boxV b cv, .slice (some ⟨gl, 0, none⟩) n c, .int .i64 (x : Int), .int .i64 (y : Int), .int .i64 (z : Int)] W fun e w' => e = .returned (.int .i64 (fromN b l x y z : Nat)) ∧ Below W.heap.size W w' := by
  subst hn
  have hal : Below W.heap.size W (W.alloc (.cells #[.int .i64 (b.X : Int), .int .i64 (b.Y : Int), .int .i64 (b.Z : Int), cv] 45)) := (Below.refl _ _).alloc (Nat.le_refl _) _
  obtain ⟨q0, q1, q2, q3, q4, q5, q6⟩ := from_ok rfl hx hy hz
  have hsz := Bx.size_le ok
  have HF := Lib.hid (from_1 (W.alloc (.cells #[.int .i64 (b.X : Int), .int .i64 (b.Y : Int), .int .i64 (b.Z : Int), cv] 45)) W.heap.size gl b.size c x y z (b.ix x y z) b.X b.Y b.Z cv l (Blk.new _ _ _) (hc.below hal (fun _ => hg)) (by omega) hnc ok.x8 ok.y16 ok.z8 hx hy hz q0 hl q1 q2 q3 q4 q5 q6 0 (by decide))
  have HR := Lib.hid (show fromN b l x y z = fromN b l x y z from rfl)
  obtain ⟨⟨b1, b2⟩, b3, b4⟩ := ix_bounds ok hx hy hz
  have hix := ix_int b x y z
  have hlt : b.ix x y z < 1024 := by omega
  have w1 : IntKind.i64.wrap ((y : Int) * (b.Z : Int)) = (y : Int) * (b.Z : Int) := wrap_small (by omega) (by omega)
  have w2 : IntKind.i64.wrap ((y : Int) * (b.Z : Int) + (z : Int)) = (y : Int) * (b.Z : Int) + (z : Int) := wrap_small (by have := ok.z8; omega) (by have := ok.z8; omega)
  have w3 : IntKind.i64.wrap (((y : Int) * (b.Z : Int) + (z : Int)) * (b.X : Int)) = ((y : Int) * (b.Z : Int) + (z : Int)) * (b.X : Int) := wrap_small (by omega) (by omega)
  have w4 : IntKind.i64.wrap (((y : Int) * (b.Z : Int) + (z : Int)) * (b.X : Int) + (x : Int)) = ((b.ix x y z : Nat) : Int) := by rw [← hix]; exact wrap_small (by omega) (by omega)
  have HB := Lib.hid hal
  have c0 := (Blk.new W 45 #[.int .i64 (b.X : Int), .int .i64 (b.Y : Int), .int .i64 (b.Z : Int), cv]).cell 0
  have c2 := (Blk.new W 45 #[.int .i64 (b.X : Int), .int .i64 (b.Y : Int), .int .i64 (b.Z : Int), cv]).cell 2
  clear hal hc q0 q1 q2 q3 q4 q5 q6 hix b1 b2 b3 b4 hsz
  unfold boxV
  refine (Calls.mono ?_ (fun e w' (h : e = .returned (.int .i64 (fromN b l x y z : Nat)) ∧ (W.alloc (.cells #[.int .i64 (b.X : Int), .int .i64 (b.Y : Int), .int .i64 (b.Z : Int), cv] 45)) = w') => ⟨h.1, h.2 ▸ HB.out⟩))
  go_enter Try.func76, Try.ntmps76
  refine (show Code.wp Try.prog (Code.seq (Code.region 0 _ false) (Code.seq (Code.region 1 _ false) (Code.seq (Code.region 2 _ false) (gnav (Try.f76.body.getD .skip) [true, true, true])))) _ _ _ from ?_)
  go_wp2
  exact HF.out _ _ _ _ _ _ _ _ _ _ _ _ _ _ _ _ _ _ _ _ _ _ _ _ _ _ _ _ _ _ _ _ _ _ _ _ _ _ _ _ _ _ _ _ _ _ _ _ _ _ _ _ _ _ _ _ _ _ _ _ _ _ _ _ _ _ _ _ _ _ _ _ _ _ _ _ _ _ _ _ _ _ _ _ _ _ _ _ _ _ _ _ _ _ _ _ _ _ _ _ _
end Go.Proofs.Ytlhjjmfbifhgfaa
/- The document's rounds: the walk. -/
namespace Go.Proofs.Ytlhjjmfbifhgfaa
set_option linter.unusedSimpArgs false
set_option linter.unusedVariables false
open Go.RowKit
set_option maxRecDepth 1000000

/-- A block of numbers, as a function. -/
def IBlk (w : World) (g n : Nat) (l : Nat → Nat) : Prop := Blk w g 3 ((List.range n).map fun i => Value.int .i64 (l i : Nat)).toArray
theorem IBlk.cells {w : World} {g n : Nat} {l : Nat → Nat} (h : IBlk w g n l) : ICells w g n l := fun i hi => by
  have := Blk.cell h i
  rw [this]
  simp [hi]
theorem IBlk.lt {w : World} {g n : Nat} {l : Nat → Nat} (h : IBlk w g n l) : g < w.heap.size := Blk.lt h
theorem IBlk.below {w w' : World} {g n : Nat} {l : Nat → Nat} (h : IBlk w g n l) (hb : Below w.heap.size w w') : IBlk w' g n l := Blk.below h hb (Blk.lt h)
theorem IBlk.far {w : World} {g n : Nat} {l : Nat → Nat} (h : IBlk w g n l) {p : Addr} (hp : g ≠ p.block) (u : Value) : IBlk (w.setCell p u) g n l := Blk.far h hp u
theorem IBlk.frozen {w : World} {g n : Nat} {l : Nat → Nat} (h : IBlk w g n l) (i : Nat) : w.frozen? ⟨g, i, none⟩ = false := Blk.frozen h i
theorem IBlk.set {w : World} {g n : Nat} {l : Nat → Nat} (h : IBlk w g n l) (i v : Nat) : IBlk (w.setCell ⟨g, i, none⟩ (.int .i64 (v : Nat))) g n (fun j => if j = i then v else l j) := by
  have h2 := Blk.set_ h i (.int .i64 (v : Nat))
  unfold IBlk
  have : ((List.range n).map fun j => Value.int .i64 ((if j = i then v else l j : Nat) : Int)).toArray = (((List.range n).map fun i => Value.int .i64 (l i : Nat)).toArray).setIfInBounds i (.int .i64 (v : Nat)) := by
    apply Array.ext_getElem?
    intro j
    rw [Array.getElem?_setIfInBounds]
    by_cases hj : j < n
    · by_cases e : i = j
      · subst e; simp [hj]
      · have e2 : ¬ j = i := fun h => e h.symm
        simp [hj, e, e2]
    · simp [hj]; omega
  rw [this]
  exact h2
theorem IBlk.congr {w : World} {g n : Nat} {l l' : Nat → Nat} (h : IBlk w g n l) (e : ∀ i, i < n → l i = l' i) : IBlk w g n l' := by
  unfold IBlk at *
  have : ((List.range n).map fun i => Value.int .i64 (l' i : Nat)) = (List.range n).map fun i => Value.int .i64 (l i : Nat) := List.map_congr_left fun i hi => by rw [e i (List.mem_range.1 hi)]
  rw [this]
  exact h
theorem infoInt : (Try.prog.info? 3).map (fun i => (i.zero, i.size, i.bytes)) = some (some (.int .i64 0), 1, 8) := by kernel_rfl
theorem make_ints (w : World) (n : Nat) (hn : n ≤ 1024) : ∃ W, (Instr.makeSlice 83 (.int .i64 (n : Int)) (.int .i64 (n : Int))).run Try.prog w = .ok (.slice (some ⟨w.heap.size, 0, none⟩) n n) W ∧ IBlk W w.heap.size n (fun _ => 0) ∧ Below w.heap.size w W ∧ W.heap.size = w.heap.size + 1 := by
  obtain ⟨i0, hi, hz0, hz1, hz2⟩ := info_parts infoInt
  have h := run_make_rowN (P := Try.prog) 83 3 i0 (.int .i64 0) Try.underlying83 hi hz0 .i64 .i64 n n (Nat.le_refl _) (by rw [hz2]; omega) (by omega) w
  refine ⟨_, h, ?_, (Below.refl _ _).alloc (Nat.le_refl _) _, by simp⟩
  have hb := Blk.new w 3 (madeCells (Value.int .i64 0).cells (n * i0.size))
  unfold IBlk
  rw [hz1] at hb ⊢
  have : ((List.range n).map fun _ => Value.int .i64 ((0 : Nat) : Int)).toArray = madeCells (Value.int .i64 0).cells (n * 1) := by
    apply Array.toList_inj.1
    rw [show (Value.int IntKind.i64 0).cells = #[Value.int IntKind.i64 0] from rfl, toList_madeCells_one, Nat.mul_one]
    refine List.ext_getElem? fun j => ?_
    by_cases hj : j < n <;> simp [hj]
  rw [this]
  exact hb
/-- The cells of a box, as the document reads them. -/
abbrev CRow (w : World) (base : Nat) (cv : Value) (cells : List (Int × Int)) : Prop := w.ownsRow base 33 2 cv cells.length (rc clE cells)
def clrL (cells : List (Int × Int)) (i : Nat) : Bool := clearC (cells.getD i (0, 0)).1 (cells.getD i (0, 0)).2
/-- One round, the first m cells reckoned. -/
def partN (b : Bx) (clr : Nat → Bool) (own l : Nat → Nat) (m i : Nat) : Nat := if i < m then nextN b clr own l i else 0
/-- What a round holds. -/
structure RoundAt (W wr : World) (b : Bx) (cells : List (Int × Int)) (cv : Value) (gb go gl gk : Nat) (own l : Nat → Nat) (m : Nat) : Prop where
  low : Below W.heap.size W wr
  box : Blk wr gb 45 #[.int .i64 (b.X : Int), .int .i64 (b.Y : Int), .int .i64 (b.Z : Int), cv]
  orow : ICells wr go b.size own
  gown : go < wr.heap.size
  row : ICells wr gl b.size l
  glt : gl < wr.heap.size
  next : IBlk wr gk b.size (partN b (clrL cells) own l m)
  new : W.heap.size ≤ gk
  no : go ≠ gk
  nl : gl ≠ gk
  nb : gb ≠ gk
section
variable {W wr w' : World} {b : Bx} {cells : List (Int × Int)} {cv : Value} {gb go gl gk m : Nat} {own l : Nat → Nat}
theorem RoundAt.under (h : RoundAt W wr b cells cv gb go gl gk own l m) (hb : Below wr.heap.size wr w') : RoundAt W w' b cells cv gb go gl gk own l m :=
  ⟨h.low.trans (hb.mono h.low.size), h.box.below hb h.box.lt, h.orow.below hb (fun _ => h.gown), Nat.lt_of_lt_of_le h.gown hb.size, h.row.below hb (fun _ => h.glt), Nat.lt_of_lt_of_le h.glt hb.size, h.next.below hb, h.new, h.no, h.nl, h.nb⟩
theorem ICells.far {g n : Nat} {f : Nat → Nat} (h : ICells wr g n f) {p : Addr} (hp : g ≠ p.block) (u : Value) : ICells (wr.setCell p u) g n f := fun i hi => by
  rw [← h i hi]
  exact World.cell?_of_block (Below.heap_setCell wr p u g hp)
theorem RoundAt.put (h : RoundAt W wr b cells cv gb go gl gk own l m) : RoundAt W (wr.setCell ⟨gk, m, none⟩ (.int .i64 (nextN b (clrL cells) own l m : Nat))) b cells cv gb go gl gk own l (m + 1) := by
  have hsz : ∀ p u, (wr.setCell p u).heap.size = wr.heap.size := fun p u => by simp [World.setCell]
  refine ⟨h.low.setCell h.new _, h.box.far h.nb _, h.orow.far h.no _, by rw [hsz]; exact h.gown, h.row.far h.nl _, by rw [hsz]; exact h.glt, (h.next.set m _).congr fun i hi => ?_, h.new, h.no, h.nl, h.nb⟩
  unfold partN
  by_cases e : i = m
  · subst e; simp
  · by_cases h2 : i < m
    · simp [e, h2, Nat.lt_succ_of_lt h2]
    · have : ¬ i < m + 1 := by omega
      simp [e, h2, this]
theorem RoundAt.pass (h : RoundAt W wr b cells cv gb go gl gk own l m) (hc : clrL cells m = false) : RoundAt W wr b cells cv gb go gl gk own l (m + 1) :=
  ⟨h.low, h.box, h.orow, h.gown, h.row, h.glt, h.next.congr fun i hi => by
    unfold partN
    by_cases e : i = m
    · subst e
      have : nextN b (clrL cells) own l i = 0 := by
        unfold nextN
        rw [hc]
        rfl
      simp [this]
    · by_cases h2 : i < m
      · simp [h2, Nat.lt_succ_of_lt h2]
      · have : ¬ i < m + 1 := by omega
        simp [h2, this], h.new, h.no, h.nl, h.nb⟩
end
set_option maxHeartbeats 16000000 in
theorem rounds_any (W : World) (base : Nat) (b : Bx) (ok : b.Ok) (cells : List (Int × Int)) (cv : Value) (hc : CRow W base cv cells) (hcl : cells.length = b.size) (hin : ∀ x ∈ cells, InU x.1 ∧ InU x.2) (go co : Nat) (own : Nat → Nat) (ho : ICells W go b.size own) (hgo : go < W.heap.size) (hco : b.size ≤ co) (h15 : ∀ i, own i ≤ 15) :
    Calls Try.prog 61 #[boxV b cv, .slice (some ⟨go, 0, none⟩) b.size co] W fun e w' => ∃ g c, e = .returned (.slice (some ⟨g, 0, none⟩) b.size c) ∧ b.size ≤ c ∧ ICells w' g b.size (roundN b (clrL cells) own 15) ∧ Below W.heap.size W w' ∧ g < w'.heap.size := by
  have HOK := Lib.hid ok
  have HC := Lib.hid hc
  have HCL := Lib.hid hcl
  have HIN := Lib.hid hin
  have H15 := Lib.hid h15
  have HO := Lib.hid (And.intro ho hgo)
  have hsz := Bx.size_le ok
  have hpos : 0 < b.size := by unfold Bx.size; exact Nat.mul_pos (Nat.mul_pos ok.x1 ok.y1) ok.z1
  obtain ⟨W1, hW1⟩ : ∃ W1, W1 = W.alloc (.cells #[.int .i64 (b.X : Int), .int .i64 (b.Y : Int), .int .i64 (b.Z : Int), cv] 45) := ⟨_, rfl⟩
  have hB1 : Below W.heap.size W W1 := by rw [hW1]; exact (Below.refl _ _).alloc (Nat.le_refl _) _
  have HB1 := Lib.hid hB1
  have HBX := Lib.hid (show Blk W1 W.heap.size 45 #[.int .i64 (b.X : Int), .int .i64 (b.Y : Int), .int .i64 (b.Z : Int), cv] by rw [hW1]; exact Blk.new _ _ _)
  have HO1 := Lib.hid (ho.below hB1 (fun _ => hgo))
  have HW1 := Lib.hid hW1
  clear ok hc hcl hin ho hW1 hB1 h15
  unfold boxV
  go_enter Try.func61, Try.ntmps61
  go_wp2
  rw [← HW1.out]
  go_loopw [5, 6] (fun v r wr => ∃ (k gl cl : Nat), k ≤ 15 ∧ r = .int .i64 k ∧ v = .slice (some ⟨gl, 0, none⟩) b.size cl ∧ b.size ≤ cl ∧ ICells wr gl b.size (roundN b (clrL cells) own k) ∧ gl < wr.heap.size ∧ Below W.heap.size W wr ∧ Blk wr W.heap.size 45 #[.int .i64 (b.X : Int), .int .i64 (b.Y : Int), .int .i64 (b.Z : Int), cv]) (fun _ r _ => 15 - (intOf r).toNat)
  case atStart => exact ⟨0, go, co, by decide, rfl, rfl, hco, HO1.out, Nat.lt_of_lt_of_le HO.out.2 HB1.out.size, HB1.out, HBX.out⟩
  case round =>
    obtain ⟨k, gl, cl, hk, rfl, rfl, hcl, hrow, hgl, hbel, hbx⟩ := hrel
    by_cases hkt : k < 15
    · have hkI : (k : Int) < 15 := by omega
      obtain ⟨W2, hmk, hnx, hb2, hs2⟩ := make_ints wr b.size hsz
      have hg1 := hbx.lt
      have HR := Lib.hid (show RoundAt W W2 b cells cv W.heap.size go gl wr.heap.size own (roundN b (clrL cells) own k) 0 from
        ⟨hbel.trans (hb2.mono hbel.size), hbx.below hb2 hbx.lt, (HO.out.1.below hbel (fun _ => HO.out.2)).below hb2 (fun _ => Nat.lt_of_lt_of_le HO.out.2 hbel.size), by have := HO.out.2; have := hbel.size; omega, hrow.below hb2 (fun _ => hgl), by omega, hnx.congr (fun i _ => by simp [partN]), hbel.size, by have := HO.out.2; have := hbel.size; omega, by omega, by omega⟩)
      obtain ⟨gk, hgk⟩ : ∃ gk, gk = wr.heap.size := ⟨_, rfl⟩
      rw [← hgk] at HR hmk
      have HS2 := Lib.hid hs2
      have HL15 := Lib.hid (show ∀ i, roundN b (clrL cells) own k i ≤ 15 from fun i => round_le H15.out k i)
      clear hrow hgl hbel hbx hnx hb2 hs2 hg1 hgk
      have HCV := Lib.hid (fun wr' (hb : Below W.heap.size W wr') => own_below HC.out hb)
      have hx1 := HOK.out.x1
      have hx8 := HOK.out.x8
      have hy16 := HOK.out.y16
      have hz8 := HOK.out.z8
      obtain ⟨l, hl⟩ : ∃ l, l = roundN b (clrL cells) own k := ⟨_, rfl⟩
      rw [← hl] at HR HL15
      have HLE := Lib.hid hl
      clear hl
      go_wp2
      go_loopw [8] (fun s wr => ∃ y : Nat, y ≤ b.Y ∧ s = .int .i64 y ∧ RoundAt W wr b cells cv W.heap.size go gl gk own l (b.ix 0 y 0)) (fun s _ => b.Y - (intOf s).toNat)
      case atStart => exact ⟨0, Nat.zero_le _, rfl, by rw [show b.ix 0 0 0 = 0 by simp [Bx.ix]]; exact HR.out⟩
      case round =>
        clear HR
        obtain ⟨y, hy, rfl, hr⟩ := hrel
        have HR := Lib.hid hr
        obtain ⟨x0, x1, x2, -⟩ := four_cells hr.box
        clear hr
        by_cases hyt : y < b.Y
        · have hyI : (y : Int) < (b.Y : Int) := by omega
          go_wp2
          go_loopw [9] (fun s wr => ∃ z : Nat, z ≤ b.Z ∧ s = .int .i64 z ∧ RoundAt W wr b cells cv W.heap.size go gl gk own l (b.ix 0 y z)) (fun s _ => b.Z - (intOf s).toNat)
          case atStart => exact ⟨0, Nat.zero_le _, rfl, HR.out⟩
          case round =>
            clear HR x0 x1 x2
            obtain ⟨z, hz, rfl, hr⟩ := hrel
            have HR := Lib.hid hr
            obtain ⟨x0, x1, x2, -⟩ := four_cells hr.box
            clear hr
            by_cases hzt : z < b.Z
            · have hzI : (z : Int) < (b.Z : Int) := by omega
              go_wp2
              go_loopw [10] (fun s wr => ∃ x : Nat, x ≤ b.X ∧ s = .int .i64 x ∧ RoundAt W wr b cells cv W.heap.size go gl gk own l (b.ix x y z)) (fun s _ => b.X - (intOf s).toNat)
              case atStart => exact ⟨0, Nat.zero_le _, rfl, HR.out⟩
              case round =>
                clear HR x0 x1 x2
                obtain ⟨x, hx, rfl, hr⟩ := hrel
                have HR := Lib.hid hr
                obtain ⟨x0, x1, x2, x3⟩ := four_cells hr.box
                clear hr
                by_cases hxt : x < b.X
                · have hxI : (x : Int) < (b.X : Int) := by omega
                  obtain ⟨⟨b1, b2⟩, b3, b4⟩ := ix_bounds HOK.out hxt hyt hzt
                  have hix := ix_int b x y z
                  have hlt := b.ix_lt hxt hyt hzt
                  have w1 : IntKind.i64.wrap ((y : Int) * (b.Z : Int)) = (y : Int) * (b.Z : Int) := wrap_small (by omega) (by omega)
                  have w2 : IntKind.i64.wrap ((y : Int) * (b.Z : Int) + (z : Int)) = (y : Int) * (b.Z : Int) + (z : Int) := wrap_small (by omega) (by omega)
                  have w3 : IntKind.i64.wrap (((y : Int) * (b.Z : Int) + (z : Int)) * (b.X : Int)) = ((y : Int) * (b.Z : Int) + (z : Int)) * (b.X : Int) := wrap_small (by omega) (by omega)
                  have w4 : IntKind.i64.wrap (((y : Int) * (b.Z : Int) + (z : Int)) * (b.X : Int) + (x : Int)) = ((b.ix x y z : Nat) : Int) := by rw [← hix]; exact wrap_small (by omega) (by omega)
                  obtain ⟨m, hm⟩ : ∃ m, m = b.ix x y z := ⟨_, rfl⟩
                  have HM := Lib.hid hm
                  have hmc : m < cells.length := by rw [hm, HCL.out]; exact hlt
                  have hcr := HCV.out wr HR.out.low
                  obtain ⟨_, ao, cc, hcv, hcc, _⟩ := own_rat (d := ((0, 0) : Int × Int)) clE_len hcr
                  subst hcv
                  obtain ⟨gc, rfl, -, -⟩ := own_form hcr (by omega)
                  have hat := own_at clE_len ((0, 0) : Int × Int) hcr hmc
                  obtain ⟨ce, hce⟩ : ∃ ce, ce = cells.getD m (0, 0) := ⟨_, rfl⟩
                  rw [← hce] at hat
                  have hci := HIN.out ce (by rw [hce, List.getD_eq_getElem?_getD, List.getElem?_eq_getElem hmc]; exact List.getElem_mem hmc)
                  obtain ⟨k1, k2⟩ := ce
                  have e0 : wr.cell? ⟨gc, m * 2, none⟩ = some (.int .u8 k1) := hat 0 (by decide)
                  have e1 : wr.cell? ⟨gc, m * 2 + 1, none⟩ = some (.int .u8 k2) := hat 1 (by decide)
                  have HG := Lib.hid (gclear_any wr k1 k2 hci.1 hci.2)
                  have HCC := Lib.hid (show clrL cells m = clearC k1 k2 by unfold clrL; rw [← hce])
                  have hmI : (m : Int) < (cells.length : Int) := by omega
                  rw [← hm] at w4 HR
                  have HN1 := Lib.hid (show b.ix (x + 1) y z = m + 1 by rw [← ix_x2, hm])
                  obtain ⟨bc, hbc⟩ : ∃ bc, bc = clearC k1 k2 := ⟨_, rfl⟩
                  rw [← hbc] at HG HCC
                  clear hat hce hci hcr hix hlt hm hbc b1 b2 b3 b4
                  go_wp2_with fail
                  go_at_call 59
                  refine HG.out.mono ?_
                  rintro e w2 ⟨rfl, hb⟩
                  have HR2 := Lib.hid (HR.out.under hb)
                  clear hb e0 e1 x0 x1 x2 x3
                  cases bc with
                  | false =>
                    have HR3 := Lib.hid (HR2.out.pass HCC.out)
                    go_wp2
                    go_roundw
                    case rel => exact ⟨x + 1, by omega, by go_num, by rw [HN1.out]; exact HR3.out⟩
                    case measure => simp [intOf]; omega
                  | true =>
                    obtain ⟨x0, x1, x2, x3⟩ := four_cells HR2.out.box
                    have HFR := Lib.hid (from_any w2 b HOK.out (.slice (some ⟨gc, 0, none⟩) cells.length cc) gl b.size cl x y z l HR2.out.row HR2.out.glt rfl hcl hxt hyt hzt HL15.out)
                    unfold boxV at HFR
                    go_wp2_with fail
                    go_at_call 76
                    refine HFR.out.mono ?_
                    rintro e w3 ⟨rfl, hb⟩
                    have HR3 := Lib.hid (HR2.out.under hb)
                    have hmn : m < b.size := by have := HCL.out; omega
                    have hmnI : (m : Int) < (b.size : Int) := by omega
                    have c0 := HR3.out.orow m hmn
                    have c1 := HR3.out.next.cells m hmn
                    have f1 := HR3.out.next.frozen m
                    have HNX := Lib.hid (show nextN b (clrL cells) own l m = max (own m) (fromN b l x y z) by
                      unfold nextN
                      rw [HCC.out, HM.out, b.ix_x hxt, b.ix_y hxt hzt, b.ix_z hxt hzt]
                      rfl)
                    have HPT := Lib.hid (HR3.out.put)
                    rw [HNX.out] at HPT
                    have HO15 := H15.out m
                    generalize own m = om at c0 HPT HNX HO15
                    generalize fromN b l x y z = fv at HPT HNX ⊢
                    have HMX := Lib.hid (show max (om : Int) (fv : Int) = ((max om fv : Nat) : Int) by omega)
                    clear hb x0 x1 x2 x3
                    go_wp2
                    rw [HMX.out]
                    go_roundw
                    case rel => exact ⟨x + 1, by omega, by go_num, by rw [HN1.out]; exact HPT.out⟩
                    case measure => simp [intOf]; omega
                · have HE := Lib.hid (show b.ix x y z = b.ix 0 y (z + 1) by
                    have : x = b.X := by omega
                    subst this
                    unfold Bx.ix
                    rw [show y * b.Z + (z + 1) = y * b.Z + z + 1 by omega, Nat.add_mul (y * b.Z + z) 1 b.X, Nat.one_mul]
                    omega)
                  have HRE := HR.out
                  rw [HE.out] at HRE
                  have HR3 := Lib.hid HRE
                  clear HRE
                  go_wp2
                  go_roundw
                  case rel => exact ⟨z + 1, by omega, by go_num, HR3.out⟩
                  case measure => simp [intOf]; omega
            · have HE := Lib.hid (show b.ix 0 y z = b.ix 0 (y + 1) 0 by
                have : z = b.Z := by omega
                subst this
                unfold Bx.ix
                rw [Nat.add_mul y 1 b.Z, Nat.one_mul]
                simp)
              have HRE := HR.out
              rw [HE.out] at HRE
              have HR3 := Lib.hid HRE
              clear HRE
              go_wp2
              go_roundw
              case rel => exact ⟨y + 1, by omega, by go_num, HR3.out⟩
              case measure => simp [intOf]; omega
        · have HE := Lib.hid (show b.ix 0 y 0 = b.size by
            have : y = b.Y := by omega
            subst this
            unfold Bx.ix Bx.size
            rw [Nat.add_zero, Nat.add_zero, Nat.mul_comm (b.Y * b.Z) b.X, Nat.mul_assoc])
          have HRE := HR.out
          rw [HE.out] at HRE
          have HR3 := Lib.hid (HRE.next.congr (l' := roundN b (clrL cells) own (k + 1)) (fun i hi => by
            unfold partN
            rw [if_pos hi, HLE.out]
            rfl))
          have HR4 := Lib.hid (And.intro HRE.low HRE.box)
          clear HRE
          go_wp2
          go_roundw
          case rel => exact ⟨k + 1, gk, b.size, by omega, by go_num, rfl, Nat.le_refl _, HR3.out.cells, HR3.out.lt, HR4.out.1, HR4.out.2⟩
          case measure => simp [intOf]; omega
    · obtain rfl : k = 15 := by omega
      have HRW := Lib.hid hrow
      go_wp2
      go_ret
      exact ⟨gl, cl, rfl, hcl, HRW.out, hbel, hgl⟩
end Go.Proofs.Ytlhjjmfbifhgfaa
/- The document's sky sources: the walk. -/
namespace Go.Proofs.Ytlhjjmfbifhgfaa
set_option linter.unusedSimpArgs false
set_option linter.unusedVariables false
open Go.RowKit
set_option maxRecDepth 100000

section
variable (b : Bx) (clr : Nat → Bool)
def colN (i : Nat) : Nat := (i / b.X % b.Z) * b.X + i % b.X
def yN (i : Nat) : Nat := i / (b.X * b.Z)
/-- Is the column above an index clear, that one included? -/
def upN (x y z : Nat) : Bool := (List.range b.Y).all fun y' => decide (y' < y) || clr (b.ix x y' z)
def srcN (i : Nat) : Nat := if upN b clr (i % b.X) (i / (b.X * b.Z)) (i / b.X % b.Z) then 15 else 0
def srcP (C yy i : Nat) : Nat := if colN b i < C then srcN b clr i else if colN b i = C ∧ yy ≤ yN b i then 15 else 0
end
theorem upN_iff {b : Bx} {clr : Nat → Bool} {x y z : Nat} : upN b clr x y z = true ↔ ∀ y', y ≤ y' → y' < b.Y → clr (b.ix x y' z) = true := by
  unfold upN
  rw [List.all_eq_true]
  constructor
  · intro h y' h1 h2
    have := h y' (List.mem_range.2 h2)
    have h3 : ¬ y' < y := by omega
    simpa [h3] using this
  · intro h y' hy
    by_cases h1 : y' < y
    · simp [h1]
    · simp [h1, h y' (by omega) (List.mem_range.1 hy)]
theorem col_lt {b : Bx} {i : Nat} (hi : i < b.size) : colN b i < b.Z * b.X ∧ yN b i < b.Y := by
  obtain ⟨x, y, z, hx, hy, hz, rfl⟩ := b.ix_of hi
  unfold colN yN
  rw [b.ix_x hx, b.ix_z hx hz, b.ix_y hx hz]
  refine ⟨?_, hy⟩
  have : (z + 1) * b.X ≤ b.Z * b.X := Nat.mul_le_mul_right _ hz
  rw [Nat.add_mul] at this
  omega
theorem col_ix {b : Bx} {x y z : Nat} (hx : x < b.X) (hz : z < b.Z) : colN b (b.ix x y z) = z * b.X + x ∧ yN b (b.ix x y z) = y := by
  unfold colN yN
  rw [b.ix_x hx, b.ix_z hx hz, b.ix_y hx hz]
  exact ⟨rfl, rfl⟩
theorem col_inj {X x z x' z' : Nat} (hx : x < X) (hx' : x' < X) (h : z * X + x = z' * X + x') : x = x' ∧ z = z' := by
  have h1 : (z * X + x) % X = x := by rw [Nat.add_comm, Nat.add_mul_mod_self_right, Nat.mod_eq_of_lt hx]
  have h2 : (z' * X + x') % X = x' := by rw [Nat.add_comm, Nat.add_mul_mod_self_right, Nat.mod_eq_of_lt hx']
  have h3 : x = x' := by rw [← h1, h, h2]
  subst h3
  refine ⟨rfl, ?_⟩
  have h4 : z * X = z' * X := by omega
  exact Nat.eq_of_mul_eq_mul_right (by omega) h4
section
variable {b : Bx} {clr : Nat → Bool}
theorem src_start {i : Nat} (hi : i < b.size) : srcP b clr 0 b.Y i = 0 := by
  have := (col_lt hi).2
  unfold srcP
  rw [if_neg (Nat.not_lt_zero _), if_neg (by omega)]
theorem src_set {x y z : Nat} (hx : x < b.X) (hy : y < b.Y) (hz : z < b.Z) {i : Nat} (hi : i < b.size) : (if i = b.ix x y z then 15 else srcP b clr (z * b.X + x) (y + 1) i) = srcP b clr (z * b.X + x) y i := by
  obtain ⟨x', y', z', hx', hy', hz', rfl⟩ := b.ix_of hi
  obtain ⟨h1, h2⟩ := col_ix (b := b) (y := y') hx' hz'
  unfold srcP
  rw [h1, h2]
  by_cases e : z' * b.X + x' = z * b.X + x
  · obtain ⟨rfl, rfl⟩ := col_inj hx' hx e
    have hirr : ¬ (z' * b.X + x' < z' * b.X + x') := Nat.lt_irrefl _
    simp only [hirr, if_false, true_and]
    by_cases ey : y' = y
    · subst ey; simp
    · have hne : ¬ b.ix x' y' z' = b.ix x' y z' := fun h => ey (by have := congrArg (fun i => i / (b.X * b.Z)) h; simp only [b.ix_y hx' hz'] at this; exact this)
      rw [if_neg hne]
      by_cases h3 : y + 1 ≤ y'
      · rw [if_pos h3, if_pos (by omega)]
      · rw [if_neg h3, if_neg (by omega)]
  · have hne : ¬ b.ix x' y' z' = b.ix x y z := fun h => e (by
      have h3 := congrArg (colN b) h
      rw [h1, (col_ix hx hz).1] at h3
      exact h3)
    rw [if_neg hne]
    by_cases h3 : z' * b.X + x' < z * b.X + x
    · rw [if_pos h3, if_pos h3]
    · rw [if_neg h3, if_neg h3, if_neg (fun h => e h.1), if_neg (fun h => e h.1)]
theorem src_end {x yy z : Nat} (hx : x < b.X) (hz : z < b.Z) (hyy : yy ≤ b.Y) (hc : ∀ y', yy ≤ y' → y' < b.Y → clr (b.ix x y' z) = true) (hs : yy = 0 ∨ clr (b.ix x (yy - 1) z) = false) {i : Nat} (hi : i < b.size) : srcP b clr (z * b.X + x) yy i = srcP b clr (z * b.X + x + 1) b.Y i := by
  obtain ⟨x', y', z', hx', hy', hz', rfl⟩ := b.ix_of hi
  obtain ⟨h1, h2⟩ := col_ix (b := b) (y := y') hx' hz'
  unfold srcP
  rw [h1, h2]
  by_cases e : z' * b.X + x' = z * b.X + x
  · obtain ⟨rfl, rfl⟩ := col_inj hx' hx e
    have hirr : ¬ (z' * b.X + x' < z' * b.X + x') := Nat.lt_irrefl _
    have hsuc : z' * b.X + x' < z' * b.X + x' + 1 := Nat.lt_succ_self _
    simp only [hirr, hsuc, if_false, if_true, true_and]
    unfold srcN
    rw [b.ix_x hx', b.ix_y hx' hz', b.ix_z hx' hz']
    by_cases h3 : yy ≤ y'
    · rw [if_pos h3, if_pos (upN_iff.2 fun w h4 h5 => hc w (by omega) h5)]
    · rw [if_neg h3, if_neg]
      intro h4
      rcases hs with h5 | h5
      · omega
      · rw [upN_iff.1 h4 (yy - 1) (by omega) (by omega)] at h5
        cases h5
  · by_cases h3 : z' * b.X + x' < z * b.X + x
    · rw [if_pos h3, if_pos (by omega)]
    · rw [if_neg h3, if_neg (fun h => e h.1), if_neg (by omega), if_neg (by omega)]
theorem src_all {i : Nat} (hi : i < b.size) : srcP b clr (b.Z * b.X) b.Y i = srcN b clr i := by
  unfold srcP
  rw [if_pos (col_lt hi).1]
end
/-- What the walk of the sources holds. -/
structure SrcAt (W wr : World) (b : Bx) (cells : List (Int × Int)) (cv : Value) (gb gk C yy : Nat) : Prop where
  low : Below W.heap.size W wr
  box : Blk wr gb 45 #[.int .i64 (b.X : Int), .int .i64 (b.Y : Int), .int .i64 (b.Z : Int), cv]
  next : IBlk wr gk b.size (srcP b (clrL cells) C yy)
  new : W.heap.size ≤ gk
  nb : gb ≠ gk
section
variable {W wr w' : World} {b : Bx} {cells : List (Int × Int)} {cv : Value} {gb gk C yy : Nat}
theorem SrcAt.under (h : SrcAt W wr b cells cv gb gk C yy) (hb : Below wr.heap.size wr w') : SrcAt W w' b cells cv gb gk C yy :=
  ⟨h.low.trans (hb.mono h.low.size), h.box.below hb h.box.lt, h.next.below hb, h.new, h.nb⟩
theorem SrcAt.put {x y z : Nat} (h : SrcAt W wr b cells cv gb gk (z * b.X + x) (y + 1)) (hx : x < b.X) (hy : y < b.Y) (hz : z < b.Z) : SrcAt W (wr.setCell ⟨gk, b.ix x y z, none⟩ (.int .i64 ((15 : Nat) : Int))) b cells cv gb gk (z * b.X + x) y :=
  ⟨h.low.setCell h.new _, h.box.far h.nb _, (h.next.set (b.ix x y z) 15).congr fun i hi => src_set hx hy hz hi, h.new, h.nb⟩
theorem SrcAt.fin {x z : Nat} (h : SrcAt W wr b cells cv gb gk (z * b.X + x) yy) (hx : x < b.X) (hz : z < b.Z) (hyy : yy ≤ b.Y) (hc : ∀ y', yy ≤ y' → y' < b.Y → clrL cells (b.ix x y' z) = true) (hs : yy = 0 ∨ clrL cells (b.ix x (yy - 1) z) = false) : SrcAt W wr b cells cv gb gk (z * b.X + (x + 1)) b.Y :=
  ⟨h.low, h.box, h.next.congr fun i hi => src_end hx hz hyy hc hs hi, h.new, h.nb⟩
end
set_option maxHeartbeats 16000000 in
theorem sources_any (W : World) (base : Nat) (b : Bx) (ok : b.Ok) (cells : List (Int × Int)) (cv : Value) (hc : CRow W base cv cells) (hcl : cells.length = b.size) (hin : ∀ x ∈ cells, InU x.1 ∧ InU x.2) :
    Calls Try.prog 42 #[boxV b cv] W fun e w' => ∃ g, e = .returned (.slice (some ⟨g, 0, none⟩) b.size b.size) ∧ ICells w' g b.size (srcN b (clrL cells)) ∧ Below W.heap.size W w' ∧ g < w'.heap.size := by
  have HOK := Lib.hid ok
  have HC := Lib.hid hc
  have HCL := Lib.hid hcl
  have HIN := Lib.hid hin
  have hsz := Bx.size_le ok
  have hx8 := ok.x8
  have hy16 := ok.y16
  have hz8 := ok.z8
  have hpos : 0 < b.size := by unfold Bx.size; exact Nat.mul_pos (Nat.mul_pos ok.x1 ok.y1) ok.z1
  obtain ⟨_, ao, cc, hcv, hcc, _⟩ := own_rat (d := ((0, 0) : Int × Int)) clE_len hc
  have hcv2 := hcv
  rw [hcl] at hcv
  obtain ⟨W1, hW1⟩ : ∃ W1, W1 = W.alloc (.cells #[.int .i64 (b.X : Int), .int .i64 (b.Y : Int), .int .i64 (b.Z : Int), cv] 45) := ⟨_, rfl⟩
  have hB1 : Below W.heap.size W W1 := by rw [hW1]; exact (Below.refl _ _).alloc (Nat.le_refl _) _
  have hbx : Blk W1 W.heap.size 45 #[.int .i64 (b.X : Int), .int .i64 (b.Y : Int), .int .i64 (b.Z : Int), cv] := by rw [hW1]; exact Blk.new _ _ _
  have hs1 : W1.heap.size = W.heap.size + 1 := by rw [hW1]; simp
  obtain ⟨W2, hmk, hnx, hb2, hs2⟩ := make_ints W1 b.size hsz
  have HR0 := Lib.hid (show SrcAt W W2 b cells cv W.heap.size W1.heap.size 0 b.Y from ⟨hB1.trans (hb2.mono hB1.size), hbx.below hb2 hbx.lt, hnx.congr (fun i hi => (src_start hi).symm), by omega, by omega⟩)
  obtain ⟨gk, hgk⟩ : ∃ gk, gk = W1.heap.size := ⟨_, rfl⟩
  rw [← hgk] at HR0 hmk
  obtain ⟨-, -, -, c3⟩ := four_cells hbx
  have HW1 := Lib.hid hW1
  rw [hcv] at c3
  have HCV := Lib.hid (And.intro hcv hcv2)
  unfold boxV
  rw [hW1] at c3
  rw [hcv] at c3 ⊢
  rw [hcv] at HW1
  rw [hW1, hcv] at hmk
  clear ok hc hcl hin hW1 hB1 hbx hs1 hnx hb2 hs2 hgk hcv2
  go_enter Try.func42, Try.ntmps42
  go_wp2
  go_loopw [4] (fun s wr => ∃ z : Nat, z ≤ b.Z ∧ s = .int .i64 z ∧ SrcAt W wr b cells cv W.heap.size gk (z * b.X) b.Y) (fun s _ => b.Z - (intOf s).toNat)
  case atStart => exact ⟨0, Nat.zero_le _, rfl, by rw [Nat.zero_mul]; exact HR0.out⟩
  case round =>
    clear HR0 c3
    obtain ⟨z, hz, rfl, hr⟩ := hrel
    have HR := Lib.hid hr
    obtain ⟨x0, x1, x2, -⟩ := four_cells hr.box
    clear hr
    by_cases hzt : z < b.Z
    · have hzI : (z : Int) < (b.Z : Int) := by omega
      go_wp2
      go_loopw [5] (fun s wr => ∃ x : Nat, x ≤ b.X ∧ s = .int .i64 x ∧ SrcAt W wr b cells cv W.heap.size gk (z * b.X + x) b.Y) (fun s _ => b.X - (intOf s).toNat)
      case atStart => exact ⟨0, Nat.zero_le _, rfl, HR.out⟩
      case round =>
        clear HR x0 x1 x2
        obtain ⟨x, hx, rfl, hr⟩ := hrel
        have HR := Lib.hid hr
        obtain ⟨x0, x1, x2, -⟩ := four_cells hr.box
        clear hr
        by_cases hxt : x < b.X
        · have hxI : (x : Int) < (b.X : Int) := by omega
          go_wp2
          go_loopw [6] (fun s wr => ∃ yy : Nat, yy ≤ b.Y ∧ s = .int .i64 ((yy : Int) - 1) ∧ SrcAt W wr b cells cv W.heap.size gk (z * b.X + x) yy ∧ ∀ y', yy ≤ y' → y' < b.Y → clrL cells (b.ix x y' z) = true) (fun s _ => (intOf s + 1).toNat)
          case atStart => exact ⟨b.Y, Nat.le_refl _, rfl, HR.out, fun y' h1 h2 => by omega⟩
          case round =>
            clear HR x0 x1 x2
            obtain ⟨yy, hyy, rfl, hr, hcl⟩ := hrel
            have HR := Lib.hid hr
            have HCLR := Lib.hid hcl
            obtain ⟨x0, x1, x2, x3⟩ := four_cells hr.box
            rw [HCV.out.1] at x3
            clear hr hcl
            rcases Nat.eq_zero_or_pos yy with hy0 | hy0
            · have HF := Lib.hid (HR.out.fin hxt hzt hyy HCLR.out (.inl hy0))
              have hgI : ¬ (0 : Int) ≤ (yy : Int) - 1 := by omega
              go_wp2
              go_roundw
              case rel => exact ⟨x + 1, by omega, by go_num, HF.out⟩
              case measure => (simp [intOf] <;> omega)
            · obtain ⟨y, rfl⟩ : ∃ y, yy = y + 1 := ⟨yy - 1, by omega⟩
              have hyt : y < b.Y := by omega
              rw [show ((y + 1 : Nat) : Int) - 1 = (y : Int) by omega]
              have hgI : (0 : Int) ≤ (y : Int) := by omega
              obtain ⟨⟨b1, b2⟩, b3, b4⟩ := ix_bounds HOK.out hxt hyt hzt
              have hix := ix_int b x y z
              have hlt := b.ix_lt hxt hyt hzt
              have w1 : IntKind.i64.wrap ((y : Int) * (b.Z : Int)) = (y : Int) * (b.Z : Int) := wrap_small (by omega) (by omega)
              have w2 : IntKind.i64.wrap ((y : Int) * (b.Z : Int) + (z : Int)) = (y : Int) * (b.Z : Int) + (z : Int) := wrap_small (by omega) (by omega)
              have w3 : IntKind.i64.wrap (((y : Int) * (b.Z : Int) + (z : Int)) * (b.X : Int)) = ((y : Int) * (b.Z : Int) + (z : Int)) * (b.X : Int) := wrap_small (by omega) (by omega)
              have w4 : IntKind.i64.wrap (((y : Int) * (b.Z : Int) + (z : Int)) * (b.X : Int) + (x : Int)) = ((b.ix x y z : Nat) : Int) := by rw [← hix]; exact wrap_small (by omega) (by omega)
              obtain ⟨m, hm⟩ : ∃ m, m = b.ix x y z := ⟨_, rfl⟩
              have HM := Lib.hid hm
              have hmc : m < cells.length := by rw [hm, HCL.out]; exact hlt
              have hcr := own_below HC.out HR.out.low
              rw [HCV.out.2] at hcr
              have hcc0 : 0 < cc := by have := HCL.out; omega
              obtain ⟨gc, hgc, -, -⟩ := own_form hcr hcc0
              subst hgc
              have hat := own_at clE_len ((0, 0) : Int × Int) hcr hmc
              obtain ⟨ce, hce⟩ : ∃ ce, ce = cells.getD m (0, 0) := ⟨_, rfl⟩
              rw [← hce] at hat
              have hci := HIN.out ce (by rw [hce, List.getD_eq_getElem?_getD, List.getElem?_eq_getElem hmc]; exact List.getElem_mem hmc)
              obtain ⟨k1, k2⟩ := ce
              have e0 : wr.cell? ⟨gc, m * 2, none⟩ = some (.int .u8 k1) := hat 0 (by decide)
              have e1 : wr.cell? ⟨gc, m * 2 + 1, none⟩ = some (.int .u8 k2) := hat 1 (by decide)
              have HG := Lib.hid (gclear_any wr k1 k2 hci.1 hci.2)
              have HCC := Lib.hid (show clrL cells m = clearC k1 k2 by unfold clrL; rw [← hce])
              have hmn : m < b.size := by rw [hm]; exact hlt
              have hmI : (m : Int) < (b.size : Int) := by omega
              have HR1 := Lib.hid (show SrcAt W wr b cells cv W.heap.size gk (z * b.X + x) (y + 1) from HR.out)
              rw [← hm] at w4
              obtain ⟨bc, hbc⟩ : ∃ bc, bc = clearC k1 k2 := ⟨_, rfl⟩
              rw [← hbc] at HG HCC
              clear hat hce hci hcr hix hlt hm hbc b1 b2 b3 b4
              go_wp2_with fail
              go_at_call 59
              refine HG.out.mono ?_
              rintro e w2 ⟨rfl, hb⟩
              have HR2 := Lib.hid (HR1.out.under hb)
              clear hb e0 e1 x0 x1 x2 x3
              cases bc with
              | false =>
                have HF := Lib.hid (HR2.out.fin hxt hzt hyy HCLR.out (.inr (by rw [Nat.add_sub_cancel, ← HM.out]; exact HCC.out)))
                go_wp2
                go_roundw
                case rel => exact ⟨x + 1, by omega, by go_num, HF.out⟩
                case measure => (simp [intOf] <;> omega)
              | true =>
                have HPT := Lib.hid (HR2.out.put hxt hyt hzt)
                rw [← HM.out] at HPT
                have c1 := HR2.out.next.cells m hmn
                have f1 := HR2.out.next.frozen m
                have HCN := Lib.hid (show ∀ y', y ≤ y' → y' < b.Y → clrL cells (b.ix x y' z) = true from fun y' h1 h2 => by
                  rcases Nat.eq_or_lt_of_le h1 with h3 | h3
                  · rw [← h3, ← HM.out]; exact HCC.out
                  · exact HCLR.out y' h3 h2)
                go_wp2
                go_roundw
                case rel => exact ⟨y, by omega, by go_num, HPT.out, HCN.out⟩
                case measure => (simp [intOf] <;> omega)
        · have HE := Lib.hid (show z * b.X + x = (z + 1) * b.X by
            have : x = b.X := by omega
            subst this
            rw [Nat.add_mul, Nat.one_mul])
          have HRE := HR.out
          rw [HE.out] at HRE
          have HR3 := Lib.hid HRE
          clear HRE
          go_wp2
          go_roundw
          case rel => exact ⟨z + 1, by omega, by go_num, HR3.out⟩
          case measure => (simp [intOf] <;> omega)
    · obtain rfl : z = b.Z := by omega
      have HR3 := Lib.hid (HR.out.next.congr (l' := srcN b (clrL cells)) fun i hi => src_all hi)
      go_wp2
      go_ret
      exact ⟨gk, rfl, HR3.out.cells, HR.out.low, HR3.out.lt⟩
end Go.Proofs.Ytlhjjmfbifhgfaa
/- The document's Light of a box: the walk. -/
namespace Go.Proofs.Ytlhjjmfbifhgfaa
set_option linter.unusedSimpArgs false
set_option linter.unusedVariables false
open Go.RowKit
set_option maxRecDepth 100000

theorem infoLight : (Try.prog.info? 43).map (fun i => (i.zero, i.size, i.bytes)) = some (some (.agg #[.int .u8 0, .int .u8 0]), 2, 2) := by kernel_rfl
/-- A row of lights, or of cells, of the call's own. -/
abbrev LRow (w : World) (base : Nat) (v : Value) (l : List (Int × Int)) : Prop := w.ownsRow base 43 2 v l.length (rc clE l)
/-- append(lights, x), in a region that draws. -/
theorem cl_step {ops : Array Oper} {o : Oper} {a : Act} {K : Act → World → Prop} {Q : Exit → Act → World → Prop} {E : Prop} {W : World} {base : Nat} {v : Value} {l : List (Int × Int)}
    (hown : LRow W base v l) (hgd : o.guard = none) (s x : Operand)
    (ho : o.op = .call { callee := .builtin .append, args := #[s, x], argTypes := #[37, 37] }) (hs : a.eval s = v) (t : Int × Int)
    (hx : a.eval x = .slice (some ⟨W.heap.size, 0, none⟩) 1 1) (hlen : l.length ≤ 1099511627776) (hbase : base ≤ W.heap.size)
    (h : ∀ ao n c w', n = l.length + 1 → LRow w' base (.slice ao n c) (l ++ [t]) → (W.alloc (.cells #[.int .u8 t.1, .int .u8 t.2] 43)).grownBy w' v.ownBlock → K (a.put o.dst (.slice ao n c)) w') :
    if Region.wanted o (yielded ops a.tmps) = true then Oper.wp Try.prog o a (W.alloc (.cells #[.int .u8 t.1, .int .u8 t.2] 43)) K Q else E := by
  obtain ⟨i0, hi, hz0, hz1, hz2⟩ := info_parts infoLight
  refine step_append_any _ hgd s x 37 ho base 43 i0 (.agg #[.int .u8 0, .int .u8 0]) 2 2 Try.underlying37 hi hz0 hz1 hz2 rfl (by decide) v l.length _ hs (hown.alloc _) (W.heap.size + 1) _ 1 1 (clE t) hx ⟨rfl, fun _ => ⟨_, rfl, Nat.lt_succ_self _, fun j u hu => ?_⟩⟩
    (clE_one t) (by unfold maxLen; omega) (by omega) (by simp; omega) (fun v' w' h1 h2 h3 => ?_)
  · have ha : (⟨W.heap.size, 0, none⟩ : Addr).add j = ⟨W.heap.size, j, none⟩ := by unfold Addr.add; split <;> simp_all
    rw [ha, (Blk.new W 43 #[.int .u8 t.1, .int .u8 t.2]).cell j, ← hu]
    simp [clE]
  · have hr : LRow w' base v' (l ++ [t]) := by
      show World.ownsRow w' base 43 2 v' (l ++ [t]).length (rc clE (l ++ [t]))
      rw [rc_append, rc_single, List.length_append]
      exact h1
    obtain ⟨_, ao, c, rfl, _⟩ := own_rat (d := (0, 0)) clE_len hr
    exact h ao _ c w' (by simp) hr h2
def lampL (cells : List (Int × Int)) (i : Nat) : Nat := (lampC (cells.getD i (0, 0)).1 (cells.getD i (0, 0)).2).toNat
/-- The lights of a box by the document. -/
def lightsL (b : Bx) (cells : List (Int × Int)) (m : Nat) : List (Int × Int) := (List.range m).map fun i => ((roundN b (clrL cells) (srcN b (clrL cells)) 15 i : Int), (roundN b (clrL cells) (lampL cells) 15 i : Int))
theorem lightsL_len (b : Bx) (cells : List (Int × Int)) (m : Nat) : (lightsL b cells m).length = m := by simp [lightsL]
theorem lightsL_succ (b : Bx) (cells : List (Int × Int)) (m : Nat) : lightsL b cells (m + 1) = lightsL b cells m ++ [((roundN b (clrL cells) (srcN b (clrL cells)) 15 m : Int), (roundN b (clrL cells) (lampL cells) 15 m : Int))] := by simp [lightsL, List.range_succ]
theorem src_le (b : Bx) (clr : Nat → Bool) (i : Nat) : srcN b clr i ≤ 15 := by unfold srcN; split <;> omega
theorem lampL_le (cells : List (Int × Int)) (hin : ∀ x ∈ cells, InU x.1 ∧ InU x.2) (i : Nat) : lampL cells i ≤ 15 := by
  unfold lampL
  have : InU (cells.getD i (0, 0)).2 := by
    rw [List.getD_eq_getElem?_getD]
    cases h : cells[i]? with
    | none => unfold InU; simp
    | some x => exact (hin x (List.mem_of_getElem? h)).2
  have := lampC_in (k := (cells.getD i (0, 0)).1) this
  omega
set_option maxHeartbeats 16000000 in
theorem light_box (W : World) (base : Nat) (b : Bx) (ok : b.Ok) (cells : List (Int × Int)) (cv : Value) (hc : CRow W base cv cells) (hcl : cells.length = b.size) (hin : ∀ x ∈ cells, InU x.1 ∧ InU x.2) :
    Calls Try.prog 43 #[boxV b cv] W fun e w' => ∃ v, e = .returned v ∧ LRow w' W.heap.size v (lightsL b cells b.size) ∧ Below W.heap.size W w' := by
  have HOK := Lib.hid ok
  have HC := Lib.hid hc
  have HCL := Lib.hid hcl
  have HIN := Lib.hid hin
  have hsz := Bx.size_le ok
  have hpos : 0 < b.size := by unfold Bx.size; exact Nat.mul_pos (Nat.mul_pos ok.x1 ok.y1) ok.z1
  obtain ⟨_, ao, cc, hcv, hcc, _⟩ := own_rat (d := ((0, 0) : Int × Int)) clE_len hc
  have hcv2 := hcv
  rw [hcl] at hcv
  obtain ⟨W1, hW1⟩ : ∃ W1, W1 = W.alloc (.cells #[.int .i64 (b.X : Int), .int .i64 (b.Y : Int), .int .i64 (b.Z : Int), cv] 45) := ⟨_, rfl⟩
  have hB1 : Below W.heap.size W W1 := by rw [hW1]; exact (Below.refl _ _).alloc (Nat.le_refl _) _
  have hbx : Blk W1 W.heap.size 45 #[.int .i64 (b.X : Int), .int .i64 (b.Y : Int), .int .i64 (b.Z : Int), cv] := by rw [hW1]; exact Blk.new _ _ _
  have hs1 : W1.heap.size = W.heap.size + 1 := by rw [hW1]; simp
  obtain ⟨W2, hmk, hnx, hb2, hs2⟩ := make_ints W1 b.size hsz
  have HR0 := Lib.hid (show Below W.heap.size W W2 ∧ Blk W2 W.heap.size 45 #[.int .i64 (b.X : Int), .int .i64 (b.Y : Int), .int .i64 (b.Z : Int), cv] ∧ IBlk W2 W1.heap.size b.size (fun i => if i < 0 then lampL cells i else 0) from ⟨hB1.trans (hb2.mono hB1.size), hbx.below hb2 hbx.lt, hnx.congr (fun i hi => by simp)⟩)
  obtain ⟨gk, hgk⟩ : ∃ gk, gk = W1.heap.size := ⟨_, rfl⟩
  rw [← hgk] at HR0 hmk
  have HGK := Lib.hid (show W.heap.size < gk by omega)
  obtain ⟨-, -, -, c3⟩ := four_cells hbx
  have HW1 := Lib.hid hW1
  rw [hcv] at c3
  have HCV := Lib.hid (And.intro hcv hcv2)
  unfold boxV
  rw [hW1] at c3
  rw [hcv] at c3 ⊢
  rw [hcv] at HW1
  rw [hW1, hcv] at hmk
  clear ok hc hcl hin hW1 hB1 hbx hs1 hnx hb2 hs2 hgk hcv2
  go_enter Try.func43, Try.ntmps43
  go_wp2
  go_loopw [4] (fun s wr => ∃ m : Nat, m ≤ b.size ∧ s = .int .i64 m ∧ Below W.heap.size W wr ∧ Blk wr W.heap.size 45 #[.int .i64 (b.X : Int), .int .i64 (b.Y : Int), .int .i64 (b.Z : Int), cv] ∧ IBlk wr gk b.size (fun i => if i < m then lampL cells i else 0)) (fun s _ => b.size - (intOf s).toNat)
  case atStart => exact ⟨0, Nat.zero_le _, rfl, HR0.out⟩
  case round =>
    clear HR0 c3
    obtain ⟨m, hm, rfl, hb, hbx, hnx⟩ := hrel
    have HB := Lib.hid hb
    have HBX := Lib.hid hbx
    have HNX := Lib.hid hnx
    obtain ⟨x0, x1, x2, x3⟩ := four_cells hbx
    rw [HCV.out.1] at x3
    clear hb hbx hnx x0 x1 x2
    by_cases hmt : m < b.size
    · have hmI : (m : Int) < (b.size : Int) := by omega
      have hmc : m < cells.length := by rw [HCL.out]; exact hmt
      have hcr := own_below HC.out HB.out
      rw [HCV.out.2] at hcr
      have hcc0 : 0 < cc := by have := HCL.out; omega
      obtain ⟨gc, hgc, -, -⟩ := own_form hcr hcc0
      subst hgc
      have hat := own_at clE_len ((0, 0) : Int × Int) hcr hmc
      obtain ⟨ce, hce⟩ : ∃ ce, ce = cells.getD m (0, 0) := ⟨_, rfl⟩
      rw [← hce] at hat
      have hci := HIN.out ce (by rw [hce, List.getD_eq_getElem?_getD, List.getElem?_eq_getElem hmc]; exact List.getElem_mem hmc)
      have HLM := Lib.hid (show lampL cells m = (lampC ce.1 ce.2).toNat by unfold lampL; rw [← hce])
      obtain ⟨k1, k2⟩ := ce
      have e0 : wr.cell? ⟨gc, m * 2, none⟩ = some (.int .u8 k1) := hat 0 (by decide)
      have e1 : wr.cell? ⟨gc, m * 2 + 1, none⟩ = some (.int .u8 k2) := hat 1 (by decide)
      have hly := lampC_in (k := k1) hci.2
      have HG := Lib.hid (clamp_any wr k1 k2 hci.1 hci.2)
      obtain ⟨y, hy⟩ : ∃ y : Nat, lampC k1 k2 = (y : Int) := ⟨(lampC k1 k2).toNat, by simp only at hly; omega⟩
      simp only at HLM
      rw [hy] at HG HLM
      rw [hy] at hly
      rw [Int.toNat_natCast] at HLM
      have hy15 : y ≤ 15 := by omega
      clear hat hce hci hcr hy hly
      go_wp2_with fail
      go_at_call 60
      refine HG.out.mono ?_
      rintro e w2 ⟨rfl, hb⟩
      have hnx2 := HNX.out.below hb
      have c1 := hnx2.cells m hmt
      have f1 := hnx2.frozen m
      have HNX3 := Lib.hid ((hnx2.set m y).congr (l' := fun i => if i < m + 1 then lampL cells i else 0) (fun i hi => by
        by_cases e : i = m
        · subst e; simp [HLM.out]
        · by_cases h2 : i < m
          · simp [e, h2, Nat.lt_succ_of_lt h2]
          · have : ¬ i < m + 1 := by omega
            simp [e, h2, this]))
      have hgk2 : gk < w2.heap.size := hnx2.lt
      have HB3 := Lib.hid (show Below W.heap.size W (w2.setCell ⟨gk, m, none⟩ (.int .i64 (y : Nat))) from (HB.out.trans (hb.mono HB.out.size)).setCell (Nat.le_of_lt HGK.out) _)
      have HBX3 := Lib.hid (show Blk (w2.setCell ⟨gk, m, none⟩ (.int .i64 (y : Nat))) W.heap.size 45 #[.int .i64 (b.X : Int), .int .i64 (b.Y : Int), .int .i64 (b.Z : Int), cv] from (HBX.out.below hb HBX.out.lt).far (by have := HGK.out; simp; omega) _)
      clear hb hnx2 e0 e1 x3
      go_wp2
      go_roundw
      case rel => exact ⟨m + 1, by omega, by go_num, HB3.out, HBX3.out, HNX3.out⟩
      case measure => (simp [intOf] <;> omega)
    · obtain rfl : m = b.size := by omega
      obtain ⟨x0, x1, x2, -⟩ := four_cells HBX.out
      have HLM := Lib.hid (HNX.out.congr (l' := lampL cells) (fun i hi => if_pos hi))
      have HSR := Lib.hid (sources_any wr base b HOK.out cells cv (own_below HC.out HB.out) HCL.out HIN.out)
      unfold boxV at HSR
      rw [HCV.out.1] at HSR
      clear HNX
      go_wp2_with fail
      go_at_call 42
      refine HSR.out.mono ?_
      rintro e w2 ⟨gs, rfl, hs2, hb2, hgs⟩
      have HB2 := Lib.hid (HB.out.trans (hb2.mono HB.out.size))
      have HBX2 := Lib.hid (HBX.out.below hb2 HBX.out.lt)
      have HLM2 := Lib.hid (HLM.out.below hb2)
      have HRS := Lib.hid (rounds_any w2 base b HOK.out cells cv (own_below HC.out HB2.out) HCL.out HIN.out gs b.size (srcN b (clrL cells)) hs2 hgs (Nat.le_refl _) (src_le b (clrL cells)))
      unfold boxV at HRS
      rw [HCV.out.1] at HRS
      obtain ⟨y0, y1, y2, y3⟩ := four_cells HBX2.out
      rw [HCV.out.1] at y3
      clear hb2 hs2 hgs x0 x1 x2 x3
      go_wp2_with fail
      go_at_call 61
      refine HRS.out.mono ?_
      rintro e w3 ⟨ga, ca, rfl, hca, ha3, hb3, hga⟩
      have HB3 := Lib.hid (HB2.out.trans (hb3.mono HB2.out.size))
      have HBX3 := Lib.hid (HBX2.out.below hb3 HBX2.out.lt)
      have HLM3 := Lib.hid (HLM2.out.below hb3)
      have HRL := Lib.hid (rounds_any w3 base b HOK.out cells cv (own_below HC.out HB3.out) HCL.out HIN.out gk b.size (lampL cells) HLM3.out.cells HLM3.out.lt (Nat.le_refl _) (lampL_le cells HIN.out))
      unfold boxV at HRL
      rw [HCV.out.1] at HRL
      obtain ⟨z0, z1, z2, z3⟩ := four_cells HBX3.out
      rw [HCV.out.1] at z3
      have HSK := Lib.hid (And.intro ha3 hga)
      clear hb3 ha3 hga y0 y1 y2 y3
      go_wp2_with fail
      go_at_call 61
      refine HRL.out.mono ?_
      rintro e w4 ⟨gl, cl, rfl, hcl4, hl4, hb4, hgl⟩
      have HB4 := Lib.hid (HB3.out.trans (hb4.mono HB3.out.size))
      have HBX4 := Lib.hid (HBX3.out.below hb4 HBX3.out.lt)
      have HA4 := Lib.hid (HSK.out.1.below hb4 (fun _ => HSK.out.2))
      have HGA := Lib.hid (Nat.lt_of_lt_of_le HSK.out.2 hb4.size)
      have HL4 := Lib.hid (And.intro hl4 hgl)
      clear hb4 hl4 hgl z0 z1 z2 z3
      go_wp2
      go_loopw [8, 9] (fun v s wr => ∃ m : Nat, m ≤ b.size ∧ s = .int .i64 m ∧ LRow wr w4.heap.size v (lightsL b cells m) ∧ Below W.heap.size W wr ∧ Below w4.heap.size w4 wr) (fun _ s _ => b.size - (intOf s).toNat)
      case atStart => exact ⟨0, Nat.zero_le _, rfl, World.ownsRow_nil _ _ _ _, HB4.out, Below.refl _ _⟩
      case round =>
        obtain ⟨m, hm, rfl, hv, hbw, hb4⟩ := hrel
        have HV := Lib.hid hv
        have HBW := Lib.hid hbw
        have HB5 := Lib.hid hb4
        have x3 := (HBX4.out.below hb4 HBX4.out.lt).cell 3
        simp only [List.getElem?_toArray, List.getElem?_cons_succ, List.getElem?_cons_zero] at x3
        rw [HCV.out.1] at x3
        clear hv hbw hb4
        by_cases hmt : m < b.size
        · have hmI : (m : Int) < (b.size : Int) := by omega
          have c0 := (HA4.out.below HB5.out (fun _ => HGA.out)) m hmt
          have c1 := (HL4.out.1.below HB5.out (fun _ => HL4.out.2)) m hmt
          have HSU := Lib.hid (lightsL_succ b cells m)
          have hs15 := round_le (b := b) (clr := clrL cells) (src_le b (clrL cells)) 15 m
          have hl15 := round_le (b := b) (clr := clrL cells) (lampL_le cells HIN.out) 15 m
          have HLEN := Lib.hid (show (lightsL b cells m).length ≤ 1099511627776 by rw [lightsL_len]; omega)
          obtain ⟨ys, hys⟩ : ∃ ys, ys = roundN b (clrL cells) (srcN b (clrL cells)) 15 m := ⟨_, rfl⟩
          obtain ⟨yl, hyl⟩ : ∃ yl, yl = roundN b (clrL cells) (lampL cells) 15 m := ⟨_, rfl⟩
          rw [← hys] at c0 HSU hs15
          rw [← hyl] at c1 HSU hl15
          have k1 : IntKind.u8.wrap (ys : Int) = (ys : Int) := by rw [IntKind.wrap_u8]; omega
          have k2 : IntKind.u8.wrap (yl : Int) = (yl : Int) := by rw [IntKind.wrap_u8]; omega
          have hszb : w4.heap.size ≤ wr.heap.size := HB5.out.size
          clear hys hyl
          go_wp2
          go_region_law (refine cl_step HV.out.drew rfl _ _ rfl rfl (((ys : Int), (yl : Int)) : Int × Int) rfl (by have := HLEN.out; omega) (show w4.heap.size ≤ wr.heap.size from hszb) (fun ao n c w2 h0 h1 h2 => ?_))
          all_goals
            have HV2 := Lib.hid (show LRow w2 w4.heap.size (.slice ao n c) (lightsL b cells (m + 1)) by rw [HSU.out]; exact h1)
            have hx : ∀ k, Value.ownBlock _ = some k → w4.heap.size ≤ k := fun k hk => (HV.out.lt k hk).1
            have hw4 := HB4.out.size
            have HBW2 := Lib.hid ((HBW.out.drew.alloc HBW.out.size (.cells #[.int .u8 (ys : Int), .int .u8 (yl : Int)] 43)).grown h2 (by have := HBW.out.size; simp; omega) (fun k hk => Nat.le_trans hw4 (hx k hk)))
            have HB52 := Lib.hid ((HB5.out.drew.alloc HB5.out.size (.cells #[.int .u8 (ys : Int), .int .u8 (yl : Int)] 43)).grown h2 (by have := HB5.out.size; simp; omega) hx)
            subst h0
            clear h1 h2 hx hw4 c0 c1
            go_wp2
            go_roundw
            case rel => exact ⟨m + 1, by omega, by go_num, HV2.out, HBW2.out, HB52.out⟩
            case measure => (simp [intOf] <;> omega)
        · obtain rfl : m = b.size := by omega
          go_wp2
          go_ret
          exact ⟨_, rfl, own_base HV.out HB4.out.size, HBW.out⟩
end Go.Proofs.Ytlhjjmfbifhgfaa
/- The document's right lights: the walk. -/
namespace Go.Proofs.Ytlhjjmfbifhgfaa
set_option linter.unusedSimpArgs false
set_option linter.unusedVariables false
open Go.RowKit
set_option maxRecDepth 100000

def zeroS : Nat → List (Int × Int) → List (Int × Int)
  | 0, L => L
  | _ + 1, [] => []
  | m + 1, x :: L => (0, x.2) :: zeroS m L
theorem zeroS_len : ∀ (m : Nat) (L : List (Int × Int)), (zeroS m L).length = L.length
  | 0, _ => rfl
  | _ + 1, [] => rfl
  | m + 1, x :: L => by simp [zeroS, zeroS_len m L]
theorem zeroS_at : ∀ (m : Nat) (L : List (Int × Int)), (zeroS m L).getD m (0, 0) = L.getD m (0, 0)
  | 0, L => rfl
  | m + 1, [] => rfl
  | m + 1, x :: L => by
    show ((0, x.2) :: zeroS m L).getD (m + 1) (0, 0) = (x :: L).getD (m + 1) (0, 0)
    rw [List.getD_cons_succ, List.getD_cons_succ]
    exact zeroS_at m L
theorem zeroS_step : ∀ (m : Nat) (L : List (Int × Int)), zeroS (m + 1) L = (zeroS m L).set m (0, (L.getD m (0, 0)).2)
  | 0, [] => rfl
  | 0, x :: L => rfl
  | m + 1, [] => rfl
  | m + 1, x :: L => by
    show (0, x.2) :: zeroS (m + 1) L = ((0, x.2) :: zeroS m L).set (m + 1) (0, ((x :: L).getD (m + 1) (0, 0)).2)
    rw [List.set_cons_succ, zeroS_step m L, List.getD_cons_succ]
theorem zeroS_get : ∀ (m : Nat) (L : List (Int × Int)) (i : Nat), i < m → (zeroS m L).getD i (0, 0) = (if i < L.length then (0, (L.getD i (0, 0)).2) else (0, 0))
  | 0, _, _, h => absurd h (Nat.not_lt_zero _)
  | m + 1, [], i, _ => by simp [zeroS]
  | m + 1, x :: L, 0, _ => by simp [zeroS]
  | m + 1, x :: L, i + 1, h => by
    show ((0, x.2) :: zeroS m L).getD (i + 1) (0, 0) = _
    rw [List.getD_cons_succ, zeroS_get m L i (by omega), List.getD_cons_succ]
    by_cases h2 : i < L.length <;> simp [h2]
theorem rc_sky : ∀ (L : List (Int × Int)) (i : Nat), i < L.length → rc clE (L.set i (0, (L.getD i (0, 0)).2)) = (rc clE L).set (i * 2) (.int .u8 0)
  | [], _, h => absurd h (Nat.not_lt_zero _)
  | y :: L, 0, _ => by simp [rc, clE]
  | y :: L, i + 1, h => by
    rw [List.set_cons_succ, List.getD_cons_succ, rc_cons, rc_cons, rc_sky L i (by simpa using h)]
    simp only [clE, List.cons_append, List.nil_append]
    rw [show (i + 1) * 2 = i * 2 + 1 + 1 from by omega]
    simp only [List.set_cons_succ]
/-- The lights as they must be. -/
def rightL (f : Fw) : List (Int × Int) := if f.b.lo.2.1 + f.b.Y < 64 then zeroS f.b.size (lightsL f.b f.cells f.b.size) else lightsL f.b f.cells f.b.size
set_option maxHeartbeats 8000000 in
theorem right_any (W : World) (base g : Nat) (f : Fw) (cv lv av tv : Value) (hb : Blk W g 48 (fwC f cv lv av tv)) (hc : CRow W base cv f.cells) (okb : f.b.Ok) (hcl : f.cells.length = f.b.size) (hin : ∀ x ∈ f.cells, InU x.1 ∧ InU x.2) :
    Calls Try.prog 18 #[.pointer (some ⟨g, 0, none⟩)] W fun e w' => ∃ v, e = .returned v ∧ LRow w' W.heap.size v (rightL f) ∧ Below W.heap.size W w' := by
  have HL := Lib.hid (light_box W base f.b okb f.cells cv hc hcl hin)
  have HB := Lib.hid hb
  have hsz := Bx.size_le okb
  have HY := Lib.hid (And.intro okb.ly okb.hy)
  have hy16 := okb.y16
  obtain ⟨c0, c1, c2, c3, c4, c5, c6, -⟩ := world_cells hb
  unfold boxV at HL
  have HRT := Lib.hid (show rightL f = if f.b.lo.2.1 + f.b.Y < 64 then zeroS f.b.size (lightsL f.b f.cells f.b.size) else lightsL f.b f.cells f.b.size from rfl)
  clear hb hc okb hcl hin
  go_enter Try.func18, Try.ntmps18
  go_wp2_with fail
  go_at_call 43
  refine HL.out.mono ?_
  rintro e w2 ⟨v, rfl, hv, hb2⟩
  have hlen : (lightsL f.b f.cells f.b.size).length = f.b.size := lightsL_len _ _ _
  obtain ⟨L, hL⟩ : ∃ L, L = lightsL f.b f.cells f.b.size := ⟨_, rfl⟩
  rw [← hL] at hv hlen HRT
  obtain ⟨_, ao, c, rfl, hcap, _⟩ := own_rat (d := ((0, 0) : Int × Int)) clE_len hv
  have HLN := Lib.hid hlen
  obtain ⟨n, hn⟩ : ∃ n, n = L.length := ⟨_, rfl⟩
  have hns : n = f.b.size := by rw [hn, hlen]
  rw [← hn] at hv hcap ⊢
  have HN := Lib.hid (And.intro hn hns)
  have HV := Lib.hid hv
  have HB2 := Lib.hid hb2
  have HBG := Lib.hid (HB.out.below hb2 HB.out.lt)
  have hn1 : n ≤ 1024 := by omega
  obtain ⟨ly, hly⟩ : ∃ ly, ly = f.b.lo.2.1 := ⟨_, rfl⟩
  obtain ⟨Y, hY⟩ : ∃ Y : Nat, Y = f.b.Y := ⟨_, rfl⟩
  rw [← hly, ← hY] at HRT HY
  have hyb : 0 ≤ ly ∧ ly + Y ≤ 64 := HY.out
  have HLY := Lib.hid (And.intro hly hY)
  clear hv hb2 c0 c1 c2 c3 c4 c5 c6 hL hly hY hlen hn hns hsz
  go_wp2
  go_loopw [4] (fun s wr => ∃ m : Nat, m ≤ n ∧ s = .int .i64 m ∧ (0 < m → ly + Y < 64) ∧ LRow wr W.heap.size (.slice ao n c) (zeroS m L) ∧ Below W.heap.size W wr) (fun s _ => n - (intOf s).toNat)
  case atStart => exact ⟨0, Nat.zero_le _, rfl, fun h => absurd h (Nat.lt_irrefl _), HV.out, HB2.out⟩
  case round =>
    obtain ⟨m, hm, rfl, htop, hv, hb⟩ := hrel
    have HVM := Lib.hid hv
    have HBM := Lib.hid hb
    have HTOP := Lib.hid htop
    obtain ⟨-, c1, -, -, c4, -⟩ := world_cells (HB.out.below hb HB.out.lt)
    rw [← HLY.out.1] at c1
    rw [← HLY.out.2] at c4
    clear hv hb htop
    by_cases hmt : m < n
    · have hmI : (m : Int) < (n : Int) := by omega
      have w1 : IntKind.i64.wrap (ly + (Y : Int)) = ly + (Y : Int) := wrap_small (by omega) (by omega)
      by_cases hlo : ly + (Y : Int) < 64
      · have hc0 : 0 < c := by omega
        have hz := zeroS_len m L
        obtain ⟨gl, hgl⟩ : ∃ gl, ao = some ⟨gl, 0, none⟩ := by
          rcases HVM.out.2 with ⟨h1, _⟩ | ⟨g, cap, cur, r1, _⟩
          · injection h1 with _ h3 h4; omega
          · injection r1 with h1 _ _
            exact ⟨g, h1⟩
        subst hgl
        have hrow : wr.drew.ownsRow W.heap.size 43 2 (.slice (some ⟨gl, 0, none⟩) n c) n (rc clE (zeroS m L)) := by
          have h1 := HVM.out.drew
          rw [zeroS_len, ← HN.out.1] at h1
          exact h1
        have hmL : m < L.length := by rw [← HN.out.1]; exact hmt
        have hat := own_at clE_len ((0, 0) : Int × Int) (n := n) HVM.out.drew (by rw [zeroS_len]; exact hmL)
        obtain ⟨x, hx⟩ : ∃ x, x = L.getD m (0, 0) := ⟨_, rfl⟩
        rw [zeroS_at, ← hx] at hat
        have e0 : wr.drew.cell? ⟨gl, m * 2, none⟩ = some (.int .u8 x.1) := hat 0 (by decide)
        have f0 := own_free hrow (m * 2)
        have hput := own_put hrow (m * 2) (.int .u8 0)
        rw [← rc_sky _ _ (by rw [zeroS_len]; exact hmL), zeroS_at, ← zeroS_step] at hput
        have HPUT := Lib.hid (show LRow (wr.drew.setCell ⟨gl, m * 2, none⟩ (.int .u8 0)) W.heap.size (.slice (some ⟨gl, 0, none⟩) n c) (zeroS (m + 1) L) by
          show World.ownsRow _ _ _ _ _ (zeroS (m + 1) L).length _
          rw [zeroS_len, ← HN.out.1]
          exact hput)
        have hgk : W.heap.size ≤ gl := (hrow.lt gl rfl).1
        have HBP := Lib.hid (show Below W.heap.size W (wr.drew.setCell ⟨gl, m * 2, none⟩ (.int .u8 0)) from HBM.out.drew.setCell hgk _)
        clear hat hrow hput hx hz hgk
        go_wp2
        go_region_held (fun w' => w'.cell? ⟨g, 1, none⟩ = some (.int .i64 ly) ∧ w'.cell? ⟨g, 4, none⟩ = some (.int .i64 (Y : Int))) (go_keep) (fail)
        go_wp2
        go_roundw
        case rel => exact ⟨m + 1, by omega, by go_num, fun _ => hlo, HPUT.out, HBP.out⟩
        case measure => (simp [intOf] <;> omega)
      · have hm0 : m = 0 := by
          rcases Nat.eq_zero_or_pos m with h | h
          · exact h
          · exact absurd (HTOP.out h) hlo
        have HM0 := Lib.hid hm0
        have HR := Lib.hid (show rightL f = L by rw [HRT.out, if_neg hlo])
        clear hm0
        go_wp2
        go_region_held (fun w' => w'.cell? ⟨g, 1, none⟩ = some (.int .i64 ly) ∧ w'.cell? ⟨g, 4, none⟩ = some (.int .i64 (Y : Int))) (go_keep) (fail)
        go_wp2
        go_ret
        refine ⟨_, rfl, ?_, HBM.out.drew⟩
        have h1 := HVM.out.drew
        rw [HM0.out] at h1
        rw [HR.out]
        exact h1
    · obtain rfl : m = n := by omega
      have HR := Lib.hid (show rightL f = zeroS m L by
        rw [HRT.out]
        by_cases hlo : ly + (Y : Int) < 64
        · rw [if_pos hlo, ← HN.out.2]
        · rw [if_neg hlo]
          rcases Nat.eq_zero_or_pos m with h | h
          · rw [h]; rfl
          · exact absurd (HTOP.out h) hlo)
      go_wp2
      go_quiet (fail)
      go_wp2
      go_ret
      refine ⟨_, rfl, ?_, below_drewN HBM.out _⟩
      rw [HR.out]
      exact own_below HVM.out (below_drewN (Below.refl _ _) _)
end Go.Proofs.Ytlhjjmfbifhgfaa
/- The document's right lights are those that the cells give: the plain law. -/
namespace Go.Proofs.Ytlhjjmfbifhgfaa
set_option linter.unusedSimpArgs false
set_option linter.unusedVariables false

theorem Lights.congr {clear clear2 : Pl → Prop} {own own2 : Pl → Nat} {F : Pl → Nat} (h : Lights sidesP clear own F) (hc : ∀ q, clear2 q ↔ clear q) (ho : ∀ q, own2 q = own q) : Lights sidesP clear2 own2 F :=
  ⟨h.le, fun c v hv => by rw [hc, ho]; exact h.iff c v hv⟩
def rFL (f : Fw) (q : Pl) : Nat := spread f.b (roundN f.b (clrF f) (lampL f.cells) 15) q
def rFS (f : Fw) (q : Pl) : Nat := if f.b.lo.2.1 + f.b.Y < 64 then 0 else spread f.b (roundN f.b (clrF f) (srcN f.b (clrF f)) 15) q
theorem clr_same (f : Fw) : clrL f.cells = clrF f := rfl
theorem lamp_spread {f : Fw} (q : Pl) : (lampAt f q).toNat = spread f.b (lampL f.cells) q := by
  unfold lampAt cellAt spread lampL
  by_cases h : f.b.inside q
  · rw [if_pos h, if_pos h]
  · rw [if_neg h, if_neg h]
    rfl
theorem upP_pl (b : Bx) (x y z k : Nat) : upP (b.pl x y z) k = b.pl x (y + k) z := by
  simp only [upP, Bx.pl, Prod.mk.injEq, true_and, and_true]
  push_cast
  omega
theorem inside_pl_iff {b : Bx} {x y z : Nat} (hx : x < b.X) (hz : z < b.Z) : b.inside (b.pl x y z) ↔ y < b.Y := by
  simp only [Bx.inside, Bx.pl]
  omega
theorem src_spread {b : Bx} {clr : Nat → Bool} (htop : b.lo.2.1 + b.Y = 64) (q : Pl) : skyOwn b clr q = spread b (srcN b clr) q := by
  by_cases h : b.inside q
  · obtain ⟨x, y, z, hx, hy, hz, rfl⟩ := b.inside_pl.1 h
    rw [spread_pl b _ hx hy hz]
    unfold srcN
    rw [b.ix_x hx, b.ix_z hx hz, b.ix_y hx hz]
    by_cases hu : upN b clr x y z = true
    · rw [if_pos hu]
      refine skyOwn_lit ⟨htop, h, fun k hk => ?_⟩
      rw [upP_pl] at hk ⊢
      rw [inside_pl_iff hx hz] at hk
      rw [b.idx_pl]
      exact upN_iff.1 hu (y + k) (by omega) hk
    · rw [if_neg hu]
      refine skyOwn_not fun hl => hu (upN_iff.2 fun y' h1 h2 => ?_)
      have h3 := hl.2.2 (y' - y)
      rw [upP_pl, inside_pl_iff hx hz, b.idx_pl, show y + (y' - y) = y' from by omega] at h3
      exact h3 h2
  · unfold spread
    rw [if_neg h]
    exact skyOwn_not fun hl => h hl.2.1
/-- The lights that the document reckons are right. -/
theorem right_right (f : Fw) (ok : f.b.Ok) (hin : ∀ x ∈ f.cells, InU x.1 ∧ InU x.2) : RightOf f (rFL f) (rFS f) where
  lamp := (rounds_lights ok (clr := clrF f) (own := lampL f.cells) (lampL_le f.cells hin)).congr (fun q => clear_at f q) (fun q => lamp_spread q)
  sky := by
    by_cases h : f.b.lo.2.1 + f.b.Y < 64
    · have h0 : rFS f = fun _ => 0 := funext fun q => by unfold rFS; rw [if_pos h]
      have h1 : ∀ q, skyOwn f.b (clrF f) q = 0 := fun q => skyOwn_not fun hl => by have := hl.1; omega
      rw [h0]
      refine ⟨fun _ => Nat.zero_le _, fun c v hv => ⟨fun h => by omega, ?_⟩⟩
      rintro ⟨-, h2 | ⟨q, -, h2⟩⟩
      · rw [h1] at h2; exact h2
      · omega
    · have htop : f.b.lo.2.1 + f.b.Y = 64 := by have := ok.hy; omega
      have h0 : rFS f = spread f.b (roundN f.b (clrF f) (srcN f.b (clrF f)) 15) := funext fun q => by unfold rFS; rw [if_neg h]
      rw [h0]
      exact (rounds_lights ok (clr := clrF f) (own := srcN f.b (clrF f)) (src_le f.b (clrF f))).congr (fun q => clear_at f q) (fun q => src_spread htop q)
theorem lightsL_get {b : Bx} {cells : List (Int × Int)} {n i : Nat} (hi : i < n) : (lightsL b cells n).getD i (0, 0) = ((roundN b (clrL cells) (srcN b (clrL cells)) 15 i : Int), (roundN b (clrL cells) (lampL cells) 15 i : Int)) := by
  unfold lightsL
  rw [List.getD_eq_getElem?_getD, List.getElem?_map, List.getElem?_range hi]
  rfl
theorem rightL_len (f : Fw) : (rightL f).length = f.b.size := by
  unfold rightL
  split
  · rw [zeroS_len, lightsL_len]
  · rw [lightsL_len]
/-- An entry of the right lights. -/
theorem rightL_at (f : Fw) {q : Pl} (hq : f.b.inside q) : (rightL f).getD (f.b.idx q) (0, 0) = ((rFS f q : Int), (rFL f q : Int)) := by
  have hi := f.b.idx_lt hq
  unfold rightL rFS rFL spread
  rw [if_pos hq, if_pos hq]
  split
  · rw [zeroS_get _ _ _ hi, lightsL_len, if_pos hi, lightsL_get hi]
    rfl
  · rw [lightsL_get hi]
    rfl
theorem rightL_ix (f : Fw) {i : Nat} (hi : i < f.b.size) : (rightL f).getD i (0, 0) = ((rFS f (f.b.at_ i) : Int), (rFL f (f.b.at_ i) : Int)) := by
  rw [← rightL_at f (f.b.at_inside hi), f.b.idx_at hi]
/-- A field with its right lights reads so. -/
theorem rightL_light (f : Fw) (h : f.lights = rightL f) (q : Pl) : lightAt f q = ((rFS f q : Int), (rFL f q : Int)) := by
  unfold lightAt
  by_cases hq : f.b.inside q
  · rw [if_pos hq, h, rightL_at f hq]
  · rw [if_neg hq]
    unfold rFS rFL spread
    rw [if_neg hq, if_neg hq]
    split <;> rfl
/-- Lights are right just where they are the document's. -/
theorem rightOf_eq {f : Fw} {FL FS : Pl → Nat} (ok : f.b.Ok) (hin : ∀ x ∈ f.cells, InU x.1 ∧ InU x.2) (h : RightOf f FL FS) : FL = rFL f ∧ FS = rFS f :=
  ⟨h.lamp.unique (right_right f ok hin).lamp, h.sky.unique (right_right f ok hin).sky⟩
theorem rightL_in (f : Fw) (ok : f.b.Ok) (hin : ∀ x ∈ f.cells, InU x.1 ∧ InU x.2) : ∀ c ∈ rightL f, (0 ≤ c.1 ∧ c.1 ≤ 15) ∧ (0 ≤ c.2 ∧ c.2 ≤ 15) := by
  intro c hc
  obtain ⟨i, hi, rfl⟩ := List.getElem_of_mem hc
  rw [rightL_len] at hi
  have h1 := rightL_ix f hi
  rw [List.getD_eq_getElem?_getD, List.getElem?_eq_getElem (by rwa [rightL_len])] at h1
  have h2 := (right_right f ok hin).sky.le (f.b.at_ i)
  have h3 := (right_right f ok hin).lamp.le (f.b.at_ i)
  simp only [Option.getD_some] at h1
  rw [h1]
  exact ⟨⟨by omega, by simp only; omega⟩, by omega, by simp only; omega⟩
/-- Of the same cells and box: the same right lights. -/
theorem rightL_congr {f h : Fw} (hb : f.b = h.b) (hc : f.cells = h.cells) : rightL f = rightL h := by
  unfold rightL
  rw [hb, hc]
end Go.Proofs.Ytlhjjmfbifhgfaa
/- The document's small functions: fit; masks. -/
namespace Go.Proofs.Ytlhjjmfbifhgfaa
set_option linter.unusedSimpArgs false
set_option linter.unusedVariables false
open Go.RowKit
set_option maxRecDepth 100000

theorem i64_mask {x : Int} {m k : Nat} (hm : ∀ y : Nat, y &&& m = y % 2 ^ k) (hk : k ≤ 16) (hs : m < 2 ^ 16) : bits .and .i64 x (m : Int) = x % ((2 ^ k : Nat) : Int) := by
  show IntKind.i64.wrap ((BitVec.ofInt 64 x &&& BitVec.ofInt 64 (m : Int)).toNat : Int) = _
  have h1 : (BitVec.ofInt 64 (m : Int)).toNat = m := by
    rw [BitVec.ofInt_natCast, BitVec.toNat_ofNat]; exact Nat.mod_eq_of_lt (by omega)
  rw [BitVec.toNat_and, h1, hm, BitVec.toNat_ofInt]
  have hp : 2 ^ k ≤ 2 ^ 16 := Nat.pow_le_pow_right (by omega) hk
  have hp0 : 0 < 2 ^ k := Nat.pow_pos (by omega)
  have h2 : ((((x % ((2 ^ 64 : Nat) : Int)).toNat % 2 ^ k : Nat)) : Int) = x % ((2 ^ k : Nat) : Int) := by
    rw [Int.natCast_emod, Int.toNat_of_nonneg (Int.emod_nonneg _ (by decide))]
    refine Int.emod_emod_of_dvd _ ?_
    refine ⟨((2 ^ (64 - k) : Nat) : Int), ?_⟩
    have : (2 : Nat) ^ 64 = 2 ^ k * 2 ^ (64 - k) := by rw [← Nat.pow_add, show k + (64 - k) = 64 from by omega]
    rw [← Int.natCast_mul, ← this]
  rw [h2]
  have h3 : 0 ≤ x % ((2 ^ k : Nat) : Int) := Int.emod_nonneg _ (by omega)
  have h4 : x % ((2 ^ k : Nat) : Int) < ((2 ^ k : Nat) : Int) := Int.emod_lt_of_pos _ (by omega)
  exact wrap_small (by omega) (by omega)
theorem i64_and7 (x : Int) : bits .and .i64 x 7 = x % 8 := i64_mask (m := 7) (k := 3) nat_mask3 (by decide) (by decide)
theorem i64_and15 (x : Int) : bits .and .i64 x 15 = x % 16 := i64_mask (m := 15) (k := 4) nat_mask4 (by decide) (by decide)
theorem i64_and16 (x : Int) : bits .and .i64 x 65535 = x % 65536 := i64_mask (m := 65535) (k := 16) nat_mask16 (by decide) (by decide)

def fitI (n least most : Int) : Int := if n < least then least else if most < n then most else n
theorem fitI_in {n l m : Int} (h : l ≤ m) : l ≤ fitI n l m ∧ fitI n l m ≤ m := by
  unfold fitI
  split
  · omega
  · split <;> omega
set_option maxHeartbeats 4000000 in
theorem fit_any (W : World) (n l m : Int) : Calls Try.prog 22 #[.int .i64 n, .int .i64 l, .int .i64 m] W fun e w' => e = .returned (.int .i64 (fitI n l m)) ∧ w' = W := by
  have HV := Lib.hid (show fitI n l m = if n < l then l else if m < n then m else n from rfl)
  go_enter Try.func22, Try.ntmps22
  by_cases h1 : n < l
  · have H := Lib.hid (show fitI n l m = l by rw [HV.out, if_pos h1])
    clear HV
    go_wp2
    go_ret
    exact ⟨by rw [H.out]; rfl, rfl⟩
  · by_cases h2 : m < n
    · have H := Lib.hid (show fitI n l m = m by rw [HV.out, if_neg h1, if_pos h2])
      clear HV
      go_wp2
      go_ret
      exact ⟨by rw [H.out]; rfl, rfl⟩
    · have H := Lib.hid (show fitI n l m = n by rw [HV.out, if_neg h1, if_neg h2])
      clear HV
      go_wp2
      go_ret
      exact ⟨by rw [H.out]; rfl, rfl⟩
end Go.Proofs.Ytlhjjmfbifhgfaa
/- The document's small world is made: the walk. -/
namespace Go.Proofs.Ytlhjjmfbifhgfaa
set_option linter.unusedSimpArgs false
set_option linter.unusedVariables false
open Go.RowKit
set_option maxRecDepth 100000

theorem infoCell : (Try.prog.info? 33).map (fun i => (i.zero, i.size, i.bytes)) = some (some (.agg #[.int .u8 0, .int .u8 0]), 2, 2) := by kernel_rfl
/-- append(cells, x), in a region that draws. -/
theorem ce_step {ops : Array Oper} {o : Oper} {a : Act} {K : Act → World → Prop} {Q : Exit → Act → World → Prop} {E : Prop} {W : World} {base : Nat} {v : Value} {l : List (Int × Int)}
    (hown : CRow W base v l) (hgd : o.guard = none) (s x : Operand)
    (ho : o.op = .call { callee := .builtin .append, args := #[s, x], argTypes := #[24, 24] }) (hs : a.eval s = v) (t : Int × Int)
    (hx : a.eval x = .slice (some ⟨W.heap.size, 0, none⟩) 1 1) (hlen : l.length ≤ 1099511627776) (hbase : base ≤ W.heap.size)
    (h : ∀ ao n c w', n = l.length + 1 → CRow w' base (.slice ao n c) (l ++ [t]) → (W.alloc (.cells #[.int .u8 t.1, .int .u8 t.2] 33)).grownBy w' v.ownBlock → K (a.put o.dst (.slice ao n c)) w') :
    if Region.wanted o (yielded ops a.tmps) = true then Oper.wp Try.prog o a (W.alloc (.cells #[.int .u8 t.1, .int .u8 t.2] 33)) K Q else E := by
  obtain ⟨i0, hi, hz0, hz1, hz2⟩ := info_parts infoCell
  refine step_append_any _ hgd s x 24 ho base 33 i0 (.agg #[.int .u8 0, .int .u8 0]) 2 2 Try.underlying24 hi hz0 hz1 hz2 rfl (by decide) v l.length _ hs (hown.alloc _) (W.heap.size + 1) _ 1 1 (clE t) hx ⟨rfl, fun _ => ⟨_, rfl, Nat.lt_succ_self _, fun j u hu => ?_⟩⟩
    (clE_one t) (by unfold maxLen; omega) (by omega) (by simp; omega) (fun v' w' h1 h2 h3 => ?_)
  · have ha : (⟨W.heap.size, 0, none⟩ : Addr).add j = ⟨W.heap.size, j, none⟩ := by unfold Addr.add; split <;> simp_all
    rw [ha, (Blk.new W 33 #[.int .u8 t.1, .int .u8 t.2]).cell j, ← hu]
    simp [clE]
  · have hr : CRow w' base v' (l ++ [t]) := by
      show World.ownsRow w' base 33 2 v' (l ++ [t]).length (rc clE (l ++ [t]))
      rw [rc_append, rc_single, List.length_append]
      exact h1
    obtain ⟨_, ao, c, rfl, _⟩ := own_rat (d := (0, 0)) clE_len hr
    exact h ao _ c w' (by simp) hr h2
/-- A box out of any numbers. -/
def madeB (a : Pl) (x y z : Int) : Bx where
  X := (1 + x % 8).toNat
  Y := (1 + y % 16).toNat
  Z := (1 + z % 8).toNat
  lo := (fitI a.1 (-1048576) (1048576 - (1 + x % 8)), fitI a.2.1 0 (64 - (1 + y % 16)), fitI a.2.2 (-1048576) (1048576 - (1 + z % 8)))
theorem madeB_ok (a : Pl) (x y z : Int) : (madeB a x y z).Ok := by
  have h1 := fitI_in (n := a.1) (l := -1048576) (m := 1048576 - (1 + x % 8)) (by omega)
  have h2 := fitI_in (n := a.2.1) (l := 0) (m := 64 - (1 + y % 16)) (by omega)
  have h3 := fitI_in (n := a.2.2) (l := -1048576) (m := 1048576 - (1 + z % 8)) (by omega)
  constructor <;> simp only [madeB] <;> omega
/-- A world's cell: those told again and again. -/
def tileC (cl : List (Int × Int)) (i : Nat) : Int × Int := if 0 < cl.length ∧ mayC (cl.getD (i % cl.length) (0, 0)).1 (cl.getD (i % cl.length) (0, 0)).2 = true then cl.getD (i % cl.length) (0, 0) else (0, 0)
def tileL (cl : List (Int × Int)) (n : Nat) : List (Int × Int) := (List.range n).map (tileC cl)
theorem tileL_len (cl : List (Int × Int)) (n : Nat) : (tileL cl n).length = n := by simp [tileL]
theorem tileL_succ (cl : List (Int × Int)) (n : Nat) : tileL cl (n + 1) = tileL cl n ++ [tileC cl n] := by simp [tileL, List.range_succ]
theorem getD_in {cl : List (Int × Int)} (hin : ∀ c ∈ cl, InU c.1 ∧ InU c.2) (i : Nat) : InU (cl.getD i (0, 0)).1 ∧ InU (cl.getD i (0, 0)).2 := by
  rw [List.getD_eq_getElem?_getD]
  cases h : cl[i]? with
  | none => constructor <;> (unfold InU; simp)
  | some x => exact hin x (List.mem_of_getElem? h)
theorem tileC_in {cl : List (Int × Int)} (hin : ∀ c ∈ cl, InU c.1 ∧ InU c.2) (i : Nat) : InU (tileC cl i).1 ∧ InU (tileC cl i).2 := by
  unfold tileC
  split
  · exact getD_in hin _
  · constructor <;> (unfold InU; simp)
theorem tileL_in {cl : List (Int × Int)} (hin : ∀ c ∈ cl, InU c.1 ∧ InU c.2) (n : Nat) : ∀ c ∈ tileL cl n, InU c.1 ∧ InU c.2 := by
  intro c hc
  unfold tileL at hc
  obtain ⟨i, _, rfl⟩ := List.mem_map.1 hc
  exact tileC_in hin i
/-- A small world out of any numbers and cells, its light right. -/
def madeF0 (a : Pl) (x y z : Int) (cl : List (Int × Int)) (m : Nat) : Fw := { b := madeB a x y z, cells := tileL cl m, lights := [], asked := [], told := [] }
def madeF (a : Pl) (x y z : Int) (cl : List (Int × Int)) : Fw := { madeF0 a x y z cl (madeB a x y z).size with lights := rightL (madeF0 a x y z cl (madeB a x y z).size) }
abbrev nilS : Value := .slice none 0 0
set_option maxHeartbeats 16000000 in
theorem made_any (W : World) (a : Pl) (x y z : Int) (v : Value) (cl : List (Int × Int)) (hv : RAt clE 2 ((0, 0) : Int × Int) W v cl) (hin : ∀ c ∈ cl, InU c.1 ∧ InU c.2) (hlen : cl.length ≤ maxLen) :
    Calls Try.prog 10 #[.agg #[.int .i64 a.1, .int .i64 a.2.1, .int .i64 a.2.2], .int .i64 x, .int .i64 y, .int .i64 z, v] W fun e w' => ∃ g cv lv, e = .returned (.pointer (some ⟨g, 0, none⟩)) ∧ FieldAt w' W.heap.size g (madeF a x y z cl) cv lv nilS nilS ∧ Below W.heap.size W w' := by
  obtain ⟨ao, cap, rfl, -⟩ := id hv
  have HV := Lib.hid hv
  have HIN := Lib.hid hin
  have HOK := Lib.hid (madeB_ok a x y z)
  obtain ⟨a1, a2, a3⟩ := a
  obtain ⟨X, hX⟩ : ∃ X, X = 1 + x % 8 := ⟨_, rfl⟩
  obtain ⟨Y, hY⟩ : ∃ Y, Y = 1 + y % 16 := ⟨_, rfl⟩
  obtain ⟨Z, hZ⟩ : ∃ Z, Z = 1 + z % 8 := ⟨_, rfl⟩
  have hX8 : 1 ≤ X ∧ X ≤ 8 := by omega
  have hY16 : 1 ≤ Y ∧ Y ≤ 16 := by omega
  have hZ8 : 1 ≤ Z ∧ Z ≤ 8 := by omega
  have hXc : ((madeB (a1, a2, a3) x y z).X : Int) = X := by simp only [madeB]; omega
  have hYc : ((madeB (a1, a2, a3) x y z).Y : Int) = Y := by simp only [madeB]; omega
  have hZc : ((madeB (a1, a2, a3) x y z).Z : Int) = Z := by simp only [madeB]; omega
  have hlo : (madeB (a1, a2, a3) x y z).lo = (fitI a1 (-1048576) (1048576 - X), fitI a2 0 (64 - Y), fitI a3 (-1048576) (1048576 - Z)) := by simp only [madeB, hX, hY, hZ]
  obtain ⟨b, hb⟩ : ∃ b, b = madeB (a1, a2, a3) x y z := ⟨_, rfl⟩
  rw [← hb] at hXc hYc hZc hlo HOK
  have hsz : ((b.size : Nat) : Int) = X * Y * Z := by unfold Bx.size; push_cast; rw [hXc, hYc, hZc]
  have hsl := Bx.size_le HOK.out
  have HS := Lib.hid (And.intro hsz hsl)
  have HF := Lib.hid (show madeF (a1, a2, a3) x y z cl = { b := b, cells := tileL cl b.size, lights := rightL { b := b, cells := tileL cl b.size, lights := [], asked := [], told := [] }, asked := [], told := [] } by unfold madeF madeF0; rw [← hb])
  have HC := Lib.hid (show ((b.X : Int) = X ∧ (b.Y : Int) = Y ∧ (b.Z : Int) = Z) ∧ b.lo = (fitI a1 (-1048576) (1048576 - X), fitI a2 0 (64 - Y), fitI a3 (-1048576) (1048576 - Z)) from ⟨⟨hXc, hYc, hZc⟩, hlo⟩)
  have w4 : IntKind.i64.wrap (1048576 - X) = 1048576 - X := wrap_small (by omega) (by omega)
  have w5 : IntKind.i64.wrap (64 - Y) = 64 - Y := wrap_small (by omega) (by omega)
  have w6 : IntKind.i64.wrap (1048576 - Z) = 1048576 - Z := wrap_small (by omega) (by omega)
  have hb1 : Blk ((W.alloc (.cells #[.int .i64 a1, .int .i64 a2, .int .i64 a3] 23)).alloc (.cells #[.int .i64 0, .int .i64 0, .int .i64 0, .int .i64 X, .int .i64 Y, .int .i64 Z, nilS, nilS, nilS, nilS, .int .i64 0] 48)) (W.heap.size + 1) 48 #[.int .i64 0, .int .i64 0, .int .i64 0, .int .i64 X, .int .i64 Y, .int .i64 Z, nilS, nilS, nilS, nilS, .int .i64 0] := by
    have h := Blk.new (W.alloc (.cells #[.int .i64 a1, .int .i64 a2, .int .i64 a3] 23)) 48 #[.int .i64 0, .int .i64 0, .int .i64 0, .int .i64 X, .int .i64 Y, .int .i64 Z, nilS, nilS, nilS, nilS, .int .i64 0]
    rwa [show (W.alloc (.cells #[.int .i64 a1, .int .i64 a2, .int .i64 a3] 23)).heap.size = W.heap.size + 1 from by simp] at h
  have hb2 := (Blk.new W 23 #[.int .i64 a1, .int .i64 a2, .int .i64 a3]).alloc (.cells #[.int .i64 0, .int .i64 0, .int .i64 0, .int .i64 X, .int .i64 Y, .int .i64 Z, nilS, nilS, nilS, nilS, .int .i64 0] 48)
  have hbb : Below W.heap.size W ((W.alloc (.cells #[.int .i64 a1, .int .i64 a2, .int .i64 a3] 23)).alloc (.cells #[.int .i64 0, .int .i64 0, .int .i64 0, .int .i64 X, .int .i64 Y, .int .i64 Z, nilS, nilS, nilS, nilS, .int .i64 0] 48)) := ((Below.refl _ _).alloc (Nat.le_refl _) _).alloc (by simp) _
  have m1 := i64_and7 x
  have m2 := i64_and15 y
  have m3 := i64_and7 z
  have w1 : IntKind.i64.wrap (1 + x % 8) = 1 + x % 8 := wrap_small (by omega) (by omega)
  have w2 : IntKind.i64.wrap (1 + y % 16) = 1 + y % 16 := wrap_small (by omega) (by omega)
  have w3 : IntKind.i64.wrap (1 + z % 8) = 1 + z % 8 := wrap_small (by omega) (by omega)
  have HX := Lib.hid hX
  have HY := Lib.hid hY
  have HZ := Lib.hid hZ
  clear hlen hXc hYc hZc hlo hv hin hsz hsl hX hY hZ
  go_enter Try.func10, Try.ntmps10
  go_wp2
  rw [← HX.out, ← HY.out, ← HZ.out]
  clear m1 m2 m3 w1 w2 w3 HX HY HZ
  generalize (W.alloc (.cells #[.int .i64 a1, .int .i64 a2, .int .i64 a3] 23)).alloc (.cells #[.int .i64 0, .int .i64 0, .int .i64 0, .int .i64 X, .int .i64 Y, .int .i64 Z, nilS, nilS, nilS, nilS, .int .i64 0] 48) = W2 at hb1 hb2 hbb ⊢
  obtain ⟨g, hg⟩ : ∃ g, g = W.heap.size + 1 := ⟨_, rfl⟩
  rw [← hg] at hb1 ⊢
  obtain ⟨c0, c1, c2⟩ := three_cells hb2
  have d3 : W2.cell? ⟨g, 3, none⟩ = some (.int .i64 X) := hb1.cell 3
  have d4 : W2.cell? ⟨g, 4, none⟩ = some (.int .i64 Y) := hb1.cell 4
  have d5 : W2.cell? ⟨g, 5, none⟩ = some (.int .i64 Z) := hb1.cell 5
  have k0 := hb1.drew.frozen 0
  have k1 := hb1.drew.frozen 1
  have k2 := hb1.drew.frozen 2
  have e0 : W2.drew.cell? ⟨g, 0, none⟩ = some (.int .i64 0) := hb1.drew.cell 0
  have e1 : W2.drew.cell? ⟨g, 1, none⟩ = some (.int .i64 0) := hb1.drew.cell 1
  have e2 : W2.drew.cell? ⟨g, 2, none⟩ = some (.int .i64 0) := hb1.drew.cell 2
  have k3 := hb1.frozen 0
  have k4 := hb1.frozen 1
  have k5 := hb1.frozen 2
  have e3 : W2.cell? ⟨g, 0, none⟩ = some (.int .i64 0) := hb1.cell 0
  have e4 : W2.cell? ⟨g, 1, none⟩ = some (.int .i64 0) := hb1.cell 1
  have e5 : W2.cell? ⟨g, 2, none⟩ = some (.int .i64 0) := hb1.cell 2
  have hgn : g ≠ W.heap.size := by omega
  have HB1 := Lib.hid hb1
  have HBB := Lib.hid hbb
  have HG := Lib.hid hg
  clear hb1 hb2 hbb hg hb
  go_region_held (fun w' => w'.cell? ⟨W.heap.size, 0, none⟩ = some (.int .i64 a1) ∧ w'.cell? ⟨W.heap.size, 1, none⟩ = some (.int .i64 a2) ∧ w'.cell? ⟨W.heap.size, 2, none⟩ = some (.int .i64 a3) ∧ w'.cell? ⟨g, 3, none⟩ = some (.int .i64 X) ∧ w'.cell? ⟨g, 4, none⟩ = some (.int .i64 Y) ∧ w'.cell? ⟨g, 5, none⟩ = some (.int .i64 Z)) (simp [*, World.cell?_setCell_other]) ((go_at_call 22; with_reducible refine (fit_any _ _ _ _).mono ?_; rintro e w' ⟨rfl, rfl⟩))
  have hB3 : Blk ((((W2.setCell ⟨g, 0, none⟩ (.int .i64 (fitI a1 (-1048576) (1048576 - X)))).setCell ⟨g, 1, none⟩ (.int .i64 (fitI a2 0 (64 - Y)))).setCell ⟨g, 2, none⟩ (.int .i64 (fitI a3 (-1048576) (1048576 - Z)))).drew) g 48 (fwC { b := b, cells := [], lights := [], asked := [], told := [] } nilS nilS nilS nilS) := by
    have h := (((HB1.out.set_ 0 (.int .i64 (fitI a1 (-1048576) (1048576 - X)))).set_ 1 (.int .i64 (fitI a2 0 (64 - Y)))).set_ 2 (.int .i64 (fitI a3 (-1048576) (1048576 - Z)))).drew
    have hC := HC.out
    unfold fwC
    simp only
    rw [hC.2, hC.1.1, hC.1.2.1, hC.1.2.2]
    exact h
  have hb3 : Below W.heap.size W ((((W2.setCell ⟨g, 0, none⟩ (.int .i64 (fitI a1 (-1048576) (1048576 - X)))).setCell ⟨g, 1, none⟩ (.int .i64 (fitI a2 0 (64 - Y)))).setCell ⟨g, 2, none⟩ (.int .i64 (fitI a3 (-1048576) (1048576 - Z)))).drew) := by
    have hg := HG.out
    exact (((HBB.out.setCell (by simp; omega) _).setCell (by simp; omega) _).setCell (by simp; omega) _).drew
  generalize (((W2.setCell ⟨g, 0, none⟩ (.int .i64 (fitI a1 (-1048576) (1048576 - X)))).setCell ⟨g, 1, none⟩ (.int .i64 (fitI a2 0 (64 - Y)))).setCell ⟨g, 2, none⟩ (.int .i64 (fitI a3 (-1048576) (1048576 - Z)))).drew = W3 at hB3 hb3 ⊢
  have HB3 := Lib.hid hB3
  have Hb3 := Lib.hid hb3
  have w7 : IntKind.i64.wrap (X * Y) = X * Y := by
    have h1 : ((b.X * b.Y : Nat) : Int) = X * Y := by push_cast; rw [HC.out.1.1, HC.out.1.2.1]
    have h2 := Nat.mul_le_mul HOK.out.x8 HOK.out.y16
    exact wrap_small (by omega) (by omega)
  have w8 : IntKind.i64.wrap (X * Y * Z) = (b.size : Int) := by
    have h1 := HS.out.1
    have h2 := HS.out.2
    rw [← h1]
    exact wrap_small (by omega) (by omega)
  have hbs := HS.out.2
  clear hB3 hb3 c0 c1 c2 d3 d4 d5 k0 k1 k2 k3 k4 k5 e0 e1 e2 e3 e4 e5 w4 w5 w6
  go_wp2
  go_loopw [12] (fun s wr => ∃ m : Nat, m ≤ b.size ∧ s = .int .i64 m ∧ ∃ cv, Blk wr g 48 (fwC { b := b, cells := [], lights := [], asked := [], told := [] } cv nilS nilS nilS) ∧ CRow wr W.heap.size cv (tileL cl m) ∧ Below W.heap.size W wr) (fun s _ => b.size - (intOf s).toNat)
  case atStart => exact ⟨0, Nat.zero_le _, rfl, nilS, HB3.out, ⟨rfl, .inl ⟨rfl, rfl⟩⟩, Hb3.out⟩
  case round =>
    obtain ⟨m, hm, rfl, cv, hBk, hrow, hbl⟩ := hrel
    have HBm := Lib.hid hBk
    have HRm := Lib.hid hrow
    have HLm := Lib.hid hbl
    have d3 : wr.cell? ⟨g, 3, none⟩ = some (.int .i64 X) := by have := hBk.cell 3; rw [← HC.out.1.1]; exact this
    have d4 : wr.cell? ⟨g, 4, none⟩ = some (.int .i64 Y) := by have := hBk.cell 4; rw [← HC.out.1.2.1]; exact this
    have d5 : wr.cell? ⟨g, 5, none⟩ = some (.int .i64 Z) := by have := hBk.cell 5; rw [← HC.out.1.2.2]; exact this
    clear hBk hrow hbl
    by_cases hmt : m < b.size
    · have hmI : (m : Int) < (b.size : Int) := by omega
      go_wp2
      go_region_held (fun w' => w'.cell? ⟨g, 3, none⟩ = some (.int .i64 X) ∧ w'.cell? ⟨g, 4, none⟩ = some (.int .i64 Y) ∧ w'.cell? ⟨g, 5, none⟩ = some (.int .i64 Z)) (go_keep) (fail)
      have hwr : g < wr.heap.size := HBm.out.lt
      have HQ0 := Lib.hid (Blk.new wr 33 #[.int .u8 0, .int .u8 0]).drew
      have HBa := Lib.hid (HBm.out.alloc (.cells #[.int .u8 0, .int .u8 0] 33)).drew
      have HRa := Lib.hid (show CRow (wr.alloc (.cells #[.int .u8 0, .int .u8 0] 33)).drew W.heap.size cv (tileL cl m) from (HRm.out.alloc _).drew)
      have HLa := Lib.hid (HLm.out.alloc HLm.out.size (.cells #[.int .u8 0, .int .u8 0] 33)).drew
      by_cases hn : 0 < cl.length
      · have hnI : (0 : Int) < (cl.length : Int) := by omega
        have hne : (cl.length : Int) ≠ 0 := by omega
        obtain ⟨i, hi⟩ : ∃ i, i = m % cl.length := ⟨_, rfl⟩
        have hil : i < cl.length := by rw [hi]; exact Nat.mod_lt _ hn
        have hilI : (i : Int) < (cl.length : Int) := by omega
        have hr : Int.tmod (m : Int) (cl.length : Int) = (i : Int) := by rw [hi]; rfl
        obtain ⟨bk, off, hao, hbk, hat⟩ := HV.out.some_ hil
        subst hao
        have hci := getD_in HIN.out i
        obtain ⟨ce, hce⟩ : ∃ ce, ce = cl.getD i (0, 0) := ⟨_, rfl⟩
        rw [← hce] at hat hci
        have HT0 := Lib.hid (show tileC cl m = if mayC ce.1 ce.2 = true then ce else (0, 0) by unfold tileC; rw [← hi, ← hce]; simp [hn])
        obtain ⟨c1, c2⟩ := ce
        have e0 : ∀ w', Below W.heap.size W w' → w'.cell? ⟨bk, off + i * 2, none⟩ = some (.int .u8 c1) ∧ w'.cell? ⟨bk, off + i * 2 + 1, none⟩ = some (.int .u8 c2) := fun w' h => ⟨(h.cell (p := ⟨bk, _, none⟩) hbk).trans (hat 0 (by decide)), (h.cell (p := ⟨bk, _, none⟩) hbk).trans (hat 1 (by decide))⟩
        have HE := Lib.hid e0
        have HM := Lib.hid (fun w => cmay_any w c1 c2 hci.1 hci.2)
        obtain ⟨x0, x1⟩ := e0 _ HLa.out
        have y0 : (wr.alloc (.cells #[.int .u8 0, .int .u8 0] 33)).cell? ⟨bk, off + i * 2, none⟩ = some (.int .u8 c1) := x0
        have y1 : (wr.alloc (.cells #[.int .u8 0, .int .u8 0] 33)).cell? ⟨bk, off + i * 2 + 1, none⟩ = some (.int .u8 c2) := x1
        clear e0 hat hce hci hbk hi x0 x1
        by_cases hmay : mayC c1 c2 = true
        · have HT1 := Lib.hid (show tileC cl m = (c1, c2) by rw [HT0.out, if_pos hmay])
          rw [hmay] at HM
          clear hmay HT0
          go_wp2_with fail
          go_at_call 23
          refine (HM.out _).mono ?_
          rintro e w5 ⟨rfl, hb⟩
          have HB4 := Lib.hid (HBa.out.below hb HBa.out.lt)
          have HR4 := Lib.hid (own_below HRa.out hb)
          have HL4 := Lib.hid (HLa.out.trans (hb.mono HLa.out.size))
          have HQ4 := Lib.hid (HQ0.out.below hb HQ0.out.lt)
          have HC4 := Lib.hid (And.intro HLm.out.size hwr)
          clear hb y0 y1
          obtain ⟨x0, x1⟩ := HE.out _ HL4.out
          obtain ⟨z0, z1⟩ := two_cells HQ4.out
          obtain ⟨f0, f1⟩ := two_free HQ4.out
          go_wp2
          have HQ := Lib.hid (show Blk ((w5.setCell ⟨wr.heap.size, 0, none⟩ (.int .u8 c1)).setCell ⟨wr.heap.size, 1, none⟩ (.int .u8 c2)) wr.heap.size 33 #[.int .u8 c1, .int .u8 c2] from (HQ4.out.set_ 0 (.int .u8 c1)).set_ 1 (.int .u8 c2))
          have HB5 := Lib.hid ((HB4.out.far (p := ⟨wr.heap.size, 0, none⟩) (by have := HC4.out.2; simp; omega) (.int .u8 c1)).far (p := ⟨wr.heap.size, 1, none⟩) (by have := HC4.out.2; simp; omega) (.int .u8 c2))
          have HL5 := Lib.hid ((HL4.out.setCell (p := ⟨wr.heap.size, 0, none⟩) HC4.out.1 (.int .u8 c1)).setCell (p := ⟨wr.heap.size, 1, none⟩) HC4.out.1 (.int .u8 c2))
          have HR5 := Lib.hid (show CRow ((w5.setCell ⟨wr.heap.size, 0, none⟩ (.int .u8 c1)).setCell ⟨wr.heap.size, 1, none⟩ (.int .u8 c2)) W.heap.size cv (tileL cl m) from own_only HR4.out (((Only.refl w5 (fun k => k = wr.heap.size)).setCell (p := ⟨wr.heap.size, 0, none⟩) (.inl rfl) (.int .u8 c1)).setCell (p := ⟨wr.heap.size, 1, none⟩) (.inl rfl) (.int .u8 c2)) (fun k hk e => by have := (HRm.out.lt k hk).2; omega))
          have HT := Lib.hid (show tileL cl (m + 1) = tileL cl m ++ [(c1, c2)] by rw [tileL_succ, HT1.out])
          clear HQ0 HBa HRa HLa HQ4 HB4 HR4 HL4 hn hnI d3 d4 d5 x0 x1 z0 z1 f0 f1 hne hil hilI hr HE HM HT1
          generalize (w5.setCell ⟨wr.heap.size, 0, none⟩ (.int .u8 c1)).setCell ⟨wr.heap.size, 1, none⟩ (.int .u8 c2) = W5 at HQ HB5 HR5 HL5 ⊢
          obtain ⟨q0, q1⟩ := two_cells HQ.out
          have d6 : W5.cell? ⟨g, 6, none⟩ = some cv := HB5.out.cell 6
          have d6' : ∀ o, (W5.alloc o).cell? ⟨g, 6, none⟩ = some cv := fun o => (HB5.out.alloc o).cell 6
          have hsz5 : W.heap.size ≤ W5.heap.size := HL5.out.size
          have hml : (tileL cl m).length ≤ 1099511627776 := by rw [tileL_len]; have := HS.out.2; omega
          go_wp2
          go_region_law (refine ce_step HR5.out.drew rfl _ _ rfl rfl ((c1, c2) : Int × Int) rfl hml (show W.heap.size ≤ W5.heap.size from hsz5) (fun ao n c w2 h0 h1 h2 => ?_); have q2 := (HB5.out.drew.alloc _).grown h2 (fun e => own_blk_ne HR5.out HB5.out (by decide) e.symm); have k0 := q2.frozen 6; have k1 := (show w2.cell? ⟨g, 6, none⟩ = some cv from q2.cell 6))
          all_goals
            have HB6 := Lib.hid (show Blk (w2.setCell ⟨g, 6, none⟩ (.slice ao n c)) g 48 (fwC { b := b, cells := [], lights := [], asked := [], told := [] } (.slice ao n c) nilS nilS nilS) from q2.set_ 6 (.slice ao n c))
            have HR6 := Lib.hid (show CRow (w2.setCell ⟨g, 6, none⟩ (.slice ao n c)) W.heap.size (.slice ao n c) (tileL cl (m + 1)) by
              rw [HT.out]
              exact own_only h1 ((Only.refl w2 (fun k => k = g)).setCell (p := ⟨g, 6, none⟩) (.inl rfl) _) (fun k hk' e => own_blk_ne h1 q2 (by decide) (e ▸ hk')))
            have HL6 := Lib.hid (show Below W.heap.size W (w2.setCell ⟨g, 6, none⟩ (.slice ao n c)) from ((HL5.out.drew.alloc HL5.out.size _).grown h2 (by have := hsz5; simp; omega) (fun k hk => (HR5.out.lt k hk).1)).setCell (by have := HG.out; simp; omega) _)
            clear h1 h2 q2 k0 k1 q0 q1 d6 d6'
            subst h0
            go_wp2
            go_roundw
            case rel => exact ⟨m + 1, by omega, by go_num, _, HB6.out, HR6.out, HL6.out⟩
            case measure => (simp [intOf] <;> omega)
        · have hmay2 : mayC c1 c2 = false := by simpa using hmay
          have HT1 := Lib.hid (show tileC cl m = (0, 0) by rw [HT0.out, if_neg hmay])
          rw [hmay2] at HM
          clear hmay hmay2 HT0
          go_wp2_with fail
          go_at_call 23
          refine (HM.out _).mono ?_
          rintro e w5 ⟨rfl, hb⟩
          have HB4 := Lib.hid (HBa.out.below hb HBa.out.lt)
          have HR4 := Lib.hid (own_below HRa.out hb)
          have HL4 := Lib.hid (HLa.out.trans (hb.mono HLa.out.size))
          have HQ4 := Lib.hid (HQ0.out.below hb HQ0.out.lt)
          have HC4 := Lib.hid (And.intro HLm.out.size hwr)
          clear hb y0 y1
          clear HE HM
          obtain ⟨c1', hc1⟩ : ∃ c1 : Int, c1 = 0 := ⟨_, rfl⟩
          obtain ⟨c2', hc2⟩ : ∃ c2 : Int, c2 = 0 := ⟨_, rfl⟩
          go_wp2
          have HQ := Lib.hid (show Blk w5 wr.heap.size 33 #[.int .u8 c1', .int .u8 c2'] by rw [hc1, hc2]; exact HQ4.out)
          have HT := Lib.hid (show tileL cl (m + 1) = tileL cl m ++ [(c1', c2')] by rw [tileL_succ, HT1.out, hc1, hc2])
          have HB5 := HB4
          have HR5 := HR4
          have HL5 := HL4
          clear HQ0 HBa HRa HLa HQ4 HB4 HR4 HL4 hn hnI d3 d4 d5 hne hil hilI hr hc1 hc2 HT1
          generalize w5 = W5 at HQ HB5 HR5 HL5 ⊢
          obtain ⟨q0, q1⟩ := two_cells HQ.out
          have d6 : W5.cell? ⟨g, 6, none⟩ = some cv := HB5.out.cell 6
          have d6' : ∀ o, (W5.alloc o).cell? ⟨g, 6, none⟩ = some cv := fun o => (HB5.out.alloc o).cell 6
          have hsz5 : W.heap.size ≤ W5.heap.size := HL5.out.size
          have hml : (tileL cl m).length ≤ 1099511627776 := by rw [tileL_len]; have := HS.out.2; omega
          go_wp2
          go_region_law (refine ce_step HR5.out.drew rfl _ _ rfl rfl ((c1', c2') : Int × Int) rfl hml (show W.heap.size ≤ W5.heap.size from hsz5) (fun ao n c w2 h0 h1 h2 => ?_); have q2 := (HB5.out.drew.alloc _).grown h2 (fun e => own_blk_ne HR5.out HB5.out (by decide) e.symm); have k0 := q2.frozen 6; have k1 := (show w2.cell? ⟨g, 6, none⟩ = some cv from q2.cell 6))
          all_goals
            have HB6 := Lib.hid (show Blk (w2.setCell ⟨g, 6, none⟩ (.slice ao n c)) g 48 (fwC { b := b, cells := [], lights := [], asked := [], told := [] } (.slice ao n c) nilS nilS nilS) from q2.set_ 6 (.slice ao n c))
            have HR6 := Lib.hid (show CRow (w2.setCell ⟨g, 6, none⟩ (.slice ao n c)) W.heap.size (.slice ao n c) (tileL cl (m + 1)) by
              rw [HT.out]
              exact own_only h1 ((Only.refl w2 (fun k => k = g)).setCell (p := ⟨g, 6, none⟩) (.inl rfl) _) (fun k hk' e => own_blk_ne h1 q2 (by decide) (e ▸ hk')))
            have HL6 := Lib.hid (show Below W.heap.size W (w2.setCell ⟨g, 6, none⟩ (.slice ao n c)) from ((HL5.out.drew.alloc HL5.out.size _).grown h2 (by have := hsz5; simp; omega) (fun k hk => (HR5.out.lt k hk).1)).setCell (by have := HG.out; simp; omega) _)
            clear h1 h2 q2 k0 k1 q0 q1 d6 d6'
            subst h0
            go_wp2
            go_roundw
            case rel => exact ⟨m + 1, by omega, by go_num, _, HB6.out, HR6.out, HL6.out⟩
            case measure => (simp [intOf] <;> omega)
      · have hnI : ¬ (0 : Int) < (cl.length : Int) := by omega
        have HT := Lib.hid (show tileL cl (m + 1) = tileL cl m ++ [((0, 0) : Int × Int)] by
          rw [tileL_succ]
          unfold tileC
          rw [if_neg (fun h => hn h.1)])
        obtain ⟨c1, hc1⟩ : ∃ c1 : Int, c1 = 0 := ⟨_, rfl⟩
        obtain ⟨c2, hc2⟩ : ∃ c2 : Int, c2 = 0 := ⟨_, rfl⟩
        go_wp2
        have HQ := Lib.hid (show Blk (wr.alloc (.cells #[.int .u8 0, .int .u8 0] 33)).drew wr.heap.size 33 #[.int .u8 c1, .int .u8 c2] by rw [hc1, hc2]; exact HQ0.out)
        rw [show ((0 : Int), (0 : Int)) = (c1, c2) by rw [hc1, hc2]] at HT
        have HB5 := HBa
        have HR5 := HRa
        have HL5 := HLa
        clear HQ0 HBa HRa HLa hn hnI hc1 hc2 d3 d4 d5
        generalize (wr.alloc (.cells #[.int .u8 0, .int .u8 0] 33)).drew = W5 at HQ HB5 HR5 HL5 ⊢
        obtain ⟨q0, q1⟩ := two_cells HQ.out
        have d6 : W5.cell? ⟨g, 6, none⟩ = some cv := HB5.out.cell 6
        have d6' : ∀ o, (W5.alloc o).cell? ⟨g, 6, none⟩ = some cv := fun o => (HB5.out.alloc o).cell 6
        have hsz5 : W.heap.size ≤ W5.heap.size := HL5.out.size
        have hml : (tileL cl m).length ≤ 1099511627776 := by rw [tileL_len]; have := HS.out.2; omega
        go_wp2
        go_region_law (refine ce_step HR5.out.drew rfl _ _ rfl rfl ((c1, c2) : Int × Int) rfl hml (show W.heap.size ≤ W5.heap.size from hsz5) (fun ao n c w2 h0 h1 h2 => ?_); have q2 := (HB5.out.drew.alloc _).grown h2 (fun e => own_blk_ne HR5.out HB5.out (by decide) e.symm); have k0 := q2.frozen 6; have k1 := (show w2.cell? ⟨g, 6, none⟩ = some cv from q2.cell 6))
        all_goals
          have HB6 := Lib.hid (show Blk (w2.setCell ⟨g, 6, none⟩ (.slice ao n c)) g 48 (fwC { b := b, cells := [], lights := [], asked := [], told := [] } (.slice ao n c) nilS nilS nilS) from q2.set_ 6 (.slice ao n c))
          have HR6 := Lib.hid (show CRow (w2.setCell ⟨g, 6, none⟩ (.slice ao n c)) W.heap.size (.slice ao n c) (tileL cl (m + 1)) by
            rw [HT.out]
            exact own_only h1 ((Only.refl w2 (fun k => k = g)).setCell (p := ⟨g, 6, none⟩) (.inl rfl) _) (fun k hk' e => own_blk_ne h1 q2 (by decide) (e ▸ hk')))
          have HL6 := Lib.hid (show Below W.heap.size W (w2.setCell ⟨g, 6, none⟩ (.slice ao n c)) from ((HL5.out.drew.alloc HL5.out.size _).grown h2 (by have := hsz5; simp; omega) (fun k hk => (HR5.out.lt k hk).1)).setCell (by have := HG.out; simp; omega) _)
          clear h1 h2 q2 k0 k1 q0 q1 d6 d6'
          subst h0
          go_wp2
          go_roundw
          case rel => exact ⟨m + 1, by omega, by go_num, _, HB6.out, HR6.out, HL6.out⟩
          case measure => (simp [intOf] <;> omega)
    · obtain rfl : m = b.size := by omega
      go_wp2
      go_region_held (fun w' => w'.cell? ⟨g, 3, none⟩ = some (.int .i64 X) ∧ w'.cell? ⟨g, 4, none⟩ = some (.int .i64 Y) ∧ w'.cell? ⟨g, 5, none⟩ = some (.int .i64 Z)) (go_keep) (fail)
      have HBa := Lib.hid HBm.out.drew
      have HRa := Lib.hid (show CRow wr.drew W.heap.size cv (tileL cl b.size) from HRm.out.drew)
      have HLa := Lib.hid HLm.out.drew
      have HRI := Lib.hid (right_any wr.drew W.heap.size g { b := b, cells := tileL cl b.size, lights := [], asked := [], told := [] } cv nilS nilS nilS HBm.out.drew HRm.out.drew HOK.out (tileL_len _ _) (tileL_in HIN.out _))
      generalize wr.drew = W5 at HBa HRa HLa HRI ⊢
      go_wp2_with fail
      go_at_call 18
      refine HRI.out.mono ?_
      rintro e w6 ⟨lv, rfl, hl, hb⟩
      have hlen := rightL_len { b := b, cells := tileL cl b.size, lights := [], asked := [], told := [] }
      have h7 := HBa.out.below hb HBa.out.lt
      have c7 : w6.cell? ⟨g, 7, none⟩ = some nilS := h7.cell 7
      have f7 := h7.frozen 7
      obtain ⟨_, al, cp, rfl, _⟩ := own_rat (d := ((0, 0) : Int × Int)) clE_len hl
      have hln := HLa.out.size
      have hRc := own_below HRa.out hb
      have hLc := HLa.out.trans (hb.mono hln)
      have hlg := own_base hl hln
      have HFL := Lib.hid (show FieldAt (w6.setCell ⟨g, 7, none⟩ (.slice al (rightL { b := b, cells := tileL cl b.size, lights := [], asked := [], told := [] }).length cp)) W.heap.size g (madeF (a1, a2, a3) x y z cl) cv (.slice al (rightL { b := b, cells := tileL cl b.size, lights := [], asked := [], told := [] }).length cp) nilS nilS by
        rw [HF.out]
        have ho : Only w6 (w6.setCell ⟨g, 7, none⟩ (.slice al (rightL { b := b, cells := tileL cl b.size, lights := [], asked := [], told := [] }).length cp)) (fun k => k = g) := (Only.refl w6 (fun k => k = g)).setCell (p := ⟨g, 7, none⟩) (.inl rfl) _
        exact ⟨h7.set_ 7 _, own_only hRc ho (fun k hk e => own_blk_ne hRc h7 (by decide) (e ▸ hk)), own_only hlg ho (fun k hk e => own_blk_ne hlg h7 (by decide) (e ▸ hk)), ⟨rfl, .inl ⟨rfl, rfl⟩⟩, ⟨rfl, .inl ⟨rfl, rfl⟩⟩, by have := HG.out; omega, fun k hk => by simp [Value.ownBlock] at hk⟩)
      have HLW := Lib.hid (show Below W.heap.size W (w6.setCell ⟨g, 7, none⟩ (.slice al (rightL { b := b, cells := tileL cl b.size, lights := [], asked := [], told := [] }).length cp)) from hLc.setCell (by have := HG.out; simp; omega) _)
      clear hl hb h7 hRc hLc hlg hlen hln d3 d4 d5
      go_wp2
      go_ret
      exact ⟨g, cv, _, rfl, HFL.out, HLW.out⟩
end Go.Proofs.Ytlhjjmfbifhgfaa
/- The document's order of places: the walks. -/
namespace Go.Proofs.Ytlhjjmfbifhgfaa
set_option linter.unusedSimpArgs false
set_option linter.unusedVariables false
open Go.RowKit
set_option maxRecDepth 100000

set_option maxHeartbeats 4000000 in
theorem order_any (W : World) (n m : Int) : Calls Try.prog 44 #[.int .i64 n, .int .i64 m] W fun e w' => e = .returned (.int .i64 (cmp1 n m)) ∧ w' = W := by
  have HV := Lib.hid (show cmp1 n m = if n < m then -1 else if m < n then 1 else 0 from rfl)
  go_enter Try.func44, Try.ntmps44
  by_cases h1 : n < m
  · have H := Lib.hid (show cmp1 n m = -1 by rw [HV.out, if_pos h1])
    clear HV
    go_wp2
    go_ret
    exact ⟨by rw [H.out]; rfl, rfl⟩
  · by_cases h2 : m < n
    · have H := Lib.hid (show cmp1 n m = 1 by rw [HV.out, if_neg h1, if_pos h2])
      clear HV
      go_wp2
      go_ret
      exact ⟨by rw [H.out]; rfl, rfl⟩
    · have H := Lib.hid (show cmp1 n m = 0 by rw [HV.out, if_neg h1, if_neg h2])
      clear HV
      go_wp2
      go_ret
      exact ⟨by rw [H.out]; rfl, rfl⟩
set_option maxHeartbeats 8000000 in
theorem qcmp_any (W : World) (a b : Pl) : Calls Try.prog 19 #[plV a, plV b] W fun e w' => e = .returned (.int .i64 (cmpS a b)) ∧ Below W.heap.size W w' := by
  obtain ⟨a1, a2, a3⟩ := a
  obtain ⟨b1, b2, b3⟩ := b
  obtain ⟨w, hW⟩ : ∃ w : World, w = (W.alloc (.cells #[.int .i64 a1, .int .i64 a2, .int .i64 a3] 23)).alloc (.cells #[.int .i64 b1, .int .i64 b2, .int .i64 b3] 23) := ⟨_, rfl⟩
  have hsz : (W.alloc (.cells #[.int .i64 a1, .int .i64 a2, .int .i64 a3] 23)).heap.size = W.heap.size + 1 := by simp
  have k0 : Blk w W.heap.size 23 #[.int .i64 a1, .int .i64 a2, .int .i64 a3] := by rw [hW]; exact (Blk.new W _ _).alloc _
  have k1 : Blk w (W.heap.size + 1) 23 #[.int .i64 b1, .int .i64 b2, .int .i64 b3] := by rw [hW, ← hsz]; exact Blk.new _ _ _
  have HB := Lib.hid (show Below W.heap.size W w by rw [hW]; exact ((Below.refl _ _).alloc (Nat.le_refl _) _).alloc (by simp) _)
  obtain ⟨c0, c1, c2, -⟩ := k0.three
  obtain ⟨d0, d1, d2, -⟩ := k1.three
  have HW := Lib.hid hW
  have HV := Lib.hid (show cmpS (a1, a2, a3) (b1, b2, b3) = if a1 = b1 then (if a3 = b3 then cmp1 a2 b2 else cmp1 a3 b3) else cmp1 a1 b1 from rfl)
  unfold plV plC
  clear hW hsz k0 k1
  rw [HW.out] at c0 c1 c2 d0 d1 d2 HB
  go_enter Try.func19, Try.ntmps19
  by_cases h1 : a1 = b1
  · by_cases h2 : a3 = b3
    · have H := Lib.hid (show cmpS (a1, a2, a3) (b1, b2, b3) = cmp1 a2 b2 by rw [HV.out, if_pos h1, if_pos h2])
      clear HV
      subst h1 h2
      go_wp2_with (go_at_call 44; (with_reducible refine (order_any _ _ _).mono ?_); rintro e w' ⟨rfl, rfl⟩)
      go_ret
      exact ⟨by rw [H.out]; rfl, HB.out⟩
    · have H := Lib.hid (show cmpS (a1, a2, a3) (b1, b2, b3) = cmp1 a3 b3 by rw [HV.out, if_pos h1, if_neg h2])
      clear HV
      subst h1
      go_wp2_with (go_at_call 44; (with_reducible refine (order_any _ _ _).mono ?_); rintro e w' ⟨rfl, rfl⟩)
      go_ret
      exact ⟨by rw [H.out]; rfl, HB.out⟩
  · have H := Lib.hid (show cmpS (a1, a2, a3) (b1, b2, b3) = cmp1 a1 b1 by rw [HV.out, if_neg h1])
    clear HV
    go_wp2_with (go_at_call 44; (with_reducible refine (order_any _ _ _).mono ?_); rintro e w' ⟨rfl, rfl⟩)
    go_ret
    exact ⟨by rw [H.out]; rfl, HB.out⟩
end Go.Proofs.Ytlhjjmfbifhgfaa
/- The place of an index: the walk. -/
namespace Go.Proofs.Ytlhjjmfbifhgfaa
set_option linter.unusedSimpArgs false
set_option linter.unusedVariables false
open Go.RowKit
set_option maxRecDepth 100000

set_option maxHeartbeats 16000000 in
theorem at_any (W : World) (g : Nat) (f : Fw) (cv lv av tv : Value) (hb : Blk W g 48 (fwC f cv lv av tv)) (ok : f.b.Ok) (i : Nat) (hi : i < f.b.size) :
    Calls Try.prog 21 #[.pointer (some ⟨g, 0, none⟩), .int .i64 (i : Int)] W fun e w' => e = .returned (plV (f.b.at_ i)) ∧ Below W.heap.size W w' := by
  have HA := Lib.hid (show f.b.at_ i = (f.b.lo.1 + ((i % f.b.X : Nat) : Int), f.b.lo.2.1 + ((i / (f.b.X * f.b.Z) : Nat) : Int), f.b.lo.2.2 + ((i / f.b.X % f.b.Z : Nat) : Int)) from rfl)
  obtain ⟨x, y, z, hx, hy, hz, he⟩ := f.b.ix_of hi
  have hxx := f.b.ix_x (y := y) (z := z) hx
  have hyy := f.b.ix_y (y := y) hx hz
  have hzz := f.b.ix_z (y := y) hx hz
  rw [← he] at hxx hyy hzz
  have hsz := Bx.size_le ok
  have hq : i / f.b.X ≤ i := Nat.div_le_self _ _
  have hXZ := Nat.mul_le_mul ok.x8 ok.z8
  have hXZ0 : 0 < f.b.X * f.b.Z := Nat.mul_pos ok.x1 ok.z1
  obtain ⟨d0, d1, d2, d3, -, d5, -⟩ := world_cells hb
  have o1 := ok.lx; have o2 := ok.hx; have o3 := ok.ly; have o4 := ok.hy; have o5 := ok.lz; have o6 := ok.hz; have o7 := ok.x1; have o8 := ok.z1; have o9 := ok.x8; have o10 := ok.z8; have o11 := ok.y16
  rw [hxx, hyy, hzz] at HA
  obtain ⟨X, hX⟩ : ∃ X, X = f.b.X := ⟨_, rfl⟩
  obtain ⟨Z, hZ⟩ : ∃ Z, Z = f.b.Z := ⟨_, rfl⟩
  rw [← hX] at hx d3 o2 o7 o9 hxx hyy hzz hq hXZ hXZ0
  rw [← hZ] at hz d5 o6 o8 o10 hyy hzz hXZ hXZ0
  obtain ⟨l1, h1⟩ : ∃ l1, l1 = f.b.lo.1 := ⟨_, rfl⟩
  obtain ⟨l2, h2⟩ : ∃ l2, l2 = f.b.lo.2.1 := ⟨_, rfl⟩
  obtain ⟨l3, h3⟩ : ∃ l3, l3 = f.b.lo.2.2 := ⟨_, rfl⟩
  rw [← h1] at d0 o1 o2 HA
  rw [← h2] at d1 o3 o4 HA
  rw [← h3] at d2 o5 o6 HA
  obtain ⟨P, hP⟩ : ∃ P : Nat, P = X * Z := ⟨_, rfl⟩
  rw [← hP] at hyy hXZ hXZ0
  obtain ⟨k, hk⟩ : ∃ k, k = i / X := ⟨_, rfl⟩
  rw [← hk] at hzz hq
  have r1 : Int.tmod (i : Int) (X : Int) = (x : Int) := by rw [← hxx]; rfl
  have r2 : Int.tdiv (i : Int) (X : Int) = (k : Int) := by rw [hk]; rfl
  have r3 : Int.tmod (k : Int) (Z : Int) = (z : Int) := by rw [← hzz]; rfl
  have r4 : Int.tdiv (i : Int) (P : Int) = (y : Int) := by rw [← hyy]; rfl
  have r5 : IntKind.i64.wrap ((X : Int) * (Z : Int)) = (P : Int) := by
    rw [hP, show ((X * Z : Nat) : Int) = (X : Int) * (Z : Int) from by push_cast; rfl]
    refine wrap_small ?_ ?_ <;> (rw [show (X : Int) * (Z : Int) = (P : Int) from by rw [hP]; push_cast; rfl]; omega)
  have n1 : (X : Int) ≠ 0 := by omega
  have n2 : (Z : Int) ≠ 0 := by omega
  have n3 : (P : Int) ≠ 0 := by omega
  have m1 : ¬ X = 0 := by omega
  have m2 : ¬ Z = 0 := by omega
  have m3 : ¬ P = 0 := by omega
  have w1 : IntKind.i64.wrap (l1 + (x : Int)) = l1 + (x : Int) := wrap_small (by omega) (by omega)
  have w2 : IntKind.i64.wrap (l2 + (y : Int)) = l2 + (y : Int) := wrap_small (by omega) (by omega)
  have w3 : IntKind.i64.wrap (l3 + (z : Int)) = l3 + (z : Int) := wrap_small (by omega) (by omega)
  have w4 : IntKind.i64.wrap (k : Int) = (k : Int) := wrap_small (by omega) (by omega)
  have w5 : IntKind.i64.wrap (y : Int) = (y : Int) := wrap_small (by omega) (by omega)
  have w6 : IntKind.i64.wrap (x : Int) = (x : Int) := wrap_small (by omega) (by omega)
  have w7 : IntKind.i64.wrap (z : Int) = (z : Int) := wrap_small (by omega) (by omega)
  have hgl := hb.lt
  have hgn : W.heap.size ≠ g := by omega
  obtain ⟨w, hw⟩ : ∃ w, w = W.alloc (.cells #[.int .i64 0, .int .i64 0, .int .i64 0] 23) := ⟨_, rfl⟩
  have hbw := hb.alloc (.cells #[.int .i64 0, .int .i64 0, .int .i64 0] 23)
  have hr := Blk.new W 23 #[.int .i64 0, .int .i64 0, .int .i64 0]
  rw [← hw] at hbw hr
  have hbl : Below W.heap.size W w := by rw [hw]; exact (Below.refl _ _).alloc (Nat.le_refl _) _
  have HB0 := Lib.hid hbl
  have HR0 := Lib.hid hr
  have HW := Lib.hid hw
  have d0 : w.cell? ⟨g, 0, none⟩ = some (.int .i64 l1) := (hbl.cell hgl).trans d0
  have d1 : w.cell? ⟨g, 1, none⟩ = some (.int .i64 l2) := (hbl.cell hgl).trans d1
  have d2 : w.cell? ⟨g, 2, none⟩ = some (.int .i64 l3) := (hbl.cell hgl).trans d2
  have d3 : w.cell? ⟨g, 3, none⟩ = some (.int .i64 X) := (hbl.cell hgl).trans d3
  have d5 : w.cell? ⟨g, 5, none⟩ = some (.int .i64 Z) := (hbl.cell hgl).trans d5
  have e0 : w.cell? ⟨W.heap.size, 0, none⟩ = some (.int .i64 0) := hr.cell 0
  have e1 : w.cell? ⟨W.heap.size, 1, none⟩ = some (.int .i64 0) := hr.cell 1
  have e2 : w.cell? ⟨W.heap.size, 2, none⟩ = some (.int .i64 0) := hr.cell 2
  have k0 := hr.frozen 0
  have k1 := hr.frozen 1
  have k2 := hr.frozen 2
  clear hb ok hi he hxx hyy hzz hsz hq hXZ hXZ0 hX hZ h1 h2 h3 hP hk hbw hr hbl o1 o2 o3 o4 o5 o6 o7 o8 o9 o10 o11 hw hx hy hz
  go_enter Try.func21, Try.ntmps21
  go_wp2
  rw [← HW.out]
  refine wp_region_still_tail 52 (by kernel_rfl) (by kernel_rfl) ?_
  simp only [List.take_succ_cons, List.take_zero, List.drop_succ_cons, List.drop_zero]
  change wpStill _ _ (World.drew _) (fun a' => wpList _ _ _ _ a' (World.drew _)) _ _
  repeat still_step
  refine wpStill_nil ?_
  go_wp2
  all_goals
    obtain ⟨g0, g1, g2⟩ := three_set HR0.out (.int .i64 (l1 + (x : Int))) (.int .i64 (l2 + (y : Int))) (.int .i64 (l3 + (z : Int)))
    refine bodyPost_ret (v := .agg #[.int .i64 (l1 + (x : Int)), .int .i64 (l2 + (y : Int)), .int .i64 (l3 + (z : Int))]) (by simp [results, Try.results21, go_sem, g0, g1, g2]) rfl ⟨?_, (((HB0.out.setCell (p := ⟨W.heap.size, 0, none⟩) (Nat.le_refl _) _).setCell (p := ⟨W.heap.size, 1, none⟩) (Nat.le_refl _) _).setCell (p := ⟨W.heap.size, 2, none⟩) (Nat.le_refl _) _).drew⟩
    rw [HA.out]
    rfl
end Go.Proofs.Ytlhjjmfbifhgfaa
/- How many steps two places are apart: the walk. -/
namespace Go.Proofs.Ytlhjjmfbifhgfaa
set_option linter.unusedSimpArgs false
set_option linter.unusedVariables false
open Go.RowKit
set_option maxRecDepth 100000

theorem wrap_mid {i : Int} (h1 : -1000000000000 ≤ i) (h2 : i ≤ 1000000000000) : IntKind.i64.wrap i = i := IntWalk.i64_in _ (by omega)
/-- A place no number of which is great. -/
structure Sm (a : Pl) : Prop where
  x : -1500000 ≤ a.1 ∧ a.1 ≤ 1500000
  y : -1500000 ≤ a.2.1 ∧ a.2.1 ≤ 1500000
  z : -1500000 ≤ a.2.2 ∧ a.2.2 ≤ 1500000
theorem Sm.of_may {a : Pl} (h : mayP a = true) : Sm a := by
  obtain ⟨x1, x2, x3, x4, x5, x6⟩ := mayP_iff.1 h
  exact ⟨by omega, by omega, by omega⟩
theorem Sm.of_far {a b : Pl} (h : mayP a = true) (hf : farP a b ≤ 1000) : Sm b := by
  obtain ⟨x1, x2, x3, x4, x5, x6⟩ := mayP_iff.1 h
  unfold farP at hf
  exact ⟨by omega, by omega, by omega⟩
set_option maxHeartbeats 16000000 in
theorem far_any (W : World) (a b : Pl) (ha : Sm a) (hb : Sm b) : Calls Try.prog 45 #[plV a, plV b] W fun e w' => e = .returned (.int .i64 (farP a b : Int)) ∧ Below W.heap.size W w' := by
  obtain ⟨⟨x1, x2⟩, ⟨x3, x4⟩, ⟨x5, x6⟩⟩ := ha
  obtain ⟨⟨y1, y2⟩, ⟨y3, y4⟩, ⟨y5, y6⟩⟩ := hb
  obtain ⟨a1, a2, a3⟩ := a
  obtain ⟨b1, b2, b3⟩ := b
  simp only at x1 x2 x3 x4 x5 x6 y1 y2 y3 y4 y5 y6
  have HF := Lib.hid (show farP (a1, a2, a3) (b1, b2, b3) = (a1 - b1).natAbs + (a2 - b2).natAbs + (a3 - b3).natAbs from rfl)
  obtain ⟨w, hW⟩ : ∃ w : World, w = (W.alloc (.cells #[.int .i64 a1, .int .i64 a2, .int .i64 a3] 23)).alloc (.cells #[.int .i64 b1, .int .i64 b2, .int .i64 b3] 23) := ⟨_, rfl⟩
  have hsz : (W.alloc (.cells #[.int .i64 a1, .int .i64 a2, .int .i64 a3] 23)).heap.size = W.heap.size + 1 := by simp
  have k0 : Blk w W.heap.size 23 #[.int .i64 a1, .int .i64 a2, .int .i64 a3] := by rw [hW]; exact (Blk.new W _ _).alloc _
  have k1 : Blk w (W.heap.size + 1) 23 #[.int .i64 b1, .int .i64 b2, .int .i64 b3] := by rw [hW, ← hsz]; exact Blk.new _ _ _
  have HB := Lib.hid (show Below W.heap.size W w by rw [hW]; exact ((Below.refl _ _).alloc (Nat.le_refl _) _).alloc (by simp) _)
  obtain ⟨c0, c1, c2, -⟩ := k0.three
  obtain ⟨d0, d1, d2, -⟩ := k1.three
  have w1 : IntKind.i64.wrap (a1 - b1) = a1 - b1 := wrap_small (by omega) (by omega)
  have w2 : IntKind.i64.wrap (a2 - b2) = a2 - b2 := wrap_small (by omega) (by omega)
  have w3 : IntKind.i64.wrap (a3 - b3) = a3 - b3 := wrap_small (by omega) (by omega)
  have h1 : -3000000 ≤ a1 - b1 ∧ a1 - b1 ≤ 3000000 := by omega
  have h2 : -3000000 ≤ a2 - b2 ∧ a2 - b2 ≤ 3000000 := by omega
  have h3 : -3000000 ≤ a3 - b3 ∧ a3 - b3 ≤ 3000000 := by omega
  obtain ⟨w9, hw9⟩ : ∃ w9, w9 = w.alloc (.cells #[.int .i64 (a1 - b1), .int .i64 (a2 - b2), .int .i64 (a3 - b3)] 3) := ⟨_, rfl⟩
  have HQ := Lib.hid (show Blk w9 w.heap.size 3 #[.int .i64 (a1 - b1), .int .i64 (a2 - b2), .int .i64 (a3 - b3)] by rw [hw9]; exact Blk.new _ _ _)
  have HB9 := Lib.hid (show Below W.heap.size W w9 by rw [hw9]; exact HB.out.alloc HB.out.size _)
  have hq : w.heap.size = W.heap.size + 1 + 1 := by rw [hW]; simp
  have hlt : W.heap.size ≤ W.heap.size + 1 + 1 := by omega
  rw [hq] at HQ
  unfold plV plC
  rw [hW] at c0 c1 c2 d0 d1 d2 hw9
  have HW9 := Lib.hid hw9
  clear hW hsz k0 k1 hw9 hq HB
  go_enter Try.func45, Try.ntmps45
  go_wp2
  rw [← HW9.out]
  obtain ⟨e1, he1⟩ : ∃ e1, e1 = a1 - b1 := ⟨_, rfl⟩
  obtain ⟨e2, he2⟩ : ∃ e2, e2 = a2 - b2 := ⟨_, rfl⟩
  obtain ⟨e3, he3⟩ : ∃ e3, e3 = a3 - b3 := ⟨_, rfl⟩
  rw [← he1] at HQ HF h1
  rw [← he2] at HQ HF h2
  rw [← he3] at HQ HF h3
  clear c0 c1 c2 d0 d1 d2 w1 w2 w3 x1 x2 x3 x4 x5 x6 y1 y2 y3 y4 y5 y6 he1 he2 he3
  go_loopw [5, 7] (fun n i wr => ∃ (m : Nat) (s z1 z2 z3 : Int), i = .int .i64 (m : Int) ∧ n = .int .i64 s ∧ Blk wr (W.heap.size + 1 + 1) 3 #[.int .i64 z1, .int .i64 z2, .int .i64 z3] ∧ Below W.heap.size W wr ∧ (m = 0 ∧ s = 0 ∧ z1 = e1 ∧ z2 = e2 ∧ z3 = e3 ∨ m = 1 ∧ s = e1.natAbs ∧ z2 = e2 ∧ z3 = e3 ∨ m = 2 ∧ s = e1.natAbs + e2.natAbs ∧ z3 = e3 ∨ m = 3 ∧ s = e1.natAbs + e2.natAbs + e3.natAbs)) (fun _ i _ => 3 - (intOf i).toNat)
  case atStart => exact ⟨0, 0, e1, e2, e3, rfl, rfl, HQ.out, HB9.out, .inl ⟨rfl, rfl, rfl, rfl, rfl⟩⟩
  case round =>
    obtain ⟨m, s, z1, z2, z3, rfl, rfl, hbk, hbl, hc⟩ := hrel
    have HK := Lib.hid hbk
    have HL := Lib.hid hbl
    obtain ⟨g0, g1, g2⟩ := three_cells hbk
    obtain ⟨f0, f1, f2⟩ := three_free hbk
    clear hbk hbl
    rcases hc with ⟨rfl, rfl, rfl, rfl, rfl⟩ | ⟨rfl, hs, rfl, rfl⟩ | ⟨rfl, hs, rfl⟩ | ⟨rfl, hs⟩
    · by_cases hn : z1 < 0
      · have v1 : IntKind.i64.wrap (-z1) = -z1 := wrap_small (by omega) (by omega)
        have v2 : IntKind.i64.wrap (0 + -z1) = 0 + -z1 := wrap_mid (by omega) (by omega)
        go_wp2
        exact ⟨⟨1, (-z1), (-z1), z2, z3, by go_num, by go_num, HK.out.set_ 0 (.int .i64 (-z1)), HL.out.setCell (by simp; omega) _, .inr (.inl ⟨rfl, by omega, rfl, rfl⟩)⟩, by (simp [intOf] <;> omega)⟩
      · have v1 : IntKind.i64.wrap z1 = z1 := wrap_small (by omega) (by omega)
        have v2 : IntKind.i64.wrap (0 + z1) = 0 + z1 := wrap_mid (by omega) (by omega)
        go_wp2
        exact ⟨⟨1, (z1), z1, z2, z3, by go_num, by go_num, HK.out, HL.out, .inr (.inl ⟨rfl, by omega, rfl, rfl⟩)⟩, by (simp [intOf] <;> omega)⟩
    · by_cases hn : z2 < 0
      · have v1 : IntKind.i64.wrap (-z2) = -z2 := wrap_small (by omega) (by omega)
        have v2 : IntKind.i64.wrap (s + -z2) = s + -z2 := wrap_mid (by omega) (by omega)
        go_wp2
        exact ⟨⟨2, (s + -z2), z1, (-z2), z3, by go_num, by go_num, HK.out.set_ 1 (.int .i64 (-z2)), HL.out.setCell (by simp; omega) _, .inr (.inr (.inl ⟨rfl, by omega, rfl⟩))⟩, by (simp [intOf] <;> omega)⟩
      · have v1 : IntKind.i64.wrap z2 = z2 := wrap_small (by omega) (by omega)
        have v2 : IntKind.i64.wrap (s + z2) = s + z2 := wrap_mid (by omega) (by omega)
        go_wp2
        exact ⟨⟨2, (s + z2), z1, z2, z3, by go_num, by go_num, HK.out, HL.out, .inr (.inr (.inl ⟨rfl, by omega, rfl⟩))⟩, by (simp [intOf] <;> omega)⟩
    · by_cases hn : z3 < 0
      · have v1 : IntKind.i64.wrap (-z3) = -z3 := wrap_small (by omega) (by omega)
        have v2 : IntKind.i64.wrap (s + -z3) = s + -z3 := wrap_mid (by omega) (by omega)
        go_wp2
        exact ⟨⟨3, (s + -z3), z1, z2, (-z3), by go_num, by go_num, HK.out.set_ 2 (.int .i64 (-z3)), HL.out.setCell (by simp; omega) _, .inr (.inr (.inr ⟨rfl, by omega⟩))⟩, by (simp [intOf] <;> omega)⟩
      · have v1 : IntKind.i64.wrap z3 = z3 := wrap_small (by omega) (by omega)
        have v2 : IntKind.i64.wrap (s + z3) = s + z3 := wrap_mid (by omega) (by omega)
        go_wp2
        exact ⟨⟨3, (s + z3), z1, z2, z3, by go_num, by go_num, HK.out, HL.out, .inr (.inr (.inr ⟨rfl, by omega⟩))⟩, by (simp [intOf] <;> omega)⟩
    · have HS := Lib.hid hs
      go_wp2
      go_ret
      refine ⟨?_, HL.out⟩
      rw [HF.out]
      have h := HS.out
      rw [show ((e1.natAbs + e2.natAbs + e3.natAbs : Nat) : Int) = s from by rw [h]; push_cast; rfl]
      rfl
end Go.Proofs.Ytlhjjmfbifhgfaa
/- A row of bools, as a function. -/
namespace Go.Proofs.Ytlhjjmfbifhgfaa
set_option linter.unusedSimpArgs false
set_option linter.unusedVariables false
open Go.RowKit
set_option maxRecDepth 1000000

/-- A block of bools, as a function. -/
def BBlk (w : World) (g n : Nat) (l : Nat → Bool) : Prop := Blk w g 4 ((List.range n).map fun i => Value.bool (l i)).toArray
theorem BBlk.cell {w : World} {g n : Nat} {l : Nat → Bool} (h : BBlk w g n l) (i : Nat) (hi : i < n) : w.cell? ⟨g, i, none⟩ = some (.bool (l i)) := by
  have := Blk.cell h i
  rw [this]
  simp [hi]
theorem BBlk.lt {w : World} {g n : Nat} {l : Nat → Bool} (h : BBlk w g n l) : g < w.heap.size := Blk.lt h
theorem BBlk.below {w w' : World} {g n : Nat} {l : Nat → Bool} (h : BBlk w g n l) (hb : Below w.heap.size w w') : BBlk w' g n l := Blk.below h hb (Blk.lt h)
theorem BBlk.drew {w : World} {g n : Nat} {l : Nat → Bool} (h : BBlk w g n l) : BBlk w.drew g n l := Blk.drew h
theorem BBlk.far {w : World} {g n : Nat} {l : Nat → Bool} (h : BBlk w g n l) {p : Addr} (hp : g ≠ p.block) (u : Value) : BBlk (w.setCell p u) g n l := Blk.far h hp u
theorem BBlk.frozen {w : World} {g n : Nat} {l : Nat → Bool} (h : BBlk w g n l) (i : Nat) : w.frozen? ⟨g, i, none⟩ = false := Blk.frozen h i
theorem BBlk.set {w : World} {g n : Nat} {l : Nat → Bool} (h : BBlk w g n l) (i : Nat) (v : Bool) : BBlk (w.setCell ⟨g, i, none⟩ (.bool v)) g n (fun j => if j = i then v else l j) := by
  have h2 := Blk.set_ h i (.bool v)
  unfold BBlk
  have : ((List.range n).map fun j => Value.bool (if j = i then v else l j)).toArray = (((List.range n).map fun i => Value.bool (l i)).toArray).setIfInBounds i (.bool v) := by
    apply Array.ext_getElem?
    intro j
    rw [Array.getElem?_setIfInBounds]
    by_cases hj : j < n
    · by_cases e : i = j
      · subst e; simp [hj]
      · have e2 : ¬ j = i := fun h => e h.symm
        simp [hj, e, e2]
    · simp [hj]; omega
  rw [this]
  exact h2
theorem BBlk.congr {w : World} {g n : Nat} {l l' : Nat → Bool} (h : BBlk w g n l) (e : ∀ i, i < n → l i = l' i) : BBlk w g n l' := by
  unfold BBlk at *
  have : ((List.range n).map fun i => Value.bool (l' i)) = (List.range n).map fun i => Value.bool (l i) := List.map_congr_left fun i hi => by rw [e i (List.mem_range.1 hi)]
  rw [this]
  exact h
theorem infoBool : (Try.prog.info? 4).map (fun i => (i.zero, i.size, i.bytes)) = some (some (.bool false), 1, 1) := by kernel_rfl
theorem make_bools (w : World) (n : Nat) (hn : n ≤ 1024) : ∃ W, (Instr.makeSlice 56 (.int .i64 (n : Int)) (.int .i64 (n : Int))).run Try.prog w = .ok (.slice (some ⟨w.heap.size, 0, none⟩) n n) W ∧ BBlk W w.heap.size n (fun _ => false) ∧ Below w.heap.size w W ∧ W.heap.size = w.heap.size + 1 := by
  obtain ⟨i0, hi, hz0, hz1, hz2⟩ := info_parts infoBool
  have h := run_make_rowN (P := Try.prog) 56 4 i0 (.bool false) Try.underlying56 hi hz0 .i64 .i64 n n (Nat.le_refl _) (by rw [hz2]; omega) (by omega) w
  refine ⟨_, h, ?_, (Below.refl _ _).alloc (Nat.le_refl _) _, by simp⟩
  have hb := Blk.new w 4 (madeCells (Value.bool false).cells (n * i0.size))
  unfold BBlk
  rw [hz1] at hb ⊢
  have : ((List.range n).map fun _ => Value.bool false).toArray = madeCells (Value.bool false).cells (n * 1) := by
    apply Array.toList_inj.1
    rw [show (Value.bool false).cells = #[Value.bool false] from rfl, toList_madeCells_one, Nat.mul_one]
    refine List.ext_getElem? fun j => ?_
    by_cases hj : j < n <;> simp [hj]
  rw [this]
  exact hb
end Go.Proofs.Ytlhjjmfbifhgfaa
/- Near: the walk. -/
namespace Go.Proofs.Ytlhjjmfbifhgfaa
set_option linter.unusedSimpArgs false
set_option linter.unusedVariables false
open Go.RowKit
set_option maxRecDepth 100000

/-- Is a place near one, or near a cell at which two rows differ? -/
def nearB (b : Bx) (q p : Pl) (l1 l2 : Nat → Bool) : Bool := decide (farP q p ≤ 15) || (List.range b.size).any fun i => (l1 i != l2 i) && decide (farP q (b.at_ i) ≤ 15)
theorem nearB_iff {b : Bx} {q p : Pl} {l1 l2 : Nat → Bool} : nearB b q p l1 l2 = true ↔ farP q p ≤ 15 ∨ ∃ i, i < b.size ∧ l1 i ≠ l2 i ∧ farP q (b.at_ i) ≤ 15 := by
  unfold nearB
  simp [List.any_eq_true, List.mem_range]
theorem ret_bool {a b : Bool} (h : a = b) : Ending.returned (.bool a) = .returned (.bool b) := by rw [h]
def nearHit (b : Bx) (q : Pl) (l1 l2 : Nat → Bool) (i : Nat) : Prop := l1 i ≠ l2 i ∧ farP q (b.at_ i) ≤ 15
set_option maxHeartbeats 16000000 in
theorem near_any (W : World) (g : Nat) (f : Fw) (cv lv av tv : Value) (hb : Blk W g 48 (fwC f cv lv av tv)) (ok : f.b.Ok) (q p : Pl) (hq : Sm q) (hp : Sm p) (k1 k2 : Nat) (l1 l2 : Nat → Bool) (h1 : BBlk W k1 f.b.size l1) (h2 : BBlk W k2 f.b.size l2) :
    Calls Try.prog 20 #[.pointer (some ⟨g, 0, none⟩), plV q, plV p, .slice (some ⟨k1, 0, none⟩) f.b.size f.b.size, .slice (some ⟨k2, 0, none⟩) f.b.size f.b.size] W fun e w' => e = .returned (.bool (nearB f.b q p l1 l2)) ∧ Below W.heap.size W w' := by
  have HT := Lib.hid (fun h : farP q p ≤ 15 ∨ ∃ i, i < f.b.size ∧ nearHit f.b q l1 l2 i => nearB_iff.2 h)
  have HT2 := Lib.hid (fun h : ¬ (farP q p ≤ 15 ∨ ∃ i, i < f.b.size ∧ nearHit f.b q l1 l2 i) => Bool.eq_false_iff.2 fun k => h (nearB_iff.1 k))
  have HFP := Lib.hid (fun w => far_any w q p hq hp)
  have HFA := Lib.hid (fun w i (hi : i < f.b.size) => far_any w q (f.b.at_ i) hq (Sm.of_may (Bx.inside_may ok (f.b.at_inside hi))))
  have HAT := Lib.hid (fun (w : World) (hw : Blk w g 48 (fwC f cv lv av tv)) i (hi : i < f.b.size) => at_any w g f cv lv av tv hw ok i hi)
  have hsz := Bx.size_le ok
  obtain ⟨d, hd⟩ : ∃ d, d = farP q p := ⟨_, rfl⟩
  rw [← hd] at HT HT2 HFP
  have hds : RowKit.Hid (∀ i, i < f.b.size → farP q (f.b.at_ i) ≤ 100000000) := Lib.hid (fun i hi => by
    obtain ⟨h3, h5, h6⟩ := hq
    have h4 := mayP_iff.1 (Bx.inside_may ok (f.b.at_inside hi))
    unfold farP
    omega)
  obtain ⟨qx, qy, qz⟩ := q
  obtain ⟨px, py, pz⟩ := p
  obtain ⟨n, hn⟩ : ∃ n, n = f.b.size := ⟨_, rfl⟩
  rw [← hn] at HT HT2 HFA HAT h1 h2 hsz hds ⊢
  obtain ⟨W1, hW1⟩ : ∃ W1, W1 = (W.alloc (.cells #[.int .i64 qx, .int .i64 qy, .int .i64 qz] 23)).alloc (.cells #[.int .i64 px, .int .i64 py, .int .i64 pz] 23) := ⟨_, rfl⟩
  have hs1 : (W.alloc (.cells #[.int .i64 qx, .int .i64 qy, .int .i64 qz] 23)).heap.size = W.heap.size + 1 := by simp
  have hB1 : Below W.heap.size W W1 := by rw [hW1]; exact ((Below.refl _ _).alloc (Nat.le_refl _) _).alloc (by simp) _
  have hq1 : Blk W1 W.heap.size 23 #[.int .i64 qx, .int .i64 qy, .int .i64 qz] := by rw [hW1]; exact (Blk.new _ _ _).alloc _
  have hp1 : Blk W1 (W.heap.size + 1) 23 #[.int .i64 px, .int .i64 py, .int .i64 pz] := by rw [hW1, ← hs1]; exact Blk.new _ _ _
  have HB1 := Lib.hid hB1
  have HQ1 := Lib.hid hq1
  have HBK := Lib.hid hb
  have HL1 := Lib.hid h1
  have HL2 := Lib.hid h2
  have HW1 := Lib.hid hW1
  obtain ⟨a0, a1, a2⟩ := three_cells hq1
  obtain ⟨b0, b1, b2⟩ := three_cells hp1
  rw [hW1] at a0 a1 a2 b0 b1 b2
  unfold plV plC at HFP HFA HAT ⊢
  simp only at HFP HFA HAT ⊢
  have HFPW := Lib.hid (HFP.out W1)
  clear hW1 hs1 hB1 hq1 hp1 hb h1 h2 ok hq hp hd hn
  go_enter Try.func20, Try.ntmps20
  go_wp2_with fail
  rw [← HW1.out]
  go_at_call 45
  refine HFPW.out.mono ?_
  rintro e w2 ⟨rfl, hb2⟩
  have HB2 := Lib.hid (HB1.out.trans (hb2.mono HB1.out.size))
  have HQ2 := Lib.hid (HQ1.out.below hb2 HQ1.out.lt)
  clear hb2 a0 a1 a2 b0 b1 b2 HFPW HB1 HQ1 HW1
  by_cases hd15 : d ≤ 15
  · have hdI : (d : Int) ≤ 15 := by omega
    go_wp2
    go_ret
    exact ⟨ret_bool (HT.out (.inl hd15)).symm, HB2.out⟩
  have hdI : ¬ (d : Int) ≤ 15 := by omega
  have HD := Lib.hid hd15
  clear hd15
  go_wp2
  go_loopw [11] (fun s wr => ∃ m : Nat, m ≤ n ∧ s = .int .i64 m ∧ (∀ i, i < m → ¬ nearHit f.b (qx, qy, qz) l1 l2 i) ∧ Blk wr W.heap.size 23 #[.int .i64 qx, .int .i64 qy, .int .i64 qz] ∧ Below W.heap.size W wr) (fun s _ => n - (intOf s).toNat)
  case atStart => exact ⟨0, Nat.zero_le _, rfl, fun i hi => absurd hi (Nat.not_lt_zero _), HQ2.out, HB2.out⟩
  case round =>
    obtain ⟨m, hm, rfl, hno, hqr, hbr⟩ := hrel
    have HNO := Lib.hid hno
    have HQR := Lib.hid hqr
    have HBR := Lib.hid hbr
    clear hdI
    by_cases hmt : m < n
    · have hmI : (m : Int) < (n : Int) := by omega
      have hm0 : (0 : Int) ≤ (m : Int) := by omega
      have c1 := (HL1.out.below hbr).cell m hmt
      have c2 := (HL2.out.below hbr).cell m hmt
      obtain ⟨a0, a1, a2⟩ := three_cells hqr
      obtain ⟨x, hx⟩ : ∃ x, x = l1 m := ⟨_, rfl⟩
      obtain ⟨y, hy⟩ : ∃ y, y = l2 m := ⟨_, rfl⟩
      rw [← hx] at c1
      rw [← hy] at c2
      obtain ⟨⟨ax, ay, az⟩, ha⟩ : ∃ a, a = f.b.at_ m := ⟨_, rfl⟩
      obtain ⟨d2, hd2⟩ : ∃ d2, d2 = farP (qx, qy, qz) (ax, ay, az) := ⟨_, rfl⟩
      have HHIT := Lib.hid (show nearHit f.b (qx, qy, qz) l1 l2 m ↔ x ≠ y ∧ d2 ≤ 15 from by unfold nearHit; rw [hx, hy, hd2, ha])
      have HATm := Lib.hid (fun p : InB wr => HAT.out p.w' ((HBK.out.below HBR.out HBK.out.lt).below p.h ((HBK.out.below HBR.out HBK.out.lt).lt)) m hmt)
      have HFAm := Lib.hid (fun p : InB wr => HFA.out p.w' m hmt)
      rw [← ha] at HATm HFAm
      simp only at HATm HFAm
      rw [← hd2] at HFAm
      have hdm : d2 ≤ 100000000 := by rw [hd2, ha]; exact hds.out m hmt
      have c1' : ∀ p : InB wr, p.w'.cell? ⟨k1, m, none⟩ = some (.bool x) := fun p => p.cell c1 (HL1.out.below HBR.out).lt
      have c2' : ∀ p : InB wr, p.w'.cell? ⟨k2, m, none⟩ = some (.bool y) := fun p => p.cell c2 (HL2.out.below HBR.out).lt
      have a0' : ∀ p : InB wr, p.w'.cell? ⟨W.heap.size, 0, none⟩ = some (.int .i64 qx) := fun p => p.cell a0 HQR.out.lt
      have a1' : ∀ p : InB wr, p.w'.cell? ⟨W.heap.size, 1, none⟩ = some (.int .i64 qy) := fun p => p.cell a1 HQR.out.lt
      have a2' : ∀ p : InB wr, p.w'.cell? ⟨W.heap.size, 2, none⟩ = some (.int .i64 qz) := fun p => p.cell a2 HQR.out.lt
      clear hx hy ha hd2 hno hqr hbr c1 c2 a0 a1 a2
      cases x <;> cases y
      case false.false =>
        have hnh : ¬ nearHit f.b (qx, qy, qz) l1 l2 m := fun h => (HHIT.out.1 h).1 rfl
        have HNH := Lib.hid hnh
        clear hnh
        go_wp2
        refine wp_region_quiet_below (by kernel_rfl) (by kernel_rfl) ?_
        repeat (go_big_quiet_step (fail))
        refine wpQuiet_nil ?_
        intro _ hw'
        obtain ⟨⟨wq, hbq⟩, hw''⟩ := hw'
        subst hw''
        have HBQ := Lib.hid (HBR.out.trans (hbq.mono HBR.out.size))
        have HQQ := Lib.hid (HQR.out.below hbq HQR.out.lt)
        clear c1' c2' a0' a1' a2' hbq
        go_wp2
        go_roundw
        case rel => exact ⟨m + 1, by omega, by go_num, fun i hi => (Nat.lt_succ_iff_lt_or_eq.1 hi).elim (HNO.out i) (fun e => e ▸ HNH.out), HQQ.out, HBQ.out⟩
        case measure => (simp [intOf] <;> omega)
      case true.true =>
        have hnh : ¬ nearHit f.b (qx, qy, qz) l1 l2 m := fun h => (HHIT.out.1 h).1 rfl
        have HNH := Lib.hid hnh
        clear hnh
        go_wp2
        refine wp_region_quiet_below (by kernel_rfl) (by kernel_rfl) ?_
        repeat (go_big_quiet_step (fail))
        refine wpQuiet_nil ?_
        intro _ hw'
        obtain ⟨⟨wq, hbq⟩, hw''⟩ := hw'
        subst hw''
        have HBQ := Lib.hid (HBR.out.trans (hbq.mono HBR.out.size))
        have HQQ := Lib.hid (HQR.out.below hbq HQR.out.lt)
        clear c1' c2' a0' a1' a2' hbq
        go_wp2
        go_roundw
        case rel => exact ⟨m + 1, by omega, by go_num, fun i hi => (Nat.lt_succ_iff_lt_or_eq.1 hi).elim (HNO.out i) (fun e => e ▸ HNH.out), HQQ.out, HBQ.out⟩
        case measure => (simp [intOf] <;> omega)
      all_goals
        go_wp2
        refine wp_region_quiet_below (by kernel_rfl) (by kernel_rfl) ?_
        repeat (go_big_quiet_step ((first | (go_at_call 21; exact calls_below (HATm.out _)) | (go_at_call 45; exact calls_below (HFAm.out _)))))
        refine wpQuiet_nil ?_
        intro _ hw'
        obtain ⟨⟨wq, hbq⟩, hw''⟩ := hw'
        subst hw''
        have HBQ := Lib.hid (HBR.out.trans (hbq.mono HBR.out.size))
        have HQQ := Lib.hid (HQR.out.below hbq HQR.out.lt)
        clear c1' c2' a0' a1' a2' hbq
        by_cases hd15 : d2 ≤ 15
        · have hdI : (d2 : Int) ≤ 15 := by omega
          have HH := Lib.hid (HT.out (.inr ⟨m, hmt, HHIT.out.2 ⟨by decide, hd15⟩⟩))
          go_wp2
          go_ret
          exact ⟨ret_bool HH.out.symm, HBQ.out⟩
        · have hdI : ¬ (d2 : Int) ≤ 15 := by omega
          have HNH := Lib.hid (show ¬ nearHit f.b (qx, qy, qz) l1 l2 m from fun h => hd15 (HHIT.out.1 h).2)
          go_wp2
          go_roundw
          case rel => exact ⟨m + 1, by omega, by go_num, fun i hi => (Nat.lt_succ_iff_lt_or_eq.1 hi).elim (HNO.out i) (fun e => e ▸ HNH.out), HQQ.out, HBQ.out⟩
          case measure => (simp [intOf] <;> omega)
    · have hmn : m = n := by omega
      subst hmn
      clear hno hqr hbr
      go_wp2
      go_ret
      exact ⟨ret_bool (HT2.out (fun h => h.elim HD.out (fun ⟨i, hi, h⟩ => HNO.out i hi h))).symm, HBR.out⟩
end Go.Proofs.Ytlhjjmfbifhgfaa
/- A hole's world is made: the walk. -/
namespace Go.Proofs.Ytlhjjmfbifhgfaa
set_option linter.unusedSimpArgs false
set_option linter.unusedVariables false
open Go.RowKit
set_option maxRecDepth 100000

set_option maxHeartbeats 4000000 in
theorem hole_any (W : World) (a : Pl) (x y z : Int) (v : Value) (cl : List (Int × Int)) (hv : RAt clE 2 ((0, 0) : Int × Int) W v cl) (hin : ∀ c ∈ cl, InU c.1 ∧ InU c.2) (hlen : cl.length ≤ maxLen) :
    Calls Try.prog 7 #[.agg #[.int .i64 a.1, .int .i64 a.2.1, .int .i64 a.2.2, .int .i64 x, .int .i64 y, .int .i64 z, v]] W fun e w' => ∃ g cv lv, e = .returned (.pointer (some ⟨g, 0, none⟩)) ∧ FieldAt w' W.heap.size g (madeF a x y z cl) cv lv nilS nilS ∧ Below W.heap.size W w' := by
  obtain ⟨a1, a2, a3⟩ := a
  obtain ⟨W1, hW1⟩ : ∃ W1, W1 = W.alloc (.cells #[.int .i64 a1, .int .i64 a2, .int .i64 a3, .int .i64 x, .int .i64 y, .int .i64 z, v] 26) := ⟨_, rfl⟩
  have hB1 : Below W.heap.size W W1 := by rw [hW1]; exact (Below.refl _ _).alloc (Nat.le_refl _) _
  have hb := Blk.new W 26 #[.int .i64 a1, .int .i64 a2, .int .i64 a3, .int .i64 x, .int .i64 y, .int .i64 z, v]
  rw [← hW1] at hb
  have c0 : W1.cell? ⟨W.heap.size, 0, none⟩ = some (.int .i64 a1) := hb.cell 0
  have c1 : W1.cell? ⟨W.heap.size, 1, none⟩ = some (.int .i64 a2) := hb.cell 1
  have c2 : W1.cell? ⟨W.heap.size, 2, none⟩ = some (.int .i64 a3) := hb.cell 2
  have c3 : W1.cell? ⟨W.heap.size, 3, none⟩ = some (.int .i64 x) := hb.cell 3
  have c4 : W1.cell? ⟨W.heap.size, 4, none⟩ = some (.int .i64 y) := hb.cell 4
  have c5 : W1.cell? ⟨W.heap.size, 5, none⟩ = some (.int .i64 z) := hb.cell 5
  have c6 : W1.cell? ⟨W.heap.size, 6, none⟩ = some v := hb.cell 6
  have HM := Lib.hid (made_any W1 (a1, a2, a3) x y z v cl (hv.below hB1) hin hlen)
  have HB := Lib.hid hB1
  have HW := Lib.hid hW1
  rw [hW1] at c0 c1 c2 c3 c4 c5 c6
  clear hv hin hlen hB1 hb hW1
  go_enter Try.func7, Try.ntmps7
  go_wp2_with fail
  rw [← HW.out]
  go_at_call 10
  refine HM.out.mono ?_
  rintro e w' ⟨g, cv, lv, rfl, hf, hb⟩
  have HF := Lib.hid hf
  have HB2 := Lib.hid (HB.out.trans (hb.mono HB.out.size))
  clear hf hb c0 c1 c2 c3 c4 c5 c6
  go_wp2
  go_ret
  exact ⟨g, cv, lv, rfl, ⟨HF.out.blk, own_base HF.out.cells HB.out.size, own_base HF.out.lights HB.out.size, own_base HF.out.asked HB.out.size, own_base HF.out.told HB.out.size, Nat.le_trans HB.out.size HF.out.low, HF.out.apart⟩, HB2.out⟩
end Go.Proofs.Ytlhjjmfbifhgfaa
