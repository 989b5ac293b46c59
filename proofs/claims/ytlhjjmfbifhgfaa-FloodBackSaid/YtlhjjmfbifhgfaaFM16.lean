/- Joined texts of one seat, each under its own heading below. -/
import Derived.Test.YtlhjjmfbifhgfaaFM15
import Derived.Laws.EntriesVeiled
/- Is the sky above open? and the skies' waves: the walk. (Printed by gentail.py.) -/
namespace Go.Proofs.Ytlhjjmfbifhgfaa
set_option linter.unusedSimpArgs false
set_option linter.unusedVariables false
open Go.RowKit
set_option maxRecDepth 1000000

theorem not_open_near {f : Fw} {p : Pl} {old : Int × Int} : ∀ s ∈ [p], ∀ x, farP s x ≤ 15 → NearC f p old x := fun s hs x hx => by
  rw [List.mem_singleton.1 hs] at hx
  exact .inl hx
theorem up_move (p : Pl) : moveP p 4 = upP p 1 := rfl
theorem up_none {p : Pl} (hm : mayP p = true) (h : stepP p 4 = none) : mayP (upP p 1) = false := by
  unfold stepP at h
  rw [hm, up_move] at h
  cases hc : mayP (upP p 1) with
  | false => rfl
  | true => rw [hc] at h; simp at h
section
variable (W0 Ws W : World) (base g b3 b4 b10 b11 gm b13 b14 b16 gs : Nat) (f : Fw) (cv lv av tv : Value) (M00 : LMap) (c00 : Nat) (h0 : FS W0 base g b3 b10 b11 gm f cv lv av tv M00 c00) (ok : f.Ok) (p : Pl) (hp : f.b.inside p) (old : Int × Int) (FL FS FL0 FS0 : Pl → Nat) (h0R : RightOf (f.old p old) FL0 FS0) (h1R : RightOf f FL FS)
include h0 ok hp h0R h1R
/-- Behind the question: the skies' waves from the place alone. -/
theorem mid_end (M : LMap) (c : Nat) (A0 A1 : List Pl) (av0 av1 : Value) (hs : Sets W0 Ws base g b3 b10 b11 gm f cv lv av tv M c A0 av0) (hs1 : Sets Ws W base g b3 b10 b11 gm { f with asked := f.asked ++ A0 } cv lv av0 tv M c A1 av1) (hM : ∀ q, nowAt f M q = ((FS0 q : Int), (FL q : Int))) (hk : ∀ q ∈ keysL M, f.b.inside q ∧ NearC f p old q)
    (hsky : SkyX b13 gs [] 0 Ws) (hgs : gs ≠ gm) (hb14 : Blk Ws b14 73 (wvC g (.func (.func 33) #[] #[.pointer (some ⟨b13, 0, none⟩)]) (.func (.func 34) #[] #[.pointer (some ⟨b11, 0, none⟩)]) (.func (.func 35) #[] #[.pointer (some ⟨b11, 0, none⟩), .pointer (some ⟨b10, 0, none⟩)])))
    (v0 : Value) (hr : PRow W Ws.heap.size v0 [p]) (hap : ∀ k, v0.ownBlock = some k → av1.ownBlock ≠ some k) (hno : ¬ openUp f p) (bi : Bool) (hbw : clearC old.1 old.2 = !bi) (hbi : clrAt f p = bi) (hA1 : ∀ x ∈ A1, NearC f p old x) (hA1l : A1.length ≤ 10) (hl : f.asked.length + A0.length ≤ 850000000) (htl : f.told.length ≤ 850000000) (h0in : ∀ q, ¬ f.b.inside q → FS0 q = 0)
    (u0 u1 u2 u4 u5 u6 u7 u8 u11 u12 u13 u16 u17 u18 u19 u20 u21 u22 u23 u24 u25 u26 u27 u28 u29 u30 u31 u32 u33 u34 u35 u36 u37 u38 u39 u40 u41 u42 u43 u44 u45 u46 u47 u48 u49 u50 u51 u52 u53 u54 u55 u56 u57 u58 u59 u60 u61 u62 u63 u64 u65 u66 u67 u68 u69 u70 u71 u72 u73 u74 u75 u76 u77 u78 u79 u80 u81 u82 u83 u84 u85 u86 u87 u88 u89 u90 u91 u92 u93 u94 u95 u96 u97 u98 u99 u100 u101 u102 u103 u104 u105 u106 u107 u108 u109 u110 u111 u112 u113 u114 u115 u116 u117 u118 u119 u120 u121 u122 u123 u124 u125 u126 u127 u128 u129 u130 u131 u132 u133 u134 u135 u136 u137 u138 u139 u140 u141 u142 u143 u144 u145 u146 u147 u148 u149 u150 u151 : Value) (R : Ending → World → Prop) (hR : EndOk W0 base g gm f cv lv av tv FS FL p old A0 R) (K : Act → World → Prop)
    (hK : ∀ a W, Code.wp Try.prog (gnav (Try.f11.body.getD .skip) [true, true, true, true, true, true, true, true, true, true]) (bodyPost Try.prog Try.f11 R) a W → K a W) :
    Code.wp Try.prog (gnav (gcond (gnav (Try.f11.body.getD .skip) [true, true, true, true, true, true, true, true, true, false, true])) [true, true, true, true, true]) (Exit.then K (bodyPost Try.prog Try.f11 R)) { tmps := #[u0, u1, u2, .pointer (some ⟨b3, 0, none⟩), u4, u5, u6, u7, u8, .bool bi, .pointer (some ⟨b10, 0, none⟩), u11, u12, u13, .pointer (some ⟨b14, 0, none⟩), v0, u16, u17, u18, u19, u20, u21, u22, u23, u24, u25, u26, u27, u28, u29, u30, u31, u32, u33, u34, u35, u36, u37, u38, u39, u40, u41, u42, u43, u44, u45, u46, u47, u48, u49, u50, u51, u52, u53, u54, u55, u56, u57, u58, u59, u60, u61, u62, u63, u64, u65, u66, u67, u68, u69, u70, u71, u72, u73, u74, u75, u76, u77, u78, u79, u80, u81, u82, u83, u84, u85, u86, u87, u88, u89, u90, u91, u92, u93, u94, u95, u96, u97, u98, u99, u100, u101, u102, u103, u104, u105, u106, u107, u108, u109, u110, u111, u112, u113, u114, u115, u116, u117, u118, u119, u120, u121, u122, u123, u124, u125, u126, u127, u128, u129, u130, u131, u132, u133, u134, u135, u136, u137, u138, u139, u140, u141, u142, u143, u144, u145, u146, u147, u148, u149, u150, u151], defers := [] } W := by
  have hin : ∀ q ∈ [p], f.b.inside q := fun q hq => by rw [List.mem_singleton.1 hq]; exact hp
  cases bi with
  | false =>
    exact skies_no W0 W base g b3 b10 b11 gm b13 b14 gs f cv lv av tv M00 c00 h0 ok p old FL FS FS0 h1R Ws M c A0 A1 av0 av1 hs hs1 hM hk 0 hsky hgs hb14 v0 [p] hr hap (by simp) hin
      (fun D hD => dark_none (m := 0) ok hp h0R hbi [p] (List.mem_singleton_self p) (.inr ⟨hno, rfl⟩) hD) (fun D hD => skies_dark (m := 0) ok hp h0R h1R [p] (List.mem_singleton_self p) (.inr hno) hD) not_open_near hA1 (by omega) hl htl h0in _ _ _ _ _ _ _ _ _ _ _ _ _ _ _ _ _ _ _ _ _ _ _ _ _ _ _ _ _ _ _ _ _ _ _ _ _ _ _ _ _ _ _ _ _ _ _ _ _ _ _ _ _ _ _ _ _ _ _ _ _ _ _ _ _ _ _ _ _ _ _ _ _ _ _ _ _ _ _ _ _ _ _ _ _ _ _ _ _ _ _ _ _ _ _ _ _ _ _ _ _ _ _ _ _ _ _ _ _ _ _ _ _ _ _ _ _ _ _ _ _ _ _ _ _ _ _ _ _ _ _ _ _ _ _ _ _ _ _ _ _ _ _ _ _ _ _ R hR K hK
  | true =>
    exact skies_is W0 W base g b3 b10 b11 gm b13 b14 gs f cv lv av tv M00 c00 h0 ok p old FL FS FS0 h1R M c A0 A1 av1 (hs.more hs1) hM hk [] 0 (fun x hx => absurd hx List.not_mem_nil) (SkyX.keep hs.fs hsky hgs hs1) hgs (Sets.blk hs.fs hs1 hb14 (by decide) (wave_apart hs.fs.fld hb14)) Ws.heap.size v0 [p] hr hin (by simp)
      (fun q hq hc => by
        rw [List.mem_singleton.1 hq, skyOwn_not (not_open_lit hp hno)]
        rfl) (skies_clear (m := 0) ok hp h0R h1R hbw [p] (List.mem_singleton_self p) (.inr hno) (fun q hq hqp => absurd (List.mem_singleton.1 hq) hqp) (fun q hq _ => List.mem_singleton.1 hq)) not_open_near hA1 (by omega) hl htl _ _ _ _ _ _ _ _ _ _ _ _ _ _ _ _ _ _ _ _ _ _ _ _ _ _ _ _ _ _ _ _ _ _ _ _ _ _ _ _ _ _ _ _ _ _ _ _ _ _ _ _ _ _ _ _ _ _ _ _ _ _ _ _ _ _ _ _ _ _ _ _ _ _ _ _ _ _ _ _ _ _ _ _ _ _ _ _ _ _ _ _ _ _ _ _ _ _ _ _ _ _ _ _ _ _ _ _ _ _ _ _ _ _ _ _ _ _ _ _ _ _ _ _ _ _ _ _ _ _ _ _ _ _ _ _ _ _ _ _ _ _ _ _ _ _ _ R hR K hK
set_option maxHeartbeats 32000000 in
theorem change_mid (M : LMap) (c : Nat) (A0 : List Pl) (av0 : Value) (hs : Sets W0 Ws base g b3 b10 b11 gm f cv lv av tv M c A0 av0) (hbl : Below Ws.heap.size Ws W) (hM : ∀ q, nowAt f M q = ((FS0 q : Int), (FL q : Int))) (hk : ∀ q ∈ keysL M, f.b.inside q ∧ NearC f p old q)
    (hsky : SkyX b13 gs [] 0 Ws) (hgs : gs ≠ gm) (hgsn : W0.heap.size ≤ gs) (hb13n : W0.heap.size ≤ b13) (hb14 : Blk Ws b14 73 (wvC g (.func (.func 33) #[] #[.pointer (some ⟨b13, 0, none⟩)]) (.func (.func 34) #[] #[.pointer (some ⟨b11, 0, none⟩)]) (.func (.func 35) #[] #[.pointer (some ⟨b11, 0, none⟩), .pointer (some ⟨b10, 0, none⟩)])))
    (hb4 : Blk Ws b4 23 (plC p)) (hav4 : av0.ownBlock ≠ some b4) (v0 : Value) (hr : PRow W Ws.heap.size v0 [p]) (u : Option Pl) (hu : stepP p 4 = u) (hb16 : Blk W b16 23 (plC (u.getD (0, 0, 0)))) (hb16n : Ws.heap.size ≤ b16) (hv16 : v0.ownBlock ≠ some b16)
    (bi : Bool) (hbw : clearC old.1 old.2 = !bi) (hbi : clrAt f p = bi) (hl : f.asked.length + A0.length ≤ 850000000) (htl : f.told.length ≤ 850000000) (h0in : ∀ q, ¬ f.b.inside q → FS0 q = 0)
    (u0 u1 u2 u5 u6 u7 u8 u12 u18 u19 u20 u21 u22 u23 u24 u25 u26 u27 u28 u29 u30 u31 u32 u33 u34 u35 u36 u37 u38 u39 u40 u41 u42 u43 u44 u45 u46 u47 u48 u49 u50 u51 u52 u53 u54 u55 u56 u57 u58 u59 u60 u61 u62 u63 u64 u65 u66 u67 u68 u69 u70 u71 u72 u73 u74 u75 u76 u77 u78 u79 u80 u81 u82 u83 u84 u85 u86 u87 u88 u89 u90 u91 u92 u93 u94 u95 u96 u97 u98 u99 u100 u101 u102 u103 u104 u105 u106 u107 u108 u109 u110 u111 u112 u113 u114 u115 u116 u117 u118 u119 u120 u121 u122 u123 u124 u125 u126 u127 u128 u129 u130 u131 u132 u133 u134 u135 u136 u137 u138 u139 u140 u141 u142 u143 u144 u145 u146 u147 u148 u149 u150 u151 : Value) (R : Ending → World → Prop) (hR : EndOk W0 base g gm f cv lv av tv FS FL p old A0 R) (K : Act → World → Prop)
    (hK : ∀ a W, Code.wp Try.prog (gnav (Try.f11.body.getD .skip) [true, true, true, true, true, true, true, true, true, true]) (bodyPost Try.prog Try.f11 R) a W → K a W) :
    Code.wp Try.prog (gnav (gcond (gnav (Try.f11.body.getD .skip) [true, true, true, true, true, true, true, true, true, false, true])) [true, true, true, true]) (Exit.then K (bodyPost Try.prog Try.f11 R)) { tmps := #[u0, u1, u2, .pointer (some ⟨b3, 0, none⟩), .pointer (some ⟨b4, 0, none⟩), u5, u6, u7, u8, .bool bi, .pointer (some ⟨b10, 0, none⟩), .pointer (some ⟨b11, 0, none⟩), u12, .pointer (some ⟨b13, 0, none⟩), .pointer (some ⟨b14, 0, none⟩), v0, .pointer (some ⟨b16, 0, none⟩), .bool u.isSome, u18, u19, u20, u21, u22, u23, u24, u25, u26, u27, u28, u29, u30, u31, u32, u33, u34, u35, u36, u37, u38, u39, u40, u41, u42, u43, u44, u45, u46, u47, u48, u49, u50, u51, u52, u53, u54, u55, u56, u57, u58, u59, u60, u61, u62, u63, u64, u65, u66, u67, u68, u69, u70, u71, u72, u73, u74, u75, u76, u77, u78, u79, u80, u81, u82, u83, u84, u85, u86, u87, u88, u89, u90, u91, u92, u93, u94, u95, u96, u97, u98, u99, u100, u101, u102, u103, u104, u105, u106, u107, u108, u109, u110, u111, u112, u113, u114, u115, u116, u117, u118, u119, u120, u121, u122, u123, u124, u125, u126, u127, u128, u129, u130, u131, u132, u133, u134, u135, u136, u137, u138, u139, u140, u141, u142, u143, u144, u145, u146, u147, u148, u149, u150, u151], defers := [] } W := by
  have hmp := Bx.inside_may ok.box hp
  have hs1 : Sets Ws W base g b3 b10 b11 gm { f with asked := f.asked ++ A0 } cv lv av0 tv M c [] av0 := (Sets.start hs.fs).under hbl
  have hopi := open_iff (old := old) ok hp h0R
  have HO := Lib.hid (fun w' A1 av1 (hs1 : Sets Ws w' base g b3 b10 b11 gm { f with asked := f.asked ++ A0 } cv lv av0 tv M c A1 av1) (hop : openUp f p) (hA1 : ∀ x ∈ A1, NearC f p old x) (hA1l : A1.length ≤ 10) => And.intro
    (open_no W0 Ws w' base g b3 b4 b10 b11 gm b13 b14 gs f cv lv av tv M00 c00 h0 ok p hp old FL FS FL0 FS0 h0R h1R M c A0 A1 av0 av1 hs hs1 hM hk (Sets.blk hs.fs hs1 hb4 (by decide) hav4) 0 hsky hgs hb14 hop)
    (open_is W0 w' base g b3 b4 b10 b11 gm b13 b14 gs f cv lv av tv M00 c00 h0 ok p hp old FL FS FL0 FS0 h0R h1R M c A0 A1 av1 (hs.more hs1) hM hk (Sets.blk hs.fs hs1 hb4 (by decide) hav4) (SkyX.keep hs.fs hsky hgs hs1) hgs hgsn hb13n (Sets.blk hs.fs hs1 hb14 (by decide) (wave_apart hs.fs.fld hb14)) hop))
  have HE := Lib.hid (fun w' A1 av1 (hs1 : Sets Ws w' base g b3 b10 b11 gm { f with asked := f.asked ++ A0 } cv lv av0 tv M c A1 av1) (hr : PRow w' Ws.heap.size v0 [p]) (hap : ∀ k, v0.ownBlock = some k → av1.ownBlock ≠ some k) (hop : ¬ openUp f p) (hA1 : ∀ x ∈ A1, NearC f p old x) (hA1l : A1.length ≤ 10) =>
    mid_end W0 Ws w' base g b3 b10 b11 gm b13 b14 gs f cv lv av tv M00 c00 h0 ok p hp old FL FS FL0 FS0 h0R h1R M c A0 A1 av0 av1 hs hs1 hM hk hsky hgs hb14 v0 hr hap hop bi hbw hbi hA1 hA1l hl htl h0in)
  have HO2 := Lib.hid (fun w' A1 av1 h1 h2 h3 h4 => And.intro (fun hb => (HO.out w' A1 av1 h1 h2 h3 h4).1 (hbw.trans (by rw [hb]; rfl)) (hbi.trans hb)) (fun hb => (HO.out w' A1 av1 h1 h2 h3 h4).2 (hbw.trans (by rw [hb]; rfl)) (hbi.trans hb)))
  have HR := Lib.hid hR
  have HK := Lib.hid hK
  have HL := Lib.hid (And.intro hl (And.intro htl h0in))
  have HS1 := Lib.hid hs1
  have HROW := Lib.hid hr
  have HAP := Lib.hid (show ∀ k, v0.ownBlock = some k → av0.ownBlock ≠ some k from fun k hk e => by
    have h1 := (hr.lt k hk).1
    have h2 := (hs.fs.fld.asked.lt k e).2
    omega)
  refine (show Code.wp Try.prog (Code.seq (Code.seq (Code.region 16 _ false) (Code.cond (.tmp 87) _ _)) _) _ _ _ from wp_seq_k ?_)
  intro K2 hK2
  have HK2 := Lib.hid hK2
  clear hK2 hK hR hr
  refine wp_seq_k ?_
  intro K3 hK3
  have HK3 := Lib.hid hK3
  clear hK3
  have v11 : W.cell? ⟨b11, 0, none⟩ = some (.func (.func 27) #[] #[.pointer (some ⟨b10, 0, none⟩), .pointer (some ⟨b3, 0, none⟩)]) := hs1.fs.fvar.cell 0
  have hfs := field_sky
  cases u with
  | none =>
    have HOP := Lib.hid (hopi.2 (.inl (up_none hmp hu)))
    clear h0 ok hp h0R h1R hs hbl hM hk hsky hgs hgsn hb13n hb14 hb4 hav4 hu hb16 hb16n hv16 hl htl h0in hs1 hopi hmp HO
    have hus : (none : Option Pl).isSome = false := rfl
    rw [hus]
    go_wp2
    refine HK3.out _ _ (wp_cond_true rfl ?_)
    cases bi with
    | false => exact (HO2.out W [] av0 HS1.out HOP.out (fun x hx => absurd hx List.not_mem_nil) (by decide)).1 rfl (fun x hx => absurd hx List.not_mem_nil) (by decide) HL.out.1 HL.out.2.1 HL.out.2.2 _ _ _ _ _ _ _ _ _ _ _ _ _ _ _ _ _ _ _ _ _ _ _ _ _ _ _ _ _ _ _ _ _ _ _ _ _ _ _ _ _ _ _ _ _ _ _ _ _ _ _ _ _ _ _ _ _ _ _ _ _ _ _ _ _ _ _ _ _ _ _ _ _ _ _ _ _ _ _ _ _ _ _ _ _ _ _ _ _ _ _ _ _ _ _ _ _ _ _ _ _ _ _ _ _ _ _ _ _ _ _ _ _ _ _ _ _ _ _ _ _ _ _ _ _ _ _ _ _ _ _ _ _ _ _ _ _ _ _ _ _ _ _ _ _ _ R HR.out K K2 HK.out HK2.out
    | true => exact (HO2.out W [] av0 HS1.out HOP.out (fun x hx => absurd hx List.not_mem_nil) (by decide)).2 rfl (fun x hx => absurd hx List.not_mem_nil) (by decide) HL.out.1 HL.out.2.1 _ _ _ _ _ _ _ _ _ _ _ _ _ _ _ _ _ _ _ _ _ _ _ _ _ _ _ _ _ _ _ _ _ _ _ _ _ _ _ _ _ _ _ _ _ _ _ _ _ _ _ _ _ _ _ _ _ _ _ _ _ _ _ _ _ _ _ _ _ _ _ _ _ _ _ _ _ _ _ _ _ _ _ _ _ _ _ _ _ _ _ _ _ _ _ _ _ _ _ _ _ _ _ _ _ _ _ _ _ _ _ _ _ _ _ _ _ _ _ _ _ _ _ _ _ _ _ _ _ _ _ _ _ _ _ _ _ _ _ _ _ _ _ _ _ _ R HR.out K K2 HK.out HK2.out
  | some q =>
    obtain ⟨hs1a, hs2a, hs3a⟩ := stepP_some hu
    rw [up_move] at hs3a
    have HLT := Lib.hid (light_any W base g b3 b10 b11 gm { f with asked := (f.asked ++ A0) ++ [] } cv lv av0 tv M c hs1.fs ((ok.asks A0).asks []) q hs2a (by simp only [List.length_append, List.length_nil]; omega))
    have HX := Lib.hid (show nowAt { f with asked := (f.asked ++ A0) ++ [] } M q = ((FS0 q : Int), (FL q : Int)) from hM q)
    rw [HX.out] at HLT
    have HNE := Lib.hid (show NearC f p old q from .inl (by rw [hs3a]; simp only [farP, upP]; omega))
    have HOI := Lib.hid (show openUp f p ↔ FS0 q = 15 by
      rw [hopi, ← hs3a, hs2a]
      simp)
    obtain ⟨x, hx⟩ : ∃ x, x = FS0 q := ⟨_, rfl⟩
    obtain ⟨y, hy⟩ : ∃ y : Int, y = (FL q : Int) := ⟨_, rfl⟩
    rw [← hx, ← hy] at HLT
    rw [← hx] at HOI
    clear hx hy
    have hb16q : Blk W b16 23 (plC q) := hb16
    obtain ⟨a0, a1, a2⟩ := three_cells hb16q
    obtain ⟨qx, qy, qz⟩ := q
    unfold plV plC clV at HLT
    simp only at HLT a0 a1 a2
    clear h0 ok hp h0R h1R hs hbl hM hk hsky hgs hgsn hb13n hb14 hb4 hav4 hu hb16 hb16n hv16 hl htl h0in hs1 hopi hmp HO hb16q hs1a hs2a hs3a
    have hus : (some ((qx, qy, qz) : Pl)).isSome = true := rfl
    rw [hus]
    go_wp2_with fail
    go_at_call 27
    refine HLT.out.mono ?_
    rintro e w2 ⟨rfl, av2, l2, hj2, ha2⟩
    have HS2 := Lib.hid (HS1.out.asks ha2)
    have HROW2 := Lib.hid (Asks.row HS1.out.fs.fld ha2 HROW.out HAP.out)
    have HAP2 := Lib.hid (apart_new HAP.out (fun i hi => (HROW.out.lt i hi).2) ha2.new)
    have HN2 := Lib.hid (show ∀ z ∈ ([] : List Pl) ++ l2, NearC f p old z from fun z hz => by
      rw [List.nil_append] at hz
      rw [hj2.1 z hz]
      exact HNE.out)
    have HL2 := Lib.hid (show (([] : List Pl) ++ l2).length ≤ 10 by rw [List.nil_append]; exact Nat.le_trans hj2.2 (by decide))
    clear ha2 hj2 a0 a1 a2 v11
    by_cases hx15 : x = 15
    · have HOP := Lib.hid (HOI.out.2 hx15)
      have hxI : ((x : Int) == 15) = true := by rw [hx15]; rfl
      subst hx15
      go_wp2
      refine HK3.out _ _ (wp_cond_true rfl ?_)
      cases bi with
      | false => exact (HO2.out w2 _ av2 HS2.out HOP.out HN2.out HL2.out).1 rfl HN2.out HL2.out HL.out.1 HL.out.2.1 HL.out.2.2 _ _ _ _ _ _ _ _ _ _ _ _ _ _ _ _ _ _ _ _ _ _ _ _ _ _ _ _ _ _ _ _ _ _ _ _ _ _ _ _ _ _ _ _ _ _ _ _ _ _ _ _ _ _ _ _ _ _ _ _ _ _ _ _ _ _ _ _ _ _ _ _ _ _ _ _ _ _ _ _ _ _ _ _ _ _ _ _ _ _ _ _ _ _ _ _ _ _ _ _ _ _ _ _ _ _ _ _ _ _ _ _ _ _ _ _ _ _ _ _ _ _ _ _ _ _ _ _ _ _ _ _ _ _ _ _ _ _ _ _ _ _ _ _ _ _ R HR.out K K2 HK.out HK2.out
      | true => exact (HO2.out w2 _ av2 HS2.out HOP.out HN2.out HL2.out).2 rfl HN2.out HL2.out HL.out.1 HL.out.2.1 _ _ _ _ _ _ _ _ _ _ _ _ _ _ _ _ _ _ _ _ _ _ _ _ _ _ _ _ _ _ _ _ _ _ _ _ _ _ _ _ _ _ _ _ _ _ _ _ _ _ _ _ _ _ _ _ _ _ _ _ _ _ _ _ _ _ _ _ _ _ _ _ _ _ _ _ _ _ _ _ _ _ _ _ _ _ _ _ _ _ _ _ _ _ _ _ _ _ _ _ _ _ _ _ _ _ _ _ _ _ _ _ _ _ _ _ _ _ _ _ _ _ _ _ _ _ _ _ _ _ _ _ _ _ _ _ _ _ _ _ _ _ _ _ _ _ R HR.out K K2 HK.out HK2.out
    · have HOP := Lib.hid (show ¬ openUp f p from fun h => hx15 (HOI.out.1 h))
      have hxI : ((x : Int) == 15) = false := by
        rw [beq_eq_false_iff_ne]
        omega
      go_wp2
      refine HK3.out _ _ (wp_cond_false rfl ?_)
      go_wp2
      refine HK2.out _ _ ?_
      exact HE.out w2 _ av2 HS2.out HROW2.out HAP2.out HOP.out HN2.out HL2.out _ _ _ _ _ _ _ _ _ _ _ _ _ _ _ _ _ _ _ _ _ _ _ _ _ _ _ _ _ _ _ _ _ _ _ _ _ _ _ _ _ _ _ _ _ _ _ _ _ _ _ _ _ _ _ _ _ _ _ _ _ _ _ _ _ _ _ _ _ _ _ _ _ _ _ _ _ _ _ _ _ _ _ _ _ _ _ _ _ _ _ _ _ _ _ _ _ _ _ _ _ _ _ _ _ _ _ _ _ _ _ _ _ _ _ _ _ _ _ _ _ _ _ _ _ _ _ _ _ _ _ _ _ _ _ _ _ _ _ _ _ _ _ _ _ _ _ R HR.out K HK.out
end
end Go.Proofs.Ytlhjjmfbifhgfaa
/- The skies of a change: the walk. (Printed by gentail.py.) -/
namespace Go.Proofs.Ytlhjjmfbifhgfaa
set_option linter.unusedSimpArgs false
set_option linter.unusedVariables false
open Go.RowKit
set_option maxRecDepth 1000000

theorem out_zero {f : Fw} {p : Pl} {old : Int × Int} {FL0 FS0 : Pl → Nat} (hp : f.b.inside p) (h0R : RightOf (f.old p old) FL0 FS0) : ∀ q, ¬ f.b.inside q → FS0 q = 0 := fun q hq => by
  rcases Nat.eq_zero_or_pos (FS0 q) with h | h
  · exact h
  · have := ((h0R.sky.iff q (FS0 q) h).1 (Nat.le_refl _)).1
    exact absurd (clr_in this) hq
section
variable (W0 wr : World) (base g b3 b4 b10 b11 gm : Nat) (f : Fw) (cv lv av tv : Value) (M00 : LMap) (c00 : Nat) (h0 : FS W0 base g b3 b10 b11 gm f cv lv av tv M00 c00) (ok : f.Ok) (p : Pl) (hp : f.b.inside p) (old : Int × Int) (FL FS FL0 FS0 : Pl → Nat) (h0R : RightOf (f.old p old) FL0 FS0) (h1R : RightOf f FL FS)
include h0 ok hp h0R h1R
set_option maxHeartbeats 32000000 in
theorem change_skies (M : LMap) (c : Nat) (A0 : List Pl) (av0 : Value) (hs : Sets W0 wr base g b3 b10 b11 gm f cv lv av tv M c A0 av0) (hM : ∀ q, nowAt f M q = ((FS0 q : Int), (FL q : Int))) (hk : ∀ q ∈ keysL M, f.b.inside q ∧ NearC f p old q)
    (hb4 : Blk W0 b4 23 (plC p)) (hav4 : av.ownBlock ≠ some b4) (bw bi : Bool) (hbw : clearC old.1 old.2 = bw) (hbi : clrAt f p = bi) (hl : f.asked.length + A0.length ≤ 850000000) (htl : f.told.length ≤ 850000000)
    (u0 u1 u2 u5 u6 u7 u12 u13 u14 u15 u16 u17 u18 u19 u20 u21 u22 u23 u24 u25 u26 u27 u28 u29 u30 u31 u32 u33 u34 u35 u36 u37 u38 u39 u40 u41 u42 u43 u44 u45 u46 u47 u48 u49 u50 u51 u52 u53 u54 u55 u56 u57 u58 u59 u60 u61 u62 u63 u64 u65 u66 u67 u68 u69 u70 u71 u72 u73 u74 u75 u76 u77 u78 u79 u80 u81 u82 u83 u84 u85 u86 u87 u88 u89 u90 u91 u92 u93 u94 u95 u96 u97 u98 u99 u100 u101 u102 u103 u104 u105 u106 u107 u108 u109 u110 u111 u112 u113 u114 u115 u116 u117 u118 u119 u120 u121 u122 u123 u124 u125 u126 u127 u128 u129 u130 u131 u132 u133 u134 u135 u136 u137 u138 u139 u140 u141 u142 u143 u144 u145 u146 u147 u148 u149 u150 u151 : Value) (R : Ending → World → Prop) (hR : EndOk W0 base g gm f cv lv av tv FS FL p old A0 R) :
    Code.wp Try.prog (gnav (Try.f11.body.getD .skip) [true, true, true, true, true, true, true, true, true]) (bodyPost Try.prog Try.f11 R) { tmps := #[u0, u1, u2, .pointer (some ⟨b3, 0, none⟩), .pointer (some ⟨b4, 0, none⟩), u5, u6, u7, .bool bw, .bool bi, .pointer (some ⟨b10, 0, none⟩), .pointer (some ⟨b11, 0, none⟩), u12, u13, u14, u15, u16, u17, u18, u19, u20, u21, u22, u23, u24, u25, u26, u27, u28, u29, u30, u31, u32, u33, u34, u35, u36, u37, u38, u39, u40, u41, u42, u43, u44, u45, u46, u47, u48, u49, u50, u51, u52, u53, u54, u55, u56, u57, u58, u59, u60, u61, u62, u63, u64, u65, u66, u67, u68, u69, u70, u71, u72, u73, u74, u75, u76, u77, u78, u79, u80, u81, u82, u83, u84, u85, u86, u87, u88, u89, u90, u91, u92, u93, u94, u95, u96, u97, u98, u99, u100, u101, u102, u103, u104, u105, u106, u107, u108, u109, u110, u111, u112, u113, u114, u115, u116, u117, u118, u119, u120, u121, u122, u123, u124, u125, u126, u127, u128, u129, u130, u131, u132, u133, u134, u135, u136, u137, u138, u139, u140, u141, u142, u143, u144, u145, u146, u147, u148, u149, u150, u151], defers := [] } wr := by
  refine (show Code.wp Try.prog (Code.seq (gnav (Try.f11.body.getD .skip) [true, true, true, true, true, true, true, true, true, false]) (gnav (Try.f11.body.getD .skip) [true, true, true, true, true, true, true, true, true, true])) _ _ _ from wp_seq_k ?_)
  intro K hK
  have HK := Lib.hid hK
  have hin0 := out_zero hp h0R
  have hmm := @run_makeMap Try.prog
  have HR := Lib.hid hR
  have h4w : Blk wr b4 23 (plC p) := Sets.blk h0 hs hb4 (by decide) hav4
  by_cases hbb : bw = bi
  · have HT := Lib.hid (change_tail W0 wr base g b3 b10 b11 gm f cv lv av tv M00 c00 h0 ok M c A0 av0 hs FS FL (fun q => by rw [hM, (same_right ok hp h0R h1R (by rw [hbw, hbi]; exact hbb)).1]) (fun q hq => (hk q hq).1) (fun q => ⟨h1R.sky.le q, h1R.lamp.le q⟩) (by omega) (by omega))
    have HE := Lib.hid (show ∀ w' T A2 L' av'' tv'', FieldAt w' base g { f with asked := f.asked ++ (A0 ++ A2), told := f.told ++ T, lights := L' } cv lv av'' tv'' → Asc T → (∀ q, q ∈ T ↔ f.b.inside q ∧ chg f FS FL q = true) → (∀ q, f.b.inside q → L'.getD (f.b.idx q) (0, 0) = ((FS q : Int), (FL q : Int))) → L'.length = f.lights.length → (∀ x ∈ A2, x ∈ keysL M) → A2.length ≤ 1024 →
      Only W0 w' (fun k => (QF g av.ownBlock k ∨ k = gm) ∨ some k = tv.ownBlock ∨ some k = lv.ownBlock) → R (.returned (.int .i64 (T.length : Nat))) w' from fun w' T A2 L' av'' tv'' q1 q2 q3 q4 q5 q6 q7 q8 => hR w' T A2 L' av'' tv'' q1 q2 q3 q4 q5 (fun x hx => (hk x (q6 x hx)).2) (by omega) q8)
    have hbn : (bw == bi) = true := by rw [hbb]; simp
    clear h0 ok hp h0R h1R hs hM hk hb4 hav4 hbw hbi hl htl hR hin0 h4w hK
    subst hbb
    refine (show Code.wp Try.prog (Code.seq (Code.region 11 _ false) _) _ _ _ from ?_)
    cases bw with
    | true =>
      go_wp2
      refine HK.out _ _ ?_
      exact HT.out _ _ _ _ _ _ _ _ _ _ _ _ _ _ _ _ _ _ _ _ _ _ _ _ _ _ _ _ _ _ _ _ _ _ _ _ _ _ _ _ _ _ _ _ _ _ _ _ _ _ _ _ _ _ _ _ _ _ _ _ _ _ _ _ _ _ _ _ _ _ _ _ _ _ _ _ _ _ _ _ _ _ _ _ _ _ _ _ _ _ _ _ _ _ _ _ _ _ _ _ _ _ _ _ _ _ _ _ _ _ _ _ _ _ _ _ _ _ _ _ _ _ _ _ _ _ _ _ _ _ _ _ _ _ _ _ _ _ _ _ _ _ _ _ _ _ _ _ _ _ R HE.out
    | false =>
      go_wp2
      refine HK.out _ _ ?_
      exact HT.out _ _ _ _ _ _ _ _ _ _ _ _ _ _ _ _ _ _ _ _ _ _ _ _ _ _ _ _ _ _ _ _ _ _ _ _ _ _ _ _ _ _ _ _ _ _ _ _ _ _ _ _ _ _ _ _ _ _ _ _ _ _ _ _ _ _ _ _ _ _ _ _ _ _ _ _ _ _ _ _ _ _ _ _ _ _ _ _ _ _ _ _ _ _ _ _ _ _ _ _ _ _ _ _ _ _ _ _ _ _ _ _ _ _ _ _ _ _ _ _ _ _ _ _ _ _ _ _ _ _ _ _ _ _ _ _ _ _ _ _ _ _ _ _ _ _ _ _ _ _ R HE.out
  · have hne : clearC old.1 old.2 ≠ clrAt f p := by rw [hbw, hbi]; exact hbb
    obtain ⟨Ws, hWs⟩ : ∃ Ws, Ws = ((wr.alloc (.map #[] 0)).alloc (.cells #[.map (some wr.heap.size)] 76)).alloc (.cells (wvC g (.func (.func 33) #[] #[.pointer (some ⟨wr.heap.size + 1, 0, none⟩)]) (.func (.func 34) #[] #[.pointer (some ⟨b11, 0, none⟩)]) (.func (.func 35) #[] #[.pointer (some ⟨b11, 0, none⟩), .pointer (some ⟨b10, 0, none⟩)])) 73) := ⟨_, rfl⟩
    have e1 : (wr.alloc (.map #[] 0)).heap.size = wr.heap.size + 1 := by simp
    have e2 : ((wr.alloc (.map #[] 0)).alloc (.cells #[.map (some wr.heap.size)] 76)).heap.size = wr.heap.size + 1 + 1 := by simp
    have hBs : Below wr.heap.size wr Ws := by rw [hWs]; exact (((Below.refl _ _).alloc (Nat.le_refl _) _).alloc (by simp) _).alloc (by simp; omega) _
    have hss := hs.under hBs
    have hsk : SkyX (wr.heap.size + 1) wr.heap.size [] 0 Ws := by
      have h1 := Blk.new (wr.alloc (.map #[] 0)) 76 #[.map (some wr.heap.size)]
      rw [e1] at h1
      rw [hWs]
      exact ⟨h1.alloc _, ((MapIs.made wr).alloc _).alloc _⟩
    have hb14 : Blk Ws (wr.heap.size + 1 + 1) 73 (wvC g (.func (.func 33) #[] #[.pointer (some ⟨wr.heap.size + 1, 0, none⟩)]) (.func (.func 34) #[] #[.pointer (some ⟨b11, 0, none⟩)]) (.func (.func 35) #[] #[.pointer (some ⟨b11, 0, none⟩), .pointer (some ⟨b10, 0, none⟩)])) := by
      have h1 := Blk.new ((wr.alloc (.map #[] 0)).alloc (.cells #[.map (some wr.heap.size)] 76)) 73 (wvC g (.func (.func 33) #[] #[.pointer (some ⟨wr.heap.size + 1, 0, none⟩)]) (.func (.func 34) #[] #[.pointer (some ⟨b11, 0, none⟩)]) (.func (.func 35) #[] #[.pointer (some ⟨b11, 0, none⟩), .pointer (some ⟨b10, 0, none⟩)]))
      rw [e2] at h1
      rw [hWs]
      exact h1
    have hgm : wr.heap.size ≠ gm := fun e => by have := hs.fs.map.inb; omega
    have hb4s : Blk Ws b4 23 (plC p) := h4w.below hBs h4w.lt
    have hszs : Ws.heap.size = wr.heap.size + 1 + 1 + 1 := by rw [hWs]; simp
    have hv11 : wr.cell? ⟨b11, 0, none⟩ = some (.func (.func 27) #[] #[.pointer (some ⟨b10, 0, none⟩), .pointer (some ⟨b3, 0, none⟩)]) := hs.fs.fvar.cell 0
    have hv3 : wr.cell? ⟨b3, 0, none⟩ = some (.iface 29 (.pointer (some ⟨g, 0, none⟩))) := hs.fs.var.cell 0
    have hv3b : ((wr.alloc (.map #[] 0)).alloc (.cells #[.map (some wr.heap.size)] 76)).cell? ⟨b3, 0, none⟩ = some (.iface 29 (.pointer (some ⟨g, 0, none⟩))) := ((hs.fs.var.alloc _).alloc _).cell 0
    obtain ⟨a0, a1, a2⟩ := three_cells hb4s
    obtain ⟨b0, b1, b2⟩ := three_cells (hb4s.alloc (.cells (plC p) 23))
    have HW5 := Lib.hid (show ∃ W5, W5 = Ws.alloc (.cells (plC p) 23) from ⟨_, rfl⟩)
    have HWS := Lib.hid hWs
    rw [hWs] at a0 a1 a2 b0 b1 b2
    unfold wvC at a0 a1 a2 b0 b1 b2
    unfold plC at b0 b1 b2
    clear hv3
    have HALL := Lib.hid (And.intro h0 (And.intro ok (And.intro hp (And.intro h0R (And.intro h1R (And.intro hs (And.intro hM hk)))))))
    have HS := Lib.hid (And.intro hss (And.intro hsk (And.intro hb14 (And.intro hgm (And.intro hb4s hszs)))))
    have HB := Lib.hid (And.intro hbw (And.intro hbi (And.intro hl (And.intro htl hin0))))
    have HST := Lib.hid (fun w => pstep_any w p 4 (by decide))
    have HMID := Lib.hid (fun w' v0 u b16 (hbl : Below Ws.heap.size Ws w') hr hu hb16 hb16n hv16 => change_mid W0 Ws w' base g b3 b4 b10 b11 gm (wr.heap.size + 1) (wr.heap.size + 1 + 1) b16 wr.heap.size f cv lv av tv M00 c00 h0 ok p hp old FL FS FL0 FS0 h0R h1R M c A0 av0 hss hbl hM hk hsk hgm hs.only.size (Nat.le_succ_of_le hs.only.size) hb14 hb4s (fun e => by
      rcases hs.new with h1 | ⟨k, h1, h2⟩
      · exact hav4 (h1.symm.trans e)
      · have h3 := hb4.lt
        have : k = b4 := Option.some.inj (h1.symm.trans e)
        omega) v0 hr u hu hb16 hb16n hv16 bi (by rw [hbw]; cases bw <;> cases bi <;> simp_all) hbi hl htl hin0)
    have hszs2 := hszs
    have hbn : (bw == bi) = false := by cases bw <;> cases bi <;> simp_all
    clear hBs hss hsk hb14 hgm hb4s hszs hWs h0 ok hp h0R h1R hs hM hk hb4 hav4 hbw hbi hl htl hR hin0 h4w hK e1 e2 hne
    refine (show Code.wp Try.prog (Code.seq (Code.region 11 _ false) _) _ _ _ from ?_)
    obtain ⟨W5, hW5⟩ : ∃ W5, W5 = Ws.alloc (.cells (plC p) 23) := ⟨_, rfl⟩
    have HRO := Lib.hid (show PRow W5 Ws.heap.size (.slice (some ⟨wr.heap.size + 1 + 1 + 1, 0, none⟩) 1 1) [p] by
      rw [hW5, ← hszs2]
      refine ⟨rfl, .inr ⟨Ws.heap.size, 1, plC p, rfl, Nat.le_refl _, Blk.new _ _ _, Nat.le_refl _, by decide, rfl, ?_⟩⟩
      rw [rc_single]
      rfl)
    have HB5 := Lib.hid (show Below Ws.heap.size Ws W5 by rw [hW5]; exact (Below.refl _ _).alloc (Nat.le_refl _) _)
    have HS5 := Lib.hid (show W5.heap.size = wr.heap.size + 1 + 1 + 1 + 1 by rw [hW5]; simp [hszs2])
    have HSZS := Lib.hid hszs2
    have hW6 := hW5
    rw [HWS.out] at hW6
    unfold wvC plC at hW6
    have HW6 := Lib.hid hW6
    have HBB := Lib.hid hbb
    have HSTW := Lib.hid (HST.out W5)
    unfold plV plC at HSTW
    clear hW5 hW6 hszs2 HST
    cases bw with
    | true =>
      cases bi with
      | true => exact absurd rfl hbb
      | false =>
        clear hbb
        go_wp2_with fail
        rw [← HW6.out]
        go_at_call 36
        refine HSTW.out.mono ?_
        rintro e w6 ⟨rfl, hb6⟩
        rename_i Ky ay Kl al
        have HAY := Lib.hid ay
        clear ay
        have HB6 := Lib.hid hb6
        have HS6 := Lib.hid (show wr.heap.size + 1 + 1 + 1 + 1 ≤ w6.heap.size from by have := HS5.out; have := hb6.size; omega)
        have HRO6 := Lib.hid (own_below HRO.out hb6)
        have HBS6 := Lib.hid (HB5.out.trans (hb6.mono HB5.out.size))
        clear hb6
        cases hu : stepP p 4 with
        | none =>
          have HU := Lib.hid hu
          have hsv : stepV p 4 = .tuple #[.agg #[.int .i64 0, .int .i64 0, .int .i64 0], .bool false] := by unfold stepV; rw [hu]; rfl
          rw [hsv]
          have HM := Lib.hid (HMID.out (w6.alloc (.cells #[.int .i64 0, .int .i64 0, .int .i64 0] 23)) (.slice (some ⟨wr.heap.size + 1 + 1 + 1, 0, none⟩) 1 1) none w6.heap.size (HBS6.out.alloc HBS6.out.size _) (own_below HRO6.out ((Below.refl _ _).alloc (Nat.le_refl _) _)) hu (Blk.new _ _ _) HBS6.out.size (fun e => by
            have h1 : wr.heap.size + 1 + 1 + 1 = w6.heap.size := Option.some.inj e
            have := HS6.out
            omega))
          clear hu hsv
          go_wp2
          refine HAY.out _ _ ?_
          exact HM.out _ _ _ _ _ _ _ _ _ _ _ _ _ _ _ _ _ _ _ _ _ _ _ _ _ _ _ _ _ _ _ _ _ _ _ _ _ _ _ _ _ _ _ _ _ _ _ _ _ _ _ _ _ _ _ _ _ _ _ _ _ _ _ _ _ _ _ _ _ _ _ _ _ _ _ _ _ _ _ _ _ _ _ _ _ _ _ _ _ _ _ _ _ _ _ _ _ _ _ _ _ _ _ _ _ _ _ _ _ _ _ _ _ _ _ _ _ _ _ _ _ _ _ _ _ _ _ _ _ _ _ _ _ _ _ _ _ _ _ _ _ _ R HR.out K HK.out
        | some q =>
          have HU := Lib.hid hu
          obtain ⟨qx, qy, qz⟩ := q
          have hsv : stepV p 4 = .tuple #[.agg #[.int .i64 qx, .int .i64 qy, .int .i64 qz], .bool true] := by unfold stepV; rw [hu]; rfl
          rw [hsv]
          have HM := Lib.hid (HMID.out (w6.alloc (.cells #[.int .i64 qx, .int .i64 qy, .int .i64 qz] 23)) (.slice (some ⟨wr.heap.size + 1 + 1 + 1, 0, none⟩) 1 1) (some (qx, qy, qz)) w6.heap.size (HBS6.out.alloc HBS6.out.size _) (own_below HRO6.out ((Below.refl _ _).alloc (Nat.le_refl _) _)) hu (Blk.new _ _ _) HBS6.out.size (fun e => by
            have h1 : wr.heap.size + 1 + 1 + 1 = w6.heap.size := Option.some.inj e
            have := HS6.out
            omega))
          clear hu hsv
          go_wp2
          refine HAY.out _ _ ?_
          exact HM.out _ _ _ _ _ _ _ _ _ _ _ _ _ _ _ _ _ _ _ _ _ _ _ _ _ _ _ _ _ _ _ _ _ _ _ _ _ _ _ _ _ _ _ _ _ _ _ _ _ _ _ _ _ _ _ _ _ _ _ _ _ _ _ _ _ _ _ _ _ _ _ _ _ _ _ _ _ _ _ _ _ _ _ _ _ _ _ _ _ _ _ _ _ _ _ _ _ _ _ _ _ _ _ _ _ _ _ _ _ _ _ _ _ _ _ _ _ _ _ _ _ _ _ _ _ _ _ _ _ _ _ _ _ _ _ _ _ _ _ _ _ _ R HR.out K HK.out
    | false =>
      cases bi with
      | false => exact absurd rfl hbb
      | true =>
        clear hbb
        go_wp2_with fail
        rw [← HW6.out]
        go_at_call 36
        refine HSTW.out.mono ?_
        rintro e w6 ⟨rfl, hb6⟩
        rename_i Ky ay Kl al
        have HAY := Lib.hid ay
        clear ay
        have HB6 := Lib.hid hb6
        have HS6 := Lib.hid (show wr.heap.size + 1 + 1 + 1 + 1 ≤ w6.heap.size from by have := HS5.out; have := hb6.size; omega)
        have HRO6 := Lib.hid (own_below HRO.out hb6)
        have HBS6 := Lib.hid (HB5.out.trans (hb6.mono HB5.out.size))
        clear hb6
        cases hu : stepP p 4 with
        | none =>
          have HU := Lib.hid hu
          have hsv : stepV p 4 = .tuple #[.agg #[.int .i64 0, .int .i64 0, .int .i64 0], .bool false] := by unfold stepV; rw [hu]; rfl
          rw [hsv]
          have HM := Lib.hid (HMID.out (w6.alloc (.cells #[.int .i64 0, .int .i64 0, .int .i64 0] 23)) (.slice (some ⟨wr.heap.size + 1 + 1 + 1, 0, none⟩) 1 1) none w6.heap.size (HBS6.out.alloc HBS6.out.size _) (own_below HRO6.out ((Below.refl _ _).alloc (Nat.le_refl _) _)) hu (Blk.new _ _ _) HBS6.out.size (fun e => by
            have h1 : wr.heap.size + 1 + 1 + 1 = w6.heap.size := Option.some.inj e
            have := HS6.out
            omega))
          clear hu hsv
          go_wp2
          refine HAY.out _ _ ?_
          exact HM.out _ _ _ _ _ _ _ _ _ _ _ _ _ _ _ _ _ _ _ _ _ _ _ _ _ _ _ _ _ _ _ _ _ _ _ _ _ _ _ _ _ _ _ _ _ _ _ _ _ _ _ _ _ _ _ _ _ _ _ _ _ _ _ _ _ _ _ _ _ _ _ _ _ _ _ _ _ _ _ _ _ _ _ _ _ _ _ _ _ _ _ _ _ _ _ _ _ _ _ _ _ _ _ _ _ _ _ _ _ _ _ _ _ _ _ _ _ _ _ _ _ _ _ _ _ _ _ _ _ _ _ _ _ _ _ _ _ _ _ _ _ _ R HR.out K HK.out
        | some q =>
          have HU := Lib.hid hu
          obtain ⟨qx, qy, qz⟩ := q
          have hsv : stepV p 4 = .tuple #[.agg #[.int .i64 qx, .int .i64 qy, .int .i64 qz], .bool true] := by unfold stepV; rw [hu]; rfl
          rw [hsv]
          have HM := Lib.hid (HMID.out (w6.alloc (.cells #[.int .i64 qx, .int .i64 qy, .int .i64 qz] 23)) (.slice (some ⟨wr.heap.size + 1 + 1 + 1, 0, none⟩) 1 1) (some (qx, qy, qz)) w6.heap.size (HBS6.out.alloc HBS6.out.size _) (own_below HRO6.out ((Below.refl _ _).alloc (Nat.le_refl _) _)) hu (Blk.new _ _ _) HBS6.out.size (fun e => by
            have h1 : wr.heap.size + 1 + 1 + 1 = w6.heap.size := Option.some.inj e
            have := HS6.out
            omega))
          clear hu hsv
          go_wp2
          refine HAY.out _ _ ?_
          exact HM.out _ _ _ _ _ _ _ _ _ _ _ _ _ _ _ _ _ _ _ _ _ _ _ _ _ _ _ _ _ _ _ _ _ _ _ _ _ _ _ _ _ _ _ _ _ _ _ _ _ _ _ _ _ _ _ _ _ _ _ _ _ _ _ _ _ _ _ _ _ _ _ _ _ _ _ _ _ _ _ _ _ _ _ _ _ _ _ _ _ _ _ _ _ _ _ _ _ _ _ _ _ _ _ _ _ _ _ _ _ _ _ _ _ _ _ _ _ _ _ _ _ _ _ _ _ _ _ _ _ _ _ _ _ _ _ _ _ _ _ _ _ _ R HR.out K HK.out
end
end Go.Proofs.Ytlhjjmfbifhgfaa
/- The lamps' waves of a change. -/
namespace Go.Proofs.Ytlhjjmfbifhgfaa
set_option linter.unusedSimpArgs false
set_option linter.unusedVariables false
open Go.RowKit

theorem now_nil (f : Fw) (q : Pl) : nowAt f [] q = lightAt f q := rfl
/-- The lamps' dark wave. -/
theorem lamps_dark (W0 W : World) (base g b3 b10 b11 gm : Nat) (f : Fw) (cv lv av tv : Value) (h0 : FS W0 base g b3 b10 b11 gm f cv lv av tv [] 0) (ok : f.Ok) (p : Pl) (hp : f.b.inside p) (old : Int × Int) (FL FS FL0 FS0 : Pl → Nat) (h0R : RightOf (f.old p old) FL0 FS0)
    (hlt : ∀ q, lightAt f q = ((FS0 q : Int), (FL0 q : Int))) (v0 : Value) (hs : Sets W0 W base g b3 b10 b11 gm f cv lv av tv [] 0 [] av) (hr : PRow W W0.heap.size v0 [p]) (hap : ∀ k, v0.ownBlock = some k → av.ownBlock ≠ some k) (hl : f.asked.length ≤ 800000001) :
    Calls Try.prog 32 #[.agg (wvC g (.func (.func 28) #[] #[.pointer (some ⟨b3, 0, none⟩)]) (.func (.func 29) #[] #[.pointer (some ⟨b11, 0, none⟩)]) (.func (.func 30) #[] #[.pointer (some ⟨b11, 0, none⟩), .pointer (some ⟨b10, 0, none⟩)])), v0] W fun e w' =>
      ∃ v D M c A av', e = .returned v ∧ Sets W0 w' base g b3 b10 b11 gm f cv lv av tv M c A av' ∧ PRow w' W0.heap.size v D ∧ (∀ k, v.ownBlock = some k → av'.ownBlock ≠ some k) ∧ Dark sidesP FL0 farP [p] D D.length 0 ∧
        (∀ q ∈ D, f.b.inside q) ∧ (∀ q, nowAt f M q = if q ∈ D then ((FS0 q : Int), 0) else ((FS0 q : Int), (FL0 q : Int))) ∧ (∀ q, q ∈ keysL M ↔ q ∈ D) ∧ A.length ≤ 20000 ∧ ∀ x ∈ A, NearL D x := by
  have hn : ∀ q, nowAt f [] q = ((FS0 q : Int), (FL0 q : Int)) := fun q => by rw [now_nil, hlt]
  have h00 : (fun q => ((nowAt f [] q).2).toNat) = FL0 := funext fun q => by rw [hn]; exact Int.toNat_natCast _
  have hd := dark_any W0 W base g b3 b10 b11 gm f cv lv av tv [] 0 h0 ok 28 29 30 b3 (fun x => x.2) (fun x n => (x.1, n)) _ _ (lampsOk base g b3 b10 b11 gm f cv lv tv ok) half_lamp [] 0 [] av v0 [p] hs hr hap (by simp) (fun q hq => by rw [List.mem_singleton.1 hq]; exact hp)
    (fun q => by rw [hn]; exact Int.natCast_nonneg _) (fun q hq => by
      rw [hn]
      have : FL0 q = 0 := by
        rcases Nat.eq_zero_or_pos (FL0 q) with h | h
        · exact h
        · exact absurd (clr_in ((h0R.lamp.iff q (FL0 q) h).1 (Nat.le_refl _)).1) hq
      rw [this]
      rfl) (by simp only [List.length_nil]; omega)
  rw [h00] at hd
  refine hd.mono ?_
  rintro e w' ⟨v, D, M, c, A, av', rfl, hs2, hr2, hap2, hD, hDin, hn2, hk2, hAl, hA⟩
  refine ⟨v, D, M, c, A, av', rfl, by simpa using hs2, hr2, hap2, hD, hDin, fun q => ?_, fun q => ?_, hAl, hA⟩
  · rw [hn2, hn]
  · rw [hk2]; simp [keysL]
/-- The lamps' bright wave behind it. -/
theorem lamps_bright (W0 w2 : World) (base g b3 b10 b11 gm : Nat) (f : Fw) (cv lv av tv : Value) (h0 : FS W0 base g b3 b10 b11 gm f cv lv av tv [] 0) (ok : f.Ok) (p : Pl) (hp : f.b.inside p) (old : Int × Int) (FL FS FL0 FS0 : Pl → Nat) (h0R : RightOf (f.old p old) FL0 FS0) (h1R : RightOf f FL FS)
    (v2 : Value) (D : List Pl) (M2 : LMap) (c2 : Nat) (A2 : List Pl) (av2 : Value) (hs2 : Sets W0 w2 base g b3 b10 b11 gm f cv lv av tv M2 c2 A2 av2) (hr2 : PRow w2 W0.heap.size v2 D) (hD : Dark sidesP FL0 farP [p] D D.length 0) (hDin : ∀ q ∈ D, f.b.inside q)
    (hn2 : ∀ q, nowAt f M2 q = if q ∈ D then ((FS0 q : Int), 0) else ((FS0 q : Int), (FL0 q : Int))) (hk2 : ∀ q, q ∈ keysL M2 ↔ q ∈ D) (hA2l : A2.length ≤ 20000) (hA2 : ∀ x ∈ A2, NearL D x) (hl : f.asked.length ≤ 800000001) :
    Calls Try.prog 31 #[.agg (wvC g (.func (.func 28) #[] #[.pointer (some ⟨b3, 0, none⟩)]) (.func (.func 29) #[] #[.pointer (some ⟨b11, 0, none⟩)]) (.func (.func 30) #[] #[.pointer (some ⟨b11, 0, none⟩), .pointer (some ⟨b10, 0, none⟩)])), v2] w2 fun e w' =>
      e = .returned (.tuple #[]) ∧ ∃ M' c' A av', Sets W0 w' base g b3 b10 b11 gm f cv lv av tv M' c' A av' ∧ (∀ q, nowAt f M' q = ((FS0 q : Int), (FL q : Int))) ∧ (∀ q ∈ keysL M', f.b.inside q ∧ NearC f p old q) ∧ A.length ≤ 420000 ∧ ∀ x ∈ A, NearC f p old x := by
  have hwD := lamps_start ok hp h0R h1R hD
  have hl2 : ∀ q, ((nowAt f M2 q).2).toNat = less FL0 D q := fun q => by
    rw [hn2]
    unfold less
    split
    · rfl
    · exact Int.toNat_natCast _
  have hge : ∀ q, 0 ≤ (nowAt f M2 q).2 := fun q => by
    rw [hn2]
    split
    · exact Int.le_refl _
    · exact Int.natCast_nonneg _
  have hS2 : ∀ q, (nowAt f M2 q).1 = (FS0 q : Int) := fun q => by
    rw [hn2]
    split <;> rfl
  have hkn : ∀ r, r ∈ D ∨ less FL0 D r < FL r → ∃ s ∈ [p], farP s r ≤ 14 := hwD.near
  have hrn : ∀ r, (r ∈ D ∨ ((nowAt f M2 r).2).toNat < FL r) → ∀ x, (x = r ∨ x ∈ sidesP r) → NearC f p old x := fun r hr x hx => by
    rw [hl2] at hr
    obtain ⟨s, hs, h2⟩ := hkn r hr
    exact not_open_near s hs x (side_far h2 hx)
  refine (bright_any W0 w2 base g b3 b10 b11 gm f cv lv av tv [] 0 h0 ok 28 29 30 b3 (fun x => x.2) (fun x n => (x.1, n)) _ _ (lampsOk base g b3 b10 b11 gm f cv lv tv ok) half_lamp M2 c2 A2 av2 v2 D hs2 W0.heap.size hr2
    (fun _ _ _ _ _ _ => trivial) hDin (nodup_box ok.box hD.nodup hDin) hge (lampAt f) (fun q hq hc => rfl) (fun q => (lampC_in (cellAt_in ok q).2).1) FL h1R.lamp (fun q => by rw [hl2]; exact hwD.up q)
    (fun q hc hn => by rw [hl2]; exact hwD.own q hc hn)
    (fun a b hb hc hn => by rw [hl2, hl2]; exact hwD.edge a b hb hc hn) (by omega)).mono ?_
  rintro e w' ⟨M', c', A, av', rfl, hs', hn', hk', hAl, hA⟩
  refine ⟨rfl, M', c', A2 ++ A, av', hs', fun q => ?_, fun q hq => ?_, by rw [List.length_append]; omega, fun x hx => ?_⟩
  · rw [hn', hS2]
  · rcases hk' q hq with h | ⟨h1, h2⟩
    · have h3 := (hk2 q).1 h
      exact ⟨hDin q h3, hrn q (.inl h3) q (.inl rfl)⟩
    · exact ⟨h1, hrn q h2 q (.inl rfl)⟩
  · rcases List.mem_append.1 hx with hx | hx
    · obtain ⟨r, hr, h⟩ := hA2 x hx
      exact hrn r (.inl hr) x h
    · obtain ⟨r, hr, h⟩ := hA x hx
      exact hrn r hr x h
end Go.Proofs.Ytlhjjmfbifhgfaa
/- A change that is one: the lamps' waves, and what comes behind them: the walk. (Printed by gentail.py.) -/
namespace Go.Proofs.Ytlhjjmfbifhgfaa
set_option linter.unusedSimpArgs false
set_option linter.unusedVariables false
open Go.RowKit
set_option maxRecDepth 1000000

/-- What a change leaves. -/
structure Changed (W W' : World) (base g : Nat) (f : Fw) (cv lv av tv : Value) (FS FL : Pl → Nat) (p : Pl) (old : Int × Int) (T A : List Pl) (L' : List (Int × Int)) (av' tv' : Value) : Prop where
  fld : FieldAt W' base g { f with asked := f.asked ++ A, told := f.told ++ T, lights := L' } cv lv av' tv'
  asc : Asc T
  mem : ∀ q, q ∈ T ↔ f.b.inside q ∧ chg f FS FL q = true
  lights : ∀ q, f.b.inside q → L'.getD (f.b.idx q) (0, 0) = ((FS q : Int), (FL q : Int))
  len : L'.length = f.lights.length
  near : ∀ x ∈ A, NearC f p old x
  few : A.length ≤ 3000000
  only : Only W W' (fun k => QF g av.ownBlock k ∨ some k = tv.ownBlock ∨ some k = lv.ownBlock)
section
variable (W w6 : World) (base g b3 b4 : Nat) (f : Fw) (cv lv av tv av3 : Value) (ok : f.Ok) (p : Pl) (hp : f.b.inside p) (old : Int × Int) (FL FS FL0 FS0 : Pl → Nat) (h0R : RightOf (f.old p old) FL0 FS0) (h1R : RightOf f FL FS)
include ok hp h0R h1R
set_option maxHeartbeats 32000000 in
theorem change_go (hF : FieldAt W base g f cv lv av tv) (ha : Asks W w6 base g f cv lv av tv [p] av3) (hb3 : Blk w6 b3 64 #[.iface 29 (.pointer (some ⟨g, 0, none⟩))]) (hb4 : Blk w6 b4 23 (plC p)) (hav : av3.ownBlock ≠ some b4)
    (hlt : ∀ q, lightAt f q = ((FS0 q : Int), (FL0 q : Int))) (hl : f.asked.length ≤ 800000000) (htl : f.told.length ≤ 800000000) (bw bi : Bool) (hbw : clearC old.1 old.2 = bw) (hbi : clrAt f p = bi)
    (u0 u1 u2 u5 u6 u7 u10 u11 u12 u13 u14 u15 u16 u17 u18 u19 u20 u21 u22 u23 u24 u25 u26 u27 u28 u29 u30 u31 u32 u33 u34 u35 u36 u37 u38 u39 u40 u41 u42 u43 u44 u45 u46 u47 u48 u49 u50 u51 u52 u53 u54 u55 u56 u57 u58 u59 u60 u61 u62 u63 u64 u65 u66 u67 u68 u69 u70 u71 u72 u73 u74 u75 u76 u77 u78 u79 u80 u81 u82 u83 u84 u85 u86 u87 u88 u89 u90 u91 u92 u93 u94 u95 u96 u97 u98 u99 u100 u101 u102 u103 u104 u105 u106 u107 u108 u109 u110 u111 u112 u113 u114 u115 u116 u117 u118 u119 u120 u121 u122 u123 u124 u125 u126 u127 u128 u129 u130 u131 u132 u133 u134 u135 u136 u137 u138 u139 u140 u141 u142 u143 u144 u145 u146 u147 u148 u149 u150 u151 : Value) :
    Code.wp Try.prog (gnav (Try.f11.body.getD .skip) [true, true, true, true, true]) (bodyPost Try.prog Try.f11 fun e w' => ∃ T A L' av' tv', e = .returned (.int .i64 (T.length : Nat)) ∧ Changed W w' base g f cv lv av tv FS FL p old T A L' av' tv') { tmps := #[u0, u1, u2, .pointer (some ⟨b3, 0, none⟩), .pointer (some ⟨b4, 0, none⟩), u5, u6, u7, .bool bw, .bool bi, u10, u11, u12, u13, u14, u15, u16, u17, u18, u19, u20, u21, u22, u23, u24, u25, u26, u27, u28, u29, u30, u31, u32, u33, u34, u35, u36, u37, u38, u39, u40, u41, u42, u43, u44, u45, u46, u47, u48, u49, u50, u51, u52, u53, u54, u55, u56, u57, u58, u59, u60, u61, u62, u63, u64, u65, u66, u67, u68, u69, u70, u71, u72, u73, u74, u75, u76, u77, u78, u79, u80, u81, u82, u83, u84, u85, u86, u87, u88, u89, u90, u91, u92, u93, u94, u95, u96, u97, u98, u99, u100, u101, u102, u103, u104, u105, u106, u107, u108, u109, u110, u111, u112, u113, u114, u115, u116, u117, u118, u119, u120, u121, u122, u123, u124, u125, u126, u127, u128, u129, u130, u131, u132, u133, u134, u135, u136, u137, u138, u139, u140, u141, u142, u143, u144, u145, u146, u147, u148, u149, u150, u151], defers := [] } w6 := by
  have hmm := @run_makeMap Try.prog
  obtain ⟨X4, hX4⟩ : ∃ X4, X4 = (((w6.alloc (.map #[] 0)).alloc (.cells #[.map (some w6.heap.size)] 67)).alloc (.cells #[.func (.func 27) #[] #[.pointer (some ⟨w6.heap.size + 1, 0, none⟩), .pointer (some ⟨b3, 0, none⟩)]] 69)).alloc (.cells (wvC g (.func (.func 28) #[] #[.pointer (some ⟨b3, 0, none⟩)]) (.func (.func 29) #[] #[.pointer (some ⟨w6.heap.size + 1 + 1, 0, none⟩)]) (.func (.func 30) #[] #[.pointer (some ⟨w6.heap.size + 1 + 1, 0, none⟩), .pointer (some ⟨w6.heap.size + 1, 0, none⟩)])) 73) := ⟨_, rfl⟩
  have e1 : (w6.alloc (.map #[] 0)).heap.size = w6.heap.size + 1 := by simp
  have e2 : ((w6.alloc (.map #[] 0)).alloc (.cells #[.map (some w6.heap.size)] 67)).heap.size = w6.heap.size + 1 + 1 := by simp
  have e3 : (((w6.alloc (.map #[] 0)).alloc (.cells #[.map (some w6.heap.size)] 67)).alloc (.cells #[.func (.func 27) #[] #[.pointer (some ⟨w6.heap.size + 1, 0, none⟩), .pointer (some ⟨b3, 0, none⟩)]] 69)).heap.size = w6.heap.size + 1 + 1 + 1 := by simp
  have e4 : X4.heap.size = w6.heap.size + 1 + 1 + 1 + 1 := by rw [hX4]; simp
  have hB4 : Below w6.heap.size w6 X4 := by rw [hX4]; exact ((((Below.refl _ _).alloc (Nat.le_refl _) _).alloc (by simp) _).alloc (by simp; omega) _).alloc (by simp; omega) _
  have h0 : Go.Proofs.Ytlhjjmfbifhgfaa.FS X4 base g b3 (w6.heap.size + 1) (w6.heap.size + 1 + 1) w6.heap.size { f with asked := f.asked ++ [p] } cv lv av3 tv [] 0 := by
    refine ⟨ha.fld.under hB4, hb3.below hB4 hb3.lt, ?_, ?_, ?_⟩
    · have h1 := Blk.new (w6.alloc (.map #[] 0)) 67 #[.map (some w6.heap.size)]
      rw [e1] at h1
      rw [hX4]; exact (h1.alloc _).alloc _
    · have h1 := Blk.new ((w6.alloc (.map #[] 0)).alloc (.cells #[.map (some w6.heap.size)] 67)) 69 #[.func (.func 27) #[] #[.pointer (some ⟨w6.heap.size + 1, 0, none⟩), .pointer (some ⟨b3, 0, none⟩)]]
      rw [e2] at h1
      rw [hX4]; exact h1.alloc _
    · rw [hX4]; exact (((MapIs.made w6).alloc _).alloc _).alloc _
  have hb12 : Blk X4 (w6.heap.size + 1 + 1 + 1) 73 (wvC g (.func (.func 28) #[] #[.pointer (some ⟨b3, 0, none⟩)]) (.func (.func 29) #[] #[.pointer (some ⟨w6.heap.size + 1 + 1, 0, none⟩)]) (.func (.func 30) #[] #[.pointer (some ⟨w6.heap.size + 1 + 1, 0, none⟩), .pointer (some ⟨w6.heap.size + 1, 0, none⟩)])) := by
    have h1 := Blk.new (((w6.alloc (.map #[] 0)).alloc (.cells #[.map (some w6.heap.size)] 67)).alloc (.cells #[.func (.func 27) #[] #[.pointer (some ⟨w6.heap.size + 1, 0, none⟩), .pointer (some ⟨b3, 0, none⟩)]] 69)) 73 (wvC g (.func (.func 28) #[] #[.pointer (some ⟨b3, 0, none⟩)]) (.func (.func 29) #[] #[.pointer (some ⟨w6.heap.size + 1 + 1, 0, none⟩)]) (.func (.func 30) #[] #[.pointer (some ⟨w6.heap.size + 1 + 1, 0, none⟩), .pointer (some ⟨w6.heap.size + 1, 0, none⟩)]))
    rw [e3] at h1
    rw [hX4]; exact h1
  have hb4X : Blk X4 b4 23 (plC p) := hb4.below hB4 hb4.lt
  have hv3b : (((w6.alloc (.map #[] 0)).alloc (.cells #[.map (some w6.heap.size)] 67)).alloc (.cells #[.func (.func 27) #[] #[.pointer (some ⟨w6.heap.size + 1, 0, none⟩), .pointer (some ⟨b3, 0, none⟩)]] 69)).cell? ⟨b3, 0, none⟩ = some (.iface 29 (.pointer (some ⟨g, 0, none⟩))) := (((hb3.alloc _).alloc _).alloc _).cell 0
  have okp := ok.asks [p]
  have hlp : ({ f with asked := f.asked ++ [p] } : Fw).asked.length ≤ 800000001 := by simp only [List.length_append, List.length_singleton]; omega
  have h0R' : RightOf (({ f with asked := f.asked ++ [p] } : Fw).old p old) FL0 FS0 := ⟨h0R.lamp, h0R.sky⟩
  have h1R' : RightOf ({ f with asked := f.asked ++ [p] } : Fw) FL FS := ⟨h1R.lamp, h1R.sky⟩
  have HDK := Lib.hid (lamps_dark X4 (X4.drew.alloc (.cells (plC p) 23)) base g b3 (w6.heap.size + 1) (w6.heap.size + 1 + 1) w6.heap.size { f with asked := f.asked ++ [p] } cv lv av3 tv h0 okp p hp old FL FS FL0 FS0 h0R' hlt (.slice (some ⟨w6.heap.size + 1 + 1 + 1 + 1, 0, none⟩) 1 1) ((Sets.start h0).under ((Below.refl X4.heap.size X4).drew.alloc (Nat.le_refl _) _)) (by
    rw [← e4]
    refine ⟨rfl, .inr ⟨X4.heap.size, 1, plC p, rfl, Nat.le_refl _, Blk.new X4.drew _ _, Nat.le_refl _, by decide, rfl, ?_⟩⟩
    rw [rc_single]
    rfl) (fun k hk e => by
    have h1 : w6.heap.size + 1 + 1 + 1 + 1 = k := Option.some.inj hk
    have h2 := (h0.fld.asked.lt k e).2
    omega) hlp)
  have HBR := Lib.hid (fun w2 => lamps_bright X4 w2 base g b3 (w6.heap.size + 1) (w6.heap.size + 1 + 1) w6.heap.size { f with asked := f.asked ++ [p] } cv lv av3 tv h0 okp p hp old FL FS FL0 FS0 h0R' h1R')
  have HBL := Lib.hid (fun w' M c A av' (hs : Sets X4 w' base g b3 (w6.heap.size + 1) (w6.heap.size + 1 + 1) w6.heap.size { f with asked := f.asked ++ [p] } cv lv av3 tv M c A av') => And.intro (Sets.blk h0 hs hb12 (by decide) (wave_apart h0.fld hb12)) (Sets.blk h0 hs hb4X (by decide) hav))
  have HEND := Lib.hid (fun w' M c A av' (hs : Sets X4 w' base g b3 (w6.heap.size + 1) (w6.heap.size + 1 + 1) w6.heap.size { f with asked := f.asked ++ [p] } cv lv av3 tv M c A av') hM hk hA => change_skies X4 w' base g b3 b4 (w6.heap.size + 1) (w6.heap.size + 1 + 1) w6.heap.size { f with asked := f.asked ++ [p] } cv lv av3 tv [] 0 h0 okp p hp old FL FS FL0 FS0 h0R' h1R' M c A av' hs hM hk hb4X hav bw bi hbw hbi hA (by show f.told.length ≤ 850000000; omega))
  have HON := Lib.hid (show ∀ w', Only X4 w' (fun k => (QF g av3.ownBlock k ∨ k = w6.heap.size) ∨ some k = tv.ownBlock ∨ some k = lv.ownBlock) → Only W w' (fun k => QF g av.ownBlock k ∨ some k = tv.ownBlock ∨ some k = lv.ownBlock) from fun w' ho => by
    have hz := ha.only.size
    refine (((ha.only.trans (Only.of_below (S := fun _ => False) hB4) (fun _ h => h.elim)).mono (fun _ h => .inl h)).trans ho ?_)
    rintro i ((h | h) | h | h)
    · rcases h with e | e
      · exact .inl (.inl (.inl e))
      · rcases ha.new with h1 | ⟨j, h1, h2⟩
        · exact .inl (.inl (.inr (e.trans h1)))
        · have : i = j := Option.some.inj (e.trans h1)
          exact .inr (by omega)
    · exact .inr (by omega)
    · exact .inl (.inr (.inl h))
    · exact .inl (.inr (.inr h)))
  obtain ⟨d0, d1, d2, d3⟩ := wave_cells hb12
  obtain ⟨a0, a1, a2⟩ := three_cells hb4X
  have HNP := Lib.hid (show NearC f p old p from .inl (by rw [farP_self]; omega))
  have HL := Lib.hid (And.intro hl htl)
  have HLP := Lib.hid hlp
  have HE4 := Lib.hid e4
  have hX5 := hX4
  unfold wvC at hX5
  have HX5 := Lib.hid hX5
  have HNC := Lib.hid (show ∀ x, NearC ({ f with asked := f.asked ++ [p] } : Fw) p old x → NearC f p old x from fun x hx => hx)
  clear hX4 hX5 e1 e2 e3 hB4 h0 hb12 hb4X okp hlp ok hp h0R h1R h0R' h1R' hF ha hb3 hb4 hav hlt hl htl hbw hbi
  unfold wvC at HDK HBR
  unfold plC at HDK
  refine (show Code.wp Try.prog (Code.seq (Code.region 7 _ false) _) _ _ _ from ?_)
  go_wp2
  rw [← HX5.out]
  go_region_held (fun w' => w'.cell? ⟨w6.heap.size + 1 + 1 + 1, 0, none⟩ = some (.iface 29 (.pointer (some ⟨g, 0, none⟩))) ∧ w'.cell? ⟨w6.heap.size + 1 + 1 + 1, 1, none⟩ = some (.func (.func 28) #[] #[.pointer (some ⟨b3, 0, none⟩)]) ∧ w'.cell? ⟨w6.heap.size + 1 + 1 + 1, 2, none⟩ = some (.func (.func 29) #[] #[.pointer (some ⟨w6.heap.size + 1 + 1, 0, none⟩)]) ∧ w'.cell? ⟨w6.heap.size + 1 + 1 + 1, 3, none⟩ = some (.func (.func 30) #[] #[.pointer (some ⟨w6.heap.size + 1 + 1, 0, none⟩), .pointer (some ⟨w6.heap.size + 1, 0, none⟩)]) ∧ w'.cell? ⟨b4, 0, none⟩ = some (.int .i64 p.1) ∧ w'.cell? ⟨b4, 1, none⟩ = some (.int .i64 p.2.1) ∧ w'.cell? ⟨b4, 2, none⟩ = some (.int .i64 p.2.2))
    (first | exact ⟨d0, d1, d2, d3, a0, a1, a2⟩ | assumption | go_keep)
    (first | (go_at_call 32; refine HDK.out.mono ?_; rintro e w2 ⟨v2, D, M2, c2, A2, av2, rfl, hs2, hr2, hap2, hD, hDin, hn2, hk2, hA2l, hA2⟩; have HBR2 := Lib.hid (HBR.out w2 v2 D M2 c2 A2 av2 hs2 hr2 hD hDin hn2 hk2 hA2l hA2 HLP.out); have hbl := HBL.out _ _ _ _ _ hs2; have hw2 := wave_cells hbl.1; have hp2 := three_cells hbl.2; have S4 := And.intro hw2.1 (And.intro hw2.2.1 (And.intro hw2.2.2.1 (And.intro hw2.2.2.2 hp2))); clear hs2 hr2 hap2 hD hDin hn2 hk2 hA2l hA2 hbl hw2 hp2) | (go_at_call 31; refine HBR2.out.mono ?_; rintro e w3 ⟨rfl, M', c', A, av', hs3, hM3, hk3, hAl3, hA3⟩; have HS3 := Lib.hid hs3; have HM3 := Lib.hid hM3; have HK3 := Lib.hid hk3; have HAL3 := Lib.hid hAl3; have HA3 := Lib.hid hA3; have hbl := HBL.out _ _ _ _ _ hs3; have hw2 := wave_cells hbl.1; have hp2 := three_cells hbl.2; have S5 := And.intro hw2.1 (And.intro hw2.2.1 (And.intro hw2.2.2.1 (And.intro hw2.2.2.2 hp2))); clear hs3 hM3 hk3 hAl3 hA3 hbl hw2 hp2))
  rename_i K9 a9 hh1
  clear S4 S5 hh1 d0 d1 d2 d3 a0 a1 a2
  refine a9 _ _ ?_
  refine HEND.out w3 M' c' A av' HS3.out HM3.out HK3.out (by have := HAL3.out; have := HL.out; simp only [List.length_append, List.length_singleton]; omega) _ _ _ _ _ _ _ _ _ _ _ _ _ _ _ _ _ _ _ _ _ _ _ _ _ _ _ _ _ _ _ _ _ _ _ _ _ _ _ _ _ _ _ _ _ _ _ _ _ _ _ _ _ _ _ _ _ _ _ _ _ _ _ _ _ _ _ _ _ _ _ _ _ _ _ _ _ _ _ _ _ _ _ _ _ _ _ _ _ _ _ _ _ _ _ _ _ _ _ _ _ _ _ _ _ _ _ _ _ _ _ _ _ _ _ _ _ _ _ _ _ _ _ _ _ _ _ _ _ _ _ _ _ _ _ _ _ _ _ _ _ _ _ _ _ _ (fun e w' => ∃ T A L' av' tv', e = .returned (.int .i64 (T.length : Nat)) ∧ Changed W w' base g f cv lv av tv FS FL p old T A L' av' tv') ?_
  intro w' T A1 L' av'' tv'' q1 q2 q3 q4 q5 q6 q7 q8
  refine ⟨T, [p] ++ (A ++ A1), L', av'', tv'', rfl, ?_, q2, q3, q4, q5, fun x hx => ?_, ?_, HON.out w' q8⟩
  · have e : f.asked ++ ([p] ++ (A ++ A1)) = (f.asked ++ [p]) ++ (A ++ A1) := (List.append_assoc _ _ _).symm
    rw [e]
    exact q1
  · rcases List.mem_append.1 hx with hx | hx
    · rw [List.mem_singleton.1 hx]; exact HNP.out
    · rcases List.mem_append.1 hx with hx | hx
      · exact HNC.out x (HA3.out x hx)
      · exact HNC.out x (q6 x hx)
  · have := HAL3.out
    simp only [List.length_append, List.length_singleton]
    omega
end
end Go.Proofs.Ytlhjjmfbifhgfaa
