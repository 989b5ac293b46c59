/- Joined texts of one seat, each under its own heading below. -/
import Derived.Test.YtlhjjmfbifhgfaaFM21
/- A change and the one back: plain laws. -/
namespace Go.Proofs.Ytlhjjmfbifhgfaa
set_option linter.unusedSimpArgs false
set_option linter.unusedVariables false
open Go.RowKit

def lampB (k : Int) : Bool := decide (k = 11) || decide (k = 14)
def darkB (k : Int) : Bool := (decide (0 < k) && decide (k < 9)) || decide (k = 10)
theorem dark_kind {k : Int} (h : darkB k = true) : clearK k = false ∧ k ≠ 11 ∧ k ≠ 14 := by
  have hk : k = 1 ∨ k = 2 ∨ k = 3 ∨ k = 4 ∨ k = 5 ∨ k = 6 ∨ k = 7 ∨ k = 8 ∨ k = 10 := by
    simp only [darkB, Bool.or_eq_true, Bool.and_eq_true, decide_eq_true_eq] at h
    omega
  rcases hk with rfl | rfl | rfl | rfl | rfl | rfl | rfl | rfl | rfl <;> exact ⟨by decide +kernel, by decide, by decide⟩
theorem dark_clear {k l : Int} (h : darkB k = true) : clearC k l = false ∧ lampC k l = 0 := by
  obtain ⟨h1, h2, h3⟩ := dark_kind h
  unfold clearC lampC
  rw [h1, if_neg h2, if_neg h3]
  simp
section
variable {f : Fw} {p : Pl} {c : Int × Int} {FL FS FL0 FS0 : Pl → Nat}
/-- Where a cell is clear less, no light is more. -/
theorem dim_right (ok : f.Ok) (hp : f.b.inside p) (h0 : RightOf (f.old p c) FL0 FS0) (h : RightOf f FL FS) (hd : clrAt f p = false) (hl : (lampAt f p).toNat = 0) (q : Pl) : FS q ≤ FS0 q ∧ FL q ≤ FL0 q := by
  have hc : ∀ x, clrAt f x = true → clrAt (f.old p c) x = true := fun x hx => by
    by_cases e : x = p
    · rw [e, hd] at hx; cases hx
    · rw [old_clrAt ok hp c e]; exact hx
  refine ⟨h0.sky.mono h.sky hc (fun x hx => ?_) q, h0.lamp.mono h.lamp hc (fun x hx => ?_) q⟩
  · by_cases hlt : litP f.b (clrF f) x
    · have h2 : litP (f.old p c).b (clrF (f.old p c)) x := by
        refine ⟨hlt.1, hlt.2.1, fun k hk => ?_⟩
        have hk1 : f.b.inside (upP x k) := hk
        have h3 := hlt.2.2 k hk1
        rw [show (f.old p c).b.idx (upP x k) = f.b.idx (upP x k) from rfl, old_clrF ok hp]
        split
        · rename_i e
          rw [e, clrF_at hp, show clearC (cellAt f p).1 (cellAt f p).2 = clrAt f p from rfl, hd] at h3
          cases h3
        · exact h3
      rw [skyOwn_lit hlt, skyOwn_lit h2]
      exact Nat.le_refl _
    · rw [skyOwn_not hlt]
      exact Nat.zero_le _
  · unfold lampAt at *
    rw [old_cellAt ok hp]
    by_cases e : x = p
    · rw [if_pos e, e, hl]
      exact Nat.zero_le _
    · rw [if_neg e]
      exact Nat.le_refl _
/-- Where a cell is clear more, no light is less. -/
theorem lit_right (ok : f.Ok) (hp : f.b.inside p) (h0 : RightOf (f.old p c) FL0 FS0) (h : RightOf f FL FS) (hd : clearC c.1 c.2 = false) (hl : (lampC c.1 c.2).toNat = 0) (q : Pl) : FS0 q ≤ FS q ∧ FL0 q ≤ FL q := by
  have hpo : clrAt (f.old p c) p = false := by unfold clrAt; rw [old_cellAt ok hp, if_pos rfl]; exact hd
  have hc : ∀ x, clrAt (f.old p c) x = true → clrAt f x = true := fun x hx => by
    by_cases e : x = p
    · rw [e, hpo] at hx; cases hx
    · rw [old_clrAt ok hp c e] at hx; exact hx
  refine ⟨h.sky.mono h0.sky hc (fun x hx => ?_) q, h.lamp.mono h0.lamp hc (fun x hx => ?_) q⟩
  · by_cases hlt : litP (f.old p c).b (clrF (f.old p c)) x
    · have h2 : litP f.b (clrF f) x := by
        refine ⟨hlt.1, hlt.2.1, fun k hk => ?_⟩
        have h3 := hlt.2.2 k hk
        rw [show (f.old p c).b.idx (upP x k) = f.b.idx (upP x k) from rfl, old_clrF ok hp] at h3
        split at h3
        · rw [hd] at h3; cases h3
        · exact h3
      rw [skyOwn_lit hlt, skyOwn_lit h2]
      exact Nat.le_refl _
    · rw [skyOwn_not hlt]
      exact Nat.zero_le _
  · unfold lampAt at *
    rw [old_cellAt ok hp]
    by_cases e : x = p
    · rw [if_pos e, hl]
      exact Nat.zero_le _
    · rw [if_neg e]
      exact Nat.le_refl _
end
theorem difB_comm (L0 L1 : List (Int × Int)) : difB L0 L1 = difB L1 L0 := by
  funext i
  unfold difB
  exact decide_eq_decide.2 ⟨fun h e => h e.symm, fun h e => h e.symm⟩
theorem put_right {f : Fw} (ok : f.Ok) {i : Nat} (hi : i < f.b.size) (c : Int × Int) (hc : InU c.1 ∧ InU c.2) {k : Nat} (hk : k < f.b.size) :
    (darkB c.1 = true → ((rightL (f.put i c)).getD k (0, 0)).1 ≤ ((rightL f).getD k (0, 0)).1 ∧ ((rightL (f.put i c)).getD k (0, 0)).2 ≤ ((rightL f).getD k (0, 0)).2) ∧
    (darkB (f.cells.getD i (0, 0)).1 = true → ((rightL f).getD k (0, 0)).1 ≤ ((rightL (f.put i c)).getD k (0, 0)).1 ∧ ((rightL f).getD k (0, 0)).2 ≤ ((rightL (f.put i c)).getD k (0, 0)).2) := by
  have ok1 := put_ok ok i hc
  have hin : (f.put i c).b.inside (f.b.at_ i) := f.b.at_inside hi
  have h0 := right_ahead ok hi c [] []
  have h1 := right_right (f.put i c) ok1.box ok1.cin
  have h0' : RightOf ((f.put i c).old (f.b.at_ i) (f.cells.getD i (0, 0))) (rFL f) (rFS f) := ⟨h0.lamp, h0.sky⟩
  have e0 := rightL_ix f hk
  have e1 := rightL_ix (f.put i c) (i := k) hk
  have hce : cellAt (f.put i c) (f.b.at_ i) = c := by
    unfold cellAt
    rw [if_pos hin, show (f.put i c).b.idx (f.b.at_ i) = f.b.idx (f.b.at_ i) from rfl, f.b.idx_at hi]
    show (f.cells.set i c).getD i (0, 0) = c
    have hl : i < f.cells.length := by rw [ok.cells]; exact hi
    rw [List.getD_eq_getElem?_getD, List.getElem?_set, if_pos rfl, if_pos hl]
    rfl
  rw [e0, e1]
  refine ⟨fun hd => ?_, fun hd => ?_⟩
  · obtain ⟨d1, d2⟩ := dark_clear (l := c.2) hd
    obtain ⟨h2, h3⟩ := dim_right ok1 hin h0' h1 (by unfold clrAt; rw [hce]; exact d1) (by unfold lampAt; rw [hce, d2]; rfl) (f.b.at_ k)
    exact ⟨Int.ofNat_le.2 h2, Int.ofNat_le.2 h3⟩
  · obtain ⟨d1, d2⟩ := dark_clear (l := (f.cells.getD i (0, 0)).2) hd
    obtain ⟨h2, h3⟩ := lit_right ok1 hin h0' h1 d1 (by rw [d2]; rfl) (f.b.at_ k)
    exact ⟨Int.ofNat_le.2 h2, Int.ofNat_le.2 h3⟩
end Go.Proofs.Ytlhjjmfbifhgfaa
/- Is a cell a lamp, is it dark: the walks. -/
namespace Go.Proofs.Ytlhjjmfbifhgfaa
set_option linter.unusedSimpArgs false
set_option linter.unusedVariables false
open Go.RowKit
set_option maxRecDepth 100000

set_option maxHeartbeats 4000000 in
theorem lamp_law (W : World) (k l : Int) : Calls Try.prog 14 #[.agg #[.int .u8 k, .int .u8 l]] W fun e w' => e = .returned (.bool (lampB k)) ∧ Below W.heap.size W w' := by
  have HB := Lib.hid ((Below.refl W.heap.size W).alloc (Nat.le_refl _) (.cells #[.int .u8 k, .int .u8 l] 33))
  have HV := Lib.hid (show lampB k = (decide (k = 11) || decide (k = 14)) from rfl)
  by_cases h1 : k = 11
  · have e1 : (k == 11) = true := by simpa using h1
    have HR := Lib.hid (show lampB k = true by rw [HV.out]; simp [h1])
    clear h1
    go_enter Try.func14, Try.ntmps14
    go_wp2
    go_ret
    exact ⟨by rw [HR.out]; rfl, HB.out⟩
  · have e1 : (k == 11) = false := by simpa using h1
    by_cases h2 : k = 14
    · have e2 : (k == 14) = true := by simpa using h2
      have HR := Lib.hid (show lampB k = true by rw [HV.out]; simp [h2])
      clear h1 h2
      go_enter Try.func14, Try.ntmps14
      go_wp2
      go_ret
      exact ⟨by rw [HR.out]; rfl, HB.out⟩
    · have e2 : (k == 14) = false := by simpa using h2
      have HR := Lib.hid (show lampB k = false by rw [HV.out]; simp [h1, h2])
      clear h1 h2
      go_enter Try.func14, Try.ntmps14
      go_wp2
      go_ret
      exact ⟨by rw [HR.out]; rfl, HB.out⟩
set_option maxHeartbeats 4000000 in
theorem dark_law (W : World) (k l : Int) : Calls Try.prog 15 #[.agg #[.int .u8 k, .int .u8 l]] W fun e w' => e = .returned (.bool (darkB k)) ∧ Below W.heap.size W w' := by
  have HB := Lib.hid ((Below.refl W.heap.size W).alloc (Nat.le_refl _) (.cells #[.int .u8 k, .int .u8 l] 33))
  have HV := Lib.hid (show darkB k = ((decide (0 < k) && decide (k < 9)) || decide (k = 10)) from rfl)
  by_cases h3 : k = 10
  · have HR := Lib.hid (show darkB k = true by rw [HV.out]; simp [h3])
    subst h3
    go_enter Try.func15, Try.ntmps15
    go_wp2
    go_ret
    exact ⟨by rw [HR.out]; rfl, HB.out⟩
  · have e3 : (k == 10) = false := by simpa using h3
    by_cases h1 : 0 < k
    · by_cases h2 : k < 9
      · have HR := Lib.hid (show darkB k = true by rw [HV.out]; simp [h1, h2])
        clear h3
        go_enter Try.func15, Try.ntmps15
        go_wp2
        go_ret
        exact ⟨by rw [HR.out]; rfl, HB.out⟩
      · have HR := Lib.hid (show darkB k = false by rw [HV.out]; simp [h2, h3])
        clear h3
        go_enter Try.func15, Try.ntmps15
        go_wp2
        go_ret
        exact ⟨by rw [HR.out]; rfl, HB.out⟩
    · have HR := Lib.hid (show darkB k = false by rw [HV.out]; simp [h1, h3])
      clear h3
      go_enter Try.func15, Try.ntmps15
      go_wp2
      go_ret
      exact ⟨by rw [HR.out]; rfl, HB.out⟩
end Go.Proofs.Ytlhjjmfbifhgfaa
/- A change and the one back: the end: the walk. (Printed by genback.py.) -/
namespace Go.Proofs.Ytlhjjmfbifhgfaa
set_option linter.unusedSimpArgs false
set_option linter.unusedVariables false
open Go.RowKit
set_option maxRecDepth 1000000

set_option maxHeartbeats 16000000 in
theorem back_last (W : World) (base bw g : Nat) (f : Fw) (cv lv av tv wv : Value) (h : FieldAt W base g f cv lv av tv) (ok : f.Ok) (hw : LRow W bw wv f.lights) (n : Nat)
    (u0 u1 u2 u3 u4 u7 u8 u9 u11 u12 u13 u14 u15 u17 u18 u19 u20 u21 u22 u23 u24 u25 u26 u27 u28 u29 u30 u31 u32 u33 u34 u35 u36 u37 u38 u39 u40 u41 u42 u43 u44 u45 u46 u47 u48 u49 u50 u51 u52 u53 u54 u55 u56 u57 u58 u59 u60 u61 u62 u63 u64 u65 u66 u67 u68 u69 u70 u71 u72 u73 u74 u75 u76 u77 u78 u79 u80 u81 u82 u83 u84 u85 u86 u87 u88 u89 u90 u91 u92 u93 u94 u95 u96 u97 u98 u99 u100 u101 u102 u103 u104 u105 u106 u107 u108 u109 u110 u111 u112 u113 u114 u115 u116 u117 u118 u119 u120 u121 u122 u123 u124 u125 u126 u127 u128 u129 u130 u131 u132 u133 u134 u135 u136 u137 u138 u139 u140 u141 u142 u143 u144 u145 u146 u147 u148 : Value) (R : Ending → World → Prop) (hR : ∀ w', Below W.heap.size W w' → R (.returned (.bool true)) w') :
    Code.wp Try.prog (gnav (Try.f5.body.getD .skip) [true, true, true, true, true, true, true, true, true, true]) (bodyPost Try.prog Try.f5 R) { tmps := #[u0, u1, u2, u3, u4, .pointer (some ⟨g, 0, none⟩), wv, u7, u8, u9, .int .i64 (n : Nat), u11, u12, u13, u14, u15, .int .i64 (n : Nat), u17, u18, u19, u20, u21, u22, u23, u24, u25, u26, u27, u28, u29, u30, u31, u32, u33, u34, u35, u36, u37, u38, u39, u40, u41, u42, u43, u44, u45, u46, u47, u48, u49, u50, u51, u52, u53, u54, u55, u56, u57, u58, u59, u60, u61, u62, u63, u64, u65, u66, u67, u68, u69, u70, u71, u72, u73, u74, u75, u76, u77, u78, u79, u80, u81, u82, u83, u84, u85, u86, u87, u88, u89, u90, u91, u92, u93, u94, u95, u96, u97, u98, u99, u100, u101, u102, u103, u104, u105, u106, u107, u108, u109, u110, u111, u112, u113, u114, u115, u116, u117, u118, u119, u120, u121, u122, u123, u124, u125, u126, u127, u128, u129, u130, u131, u132, u133, u134, u135, u136, u137, u138, u139, u140, u141, u142, u143, u144, u145, u146, u147, u148], defers := [] } W := by
  have HR := Lib.hid hR
  have HF := Lib.hid h
  have HOK := Lib.hid ok
  have HW := Lib.hid hw
  have HAW := Lib.hid awake_any
  have h7 : W.cell? ⟨g, 7, none⟩ = some lv := h.blk.cell 7
  obtain ⟨_, aow, capw, rfl, hcapw, _⟩ := own_rat (d := ((0, 0) : Int × Int)) clE_len hw
  obtain ⟨_, aol, capl, rfl, hcapl, _⟩ := own_rat (d := ((0, 0) : Int × Int)) clE_len h.lights
  have HGL := Lib.hid h.blk.lt
  have hsz := Bx.size_le ok.box
  obtain ⟨nr, hnr⟩ : ∃ n, n = f.lights.length := ⟨_, rfl⟩
  have hol := ok.lights
  rw [← hnr] at hol hcapw hcapl h7
  have HEQ := Lib.hid hnr
  have HC := Lib.hid h7
  have HSZ := Lib.hid (show nr ≤ 1024 by omega)
  rw [← hnr]
  clear hR h ok hw h7 hnr hsz hol
  refine (show Code.wp Try.prog (Code.seq (gnav (Try.f5.body.getD .skip) [true, true, true, true, true, true, true, true, true, true, false]) (gnav (Try.f5.body.getD .skip) [true, true, true, true, true, true, true, true, true, true, true])) _ _ _ from wp_seq_k ?_)
  intro K hK
  have HK := Lib.hid hK
  clear hK
  refine (show Code.wp Try.prog (Code.seq (Code.region 15 _ false) _) _ _ _ from ?_)
  go_wp2
  go_loopw [17] (fun s wr => ∃ m : Nat, m ≤ nr ∧ s = .int .i64 m ∧ Below W.heap.size W wr) (fun s _ => nr - (intOf s).toNat)
  case atStart => exact ⟨0, Nat.zero_le _, rfl, Below.refl _ _⟩
  case round =>
    obtain ⟨m, hm, rfl, hb⟩ := hrel
    have HB := Lib.hid hb
    by_cases hmt : m < nr
    · have hmI : (m : Int) < (nr : Int) := by omega
      have hm0 : (0 : Int) ≤ (m : Int) := by omega
      have hw2 : IntKind.i64.wrap ((m : Int) + 1) = (m : Int) + 1 := wrap_small (by omega) (by have := HSZ.out; omega)
      have hml : m < f.lights.length := by rw [← HEQ.out]; exact hmt
      have hrl := own_below HF.out.lights hb
      have hrw := own_below HW.out hb
      obtain ⟨gl, hal, -, hgl⟩ := own_form hrl (by omega)
      subst hal
      obtain ⟨gw, haw, -, hgw⟩ := own_form hrw (by omega)
      subst haw
      have hatl := own_at clE_len ((0, 0) : Int × Int) hrl hml
      have hatw := own_at clE_len ((0, 0) : Int × Int) hrw hml
      have hi1 := getD_lin HOK.out.lin m
      obtain ⟨⟨z1, z2⟩, hz⟩ : ∃ z, z = f.lights.getD m (0, 0) := ⟨_, rfl⟩
      rw [← hz] at hatl hatw hi1
      have hn1 : ∀ w, (binOp .neq 43 (.agg #[.int .u8 z1, .int .u8 z2]) (.agg #[.int .u8 z1, .int .u8 z2])).run Try.prog w = .ok (.bool false) w := fun w => by
        rw [neq_light z1 z2 z1 z2 hi1.1 hi1.2 hi1.1 hi1.2 w, decide_eq_false (fun e => e rfl)]
      have h7 : wr.cell? ⟨g, 7, none⟩ = some (.slice (some ⟨gl, 0, none⟩) nr capl) := (hb.cell HGL.out).trans HC.out
      have a0 : wr.cell? ⟨gl, m * 2, none⟩ = some (.int .u8 z1) := hatl 0 (by decide)
      have a1 : wr.cell? ⟨gl, m * 2 + 1, none⟩ = some (.int .u8 z2) := hatl 1 (by decide)
      have d0 : wr.cell? ⟨gw, m * 2, none⟩ = some (.int .u8 z1) := hatw 0 (by decide)
      have d1 : wr.cell? ⟨gw, m * 2 + 1, none⟩ = some (.int .u8 z2) := hatw 1 (by decide)
      clear hb hrl hrw hatl hatw hi1 hz hgl hgw hml
      go_wp2
      go_quiet (fail)
      go_wp2
      go_roundw
      case rel => exact ⟨m + 1, by omega, by go_num, below_drewN HB.out _⟩
      case measure => (simp [intOf] <;> omega)
    · have hmn : m = nr := by omega
      subst hmn
      clear hb hm hmt
      go_wp2
      refine HK.out _ _ ?_
      refine (show Code.wp Try.prog (Code.seq (Code.region 20 _ false) _) _ _ _ from ?_)
      go_wp2_with fail
      go_at_call 6
      refine (HAW.out wr).mono ?_
      rintro e w3 ⟨rfl, hb3⟩
      have HB3 := Lib.hid (HB.out.trans (hb3.mono HB.out.size))
      clear hb3
      go_wp2
      exact HR.out _ HB3.out
end Go.Proofs.Ytlhjjmfbifhgfaa
/- A change and the one back: the way back: the walk. (Printed by genback.py.) -/
namespace Go.Proofs.Ytlhjjmfbifhgfaa
set_option linter.unusedSimpArgs false
set_option linter.unusedVariables false
open Go.RowKit
set_option maxRecDepth 1000000

set_option maxHeartbeats 16000000 in
theorem back_mid (W : World) (base bw g b7 b8 b9 : Nat) (f0 f : Fw) (cv lv av tv wv : Value) (h : FieldAt W base g f cv lv av tv) (ok0 : f0.Ok) (hr0 : f0.lights = rightL f0) (ok : f.Ok) (i : Nat) (hi : i < f0.b.size) (c1 c2 o1 o2 : Int) (hc : InU c1 ∧ InU c2) (hfb : f.b = f0.b) (hfc : f.cells = f0.cells.set i (c1, c2)) (ho : (o1, o2) = f0.cells.getD i (0, 0)) (hfl : f.lights = rightL f)
    (hask : f.asked.length ≤ 800000000) (htol : f.told.length ≤ 800000000) (hw : LRow W bw wv f0.lights) (hbase : base ≤ W.heap.size) (p1 p2 p3 : Int) (hp : (p1, p2, p3) = f0.b.at_ i) (hb7 : Blk W b7 23 #[.int .i64 p1, .int .i64 p2, .int .i64 p3]) (hb8 : Blk W b8 33 #[.int .u8 o1, .int .u8 o2]) (hb9 : Blk W b9 33 #[.int .u8 c1, .int .u8 c2])
    (hcv : ∀ k, cv.ownBlock = some k → k ≠ b8 ∧ k ≠ b9) (hwl : ∀ k, wv.ownBlock = some k → lv.ownBlock ≠ some k) (n : Nat) (hn : n = cntN (difB f0.lights f.lights) f0.b.size)
    (u0 u1 u2 u3 u4 u11 u12 u13 u14 u15 u16 u17 u18 u19 u20 u21 u22 u23 u24 u25 u26 u27 u28 u29 u30 u31 u32 u33 u34 u35 u36 u37 u38 u39 u40 u41 u42 u43 u44 u45 u46 u47 u48 u49 u50 u51 u52 u53 u54 u55 u56 u57 u58 u59 u60 u61 u62 u63 u64 u65 u66 u67 u68 u69 u70 u71 u72 u73 u74 u75 u76 u77 u78 u79 u80 u81 u82 u83 u84 u85 u86 u87 u88 u89 u90 u91 u92 u93 u94 u95 u96 u97 u98 u99 u100 u101 u102 u103 u104 u105 u106 u107 u108 u109 u110 u111 u112 u113 u114 u115 u116 u117 u118 u119 u120 u121 u122 u123 u124 u125 u126 u127 u128 u129 u130 u131 u132 u133 u134 u135 u136 u137 u138 u139 u140 u141 u142 u143 u144 u145 u146 u147 u148 : Value) (R : Ending → World → Prop) (hR : ∀ w', Below base W w' → R (.returned (.bool true)) w') :
    Code.wp Try.prog (gnav (Try.f5.body.getD .skip) [true, true, true, true, true, true, true]) (bodyPost Try.prog Try.f5 R) { tmps := #[u0, u1, u2, u3, u4, .pointer (some ⟨g, 0, none⟩), wv, .pointer (some ⟨b7, 0, none⟩), .pointer (some ⟨b8, 0, none⟩), .pointer (some ⟨b9, 0, none⟩), .int .i64 (n : Nat), u11, u12, u13, u14, u15, u16, u17, u18, u19, u20, u21, u22, u23, u24, u25, u26, u27, u28, u29, u30, u31, u32, u33, u34, u35, u36, u37, u38, u39, u40, u41, u42, u43, u44, u45, u46, u47, u48, u49, u50, u51, u52, u53, u54, u55, u56, u57, u58, u59, u60, u61, u62, u63, u64, u65, u66, u67, u68, u69, u70, u71, u72, u73, u74, u75, u76, u77, u78, u79, u80, u81, u82, u83, u84, u85, u86, u87, u88, u89, u90, u91, u92, u93, u94, u95, u96, u97, u98, u99, u100, u101, u102, u103, u104, u105, u106, u107, u108, u109, u110, u111, u112, u113, u114, u115, u116, u117, u118, u119, u120, u121, u122, u123, u124, u125, u126, u127, u128, u129, u130, u131, u132, u133, u134, u135, u136, u137, u138, u139, u140, u141, u142, u143, u144, u145, u146, u147, u148], defers := [] } W := by
  have hin : f.b.inside (p1, p2, p3) := by rw [hfb, hp]; exact f0.b.at_inside hi
  have hix : f.b.idx (p1, p2, p3) = i := by rw [hfb, hp]; exact f0.b.idx_at hi
  have hi2 : i < f0.cells.length := by rw [ok0.cells]; exact hi
  obtain ⟨f3, hf3⟩ : ∃ f3, f3 = f.put i (o1, o2) := ⟨_, rfl⟩
  have hoi : InU o1 ∧ InU o2 := by have := getD_in ok0.cin i; rw [← ho] at this; exact this
  have hok3 : f3.Ok := by rw [hf3]; exact put_ok ok i hoi
  have hb3 : f3.b = f0.b := by rw [hf3]; exact hfb
  have hc3 : f3.cells = f0.cells := by
    rw [hf3]
    show f.cells.set i (o1, o2) = f0.cells
    rw [hfc, List.set_set, ho, List.getD_eq_getElem?_getD, List.getElem?_eq_getElem hi2]
    exact List.set_getElem_self hi2
  have hl3 : f3.lights = f.lights := by rw [hf3]; rfl
  have ha3 : f3.asked = f.asked := by rw [hf3]; rfl
  have ht3 : f3.told = f.told := by rw [hf3]; rfl
  have hr3 : rightL f3 = f0.lights := by rw [hr0]; exact rightL_congr hb3 hc3
  have hcells : (f3.old (p1, p2, p3) (c1, c2)).cells = f.cells := by
    show f3.cells.set (f3.b.idx (p1, p2, p3)) (c1, c2) = f.cells
    rw [hc3, hb3, ← hfb, hix, hfc]
  have h0R : RightOf (f3.old (p1, p2, p3) (c1, c2)) (rFL f) (rFS f) := by
    have h1 := right_right (f3.old (p1, p2, p3) (c1, c2)) hok3.box (by rw [hcells]; exact ok.cin)
    obtain ⟨e1, e2⟩ := rF_congr (f := f3.old (p1, p2, p3) (c1, c2)) (h := f) (show f3.b = f.b from by rw [hb3, hfb]) hcells
    rw [e1, e2] at h1
    exact h1
  have hlt : ∀ q, lightAt f3 q = ((rFS f q : Int), (rFL f q : Int)) := fun q => by
    have h1 := rightL_light f hfl q
    unfold lightAt at h1 ⊢
    rw [hb3, hl3, ← hfb]
    exact h1
  have HCHG := Lib.hid (fun w (hw : FieldAt w base g f3 cv lv av tv) => change_any w base g f3 cv lv av tv hw hok3 (p1, p2, p3) (by rw [hb3, ← hfb]; exact hin) (c1, c2) hc (rFL f3) (rFS f3) (rFL f) (rFS f) h0R (right_right f3 hok3.box hok3.cin) hlt (by rw [ha3]; exact hask) (by rw [ht3]; exact htol))
  have HT3 := Lib.hid (And.intro hok3 (And.intro hb3 (And.intro hl3 (And.intro hr3 hn))))
  have HIXW := Lib.hid (windex_any W g f cv lv av tv h.blk ok.box (p1, p2, p3) (Bx.inside_may ok.box hin))
  unfold indexV at HIXW
  rw [if_pos hin, hix] at HIXW
  have HR := Lib.hid hR
  have HF := Lib.hid h
  have HOK := Lib.hid (And.intro ok (And.intro ok0 (And.intro hfb hfl)))
  have HW := Lib.hid (And.intro hw hwl)
  have HBS := Lib.hid hbase
  have HBK := Lib.hid (And.intro hb7 (And.intro hb8 hb9))
  have HPUT := Lib.hid hf3
  obtain ⟨_, aoc, cl, hcv2, hcl, _⟩ := own_rat (d := ((0, 0) : Int × Int)) clE_len h.cells
  have hlc : f.cells.length = f0.b.size := by rw [ok.cells, hfb]
  rw [hlc] at hcv2 hcl
  subst hcv2
  have hrowc : W.ownsRow base 33 2 (.slice aoc f0.b.size cl) f0.b.size (rc clE f.cells) := by
    have h1 := h.cells
    rw [hlc] at h1
    exact h1
  obtain ⟨gl, haoc, hgl, hgll⟩ := own_form hrowc (by omega)
  subst haoc
  have HCV := Lib.hid (And.intro (hcv gl rfl) (And.intro hgl hgll))
  have HNN := Lib.hid (And.intro hi hlc)
  obtain ⟨sz, hsz⟩ : ∃ n, n = f0.b.size := ⟨_, rfl⟩
  have HSZ := Lib.hid hsz
  have hsl := Bx.size_le ok0.box
  rw [← hsz] at hi hsl
  have hiI : (i : Int) < (sz : Int) := by omega
  have hi0 : (0 : Int) ≤ (i : Int) := by omega
  obtain ⟨a0, a1, a2⟩ := three_cells hb7
  unfold plV plC at HIXW
  unfold plV plC clV at HCHG
  simp only at HIXW HCHG
  clear hin hix hi2 hf3 hok3 hb3 hc3 hl3 ha3 ht3 hr3 hcells h0R hlt hR h ok ok0 hfb hfl hw hwl hbase hb7 hb8 hb9 hcv hcl hlc hrowc hgl hgll hn hsz hsl hr0 hfc ho hask htol hp hc hoi
  refine (show Code.wp Try.prog (Code.seq (gnav (Try.f5.body.getD .skip) [true, true, true, true, true, true, true, false]) (gnav (Try.f5.body.getD .skip) [true, true, true, true, true, true, true, true])) _ _ _ from wp_seq_k ?_)
  intro K7 hK7
  have HK7 := Lib.hid hK7
  clear hK7
  refine (show Code.wp Try.prog (Code.region 12 _ false) _ _ _ from ?_)
  go_wp2_with fail
  go_at_call 16
  refine HIXW.out.mono ?_
  rintro e w2 ⟨rfl, hb2⟩
  have HB2 := Lib.hid hb2
  clear hb2 a0 a1 a2
  go_wp2
  refine HK7.out _ _ ?_
  refine (show Code.wp Try.prog (Code.seq (gnav (Try.f5.body.getD .skip) [true, true, true, true, true, true, true, true, false]) (gnav (Try.f5.body.getD .skip) [true, true, true, true, true, true, true, true, true])) _ _ _ from wp_seq_k ?_)
  intro K8 hK8
  have HK8 := Lib.hid hK8
  clear hK8
  have hf2 := HF.out.under HB2.out
  have hb8 := HBK.out.2.1.below HB2.out HBK.out.2.1.lt
  have d6 : w2.cell? ⟨g, 6, none⟩ = some (.slice (some ⟨gl, 0, none⟩) sz cl) := by rw [HSZ.out]; exact hf2.blk.cell 6
  have z0 := own_free hf2.cells (i * 2)
  have z1 := own_free hf2.cells (i * 2 + 1)
  have hat := own_at clE_len ((0, 0) : Int × Int) (show w2.ownsRow base 33 2 (.slice (some ⟨gl, 0, none⟩) f0.b.size cl) f.cells.length (rc clE f.cells) from hf2.cells) (i := i) (by rw [HNN.out.2]; exact HNN.out.1)
  have e0 : w2.cell? ⟨gl, i * 2, none⟩ = some (.int .u8 (f.cells.getD i (0, 0)).1) := hat 0 (by decide)
  have e1 : w2.cell? ⟨gl, i * 2 + 1, none⟩ = some (.int .u8 (f.cells.getD i (0, 0)).2) := hat 1 (by decide)
  obtain ⟨x0, x1⟩ := two_cells hb8
  have hnb : gl ≠ b8 := HCV.out.1.1
  have hng : gl ≠ g := fun e => own_blk_ne hf2.cells hf2.blk (by decide) (e ▸ rfl)
  have hd := cells_set hf2 HNN.out.2.symm i ((o1, o2) : Int × Int)
  rw [← HPUT.out] at hd
  have HD := Lib.hid hd
  clear hf2 hb8 hat hd
  refine (show Code.wp Try.prog (Code.region 13 _ true) _ _ _ from ?_)
  go_region_held (fun w' => w'.cell? ⟨g, 6, none⟩ = some (.slice (some ⟨gl, 0, none⟩) sz cl) ∧ w'.cell? ⟨b8, 0, none⟩ = some (.int .u8 o1) ∧ w'.cell? ⟨b8, 1, none⟩ = some (.int .u8 o2)) (simp [*, World.cell?_setCell_far]) (fail)
  clear d6 z0 z1 e0 e1 x0 x1 hnb hng
  have ho3 : Only W ((w2.setCell ⟨gl, i * 2, none⟩ (.int .u8 o1)).setCell ⟨gl, i * 2 + 1, none⟩ (.int .u8 o2)).drew (fun k => k = gl) := (((Only.of_below (S := fun k => k = gl) HB2.out).setCell (p := ⟨gl, i * 2, none⟩) (.inl rfl) _).setCell (p := ⟨gl, i * 2 + 1, none⟩) (.inl rfl) _).drew
  have HO3 := Lib.hid ho3
  have HF3 := Lib.hid (show FieldAt ((w2.setCell ⟨gl, i * 2, none⟩ (.int .u8 o1)).setCell ⟨gl, i * 2 + 1, none⟩ (.int .u8 o2)).drew base g f3 (.slice (some ⟨gl, 0, none⟩) f0.b.size cl) lv av tv from HD.out.under (Below.refl _ _).drew)
  have HP3 := Lib.hid (HBK.out.1.only ho3 (fun e => own_blk_ne HF.out.cells HBK.out.1 (by decide) (e ▸ rfl)))
  have HC3 := Lib.hid (HBK.out.2.2.only ho3 (fun e => HCV.out.1.2 e.symm))
  have HW3 := Lib.hid (own_only HW.out.1 ho3 (fun k hk e => own_own_ne HF.out.cells HW.out.1 (by decide) rfl (e ▸ hk)))
  clear ho3 HD
  generalize ((w2.setCell ⟨gl, i * 2, none⟩ (.int .u8 o1)).setCell ⟨gl, i * 2 + 1, none⟩ (.int .u8 o2)).drew = W3 at HO3 HF3 HP3 HC3 HW3 ⊢
  refine HK8.out _ _ ?_
  refine (show Code.wp Try.prog (Code.seq (gnav (Try.f5.body.getD .skip) [true, true, true, true, true, true, true, true, true, false]) (gnav (Try.f5.body.getD .skip) [true, true, true, true, true, true, true, true, true, true])) _ _ _ from wp_seq_k ?_)
  intro K9 hK9
  have HK9 := Lib.hid hK9
  clear hK9
  obtain ⟨a0, a1, a2⟩ := three_cells HP3.out
  obtain ⟨y0, y1⟩ := two_cells HC3.out
  have HCHW := Lib.hid (HCHG.out W3 HF3.out)
  refine (show Code.wp Try.prog (Code.region 14 _ false) _ _ _ from ?_)
  go_wp2_with fail
  go_at_call 11
  refine HCHW.out.mono ?_
  rintro e W4 ⟨T, A, L', av', tv', rfl, hch⟩
  have hL : L' = f0.lights := by rw [← HT3.out.2.2.2.1]; exact lights_eq (by rw [hch.len, HT3.out.1.lights]) hch.lights
  have hTn : T.length = n := by
    have h := told_count (b := f0.b) (g := difB f.lights f0.lights) (asc_nodup hch.asc) (fun q => by
      rw [hch.mem q, HT3.out.2.1]
      refine and_congr_right fun hq => ?_
      have h := chg_dif (f := f3) (q := q) (by rw [HT3.out.2.1]; exact hq)
      rw [h, HT3.out.2.2.1, HT3.out.2.2.2.1, HT3.out.2.1])
    rw [h, HT3.out.2.2.2.2, difB_comm]
  have HF4 := Lib.hid hch.fld
  have HW4 := Lib.hid (show LRow W4 bw wv f0.lights from own_only HW3.out hch.only (fun k hk hs => by
    rcases hs with (e | e) | e | e
    · exact own_blk_ne HW3.out HF3.out.blk (by decide) (e ▸ hk)
    · exact own_own_ne HW3.out HF3.out.asked (by decide) hk e.symm
    · exact own_own_ne HW3.out HF3.out.told (by decide) hk e.symm
    · exact HW.out.2 k hk e.symm))
  have HB4 := Lib.hid (show Below base W W4 from ((HO3.out.mono (S' := fun k => base ≤ k) (fun k e => by have := HCV.out.2.1; omega)).trans hch.only (fun k hs => by
    rcases hs with (e | e) | e | e
    · exact .inl (by have := HF.out.low; omega)
    · exact .inl (HF.out.asked.lt k e.symm).1
    · exact .inl (HF.out.told.lt k e.symm).1
    · exact .inl (HF.out.lights.lt k e.symm).1)).below (fun k h => h) HBS.out)
  obtain ⟨f4, hf4⟩ : ∃ f4 : Fw, f4 = { f3 with asked := f3.asked ++ A, told := f3.told ++ T, lights := L' } := ⟨_, rfl⟩
  have hok4 : f4.Ok := by
    rw [hf4, hL]
    exact ⟨HT3.out.1.box, HT3.out.1.cells, by show f0.lights.length = f3.b.size; rw [HOK.out.2.1.lights, HT3.out.2.1], HT3.out.1.cin, HOK.out.2.1.lin⟩
  have hl4 : f4.lights = f0.lights := by rw [hf4]; exact hL
  have HNEXT := Lib.hid (back_last W4 base bw g f4 _ lv av' tv' wv (by rw [hf4]; exact HF4.out) hok4 (by rw [hl4]; exact HW4.out) n)
  have HTN := Lib.hid hTn
  clear hch hL hTn hf4 hok4 hl4 a0 a1 a2 y0 y1
  go_wp2
  refine HK9.out _ _ ?_
  rw [HTN.out]
  exact HNEXT.out _ _ _ _ _ _ _ _ _ _ _ _ _ _ _ _ _ _ _ _ _ _ _ _ _ _ _ _ _ _ _ _ _ _ _ _ _ _ _ _ _ _ _ _ _ _ _ _ _ _ _ _ _ _ _ _ _ _ _ _ _ _ _ _ _ _ _ _ _ _ _ _ _ _ _ _ _ _ _ _ _ _ _ _ _ _ _ _ _ _ _ _ _ _ _ _ _ _ _ _ _ _ _ _ _ _ _ _ _ _ _ _ _ _ _ _ _ _ _ _ _ _ _ _ _ _ _ _ _ _ _ _ _ _ _ _ _ _ _ _ _ _ _ _ _ R (fun w' hb => HR.out _ (HB4.out.trans (hb.mono (Nat.le_trans HBS.out HB4.out.size))))
end Go.Proofs.Ytlhjjmfbifhgfaa
/- A change and the one back: what becomes opaque makes none brighter, what becomes clear none darker: the walk. (Printed by genback.py.) -/
namespace Go.Proofs.Ytlhjjmfbifhgfaa
set_option linter.unusedSimpArgs false
set_option linter.unusedVariables false
open Go.RowKit
set_option maxRecDepth 1000000

set_option maxHeartbeats 32000000 in
theorem back_loop (W : World) (base bw g b7 b8 b9 : Nat) (f0 f : Fw) (cv lv av tv wv : Value) (h : FieldAt W base g f cv lv av tv) (ok0 : f0.Ok) (hr0 : f0.lights = rightL f0) (ok : f.Ok) (i : Nat) (hi : i < f0.b.size) (c1 c2 o1 o2 : Int) (hc : InU c1 ∧ InU c2) (hfb : f.b = f0.b) (hfc : f.cells = f0.cells.set i (c1, c2)) (ho : (o1, o2) = f0.cells.getD i (0, 0)) (hfl : f.lights = rightL f)
    (hask : f.asked.length ≤ 800000000) (htol : f.told.length ≤ 800000000) (hw : LRow W bw wv f0.lights) (hbase : base ≤ W.heap.size) (p1 p2 p3 : Int) (hp : (p1, p2, p3) = f0.b.at_ i) (hb7 : Blk W b7 23 #[.int .i64 p1, .int .i64 p2, .int .i64 p3]) (hb8 : Blk W b8 33 #[.int .u8 o1, .int .u8 o2]) (hb9 : Blk W b9 33 #[.int .u8 c1, .int .u8 c2])
    (hcv : ∀ k, cv.ownBlock = some k → k ≠ b8 ∧ k ≠ b9) (hwl : ∀ k, wv.ownBlock = some k → lv.ownBlock ≠ some k) (n : Nat) (hn : n = cntN (difB f0.lights f.lights) f0.b.size)
    (u0 u1 u2 u3 u4 u11 u12 u13 u14 u15 u16 u17 u18 u19 u20 u21 u22 u23 u24 u25 u26 u27 u28 u29 u30 u31 u32 u33 u34 u35 u36 u37 u38 u39 u40 u41 u42 u43 u44 u45 u46 u47 u48 u49 u50 u51 u52 u53 u54 u55 u56 u57 u58 u59 u60 u61 u62 u63 u64 u65 u66 u67 u68 u69 u70 u71 u72 u73 u74 u75 u76 u77 u78 u79 u80 u81 u82 u83 u84 u85 u86 u87 u88 u89 u90 u91 u92 u93 u94 u95 u96 u97 u98 u99 u100 u101 u102 u103 u104 u105 u106 u107 u108 u109 u110 u111 u112 u113 u114 u115 u116 u117 u118 u119 u120 u121 u122 u123 u124 u125 u126 u127 u128 u129 u130 u131 u132 u133 u134 u135 u136 u137 u138 u139 u140 u141 u142 u143 u144 u145 u146 u147 u148 : Value) (R : Ending → World → Prop) (hR : ∀ w', Below base W w' → R (.returned (.bool true)) w') :
    Code.wp Try.prog (gnav (Try.f5.body.getD .skip) [true, true, true, true, true, true]) (bodyPost Try.prog Try.f5 R) { tmps := #[u0, u1, u2, u3, u4, .pointer (some ⟨g, 0, none⟩), wv, .pointer (some ⟨b7, 0, none⟩), .pointer (some ⟨b8, 0, none⟩), .pointer (some ⟨b9, 0, none⟩), .int .i64 (n : Nat), u11, u12, u13, u14, u15, u16, u17, u18, u19, u20, u21, u22, u23, u24, u25, u26, u27, u28, u29, u30, u31, u32, u33, u34, u35, u36, u37, u38, u39, u40, u41, u42, u43, u44, u45, u46, u47, u48, u49, u50, u51, u52, u53, u54, u55, u56, u57, u58, u59, u60, u61, u62, u63, u64, u65, u66, u67, u68, u69, u70, u71, u72, u73, u74, u75, u76, u77, u78, u79, u80, u81, u82, u83, u84, u85, u86, u87, u88, u89, u90, u91, u92, u93, u94, u95, u96, u97, u98, u99, u100, u101, u102, u103, u104, u105, u106, u107, u108, u109, u110, u111, u112, u113, u114, u115, u116, u117, u118, u119, u120, u121, u122, u123, u124, u125, u126, u127, u128, u129, u130, u131, u132, u133, u134, u135, u136, u137, u138, u139, u140, u141, u142, u143, u144, u145, u146, u147, u148], defers := [] } W := by
  have hfp : rightL f = rightL (f0.put i (c1, c2)) := rightL_congr (by rw [hfb]; rfl) (by rw [hfc]; rfl)
  have HPR := Lib.hid (fun k (hk : k < f0.b.size) => put_right ok0 hi (c1, c2) hc hk)
  rw [← hfp, ← hfl, ← hr0, ← ho] at HPR
  simp only at HPR
  have HNEXT := Lib.hid (fun w (hb : Below W.heap.size W w) => back_mid w base bw g b7 b8 b9 f0 f cv lv av tv wv (h.under hb) ok0 hr0 ok i hi c1 c2 o1 o2 hc hfb hfc ho hfl hask htol (own_below hw hb) (Nat.le_trans hbase hb.size) p1 p2 p3 hp (hb7.below hb hb7.lt) (hb8.below hb hb8.lt) (hb9.below hb hb9.lt) hcv hwl n hn)
  have HR := Lib.hid (show ∀ w, Below W.heap.size W w → ∀ w', Below base w w' → R (.returned (.bool true)) w' from fun w hb w' hb' => hR w' ((hb.mono hbase).trans hb'))
  have HF := Lib.hid h
  have HOK := Lib.hid (And.intro ok (And.intro ok0 hfb))
  have HW := Lib.hid hw
  have HBK := Lib.hid (And.intro hb8 hb9)
  have HLO := Lib.hid (fun w => lamp_law w o1 o2)
  have HLN := Lib.hid (fun w => lamp_law w c1 c2)
  have HDO := Lib.hid (fun w => dark_law w o1 o2)
  have HDN := Lib.hid (fun w => dark_law w c1 c2)
  have h7 : W.cell? ⟨g, 7, none⟩ = some lv := h.blk.cell 7
  obtain ⟨_, aow, capw, rfl, hcapw, _⟩ := own_rat (d := ((0, 0) : Int × Int)) clE_len hw
  obtain ⟨_, aol, capl, rfl, hcapl, _⟩ := own_rat (d := ((0, 0) : Int × Int)) clE_len h.lights
  have HGL := Lib.hid h.blk.lt
  have hsz := Bx.size_le ok0.box
  obtain ⟨nw, hnw⟩ : ∃ n, n = f0.lights.length := ⟨_, rfl⟩
  obtain ⟨nl, hnl⟩ : ∃ n, n = f.lights.length := ⟨_, rfl⟩
  have hol := ok.lights
  have hol0 := ok0.lights
  rw [← hnw] at hol0 hcapw
  rw [← hnl] at hol hcapl h7
  rw [hfb] at hol
  have HEQ := Lib.hid (And.intro hnw (And.intro hnl (And.intro hol0 hol)))
  have HC := Lib.hid h7
  have HSZ := Lib.hid hsz
  rw [← hnw]
  clear hR h ok ok0 hw h7 hnw hnl hsz hol hol0 hfp hr0 hc hfb hfc ho hfl hask htol hbase hp hb7 hb8 hb9 hcv hwl hn hi
  refine (show Code.wp Try.prog (Code.seq (gnav (Try.f5.body.getD .skip) [true, true, true, true, true, true, false]) (gnav (Try.f5.body.getD .skip) [true, true, true, true, true, true, true])) _ _ _ from wp_seq_k ?_)
  intro K hK
  have HK := Lib.hid hK
  clear hK
  refine (show Code.wp Try.prog (Code.seq (Code.region 6 _ false) _) _ _ _ from ?_)
  go_wp2
  go_loopw [11] (fun s wr => ∃ m : Nat, m ≤ nw ∧ s = .int .i64 m ∧ Below W.heap.size W wr) (fun s _ => nw - (intOf s).toNat)
  case atStart => exact ⟨0, Nat.zero_le _, rfl, Below.refl _ _⟩
  case round =>
    obtain ⟨m, hm, rfl, hb⟩ := hrel
    have HB := Lib.hid hb
    by_cases hmt : m < nw
    · have hmI : (m : Int) < (nw : Int) := by omega
      have hmL : (m : Int) < (nl : Int) := by have := HEQ.out; omega
      have hm0 : (0 : Int) ≤ (m : Int) := by omega
      have hw2 : IntKind.i64.wrap ((m : Int) + 1) = (m : Int) + 1 := wrap_small (by omega) (by have := HSZ.out; have := HEQ.out; omega)
      have hmw : m < f0.lights.length := by rw [← HEQ.out.1]; exact hmt
      have hml : m < f.lights.length := by rw [← HEQ.out.2.1]; have := HEQ.out; omega
      have hrl := own_below HF.out.lights hb
      have hrw := own_below HW.out hb
      obtain ⟨gl, hal, -, hgl⟩ := own_form hrl (by omega)
      subst hal
      obtain ⟨gw, haw, -, hgw⟩ := own_form hrw (by omega)
      subst haw
      have hatl := own_at clE_len ((0, 0) : Int × Int) hrl hml
      have hatw := own_at clE_len ((0, 0) : Int × Int) hrw hmw
      have hpr := HPR.out m (by rw [← HEQ.out.2.2.1]; exact hmt)
      obtain ⟨⟨z1, z2⟩, hz⟩ : ∃ z, z = f0.lights.getD m (0, 0) := ⟨_, rfl⟩
      obtain ⟨⟨y1, y2⟩, hy⟩ : ∃ y, y = f.lights.getD m (0, 0) := ⟨_, rfl⟩
      rw [← hz] at hatw hpr
      rw [← hy] at hatl hpr
      simp only at hpr
      have HPM := Lib.hid hpr
      have h7 : wr.cell? ⟨g, 7, none⟩ = some (.slice (some ⟨gl, 0, none⟩) nl capl) := (hb.cell HGL.out).trans HC.out
      have a0 : wr.cell? ⟨gl, m * 2, none⟩ = some (.int .u8 y1) := hatl 0 (by decide)
      have a1 : wr.cell? ⟨gl, m * 2 + 1, none⟩ = some (.int .u8 y2) := hatl 1 (by decide)
      have d0 : wr.cell? ⟨gw, m * 2, none⟩ = some (.int .u8 z1) := hatw 0 (by decide)
      have d1 : wr.cell? ⟨gw, m * 2 + 1, none⟩ = some (.int .u8 z2) := hatw 1 (by decide)
      have hn0 := World.new_ne wr ⟨g, 7, none⟩ h7
      have hn1 := World.new_ne wr ⟨gl, m * 2, none⟩ a0
      have hn2 := World.new_ne wr ⟨gw, m * 2, none⟩ d0
      clear hb hrl hrw hatl hatw hz hy hgl hgw hml hmw hpr
      go_wp2
      go_region_held (fun w' => w'.cell? ⟨g, 7, none⟩ = some (.slice (some ⟨gl, 0, none⟩) nl capl) ∧ w'.cell? ⟨gl, m * 2, none⟩ = some (.int .u8 y1) ∧ w'.cell? ⟨gl, m * 2 + 1, none⟩ = some (.int .u8 y2) ∧ w'.cell? ⟨gw, m * 2, none⟩ = some (.int .u8 z1) ∧ w'.cell? ⟨gw, m * 2 + 1, none⟩ = some (.int .u8 z2)) (go_keep) (fail)
      · obtain ⟨W5, hW5e⟩ : ∃ W5, W5 = ((wr.alloc (.cells #[.int .u8 z1, .int .u8 z2] 43)).alloc (.cells #[.int .u8 y1, .int .u8 y2] 43)).drew := ⟨_, rfl⟩
        have s5 : (wr.alloc (.cells #[.int .u8 z1, .int .u8 z2] 43)).heap.size = wr.heap.size + 1 := by simp
        have hW5 : Below wr.heap.size wr W5 := by rw [hW5e]; exact (((Below.refl _ _).alloc (Nat.le_refl _) _).alloc (by simp) _).drew
        have hX : Blk W5 wr.heap.size 43 #[.int .u8 z1, .int .u8 z2] := by rw [hW5e]; exact ((Blk.new _ _ _).alloc _).drew
        have hY : Blk W5 (wr.heap.size + 1) 43 #[.int .u8 y1, .int .u8 y2] := by rw [hW5e, ← s5]; exact (Blk.new _ _ _).drew
        rw [← hW5e]
        obtain ⟨bx, hbx⟩ : ∃ b, b = wr.heap.size := ⟨_, rfl⟩
        obtain ⟨by_, hby⟩ : ∃ b, b = wr.heap.size + 1 := ⟨_, rfl⟩
        rw [← hby] at hY ⊢
        rw [← hbx] at hX ⊢
        clear s5 hW5e hbx hby h7 a0 a1 d0 d1 hn0 hn1 hn2
        have HB5 := Lib.hid (Below.refl W5.heap.size W5)
        have HCH := Lib.hid (show ∀ w, Below W5.heap.size W5 w → Below W.heap.size W w from fun w hb => HB.out.trans ((hW5.trans (hb.mono hW5.size)).mono HB.out.size))
        have CC := Lib.hid (show ∀ w, Below W5.heap.size W5 w → (w.cell? ⟨b8, 0, none⟩ = some (.int .u8 o1) ∧ w.cell? ⟨b8, 1, none⟩ = some (.int .u8 o2)) ∧ (w.cell? ⟨b9, 0, none⟩ = some (.int .u8 c1) ∧ w.cell? ⟨b9, 1, none⟩ = some (.int .u8 c2)) ∧ (w.cell? ⟨bx, 0, none⟩ = some (.int .u8 z1) ∧ w.cell? ⟨bx, 1, none⟩ = some (.int .u8 z2)) ∧ (w.cell? ⟨by_, 0, none⟩ = some (.int .u8 y1) ∧ w.cell? ⟨by_, 1, none⟩ = some (.int .u8 y2)) from fun w hb => by
          have h8 := HBK.out.1.below (HCH.out w hb) HBK.out.1.lt
          have h9 := HBK.out.2.below (HCH.out w hb) HBK.out.2.lt
          have hx := hX.below hb hX.lt
          have hy := hY.below hb hY.lt
          exact ⟨two_cells h8, two_cells h9, two_cells hx, two_cells hy⟩)
        obtain ⟨⟨q0, q1⟩, ⟨q2, q3⟩, ⟨q4, q5⟩, ⟨q6, q7⟩⟩ := CC.out _ HB5.out
        clear hW5 hX hY
        rcases Bool.eq_false_or_eq_true (lampB o1) with hlo | hlo
        · rw [hlo] at HLO
          clear hlo
          go_wp2_with fail
          go_at_call 14
          refine (HLO.out _).mono ?_
          rintro e wc0 ⟨rfl, hb0⟩
          have HC0 := Lib.hid (HB5.out.trans (hb0.mono HB5.out.size))
          clear q0 q1 q2 q3 q4 q5 q6 q7 hb0
          obtain ⟨⟨q0, q1⟩, ⟨q2, q3⟩, ⟨q4, q5⟩, ⟨q6, q7⟩⟩ := CC.out _ HC0.out
          go_wp2_with fail
          go_at_call 14
          refine (HLO.out _).mono ?_
          rintro e wc1 ⟨rfl, hb1⟩
          have HC1 := Lib.hid (HC0.out.trans (hb1.mono HC0.out.size))
          clear q0 q1 q2 q3 q4 q5 q6 q7 hb1
          obtain ⟨⟨q0, q1⟩, ⟨q2, q3⟩, ⟨q4, q5⟩, ⟨q6, q7⟩⟩ := CC.out _ HC1.out
          have HLAST := HC1
          go_wp2
          go_roundw
          case rel => exact ⟨m + 1, by omega, by go_num, HCH.out _ HLAST.out⟩
          case measure => (simp [intOf] <;> omega)
        · rw [hlo] at HLO
          clear hlo
          rcases Bool.eq_false_or_eq_true (darkB o1) with hdo | hdo
          · obtain ⟨hB1, hB2⟩ := HPM.out.2 hdo
            rw [hdo] at HDO
            have hC1 : ¬ y1 < z1 := by omega
            have hC2 : ¬ y2 < z2 := by omega
            clear hdo hB1 hB2
            rcases Bool.eq_false_or_eq_true (lampB c1) with hln | hln
            · rw [hln] at HLN
              clear hln
              go_wp2_with fail
              go_at_call 14
              refine (HLO.out _).mono ?_
              rintro e wc0 ⟨rfl, hb0⟩
              have HC0 := Lib.hid (HB5.out.trans (hb0.mono HB5.out.size))
              clear q0 q1 q2 q3 q4 q5 q6 q7 hb0
              obtain ⟨⟨q0, q1⟩, ⟨q2, q3⟩, ⟨q4, q5⟩, ⟨q6, q7⟩⟩ := CC.out _ HC0.out
              go_wp2_with fail
              go_at_call 14
              refine (HLN.out _).mono ?_
              rintro e wc1 ⟨rfl, hb1⟩
              have HC1 := Lib.hid (HC0.out.trans (hb1.mono HC0.out.size))
              clear q0 q1 q2 q3 q4 q5 q6 q7 hb1
              obtain ⟨⟨q0, q1⟩, ⟨q2, q3⟩, ⟨q4, q5⟩, ⟨q6, q7⟩⟩ := CC.out _ HC1.out
              go_wp2_with fail
              go_at_call 14
              refine (HLO.out _).mono ?_
              rintro e wc2 ⟨rfl, hb2⟩
              have HC2 := Lib.hid (HC1.out.trans (hb2.mono HC1.out.size))
              clear q0 q1 q2 q3 q4 q5 q6 q7 hb2
              obtain ⟨⟨q0, q1⟩, ⟨q2, q3⟩, ⟨q4, q5⟩, ⟨q6, q7⟩⟩ := CC.out _ HC2.out
              go_wp2_with fail
              go_at_call 15
              refine (HDO.out _).mono ?_
              rintro e wc3 ⟨rfl, hb3⟩
              have HC3 := Lib.hid (HC2.out.trans (hb3.mono HC2.out.size))
              clear q0 q1 q2 q3 q4 q5 q6 q7 hb3
              obtain ⟨⟨q0, q1⟩, ⟨q2, q3⟩, ⟨q4, q5⟩, ⟨q6, q7⟩⟩ := CC.out _ HC3.out
              have HLAST := HC3
              go_wp2
              go_roundw
              case rel => exact ⟨m + 1, by omega, by go_num, HCH.out _ HLAST.out⟩
              case measure => (simp [intOf] <;> omega)
            · rw [hln] at HLN
              clear hln
              rcases Bool.eq_false_or_eq_true (darkB c1) with hdn | hdn
              · obtain ⟨hA1, hA2⟩ := HPM.out.1 hdn
                rw [hdn] at HDN
                have hE1 : ¬ z1 < y1 := by omega
                have hE2 : ¬ z2 < y2 := by omega
                clear hdn hA1 hA2
                go_wp2_with fail
                go_at_call 14
                refine (HLO.out _).mono ?_
                rintro e wc0 ⟨rfl, hb0⟩
                have HC0 := Lib.hid (HB5.out.trans (hb0.mono HB5.out.size))
                clear q0 q1 q2 q3 q4 q5 q6 q7 hb0
                obtain ⟨⟨q0, q1⟩, ⟨q2, q3⟩, ⟨q4, q5⟩, ⟨q6, q7⟩⟩ := CC.out _ HC0.out
                go_wp2_with fail
                go_at_call 14
                refine (HLN.out _).mono ?_
                rintro e wc1 ⟨rfl, hb1⟩
                have HC1 := Lib.hid (HC0.out.trans (hb1.mono HC0.out.size))
                clear q0 q1 q2 q3 q4 q5 q6 q7 hb1
                obtain ⟨⟨q0, q1⟩, ⟨q2, q3⟩, ⟨q4, q5⟩, ⟨q6, q7⟩⟩ := CC.out _ HC1.out
                go_wp2_with fail
                go_at_call 15
                refine (HDN.out _).mono ?_
                rintro e wc2 ⟨rfl, hb2⟩
                have HC2 := Lib.hid (HC1.out.trans (hb2.mono HC1.out.size))
                clear q0 q1 q2 q3 q4 q5 q6 q7 hb2
                obtain ⟨⟨q0, q1⟩, ⟨q2, q3⟩, ⟨q4, q5⟩, ⟨q6, q7⟩⟩ := CC.out _ HC2.out
                go_wp2_with fail
                go_at_call 14
                refine (HLO.out _).mono ?_
                rintro e wc3 ⟨rfl, hb3⟩
                have HC3 := Lib.hid (HC2.out.trans (hb3.mono HC2.out.size))
                clear q0 q1 q2 q3 q4 q5 q6 q7 hb3
                obtain ⟨⟨q0, q1⟩, ⟨q2, q3⟩, ⟨q4, q5⟩, ⟨q6, q7⟩⟩ := CC.out _ HC3.out
                go_wp2_with fail
                go_at_call 15
                refine (HDO.out _).mono ?_
                rintro e wc4 ⟨rfl, hb4⟩
                have HC4 := Lib.hid (HC3.out.trans (hb4.mono HC3.out.size))
                clear q0 q1 q2 q3 q4 q5 q6 q7 hb4
                obtain ⟨⟨q0, q1⟩, ⟨q2, q3⟩, ⟨q4, q5⟩, ⟨q6, q7⟩⟩ := CC.out _ HC4.out
                have HLAST := HC4
                go_wp2
                go_roundw
                case rel => exact ⟨m + 1, by omega, by go_num, HCH.out _ HLAST.out⟩
                case measure => (simp [intOf] <;> omega)
              · rw [hdn] at HDN
                clear hdn
                go_wp2_with fail
                go_at_call 14
                refine (HLO.out _).mono ?_
                rintro e wc0 ⟨rfl, hb0⟩
                have HC0 := Lib.hid (HB5.out.trans (hb0.mono HB5.out.size))
                clear q0 q1 q2 q3 q4 q5 q6 q7 hb0
                obtain ⟨⟨q0, q1⟩, ⟨q2, q3⟩, ⟨q4, q5⟩, ⟨q6, q7⟩⟩ := CC.out _ HC0.out
                go_wp2_with fail
                go_at_call 14
                refine (HLN.out _).mono ?_
                rintro e wc1 ⟨rfl, hb1⟩
                have HC1 := Lib.hid (HC0.out.trans (hb1.mono HC0.out.size))
                clear q0 q1 q2 q3 q4 q5 q6 q7 hb1
                obtain ⟨⟨q0, q1⟩, ⟨q2, q3⟩, ⟨q4, q5⟩, ⟨q6, q7⟩⟩ := CC.out _ HC1.out
                go_wp2_with fail
                go_at_call 15
                refine (HDN.out _).mono ?_
                rintro e wc2 ⟨rfl, hb2⟩
                have HC2 := Lib.hid (HC1.out.trans (hb2.mono HC1.out.size))
                clear q0 q1 q2 q3 q4 q5 q6 q7 hb2
                obtain ⟨⟨q0, q1⟩, ⟨q2, q3⟩, ⟨q4, q5⟩, ⟨q6, q7⟩⟩ := CC.out _ HC2.out
                go_wp2_with fail
                go_at_call 14
                refine (HLO.out _).mono ?_
                rintro e wc3 ⟨rfl, hb3⟩
                have HC3 := Lib.hid (HC2.out.trans (hb3.mono HC2.out.size))
                clear q0 q1 q2 q3 q4 q5 q6 q7 hb3
                obtain ⟨⟨q0, q1⟩, ⟨q2, q3⟩, ⟨q4, q5⟩, ⟨q6, q7⟩⟩ := CC.out _ HC3.out
                go_wp2_with fail
                go_at_call 15
                refine (HDO.out _).mono ?_
                rintro e wc4 ⟨rfl, hb4⟩
                have HC4 := Lib.hid (HC3.out.trans (hb4.mono HC3.out.size))
                clear q0 q1 q2 q3 q4 q5 q6 q7 hb4
                obtain ⟨⟨q0, q1⟩, ⟨q2, q3⟩, ⟨q4, q5⟩, ⟨q6, q7⟩⟩ := CC.out _ HC4.out
                have HLAST := HC4
                go_wp2
                go_roundw
                case rel => exact ⟨m + 1, by omega, by go_num, HCH.out _ HLAST.out⟩
                case measure => (simp [intOf] <;> omega)
          · rw [hdo] at HDO
            clear hdo
            rcases Bool.eq_false_or_eq_true (lampB c1) with hln | hln
            · rw [hln] at HLN
              clear hln
              go_wp2_with fail
              go_at_call 14
              refine (HLO.out _).mono ?_
              rintro e wc0 ⟨rfl, hb0⟩
              have HC0 := Lib.hid (HB5.out.trans (hb0.mono HB5.out.size))
              clear q0 q1 q2 q3 q4 q5 q6 q7 hb0
              obtain ⟨⟨q0, q1⟩, ⟨q2, q3⟩, ⟨q4, q5⟩, ⟨q6, q7⟩⟩ := CC.out _ HC0.out
              go_wp2_with fail
              go_at_call 14
              refine (HLN.out _).mono ?_
              rintro e wc1 ⟨rfl, hb1⟩
              have HC1 := Lib.hid (HC0.out.trans (hb1.mono HC0.out.size))
              clear q0 q1 q2 q3 q4 q5 q6 q7 hb1
              obtain ⟨⟨q0, q1⟩, ⟨q2, q3⟩, ⟨q4, q5⟩, ⟨q6, q7⟩⟩ := CC.out _ HC1.out
              go_wp2_with fail
              go_at_call 14
              refine (HLO.out _).mono ?_
              rintro e wc2 ⟨rfl, hb2⟩
              have HC2 := Lib.hid (HC1.out.trans (hb2.mono HC1.out.size))
              clear q0 q1 q2 q3 q4 q5 q6 q7 hb2
              obtain ⟨⟨q0, q1⟩, ⟨q2, q3⟩, ⟨q4, q5⟩, ⟨q6, q7⟩⟩ := CC.out _ HC2.out
              go_wp2_with fail
              go_at_call 15
              refine (HDO.out _).mono ?_
              rintro e wc3 ⟨rfl, hb3⟩
              have HC3 := Lib.hid (HC2.out.trans (hb3.mono HC2.out.size))
              clear q0 q1 q2 q3 q4 q5 q6 q7 hb3
              obtain ⟨⟨q0, q1⟩, ⟨q2, q3⟩, ⟨q4, q5⟩, ⟨q6, q7⟩⟩ := CC.out _ HC3.out
              have HLAST := HC3
              go_wp2
              go_roundw
              case rel => exact ⟨m + 1, by omega, by go_num, HCH.out _ HLAST.out⟩
              case measure => (simp [intOf] <;> omega)
            · rw [hln] at HLN
              clear hln
              rcases Bool.eq_false_or_eq_true (darkB c1) with hdn | hdn
              · obtain ⟨hA1, hA2⟩ := HPM.out.1 hdn
                rw [hdn] at HDN
                have hE1 : ¬ z1 < y1 := by omega
                have hE2 : ¬ z2 < y2 := by omega
                clear hdn hA1 hA2
                go_wp2_with fail
                go_at_call 14
                refine (HLO.out _).mono ?_
                rintro e wc0 ⟨rfl, hb0⟩
                have HC0 := Lib.hid (HB5.out.trans (hb0.mono HB5.out.size))
                clear q0 q1 q2 q3 q4 q5 q6 q7 hb0
                obtain ⟨⟨q0, q1⟩, ⟨q2, q3⟩, ⟨q4, q5⟩, ⟨q6, q7⟩⟩ := CC.out _ HC0.out
                go_wp2_with fail
                go_at_call 14
                refine (HLN.out _).mono ?_
                rintro e wc1 ⟨rfl, hb1⟩
                have HC1 := Lib.hid (HC0.out.trans (hb1.mono HC0.out.size))
                clear q0 q1 q2 q3 q4 q5 q6 q7 hb1
                obtain ⟨⟨q0, q1⟩, ⟨q2, q3⟩, ⟨q4, q5⟩, ⟨q6, q7⟩⟩ := CC.out _ HC1.out
                go_wp2_with fail
                go_at_call 15
                refine (HDN.out _).mono ?_
                rintro e wc2 ⟨rfl, hb2⟩
                have HC2 := Lib.hid (HC1.out.trans (hb2.mono HC1.out.size))
                clear q0 q1 q2 q3 q4 q5 q6 q7 hb2
                obtain ⟨⟨q0, q1⟩, ⟨q2, q3⟩, ⟨q4, q5⟩, ⟨q6, q7⟩⟩ := CC.out _ HC2.out
                go_wp2_with fail
                go_at_call 14
                refine (HLO.out _).mono ?_
                rintro e wc3 ⟨rfl, hb3⟩
                have HC3 := Lib.hid (HC2.out.trans (hb3.mono HC2.out.size))
                clear q0 q1 q2 q3 q4 q5 q6 q7 hb3
                obtain ⟨⟨q0, q1⟩, ⟨q2, q3⟩, ⟨q4, q5⟩, ⟨q6, q7⟩⟩ := CC.out _ HC3.out
                go_wp2_with fail
                go_at_call 15
                refine (HDO.out _).mono ?_
                rintro e wc4 ⟨rfl, hb4⟩
                have HC4 := Lib.hid (HC3.out.trans (hb4.mono HC3.out.size))
                clear q0 q1 q2 q3 q4 q5 q6 q7 hb4
                obtain ⟨⟨q0, q1⟩, ⟨q2, q3⟩, ⟨q4, q5⟩, ⟨q6, q7⟩⟩ := CC.out _ HC4.out
                have HLAST := HC4
                go_wp2
                go_roundw
                case rel => exact ⟨m + 1, by omega, by go_num, HCH.out _ HLAST.out⟩
                case measure => (simp [intOf] <;> omega)
              · rw [hdn] at HDN
                clear hdn
                go_wp2_with fail
                go_at_call 14
                refine (HLO.out _).mono ?_
                rintro e wc0 ⟨rfl, hb0⟩
                have HC0 := Lib.hid (HB5.out.trans (hb0.mono HB5.out.size))
                clear q0 q1 q2 q3 q4 q5 q6 q7 hb0
                obtain ⟨⟨q0, q1⟩, ⟨q2, q3⟩, ⟨q4, q5⟩, ⟨q6, q7⟩⟩ := CC.out _ HC0.out
                go_wp2_with fail
                go_at_call 14
                refine (HLN.out _).mono ?_
                rintro e wc1 ⟨rfl, hb1⟩
                have HC1 := Lib.hid (HC0.out.trans (hb1.mono HC0.out.size))
                clear q0 q1 q2 q3 q4 q5 q6 q7 hb1
                obtain ⟨⟨q0, q1⟩, ⟨q2, q3⟩, ⟨q4, q5⟩, ⟨q6, q7⟩⟩ := CC.out _ HC1.out
                go_wp2_with fail
                go_at_call 15
                refine (HDN.out _).mono ?_
                rintro e wc2 ⟨rfl, hb2⟩
                have HC2 := Lib.hid (HC1.out.trans (hb2.mono HC1.out.size))
                clear q0 q1 q2 q3 q4 q5 q6 q7 hb2
                obtain ⟨⟨q0, q1⟩, ⟨q2, q3⟩, ⟨q4, q5⟩, ⟨q6, q7⟩⟩ := CC.out _ HC2.out
                go_wp2_with fail
                go_at_call 14
                refine (HLO.out _).mono ?_
                rintro e wc3 ⟨rfl, hb3⟩
                have HC3 := Lib.hid (HC2.out.trans (hb3.mono HC2.out.size))
                clear q0 q1 q2 q3 q4 q5 q6 q7 hb3
                obtain ⟨⟨q0, q1⟩, ⟨q2, q3⟩, ⟨q4, q5⟩, ⟨q6, q7⟩⟩ := CC.out _ HC3.out
                go_wp2_with fail
                go_at_call 15
                refine (HDO.out _).mono ?_
                rintro e wc4 ⟨rfl, hb4⟩
                have HC4 := Lib.hid (HC3.out.trans (hb4.mono HC3.out.size))
                clear q0 q1 q2 q3 q4 q5 q6 q7 hb4
                obtain ⟨⟨q0, q1⟩, ⟨q2, q3⟩, ⟨q4, q5⟩, ⟨q6, q7⟩⟩ := CC.out _ HC4.out
                have HLAST := HC4
                go_wp2
                go_roundw
                case rel => exact ⟨m + 1, by omega, by go_num, HCH.out _ HLAST.out⟩
                case measure => (simp [intOf] <;> omega)
      · obtain ⟨W5, hW5e⟩ : ∃ W5, W5 = ((wr.alloc (.cells #[.int .u8 y1, .int .u8 y2] 43)).alloc (.cells #[.int .u8 z1, .int .u8 z2] 43)).drew := ⟨_, rfl⟩
        have s5 : (wr.alloc (.cells #[.int .u8 y1, .int .u8 y2] 43)).heap.size = wr.heap.size + 1 := by simp
        have hW5 : Below wr.heap.size wr W5 := by rw [hW5e]; exact (((Below.refl _ _).alloc (Nat.le_refl _) _).alloc (by simp) _).drew
        have hY : Blk W5 wr.heap.size 43 #[.int .u8 y1, .int .u8 y2] := by rw [hW5e]; exact ((Blk.new _ _ _).alloc _).drew
        have hX : Blk W5 (wr.heap.size + 1) 43 #[.int .u8 z1, .int .u8 z2] := by rw [hW5e, ← s5]; exact (Blk.new _ _ _).drew
        rw [← hW5e]
        obtain ⟨bx, hbx⟩ : ∃ b, b = wr.heap.size + 1 := ⟨_, rfl⟩
        obtain ⟨by_, hby⟩ : ∃ b, b = wr.heap.size := ⟨_, rfl⟩
        rw [← hbx] at hX ⊢
        rw [← hby] at hY ⊢
        clear s5 hW5e hbx hby h7 a0 a1 d0 d1 hn0 hn1 hn2
        have HB5 := Lib.hid (Below.refl W5.heap.size W5)
        have HCH := Lib.hid (show ∀ w, Below W5.heap.size W5 w → Below W.heap.size W w from fun w hb => HB.out.trans ((hW5.trans (hb.mono hW5.size)).mono HB.out.size))
        have CC := Lib.hid (show ∀ w, Below W5.heap.size W5 w → (w.cell? ⟨b8, 0, none⟩ = some (.int .u8 o1) ∧ w.cell? ⟨b8, 1, none⟩ = some (.int .u8 o2)) ∧ (w.cell? ⟨b9, 0, none⟩ = some (.int .u8 c1) ∧ w.cell? ⟨b9, 1, none⟩ = some (.int .u8 c2)) ∧ (w.cell? ⟨bx, 0, none⟩ = some (.int .u8 z1) ∧ w.cell? ⟨bx, 1, none⟩ = some (.int .u8 z2)) ∧ (w.cell? ⟨by_, 0, none⟩ = some (.int .u8 y1) ∧ w.cell? ⟨by_, 1, none⟩ = some (.int .u8 y2)) from fun w hb => by
          have h8 := HBK.out.1.below (HCH.out w hb) HBK.out.1.lt
          have h9 := HBK.out.2.below (HCH.out w hb) HBK.out.2.lt
          have hx := hX.below hb hX.lt
          have hy := hY.below hb hY.lt
          exact ⟨two_cells h8, two_cells h9, two_cells hx, two_cells hy⟩)
        obtain ⟨⟨q0, q1⟩, ⟨q2, q3⟩, ⟨q4, q5⟩, ⟨q6, q7⟩⟩ := CC.out _ HB5.out
        clear hW5 hX hY
        rcases Bool.eq_false_or_eq_true (lampB o1) with hlo | hlo
        · rw [hlo] at HLO
          clear hlo
          go_wp2_with fail
          go_at_call 14
          refine (HLO.out _).mono ?_
          rintro e wc0 ⟨rfl, hb0⟩
          have HC0 := Lib.hid (HB5.out.trans (hb0.mono HB5.out.size))
          clear q0 q1 q2 q3 q4 q5 q6 q7 hb0
          obtain ⟨⟨q0, q1⟩, ⟨q2, q3⟩, ⟨q4, q5⟩, ⟨q6, q7⟩⟩ := CC.out _ HC0.out
          go_wp2_with fail
          go_at_call 14
          refine (HLO.out _).mono ?_
          rintro e wc1 ⟨rfl, hb1⟩
          have HC1 := Lib.hid (HC0.out.trans (hb1.mono HC0.out.size))
          clear q0 q1 q2 q3 q4 q5 q6 q7 hb1
          obtain ⟨⟨q0, q1⟩, ⟨q2, q3⟩, ⟨q4, q5⟩, ⟨q6, q7⟩⟩ := CC.out _ HC1.out
          have HLAST := HC1
          go_wp2
          go_roundw
          case rel => exact ⟨m + 1, by omega, by go_num, HCH.out _ HLAST.out⟩
          case measure => (simp [intOf] <;> omega)
        · rw [hlo] at HLO
          clear hlo
          rcases Bool.eq_false_or_eq_true (darkB o1) with hdo | hdo
          · obtain ⟨hB1, hB2⟩ := HPM.out.2 hdo
            rw [hdo] at HDO
            have hC1 : ¬ y1 < z1 := by omega
            have hC2 : ¬ y2 < z2 := by omega
            clear hdo hB1 hB2
            rcases Bool.eq_false_or_eq_true (lampB c1) with hln | hln
            · rw [hln] at HLN
              clear hln
              go_wp2_with fail
              go_at_call 14
              refine (HLO.out _).mono ?_
              rintro e wc0 ⟨rfl, hb0⟩
              have HC0 := Lib.hid (HB5.out.trans (hb0.mono HB5.out.size))
              clear q0 q1 q2 q3 q4 q5 q6 q7 hb0
              obtain ⟨⟨q0, q1⟩, ⟨q2, q3⟩, ⟨q4, q5⟩, ⟨q6, q7⟩⟩ := CC.out _ HC0.out
              go_wp2_with fail
              go_at_call 14
              refine (HLN.out _).mono ?_
              rintro e wc1 ⟨rfl, hb1⟩
              have HC1 := Lib.hid (HC0.out.trans (hb1.mono HC0.out.size))
              clear q0 q1 q2 q3 q4 q5 q6 q7 hb1
              obtain ⟨⟨q0, q1⟩, ⟨q2, q3⟩, ⟨q4, q5⟩, ⟨q6, q7⟩⟩ := CC.out _ HC1.out
              go_wp2_with fail
              go_at_call 14
              refine (HLO.out _).mono ?_
              rintro e wc2 ⟨rfl, hb2⟩
              have HC2 := Lib.hid (HC1.out.trans (hb2.mono HC1.out.size))
              clear q0 q1 q2 q3 q4 q5 q6 q7 hb2
              obtain ⟨⟨q0, q1⟩, ⟨q2, q3⟩, ⟨q4, q5⟩, ⟨q6, q7⟩⟩ := CC.out _ HC2.out
              go_wp2_with fail
              go_at_call 15
              refine (HDO.out _).mono ?_
              rintro e wc3 ⟨rfl, hb3⟩
              have HC3 := Lib.hid (HC2.out.trans (hb3.mono HC2.out.size))
              clear q0 q1 q2 q3 q4 q5 q6 q7 hb3
              obtain ⟨⟨q0, q1⟩, ⟨q2, q3⟩, ⟨q4, q5⟩, ⟨q6, q7⟩⟩ := CC.out _ HC3.out
              have HLAST := HC3
              go_wp2
              go_roundw
              case rel => exact ⟨m + 1, by omega, by go_num, HCH.out _ HLAST.out⟩
              case measure => (simp [intOf] <;> omega)
            · rw [hln] at HLN
              clear hln
              rcases Bool.eq_false_or_eq_true (darkB c1) with hdn | hdn
              · obtain ⟨hA1, hA2⟩ := HPM.out.1 hdn
                rw [hdn] at HDN
                have hE1 : ¬ z1 < y1 := by omega
                have hE2 : ¬ z2 < y2 := by omega
                clear hdn hA1 hA2
                go_wp2_with fail
                go_at_call 14
                refine (HLO.out _).mono ?_
                rintro e wc0 ⟨rfl, hb0⟩
                have HC0 := Lib.hid (HB5.out.trans (hb0.mono HB5.out.size))
                clear q0 q1 q2 q3 q4 q5 q6 q7 hb0
                obtain ⟨⟨q0, q1⟩, ⟨q2, q3⟩, ⟨q4, q5⟩, ⟨q6, q7⟩⟩ := CC.out _ HC0.out
                go_wp2_with fail
                go_at_call 14
                refine (HLN.out _).mono ?_
                rintro e wc1 ⟨rfl, hb1⟩
                have HC1 := Lib.hid (HC0.out.trans (hb1.mono HC0.out.size))
                clear q0 q1 q2 q3 q4 q5 q6 q7 hb1
                obtain ⟨⟨q0, q1⟩, ⟨q2, q3⟩, ⟨q4, q5⟩, ⟨q6, q7⟩⟩ := CC.out _ HC1.out
                go_wp2_with fail
                go_at_call 15
                refine (HDN.out _).mono ?_
                rintro e wc2 ⟨rfl, hb2⟩
                have HC2 := Lib.hid (HC1.out.trans (hb2.mono HC1.out.size))
                clear q0 q1 q2 q3 q4 q5 q6 q7 hb2
                obtain ⟨⟨q0, q1⟩, ⟨q2, q3⟩, ⟨q4, q5⟩, ⟨q6, q7⟩⟩ := CC.out _ HC2.out
                go_wp2_with fail
                go_at_call 14
                refine (HLO.out _).mono ?_
                rintro e wc3 ⟨rfl, hb3⟩
                have HC3 := Lib.hid (HC2.out.trans (hb3.mono HC2.out.size))
                clear q0 q1 q2 q3 q4 q5 q6 q7 hb3
                obtain ⟨⟨q0, q1⟩, ⟨q2, q3⟩, ⟨q4, q5⟩, ⟨q6, q7⟩⟩ := CC.out _ HC3.out
                go_wp2_with fail
                go_at_call 15
                refine (HDO.out _).mono ?_
                rintro e wc4 ⟨rfl, hb4⟩
                have HC4 := Lib.hid (HC3.out.trans (hb4.mono HC3.out.size))
                clear q0 q1 q2 q3 q4 q5 q6 q7 hb4
                obtain ⟨⟨q0, q1⟩, ⟨q2, q3⟩, ⟨q4, q5⟩, ⟨q6, q7⟩⟩ := CC.out _ HC4.out
                have HLAST := HC4
                go_wp2
                go_roundw
                case rel => exact ⟨m + 1, by omega, by go_num, HCH.out _ HLAST.out⟩
                case measure => (simp [intOf] <;> omega)
              · rw [hdn] at HDN
                clear hdn
                go_wp2_with fail
                go_at_call 14
                refine (HLO.out _).mono ?_
                rintro e wc0 ⟨rfl, hb0⟩
                have HC0 := Lib.hid (HB5.out.trans (hb0.mono HB5.out.size))
                clear q0 q1 q2 q3 q4 q5 q6 q7 hb0
                obtain ⟨⟨q0, q1⟩, ⟨q2, q3⟩, ⟨q4, q5⟩, ⟨q6, q7⟩⟩ := CC.out _ HC0.out
                go_wp2_with fail
                go_at_call 14
                refine (HLN.out _).mono ?_
                rintro e wc1 ⟨rfl, hb1⟩
                have HC1 := Lib.hid (HC0.out.trans (hb1.mono HC0.out.size))
                clear q0 q1 q2 q3 q4 q5 q6 q7 hb1
                obtain ⟨⟨q0, q1⟩, ⟨q2, q3⟩, ⟨q4, q5⟩, ⟨q6, q7⟩⟩ := CC.out _ HC1.out
                go_wp2_with fail
                go_at_call 15
                refine (HDN.out _).mono ?_
                rintro e wc2 ⟨rfl, hb2⟩
                have HC2 := Lib.hid (HC1.out.trans (hb2.mono HC1.out.size))
                clear q0 q1 q2 q3 q4 q5 q6 q7 hb2
                obtain ⟨⟨q0, q1⟩, ⟨q2, q3⟩, ⟨q4, q5⟩, ⟨q6, q7⟩⟩ := CC.out _ HC2.out
                go_wp2_with fail
                go_at_call 14
                refine (HLO.out _).mono ?_
                rintro e wc3 ⟨rfl, hb3⟩
                have HC3 := Lib.hid (HC2.out.trans (hb3.mono HC2.out.size))
                clear q0 q1 q2 q3 q4 q5 q6 q7 hb3
                obtain ⟨⟨q0, q1⟩, ⟨q2, q3⟩, ⟨q4, q5⟩, ⟨q6, q7⟩⟩ := CC.out _ HC3.out
                go_wp2_with fail
                go_at_call 15
                refine (HDO.out _).mono ?_
                rintro e wc4 ⟨rfl, hb4⟩
                have HC4 := Lib.hid (HC3.out.trans (hb4.mono HC3.out.size))
                clear q0 q1 q2 q3 q4 q5 q6 q7 hb4
                obtain ⟨⟨q0, q1⟩, ⟨q2, q3⟩, ⟨q4, q5⟩, ⟨q6, q7⟩⟩ := CC.out _ HC4.out
                have HLAST := HC4
                go_wp2
                go_roundw
                case rel => exact ⟨m + 1, by omega, by go_num, HCH.out _ HLAST.out⟩
                case measure => (simp [intOf] <;> omega)
          · rw [hdo] at HDO
            clear hdo
            rcases Bool.eq_false_or_eq_true (lampB c1) with hln | hln
            · rw [hln] at HLN
              clear hln
              go_wp2_with fail
              go_at_call 14
              refine (HLO.out _).mono ?_
              rintro e wc0 ⟨rfl, hb0⟩
              have HC0 := Lib.hid (HB5.out.trans (hb0.mono HB5.out.size))
              clear q0 q1 q2 q3 q4 q5 q6 q7 hb0
              obtain ⟨⟨q0, q1⟩, ⟨q2, q3⟩, ⟨q4, q5⟩, ⟨q6, q7⟩⟩ := CC.out _ HC0.out
              go_wp2_with fail
              go_at_call 14
              refine (HLN.out _).mono ?_
              rintro e wc1 ⟨rfl, hb1⟩
              have HC1 := Lib.hid (HC0.out.trans (hb1.mono HC0.out.size))
              clear q0 q1 q2 q3 q4 q5 q6 q7 hb1
              obtain ⟨⟨q0, q1⟩, ⟨q2, q3⟩, ⟨q4, q5⟩, ⟨q6, q7⟩⟩ := CC.out _ HC1.out
              go_wp2_with fail
              go_at_call 14
              refine (HLO.out _).mono ?_
              rintro e wc2 ⟨rfl, hb2⟩
              have HC2 := Lib.hid (HC1.out.trans (hb2.mono HC1.out.size))
              clear q0 q1 q2 q3 q4 q5 q6 q7 hb2
              obtain ⟨⟨q0, q1⟩, ⟨q2, q3⟩, ⟨q4, q5⟩, ⟨q6, q7⟩⟩ := CC.out _ HC2.out
              go_wp2_with fail
              go_at_call 15
              refine (HDO.out _).mono ?_
              rintro e wc3 ⟨rfl, hb3⟩
              have HC3 := Lib.hid (HC2.out.trans (hb3.mono HC2.out.size))
              clear q0 q1 q2 q3 q4 q5 q6 q7 hb3
              obtain ⟨⟨q0, q1⟩, ⟨q2, q3⟩, ⟨q4, q5⟩, ⟨q6, q7⟩⟩ := CC.out _ HC3.out
              have HLAST := HC3
              go_wp2
              go_roundw
              case rel => exact ⟨m + 1, by omega, by go_num, HCH.out _ HLAST.out⟩
              case measure => (simp [intOf] <;> omega)
            · rw [hln] at HLN
              clear hln
              rcases Bool.eq_false_or_eq_true (darkB c1) with hdn | hdn
              · obtain ⟨hA1, hA2⟩ := HPM.out.1 hdn
                rw [hdn] at HDN
                have hE1 : ¬ z1 < y1 := by omega
                have hE2 : ¬ z2 < y2 := by omega
                clear hdn hA1 hA2
                go_wp2_with fail
                go_at_call 14
                refine (HLO.out _).mono ?_
                rintro e wc0 ⟨rfl, hb0⟩
                have HC0 := Lib.hid (HB5.out.trans (hb0.mono HB5.out.size))
                clear q0 q1 q2 q3 q4 q5 q6 q7 hb0
                obtain ⟨⟨q0, q1⟩, ⟨q2, q3⟩, ⟨q4, q5⟩, ⟨q6, q7⟩⟩ := CC.out _ HC0.out
                go_wp2_with fail
                go_at_call 14
                refine (HLN.out _).mono ?_
                rintro e wc1 ⟨rfl, hb1⟩
                have HC1 := Lib.hid (HC0.out.trans (hb1.mono HC0.out.size))
                clear q0 q1 q2 q3 q4 q5 q6 q7 hb1
                obtain ⟨⟨q0, q1⟩, ⟨q2, q3⟩, ⟨q4, q5⟩, ⟨q6, q7⟩⟩ := CC.out _ HC1.out
                go_wp2_with fail
                go_at_call 15
                refine (HDN.out _).mono ?_
                rintro e wc2 ⟨rfl, hb2⟩
                have HC2 := Lib.hid (HC1.out.trans (hb2.mono HC1.out.size))
                clear q0 q1 q2 q3 q4 q5 q6 q7 hb2
                obtain ⟨⟨q0, q1⟩, ⟨q2, q3⟩, ⟨q4, q5⟩, ⟨q6, q7⟩⟩ := CC.out _ HC2.out
                go_wp2_with fail
                go_at_call 14
                refine (HLO.out _).mono ?_
                rintro e wc3 ⟨rfl, hb3⟩
                have HC3 := Lib.hid (HC2.out.trans (hb3.mono HC2.out.size))
                clear q0 q1 q2 q3 q4 q5 q6 q7 hb3
                obtain ⟨⟨q0, q1⟩, ⟨q2, q3⟩, ⟨q4, q5⟩, ⟨q6, q7⟩⟩ := CC.out _ HC3.out
                go_wp2_with fail
                go_at_call 15
                refine (HDO.out _).mono ?_
                rintro e wc4 ⟨rfl, hb4⟩
                have HC4 := Lib.hid (HC3.out.trans (hb4.mono HC3.out.size))
                clear q0 q1 q2 q3 q4 q5 q6 q7 hb4
                obtain ⟨⟨q0, q1⟩, ⟨q2, q3⟩, ⟨q4, q5⟩, ⟨q6, q7⟩⟩ := CC.out _ HC4.out
                have HLAST := HC4
                go_wp2
                go_roundw
                case rel => exact ⟨m + 1, by omega, by go_num, HCH.out _ HLAST.out⟩
                case measure => (simp [intOf] <;> omega)
              · rw [hdn] at HDN
                clear hdn
                go_wp2_with fail
                go_at_call 14
                refine (HLO.out _).mono ?_
                rintro e wc0 ⟨rfl, hb0⟩
                have HC0 := Lib.hid (HB5.out.trans (hb0.mono HB5.out.size))
                clear q0 q1 q2 q3 q4 q5 q6 q7 hb0
                obtain ⟨⟨q0, q1⟩, ⟨q2, q3⟩, ⟨q4, q5⟩, ⟨q6, q7⟩⟩ := CC.out _ HC0.out
                go_wp2_with fail
                go_at_call 14
                refine (HLN.out _).mono ?_
                rintro e wc1 ⟨rfl, hb1⟩
                have HC1 := Lib.hid (HC0.out.trans (hb1.mono HC0.out.size))
                clear q0 q1 q2 q3 q4 q5 q6 q7 hb1
                obtain ⟨⟨q0, q1⟩, ⟨q2, q3⟩, ⟨q4, q5⟩, ⟨q6, q7⟩⟩ := CC.out _ HC1.out
                go_wp2_with fail
                go_at_call 15
                refine (HDN.out _).mono ?_
                rintro e wc2 ⟨rfl, hb2⟩
                have HC2 := Lib.hid (HC1.out.trans (hb2.mono HC1.out.size))
                clear q0 q1 q2 q3 q4 q5 q6 q7 hb2
                obtain ⟨⟨q0, q1⟩, ⟨q2, q3⟩, ⟨q4, q5⟩, ⟨q6, q7⟩⟩ := CC.out _ HC2.out
                go_wp2_with fail
                go_at_call 14
                refine (HLO.out _).mono ?_
                rintro e wc3 ⟨rfl, hb3⟩
                have HC3 := Lib.hid (HC2.out.trans (hb3.mono HC2.out.size))
                clear q0 q1 q2 q3 q4 q5 q6 q7 hb3
                obtain ⟨⟨q0, q1⟩, ⟨q2, q3⟩, ⟨q4, q5⟩, ⟨q6, q7⟩⟩ := CC.out _ HC3.out
                go_wp2_with fail
                go_at_call 15
                refine (HDO.out _).mono ?_
                rintro e wc4 ⟨rfl, hb4⟩
                have HC4 := Lib.hid (HC3.out.trans (hb4.mono HC3.out.size))
                clear q0 q1 q2 q3 q4 q5 q6 q7 hb4
                obtain ⟨⟨q0, q1⟩, ⟨q2, q3⟩, ⟨q4, q5⟩, ⟨q6, q7⟩⟩ := CC.out _ HC4.out
                have HLAST := HC4
                go_wp2
                go_roundw
                case rel => exact ⟨m + 1, by omega, by go_num, HCH.out _ HLAST.out⟩
                case measure => (simp [intOf] <;> omega)
    · have hmn : m = nw := by omega
      subst hmn
      clear hb hm hmt
      go_wp2
      refine HK.out _ _ ?_
      rw [HEQ.out.1]
      exact HNEXT.out wr HB.out _ _ _ _ _ _ _ _ _ _ _ _ _ _ _ _ _ _ _ _ _ _ _ _ _ _ _ _ _ _ _ _ _ _ _ _ _ _ _ _ _ _ _ _ _ _ _ _ _ _ _ _ _ _ _ _ _ _ _ _ _ _ _ _ _ _ _ _ _ _ _ _ _ _ _ _ _ _ _ _ _ _ _ _ _ _ _ _ _ _ _ _ _ _ _ _ _ _ _ _ _ _ _ _ _ _ _ _ _ _ _ _ _ _ _ _ _ _ _ _ _ _ _ _ _ _ _ _ _ _ _ _ _ _ _ _ _ _ _ _ _ _ _ R (HR.out wr HB.out)
end Go.Proofs.Ytlhjjmfbifhgfaa
/- A change and the one back: the walk of the law. (Printed by genback.py.) -/
namespace Go.Proofs.Ytlhjjmfbifhgfaa
set_option linter.unusedSimpArgs false
set_option linter.unusedVariables false
open Go.RowKit
set_option maxRecDepth 1000000

set_option maxHeartbeats 16000000 in
theorem back_walk (W : World) (a : Pl) (x y z : Int) (v : Value) (cl : List (Int × Int)) (hv : RAt clE 2 ((0, 0) : Int × Int) W v cl) (hin : ∀ c ∈ cl, InU c.1 ∧ InU c.2) (hlen : cl.length ≤ maxLen) (n : Int) (c : Int × Int) (hc : InU c.1 ∧ InU c.2) :
    Calls Try.prog 5 #[.agg #[.int .i64 a.1, .int .i64 a.2.1, .int .i64 a.2.2, .int .i64 x, .int .i64 y, .int .i64 z, v], .agg #[.int .i64 n, .int .u8 c.1, .int .u8 c.2]] W fun e w' => e = .returned (.bool true) ∧ Below W.heap.size W w' := by
  obtain ⟨W1, hW1⟩ : ∃ W1, W1 = (W.alloc (.cells #[.int .i64 a.1, .int .i64 a.2.1, .int .i64 a.2.2, .int .i64 x, .int .i64 y, .int .i64 z, v] 26)).alloc (.cells #[.int .i64 n, .int .u8 c.1, .int .u8 c.2] 35) := ⟨_, rfl⟩
  have s0 : (W.alloc (.cells #[.int .i64 a.1, .int .i64 a.2.1, .int .i64 a.2.2, .int .i64 x, .int .i64 y, .int .i64 z, v] 26)).heap.size = W.heap.size + 1 := by simp
  have hB1 : Below W.heap.size W W1 := by rw [hW1]; exact ((Below.refl _ _).alloc (Nat.le_refl _) _).alloc (by simp) _
  have hbh : Blk W1 W.heap.size 26 #[.int .i64 a.1, .int .i64 a.2.1, .int .i64 a.2.2, .int .i64 x, .int .i64 y, .int .i64 z, v] := by rw [hW1]; exact (Blk.new _ _ _).alloc _
  have hbe : Blk W1 (W.heap.size + 1) 35 #[.int .i64 n, .int .u8 c.1, .int .u8 c.2] := by rw [hW1, ← s0]; exact Blk.new _ _ _
  have HH := Lib.hid (hole_any W1 a x y z v cl (hv.below hB1) hin hlen)
  obtain ⟨f0, hf0⟩ : ∃ f0, f0 = madeF a x y z cl := ⟨_, rfl⟩
  have hok0 : f0.Ok := by rw [hf0]; exact madeF_ok a x y z cl hin
  have hr0 : f0.lights = rightL f0 := by rw [hf0]; exact madeF_right a x y z cl
  have hat0 : f0.asked = [] ∧ f0.told = [] := by rw [hf0]; exact ⟨rfl, rfl⟩
  rw [← hf0] at HH
  have hpos : 0 < f0.b.size := by unfold Bx.size; exact Nat.mul_pos (Nat.mul_pos hok0.box.x1 hok0.box.y1) hok0.box.z1
  obtain ⟨i, hi⟩ : ∃ i, i = edIx n f0.b.size := ⟨_, rfl⟩
  have hil : i < f0.b.size := by rw [hi]; exact edIx_lt hpos
  obtain ⟨⟨d1, d2⟩, hd⟩ : ∃ ce, ce = edC c := ⟨_, rfl⟩
  have hdi : InU d1 ∧ InU d2 := by have := edC_in hc; rw [← hd] at this; exact this
  have HED := Lib.hid (fun w g cv lv (hw : FieldAt w W.heap.size g f0 cv lv nilS nilS) => edited_any w W.heap.size g f0 cv lv nilS nilS hw hok0 n c hc)
  rw [← hi, ← hd] at HED
  obtain ⟨f1, hf1⟩ : ∃ f1, f1 = f0.put i (d1, d2) := ⟨_, rfl⟩
  have hok1 : f1.Ok := by rw [hf1]; exact put_ok hok0 i hdi
  have hb1 : f1.b = f0.b := by rw [hf1]; rfl
  have hl1 : f1.lights = f0.lights := by rw [hf1]; rfl
  have hc1 : f1.cells = f0.cells.set i (d1, d2) := by rw [hf1]; rfl
  have hat1 : f1.asked = [] ∧ f1.told = [] := by rw [hf1]; exact hat0
  have HRA := Lib.hid (fun aa tt => right_ahead hok0 hil (d1, d2) aa tt)
  rw [← hf1] at HED HRA
  have hinp : f1.b.inside (f0.b.at_ i) := by rw [hb1]; exact f0.b.at_inside hil
  have hcell : cellAt f1 (f0.b.at_ i) = (d1, d2) := by
    unfold cellAt
    rw [if_pos hinp, hb1, f0.b.idx_at hil, hc1]
    have hl : i < f0.cells.length := by rw [hok0.cells]; exact hil
    rw [List.getD_eq_getElem?_getD, List.getElem?_set, if_pos rfl, if_pos hl]
    rfl
  have HOI := Lib.hid (show InU (f0.cells.getD i (0, 0)).1 ∧ InU (f0.cells.getD i (0, 0)).2 from getD_in hok0.cin i)
  have HOK := Lib.hid (And.intro hok0 (And.intro hr0 (And.intro hat0 (And.intro hok1 (And.intro hb1 (And.intro hl1 (And.intro hc1 (And.intro hat1 (And.intro hcell (And.intro hinp (And.intro hil hdi)))))))))))
  obtain ⟨a1, a2, a3⟩ := a
  obtain ⟨c1, c2⟩ := c
  simp only at hbh hbe HH hW1 HED ⊢
  have HB1 := Lib.hid (And.intro hB1 hbe)
  have HW1 := Lib.hid hW1
  have g0 : W1.cell? ⟨W.heap.size, 0, none⟩ = some (.int .i64 a1) := hbh.cell 0
  have g1 : W1.cell? ⟨W.heap.size, 1, none⟩ = some (.int .i64 a2) := hbh.cell 1
  have g2 : W1.cell? ⟨W.heap.size, 2, none⟩ = some (.int .i64 a3) := hbh.cell 2
  have g3 : W1.cell? ⟨W.heap.size, 3, none⟩ = some (.int .i64 x) := hbh.cell 3
  have g4 : W1.cell? ⟨W.heap.size, 4, none⟩ = some (.int .i64 y) := hbh.cell 4
  have g5 : W1.cell? ⟨W.heap.size, 5, none⟩ = some (.int .i64 z) := hbh.cell 5
  have g6 : W1.cell? ⟨W.heap.size, 6, none⟩ = some v := hbh.cell 6
  rw [hW1] at g0 g1 g2 g3 g4 g5 g6
  clear hv hin hlen hc s0 hB1 hbh hbe hf0 hok0 hr0 hat0 hpos hi hil hd hdi hf1 hok1 hb1 hl1 hc1 hat1 hcell hinp hW1
  go_enter Try.func5, Try.ntmps5
  go_wp2_with fail
  rw [← HW1.out]
  go_at_call 7
  refine HH.out.mono ?_
  rintro e w2 ⟨g, cv, lv, rfl, hf2, hb2⟩
  have hf2 : FieldAt w2 W.heap.size g f0 cv lv nilS nilS := ⟨hf2.blk, own_base hf2.cells HB1.out.1.size, own_base hf2.lights HB1.out.1.size, own_base hf2.asked HB1.out.1.size, own_base hf2.told HB1.out.1.size, Nat.le_trans HB1.out.1.size hf2.low, hf2.apart⟩
  have HB2 := Lib.hid (And.intro (HB1.out.1.trans (hb2.mono HB1.out.1.size)) (HB1.out.2.below hb2 HB1.out.2.lt))
  obtain ⟨_, aol, capl, hlv, hcapl, -⟩ := own_rat (d := ((0, 0) : Int × Int)) clE_len hf2.lights
  obtain ⟨hrat, -⟩ := own_rat (d := ((0, 0) : Int × Int)) clE_len hf2.lights
  subst hlv
  have HF2 := Lib.hid hf2
  obtain ⟨W3, hW3⟩ : ∃ W3, W3 = w2.alloc (.cells #[] 43) := ⟨_, rfl⟩
  have hb3 : Below w2.heap.size w2 W3 := by rw [hW3]; exact (Below.refl _ _).alloc (Nat.le_refl _) _
  have HOW := Lib.hid (show W3.ownsRow w2.heap.size 43 2 (.slice (some ⟨w2.heap.size, 0, none⟩) 0 0) ([] : List (Int × Int)).length (rc clE ([] : List (Int × Int))) from by rw [hW3]; exact own_empty w2 w2.heap.size 43 2 (Nat.le_refl _))
  have HRD := Lib.hid (show Reads W3 W3.heap.size 2 aol f0.lights.length (rc clE f0.lights) from (hrat.below hb3).reads clE_len (by decide))
  have h7 : W3.cell? ⟨g, 7, none⟩ = some (.slice aol f0.lights.length capl) := (hb3.cell hf2.blk.lt).trans (hf2.blk.cell 7)
  have HLL := Lib.hid (show f0.lights.length ≤ 1024 from by rw [HOK.out.1.lights]; exact Bx.size_le HOK.out.1.box)
  obtain ⟨nl, hnl⟩ : ∃ nl, nl = f0.lights.length := ⟨_, rfl⟩
  have HNL := Lib.hid hnl
  rw [← hnl] at h7 HRD HLL
  rw [hW3] at h7
  have HW3 := Lib.hid (And.intro hW3 hb3)
  clear hf2 hb2 hcapl hrat hb3 hnl hW3 g0 g1 g2 g3 g4 g5 g6
  go_wp2_with (at_builtin; rw [← HW3.out.1]; refine rows_law clE_len clE_one (by decide) Try.underlying37 infoLight rfl (by decide) HOW.out rfl _ _ rfl rfl rfl HRD.out (by have := HLL.out; have := HNL.out; simp; omega) (by have := HW3.out.2.size; omega) ?_)
  intro wv w4 k1 k2 k3
  have HV4 := Lib.hid (show LRow w4 w2.heap.size wv f0.lights from k1)
  have HB4 := Lib.hid (show Below w2.heap.size w2 w4 from HW3.out.2.grown k2 HW3.out.2.size (fun k hk => by
    have h1 : w2.heap.size = k := Option.some.inj hk
    omega))
  have hE4 := HB2.out.2.below HB4.out HB2.out.2.lt
  have e0 : w4.cell? ⟨W.heap.size + 1, 0, none⟩ = some (.int .i64 n) := hE4.cell 0
  have e1 : w4.cell? ⟨W.heap.size + 1, 1, none⟩ = some (.int .u8 c1) := hE4.cell 1
  have e2 : w4.cell? ⟨W.heap.size + 1, 2, none⟩ = some (.int .u8 c2) := hE4.cell 2
  have HED4 := Lib.hid (HED.out w4 g cv _ (HF2.out.under HB4.out))
  obtain ⟨p, hp⟩ : ∃ p, p = f0.b.at_ i := ⟨_, rfl⟩
  obtain ⟨⟨o1, o2⟩, ho⟩ : ∃ o, o = f0.cells.getD i (0, 0) := ⟨_, rfl⟩
  rw [← hp] at HED4 HRA
  rw [← ho] at HED4 HRA HOI
  have HPO := Lib.hid (And.intro hp ho)
  obtain ⟨p1, p2, p3⟩ := p
  unfold plV plC clV at HED4
  simp only at HED4
  clear k1 k2 k3 h7 HRD HOW hE4 hp ho HED
  go_wp2_with fail
  go_at_call 12
  refine HED4.out.mono ?_
  rintro e w5 ⟨rfl, hf5, ho5⟩
  have HF5 := Lib.hid hf5
  have hcvl : ∀ k, cv.ownBlock = some k → W.heap.size ≤ k ∧ k < w2.heap.size := fun k hk => HF2.out.cells.lt k hk
  have HO5 := Lib.hid (show Only W w5 (fun k => W.heap.size ≤ k) from ((Only.of_below (S := fun k => W.heap.size ≤ k) (HB2.out.1.trans (HB4.out.mono HB2.out.1.size))).trans ho5 (fun k hk => .inl (hcvl k hk.symm).1)))
  have HV5 := Lib.hid (show LRow w5 w2.heap.size wv f0.lights from own_only HV4.out ho5 (fun k hk e => by
    have := (HV4.out.lt k hk).1
    have := (hcvl k e.symm).2
    omega))
  have HN5 := Lib.hid (show w2.heap.size ≤ w5.heap.size from Nat.le_trans HB4.out.size ho5.size)
  have HCV := Lib.hid hcvl
  clear hf5 ho5 e0 e1 e2 HED4 hcvl
  obtain ⟨W6, hW6⟩ : ∃ W6, W6 = (w5.alloc (.cells #[.int .i64 p1, .int .i64 p2, .int .i64 p3] 23)).alloc (.cells #[.int .u8 o1, .int .u8 o2] 33) := ⟨_, rfl⟩
  have s6 : (w5.alloc (.cells #[.int .i64 p1, .int .i64 p2, .int .i64 p3] 23)).heap.size = w5.heap.size + 1 := by simp
  have hb6 : Below w5.heap.size w5 W6 := by rw [hW6]; exact ((Below.refl _ _).alloc (Nat.le_refl _) _).alloc (by simp) _
  have hbp : Blk W6 w5.heap.size 23 #[.int .i64 p1, .int .i64 p2, .int .i64 p3] := by rw [hW6]; exact (Blk.new _ _ _).alloc _
  have hbo : Blk W6 (w5.heap.size + 1) 33 #[.int .u8 o1, .int .u8 o2] := by rw [hW6, ← s6]; exact Blk.new _ _ _
  have hf6 := HF5.out.under hb6
  have HWC := Lib.hid (wcell_any W6 W.heap.size g f1 cv _ nilS nilS hf6 HOK.out.2.2.2.1 (p1, p2, p3) (by rw [HPO.out.1]; exact Bx.inside_may HOK.out.2.2.2.1.box HOK.out.2.2.2.2.2.2.2.2.2.1) (by rw [HOK.out.2.2.2.2.2.2.2.1.1]; simp))
  rw [show cellAt f1 (p1, p2, p3) = (d1, d2) from by rw [HPO.out.1]; exact HOK.out.2.2.2.2.2.2.2.2.1] at HWC
  have HF6 := Lib.hid hf6
  have HW6 := Lib.hid hW6
  have HP6 := Lib.hid (And.intro hbp hbo)
  have HV6 := Lib.hid (own_below HV5.out hb6)
  have HO6 := Lib.hid (HO5.out.trans (Only.of_below (S := fun _ => False) hb6) (fun _ h => h.elim))
  obtain ⟨b7, hb7⟩ : ∃ b, b = w5.heap.size := ⟨_, rfl⟩
  have HB7 := Lib.hid hb7
  rw [← hb7] at HP6 HN5
  obtain ⟨a0, a1', a2'⟩ := three_cells HP6.out.1
  rw [hb7, hW6] at a0 a1' a2'
  unfold plV plC clV at HWC
  simp only at HWC
  clear hW6 s6 hb6 hbp hbo hf6 hb7 HF5 HV5 HO5
  go_wp2_with fail
  rw [← HW6.out, ← HB7.out]
  go_at_call 13
  refine HWC.out.mono ?_
  rintro e w7 ⟨rfl, av7, hask⟩
  have hav7 : ∀ k, av7.ownBlock = some k → W6.heap.size ≤ k ∧ k < w7.heap.size := fun k hk => by
    have h1 := (hask.fld.asked.lt k hk).2
    rcases hask.new with h | ⟨j, h, h2⟩
    · rw [h] at hk; cases hk
    · have : j = k := Option.some.inj (h.symm.trans hk)
      omega
  have hq : ∀ k, QF g nilS.ownBlock k → k = g := fun k h => h.elim id (fun h => by cases h)
  have hgk : ∀ {k : Nat}, w2.heap.size ≤ k → ¬ QF g nilS.ownBlock k := fun h e => by have := hq _ e; have := HF2.out.blk.lt; omega
  have hp7 := HP6.out.1.only hask.only (hgk HN5.out)
  have hq7 := HP6.out.2.only hask.only (hgk (Nat.le_succ_of_le HN5.out))
  have hv7 := own_only HV6.out hask.only (fun k hk => hgk (HV6.out.lt k hk).1)
  obtain ⟨W8, hW8⟩ : ∃ W8, W8 = w7.alloc (.cells #[.int .u8 d1, .int .u8 d2] 33) := ⟨_, rfl⟩
  have hb8 : Below w7.heap.size w7 W8 := by rw [hW8]; exact (Below.refl _ _).alloc (Nat.le_refl _) _
  obtain ⟨b9, hb9⟩ : ∃ b, b = w7.heap.size := ⟨_, rfl⟩
  have hq9 : Blk W8 b9 33 #[.int .u8 d1, .int .u8 d2] := by rw [hW8, hb9]; exact Blk.new _ _ _
  have HP8 := Lib.hid (And.intro (hp7.below hb8 hp7.lt) (And.intro (hq7.below hb8 hq7.lt) hq9))
  have HV8 := Lib.hid (own_below hv7 hb8)
  have HO8 := Lib.hid (show Only W W8 (fun k => W.heap.size ≤ k) from (HO6.out.trans hask.only (fun k hk => .inl (by have := hq k hk; have := HF2.out.low; omega))).trans (Only.of_below (S := fun _ => False) hb8) (fun _ h => h.elim))
  have HF8 := Lib.hid (hask.fld.under hb8)
  have HN8 := Lib.hid (show b7 + 1 < W6.heap.size ∧ W6.heap.size ≤ b9 ∧ (∀ k, av7.ownBlock = some k → W6.heap.size ≤ k ∧ k < b9) from ⟨HP6.out.2.lt, by rw [hb9]; exact hask.only.size, by rw [hb9]; exact hav7⟩)
  have HVL := Lib.hid (show ∀ k, wv.ownBlock = some k → w2.heap.size ≤ k ∧ k < W6.heap.size from fun k hk => HV6.out.lt k hk)
  obtain ⟨f1a, hf1a⟩ : ∃ f1a : Fw, f1a = { f1 with asked := f1.asked ++ [(p1, p2, p3)] } := ⟨_, rfl⟩
  rw [← hf1a] at HF8
  have hok1a : f1a.Ok := by rw [hf1a]; exact HOK.out.2.2.2.1.asks _
  have hb1a : f1a.b = f0.b := by rw [hf1a]; exact HOK.out.2.2.2.2.1
  have hl1a : f1a.lights = f0.lights := by rw [hf1a]; exact HOK.out.2.2.2.2.2.1
  have hc1a : f1a.cells = f0.cells.set i (d1, d2) := by rw [hf1a]; exact HOK.out.2.2.2.2.2.2.1
  have ha1a : f1a.asked.length = 1 ∧ f1a.told = [] := by
    rw [hf1a]
    refine ⟨?_, HOK.out.2.2.2.2.2.2.2.1.2⟩
    show (f1.asked ++ [(p1, p2, p3)]).length = 1
    rw [HOK.out.2.2.2.2.2.2.2.1.1]
    rfl
  have hra : RightOf (f1a.old (p1, p2, p3) (o1, o2)) (rFL f0) (rFS f0) := by
    rw [hf1a]
    exact HRA.out (f1.asked ++ [(p1, p2, p3)]) f1.told
  have hinp : f1a.b.inside (p1, p2, p3) := by rw [hb1a, HPO.out.1]; exact f0.b.at_inside HOK.out.2.2.2.2.2.2.2.2.2.2.1
  have HCH := Lib.hid (change_any W8 W.heap.size g f1a cv _ av7 nilS HF8.out hok1a (p1, p2, p3) hinp (o1, o2) HOI.out (rFL f1a) (rFS f1a) (rFL f0) (rFS f0) hra (right_right f1a hok1a.box hok1a.cin)
    (fun q => by
      have h1 := rightL_light f0 HOK.out.2.1 q
      unfold lightAt at h1 ⊢
      rw [hb1a, hl1a]
      exact h1) (by rw [ha1a.1]; omega) (by rw [ha1a.2]; simp))
  have HE1 := Lib.hid (And.intro hok1a (And.intro hb1a (And.intro hl1a (And.intro hc1a ha1a))))
  have HW8 := Lib.hid (And.intro hW8 hb9)
  obtain ⟨a0, a1', a2'⟩ := three_cells HP8.out.1
  obtain ⟨a3', a4'⟩ := two_cells HP8.out.2.1
  rw [hW8] at a0 a1' a2' a3' a4'
  unfold plV plC clV at HCH
  simp only at HCH
  clear hask hav7 hq hgk hp7 hq7 hv7 hW8 hb8 hb9 hq9 hf1a hok1a hb1a hl1a hc1a ha1a hra hinp HF6 HP6 HV6 HO6 HW6 HWC
  go_wp2_with fail
  rw [← HW8.out.1, ← HW8.out.2]
  clear a0 a1' a2' a3' a4'
  rename_i K3 a3'' Kl al
  have HK3 := Lib.hid a3''
  clear a3''
  go_at_call 11
  refine HCH.out.mono ?_
  rintro e w9 ⟨T, A, L', av', tv', rfl, hch⟩
  have hne : ∀ k, w2.heap.size ≤ k → k < W6.heap.size ∨ k = b9 → ¬ (QF g av7.ownBlock k ∨ some k = nilS.ownBlock ∨ some k = (Value.slice aol f0.lights.length capl).ownBlock) := fun k hk hk2 h => by
    rcases h with (h | h) | h | h
    · have := HF2.out.blk.lt; omega
    · have h1 := HN8.out.2.2 k h.symm
      have h2 := HN8.out.2.1
      omega
    · cases h
    · have := (HF2.out.lights.lt k h.symm).2
      omega
  have h6 : b7 < W6.heap.size ∧ b7 + 1 < W6.heap.size ∧ w2.heap.size ≤ b7 ∧ w2.heap.size ≤ b9 := by
    have h1 := HN8.out.1
    have h2 := HN8.out.2.1
    have h3 := HN5.out
    omega
  obtain ⟨f2, hf2⟩ : ∃ f2 : Fw, f2 = { f1a with asked := f1a.asked ++ A, told := f1a.told ++ T, lights := L' } := ⟨_, rfl⟩
  have hb2 : f2.b = f0.b := by rw [hf2]; exact HE1.out.2.1
  have hc2 : f2.cells = f0.cells.set i (d1, d2) := by rw [hf2]; exact HE1.out.2.2.2.1
  have hL2 : f2.lights = L' := by rw [hf2]
  have hL : L' = rightL f1a := lights_eq (by rw [hch.len, HE1.out.1.lights]) hch.lights
  have hr2 : f2.lights = rightL f2 := by
    rw [hL2, hL]
    exact rightL_congr (by rw [hb2, HE1.out.2.1]) (by rw [hc2, HE1.out.2.2.2.1])
  have hok2 : f2.Ok := ⟨by rw [hb2]; exact HOK.out.1.box, by rw [hc2, List.length_set, HOK.out.1.cells, hb2], by rw [hr2, rightL_len], by
    rw [hc2, ← HE1.out.2.2.2.1]; exact HE1.out.1.cin, by
    rw [hL2, hL]; exact rightL_in f1a HE1.out.1.box HE1.out.1.cin⟩
  have hask2 : f2.asked.length ≤ 800000000 := by
    rw [hf2]
    show (f1a.asked ++ A).length ≤ _
    rw [List.length_append, HE1.out.2.2.2.2.1]
    have := hch.few
    omega
  have hin2 : ∀ q ∈ T, f0.b.inside q := fun q hq => by have := (hch.mem q).1 hq; rw [HE1.out.2.1] at this; exact this.1
  have htol2 : f2.told.length ≤ 800000000 := by
    rw [hf2]
    show (f1a.told ++ T).length ≤ _
    rw [HE1.out.2.2.2.2.2, List.nil_append]
    have := nodup_box HOK.out.1.box (asc_nodup hch.asc) hin2
    omega
  have hTn : T.length = cntN (difB f0.lights f2.lights) f0.b.size := told_count (b := f0.b) (g := difB f0.lights f2.lights) (asc_nodup hch.asc) (fun q => by
    rw [hch.mem q, HE1.out.2.1]
    refine and_congr_right fun hq => ?_
    have h := chg_dif (f := f1a) (q := q) (by rw [HE1.out.2.1]; exact hq)
    rw [h, HE1.out.2.2.1, HE1.out.2.1, hL2, hL])
  have HNEXT := Lib.hid (back_loop w9 W.heap.size w2.heap.size g b7 (b7 + 1) b9 f0 f2 cv _ av' tv' wv (by rw [hf2]; exact hch.fld) HOK.out.1 HOK.out.2.1 hok2 i HOK.out.2.2.2.2.2.2.2.2.2.2.1 d1 d2 o1 o2 HOK.out.2.2.2.2.2.2.2.2.2.2.2 hb2 hc2 HPO.out.2 hr2 hask2 htol2
    (own_only HV8.out hch.only (fun k hk => hne k (HVL.out k hk).1 (.inl (HVL.out k hk).2))) (Nat.le_trans HO8.out.size hch.only.size) p1 p2 p3 HPO.out.1
    (HP8.out.1.only hch.only (hne b7 h6.2.2.1 (.inl h6.1))) (HP8.out.2.1.only hch.only (hne (b7 + 1) (by omega) (.inl h6.2.1))) (HP8.out.2.2.only hch.only (hne b9 h6.2.2.2 (.inr rfl)))
    (fun k hk => by have := (HCV.out k hk).2; omega) (fun k hk e => by have h1 := (HVL.out k hk).1; have h2 := (HF2.out.lights.lt k e).2; omega) T.length hTn)
  have HO9 := Lib.hid (show Below W.heap.size W w9 from (HO8.out.trans hch.only (fun k hk => by
    rcases hk with (h | h) | h | h
    · exact .inl (by have := HF2.out.low; omega)
    · exact .inl (by have h1 := (HN8.out.2.2 k h.symm).1; have h2 := HN8.out.1; have h3 := HO8.out.size; have h4 := HN5.out; have h5 := HF2.out.low; have h6 := HF2.out.blk.lt; omega)
    · cases h
    · exact .inl (HF2.out.lights.lt k h.symm).1)).below (fun k h => h) (Nat.le_refl _))
  have HBL := Lib.hid hb2
  clear hch hne h6 hf2 hb2 hc2 hL2 hL hr2 hok2 hask2 hin2 htol2 hTn HCH
  go_wp2
  refine HK3.out _ _ ?_
  refine (show Code.wp Try.prog (gnav (Try.f5.body.getD .skip) [true, true, true, true, true, true]) _ _ _ from ?_)
  exact HNEXT.out _ _ _ _ _ _ _ _ _ _ _ _ _ _ _ _ _ _ _ _ _ _ _ _ _ _ _ _ _ _ _ _ _ _ _ _ _ _ _ _ _ _ _ _ _ _ _ _ _ _ _ _ _ _ _ _ _ _ _ _ _ _ _ _ _ _ _ _ _ _ _ _ _ _ _ _ _ _ _ _ _ _ _ _ _ _ _ _ _ _ _ _ _ _ _ _ _ _ _ _ _ _ _ _ _ _ _ _ _ _ _ _ _ _ _ _ _ _ _ _ _ _ _ _ _ _ _ _ _ _ _ _ _ _ _ _ _ _ _ _ _ _ _ _ (fun w' hb => ⟨rfl, HO9.out.trans hb⟩)
end Go.Proofs.Ytlhjjmfbifhgfaa
