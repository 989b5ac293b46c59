/- The document's Get: its last two loops: the six pushes, the look through the tries. (Printed by genget.py.) -/
import Derived.Test.YtjbhkmpabajeoaaDoorLTries
import Derived.Test.YtjbhkmpabajeoaaDoorLGet
import Derived.Test.YtjbhkmpabajeoaaDoorLFLine
import Derived.Test.YtjbhkmpabajeoaaDoorRowK
namespace Go.Proofs.YtjbhkmpabajeoaaDoor
set_option linter.unusedSimpArgs false
set_option linter.unusedVariables false
open Go.RowKit

def gnav : Code → List Bool → Code
  | .seq _ y, true :: p => gnav y p
  | .seq x _, false :: p => gnav x p
  | c, _ => c
theorem gen_at {K : Exit → Act → World → Prop} {e : Exit} {a : Act} {W : World} (R : World → Prop) (h1 : R W) (h : ∀ W', R W' → K e a W') : K e a W := h W h1
def opE (o : OpR) : List Value := (opC o).toList
theorem opE_len (o : OpR) : (opE o).length = 10 := rfl
theorem opE_one (o : OpR) : ∀ u ∈ opE o, u.oneCell' = true := by
  intro u hu
  simp [opE, opC] at hu
  rcases hu with rfl | rfl | rfl | rfl | rfl | rfl | rfl | rfl | rfl | rfl <;> rfl
theorem infoOp : (Tryd.prog.info? 27).map (fun i => (i.zero, i.size, i.bytes)) = some (some (.agg #[.int .i64 0, .int .i64 0, .int .i64 0, .int .i64 0, .int .i64 0, .int .i64 0, .int .i64 0, .int .u8 0, .int .u8 0, .int .i64 0]), 10, 72) := by kernel_rfl
def tries10 (n : Nat → Int) (k m : Int) : List OpR :=
  [{ opK 1 with a1 := n 0, a2 := n 1, a3 := n 2, c1 := k, c2 := n 4 % 256 },
   { opK 2 with a1 := n 0, a2 := n 1, a3 := n 2, b1 := n 3, b2 := n 4, b3 := n 5, c1 := m, c2 := n 7 % 256 },
   { opK 4 with n := n 0, a1 := n 1, a2 := n 2, a3 := n 3 },
   { opK 5 with n := n 0 }, { opK 6 with n := n 0 }, { opK 7 with a1 := n 0, a2 := n 1, a3 := n 2 },
   { opK 8 with a1 := n 0, a2 := n 1, a3 := n 2, b1 := n 3, b2 := n 4, b3 := n 5, n := n 6 }, opK 9, opK 10, { opK 11 with n := n 0 }]
def pushR (n : Nat → Int) (d : Nat) : OpR := { opK 3 with a1 := n 0, a2 := n 1, a3 := n 2, n := (d : Int) }
def pushL (n : Nat → Int) (k m : Int) (d : Nat) : List OpR := tries10 n k m ++ (List.range d).map (pushR n)
theorem pushL_len (n : Nat → Int) (k m : Int) (d : Nat) : (pushL n k m d).length = 10 + d := by simp [pushL, tries10]; omega
theorem pushL_succ (n : Nat → Int) (k m : Int) (d : Nat) : pushL n k m (d + 1) = pushL n k m d ++ [pushR n d] := by simp [pushL, List.range_succ]
theorem pushL_six (n : Nat → Int) (k m : Int) : pushL n k m 6 = tries n k m := rfl
theorem find_at {l : List OpR} {s : Bs} {i : Nat} (hi : i < l.length) (hne : ∀ m, m < i → putP (l.getD m OpR.zero) ≠ some s) (h : putP (l.getD i OpR.zero) = some s) : l.find? (fun t => putP t == some s) = some (l.getD i OpR.zero) := by
  rw [List.find?_eq_some_iff_getElem]
  refine ⟨by rw [h]; exact beq_self_eq_true _, i, hi, by rw [List.getD_eq_getElem?_getD, List.getElem?_eq_getElem hi]; rfl, fun j hj => ?_⟩
  have := hne j hj
  rw [List.getD_eq_getElem?_getD, List.getElem?_eq_getElem (by omega)] at this
  simpa using this
theorem find_no {l : List OpR} {s : Bs} (hne : ∀ m, m < l.length → putP (l.getD m OpR.zero) ≠ some s) : l.find? (fun t => putP t == some s) = none := by
  rw [List.find?_eq_none]
  intro x hx
  obtain ⟨i, hi, rfl⟩ := List.getElem_of_mem hx
  have := hne i hi
  rw [List.getD_eq_getElem?_getD, List.getElem?_eq_getElem hi] at this
  simpa using this
theorem row_cells {W : World} {B g n c : Nat} {l : List OpR} (h : W.ownsRow B 27 10 (.slice (some ⟨g, 0, none⟩) n c) l.length (rc opE l)) {i : Nat} (hi : i < l.length) :
    W.cell? ⟨g, i * 10, none⟩ = some (.int .i64 (l.getD i OpR.zero).k) ∧ W.cell? ⟨g, i * 10 + 1, none⟩ = some (.int .i64 (l.getD i OpR.zero).a1) ∧ W.cell? ⟨g, i * 10 + 2, none⟩ = some (.int .i64 (l.getD i OpR.zero).a2) ∧ W.cell? ⟨g, i * 10 + 3, none⟩ = some (.int .i64 (l.getD i OpR.zero).a3) ∧
    W.cell? ⟨g, i * 10 + 4, none⟩ = some (.int .i64 (l.getD i OpR.zero).b1) ∧ W.cell? ⟨g, i * 10 + 5, none⟩ = some (.int .i64 (l.getD i OpR.zero).b2) ∧ W.cell? ⟨g, i * 10 + 6, none⟩ = some (.int .i64 (l.getD i OpR.zero).b3) ∧ W.cell? ⟨g, i * 10 + 7, none⟩ = some (.int .u8 (l.getD i OpR.zero).c1) ∧
    W.cell? ⟨g, i * 10 + 8, none⟩ = some (.int .u8 (l.getD i OpR.zero).c2) ∧ W.cell? ⟨g, i * 10 + 9, none⟩ = some (.int .i64 (l.getD i OpR.zero).n) := by
  have hn : n = l.length := by
    obtain ⟨_, ao, c', e, _⟩ := own_rat (d := OpR.zero) opE_len h
    injection e
  subst hn
  have := own_at opE_len OpR.zero h hi
  exact ⟨this 0 (by decide), this 1 (by decide), this 2 (by decide), this 3 (by decide), this 4 (by decide), this 5 (by decide), this 6 (by decide), this 7 (by decide), this 8 (by decide), this 9 (by decide)⟩
theorem place_cells {W : World} {g : Nat} {x y z : Int} (h : Blk W g 23 #[.int .i64 x, .int .i64 y, .int .i64 z]) : W.cell? ⟨g, 0, none⟩ = some (.int .i64 x) ∧ W.cell? ⟨g, 1, none⟩ = some (.int .i64 y) ∧ W.cell? ⟨g, 2, none⟩ = some (.int .i64 z) := ⟨h.cell 0, h.cell 1, h.cell 2⟩
def ansOf : Option OpR → Value | some o => .tuple #[opV o, .int .i64 0] | none => .tuple #[opV OpR.zero, .int .i64 30]
/-- What the loop of pushes holds. -/
structure PushAt (w W : World) (B ga : Nat) (f : Nat → Int) (k m : Int) (v : Value) (d : Nat) : Prop where
  row : W.ownsRow B 27 10 v (pushL f k m d).length (rc opE (pushL f k m d))
  pl : Blk W ga 23 #[.int .i64 (f 0), .int .i64 (f 1), .int .i64 (f 2)]
  op : Blk W w.heap.size 27 (opC OpR.zero)
  below : Below w.heap.size w W
set_option maxRecDepth 100000 in
set_option maxHeartbeats 8000000 in
theorem fget_loops (w wr : World) (s : Bs) (f : Nat → Int) (k4 k7 : Int) (B ga gr : Nat) (hB : w.heap.size < B) (hga : ga < B) (hBr : B ≤ wr.heap.size) (hT : triesS s = tries f k4 k7) (hs : s.length ≤ 1024) (hP : PushAt w wr B ga f k4 k7 (.slice (some ⟨gr, 0, none⟩) 10 10) 0)
    (u1 u3 u4 u5 u6 u7 u8 u10 u11 u12 u13 u14 u16 u17 u18 u19 u20 u21 u22 u23 u24 u25 u26 u27 u28 u29 u30 u31 u32 u33 u34 u35 u36 u37 u38 u39 u40 u41 u42 u43 u44 u45 u46 u47 u48 u49 u50 u51 u52 u53 u54 u55 u56 u57 u58 u59 u60 u61 u62 u63 u64 u65 u66 u67 u68 u69 u70 u71 u72 u73 u74 u75 u76 u77 u78 u79 u80 u81 u82 u83 u84 u85 u86 u87 u88 u89 u90 u91 u92 u93 u94 u95 u96 u97 u98 u99 u100 u101 u102 u103 u104 u105 u106 u107 u108 u109 u110 u111 u112 u113 u114 u115 u116 u117 u118 u119 u120 u121 u122 u123 u124 u125 u126 u127 u128 u129 u130 u131 u132 u133 u134 u135 u136 u137 u138 u139 u140 u141 u142 u143 u144 u145 u146 u147 u148 u149 u150 u151 u152 u153 u154 u155 u156 u157 u158 u159 u160 u161 u162 u163 u164 u165 u166 u167 u168 u169 u170 u171 u172 u173 u174 u175 u176 : Value) :
    Code.wp Tryd.prog (gnav (Tryd.f15.body.getD .skip) [true, true, true, true, true, true, true, true, true, true, true]) (bodyPost Tryd.prog Tryd.f15 fun e w' => e = .returned (getV s) ∧ Below w.heap.size w w') { tmps := #[.string (str s), u1, .pointer (some ⟨w.heap.size, 0, none⟩), u3, u4, u5, u6, u7, u8, .pointer (some ⟨ga, 0, none⟩), u10, u11, u12, u13, u14, .slice (some ⟨gr, 0, none⟩) 10 10, u16, u17, u18, u19, u20, u21, u22, u23, u24, u25, u26, u27, u28, u29, u30, u31, u32, u33, u34, u35, u36, u37, u38, u39, u40, u41, u42, u43, u44, u45, u46, u47, u48, u49, u50, u51, u52, u53, u54, u55, u56, u57, u58, u59, u60, u61, u62, u63, u64, u65, u66, u67, u68, u69, u70, u71, u72, u73, u74, u75, u76, u77, u78, u79, u80, u81, u82, u83, u84, u85, u86, u87, u88, u89, u90, u91, u92, u93, u94, u95, u96, u97, u98, u99, u100, u101, u102, u103, u104, u105, u106, u107, u108, u109, u110, u111, u112, u113, u114, u115, u116, u117, u118, u119, u120, u121, u122, u123, u124, u125, u126, u127, u128, u129, u130, u131, u132, u133, u134, u135, u136, u137, u138, u139, u140, u141, u142, u143, u144, u145, u146, u147, u148, u149, u150, u151, u152, u153, u154, u155, u156, u157, u158, u159, u160, u161, u162, u163, u164, u165, u166, u167, u168, u169, u170, u171, u172, u173, u174, u175, u176], defers := [] } wr := by
  have HP0 := Lib.hid hP
  have HT := Lib.hid hT
  have HFI := Lib.hid (tries_find s)
  have HOK := Lib.hid (triesS_ok s)
  have HGV := Lib.hid (show getV s = ansOf (getP s) by unfold getV; rw [if_neg (by omega)]; cases getP s <;> rfl)
  generalize getV s = gv at HGV ⊢
  clear hP hT hs
  refine (show Code.wp Tryd.prog (Code.seq (Code.seq (Code.region 18 _ false) _) _) _ _ _ from ?_)
  go_wp2
  go_loopw [15, 16] (fun v i W => ∃ d : Nat, d ≤ 6 ∧ i = .int .i64 d ∧ PushAt w W B ga f k4 k7 v d ∧ B ≤ W.heap.size) (fun _ i _ => 6 - (intOf i).toNat)
  case atStart => exact ⟨0, Nat.zero_le _, rfl, HP0.out, hBr⟩
  case round =>
    obtain ⟨d, hd, rfl, hp, hbw⟩ := hrel
    have HP := Lib.hid hp
    clear hp
    by_cases hlt : d < 6
    · obtain ⟨a0, a1, a2⟩ := place_cells HP.out.pl
      have HLEN := Lib.hid (show (pushL f k4 k7 d).length ≤ 1099511627775 by rw [pushL_len]; omega)
      have hltI : (d : Int) < 6 := by omega
      go_wp2_with (at_builtin; refine row_law opE_len opE_one (by decide) Tryd.underlying47 infoOp rfl (by decide) HP.out.row rfl _ _ rfl rfl (pushR f d) rfl rfl rfl HLEN.out hbw ?_)
      intro v' w' k1 k2 k3
      have hx : ∀ k, Value.ownBlock _ = some k → B ≤ k := fun k hk => (HP.out.row.lt k hk).1
      have hb2 : Below B wr w' := ((Below.refl B wr).alloc hbw _).grown k2 (by simp; omega) hx
      have HP2 := Lib.hid (show PushAt w w' B ga f k4 k7 v' (d + 1) from ⟨by rw [pushL_succ, List.length_append]; exact k1, HP.out.pl.below hb2 hga, HP.out.op.below hb2 hB, HP.out.below.trans (hb2.mono (Nat.le_of_lt hB))⟩)
      have hbw2 := Nat.le_trans hbw hb2.size
      clear k1 k2 k3 hb2 a0 a1 a2 hx
      go_wp2
      go_roundw
      case rel => exact ⟨d + 1, by omega, by go_num, HP2.out, hbw2⟩
      case measure => simp [intOf]; omega
    · obtain rfl : d = 6 := by omega
      obtain ⟨W1, rfl⟩ : ∃ W1, W1 = wr := ⟨_, rfl⟩
      have hrow := HP.out.row
      rw [pushL_len, pushL_six, ← HT.out] at hrow
      have hlen : (triesS s).length = 16 := by rw [HT.out, ← pushL_six, pushL_len]
      rw [show (10 + 6 : Nat) = 16 from rfl, ← hlen] at hrow
      obtain ⟨_, ao, cv, rfl, _⟩ := own_rat (d := OpR.zero) opE_len hrow
      have hcap : 0 < cv := by
        rcases hrow.2 with ⟨h1, h2⟩ | ⟨g, cap, cur, r1, _, _, r3, _⟩
        · rw [hlen] at h2; cases h2
        · injection r1 with _ _ e; rw [hlen] at r3; omega
      obtain ⟨g, rfl, hgB, hgl⟩ := own_form hrow hcap
      have HROW := Lib.hid (fun W' (hb : Below W1.heap.size W1 W') i (hi : i < (triesS s).length) => row_cells (own_below hrow hb) hi)
      have HOP := Lib.hid HP.out.op
      have HBL := Lib.hid HP.out.below
      rw [hlen]
      have HL := Lib.hid hlen
      clear hrow hlen hcap HP HP0 HT
      generalize triesS s = L at HFI HOK HROW HL
      go_wp2
      go_loopw [17] (fun i W => ∃ m : Nat, m ≤ 16 ∧ i = .int .i64 m ∧ Below W1.heap.size W1 W ∧ ∀ j, j < m → putP (L.getD j OpR.zero) ≠ some s) (fun i _ => 16 - (intOf i).toNat)
      case atStart => exact ⟨0, Nat.zero_le _, rfl, Below.refl _ _, fun _ h => by omega⟩
      case round =>
        obtain ⟨m, hm, rfl, hb, hne⟩ := hrel
        have HB := Lib.hid hb
        have HNE := Lib.hid hne
        by_cases hlt : m < 16
        · have hmL : m < L.length := by rw [HL.out]; exact hlt
          obtain ⟨c0, c1, c2, c3, c4, c5, c6, c7, c8, c9⟩ := HROW.out _ hb m hmL
          have HRB := Lib.hid (fun W' (hb' : Below W1.heap.size W1 W') => HROW.out W' hb' m hmL)
          have HO := Lib.hid (HOK.out (L.getD m OpR.zero) (by rw [List.getD_eq_getElem?_getD, List.getElem?_eq_getElem hmL]; exact List.getElem_mem hmL))
          have HAT := Lib.hid (find_at hmL hne)
          have HNX := Lib.hid (fun (h : putP (L.getD m OpR.zero) ≠ some s) j (hj : j < m + 1) => show putP (L.getD j OpR.zero) ≠ some s from by
            rcases Nat.lt_succ_iff_lt_or_eq.1 hj with h1 | h1
            · exact hne j h1
            · rw [h1]; exact h)
          have hltI : (m : Int) < 16 := by omega
          clear hb hne HROW
          generalize L.getD m OpR.zero = o at c0 c1 c2 c3 c4 c5 c6 c7 c8 c9 HRB HO HAT HNX
          have HPU := Lib.hid (fun W => fput_walk W o HO.out)
          cases hp : putP o with
          | none =>
            have hv : putV o = .tuple #[.string (str []), .int .i64 2] := by unfold putV; rw [hp]
            rw [hv] at HPU
            have HN2 := Lib.hid (HNX.out (by rw [hp]; simp))
            unfold opV opC at HPU
            clear hv hp HNX HAT
            go_wp2_with fail
            go_at_call 12
            refine (HPU.out _).mono ?_
            rintro e w2 ⟨rfl, hb2⟩
            have HB2 := Lib.hid (HB.out.trans (hb2.mono HB.out.size))
            clear hb2 c0 c1 c2 c3 c4 c5 c6 c7 c8 c9
            go_wp2
            go_roundw
            case rel =>
              refine ⟨_, _, _, _, _, _, _, _, _, _, _, _, _, _, _, _, _, _, _, _, _, _, _, _, _, _, _, _, _, ?_, rfl⟩
              exact ⟨m + 1, by omega, by go_num, HB2.out, HN2.out⟩
            case measure => simp [intOf]; omega
          | some t =>
            have hv : putV o = .tuple #[.string (str t), .int .i64 0] := by unfold putV; rw [hp]
            rw [hv] at HPU
            unfold opV opC at HPU
            rcases Bool.eq_false_or_eq_true (t == s) with hts | hts
            · have e1 : t = s := by simpa using hts
              subst e1
              have HF := Lib.hid (HAT.out hp)
              clear hv hp HNX HAT
              go_wp2_with fail
              go_at_call 12
              refine (HPU.out _).mono ?_
              rintro e w2 ⟨rfl, hb2⟩
              have HB2 := Lib.hid (HB.out.trans (hb2.mono HB.out.size))
              clear hb2 c0 c1 c2 c3 c4 c5 c6 c7 c8 c9
              obtain ⟨c0, c1, c2, c3, c4, c5, c6, c7, c8, c9⟩ := HRB.out _ HB2.out
              have HOP2 := Lib.hid (HOP.out.below HB2.out HOP.out.lt)
              obtain ⟨⟨d0, d1, d2, d3, d4, d5, d6, d7, d8, d9⟩, f0, f1, f2, f3, f4, f5, f6, f7, f8, f9⟩ := HOP2.out.op
              go_wp2
              have h0 := HOP2.out
              obtain ⟨g0, g1, g2, g3, g4, g5, g6, g7, g8, g9⟩ := ten_cells (show Blk w2 w.heap.size 27 #[.int .i64 0, .int .i64 0, .int .i64 0, .int .i64 0, .int .i64 0, .int .i64 0, .int .i64 0, .int .u8 0, .int .u8 0, .int .i64 0] from h0) (.int .i64 o.k) (.int .i64 o.a1) (.int .i64 o.a2) (.int .i64 o.a3) (.int .i64 o.b1) (.int .i64 o.b2) (.int .i64 o.b3) (.int .u8 o.c1) (.int .u8 o.c2) (.int .i64 o.n)
              have HB3 := Lib.hid (HBL.out.trans (HB2.out.mono HBL.out.size))
              refine bodyPost_ret (v := .tuple #[opV o, .int .i64 0]) (by simp [results, Tryd.results15, go_sem, g0, g1, g2, g3, g4, g5, g6, g7, g8, g9]; rfl) rfl ⟨?_, (HB3.out.setCell (by simp <;> omega) _ |>.setCell (by simp <;> omega) _ |>.setCell (by simp <;> omega) _ |>.setCell (by simp <;> omega) _ |>.setCell (by simp <;> omega) _ |>.setCell (by simp <;> omega) _ |>.setCell (by simp <;> omega) _ |>.setCell (by simp <;> omega) _ |>.setCell (by simp <;> omega) _ |>.setCell (by simp <;> omega) _)⟩
              rw [HGV.out, ← HFI.out, HF.out]
              rfl
            · have HN2 := Lib.hid (HNX.out (by rw [hp]; simpa using hts))
              clear hv hp HNX HAT
              go_wp2_with fail
              go_at_call 12
              refine (HPU.out _).mono ?_
              rintro e w2 ⟨rfl, hb2⟩
              have HB2 := Lib.hid (HB.out.trans (hb2.mono HB.out.size))
              clear hb2 c0 c1 c2 c3 c4 c5 c6 c7 c8 c9
              go_wp2
              go_roundw
              case rel =>
                refine ⟨_, _, _, _, _, _, _, _, _, _, _, _, _, _, _, _, _, _, _, _, _, _, _, _, _, _, _, _, _, ?_, rfl⟩
                exact ⟨m + 1, by omega, by go_num, HB2.out, HN2.out⟩
              case measure => simp [intOf]; omega
        · obtain rfl : m = 16 := by omega
          have HNO := Lib.hid (find_no (l := L) (s := s) (fun j hj => hne j (by rw [HL.out] at hj; exact hj)))
          have HOP2 := Lib.hid (HOP.out.below HB.out HOP.out.lt)
          obtain ⟨⟨d0, d1, d2, d3, d4, d5, d6, d7, d8, d9⟩, f0, f1, f2, f3, f4, f5, f6, f7, f8, f9⟩ := HOP2.out.op
          clear hb hne
          go_wp2
          have h0 := HOP2.out
          obtain ⟨g0, g1, g2, g3, g4, g5, g6, g7, g8, g9⟩ := ten_cells (show Blk wr w.heap.size 27 #[.int .i64 0, .int .i64 0, .int .i64 0, .int .i64 0, .int .i64 0, .int .i64 0, .int .i64 0, .int .u8 0, .int .u8 0, .int .i64 0] from h0) (.int .i64 0) (.int .i64 0) (.int .i64 0) (.int .i64 0) (.int .i64 0) (.int .i64 0) (.int .i64 0) (.int .u8 0) (.int .u8 0) (.int .i64 0)
          have HB3 := Lib.hid (HBL.out.trans (HB.out.mono HBL.out.size))
          refine bodyPost_ret (v := .tuple #[opV OpR.zero, .int .i64 30]) (by simp [results, Tryd.results15, go_sem, g0, g1, g2, g3, g4, g5, g6, g7, g8, g9]; rfl) rfl ⟨?_, (HB3.out.setCell (by simp <;> omega) _ |>.setCell (by simp <;> omega) _ |>.setCell (by simp <;> omega) _ |>.setCell (by simp <;> omega) _ |>.setCell (by simp <;> omega) _ |>.setCell (by simp <;> omega) _ |>.setCell (by simp <;> omega) _ |>.setCell (by simp <;> omega) _ |>.setCell (by simp <;> omega) _ |>.setCell (by simp <;> omega) _)⟩
          rw [HGV.out, ← HFI.out, HNO.out]
          rfl
end Go.Proofs.YtjbhkmpabajeoaaDoor
