/- The document's Get behind its loops: the places, the kinds, the tries, the answer. (Printed by genget.py.) -/
import Derived.Test.YtjbhkmpabajeoaaDoorLFGetM
import Derived.Deep.RegionHeld
namespace Go.Proofs.YtjbhkmpabajeoaaDoor
set_option linter.unusedSimpArgs false
set_option linter.unusedVariables false
open Go.RowKit

theorem kindV_form (s : Bs) : ∃ b, kindV s = .tuple #[.int .u8 (kindN s), .bool b] := by
  unfold kindV kindN
  cases kindOf s with
  | none => exact ⟨_, rfl⟩
  | some i => exact ⟨_, rfl⟩
set_option maxRecDepth 100000 in
set_option maxHeartbeats 8000000 in
theorem fget_tail (w wr : World) (s : Bs) (hs : s.length ≤ 1024) (gn gl n4 n5 cn cl : Nat) (h4 : 9 ≤ n4) (h5 : 9 ≤ n5) (hG : GetAt w wr gn gl (numsOf (words s)) (fun i => (words s).getD i []))
    (u1 u3 u6 u7 u8 u9 u10 u11 u12 u13 u14 u15 u16 u17 u18 u19 u20 u21 u22 u23 u24 u25 u26 u27 u28 u29 u30 u31 u32 u33 u34 u35 u36 u37 u38 u39 u40 u41 u42 u43 u44 u45 u46 u47 u48 u49 u50 u51 u52 u53 u54 u55 u56 u57 u58 u59 u60 u61 u62 u63 u64 u65 u66 u67 u68 u69 u70 u71 u72 u73 u74 u75 u76 u77 u78 u79 u80 u81 u82 u83 u84 u85 u86 u87 u88 u89 u90 u91 u92 u93 u94 u95 u96 u97 u98 u99 u100 u101 u102 u103 u104 u105 u106 u107 u108 u109 u110 u111 u112 u113 u114 u115 u116 u117 u118 u119 u120 u121 u122 u123 u124 u125 u126 u127 u128 u129 u130 u131 u132 u133 u134 u135 u136 u137 u138 u139 u140 u141 u142 u143 u144 u145 u146 u147 u148 u149 u150 u151 u152 u153 u154 u155 u156 u157 u158 u159 u160 u161 u162 u163 u164 u165 u166 u167 u168 u169 u170 u171 u172 u173 u174 u175 u176 : Value) (K : Act → World → Prop)
    (hK : ∀ a W, Code.wp Tryd.prog (gnav (Tryd.f15.body.getD .skip) [true, true, true, true, true, true, true]) (bodyPost Tryd.prog Tryd.f15 fun e w' => e = .returned (getV s) ∧ Below w.heap.size w w') a W → K a W) :
    Code.wp Tryd.prog (gnav (Tryd.f15.body.getD .skip) [true, true, true, true, true, true, false]) (Exit.then K (bodyPost Tryd.prog Tryd.f15 fun e w' => e = .returned (getV s) ∧ Below w.heap.size w w')) { tmps := #[.string (str s), u1, .pointer (some ⟨w.heap.size, 0, none⟩), u3, .slice (some ⟨gl, 0, none⟩) n4 cl, .slice (some ⟨gn, 0, none⟩) n5 cn, u6, u7, u8, u9, u10, u11, u12, u13, u14, u15, u16, u17, u18, u19, u20, u21, u22, u23, u24, u25, u26, u27, u28, u29, u30, u31, u32, u33, u34, u35, u36, u37, u38, u39, u40, u41, u42, u43, u44, u45, u46, u47, u48, u49, u50, u51, u52, u53, u54, u55, u56, u57, u58, u59, u60, u61, u62, u63, u64, u65, u66, u67, u68, u69, u70, u71, u72, u73, u74, u75, u76, u77, u78, u79, u80, u81, u82, u83, u84, u85, u86, u87, u88, u89, u90, u91, u92, u93, u94, u95, u96, u97, u98, u99, u100, u101, u102, u103, u104, u105, u106, u107, u108, u109, u110, u111, u112, u113, u114, u115, u116, u117, u118, u119, u120, u121, u122, u123, u124, u125, u126, u127, u128, u129, u130, u131, u132, u133, u134, u135, u136, u137, u138, u139, u140, u141, u142, u143, u144, u145, u146, u147, u148, u149, u150, u151, u152, u153, u154, u155, u156, u157, u158, u159, u160, u161, u162, u163, u164, u165, u166, u167, u168, u169, u170, u171, u172, u173, u174, u175, u176], defers := [] } wr := by
  have HK := Lib.hid hK
  have HG := Lib.hid hG
  have HT := Lib.hid (show triesS s = tries (numsOf (words s)) (kindN ((fun i => (words s).getD i []) 4)) (kindN ((fun i => (words s).getD i []) 7)) from rfl)
  clear hK hG
  generalize numsOf (words s) = f at HG HT
  generalize (fun i => (words s).getD i []) = l at HG HT
  have n0 := HG.out.nums 0 (by decide)
  have n1 := HG.out.nums 1 (by decide)
  have n2 := HG.out.nums 2 (by decide)
  have e0 := World.new_ne _ _ n0
  have i0 : (0 : Int) < (n5 : Int) := by omega
  have p0 : 0 < n5 := by omega
  have i1 : (1 : Int) < (n5 : Int) := by omega
  have i2 : (2 : Int) < (n5 : Int) := by omega
  have i3 : (3 : Int) < (n5 : Int) := by omega
  have i4 : (4 : Int) < (n5 : Int) := by omega
  have i5 : (5 : Int) < (n5 : Int) := by omega
  have i6 : (6 : Int) < (n5 : Int) := by omega
  have i7 : (7 : Int) < (n5 : Int) := by omega
  have j4 : (4 : Int) < (n4 : Int) := by omega
  have j7 : (7 : Int) < (n4 : Int) := by omega
  have H5 := Lib.hid h5
  clear h4 h5
  refine (show Code.wp Tryd.prog (Code.region 13 _ true) _ _ _ from ?_)
  go_region_held (fun w' => w'.cell? ⟨gn, 0, none⟩ = some (.int .i64 (f 0)) ∧ w'.cell? ⟨gn, 1, none⟩ = some (.int .i64 (f 1)) ∧ w'.cell? ⟨gn, 2, none⟩ = some (.int .i64 (f 2))) (go_keep) (fail)
  have hsz : gn < wr.heap.size := HG.out.gn_lt
  refine gen_at (fun W => GetAt w W gn gl f l ∧ Blk W wr.heap.size 23 #[.int .i64 (f 0), .int .i64 (f 1), .int .i64 (f 2)]) ⟨HG.out.under ((Below.refl _ _).alloc (Nat.le_refl _) _).drew, (Blk.new wr 23 _).drew⟩ ?_
  rintro Wa ⟨hGa, hA⟩
  have ea : wr.heap.size < Wa.heap.size := hA.lt
  generalize hga : wr.heap.size = ga at hA ea
  have HGa := Lib.hid hGa
  have HA := Lib.hid hA
  clear hGa hA e0 n0 n1 n2 hsz HG
  refine HK.out _ _ ?_
  refine (show Code.wp Tryd.prog (Code.seq (Code.region 14 _ true) _) _ _ _ from ?_)
  have n3 := HGa.out.nums 3 (by decide)
  have n4' := HGa.out.nums 4 (by decide)
  have n5' := HGa.out.nums 5 (by decide)
  have e0 := World.new_ne _ _ n3
  go_wp2
  go_region_held (fun w' => w'.cell? ⟨gn, 3, none⟩ = some (.int .i64 (f 3)) ∧ w'.cell? ⟨gn, 4, none⟩ = some (.int .i64 (f 4)) ∧ w'.cell? ⟨gn, 5, none⟩ = some (.int .i64 (f 5))) (go_keep) (fail)
  refine gen_at (fun W => GetAt w W gn gl f l ∧ Blk W ga 23 #[.int .i64 (f 0), .int .i64 (f 1), .int .i64 (f 2)] ∧ Blk W Wa.heap.size 23 #[.int .i64 (f 3), .int .i64 (f 4), .int .i64 (f 5)]) ⟨HGa.out.under ((Below.refl _ _).alloc (Nat.le_refl _) _).drew, (HA.out.alloc _).drew, (Blk.new Wa 23 _).drew⟩ ?_
  rintro Wb ⟨hGb, hA, hB⟩
  generalize hgb : Wa.heap.size = gb at hB
  have HGb := Lib.hid hGb
  have HAb := Lib.hid hA
  have HBb := Lib.hid hB
  have l4 := hGb.wds 4 (by decide)
  have l7 := hGb.wds 7 (by decide)
  clear hGb hA hB e0 n3 n4' n5' HA HGa
  have HF := Lib.hid (fun W x => fof_any W x)
  obtain ⟨b4, hb4⟩ := kindV_form (l 4)
  obtain ⟨b7, hb7⟩ := kindV_form (l 7)
  have H4 := Lib.hid (fun W => (by have := fof_any W (l 4); rwa [hb4] at this : Calls Tryd.prog 34 #[.string (str (l 4))] W fun e w' => e = .returned (.tuple #[.int .u8 (kindN (l 4)), .bool b4]) ∧ Below W.heap.size W w'))
  have H7 := Lib.hid (fun W => (by have := fof_any W (l 7); rwa [hb7] at this : Calls Tryd.prog 34 #[.string (str (l 7))] W fun e w' => e = .returned (.tuple #[.int .u8 (kindN (l 7)), .bool b7]) ∧ Below W.heap.size W w'))
  have hlg := HGb.out.gl_lt
  clear hb4 hb7 HF
  generalize kindN (l 4) = k4 at H4 HT
  generalize kindN (l 7) = k7 at H7 HT
  generalize l 4 = x4 at H4 l4
  generalize l 7 = x7 at H7 l7
  go_wp2_with fail
  go_at_call 34
  refine (H4.out _).mono ?_
  rintro e w1 ⟨rfl, hb1⟩
  replace l7 := (hb1.cell hlg).trans l7
  have HB1 := Lib.hid hb1
  clear hb1 l4 hlg
  go_wp2_with fail
  go_at_call 34
  refine (H7.out _).mono ?_
  rintro e w2 ⟨rfl, hb2⟩
  have HB2 := Lib.hid (HB1.out.trans (hb2.mono HB1.out.size))
  have HG2 := Lib.hid (HGb.out.under HB2.out)
  have HA2 := Lib.hid (HAb.out.below HB2.out HAb.out.lt)
  have HBb2 := Lib.hid (HBb.out.below HB2.out HBb.out.lt)
  clear hb2 l7 HB1 HB2 HGb HAb HBb H4 H7
  go_wp2
  exact fget_17 w w2 s hs f l k4 k7 gn gl n5 cn ga gb HT.out H5.out HG2.out HA2.out HBb2.out _ _ _ _ _ _ _ _ _ _ _ _ _ _ _ _ _ _ _ _ _ _ _ _ _ _ _ _ _ _ _ _ _ _ _ _ _ _ _ _ _ _ _ _ _ _ _ _ _ _ _ _ _ _ _ _ _ _ _ _ _ _ _ _ _ _ _ _ _ _ _ _ _ _ _ _ _ _ _ _ _ _ _ _ _ _ _ _ _ _ _ _ _ _ _ _ _ _ _ _ _ _ _ _ _ _ _ _ _ _ _ _ _ _ _ _ _ _ _ _ _ _ _ _ _ _ _ _ _ _ _ _ _ _ _ _ _ _ _ _ _ _ _ _ _ _ _ _ _ _ _ _ _ _ _ _ _ _ _ _ _ _ _ _ _ _ _ _ _ _ _ (by assumption)
end Go.Proofs.YtjbhkmpabajeoaaDoor
