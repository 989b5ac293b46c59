/- The document's Get: the region that makes the tries. (Printed by genget.py.) -/
import Derived.Test.YtjbhkmpabajeoaaDoorLFGetL
import Derived.Deep.RegionHeld
namespace Go.Proofs.YtjbhkmpabajeoaaDoor
set_option linter.unusedSimpArgs false
set_option linter.unusedVariables false
open Go.RowKit

/-- What Get holds behind its loops: the numbers and the words. -/
structure GetAt (w W : World) (gn gl : Nat) (f : Nat → Int) (l : Nat → Bs) : Prop where
  nums : ∀ i, i < 9 → W.cell? ⟨gn, i, none⟩ = some (.int .i64 (f i))
  wds : ∀ i, i < 9 → W.cell? ⟨gl, i, none⟩ = some (.string (str (l i)))
  gn_lt : gn < W.heap.size
  gl_lt : gl < W.heap.size
  op : Blk W w.heap.size 27 (opC OpR.zero)
  below : Below w.heap.size w W
theorem GetAt.under {w W W' : World} {gn gl : Nat} {f : Nat → Int} {l : Nat → Bs} (h : GetAt w W gn gl f l) (hb : Below W.heap.size W W') : GetAt w W' gn gl f l :=
  ⟨fun i hi => (hb.cell h.gn_lt).trans (h.nums i hi), fun i hi => (hb.cell h.gl_lt).trans (h.wds i hi), Nat.lt_of_lt_of_le h.gn_lt hb.size, Nat.lt_of_lt_of_le h.gl_lt hb.size, h.op.below hb h.op.lt, h.below.trans (hb.mono h.below.size)⟩
theorem pushAt_of {w W : World} {ga : Nat} {f : Nat → Int} {k m : Int} {cs : Array Value} (hcs : cs = (rc opE (pushL f k m 0)).toArray) (hA : Blk W ga 23 #[.int .i64 (f 0), .int .i64 (f 1), .int .i64 (f 2)]) (hO : Blk W w.heap.size 27 (opC OpR.zero)) (hb : Below w.heap.size w W) :
    PushAt w (W.alloc (.cells cs 27)).drew W.heap.size ga f k m (.slice (some ⟨W.heap.size, 0, none⟩) 10 10) 0 := by
  subst hcs
  have hbl := Blk.new W 27 (rc opE (pushL f k m 0)).toArray
  have hl := rc_length (enc := opE) opE_len (pushL f k m 0)
  have hp := pushL_len f k m 0
  generalize hL : pushL f k m 0 = L at hl hp hbl ⊢
  generalize hcs : rc opE L = cs at hl hbl ⊢
  have hrow : (W.alloc (.cells cs.toArray 27)).ownsRow W.heap.size 27 10 (.slice (some ⟨W.heap.size, 0, none⟩) 10 10) L.length cs := by
    rw [hp]
    exact ⟨by rw [hl, hp], .inr ⟨W.heap.size, 10, cs.toArray, rfl, Nat.le_refl _, hbl, Nat.le_refl _, by decide, by simp [hl, hp], List.take_of_length_le (by rw [show cs.toArray.toList = cs from rfl, hl, hp]; exact Nat.le_refl _)⟩⟩
  exact ⟨by rw [hL, hcs]; exact hrow.drew, (hA.alloc _).drew, (hO.alloc _).drew, (hb.alloc hb.size _).drew⟩
set_option maxRecDepth 100000 in
set_option maxHeartbeats 8000000 in
theorem fget_17 (w w2 : World) (s : Bs) (hs : s.length ≤ 1024) (f : Nat → Int) (l : Nat → Bs) (k4 k7 : Int) (gn gl n5 cn ga gb : Nat) (hT : triesS s = tries f k4 k7) (h5 : 9 ≤ n5) (hG : GetAt w w2 gn gl f l) (hA : Blk w2 ga 23 #[.int .i64 (f 0), .int .i64 (f 1), .int .i64 (f 2)]) (hB : Blk w2 gb 23 #[.int .i64 (f 3), .int .i64 (f 4), .int .i64 (f 5)])
    (u1 u3 u4 u6 u7 u8 u12 u14 u15 u16 u17 u18 u19 u20 u21 u22 u23 u24 u25 u26 u27 u28 u29 u30 u31 u32 u33 u34 u35 u36 u37 u38 u39 u40 u41 u42 u43 u44 u45 u46 u47 u48 u49 u50 u51 u52 u53 u54 u55 u56 u57 u58 u59 u60 u61 u62 u63 u64 u65 u66 u67 u68 u69 u70 u71 u72 u73 u74 u75 u76 u77 u78 u79 u80 u81 u82 u83 u84 u85 u86 u87 u88 u89 u90 u91 u92 u93 u94 u95 u96 u97 u98 u99 u100 u101 u102 u103 u104 u105 u106 u107 u108 u109 u110 u111 u112 u113 u114 u115 u116 u117 u118 u119 u120 u121 u122 u123 u124 u125 u126 u127 u128 u129 u130 u131 u132 u133 u134 u135 u136 u137 u138 u139 u140 u141 u142 u143 u144 u145 u146 u147 u148 u149 u150 u151 u152 u153 u154 u155 u156 u157 u158 u159 u160 u161 u162 u163 u164 u165 u166 u167 u168 u169 u170 u171 u172 u173 u174 u175 u176 : Value) (K : Act → World → Prop)
    (hK : ∀ a W, Code.wp Tryd.prog (gnav (Tryd.f15.body.getD .skip) [true, true, true, true, true, true, true, true, true, true, true]) (bodyPost Tryd.prog Tryd.f15 fun e w' => e = .returned (getV s) ∧ Below w.heap.size w w') a W → K a W) :
    Code.wp Tryd.prog (gnav (Tryd.f15.body.getD .skip) [true, true, true, true, true, true, true, true, true, true, false]) (Exit.then K (bodyPost Tryd.prog Tryd.f15 fun e w' => e = .returned (getV s) ∧ Below w.heap.size w w')) { tmps := #[.string (str s), u1, .pointer (some ⟨w.heap.size, 0, none⟩), u3, u4, .slice (some ⟨gn, 0, none⟩) n5 cn, u6, u7, u8, .pointer (some ⟨ga, 0, none⟩), .pointer (some ⟨gb, 0, none⟩), .int .u8 k4, u12, .int .u8 k7, u14, u15, u16, u17, u18, u19, u20, u21, u22, u23, u24, u25, u26, u27, u28, u29, u30, u31, u32, u33, u34, u35, u36, u37, u38, u39, u40, u41, u42, u43, u44, u45, u46, u47, u48, u49, u50, u51, u52, u53, u54, u55, u56, u57, u58, u59, u60, u61, u62, u63, u64, u65, u66, u67, u68, u69, u70, u71, u72, u73, u74, u75, u76, u77, u78, u79, u80, u81, u82, u83, u84, u85, u86, u87, u88, u89, u90, u91, u92, u93, u94, u95, u96, u97, u98, u99, u100, u101, u102, u103, u104, u105, u106, u107, u108, u109, u110, u111, u112, u113, u114, u115, u116, u117, u118, u119, u120, u121, u122, u123, u124, u125, u126, u127, u128, u129, u130, u131, u132, u133, u134, u135, u136, u137, u138, u139, u140, u141, u142, u143, u144, u145, u146, u147, u148, u149, u150, u151, u152, u153, u154, u155, u156, u157, u158, u159, u160, u161, u162, u163, u164, u165, u166, u167, u168, u169, u170, u171, u172, u173, u174, u175, u176], defers := [] } w2 := by
  have HK17 := Lib.hid hK
  have HG2 := Lib.hid hG
  have HA2 := Lib.hid hA
  have HBb2 := Lib.hid hB
  have HT := Lib.hid hT
  have HS := Lib.hid hs
  have hw4 : IntKind.u8.wrap (f 4) = f 4 % 256 := by simp [IntKind.wrap, IntKind.bits, IntKind.signed]
  have hw7 : IntKind.u8.wrap (f 7) = f 7 % 256 := by simp [IntKind.wrap, IntKind.bits, IntKind.signed]
  have i0 : (0 : Int) < (n5 : Int) := by omega
  have p0 : 0 < n5 := by omega
  have i1 : (1 : Int) < (n5 : Int) := by omega
  have i2 : (2 : Int) < (n5 : Int) := by omega
  have i3 : (3 : Int) < (n5 : Int) := by omega
  have i4 : (4 : Int) < (n5 : Int) := by omega
  have i5 : (5 : Int) < (n5 : Int) := by omega
  have i6 : (6 : Int) < (n5 : Int) := by omega
  have i7 : (7 : Int) < (n5 : Int) := by omega
  have q0 := HG2.out.nums 0 (by decide)
  have q1 := HG2.out.nums 1 (by decide)
  have q2 := HG2.out.nums 2 (by decide)
  have q3 := HG2.out.nums 3 (by decide)
  have q4 := HG2.out.nums 4 (by decide)
  have q6 := HG2.out.nums 6 (by decide)
  have q7 := HG2.out.nums 7 (by decide)
  obtain ⟨a0, a1, a2⟩ := place_cells HA2.out
  obtain ⟨c0, c1, c2⟩ := place_cells HBb2.out
  clear hK hG hA hB hT hs
  refine (show Code.wp Tryd.prog (Code.region 17 _ true) _ _ _ from ?_)
  go_region_held (fun w' => w'.cell? ⟨gn, 0, none⟩ = some (.int .i64 (f 0)) ∧ w'.cell? ⟨gn, 1, none⟩ = some (.int .i64 (f 1)) ∧ w'.cell? ⟨gn, 2, none⟩ = some (.int .i64 (f 2)) ∧ w'.cell? ⟨gn, 3, none⟩ = some (.int .i64 (f 3)) ∧ w'.cell? ⟨gn, 4, none⟩ = some (.int .i64 (f 4)) ∧ w'.cell? ⟨gn, 6, none⟩ = some (.int .i64 (f 6)) ∧ w'.cell? ⟨gn, 7, none⟩ = some (.int .i64 (f 7)) ∧
    w'.cell? ⟨ga, 0, none⟩ = some (.int .i64 (f 0)) ∧ w'.cell? ⟨ga, 1, none⟩ = some (.int .i64 (f 1)) ∧ w'.cell? ⟨ga, 2, none⟩ = some (.int .i64 (f 2)) ∧ w'.cell? ⟨gb, 0, none⟩ = some (.int .i64 (f 3)) ∧ w'.cell? ⟨gb, 1, none⟩ = some (.int .i64 (f 4)) ∧ w'.cell? ⟨gb, 2, none⟩ = some (.int .i64 (f 5))) (go_keep) (fail)
  have hlt0 : w.heap.size < w2.heap.size := HG2.out.op.lt
  have hlta : ga < w2.heap.size := HA2.out.lt
  refine gen_at (fun W => PushAt w W w2.heap.size ga f k4 k7 (.slice (some ⟨w2.heap.size, 0, none⟩) 10 10) 0 ∧ w2.heap.size ≤ W.heap.size) ⟨pushAt_of (by rfl) HA2.out HG2.out.op HG2.out.below, by simp⟩ ?_
  rintro W3 ⟨hP, hsz3⟩
  refine HK17.out _ _ ?_
  exact fget_loops w W3 s f k4 k7 w2.heap.size ga w2.heap.size hlt0 hlta hsz3 HT.out HS.out hP _ _ _ _ _ _ _ _ _ _ _ _ _ _ _ _ _ _ _ _ _ _ _ _ _ _ _ _ _ _ _ _ _ _ _ _ _ _ _ _ _ _ _ _ _ _ _ _ _ _ _ _ _ _ _ _ _ _ _ _ _ _ _ _ _ _ _ _ _ _ _ _ _ _ _ _ _ _ _ _ _ _ _ _ _ _ _ _ _ _ _ _ _ _ _ _ _ _ _ _ _ _ _ _ _ _ _ _ _ _ _ _ _ _ _ _ _ _ _ _ _ _ _ _ _ _ _ _ _ _ _ _ _ _ _ _ _ _ _ _ _ _ _ _ _ _ _ _ _ _ _ _ _ _ _ _ _ _ _ _ _ _ _ _ _ _ _ _ _ _ _ _ _
end Go.Proofs.YtjbhkmpabajeoaaDoor
