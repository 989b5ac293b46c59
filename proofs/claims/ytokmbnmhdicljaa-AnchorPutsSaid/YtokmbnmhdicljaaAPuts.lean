/- AnchorPuts: the walk. -/
import Derived.Test.YtokmbnmhdicljaaAAwake
namespace Go.Proofs.Ytokmbnmhdicljaa
open Go.RowKit

theorem zeroA_ok : AnOk zeroA := ok_lit _ _ _ _ (by decide)
theorem spotOf_ok (q : Sp) (o : Bool) : AnOk ((spotOf q).1, o) := by
  unfold spotOf
  split
  · rename_i h
    have hb : -1048576 ≤ q.1 ∧ q.1 < 1048576 ∧ -1048576 ≤ q.2.2 ∧ q.2.2 < 1048576 ∧ 0 ≤ q.2.1 ∧ q.2.1 < 64 := by simpa [mayP] using h
    unfold AnOk
    simp only
    omega
  · exact zeroA_ok
theorem putA_ok {a b : An} (ha : AnOk a) (hb : AnOk b) (id : Int) (q : Sp) : AnOk (putA a b id q).1 ∧ AnOk (putA a b id q).2.1 := by
  unfold putA
  repeat' split
  all_goals first | exact ⟨spotOf_ok q true, hb⟩ | exact ⟨ha, spotOf_ok q true⟩ | exact ⟨zeroA_ok, zeroA_ok⟩
theorem liftA_ok {a b : An} (ha : AnOk a) (hb : AnOk b) (id : Int) : AnOk (liftA a b id).1 ∧ AnOk (liftA a b id).2.1 := by
  unfold liftA
  repeat' split
  all_goals first | exact ⟨zeroA_ok, hb⟩ | exact ⟨ha, zeroA_ok⟩ | exact ⟨zeroA_ok, zeroA_ok⟩
theorem with_put {w : World} {f : FuncId} {args : Array Value} {r : An × An × Int} {x y : An} {n : Int} (h : Calls Try.prog f args w fun e w' => e = .returned (.tuple #[twoV r.1 r.2.1, .int .i64 r.2.2]) ∧ Below w.heap.size w w') (hr : r = (x, y, n)) :
    Calls Try.prog f args w fun e w' => e = .returned (.tuple #[.agg #[.int .i64 x.1.1, .int .i64 x.1.2.1, .int .i64 x.1.2.2, .bool x.2, .int .i64 y.1.1, .int .i64 y.1.2.1, .int .i64 y.1.2.2, .bool y.2], .int .i64 n]) ∧ Below w.heap.size w w' := by
  subst hr
  exact h
set_option maxRecDepth 100000 in
set_option maxHeartbeats 4000000 in
theorem puts_walk (w : World) (s t : Sp) (o p : Bool) (id : Int) (q : Sp) (h1 : -9223372036854775808 ≤ id) (h2 : id ≤ 9223372036854775807) (ha : AnOk (s, o)) (hb : AnOk (t, p)) :
    Calls Try.prog 4 #[.agg #[.int .i64 s.1, .int .i64 s.2.1, .int .i64 s.2.2, .bool o, .int .i64 t.1, .int .i64 t.2.1, .int .i64 t.2.2, .bool p], .int .i64 id, .agg #[.int .i64 q.1, .int .i64 q.2.1, .int .i64 q.2.2]] w fun e w' => e = .returned (.bool true) ∧ Below w.heap.size w w' := by
  obtain ⟨x, y, n, hp⟩ : ∃ x y n, putA (s, o) (t, p) id q = (x, y, n) := ⟨_, _, _, rfl⟩
  obtain ⟨x', y', n', hl⟩ : ∃ x y n, liftA (s, o) (t, p) id = (x, y, n) := ⟨_, _, _, rfl⟩
  obtain ⟨hx, hy⟩ := putA_ok ha hb id q
  obtain ⟨hx', hy'⟩ := liftA_ok ha hb id
  rw [hp] at hx hy
  rw [hl] at hx' hy'
  have HEQ := Lib.hid (eq_two x y hx hy)
  have HEQ' := Lib.hid (eq_two x' y' hx' hy')
  have HPA := Lib.hid (fun w => with_put (aPut_any w s t o p id q h1 h2) hp)
  have HPR := Lib.hid (fun w => with_put (rPut_any w s t o p id q h1 h2) hp)
  have HLA := Lib.hid (fun w => with_put (aLift_any w s t o p id h1 h2) hl)
  have HLR := Lib.hid (fun w => with_put (rLift_any w s t o p id h1 h2) hl)
  clear hp hl hx hy hx' hy' h1 h2 ha hb
  have HB0 := Lib.hid (below_two w (.cells #[.int .i64 s.1, .int .i64 s.2.1, .int .i64 s.2.2, .bool o, .int .i64 t.1, .int .i64 t.2.1, .int .i64 t.2.2, .bool p] 26) (.cells #[.int .i64 q.1, .int .i64 q.2.1, .int .i64 q.2.2] 32))
  have hs1 : (w.alloc (.cells #[.int .i64 s.1, .int .i64 s.2.1, .int .i64 s.2.2, .bool o, .int .i64 t.1, .int .i64 t.2.1, .int .i64 t.2.2, .bool p] 26)).heap.size = w.heap.size + 1 := by simp
  have HL0 := Lib.hid ((Blk.new w 26 #[.int .i64 s.1, .int .i64 s.2.1, .int .i64 s.2.2, .bool o, .int .i64 t.1, .int .i64 t.2.1, .int .i64 t.2.2, .bool p]).alloc (.cells #[.int .i64 q.1, .int .i64 q.2.1, .int .i64 q.2.2] 32))
  have HQ0 := Lib.hid (show Blk _ (w.heap.size + 1) _ _ from hs1 ▸ Blk.new (w.alloc (.cells #[.int .i64 s.1, .int .i64 s.2.1, .int .i64 s.2.2, .bool o, .int .i64 t.1, .int .i64 t.2.1, .int .i64 t.2.2, .bool p] 26)) 32 #[.int .i64 q.1, .int .i64 q.2.1, .int .i64 q.2.2])
  clear hs1
  go_enter Try.func4, Try.ntmps4
  go_wp2_with fail
  go_at_call 13
  refine (HPA.out _).mono ?_
  rintro e w1 ⟨rfl, hb⟩
  have hb' := HB0.out.trans (hb.mono HB0.out.size)
  have HB1 := Lib.hid (hb'.alloc hb'.size (.cells #[.int .i64 x.1.1, .int .i64 x.1.2.1, .int .i64 x.1.2.2, .bool x.2, .int .i64 y.1.1, .int .i64 y.1.2.1, .int .i64 y.1.2.2, .bool y.2] 26))
  have HL1 := Lib.hid ((HL0.out.below hb HL0.out.lt).alloc (.cells #[.int .i64 x.1.1, .int .i64 x.1.2.1, .int .i64 x.1.2.2, .bool x.2, .int .i64 y.1.1, .int .i64 y.1.2.1, .int .i64 y.1.2.2, .bool y.2] 26))
  have HQ1 := Lib.hid ((HQ0.out.below hb HQ0.out.lt).alloc (.cells #[.int .i64 x.1.1, .int .i64 x.1.2.1, .int .i64 x.1.2.2, .bool x.2, .int .i64 y.1.1, .int .i64 y.1.2.1, .int .i64 y.1.2.2, .bool y.2] 26))
  have HR1_1 := Lib.hid (Blk.new w1 26 #[.int .i64 x.1.1, .int .i64 x.1.2.1, .int .i64 x.1.2.2, .bool x.2, .int .i64 y.1.1, .int .i64 y.1.2.1, .int .i64 y.1.2.2, .bool y.2])
  clear hb hb'
  obtain ⟨⟨a0, b0, c0, d0, e0, f0, g0, h0⟩, -⟩ := HL1.out.eight
  obtain ⟨qa, qb, qc, -⟩ := HQ1.out.three
  go_wp2_with fail
  go_at_call 14
  refine (HPR.out _).mono ?_
  rintro e w2 ⟨rfl, hb⟩
  have hb' := HB1.out.trans (hb.mono HB1.out.size)
  have HB2 := Lib.hid (hb'.alloc hb'.size (.cells #[.int .i64 x.1.1, .int .i64 x.1.2.1, .int .i64 x.1.2.2, .bool x.2, .int .i64 y.1.1, .int .i64 y.1.2.1, .int .i64 y.1.2.2, .bool y.2] 26))
  have HL2 := Lib.hid ((HL1.out.below hb HL1.out.lt).alloc (.cells #[.int .i64 x.1.1, .int .i64 x.1.2.1, .int .i64 x.1.2.2, .bool x.2, .int .i64 y.1.1, .int .i64 y.1.2.1, .int .i64 y.1.2.2, .bool y.2] 26))
  have HQ2 := Lib.hid ((HQ1.out.below hb HQ1.out.lt).alloc (.cells #[.int .i64 x.1.1, .int .i64 x.1.2.1, .int .i64 x.1.2.2, .bool x.2, .int .i64 y.1.1, .int .i64 y.1.2.1, .int .i64 y.1.2.2, .bool y.2] 26))
  have HR1_2 := Lib.hid ((HR1_1.out.below hb HR1_1.out.lt).alloc (.cells #[.int .i64 x.1.1, .int .i64 x.1.2.1, .int .i64 x.1.2.2, .bool x.2, .int .i64 y.1.1, .int .i64 y.1.2.1, .int .i64 y.1.2.2, .bool y.2] 26))
  have HR2_2 := Lib.hid (Blk.new w2 26 #[.int .i64 x.1.1, .int .i64 x.1.2.1, .int .i64 x.1.2.2, .bool x.2, .int .i64 y.1.1, .int .i64 y.1.2.1, .int .i64 y.1.2.2, .bool y.2])
  clear hb hb'
  clear a0 b0 c0 d0 e0 f0 g0 h0 qa qb qc
  obtain ⟨⟨a0, b0, c0, d0, e0, f0, g0, h0⟩, -⟩ := HL2.out.eight
  obtain ⟨qa, qb, qc, -⟩ := HQ2.out.three
  go_wp2_with fail
  go_at_call 15
  refine (HLA.out _).mono ?_
  rintro e w3 ⟨rfl, hb⟩
  have hb' := HB2.out.trans (hb.mono HB2.out.size)
  have HB3 := Lib.hid (hb'.alloc hb'.size (.cells #[.int .i64 x'.1.1, .int .i64 x'.1.2.1, .int .i64 x'.1.2.2, .bool x'.2, .int .i64 y'.1.1, .int .i64 y'.1.2.1, .int .i64 y'.1.2.2, .bool y'.2] 26))
  have HL3 := Lib.hid ((HL2.out.below hb HL2.out.lt).alloc (.cells #[.int .i64 x'.1.1, .int .i64 x'.1.2.1, .int .i64 x'.1.2.2, .bool x'.2, .int .i64 y'.1.1, .int .i64 y'.1.2.1, .int .i64 y'.1.2.2, .bool y'.2] 26))
  have HQ3 := Lib.hid ((HQ2.out.below hb HQ2.out.lt).alloc (.cells #[.int .i64 x'.1.1, .int .i64 x'.1.2.1, .int .i64 x'.1.2.2, .bool x'.2, .int .i64 y'.1.1, .int .i64 y'.1.2.1, .int .i64 y'.1.2.2, .bool y'.2] 26))
  have HR1_3 := Lib.hid ((HR1_2.out.below hb HR1_2.out.lt).alloc (.cells #[.int .i64 x'.1.1, .int .i64 x'.1.2.1, .int .i64 x'.1.2.2, .bool x'.2, .int .i64 y'.1.1, .int .i64 y'.1.2.1, .int .i64 y'.1.2.2, .bool y'.2] 26))
  have HR2_3 := Lib.hid ((HR2_2.out.below hb HR2_2.out.lt).alloc (.cells #[.int .i64 x'.1.1, .int .i64 x'.1.2.1, .int .i64 x'.1.2.2, .bool x'.2, .int .i64 y'.1.1, .int .i64 y'.1.2.1, .int .i64 y'.1.2.2, .bool y'.2] 26))
  have HR3_3 := Lib.hid (Blk.new w3 26 #[.int .i64 x'.1.1, .int .i64 x'.1.2.1, .int .i64 x'.1.2.2, .bool x'.2, .int .i64 y'.1.1, .int .i64 y'.1.2.1, .int .i64 y'.1.2.2, .bool y'.2])
  clear hb hb'
  clear a0 b0 c0 d0 e0 f0 g0 h0 qa qb qc
  obtain ⟨⟨a0, b0, c0, d0, e0, f0, g0, h0⟩, -⟩ := HL3.out.eight
  obtain ⟨qa, qb, qc, -⟩ := HQ3.out.three
  go_wp2_with fail
  go_at_call 16
  refine (HLR.out _).mono ?_
  rintro e w4 ⟨rfl, hb⟩
  have hb' := HB3.out.trans (hb.mono HB3.out.size)
  have HB4 := Lib.hid (hb'.alloc hb'.size (.cells #[.int .i64 x'.1.1, .int .i64 x'.1.2.1, .int .i64 x'.1.2.2, .bool x'.2, .int .i64 y'.1.1, .int .i64 y'.1.2.1, .int .i64 y'.1.2.2, .bool y'.2] 26))
  have HL4 := Lib.hid ((HL3.out.below hb HL3.out.lt).alloc (.cells #[.int .i64 x'.1.1, .int .i64 x'.1.2.1, .int .i64 x'.1.2.2, .bool x'.2, .int .i64 y'.1.1, .int .i64 y'.1.2.1, .int .i64 y'.1.2.2, .bool y'.2] 26))
  have HQ4 := Lib.hid ((HQ3.out.below hb HQ3.out.lt).alloc (.cells #[.int .i64 x'.1.1, .int .i64 x'.1.2.1, .int .i64 x'.1.2.2, .bool x'.2, .int .i64 y'.1.1, .int .i64 y'.1.2.1, .int .i64 y'.1.2.2, .bool y'.2] 26))
  have HR1_4 := Lib.hid ((HR1_3.out.below hb HR1_3.out.lt).alloc (.cells #[.int .i64 x'.1.1, .int .i64 x'.1.2.1, .int .i64 x'.1.2.2, .bool x'.2, .int .i64 y'.1.1, .int .i64 y'.1.2.1, .int .i64 y'.1.2.2, .bool y'.2] 26))
  have HR2_4 := Lib.hid ((HR2_3.out.below hb HR2_3.out.lt).alloc (.cells #[.int .i64 x'.1.1, .int .i64 x'.1.2.1, .int .i64 x'.1.2.2, .bool x'.2, .int .i64 y'.1.1, .int .i64 y'.1.2.1, .int .i64 y'.1.2.2, .bool y'.2] 26))
  have HR3_4 := Lib.hid ((HR3_3.out.below hb HR3_3.out.lt).alloc (.cells #[.int .i64 x'.1.1, .int .i64 x'.1.2.1, .int .i64 x'.1.2.2, .bool x'.2, .int .i64 y'.1.1, .int .i64 y'.1.2.1, .int .i64 y'.1.2.2, .bool y'.2] 26))
  have HR4_4 := Lib.hid (Blk.new w4 26 #[.int .i64 x'.1.1, .int .i64 x'.1.2.1, .int .i64 x'.1.2.2, .bool x'.2, .int .i64 y'.1.1, .int .i64 y'.1.2.1, .int .i64 y'.1.2.2, .bool y'.2])
  clear hb hb'
  clear a0 b0 c0 d0 e0 f0 g0 h0 qa qb qc
  obtain ⟨⟨a1, b1, c1, d1, e1, f1, g1, h1⟩, -⟩ := HR1_4.out.eight
  obtain ⟨⟨a2, b2, c2, d2, e2, f2, g2, h2⟩, -⟩ := HR2_4.out.eight
  obtain ⟨⟨a3, b3, c3, d3, e3, f3, g3, h3⟩, -⟩ := HR3_4.out.eight
  obtain ⟨⟨a4, b4, c4, d4, e4, f4, g4, h4⟩, -⟩ := HR4_4.out.eight
  have hEq := HEQ.out
  have hEq' := HEQ'.out
  go_wp2_with fail
  go_at_call 12
  refine (awake_any _).mono ?_
  rintro e w5 ⟨rfl, hb⟩
  have HB5 := Lib.hid (HB4.out.trans (hb.mono HB4.out.size))
  clear hb a1 a2 a3 a4 b1 b2 b3 b4 c1 c2 c3 c4 d1 d2 d3 d4 e1 e2 e3 e4 f1 f2 f3 f4 g1 g2 g3 g4 h1 h2 h3 h4 hEq hEq'
  go_wp2
  go_ret
  exact ⟨rfl, HB5.out⟩
end Go.Proofs.Ytokmbnmhdicljaa
