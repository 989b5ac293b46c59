/- Put: the walks. -/
import Derived.Test.YtokmbnmhdicljaaALift
namespace Go.Proofs.Ytokmbnmhdicljaa
open Go.RowKit

theorem Blk.set8 {w : World} {p t : Nat} {a b c d e f g h : Value} (k : Blk w p t #[a, b, c, d, e, f, g, h]) (a' b' c' d' e' f' g' h' : Value) : Blk ((((((((w.setCell ⟨p, 0, none⟩ a').setCell ⟨p, 1, none⟩ b').setCell ⟨p, 2, none⟩ c').setCell ⟨p, 3, none⟩ d').setCell ⟨p, 4, none⟩ e').setCell ⟨p, 5, none⟩ f').setCell ⟨p, 6, none⟩ g').setCell ⟨p, 7, none⟩ h') p t #[a', b', c', d', e', f', g', h'] := by
  have k1 : Blk (w.setCell ⟨p, 0, none⟩ a') p t #[a', b, c, d, e, f, g, h] := k.set_ 0 a'
  have k2 : Blk ((w.setCell ⟨p, 0, none⟩ a').setCell ⟨p, 1, none⟩ b') p t #[a', b', c, d, e, f, g, h] := k1.set_ 1 b'
  have k3 : Blk (((w.setCell ⟨p, 0, none⟩ a').setCell ⟨p, 1, none⟩ b').setCell ⟨p, 2, none⟩ c') p t #[a', b', c', d, e, f, g, h] := k2.set_ 2 c'
  have k4 : Blk ((((w.setCell ⟨p, 0, none⟩ a').setCell ⟨p, 1, none⟩ b').setCell ⟨p, 2, none⟩ c').setCell ⟨p, 3, none⟩ d') p t #[a', b', c', d', e, f, g, h] := k3.set_ 3 d'
  have k5 : Blk (((((w.setCell ⟨p, 0, none⟩ a').setCell ⟨p, 1, none⟩ b').setCell ⟨p, 2, none⟩ c').setCell ⟨p, 3, none⟩ d').setCell ⟨p, 4, none⟩ e') p t #[a', b', c', d', e', f, g, h] := k4.set_ 4 e'
  have k6 : Blk ((((((w.setCell ⟨p, 0, none⟩ a').setCell ⟨p, 1, none⟩ b').setCell ⟨p, 2, none⟩ c').setCell ⟨p, 3, none⟩ d').setCell ⟨p, 4, none⟩ e').setCell ⟨p, 5, none⟩ f') p t #[a', b', c', d', e', f', g, h] := k5.set_ 5 f'
  have k7 : Blk (((((((w.setCell ⟨p, 0, none⟩ a').setCell ⟨p, 1, none⟩ b').setCell ⟨p, 2, none⟩ c').setCell ⟨p, 3, none⟩ d').setCell ⟨p, 4, none⟩ e').setCell ⟨p, 5, none⟩ f').setCell ⟨p, 6, none⟩ g') p t #[a', b', c', d', e', f', g', h] := k6.set_ 6 g'
  have k8 : Blk ((((((((w.setCell ⟨p, 0, none⟩ a').setCell ⟨p, 1, none⟩ b').setCell ⟨p, 2, none⟩ c').setCell ⟨p, 3, none⟩ d').setCell ⟨p, 4, none⟩ e').setCell ⟨p, 5, none⟩ f').setCell ⟨p, 6, none⟩ g').setCell ⟨p, 7, none⟩ h') p t #[a', b', c', d', e', f', g', h'] := k7.set_ 7 h'
  exact k8
theorem Blk.far_lo {w : World} {p q t : Nat} {cs : Array Value} (k : Blk w p t cs) (hne : p ≠ q) (a' b' c' d' : Value) : Blk ((((w.setCell ⟨q, 0, none⟩ a').setCell ⟨q, 1, none⟩ b').setCell ⟨q, 2, none⟩ c').setCell ⟨q, 3, none⟩ d') p t cs := ((((k.far (p := ⟨q, 0, none⟩) hne a').far (p := ⟨q, 1, none⟩) hne b').far (p := ⟨q, 2, none⟩) hne c').far (p := ⟨q, 3, none⟩) hne d')
theorem below_lo {B : Nat} {w0 w : World} (k : Below B w0 w) {p : Nat} (hp : B ≤ p) (a' b' c' d' : Value) : Below B w0 ((((w.setCell ⟨p, 0, none⟩ a').setCell ⟨p, 1, none⟩ b').setCell ⟨p, 2, none⟩ c').setCell ⟨p, 3, none⟩ d') := ((((k.setCell (p := ⟨p, 0, none⟩) hp a').setCell (p := ⟨p, 1, none⟩) hp b').setCell (p := ⟨p, 2, none⟩) hp c').setCell (p := ⟨p, 3, none⟩) hp d')
theorem Blk.far_hi {w : World} {p q t : Nat} {cs : Array Value} (k : Blk w p t cs) (hne : p ≠ q) (a' b' c' d' : Value) : Blk ((((w.setCell ⟨q, 4, none⟩ a').setCell ⟨q, 5, none⟩ b').setCell ⟨q, 6, none⟩ c').setCell ⟨q, 7, none⟩ d') p t cs := ((((k.far (p := ⟨q, 4, none⟩) hne a').far (p := ⟨q, 5, none⟩) hne b').far (p := ⟨q, 6, none⟩) hne c').far (p := ⟨q, 7, none⟩) hne d')
theorem below_hi {B : Nat} {w0 w : World} (k : Below B w0 w) {p : Nat} (hp : B ≤ p) (a' b' c' d' : Value) : Below B w0 ((((w.setCell ⟨p, 4, none⟩ a').setCell ⟨p, 5, none⟩ b').setCell ⟨p, 6, none⟩ c').setCell ⟨p, 7, none⟩ d') := ((((k.setCell (p := ⟨p, 4, none⟩) hp a').setCell (p := ⟨p, 5, none⟩) hp b').setCell (p := ⟨p, 6, none⟩) hp c').setCell (p := ⟨p, 7, none⟩) hp d')
theorem below_8 {B : Nat} {w0 w : World} (k : Below B w0 w) {p : Nat} (hp : B ≤ p) (a' b' c' d' e' f' g' h' : Value) : Below B w0 ((((((((w.setCell ⟨p, 0, none⟩ a').setCell ⟨p, 1, none⟩ b').setCell ⟨p, 2, none⟩ c').setCell ⟨p, 3, none⟩ d').setCell ⟨p, 4, none⟩ e').setCell ⟨p, 5, none⟩ f').setCell ⟨p, 6, none⟩ g').setCell ⟨p, 7, none⟩ h') := ((((((((k.setCell (p := ⟨p, 0, none⟩) hp a').setCell (p := ⟨p, 1, none⟩) hp b').setCell (p := ⟨p, 2, none⟩) hp c').setCell (p := ⟨p, 3, none⟩) hp d').setCell (p := ⟨p, 4, none⟩) hp e').setCell (p := ⟨p, 5, none⟩) hp f').setCell (p := ⟨p, 6, none⟩) hp g').setCell (p := ⟨p, 7, none⟩) hp h')
set_option maxRecDepth 100000 in
set_option maxHeartbeats 4000000 in
theorem aPut_any (w : World) (s t : Sp) (o p : Bool) (id : Int) (q : Sp) (h1 : -9223372036854775808 ≤ id) (h2 : id ≤ 9223372036854775807) :
    Calls Try.prog 13 #[.agg #[.int .i64 s.1, .int .i64 s.2.1, .int .i64 s.2.2, .bool o, .int .i64 t.1, .int .i64 t.2.1, .int .i64 t.2.2, .bool p], .int .i64 id, spV q] w fun e w' =>
      e = .returned (.tuple #[twoV (putA (s, o) (t, p) id q).1 (putA (s, o) (t, p) id q).2.1, .int .i64 (putA (s, o) (t, p) id q).2.2]) ∧ Below w.heap.size w w' := by
  obtain ⟨X, hX⟩ : ∃ X : World, X = ((w.alloc (.cells #[.int .i64 s.1, .int .i64 s.2.1, .int .i64 s.2.2, .bool o, .int .i64 t.1, .int .i64 t.2.1, .int .i64 t.2.2, .bool p] 26)).alloc (.cells #[.int .i64 q.1, .int .i64 q.2.1, .int .i64 q.2.2] 32)).alloc (.cells (cA zeroA zeroA) 26) := ⟨_, rfl⟩
  have hs1 : (w.alloc (.cells #[.int .i64 s.1, .int .i64 s.2.1, .int .i64 s.2.2, .bool o, .int .i64 t.1, .int .i64 t.2.1, .int .i64 t.2.2, .bool p] 26)).heap.size = w.heap.size + 1 := by simp
  have hs2 : ((w.alloc (.cells #[.int .i64 s.1, .int .i64 s.2.1, .int .i64 s.2.2, .bool o, .int .i64 t.1, .int .i64 t.2.1, .int .i64 t.2.2, .bool p] 26)).alloc (.cells #[.int .i64 q.1, .int .i64 q.2.1, .int .i64 q.2.2] 32)).heap.size = w.heap.size + 1 + 1 := by simp
  have HB := Lib.hid (show Below w.heap.size w X by rw [hX]; exact (below_two _ _ _).alloc (by simp; omega) _)
  have HK := Lib.hid (show Blk X w.heap.size 26 (cA (s, o) (t, p)) by rw [hX]; exact ((Blk.new w 26 _).alloc _).alloc _)
  have HR := Lib.hid (show Blk X (w.heap.size + 1 + 1) 26 (cA zeroA zeroA) by rw [hX, ← hs2]; exact Blk.new _ _ _)
  clear hs1 hs2
  subst hX
  go_enter Try.func13, Try.ntmps13
  by_cases h0 : id < 0
  · have HL := Lib.hid (show putA (s, o) (t, p) id q = (zeroA, zeroA, 2) by unfold putA; rw [if_neg (by omega)])
    go_wp2
    exact bodyPost_ret (v := .tuple #[twoV zeroA zeroA, .int .i64 2]) (by simp [results, Try.results13, go_sem, zeroA]) rfl ⟨by rw [HL.out], (below_two _ _ _).alloc (by simp; omega) _⟩
  by_cases h3 : 2 ≤ id
  · have HL := Lib.hid (show putA (s, o) (t, p) id q = (zeroA, zeroA, 2) by unfold putA; rw [if_neg (by omega)])
    go_wp2
    exact bodyPost_ret (v := .tuple #[twoV zeroA zeroA, .int .i64 2]) (by simp [results, Try.results13, go_sem, zeroA]) rfl ⟨by rw [HL.out], (below_two _ _ _).alloc (by simp; omega) _⟩
  have h4 : id = 0 ∨ id = 1 := by omega
  clear h0 h1 h2 h3
  rcases h4 with rfl | rfl
  · have HSP := Lib.hid (spot_any (((w.alloc (.cells #[.int .i64 s.1, .int .i64 s.2.1, .int .i64 s.2.2, .bool o, .int .i64 t.1, .int .i64 t.2.1, .int .i64 t.2.2, .bool p] 26)).alloc (.cells #[.int .i64 q.1, .int .i64 q.2.1, .int .i64 q.2.2] 32)).alloc (.cells (cA zeroA zeroA) 26)) q)
    cases hs : spotOf q with
    | mk sp ok =>
    rw [hs] at HSP
    cases ok with
    | true =>
      have HL := Lib.hid (show putA (s, o) (t, p) 0 q = ((sp, true), (t, p), 0) by unfold putA; rw [hs]; rfl)
      clear hs
      go_wp2_with fail
      go_at_call 20
      refine HSP.out.mono ?_
      rintro e w1 ⟨rfl, hb1⟩
      have hk1 := (HK.out.below hb1 HK.out.lt).alloc (.cells #[.int .i64 sp.1, .int .i64 sp.2.1, .int .i64 sp.2.2] 23)
      have hr1 := (HR.out.below hb1 HR.out.lt).alloc (.cells #[.int .i64 sp.1, .int .i64 sp.2.1, .int .i64 sp.2.2] 23)
      obtain ⟨⟨c0, c1, c2, c3, c4, c5, c6, c7⟩, d0, d1, d2, d3, d4, d5, d6, d7⟩ := hk1.eight
      obtain ⟨⟨e0, e1, e2, e3, e4, e5, e6, e7⟩, f0, f1, f2, f3, f4, f5, f6, f7⟩ := hr1.eight
      have hb2 := HB.out.trans (hb1.mono HB.out.size)
      have HB1 := Lib.hid (hb2.alloc hb2.size (.cells #[.int .i64 sp.1, .int .i64 sp.2.1, .int .i64 sp.2.2] 23))
      have HKK := Lib.hid hk1
      have HRR := Lib.hid hr1
      clear hb1 hb2 hk1 hr1
      go_wp2
      obtain ⟨⟨q0, q1, q2, q3, q4, q5, q6, q7⟩, -⟩ := ((HRR.out.far_lo (q := w.heap.size) (by omega) (.int .i64 sp.1) (.int .i64 sp.2.1) (.int .i64 sp.2.2) (.bool true)).set8 (.int .i64 sp.1) (.int .i64 sp.2.1) (.int .i64 sp.2.2) (.bool true) (.int .i64 t.1) (.int .i64 t.2.1) (.int .i64 t.2.2) (.bool p)).eight
      exact bodyPost_ret (v := .tuple #[twoV (sp, true) (t, p), .int .i64 0]) (by simp [results, Try.results13, go_sem, q0, q1, q2, q3, q4, q5, q6, q7]) rfl
        ⟨by rw [HL.out], below_8 (below_lo HB1.out (Nat.le_refl _) _ _ _ _) (by omega) _ _ _ _ _ _ _ _⟩
    | false =>
      have HL := Lib.hid (show putA (s, o) (t, p) 0 q = (zeroA, zeroA, 10) by unfold putA; rw [hs]; rfl)
      clear hs
      go_wp2_with fail
      go_at_call 20
      refine HSP.out.mono ?_
      rintro e w1 ⟨rfl, hb1⟩
      have hr1 := (HR.out.below hb1 HR.out.lt).alloc (.cells #[.int .i64 sp.1, .int .i64 sp.2.1, .int .i64 sp.2.2] 23)
      obtain ⟨⟨e0, e1, e2, e3, e4, e5, e6, e7⟩, f0, f1, f2, f3, f4, f5, f6, f7⟩ := hr1.eight
      have hb2 := HB.out.trans (hb1.mono HB.out.size)
      have HB1 := Lib.hid (hb2.alloc hb2.size (.cells #[.int .i64 sp.1, .int .i64 sp.2.1, .int .i64 sp.2.2] 23))
      have HRR := Lib.hid hr1
      clear hb1 hb2 hr1
      go_wp2
      obtain ⟨⟨q0, q1, q2, q3, q4, q5, q6, q7⟩, -⟩ := (HRR.out.set8 (.int .i64 0) (.int .i64 0) (.int .i64 0) (.bool false) (.int .i64 0) (.int .i64 0) (.int .i64 0) (.bool false)).eight
      exact bodyPost_ret (v := .tuple #[twoV zeroA zeroA, .int .i64 10]) (by simp [results, Try.results13, go_sem, zeroA, q0, q1, q2, q3, q4, q5, q6, q7]) rfl
        ⟨by rw [HL.out], below_8 HB1.out (by omega) _ _ _ _ _ _ _ _⟩
  · have HSP := Lib.hid (spot_any (((w.alloc (.cells #[.int .i64 s.1, .int .i64 s.2.1, .int .i64 s.2.2, .bool o, .int .i64 t.1, .int .i64 t.2.1, .int .i64 t.2.2, .bool p] 26)).alloc (.cells #[.int .i64 q.1, .int .i64 q.2.1, .int .i64 q.2.2] 32)).alloc (.cells (cA zeroA zeroA) 26)) q)
    cases hs : spotOf q with
    | mk sp ok =>
    rw [hs] at HSP
    cases ok with
    | true =>
      have HL := Lib.hid (show putA (s, o) (t, p) 1 q = ((s, o), (sp, true), 0) by unfold putA; rw [hs]; rfl)
      clear hs
      go_wp2_with fail
      go_at_call 20
      refine HSP.out.mono ?_
      rintro e w1 ⟨rfl, hb1⟩
      have hk1 := (HK.out.below hb1 HK.out.lt).alloc (.cells #[.int .i64 sp.1, .int .i64 sp.2.1, .int .i64 sp.2.2] 23)
      have hr1 := (HR.out.below hb1 HR.out.lt).alloc (.cells #[.int .i64 sp.1, .int .i64 sp.2.1, .int .i64 sp.2.2] 23)
      obtain ⟨⟨c0, c1, c2, c3, c4, c5, c6, c7⟩, d0, d1, d2, d3, d4, d5, d6, d7⟩ := hk1.eight
      obtain ⟨⟨e0, e1, e2, e3, e4, e5, e6, e7⟩, f0, f1, f2, f3, f4, f5, f6, f7⟩ := hr1.eight
      have hb2 := HB.out.trans (hb1.mono HB.out.size)
      have HB1 := Lib.hid (hb2.alloc hb2.size (.cells #[.int .i64 sp.1, .int .i64 sp.2.1, .int .i64 sp.2.2] 23))
      have HKK := Lib.hid hk1
      have HRR := Lib.hid hr1
      clear hb1 hb2 hk1 hr1
      go_wp2
      obtain ⟨⟨q0, q1, q2, q3, q4, q5, q6, q7⟩, -⟩ := ((HRR.out.far_hi (q := w.heap.size) (by omega) (.int .i64 sp.1) (.int .i64 sp.2.1) (.int .i64 sp.2.2) (.bool true)).set8 (.int .i64 s.1) (.int .i64 s.2.1) (.int .i64 s.2.2) (.bool o) (.int .i64 sp.1) (.int .i64 sp.2.1) (.int .i64 sp.2.2) (.bool true)).eight
      exact bodyPost_ret (v := .tuple #[twoV (s, o) (sp, true), .int .i64 0]) (by simp [results, Try.results13, go_sem, q0, q1, q2, q3, q4, q5, q6, q7]) rfl
        ⟨by rw [HL.out], below_8 (below_hi HB1.out (Nat.le_refl _) _ _ _ _) (by omega) _ _ _ _ _ _ _ _⟩
    | false =>
      have HL := Lib.hid (show putA (s, o) (t, p) 1 q = (zeroA, zeroA, 10) by unfold putA; rw [hs]; rfl)
      clear hs
      go_wp2_with fail
      go_at_call 20
      refine HSP.out.mono ?_
      rintro e w1 ⟨rfl, hb1⟩
      have hr1 := (HR.out.below hb1 HR.out.lt).alloc (.cells #[.int .i64 sp.1, .int .i64 sp.2.1, .int .i64 sp.2.2] 23)
      obtain ⟨⟨e0, e1, e2, e3, e4, e5, e6, e7⟩, f0, f1, f2, f3, f4, f5, f6, f7⟩ := hr1.eight
      have hb2 := HB.out.trans (hb1.mono HB.out.size)
      have HB1 := Lib.hid (hb2.alloc hb2.size (.cells #[.int .i64 sp.1, .int .i64 sp.2.1, .int .i64 sp.2.2] 23))
      have HRR := Lib.hid hr1
      clear hb1 hb2 hr1
      go_wp2
      obtain ⟨⟨q0, q1, q2, q3, q4, q5, q6, q7⟩, -⟩ := (HRR.out.set8 (.int .i64 0) (.int .i64 0) (.int .i64 0) (.bool false) (.int .i64 0) (.int .i64 0) (.int .i64 0) (.bool false)).eight
      exact bodyPost_ret (v := .tuple #[twoV zeroA zeroA, .int .i64 10]) (by simp [results, Try.results13, go_sem, zeroA, q0, q1, q2, q3, q4, q5, q6, q7]) rfl
        ⟨by rw [HL.out], below_8 HB1.out (by omega) _ _ _ _ _ _ _ _⟩
set_option maxRecDepth 100000 in
set_option maxHeartbeats 4000000 in
theorem rPut_any (w : World) (s t : Sp) (o p : Bool) (id : Int) (q : Sp) (h1 : -9223372036854775808 ≤ id) (h2 : id ≤ 9223372036854775807) :
    Calls Try.prog 14 #[.agg #[.int .i64 s.1, .int .i64 s.2.1, .int .i64 s.2.2, .bool o, .int .i64 t.1, .int .i64 t.2.1, .int .i64 t.2.2, .bool p], .int .i64 id, spV q] w fun e w' =>
      e = .returned (.tuple #[twoV (putA (s, o) (t, p) id q).1 (putA (s, o) (t, p) id q).2.1, .int .i64 (putA (s, o) (t, p) id q).2.2]) ∧ Below w.heap.size w w' := by
  obtain ⟨X, hX⟩ : ∃ X : World, X = ((w.alloc (.cells #[.int .i64 s.1, .int .i64 s.2.1, .int .i64 s.2.2, .bool o, .int .i64 t.1, .int .i64 t.2.1, .int .i64 t.2.2, .bool p] 26)).alloc (.cells #[.int .i64 q.1, .int .i64 q.2.1, .int .i64 q.2.2] 32)).alloc (.cells (cA zeroA zeroA) 26) := ⟨_, rfl⟩
  have hs1 : (w.alloc (.cells #[.int .i64 s.1, .int .i64 s.2.1, .int .i64 s.2.2, .bool o, .int .i64 t.1, .int .i64 t.2.1, .int .i64 t.2.2, .bool p] 26)).heap.size = w.heap.size + 1 := by simp
  have hs2 : ((w.alloc (.cells #[.int .i64 s.1, .int .i64 s.2.1, .int .i64 s.2.2, .bool o, .int .i64 t.1, .int .i64 t.2.1, .int .i64 t.2.2, .bool p] 26)).alloc (.cells #[.int .i64 q.1, .int .i64 q.2.1, .int .i64 q.2.2] 32)).heap.size = w.heap.size + 1 + 1 := by simp
  have HB := Lib.hid (show Below w.heap.size w X by rw [hX]; exact (below_two _ _ _).alloc (by simp; omega) _)
  have HK := Lib.hid (show Blk X w.heap.size 26 (cA (s, o) (t, p)) by rw [hX]; exact ((Blk.new w 26 _).alloc _).alloc _)
  have HR := Lib.hid (show Blk X (w.heap.size + 1 + 1) 26 (cA zeroA zeroA) by rw [hX, ← hs2]; exact Blk.new _ _ _)
  clear hs1 hs2
  subst hX
  go_enter Try.func14, Try.ntmps14
  by_cases h0 : id < 0
  · have HL := Lib.hid (show putA (s, o) (t, p) id q = (zeroA, zeroA, 2) by unfold putA; rw [if_neg (by omega)])
    have g0 : (id != 0) = true := by simp; omega
    have g1 : (id != 1) = true := by simp; omega
    go_wp2
    exact bodyPost_ret (v := .tuple #[twoV zeroA zeroA, .int .i64 2]) (by simp [results, Try.results14, go_sem, zeroA]) rfl ⟨by rw [HL.out], (below_two _ _ _).alloc (by simp; omega) _⟩
  by_cases h3 : 2 ≤ id
  · have HL := Lib.hid (show putA (s, o) (t, p) id q = (zeroA, zeroA, 2) by unfold putA; rw [if_neg (by omega)])
    have g0 : (id != 0) = true := by simp; omega
    have g1 : (id != 1) = true := by simp; omega
    go_wp2
    exact bodyPost_ret (v := .tuple #[twoV zeroA zeroA, .int .i64 2]) (by simp [results, Try.results14, go_sem, zeroA]) rfl ⟨by rw [HL.out], (below_two _ _ _).alloc (by simp; omega) _⟩
  have h4 : id = 0 ∨ id = 1 := by omega
  clear h0 h1 h2 h3
  rcases h4 with rfl | rfl
  · have HSP := Lib.hid (qSpot_any (((w.alloc (.cells #[.int .i64 s.1, .int .i64 s.2.1, .int .i64 s.2.2, .bool o, .int .i64 t.1, .int .i64 t.2.1, .int .i64 t.2.2, .bool p] 26)).alloc (.cells #[.int .i64 q.1, .int .i64 q.2.1, .int .i64 q.2.2] 32)).alloc (.cells (cA zeroA zeroA) 26)) q)
    cases hs : spotOf q with
    | mk sp ok =>
    rw [hs] at HSP
    cases ok with
    | true =>
      have HL := Lib.hid (show putA (s, o) (t, p) 0 q = ((sp, true), (t, p), 0) by unfold putA; rw [hs]; rfl)
      clear hs
      go_wp2_with fail
      go_at_call 26
      refine HSP.out.mono ?_
      rintro e w1 ⟨rfl, hb1⟩
      have hk1 := (HK.out.below hb1 HK.out.lt).alloc (.cells #[.int .i64 sp.1, .int .i64 sp.2.1, .int .i64 sp.2.2] 23)
      have hr1 := (HR.out.below hb1 HR.out.lt).alloc (.cells #[.int .i64 sp.1, .int .i64 sp.2.1, .int .i64 sp.2.2] 23)
      obtain ⟨⟨c0, c1, c2, c3, c4, c5, c6, c7⟩, d0, d1, d2, d3, d4, d5, d6, d7⟩ := hk1.eight
      obtain ⟨⟨e0, e1, e2, e3, e4, e5, e6, e7⟩, f0, f1, f2, f3, f4, f5, f6, f7⟩ := hr1.eight
      have hb2 := HB.out.trans (hb1.mono HB.out.size)
      have HB1 := Lib.hid (hb2.alloc hb2.size (.cells #[.int .i64 sp.1, .int .i64 sp.2.1, .int .i64 sp.2.2] 23))
      have HKK := Lib.hid hk1
      have HRR := Lib.hid hr1
      clear hb1 hb2 hk1 hr1
      go_wp2
      obtain ⟨⟨q0, q1, q2, q3, q4, q5, q6, q7⟩, -⟩ := ((HRR.out.far_lo (q := w.heap.size) (by omega) (.int .i64 sp.1) (.int .i64 sp.2.1) (.int .i64 sp.2.2) (.bool true)).set8 (.int .i64 sp.1) (.int .i64 sp.2.1) (.int .i64 sp.2.2) (.bool true) (.int .i64 t.1) (.int .i64 t.2.1) (.int .i64 t.2.2) (.bool p)).eight
      exact bodyPost_ret (v := .tuple #[twoV (sp, true) (t, p), .int .i64 0]) (by simp [results, Try.results14, go_sem, q0, q1, q2, q3, q4, q5, q6, q7]) rfl
        ⟨by rw [HL.out], below_8 (below_lo HB1.out (Nat.le_refl _) _ _ _ _) (by omega) _ _ _ _ _ _ _ _⟩
    | false =>
      have HL := Lib.hid (show putA (s, o) (t, p) 0 q = (zeroA, zeroA, 10) by unfold putA; rw [hs]; rfl)
      clear hs
      go_wp2_with fail
      go_at_call 26
      refine HSP.out.mono ?_
      rintro e w1 ⟨rfl, hb1⟩
      have hr1 := (HR.out.below hb1 HR.out.lt).alloc (.cells #[.int .i64 sp.1, .int .i64 sp.2.1, .int .i64 sp.2.2] 23)
      obtain ⟨⟨e0, e1, e2, e3, e4, e5, e6, e7⟩, f0, f1, f2, f3, f4, f5, f6, f7⟩ := hr1.eight
      have hb2 := HB.out.trans (hb1.mono HB.out.size)
      have HB1 := Lib.hid (hb2.alloc hb2.size (.cells #[.int .i64 sp.1, .int .i64 sp.2.1, .int .i64 sp.2.2] 23))
      have HRR := Lib.hid hr1
      clear hb1 hb2 hr1
      go_wp2
      obtain ⟨⟨q0, q1, q2, q3, q4, q5, q6, q7⟩, -⟩ := (HRR.out.set8 (.int .i64 0) (.int .i64 0) (.int .i64 0) (.bool false) (.int .i64 0) (.int .i64 0) (.int .i64 0) (.bool false)).eight
      exact bodyPost_ret (v := .tuple #[twoV zeroA zeroA, .int .i64 10]) (by simp [results, Try.results14, go_sem, zeroA, q0, q1, q2, q3, q4, q5, q6, q7]) rfl
        ⟨by rw [HL.out], below_8 HB1.out (by omega) _ _ _ _ _ _ _ _⟩
  · have HSP := Lib.hid (qSpot_any (((w.alloc (.cells #[.int .i64 s.1, .int .i64 s.2.1, .int .i64 s.2.2, .bool o, .int .i64 t.1, .int .i64 t.2.1, .int .i64 t.2.2, .bool p] 26)).alloc (.cells #[.int .i64 q.1, .int .i64 q.2.1, .int .i64 q.2.2] 32)).alloc (.cells (cA zeroA zeroA) 26)) q)
    cases hs : spotOf q with
    | mk sp ok =>
    rw [hs] at HSP
    cases ok with
    | true =>
      have HL := Lib.hid (show putA (s, o) (t, p) 1 q = ((s, o), (sp, true), 0) by unfold putA; rw [hs]; rfl)
      clear hs
      go_wp2_with fail
      go_at_call 26
      refine HSP.out.mono ?_
      rintro e w1 ⟨rfl, hb1⟩
      have hk1 := (HK.out.below hb1 HK.out.lt).alloc (.cells #[.int .i64 sp.1, .int .i64 sp.2.1, .int .i64 sp.2.2] 23)
      have hr1 := (HR.out.below hb1 HR.out.lt).alloc (.cells #[.int .i64 sp.1, .int .i64 sp.2.1, .int .i64 sp.2.2] 23)
      obtain ⟨⟨c0, c1, c2, c3, c4, c5, c6, c7⟩, d0, d1, d2, d3, d4, d5, d6, d7⟩ := hk1.eight
      obtain ⟨⟨e0, e1, e2, e3, e4, e5, e6, e7⟩, f0, f1, f2, f3, f4, f5, f6, f7⟩ := hr1.eight
      have hb2 := HB.out.trans (hb1.mono HB.out.size)
      have HB1 := Lib.hid (hb2.alloc hb2.size (.cells #[.int .i64 sp.1, .int .i64 sp.2.1, .int .i64 sp.2.2] 23))
      have HKK := Lib.hid hk1
      have HRR := Lib.hid hr1
      clear hb1 hb2 hk1 hr1
      go_wp2
      obtain ⟨⟨q0, q1, q2, q3, q4, q5, q6, q7⟩, -⟩ := ((HRR.out.far_hi (q := w.heap.size) (by omega) (.int .i64 sp.1) (.int .i64 sp.2.1) (.int .i64 sp.2.2) (.bool true)).set8 (.int .i64 s.1) (.int .i64 s.2.1) (.int .i64 s.2.2) (.bool o) (.int .i64 sp.1) (.int .i64 sp.2.1) (.int .i64 sp.2.2) (.bool true)).eight
      exact bodyPost_ret (v := .tuple #[twoV (s, o) (sp, true), .int .i64 0]) (by simp [results, Try.results14, go_sem, q0, q1, q2, q3, q4, q5, q6, q7]) rfl
        ⟨by rw [HL.out], below_8 (below_hi HB1.out (Nat.le_refl _) _ _ _ _) (by omega) _ _ _ _ _ _ _ _⟩
    | false =>
      have HL := Lib.hid (show putA (s, o) (t, p) 1 q = (zeroA, zeroA, 10) by unfold putA; rw [hs]; rfl)
      clear hs
      go_wp2_with fail
      go_at_call 26
      refine HSP.out.mono ?_
      rintro e w1 ⟨rfl, hb1⟩
      have hr1 := (HR.out.below hb1 HR.out.lt).alloc (.cells #[.int .i64 sp.1, .int .i64 sp.2.1, .int .i64 sp.2.2] 23)
      obtain ⟨⟨e0, e1, e2, e3, e4, e5, e6, e7⟩, f0, f1, f2, f3, f4, f5, f6, f7⟩ := hr1.eight
      have hb2 := HB.out.trans (hb1.mono HB.out.size)
      have HB1 := Lib.hid (hb2.alloc hb2.size (.cells #[.int .i64 sp.1, .int .i64 sp.2.1, .int .i64 sp.2.2] 23))
      have HRR := Lib.hid hr1
      clear hb1 hb2 hr1
      go_wp2
      obtain ⟨⟨q0, q1, q2, q3, q4, q5, q6, q7⟩, -⟩ := (HRR.out.set8 (.int .i64 0) (.int .i64 0) (.int .i64 0) (.bool false) (.int .i64 0) (.int .i64 0) (.int .i64 0) (.bool false)).eight
      exact bodyPost_ret (v := .tuple #[twoV zeroA zeroA, .int .i64 10]) (by simp [results, Try.results14, go_sem, zeroA, q0, q1, q2, q3, q4, q5, q6, q7]) rfl
        ⟨by rw [HL.out], below_8 HB1.out (by omega) _ _ _ _ _ _ _ _⟩
end Go.Proofs.Ytokmbnmhdicljaa
