/- The document's Put: the walk. -/
import Derived.Test.YtjbhkmpabajeoaaDoorLFPut
namespace Go.Proofs.YtjbhkmpabajeoaaDoor
set_option linter.unusedSimpArgs false
set_option linter.unusedVariables false
open Go.RowKit

theorem eq_run {u o : OpR} (hu : u.Ok) (ho : o.Ok) : ∀ w, (Op.equalIn 10000 27 (.agg #[.int .i64 u.k, .int .i64 u.a1, .int .i64 u.a2, .int .i64 u.a3, .int .i64 u.b1, .int .i64 u.b2, .int .i64 u.b3, .int .u8 u.c1, .int .u8 u.c2, .int .i64 u.n]) (.agg #[.int .i64 o.k, .int .i64 o.a1, .int .i64 o.a2, .int .i64 o.a3, .int .i64 o.b1, .int .i64 o.b2, .int .i64 o.b3, .int .u8 o.c1, .int .u8 o.c2, .int .i64 o.n])).run Tryd.prog w = .ok (decide (u = o)) w := fun w => eq_op hu ho w
theorem fline_run (o : OpR) (ho : o.Ok) (s : Bs) (u : OpR) (h : lineR o = (s, u)) : ∀ w, Calls Tryd.prog 27 #[.agg #[.int .i64 o.k, .int .i64 o.a1, .int .i64 o.a2, .int .i64 o.a3, .int .i64 o.b1, .int .i64 o.b2, .int .i64 o.b3, .int .u8 o.c1, .int .u8 o.c2, .int .i64 o.n]] w fun e w' => e = .returned (.tuple #[.string (str s), .agg #[.int .i64 u.k, .int .i64 u.a1, .int .i64 u.a2, .int .i64 u.a3, .int .i64 u.b1, .int .i64 u.b2, .int .i64 u.b3, .int .u8 u.c1, .int .u8 u.c2, .int .i64 u.n]]) ∧ Below w.heap.size w w' := by
  intro w
  have := fline_any w o ho
  rw [h] at this
  exact this
/-- What is behind the line, as it may be: by what it is and whether the fields are used. -/
def putS (s : Bs) (b : Bool) : Value := if s = [] then .tuple #[.string (str []), .int .i64 2] else if b = true then .tuple #[.string (str s), .int .i64 0] else .tuple #[.string (str []), .int .i64 2]
set_option maxRecDepth 100000 in
set_option maxHeartbeats 4000000 in
theorem fput_walk (w : World) (o : OpR) (ho : o.Ok) : Calls Tryd.prog 12 #[opV o] w fun e w' => e = .returned (putV o) ∧ Below w.heap.size w w' := by
  have HPV := Lib.hid (put_ref o)
  have HN := Lib.hid (fun W => fname_any W o.c1 ho.c1)
  have HE := Lib.hid (eq_run (lineR_ok ho) ho)
  have HB := Lib.hid ((Below.refl w.heap.size w).alloc (Nat.le_refl _) (.cells (opC o) 27))
  have hk := Blk.new w 27 (opC o)
  unfold putR at HPV
  generalize hname : nameK o.c1 = nm at HN HPV
  obtain ⟨s, u, hline⟩ : ∃ s u, lineR o = (s, u) := ⟨_, _, rfl⟩
  have HL := Lib.hid (fline_run o ho s u hline)
  rw [hline] at HE HPV
  simp only at HE HPV
  clear hname hline ho
  unfold opV opC
  unfold opC at hk HB
  obtain ⟨W, hW⟩ : ∃ W, W = w.alloc (.cells #[.int .i64 o.k, .int .i64 o.a1, .int .i64 o.a2, .int .i64 o.a3, .int .i64 o.b1, .int .i64 o.b2, .int .i64 o.b3, .int .u8 o.c1, .int .u8 o.c2, .int .i64 o.n] 27) := ⟨_, rfl⟩
  rw [← hW] at hk HB
  have HK := Lib.hid (show Blk W w.heap.size 27 (opC o) from hk)
  obtain ⟨⟨c0, c1, c2, c3, c4, c5, c6, c7, c8, c9⟩, -⟩ := HK.out.op
  clear hk
  by_cases h1 : o.k = 1
  · have g1 : (o.k == 1) = true := by simp [h1]
    have HK1 := Lib.hid h1
    clear h1
    rcases Bool.eq_false_or_eq_true (List.isEmpty nm) with hn | hn
    · have HPU := Lib.hid (show putP o = none by rw [← HPV.out, if_pos ⟨.inl HK1.out, by simpa using hn⟩])
      go_enter Tryd.func12, Tryd.ntmps12
      go_wp2_with (go_at_call 26; (try rw [← hW]); (with_reducible refine (HN.out _).mono ?_); rintro e w1 ⟨rfl, hb1⟩; replace HK := Lib.hid (HK.out.below hb1 HK.out.lt); replace HB := Lib.hid (HB.out.trans (hb1.mono HB.out.size)); obtain ⟨⟨c0, c1, c2, c3, c4, c5, c6, c7, c8, c9⟩, -⟩ := HK.out.op)
      go_ret2
      refine ⟨?_, HB.out⟩
      unfold putV
      rw [HPU.out]
      rfl
    · have HNN := Lib.hid (show nm ≠ [] by simpa using hn)
      go_enter Tryd.func12, Tryd.ntmps12
      go_wp2_with (go_at_call 26; (try rw [← hW]); (with_reducible refine (HN.out _).mono ?_); rintro e w1 ⟨rfl, hb1⟩; replace HK := Lib.hid (HK.out.below hb1 HK.out.lt); replace HB := Lib.hid (HB.out.trans (hb1.mono HB.out.size)); obtain ⟨⟨c0, c1, c2, c3, c4, c5, c6, c7, c8, c9⟩, -⟩ := HK.out.op)
      (try rw [← hW])
      go_at_call 27
      refine (HL.out _).mono ?_
      rintro e w2 ⟨rfl, hb2⟩
      have HK2 := Lib.hid (HK.out.below hb2 HK.out.lt)
      have HB2 := Lib.hid ((HB.out.trans (hb2.mono HB.out.size)).alloc (Nat.le_trans HB.out.size hb2.size) (.cells (opC u) 27))
      obtain ⟨⟨d0, d1, d2, d3, d4, d5, d6, d7, d8, d9⟩, -⟩ := HK2.out.op
      have hlt := HK2.out.lt
      clear hb2
      have hEq := HE.out
      by_cases hue : u = o
      · have HPU := Lib.hid (show putP o = if s = [] then none else some s by rw [← HPV.out, if_neg (fun h => HNN.out h.2), if_pos hue])
        simp only [hue, decide_true] at hEq
        subst hue
        rcases Bool.eq_false_or_eq_true (List.isEmpty s) with hs | hs
        · go_wp2
          go_ret2
          refine ⟨?_, HB2.out⟩
          unfold putV
          rw [HPU.out, if_pos (by simpa using hs)]
          rfl
        · go_wp2
          go_ret2
          refine ⟨?_, HB2.out⟩
          unfold putV
          rw [HPU.out, if_neg (by simpa using hs)]
          rfl
      · have HPU := Lib.hid (show putP o = none by rw [← HPV.out, if_neg (fun h => HNN.out h.2), if_neg hue]; split <;> rfl)
        simp only [hue, decide_false] at hEq
        clear hue
        rcases Bool.eq_false_or_eq_true (List.isEmpty s) with hs | hs
        · go_wp2
          go_ret2
          refine ⟨?_, HB2.out⟩
          unfold putV
          rw [HPU.out]
          rfl
        · go_wp2
          go_ret2
          refine ⟨?_, HB2.out⟩
          unfold putV
          rw [HPU.out]
          rfl
  have g1 : (o.k == 1) = false := by simp [h1]
  by_cases h2 : o.k = 2
  · have g2 : (o.k == 2) = true := by simp [h2]
    have HK1 := Lib.hid h2
    clear h1 h2
    rcases Bool.eq_false_or_eq_true (List.isEmpty nm) with hn | hn
    · have HPU := Lib.hid (show putP o = none by rw [← HPV.out, if_pos ⟨.inr HK1.out, by simpa using hn⟩])
      go_enter Tryd.func12, Tryd.ntmps12
      go_wp2_with (go_at_call 26; (try rw [← hW]); (with_reducible refine (HN.out _).mono ?_); rintro e w1 ⟨rfl, hb1⟩; replace HK := Lib.hid (HK.out.below hb1 HK.out.lt); replace HB := Lib.hid (HB.out.trans (hb1.mono HB.out.size)); obtain ⟨⟨c0, c1, c2, c3, c4, c5, c6, c7, c8, c9⟩, -⟩ := HK.out.op)
      go_ret2
      refine ⟨?_, HB.out⟩
      unfold putV
      rw [HPU.out]
      rfl
    · have HNN := Lib.hid (show nm ≠ [] by simpa using hn)
      go_enter Tryd.func12, Tryd.ntmps12
      go_wp2_with (go_at_call 26; (try rw [← hW]); (with_reducible refine (HN.out _).mono ?_); rintro e w1 ⟨rfl, hb1⟩; replace HK := Lib.hid (HK.out.below hb1 HK.out.lt); replace HB := Lib.hid (HB.out.trans (hb1.mono HB.out.size)); obtain ⟨⟨c0, c1, c2, c3, c4, c5, c6, c7, c8, c9⟩, -⟩ := HK.out.op)
      (try rw [← hW])
      go_at_call 27
      refine (HL.out _).mono ?_
      rintro e w2 ⟨rfl, hb2⟩
      have HK2 := Lib.hid (HK.out.below hb2 HK.out.lt)
      have HB2 := Lib.hid ((HB.out.trans (hb2.mono HB.out.size)).alloc (Nat.le_trans HB.out.size hb2.size) (.cells (opC u) 27))
      obtain ⟨⟨d0, d1, d2, d3, d4, d5, d6, d7, d8, d9⟩, -⟩ := HK2.out.op
      have hlt := HK2.out.lt
      clear hb2
      have hEq := HE.out
      by_cases hue : u = o
      · have HPU := Lib.hid (show putP o = if s = [] then none else some s by rw [← HPV.out, if_neg (fun h => HNN.out h.2), if_pos hue])
        simp only [hue, decide_true] at hEq
        subst hue
        rcases Bool.eq_false_or_eq_true (List.isEmpty s) with hs | hs
        · go_wp2
          go_ret2
          refine ⟨?_, HB2.out⟩
          unfold putV
          rw [HPU.out, if_pos (by simpa using hs)]
          rfl
        · go_wp2
          go_ret2
          refine ⟨?_, HB2.out⟩
          unfold putV
          rw [HPU.out, if_neg (by simpa using hs)]
          rfl
      · have HPU := Lib.hid (show putP o = none by rw [← HPV.out, if_neg (fun h => HNN.out h.2), if_neg hue]; split <;> rfl)
        simp only [hue, decide_false] at hEq
        clear hue
        rcases Bool.eq_false_or_eq_true (List.isEmpty s) with hs | hs
        · go_wp2
          go_ret2
          refine ⟨?_, HB2.out⟩
          unfold putV
          rw [HPU.out]
          rfl
        · go_wp2
          go_ret2
          refine ⟨?_, HB2.out⟩
          unfold putV
          rw [HPU.out]
          rfl
  · have g2 : (o.k == 2) = false := by simp [h2]
    have HNN := Lib.hid (show ¬ (o.k = 1 ∨ o.k = 2) by omega)
    clear h1 h2
    go_enter Tryd.func12, Tryd.ntmps12
    go_wp2_with (go_at_call 26; (try rw [← hW]); (with_reducible refine (HN.out _).mono ?_); rintro e w1 ⟨rfl, hb1⟩; replace HK := Lib.hid (HK.out.below hb1 HK.out.lt); replace HB := Lib.hid (HB.out.trans (hb1.mono HB.out.size)); obtain ⟨⟨c0, c1, c2, c3, c4, c5, c6, c7, c8, c9⟩, -⟩ := HK.out.op)
    (try rw [← hW])
    go_at_call 27
    refine (HL.out _).mono ?_
    rintro e w2 ⟨rfl, hb2⟩
    have HK2 := Lib.hid (HK.out.below hb2 HK.out.lt)
    have HB2 := Lib.hid ((HB.out.trans (hb2.mono HB.out.size)).alloc (Nat.le_trans HB.out.size hb2.size) (.cells (opC u) 27))
    obtain ⟨⟨d0, d1, d2, d3, d4, d5, d6, d7, d8, d9⟩, -⟩ := HK2.out.op
    have hlt := HK2.out.lt
    clear hb2
    have hEq := HE.out
    by_cases hue : u = o
    · have HPU := Lib.hid (show putP o = if s = [] then none else some s by rw [← HPV.out, if_neg (fun h => HNN.out h.1), if_pos hue])
      simp only [hue, decide_true] at hEq
      subst hue
      rcases Bool.eq_false_or_eq_true (List.isEmpty s) with hs | hs
      · go_wp2
        go_ret2
        refine ⟨?_, HB2.out⟩
        unfold putV
        rw [HPU.out, if_pos (by simpa using hs)]
        rfl
      · go_wp2
        go_ret2
        refine ⟨?_, HB2.out⟩
        unfold putV
        rw [HPU.out, if_neg (by simpa using hs)]
        rfl
    · have HPU := Lib.hid (show putP o = none by rw [← HPV.out, if_neg (fun h => HNN.out h.1), if_neg hue]; split <;> rfl)
      simp only [hue, decide_false] at hEq
      clear hue
      rcases Bool.eq_false_or_eq_true (List.isEmpty s) with hs | hs
      · go_wp2
        go_ret2
        refine ⟨?_, HB2.out⟩
        unfold putV
        rw [HPU.out]
        rfl
      · go_wp2
        go_ret2
        refine ⟨?_, HB2.out⟩
        unfold putV
        rw [HPU.out]
        rfl
end Go.Proofs.YtjbhkmpabajeoaaDoor
