/- LineFields: the walk. (Printed by genfields.py.) -/
import Derived.Test.YtjbhkmpabajeoaaDoorLFieldsR
namespace Go.Proofs.YtjbhkmpabajeoaaDoor
set_option linter.unusedSimpArgs false
set_option linter.unusedVariables false
open Go.RowKit
set_option maxRecDepth 100000 in
set_option maxHeartbeats 8000000 in
theorem fields_some (w : World) (o : OpR) (n : Int) (l : Bs) (hn : InI n) (hn0 : (n == 0) = false) (ho : o.Ok) (he : Env w) (hp : putP o = some l) : Calls Tryd.prog 8 #[opV o, .int .i64 n] w fun e w' => e = .returned (.bool true) ∧ Below w.heap.size w w' := by
  have HP := Lib.hid (fun W => put_walk W o ho)
  have HW := Lib.hid works_any
  rw [putV_some hp] at HP
  have HE0 := Lib.hid he
  have HE := Lib.hid (he.alloc (.cells (opC o) 27))
  have HB := Lib.hid ((Below.refl w.heap.size w).alloc (Nat.le_refl _) (.cells (opC o) 27))
  have HK := Lib.hid (Blk.new w 27 (opC o))
  unfold opV at HP ⊢
  simp only [opC] at HP HE HB ⊢
  clear he
  go_enter Tryd.func8, Tryd.ntmps8
  go_wp2_with fail
  go_at_call 11
  refine (HP.out _ HE.out).mono ?_
  rintro e w1 ⟨rfl, hb⟩
  have HB1 := Lib.hid (HB.out.trans (hb.mono HB.out.size))
  have HK1 := Lib.hid (HK.out.below hb HK.out.lt)
  clear hb HE
  go_wp2_with fail
  have hlt : w.heap.size < w1.heap.size := HK1.out.lt
  refine cut_region (RegOut w o n l) (fields_region w w1 o n l HB1.out HK1.out) ?_
  rintro _ A ⟨g7, g8, g9, g10, rfl, hBA, kb, k7, k8, k9, k10, ⟨l7, l8, l9, l10⟩, n78, n79, n710, n89, n810, n910⟩
  have HBA := Lib.hid hBA
  clear hBA HB1 HK1 hlt HK HB HP
  have KB := Lib.hid kb
  have K7 := Lib.hid k7
  have K8 := Lib.hid k8
  have K9 := Lib.hid k9
  have K10 := Lib.hid k10
  obtain ⟨⟨a0, a1, a2, a3, a4, a5, a6, a7, a8, a9⟩, -, -, af, -⟩ := k7.op
  obtain ⟨⟨b0, b1, b2, b3, b4, b5, b6, b7, b8, b9⟩, -, -, -, -, -, -, bf, -⟩ := k8.op
  obtain ⟨⟨c0, c1, c2, c3, c4, c5, c6, c7, c8, c9⟩, -, -, -, -, -, -, -, -, -, cf⟩ := k9.op
  obtain ⟨⟨d0, d1, d2, d3, d4, d5, d6, d7, d8, d9⟩, -, -, -, -, -, -, -, -, df, -⟩ := k10.op
  clear kb k7 k8 k9 k10
  go_wp2_with fail
  generalize hA' : (((A.setCell ⟨g7, 2, none⟩ (.int .i64 n)).setCell ⟨g8, 6, none⟩ (.int .i64 n)).setCell ⟨g9, 9, none⟩ (.int .i64 n)).setCell ⟨g10, 8, none⟩ (.int .u8 (n % 256)) = A'
  have HB2 := Lib.hid (show Below w.heap.size w A' from hA' ▸ (((HBA.out.setCell (Nat.le_of_lt l7) _).setCell (Nat.le_of_lt l8) _).setCell (Nat.le_of_lt l9) _).setCell (Nat.le_of_lt l10) _)
  have HKB := Lib.hid (show Blk A' w.heap.size 27 (opC o) from hA' ▸ (((KB.out.other (Nat.ne_of_lt l7) _).other (Nat.ne_of_lt l8) _).other (Nat.ne_of_lt l9) _).other (Nat.ne_of_lt l10) _)
  have H7 := Lib.hid (show Blk A' g7 27 (opC { o with a2 := n }) from hA' ▸ (((K7.out.set_ 2 (.int .i64 n)).other (by exact n78) _).other (by exact n79) _).other (by exact n710) _)
  have H8 := Lib.hid (show Blk A' g8 27 (opC { o with b3 := n }) from hA' ▸ ((((K8.out.other (by exact Ne.symm n78) _).set_ 6 (.int .i64 n)).other (by exact n89) _).other (by exact n810) _))
  have H9 := Lib.hid (show Blk A' g9 27 (opC { o with n := n }) from hA' ▸ ((((K9.out.other (by exact Ne.symm n79) _).other (by exact Ne.symm n89) _).set_ 9 (.int .i64 n)).other (by exact n910) _))
  have H10 := Lib.hid (show Blk A' g10 27 (opC { o with c2 := n % 256 }) from hA' ▸ ((((K10.out.other (by exact Ne.symm n710) _).other (by exact Ne.symm n810) _).other (by exact Ne.symm n910) _).set_ 8 (.int .u8 (n % 256))))
  clear a0 a1 a2 a3 a4 a5 a6 a7 a8 a9 b0 b1 b2 b3 b4 b5 b6 b7 b8 b9 c0 c1 c2 c3 c4 c5 c6 c7 c8 c9 d0 d1 d2 d3 d4 d5 d6 d7 d8 d9 af bf cf df n78 n79 n710 n89 n810 n910 l7 l8 l9 l10 hA' KB K7 K8 K9 K10 HBA
  have HE2 := Lib.hid (HE0.out.next HB2.out)
  obtain ⟨sa, na, va, ea⟩ := put_code { o with a2 := n }
  obtain ⟨sb, nb, vb, eb⟩ := put_code { o with b3 := n }
  obtain ⟨sc, nc, vc, ec⟩ := put_code { o with n := n }
  obtain ⟨sd, nd, vd, ed⟩ := put_code { o with c2 := n % 256 }
  have hm : InU (n % 256) := by unfold InU; omega
  have HPa := Lib.hid (fun W => put_walk W { o with a2 := n } ⟨ho.k, ho.a1, hn, ho.a3, ho.b1, ho.b2, ho.b3, ho.c1, ho.c2, ho.n⟩)
  have HPb := Lib.hid (fun W => put_walk W { o with b3 := n } ⟨ho.k, ho.a1, ho.a2, ho.a3, ho.b1, ho.b2, hn, ho.c1, ho.c2, ho.n⟩)
  have HPc := Lib.hid (fun W => put_walk W { o with n := n } ⟨ho.k, ho.a1, ho.a2, ho.a3, ho.b1, ho.b2, ho.b3, ho.c1, ho.c2, hn⟩)
  have HPd := Lib.hid (fun W => put_walk W { o with c2 := n % 256 } ⟨ho.k, ho.a1, ho.a2, ho.a3, ho.b1, ho.b2, ho.b3, ho.c1, hm, ho.n⟩)
  rw [va] at HPa
  rw [vb] at HPb
  rw [vc] at HPc
  rw [vd] at HPd
  unfold opV at HPa HPb HPc HPd
  simp only [opC] at HPa HPb HPc HPd
  obtain ⟨f1, f2, f3, f4, f5, f6, f7⟩ := fields_law (o := o) (n := n) (m := n % 256) (by rw [hp]; rfl) (by simpa using hn0) (by omega)
  rw [← ea] at f1
  rw [← eb] at f2
  rw [← ed] at f3
  rw [← ec] at f4 f5
  have HF := Lib.hid (And.intro f1 (And.intro f2 (And.intro f3 (And.intro f4 (And.intro f5 (And.intro f6 f7))))))
  clear f1 f2 f3 f4 f5 f6 f7 ea eb ec ed va vb vc vd hp
  go_at_call 11
  refine (HPa.out _ HE2.out).mono ?_
  rintro e w3 ⟨rfl, hb⟩
  have HB3 := Lib.hid (HB2.out.trans (hb.mono HB2.out.size))
  have HE3 := Lib.hid (HE0.out.next HB3.out)
  have HKB3 := Lib.hid (HKB.out.below hb HKB.out.lt)
  obtain ⟨⟨b0, b1, b2, b3, b4, b5, b6, b7, b8, b9⟩, -⟩ := (H8.out.below hb H8.out.lt).op
  have H93 := Lib.hid (H9.out.below hb H9.out.lt)
  have H103 := Lib.hid (H10.out.below hb H10.out.lt)
  clear hb
  go_wp2_with fail
  go_at_call 11
  refine (HPb.out _ HE3.out).mono ?_
  rintro e w4 ⟨rfl, hb⟩
  have HB4 := Lib.hid (HB3.out.trans (hb.mono HB3.out.size))
  have HE4 := Lib.hid (HE0.out.next HB4.out)
  have HKB4 := Lib.hid (HKB3.out.below hb HKB3.out.lt)
  obtain ⟨⟨c0, c1, c2, c3, c4, c5, c6, c7, c8, c9⟩, -⟩ := (H93.out.below hb H93.out.lt).op
  have H104 := Lib.hid (H103.out.below hb H103.out.lt)
  clear hb b0 b1 b2 b3 b4 b5 b6 b7 b8 b9
  go_wp2_with fail
  go_at_call 11
  refine (HPc.out _ HE4.out).mono ?_
  rintro e w5 ⟨rfl, hb⟩
  have HB5 := Lib.hid (HB4.out.trans (hb.mono HB4.out.size))
  have HE5 := Lib.hid (HE0.out.next HB5.out)
  have HKB5 := Lib.hid (HKB4.out.below hb HKB4.out.lt)
  obtain ⟨⟨d0, d1, d2, d3, d4, d5, d6, d7, d8, d9⟩, -⟩ := (H104.out.below hb H104.out.lt).op
  clear hb c0 c1 c2 c3 c4 c5 c6 c7 c8 c9
  go_wp2_with fail
  go_at_call 11
  refine (HPd.out _ HE5.out).mono ?_
  rintro e w6 ⟨rfl, hb⟩
  have HB6 := Lib.hid (HB5.out.trans (hb.mono HB5.out.size))
  have HE6 := Lib.hid (HE0.out.next HB6.out)
  obtain ⟨⟨a0, -, -, -, -, -, -, -, -, -⟩, -⟩ := (HKB5.out.below hb HKB5.out.lt).op
  clear hb d0 d1 d2 d3 d4 d5 d6 d7 d8 d9 HE0 HE2 HE3 HE4 HE5 HB2 HB3 HB4 HB5 HKB HKB3 HKB4 HKB5 H7 H8 H9 H10 H93 H103 H104 HPa HPb HPc HPd
  generalize o.k = k at HF a0 ⊢
  have hk : k = 1 ∨ k = 2 ∨ k = 3 ∨ k = 4 ∨ k = 5 ∨ k = 6 ∨ k = 7 ∨ k = 8 ∨ k = 9 ∨ k = 10 ∨ k = 11 := by have := HF.out.2.2.2.2.2; omega
  have hm0 : (n % 256 = 0 ∧ (n % 256 == 0) = true) ∨ (n % 256 ≠ 0 ∧ (n % 256 == 0) = false) := by
    by_cases h : n % 256 = 0
    · exact .inl ⟨h, by simp [h]⟩
    · exact .inr ⟨h, by simp [h]⟩
  have hnn : n ≤ 0 ∨ (0 < n ∧ n ≤ 5) ∨ (0 < n ∧ 5 < n) := by omega
  rcases hk with rfl | rfl | rfl | rfl | rfl | rfl | rfl | rfl | rfl | rfl | rfl
  · rcases hm0 with ⟨m0, m1⟩ | ⟨m0, m1⟩
    · clear hnn
      have xa : (na == 0) = true := (HF.out.1).2 (by omega)
      have xb : (nb == 0) = false := by cases h : (nb == 0) <;> first | rfl | (exfalso; have := (HF.out.2.1).1 h; omega)
      have xd : (nd == 0) = true := (HF.out.2.2.1).2 (by omega)
      have xc : (nc == 0) = false := by cases h : (nc == 0) <;> first | rfl | (exfalso; have := (HF.out.2.2.2.2.1 (by decide)).1 h; omega)
      go_wp2_with (go_at_call 13; (with_reducible refine (HW.out _ HE6.out).mono ?_); rintro e w7 ⟨rfl, hb⟩)
      go_ret
      exact ⟨rfl, HB6.out.trans (hb.mono HB6.out.size)⟩
    · clear hnn
      have xa : (na == 0) = true := (HF.out.1).2 (by omega)
      have xb : (nb == 0) = false := by cases h : (nb == 0) <;> first | rfl | (exfalso; have := (HF.out.2.1).1 h; omega)
      have xd : (nd == 0) = true := (HF.out.2.2.1).2 (by omega)
      have xc : (nc == 0) = false := by cases h : (nc == 0) <;> first | rfl | (exfalso; have := (HF.out.2.2.2.2.1 (by decide)).1 h; omega)
      go_wp2_with (go_at_call 13; (with_reducible refine (HW.out _ HE6.out).mono ?_); rintro e w7 ⟨rfl, hb⟩)
      go_ret
      exact ⟨rfl, HB6.out.trans (hb.mono HB6.out.size)⟩
  · rcases hm0 with ⟨m0, m1⟩ | ⟨m0, m1⟩
    · clear hnn
      have xa : (na == 0) = true := (HF.out.1).2 (by omega)
      have xb : (nb == 0) = true := (HF.out.2.1).2 (by omega)
      have xd : (nd == 0) = true := (HF.out.2.2.1).2 (by omega)
      have xc : (nc == 0) = false := by cases h : (nc == 0) <;> first | rfl | (exfalso; have := (HF.out.2.2.2.2.1 (by decide)).1 h; omega)
      go_wp2_with (go_at_call 13; (with_reducible refine (HW.out _ HE6.out).mono ?_); rintro e w7 ⟨rfl, hb⟩)
      go_ret
      exact ⟨rfl, HB6.out.trans (hb.mono HB6.out.size)⟩
    · clear hnn
      have xa : (na == 0) = true := (HF.out.1).2 (by omega)
      have xb : (nb == 0) = true := (HF.out.2.1).2 (by omega)
      have xd : (nd == 0) = true := (HF.out.2.2.1).2 (by omega)
      have xc : (nc == 0) = false := by cases h : (nc == 0) <;> first | rfl | (exfalso; have := (HF.out.2.2.2.2.1 (by decide)).1 h; omega)
      go_wp2_with (go_at_call 13; (with_reducible refine (HW.out _ HE6.out).mono ?_); rintro e w7 ⟨rfl, hb⟩)
      go_ret
      exact ⟨rfl, HB6.out.trans (hb.mono HB6.out.size)⟩
  · rcases hm0 with ⟨m0, m1⟩ | ⟨m0, m1⟩
    · rcases hnn with n0 | ⟨n0, n1⟩ | ⟨n0, n1⟩
      · have y0 : decide (0 < n) = false := by simp; omega
        have xa : (na == 0) = true := (HF.out.1).2 (by omega)
        have xb : (nb == 0) = false := by cases h : (nb == 0) <;> first | rfl | (exfalso; have := (HF.out.2.1).1 h; omega)
        have xd : (nd == 0) = true := (HF.out.2.2.1).2 (by omega)
        have xc : (nc == 0) = false := by cases h : (nc == 0) <;> first | rfl | (exfalso; have := (HF.out.2.2.2.1 rfl).1 h; omega)
        go_wp2_with (go_at_call 13; (with_reducible refine (HW.out _ HE6.out).mono ?_); rintro e w7 ⟨rfl, hb⟩)
        go_ret
        exact ⟨rfl, HB6.out.trans (hb.mono HB6.out.size)⟩
      · exact absurd m0 (by omega)
      · have y0 : decide (0 < n) = true := by simp; omega
        have y1 : decide (n ≤ 5) = false := by simp; omega
        have xa : (na == 0) = true := (HF.out.1).2 (by omega)
        have xb : (nb == 0) = false := by cases h : (nb == 0) <;> first | rfl | (exfalso; have := (HF.out.2.1).1 h; omega)
        have xd : (nd == 0) = true := (HF.out.2.2.1).2 (by omega)
        have xc : (nc == 0) = false := by cases h : (nc == 0) <;> first | rfl | (exfalso; have := (HF.out.2.2.2.1 rfl).1 h; omega)
        go_wp2_with (go_at_call 13; (with_reducible refine (HW.out _ HE6.out).mono ?_); rintro e w7 ⟨rfl, hb⟩)
        go_ret
        exact ⟨rfl, HB6.out.trans (hb.mono HB6.out.size)⟩
    · rcases hnn with n0 | ⟨n0, n1⟩ | ⟨n0, n1⟩
      · have y0 : decide (0 < n) = false := by simp; omega
        have xa : (na == 0) = true := (HF.out.1).2 (by omega)
        have xb : (nb == 0) = false := by cases h : (nb == 0) <;> first | rfl | (exfalso; have := (HF.out.2.1).1 h; omega)
        have xd : (nd == 0) = false := by cases h : (nd == 0) <;> first | rfl | (exfalso; have := (HF.out.2.2.1).1 h; omega)
        have xc : (nc == 0) = false := by cases h : (nc == 0) <;> first | rfl | (exfalso; have := (HF.out.2.2.2.1 rfl).1 h; omega)
        go_wp2_with (go_at_call 13; (with_reducible refine (HW.out _ HE6.out).mono ?_); rintro e w7 ⟨rfl, hb⟩)
        go_ret
        exact ⟨rfl, HB6.out.trans (hb.mono HB6.out.size)⟩
      · have y0 : decide (0 < n) = true := by simp; omega
        have y1 : decide (n ≤ 5) = true := by simp; omega
        have xa : (na == 0) = true := (HF.out.1).2 (by omega)
        have xb : (nb == 0) = false := by cases h : (nb == 0) <;> first | rfl | (exfalso; have := (HF.out.2.1).1 h; omega)
        have xd : (nd == 0) = false := by cases h : (nd == 0) <;> first | rfl | (exfalso; have := (HF.out.2.2.1).1 h; omega)
        have xc : (nc == 0) = true := (HF.out.2.2.2.1 rfl).2 (by omega)
        go_wp2_with (go_at_call 13; (with_reducible refine (HW.out _ HE6.out).mono ?_); rintro e w7 ⟨rfl, hb⟩)
        go_ret
        exact ⟨rfl, HB6.out.trans (hb.mono HB6.out.size)⟩
      · have y0 : decide (0 < n) = true := by simp; omega
        have y1 : decide (n ≤ 5) = false := by simp; omega
        have xa : (na == 0) = true := (HF.out.1).2 (by omega)
        have xb : (nb == 0) = false := by cases h : (nb == 0) <;> first | rfl | (exfalso; have := (HF.out.2.1).1 h; omega)
        have xd : (nd == 0) = false := by cases h : (nd == 0) <;> first | rfl | (exfalso; have := (HF.out.2.2.1).1 h; omega)
        have xc : (nc == 0) = false := by cases h : (nc == 0) <;> first | rfl | (exfalso; have := (HF.out.2.2.2.1 rfl).1 h; omega)
        go_wp2_with (go_at_call 13; (with_reducible refine (HW.out _ HE6.out).mono ?_); rintro e w7 ⟨rfl, hb⟩)
        go_ret
        exact ⟨rfl, HB6.out.trans (hb.mono HB6.out.size)⟩
  · rcases hm0 with ⟨m0, m1⟩ | ⟨m0, m1⟩
    · clear hnn
      have xa : (na == 0) = true := (HF.out.1).2 (by omega)
      have xb : (nb == 0) = false := by cases h : (nb == 0) <;> first | rfl | (exfalso; have := (HF.out.2.1).1 h; omega)
      have xd : (nd == 0) = true := (HF.out.2.2.1).2 (by omega)
      have xc : (nc == 0) = true := (HF.out.2.2.2.2.1 (by decide)).2 (by omega)
      go_wp2_with (go_at_call 13; (with_reducible refine (HW.out _ HE6.out).mono ?_); rintro e w7 ⟨rfl, hb⟩)
      go_ret
      exact ⟨rfl, HB6.out.trans (hb.mono HB6.out.size)⟩
    · clear hnn
      have xa : (na == 0) = true := (HF.out.1).2 (by omega)
      have xb : (nb == 0) = false := by cases h : (nb == 0) <;> first | rfl | (exfalso; have := (HF.out.2.1).1 h; omega)
      have xd : (nd == 0) = false := by cases h : (nd == 0) <;> first | rfl | (exfalso; have := (HF.out.2.2.1).1 h; omega)
      have xc : (nc == 0) = true := (HF.out.2.2.2.2.1 (by decide)).2 (by omega)
      go_wp2_with (go_at_call 13; (with_reducible refine (HW.out _ HE6.out).mono ?_); rintro e w7 ⟨rfl, hb⟩)
      go_ret
      exact ⟨rfl, HB6.out.trans (hb.mono HB6.out.size)⟩
  · rcases hm0 with ⟨m0, m1⟩ | ⟨m0, m1⟩
    · clear hnn
      have xa : (na == 0) = false := by cases h : (na == 0) <;> first | rfl | (exfalso; have := (HF.out.1).1 h; omega)
      have xb : (nb == 0) = false := by cases h : (nb == 0) <;> first | rfl | (exfalso; have := (HF.out.2.1).1 h; omega)
      have xd : (nd == 0) = true := (HF.out.2.2.1).2 (by omega)
      have xc : (nc == 0) = true := (HF.out.2.2.2.2.1 (by decide)).2 (by omega)
      go_wp2_with (go_at_call 13; (with_reducible refine (HW.out _ HE6.out).mono ?_); rintro e w7 ⟨rfl, hb⟩)
      go_ret
      exact ⟨rfl, HB6.out.trans (hb.mono HB6.out.size)⟩
    · clear hnn
      have xa : (na == 0) = false := by cases h : (na == 0) <;> first | rfl | (exfalso; have := (HF.out.1).1 h; omega)
      have xb : (nb == 0) = false := by cases h : (nb == 0) <;> first | rfl | (exfalso; have := (HF.out.2.1).1 h; omega)
      have xd : (nd == 0) = false := by cases h : (nd == 0) <;> first | rfl | (exfalso; have := (HF.out.2.2.1).1 h; omega)
      have xc : (nc == 0) = true := (HF.out.2.2.2.2.1 (by decide)).2 (by omega)
      go_wp2_with (go_at_call 13; (with_reducible refine (HW.out _ HE6.out).mono ?_); rintro e w7 ⟨rfl, hb⟩)
      go_ret
      exact ⟨rfl, HB6.out.trans (hb.mono HB6.out.size)⟩
  · rcases hm0 with ⟨m0, m1⟩ | ⟨m0, m1⟩
    · clear hnn
      have xa : (na == 0) = false := by cases h : (na == 0) <;> first | rfl | (exfalso; have := (HF.out.1).1 h; omega)
      have xb : (nb == 0) = false := by cases h : (nb == 0) <;> first | rfl | (exfalso; have := (HF.out.2.1).1 h; omega)
      have xd : (nd == 0) = true := (HF.out.2.2.1).2 (by omega)
      have xc : (nc == 0) = true := (HF.out.2.2.2.2.1 (by decide)).2 (by omega)
      go_wp2_with (go_at_call 13; (with_reducible refine (HW.out _ HE6.out).mono ?_); rintro e w7 ⟨rfl, hb⟩)
      go_ret
      exact ⟨rfl, HB6.out.trans (hb.mono HB6.out.size)⟩
    · clear hnn
      have xa : (na == 0) = false := by cases h : (na == 0) <;> first | rfl | (exfalso; have := (HF.out.1).1 h; omega)
      have xb : (nb == 0) = false := by cases h : (nb == 0) <;> first | rfl | (exfalso; have := (HF.out.2.1).1 h; omega)
      have xd : (nd == 0) = false := by cases h : (nd == 0) <;> first | rfl | (exfalso; have := (HF.out.2.2.1).1 h; omega)
      have xc : (nc == 0) = true := (HF.out.2.2.2.2.1 (by decide)).2 (by omega)
      go_wp2_with (go_at_call 13; (with_reducible refine (HW.out _ HE6.out).mono ?_); rintro e w7 ⟨rfl, hb⟩)
      go_ret
      exact ⟨rfl, HB6.out.trans (hb.mono HB6.out.size)⟩
  · rcases hm0 with ⟨m0, m1⟩ | ⟨m0, m1⟩
    · clear hnn
      have xa : (na == 0) = true := (HF.out.1).2 (by omega)
      have xb : (nb == 0) = false := by cases h : (nb == 0) <;> first | rfl | (exfalso; have := (HF.out.2.1).1 h; omega)
      have xd : (nd == 0) = true := (HF.out.2.2.1).2 (by omega)
      have xc : (nc == 0) = false := by cases h : (nc == 0) <;> first | rfl | (exfalso; have := (HF.out.2.2.2.2.1 (by decide)).1 h; omega)
      go_wp2_with (go_at_call 13; (with_reducible refine (HW.out _ HE6.out).mono ?_); rintro e w7 ⟨rfl, hb⟩)
      go_ret
      exact ⟨rfl, HB6.out.trans (hb.mono HB6.out.size)⟩
    · clear hnn
      have xa : (na == 0) = true := (HF.out.1).2 (by omega)
      have xb : (nb == 0) = false := by cases h : (nb == 0) <;> first | rfl | (exfalso; have := (HF.out.2.1).1 h; omega)
      have xd : (nd == 0) = false := by cases h : (nd == 0) <;> first | rfl | (exfalso; have := (HF.out.2.2.1).1 h; omega)
      have xc : (nc == 0) = false := by cases h : (nc == 0) <;> first | rfl | (exfalso; have := (HF.out.2.2.2.2.1 (by decide)).1 h; omega)
      go_wp2_with (go_at_call 13; (with_reducible refine (HW.out _ HE6.out).mono ?_); rintro e w7 ⟨rfl, hb⟩)
      go_ret
      exact ⟨rfl, HB6.out.trans (hb.mono HB6.out.size)⟩
  · rcases hm0 with ⟨m0, m1⟩ | ⟨m0, m1⟩
    · clear hnn
      have xa : (na == 0) = true := (HF.out.1).2 (by omega)
      have xb : (nb == 0) = true := (HF.out.2.1).2 (by omega)
      have xd : (nd == 0) = true := (HF.out.2.2.1).2 (by omega)
      have xc : (nc == 0) = true := (HF.out.2.2.2.2.1 (by decide)).2 (by omega)
      go_wp2_with (go_at_call 13; (with_reducible refine (HW.out _ HE6.out).mono ?_); rintro e w7 ⟨rfl, hb⟩)
      go_ret
      exact ⟨rfl, HB6.out.trans (hb.mono HB6.out.size)⟩
    · clear hnn
      have xa : (na == 0) = true := (HF.out.1).2 (by omega)
      have xb : (nb == 0) = true := (HF.out.2.1).2 (by omega)
      have xd : (nd == 0) = false := by cases h : (nd == 0) <;> first | rfl | (exfalso; have := (HF.out.2.2.1).1 h; omega)
      have xc : (nc == 0) = true := (HF.out.2.2.2.2.1 (by decide)).2 (by omega)
      go_wp2_with (go_at_call 13; (with_reducible refine (HW.out _ HE6.out).mono ?_); rintro e w7 ⟨rfl, hb⟩)
      go_ret
      exact ⟨rfl, HB6.out.trans (hb.mono HB6.out.size)⟩
  · rcases hm0 with ⟨m0, m1⟩ | ⟨m0, m1⟩
    · clear hnn
      have xa : (na == 0) = false := by cases h : (na == 0) <;> first | rfl | (exfalso; have := (HF.out.1).1 h; omega)
      have xb : (nb == 0) = false := by cases h : (nb == 0) <;> first | rfl | (exfalso; have := (HF.out.2.1).1 h; omega)
      have xd : (nd == 0) = true := (HF.out.2.2.1).2 (by omega)
      have xc : (nc == 0) = false := by cases h : (nc == 0) <;> first | rfl | (exfalso; have := (HF.out.2.2.2.2.1 (by decide)).1 h; omega)
      go_wp2_with (go_at_call 13; (with_reducible refine (HW.out _ HE6.out).mono ?_); rintro e w7 ⟨rfl, hb⟩)
      go_ret
      exact ⟨rfl, HB6.out.trans (hb.mono HB6.out.size)⟩
    · clear hnn
      have xa : (na == 0) = false := by cases h : (na == 0) <;> first | rfl | (exfalso; have := (HF.out.1).1 h; omega)
      have xb : (nb == 0) = false := by cases h : (nb == 0) <;> first | rfl | (exfalso; have := (HF.out.2.1).1 h; omega)
      have xd : (nd == 0) = false := by cases h : (nd == 0) <;> first | rfl | (exfalso; have := (HF.out.2.2.1).1 h; omega)
      have xc : (nc == 0) = false := by cases h : (nc == 0) <;> first | rfl | (exfalso; have := (HF.out.2.2.2.2.1 (by decide)).1 h; omega)
      go_wp2_with (go_at_call 13; (with_reducible refine (HW.out _ HE6.out).mono ?_); rintro e w7 ⟨rfl, hb⟩)
      go_ret
      exact ⟨rfl, HB6.out.trans (hb.mono HB6.out.size)⟩
  · rcases hm0 with ⟨m0, m1⟩ | ⟨m0, m1⟩
    · clear hnn
      have xa : (na == 0) = false := by cases h : (na == 0) <;> first | rfl | (exfalso; have := (HF.out.1).1 h; omega)
      have xb : (nb == 0) = false := by cases h : (nb == 0) <;> first | rfl | (exfalso; have := (HF.out.2.1).1 h; omega)
      have xd : (nd == 0) = true := (HF.out.2.2.1).2 (by omega)
      have xc : (nc == 0) = false := by cases h : (nc == 0) <;> first | rfl | (exfalso; have := (HF.out.2.2.2.2.1 (by decide)).1 h; omega)
      go_wp2_with (go_at_call 13; (with_reducible refine (HW.out _ HE6.out).mono ?_); rintro e w7 ⟨rfl, hb⟩)
      go_ret
      exact ⟨rfl, HB6.out.trans (hb.mono HB6.out.size)⟩
    · clear hnn
      have xa : (na == 0) = false := by cases h : (na == 0) <;> first | rfl | (exfalso; have := (HF.out.1).1 h; omega)
      have xb : (nb == 0) = false := by cases h : (nb == 0) <;> first | rfl | (exfalso; have := (HF.out.2.1).1 h; omega)
      have xd : (nd == 0) = false := by cases h : (nd == 0) <;> first | rfl | (exfalso; have := (HF.out.2.2.1).1 h; omega)
      have xc : (nc == 0) = false := by cases h : (nc == 0) <;> first | rfl | (exfalso; have := (HF.out.2.2.2.2.1 (by decide)).1 h; omega)
      go_wp2_with (go_at_call 13; (with_reducible refine (HW.out _ HE6.out).mono ?_); rintro e w7 ⟨rfl, hb⟩)
      go_ret
      exact ⟨rfl, HB6.out.trans (hb.mono HB6.out.size)⟩
  · rcases hm0 with ⟨m0, m1⟩ | ⟨m0, m1⟩
    · clear hnn
      have xa : (na == 0) = false := by cases h : (na == 0) <;> first | rfl | (exfalso; have := (HF.out.1).1 h; omega)
      have xb : (nb == 0) = false := by cases h : (nb == 0) <;> first | rfl | (exfalso; have := (HF.out.2.1).1 h; omega)
      have xd : (nd == 0) = true := (HF.out.2.2.1).2 (by omega)
      have xc : (nc == 0) = true := (HF.out.2.2.2.2.1 (by decide)).2 (by omega)
      go_wp2_with (go_at_call 13; (with_reducible refine (HW.out _ HE6.out).mono ?_); rintro e w7 ⟨rfl, hb⟩)
      go_ret
      exact ⟨rfl, HB6.out.trans (hb.mono HB6.out.size)⟩
    · clear hnn
      have xa : (na == 0) = false := by cases h : (na == 0) <;> first | rfl | (exfalso; have := (HF.out.1).1 h; omega)
      have xb : (nb == 0) = false := by cases h : (nb == 0) <;> first | rfl | (exfalso; have := (HF.out.2.1).1 h; omega)
      have xd : (nd == 0) = false := by cases h : (nd == 0) <;> first | rfl | (exfalso; have := (HF.out.2.2.1).1 h; omega)
      have xc : (nc == 0) = true := (HF.out.2.2.2.2.1 (by decide)).2 (by omega)
      go_wp2_with (go_at_call 13; (with_reducible refine (HW.out _ HE6.out).mono ?_); rintro e w7 ⟨rfl, hb⟩)
      go_ret
      exact ⟨rfl, HB6.out.trans (hb.mono HB6.out.size)⟩
end Go.Proofs.YtjbhkmpabajeoaaDoor
