/- Joined texts of one seat, each under its own heading below. -/
import Derived.Test.YtlhjjmfbifhgfaaFM21
/- The chapter's examples: the walk. -/
namespace Go.Proofs.Ytlhjjmfbifhgfaa
set_option linter.unusedSimpArgs false
set_option linter.unusedVariables false
open Go.RowKit
set_option maxRecDepth 1000000

set_option maxHeartbeats 4000000 in
theorem change_nil (W : World) (p1 p2 p3 c1 c2 : Int) : Calls Try.prog 11 #[.nilIface, .agg #[.int .i64 p1, .int .i64 p2, .int .i64 p3], .agg #[.int .u8 c1, .int .u8 c2]] W fun e w' => e = .returned (.int .i64 0) ∧ Below W.heap.size W w' := by
  obtain ⟨W1, hW1⟩ : ∃ W1, W1 = ((W.alloc (.cells #[.nilIface] 64)).alloc (.cells #[.int .i64 p1, .int .i64 p2, .int .i64 p3] 23)).alloc (.cells #[.int .u8 c1, .int .u8 c2] 33) := ⟨_, rfl⟩
  have hB1 : Below W.heap.size W W1 := by rw [hW1]; exact (((Below.refl _ _).alloc (Nat.le_refl _) _).alloc (by simp) _).alloc (by simp; omega) _
  have hb3 : Blk W1 W.heap.size 64 #[.nilIface] := by rw [hW1]; exact ((Blk.new _ _ _).alloc _).alloc _
  have v3 : W1.cell? ⟨W.heap.size, 0, none⟩ = some .nilIface := hb3.cell 0
  rw [hW1] at v3
  have HB1 := Lib.hid hB1
  have HW1 := Lib.hid hW1
  clear hB1 hb3 hW1
  go_enter Try.func11, Try.ntmps11
  go_wp2
  rw [← HW1.out]
  go_ret
  exact ⟨rfl, HB1.out⟩
set_option maxHeartbeats 4000000 in
theorem change_not (W : World) (g : Nat) (p1 p2 p3 c1 c2 : Int) (hm : mayP (p1, p2, p3) = false) : Calls Try.prog 11 #[.iface 29 (.pointer (some ⟨g, 0, none⟩)), .agg #[.int .i64 p1, .int .i64 p2, .int .i64 p3], .agg #[.int .u8 c1, .int .u8 c2]] W fun e w' => e = .returned (.int .i64 0) ∧ Below W.heap.size W w' := by
  obtain ⟨W1, hW1⟩ : ∃ W1, W1 = ((W.alloc (.cells #[.iface 29 (.pointer (some ⟨g, 0, none⟩))] 64)).alloc (.cells #[.int .i64 p1, .int .i64 p2, .int .i64 p3] 23)).alloc (.cells #[.int .u8 c1, .int .u8 c2] 33) := ⟨_, rfl⟩
  have e1 : (W.alloc (.cells #[.iface 29 (.pointer (some ⟨g, 0, none⟩))] 64)).heap.size = W.heap.size + 1 := by simp
  have hB1 : Below W.heap.size W W1 := by rw [hW1]; exact (((Below.refl _ _).alloc (Nat.le_refl _) _).alloc (by simp) _).alloc (by simp; omega) _
  have hb3 : Blk W1 W.heap.size 64 #[.iface 29 (.pointer (some ⟨g, 0, none⟩))] := by rw [hW1]; exact ((Blk.new _ _ _).alloc _).alloc _
  have hb4 : Blk W1 (W.heap.size + 1) 23 #[.int .i64 p1, .int .i64 p2, .int .i64 p3] := by rw [hW1, ← e1]; exact (Blk.new _ _ _).alloc _
  have v3 : W1.cell? ⟨W.heap.size, 0, none⟩ = some (.iface 29 (.pointer (some ⟨g, 0, none⟩))) := hb3.cell 0
  obtain ⟨a0, a1, a2⟩ := three_cells hb4
  rw [hW1] at v3 a0 a1 a2
  have HPM := Lib.hid (pmay_any W1 (p1, p2, p3))
  rw [hm] at HPM
  unfold plV plC at HPM
  simp only at HPM
  have HB1 := Lib.hid hB1
  have HW1 := Lib.hid hW1
  clear e1 hB1 hb3 hb4 hW1 hm
  go_enter Try.func11, Try.ntmps11
  go_wp2_with fail
  rw [← HW1.out]
  go_at_call 24
  refine HPM.out.mono ?_
  rintro e w2 ⟨rfl, hb⟩
  have HB2 := Lib.hid (HB1.out.trans (hb.mono HB1.out.size))
  clear hb v3 a0 a1 a2
  go_wp2
  go_ret
  exact ⟨rfl, HB2.out⟩
set_option maxHeartbeats 32000000 in
theorem known_walk (W : World) : Calls Try.prog 4 #[] W fun e w' => e = .returned (.bool true) ∧ Below W.heap.size W w' := by
  have H1 := Lib.hid (fun w => over_lit w 12 (by decide) 11 1 (inU_lit (by decide)) 1 ex_ember.1)
  have H2 := Lib.hid (fun w => over_lit w 12 (by decide) 9 0 (inU_lit (by decide)) 0 ex_glass)
  have H3 := Lib.hid (fun w => over_lit w 13 (by decide) 2 0 (inU_lit (by decide)) 5 ex_stone13)
  have H4 := Lib.hid (fun w => over_lit w 8 (by decide) 0 0 (inU_lit (by decide)) 1 ex_hole.1)
  have H5 := Lib.hid (fun w => over_lit w 3 (by decide) 2 0 (inU_lit (by decide)) 0 ex_deep)
  have H6 := Lib.hid (fun w => made_any w (0, 0, 0) 0 0 0 nilS [] (RAt.nil w none 0) (fun c h => by cases h) (Nat.zero_le _))
  have H7 := Lib.hid (fun w => change_nil w 0 0 0 0 0)
  have H8 := Lib.hid (fun w g => change_not w g 0 64 0 2 0 (by decide))
  have q1 := eq_self_light 15 1 (by decide) (by decide)
  have q2 := eq_self_light 15 0 (by decide) (by decide)
  simp only at H6
  go_enter Try.func4, Try.ntmps4
  go_wp2_with fail
  go_at_call 9
  refine (H1.out W).mono ?_
  rintro e w1 ⟨ao1, cap1, rfl, hr1, hb1⟩
  obtain ⟨g1, rfl, hg1, hc1⟩ := ov_at hr1
  have e1 := hc1 12 (by decide)
  rw [ex_ember.2] at e1
  have HB1 := Lib.hid (And.intro hb1 (And.intro hg1 e1))
  clear hr1 hb1 hg1 hc1 e1
  go_wp2_with fail
  go_at_call 9
  refine (H2.out w1).mono ?_
  rintro e w2 ⟨ao2, cap2, rfl, -, hb2⟩
  have HB2 := Lib.hid (HB1.out.1.trans (hb2.mono HB1.out.1.size))
  have HL2 := Lib.hid (And.intro ((hb2.cell HB1.out.2.1).trans HB1.out.2.2.1) (And.intro ((hb2.cell HB1.out.2.1).trans HB1.out.2.2.2) (Nat.lt_of_lt_of_le HB1.out.2.1 hb2.size)))
  clear hb2
  go_wp2_with fail
  go_at_call 9
  refine (H3.out w2).mono ?_
  rintro e w3 ⟨ao3, cap3, rfl, -, hb3⟩
  have HB3 := Lib.hid (HB2.out.trans (hb3.mono HB2.out.size))
  have HL3 := Lib.hid (And.intro ((hb3.cell HL2.out.2.2).trans HL2.out.1) (And.intro ((hb3.cell HL2.out.2.2).trans HL2.out.2.1) (Nat.lt_of_lt_of_le HL2.out.2.2 hb3.size)))
  clear hb3
  go_wp2_with fail
  go_at_call 9
  refine (H4.out w3).mono ?_
  rintro e w4 ⟨ao4, cap4, rfl, hr4, hb4⟩
  obtain ⟨g4, rfl, hg4, hc4⟩ := ov_at hr4
  have e4 := hc4 8 (by decide)
  rw [ex_hole.2] at e4
  have HB4 := Lib.hid (HB3.out.trans (hb4.mono HB3.out.size))
  have HL4 := Lib.hid (And.intro ((hb4.cell HL3.out.2.2).trans HL3.out.1) (And.intro ((hb4.cell HL3.out.2.2).trans HL3.out.2.1) (Nat.lt_of_lt_of_le HL3.out.2.2 hb4.size)))
  have HM4 := Lib.hid (And.intro e4.1 (And.intro e4.2 hg4))
  clear hr4 hb4 hg4 hc4 e4
  go_wp2_with fail
  go_at_call 9
  refine (H5.out w4).mono ?_
  rintro e w5 ⟨ao5, cap5, rfl, -, hb5⟩
  have HB5 := Lib.hid (HB4.out.trans (hb5.mono HB4.out.size))
  have HL5 := Lib.hid (And.intro ((hb5.cell HL4.out.2.2).trans HL4.out.1) (And.intro ((hb5.cell HL4.out.2.2).trans HL4.out.2.1) (Nat.lt_of_lt_of_le HL4.out.2.2 hb5.size)))
  have HM5 := Lib.hid (And.intro ((hb5.cell HM4.out.2.2).trans HM4.out.1) (And.intro ((hb5.cell HM4.out.2.2).trans HM4.out.2.1) (Nat.lt_of_lt_of_le HM4.out.2.2 hb5.size)))
  clear hb5
  go_wp2_with fail
  go_at_call 10
  refine (H6.out w5).mono ?_
  rintro e w6 ⟨g, cv, lv, rfl, hf6, hb6⟩
  have HF6 := Lib.hid hf6
  have HB6 := Lib.hid (HB5.out.trans (hb6.mono HB5.out.size))
  have HL6 := Lib.hid (And.intro ((hb6.cell HL5.out.2.2).trans HL5.out.1) (And.intro ((hb6.cell HL5.out.2.2).trans HL5.out.2.1) (Nat.lt_of_lt_of_le HL5.out.2.2 hb6.size)))
  have HM6 := Lib.hid (And.intro ((hb6.cell HM5.out.2.2).trans HM5.out.1) (And.intro ((hb6.cell HM5.out.2.2).trans HM5.out.2.1) (Nat.lt_of_lt_of_le HM5.out.2.2 hb6.size)))
  clear hf6 hb6
  go_wp2_with fail
  go_at_call 11
  refine (H7.out w6).mono ?_
  rintro e w7 ⟨rfl, hb7⟩
  have HB7 := Lib.hid (And.intro (HB6.out.trans (hb7.mono HB6.out.size)) hb7)
  clear hb7
  go_wp2_with fail
  go_at_call 11
  refine (H8.out w7 g).mono ?_
  rintro e w8 ⟨rfl, hb8⟩
  have HB8 := Lib.hid (HB7.out.1.trans (hb8.mono HB7.out.1.size))
  have hb68 : Below w6.heap.size w6 w8 := HB7.out.2.trans (hb8.mono HB7.out.2.size)
  have hl : g1 < w8.heap.size := Nat.lt_of_lt_of_le HL6.out.2.2 hb68.size
  have hm : g4 < w8.heap.size := Nat.lt_of_lt_of_le HM6.out.2.2 hb68.size
  have hgl : g < w8.heap.size := Nat.lt_of_lt_of_le HF6.out.blk.lt hb68.size
  have a0 : ∀ q : InB w8, q.w'.cell? ⟨g1, 24, none⟩ = some (.int .u8 15) := fun q => q.cell ((hb68.cell HL6.out.2.2).trans HL6.out.1) hl
  have a1 : ∀ q : InB w8, q.w'.cell? ⟨g1, 25, none⟩ = some (.int .u8 1) := fun q => q.cell ((hb68.cell HL6.out.2.2).trans HL6.out.2.1) hl
  have b0 : ∀ q : InB w8, q.w'.cell? ⟨g4, 16, none⟩ = some (.int .u8 15) := fun q => q.cell ((hb68.cell HM6.out.2.2).trans HM6.out.1) hm
  have b1 : ∀ q : InB w8, q.w'.cell? ⟨g4, 17, none⟩ = some (.int .u8 0) := fun q => q.cell ((hb68.cell HM6.out.2.2).trans HM6.out.2.1) hm
  have d8 : ∀ q : InB w8, q.w'.cell? ⟨g, 8, none⟩ = some (.slice none 0 0) := fun q => q.cell ((hb68.cell HF6.out.blk.lt).trans (HF6.out.blk.cell 8)) hgl
  have d9 : ∀ q : InB w8, q.w'.cell? ⟨g, 9, none⟩ = some (.slice none 0 0) := fun q => q.cell ((hb68.cell HF6.out.blk.lt).trans (HF6.out.blk.cell 9)) hgl
  have d10 : ∀ q : InB w8, q.w'.cell? ⟨g, 10, none⟩ = some (.int .i64 0) := fun q => q.cell ((hb68.cell HF6.out.blk.lt).trans (HF6.out.blk.cell 10)) hgl
  have HAW := Lib.hid (fun q : InB w8 => awake_any q.w')
  clear hb8 hb68 hl hm hgl HL2 HL3 HL4 HL5 HM4 HM5 H1 H2 H3 H4 H5 H6 H7 H8
  go_wp2
  refine wp_region_quiet_below (by kernel_rfl) (by kernel_rfl) ?_
  repeat (go_big_quiet_step ((first | (go_at_call 6; exact calls_below (HAW.out _)))))
  refine wpQuiet_nil ?_
  intro _ hw'
  obtain ⟨⟨wq, hbq⟩, hw''⟩ := hw'
  subst hw''
  have HBQ := Lib.hid (HB8.out.trans (hbq.mono HB8.out.size))
  clear a0 a1 b0 b1 d8 d9 d10 hbq
  go_wp2
  go_ret
  exact ⟨rfl, HBQ.out⟩
end Go.Proofs.Ytlhjjmfbifhgfaa
