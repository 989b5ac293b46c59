/- The document's answers as lines: the walk. (Printed by genfans.py.) -/
import Derived.Test.YtjbhkmpabajeoaaDoorLAnsW
import Derived.Test.YtjbhkmpabajeoaaDoorLFName
namespace Go.Proofs.YtjbhkmpabajeoaaDoor
set_option linter.unusedSimpArgs false
set_option linter.unusedVariables false
open Go.RowKit
open Go.Lib (itoa join itoa_length_le)

set_option maxRecDepth 100000 in
theorem fnamed_any (w : World) (s : Bs) (n : Int) (hn : InI n) : Calls Tryd.prog 38 #[.string (str s), .int .i64 n] w fun e w' => e = .returned (.string (str (namedS s n))) ∧ Below w.heap.size w w' := by
  have HD := Lib.hid (digits_any w n hn)
  have HX := Lib.hid (show namedS s n = if s = [] then itoa n else s from rfl)
  generalize namedS s n = res at HX ⊢
  rcases Bool.eq_false_or_eq_true (s.isEmpty) with hm | hm
  · have hm0 : s = [] := by simpa using hm
    subst hm0
    clear hm
    go_enter Tryd.func38, Tryd.ntmps38
    go_wp2_with fail
    go_at_call 39
    refine HD.out.mono ?_
    rintro e w1 ⟨rfl, hb⟩
    go_wp2
    go_ret
    refine ⟨?_, hb⟩
    rw [HX.out]
    first | rfl | (rw [if_pos trivial]; rfl)
  · have hm0 : s ≠ [] := by simpa using hm
    have HM := Lib.hid hm0
    clear hm0
    go_enter Tryd.func38, Tryd.ntmps38
    go_wp2
    go_ret
    refine ⟨?_, Below.refl _ _⟩
    rw [HX.out, if_neg HM.out]
    rfl
set_option maxRecDepth 100000 in
set_option maxHeartbeats 4000000 in
theorem fans_err (w : World) (k : Int) (a : AnsR) (ha : a.Ok) (hz : a.e ≠ 0) : Calls Tryd.prog 17 #[.int .i64 k, ansV a] w fun e w' => e = .returned (.string (str (ansS k a))) ∧ Below w.heap.size w w' := by
  have HER := Lib.hid (fun W => ferror_any W a.e)
  have HI := Lib.hid (fun W => fnamed_any W (errS a.e) a.e ha.e)
  have hin := ha.e
  have HX := Lib.hid (show ansS k a = [101, 114, 114, 111, 114, 32] ++ namedS (errS a.e) a.e by unfold ansS; rw [if_neg hz])
  have HB := Lib.hid ((Below.refl w.heap.size w).alloc (Nat.le_refl _) (.cells (ansC a) 43))
  have HK := Lib.hid (Blk.new w 43 (ansC a))
  have hb : (a.e != 0) = true := by simpa using hz
  have len1 : (namedS (errS a.e) a.e).length ≤ 21 := namedS_len _ _ (errS_len a.e) hin
  unfold ansV
  unfold ansC at HB ⊢
  clear ha
  generalize ansS k a = res at HX ⊢
  generalize namedS (errS a.e) a.e = nm at HX HI len1
  generalize errS a.e = er at HER HI
  go_enter Tryd.func17, Tryd.ntmps17
  go_wp2_with fail
  go_at_call 19
  refine (HER.out _).mono ?_
  rintro e w1 ⟨rfl, hb1⟩
  have HB1 := Lib.hid (HB.out.trans (hb1.mono HB.out.size))
  have HK1 := Lib.hid (HK.out.below hb1 HK.out.lt)
  have c0 := HK1.out.ans.1
  clear hb1
  go_wp2_with fail
  go_at_call 38
  refine (HI.out _).mono ?_
  rintro e w2 ⟨rfl, hb2⟩
  have HB2 := Lib.hid (HB1.out.trans (hb2.mono HB1.out.size))
  clear hb2
  go_wp2
  go_ret
  refine ⟨?_, HB2.out⟩
  rw [HX.out]
  rfl
theorem Blk.ansB {w : World} {g : Nat} {a : AnsR} (h : Blk w g 43 (ansC a)) :
    (∀ p : InB w, p.w'.cell? ⟨g, 0, none⟩ = some (.int .i64 a.e)) ∧ (∀ p : InB w, p.w'.cell? ⟨g, 1, none⟩ = some (.int .i64 a.x)) ∧ (∀ p : InB w, p.w'.cell? ⟨g, 2, none⟩ = some (.int .i64 a.y)) ∧ (∀ p : InB w, p.w'.cell? ⟨g, 3, none⟩ = some (.int .i64 a.z)) ∧ (∀ p : InB w, p.w'.cell? ⟨g, 4, none⟩ = some (.int .u8 a.c1)) ∧ (∀ p : InB w, p.w'.cell? ⟨g, 5, none⟩ = some (.int .u8 a.c2)) ∧ (∀ p : InB w, p.w'.cell? ⟨g, 6, none⟩ = some (.int .u8 a.s1)) ∧ (∀ p : InB w, p.w'.cell? ⟨g, 7, none⟩ = some (.int .u8 a.s2)) ∧ (∀ p : InB w, p.w'.cell? ⟨g, 8, none⟩ = some (.int .i64 a.due)) ∧ (∀ p : InB w, p.w'.cell? ⟨g, 9, none⟩ = some (.int .i64 a.n)) ∧ (∀ p : InB w, p.w'.cell? ⟨g, 10, none⟩ = some (.int .i64 a.p1)) ∧ (∀ p : InB w, p.w'.cell? ⟨g, 11, none⟩ = some (.int .i64 a.p2)) ∧ (∀ p : InB w, p.w'.cell? ⟨g, 12, none⟩ = some (.int .i64 a.p3)) ∧ (∀ p : InB w, p.w'.cell? ⟨g, 13, none⟩ = some (.int .i64 a.p4)) :=
  ⟨fun p => p.cell (h.cell 0) h.lt, fun p => p.cell (h.cell 1) h.lt, fun p => p.cell (h.cell 2) h.lt, fun p => p.cell (h.cell 3) h.lt, fun p => p.cell (h.cell 4) h.lt, fun p => p.cell (h.cell 5) h.lt, fun p => p.cell (h.cell 6) h.lt, fun p => p.cell (h.cell 7) h.lt, fun p => p.cell (h.cell 8) h.lt, fun p => p.cell (h.cell 9) h.lt, fun p => p.cell (h.cell 10) h.lt, fun p => p.cell (h.cell 11) h.lt, fun p => p.cell (h.cell 12) h.lt, fun p => p.cell (h.cell 13) h.lt⟩
theorem lit_str (x : Array UInt8) : (ByteArray.mk x) = str x.toList := rfl
set_option maxRecDepth 100000 in
set_option maxHeartbeats 4000000 in
theorem fans_7 (w : World) (a : AnsR) (ha : a.Ok) (hz : a.e = 0) : Calls Tryd.prog 17 #[.int .i64 7, ansV a] w fun e w' => e = .returned (.string (str (ansS 7 a))) ∧ Below w.heap.size w w' := by
  have HX := Lib.hid (show ansS 7 a = namedS (nameK a.c1) a.c1 ++ 32 :: itoa a.c2 ++ [32, 115, 107, 121, 32] ++ itoa a.s1 ++ [32, 108, 97, 109, 112, 32] ++ itoa a.s2 ++ [32, 100, 117, 101, 32] ++ itoa a.due by unfold ansS; rw [if_pos hz]; unfold ansW; rw [if_pos rfl]; simp [cellW, Lib.join_one, join_cons_cons])
  have HB := Lib.hid ((Below.refl w.heap.size w).alloc (Nat.le_refl _) (.cells (ansC a) 43))
  have HK := Lib.hid (Blk.new w 43 (ansC a))
  have hb : (a.e != 0) = false := by simpa using hz
  have HN := Lib.hid (fun W => fname_any W a.c1 ha.c1)
  have HM := Lib.hid (fun W => fnamed_any W (nameK a.c1) a.c1 ha.c1.i)
  have HD := Lib.hid (fun W => digits_any W a.c2 ha.c2.i)
  have l0 : (nameK a.c1).length ≤ 21 := by have := nameK_len a.c1; omega
  have l1 : (namedS (nameK a.c1) a.c1).length ≤ 21 := namedS_len _ _ l0 ha.c1.i
  have l2 := itoa_length_le a.c2 ha.c2.i.1 ha.c2.i.2
  have r1 : 0 ≤ a.c1 := ha.c1.1
  have r2 : a.c1 ≤ 255 := ha.c1.2
  have r3 : 0 ≤ a.c2 := ha.c2.1
  have r4 : a.c2 ≤ 255 := ha.c2.2
  have H_s1 := Lib.hid (fun W => digits_any W a.s1 ha.s1.i)
  have l_s1 := itoa_length_le a.s1 ha.s1.i.1 ha.s1.i.2
  have p_s1 : 0 ≤ a.s1 := ha.s1.1
  have q_s1 : a.s1 ≤ 255 := ha.s1.2
  have H_s2 := Lib.hid (fun W => digits_any W a.s2 ha.s2.i)
  have l_s2 := itoa_length_le a.s2 ha.s2.i.1 ha.s2.i.2
  have p_s2 : 0 ≤ a.s2 := ha.s2.1
  have q_s2 : a.s2 ≤ 255 := ha.s2.2
  have H_due := Lib.hid (fun W => digits_any W a.due ha.due)
  have l_due := itoa_length_le a.due ha.due.1 ha.due.2
  unfold ansV
  unfold ansC at ⊢
  generalize ansS 7 a = res at HX ⊢
  generalize namedS (nameK a.c1) a.c1 = nm at HX HM l1
  generalize nameK a.c1 = nk at HN HM l0
  generalize itoa a.c2 = it at HX HD l2
  generalize itoa a.s1 = d_s1 at HX H_s1 l_s1
  generalize itoa a.s2 = d_s2 at HX H_s2 l_s2
  generalize itoa a.due = d_due at HX H_due l_due
  clear ha hz
  obtain ⟨W, hW⟩ : ∃ W, W = w.alloc (.cells (ansC a) 43) := ⟨_, rfl⟩
  rw [← hW] at HB HK
  unfold ansC at hW
  have HWW := Lib.hid hW
  clear hW
  go_enter Tryd.func17, Tryd.ntmps17
  go_wp2
  rw [← HWW.out]
  obtain ⟨C0, C1, C2, C3, C4, C5, C6, C7, C8, C9, C10, C11, C12, C13⟩ := HK.out.ansB
  refine wp_region_quiet_below (by kernel_rfl) (by kernel_rfl) ?_
  repeat (go_big_quiet_step ((first | (go_at_call 39; with_reducible exact calls_below (HD.out _)) | (go_at_call 38; with_reducible exact calls_below (HM.out _)) | (go_at_call 26; with_reducible exact calls_below (HN.out _)))))
  refine wpQuiet_nil ?_
  intro _ hw'
  obtain ⟨⟨wq, hbq⟩, hw''⟩ := hw'
  subst hw''
  have HB1 := Lib.hid (HB.out.trans (hbq.mono HB.out.size))
  have HK1 := Lib.hid (HK.out.below hbq HK.out.lt)
  clear hbq C0 C1 C2 C3 C4 C5 C6 C7 C8 C9 C10 C11 C12 C13
  go_wp2
  obtain ⟨C0, C1, C2, C3, C4, C5, C6, C7, C8, C9, C10, C11, C12, C13⟩ := HK1.out.ansB
  refine wp_region_quiet_below (by kernel_rfl) (by kernel_rfl) ?_
  repeat (go_big_quiet_step ((go_at_call 39; first | (with_reducible exact calls_below (H_s1.out _)) | (with_reducible exact calls_below (H_s2.out _)) | (with_reducible exact calls_below (H_due.out _)))))
  refine wpQuiet_nil ?_
  intro _ hw'
  obtain ⟨⟨wp, hbp⟩, hw''⟩ := hw'
  subst hw''
  have HB2 := Lib.hid (HB1.out.trans (hbp.mono HB1.out.size))
  clear hbp C0 C1 C2 C3 C4 C5 C6 C7 C8 C9 C10 C11 C12 C13
  go_wp2
  go_ret
  refine ⟨?_, HB2.out⟩
  rw [HX.out]
  exact ret_str (by simp [lit_str, str_append])
set_option maxRecDepth 100000 in
set_option maxHeartbeats 4000000 in
theorem fans_8 (w : World) (a : AnsR) (ha : a.Ok) (hz : a.e = 0) : Calls Tryd.prog 17 #[.int .i64 8, ansV a] w fun e w' => e = .returned (.string (str (ansS 8 a))) ∧ Below w.heap.size w w' := by
  have HX := Lib.hid (show ansS 8 a = itoa a.x ++ 32 :: itoa a.y ++ 32 :: itoa a.z ++ 32 :: (namedS (nameK a.c1) a.c1 ++ 32 :: itoa a.c2) ++ [32, 115, 116, 101, 112, 115, 32] ++ itoa a.n by unfold ansS; rw [if_pos hz]; unfold ansW; rw [if_neg (by decide), if_pos rfl]; simp [cellW, Lib.join_one, join_cons_cons])
  have HB := Lib.hid ((Below.refl w.heap.size w).alloc (Nat.le_refl _) (.cells (ansC a) 43))
  have HK := Lib.hid (Blk.new w 43 (ansC a))
  have hb : (a.e != 0) = false := by simpa using hz
  have HN := Lib.hid (fun W => fname_any W a.c1 ha.c1)
  have HM := Lib.hid (fun W => fnamed_any W (nameK a.c1) a.c1 ha.c1.i)
  have HD := Lib.hid (fun W => digits_any W a.c2 ha.c2.i)
  have l0 : (nameK a.c1).length ≤ 21 := by have := nameK_len a.c1; omega
  have l1 : (namedS (nameK a.c1) a.c1).length ≤ 21 := namedS_len _ _ l0 ha.c1.i
  have l2 := itoa_length_le a.c2 ha.c2.i.1 ha.c2.i.2
  have r1 : 0 ≤ a.c1 := ha.c1.1
  have r2 : a.c1 ≤ 255 := ha.c1.2
  have r3 : 0 ≤ a.c2 := ha.c2.1
  have r4 : a.c2 ≤ 255 := ha.c2.2
  have H_x := Lib.hid (fun W => digits_any W a.x ha.x)
  have l_x := itoa_length_le a.x ha.x.1 ha.x.2
  have H_y := Lib.hid (fun W => digits_any W a.y ha.y)
  have l_y := itoa_length_le a.y ha.y.1 ha.y.2
  have H_z := Lib.hid (fun W => digits_any W a.z ha.z)
  have l_z := itoa_length_le a.z ha.z.1 ha.z.2
  have H_n := Lib.hid (fun W => digits_any W a.n ha.n)
  have l_n := itoa_length_le a.n ha.n.1 ha.n.2
  unfold ansV
  unfold ansC at ⊢
  generalize ansS 8 a = res at HX ⊢
  generalize namedS (nameK a.c1) a.c1 = nm at HX HM l1
  generalize nameK a.c1 = nk at HN HM l0
  generalize itoa a.c2 = it at HX HD l2
  generalize itoa a.x = d_x at HX H_x l_x
  generalize itoa a.y = d_y at HX H_y l_y
  generalize itoa a.z = d_z at HX H_z l_z
  generalize itoa a.n = d_n at HX H_n l_n
  clear ha hz
  obtain ⟨W, hW⟩ : ∃ W, W = w.alloc (.cells (ansC a) 43) := ⟨_, rfl⟩
  rw [← hW] at HB HK
  unfold ansC at hW
  have HWW := Lib.hid hW
  clear hW
  go_enter Tryd.func17, Tryd.ntmps17
  go_wp2
  rw [← HWW.out]
  obtain ⟨C0, C1, C2, C3, C4, C5, C6, C7, C8, C9, C10, C11, C12, C13⟩ := HK.out.ansB
  refine wp_region_quiet_below (by kernel_rfl) (by kernel_rfl) ?_
  repeat (go_big_quiet_step ((first | (go_at_call 39; with_reducible exact calls_below (HD.out _)) | (go_at_call 38; with_reducible exact calls_below (HM.out _)) | (go_at_call 26; with_reducible exact calls_below (HN.out _)))))
  refine wpQuiet_nil ?_
  intro _ hw'
  obtain ⟨⟨wq, hbq⟩, hw''⟩ := hw'
  subst hw''
  have HB1 := Lib.hid (HB.out.trans (hbq.mono HB.out.size))
  have HK1 := Lib.hid (HK.out.below hbq HK.out.lt)
  clear hbq C0 C1 C2 C3 C4 C5 C6 C7 C8 C9 C10 C11 C12 C13
  go_wp2
  obtain ⟨C0, C1, C2, C3, C4, C5, C6, C7, C8, C9, C10, C11, C12, C13⟩ := HK1.out.ansB
  refine wp_region_quiet_below (by kernel_rfl) (by kernel_rfl) ?_
  repeat (go_big_quiet_step ((go_at_call 39; first | (with_reducible exact calls_below (H_x.out _)) | (with_reducible exact calls_below (H_y.out _)) | (with_reducible exact calls_below (H_z.out _)) | (with_reducible exact calls_below (H_n.out _)))))
  refine wpQuiet_nil ?_
  intro _ hw'
  obtain ⟨⟨wp, hbp⟩, hw''⟩ := hw'
  subst hw''
  have HB2 := Lib.hid (HB1.out.trans (hbp.mono HB1.out.size))
  clear hbp C0 C1 C2 C3 C4 C5 C6 C7 C8 C9 C10 C11 C12 C13
  go_wp2
  go_ret
  refine ⟨?_, HB2.out⟩
  rw [HX.out]
  exact ret_str (by simp [lit_str, str_append])
set_option maxRecDepth 100000 in
set_option maxHeartbeats 4000000 in
theorem fans_10 (w : World) (a : AnsR) (ha : a.Ok) (hz : a.e = 0) : Calls Tryd.prog 17 #[.int .i64 10, ansV a] w fun e w' => e = .returned (.string (str (ansS 10 a))) ∧ Below w.heap.size w w' := by
  have HX := Lib.hid (show ansS 10 a = [110, 111, 119, 32] ++ itoa a.n ++ [32, 112, 108, 97, 99, 101, 100, 32] ++ itoa a.p1 ++ [32, 98, 114, 111, 107, 101, 110, 32] ++ itoa a.p2 ++ [32, 103, 114, 111, 119, 110, 32] ++ itoa a.p3 ++ [32, 98, 117, 114, 110, 116, 32] ++ itoa a.p4 by unfold ansS; rw [if_pos hz]; unfold ansW; rw [if_neg (by decide), if_neg (by decide), if_pos rfl]; simp [cellW, Lib.join_one, join_cons_cons])
  have HB := Lib.hid ((Below.refl w.heap.size w).alloc (Nat.le_refl _) (.cells (ansC a) 43))
  have HK := Lib.hid (Blk.new w 43 (ansC a))
  have hb : (a.e != 0) = false := by simpa using hz
  have HN := Lib.hid (fun W => fname_any W a.c1 ha.c1)
  have HM := Lib.hid (fun W => fnamed_any W (nameK a.c1) a.c1 ha.c1.i)
  have HD := Lib.hid (fun W => digits_any W a.c2 ha.c2.i)
  have l0 : (nameK a.c1).length ≤ 21 := by have := nameK_len a.c1; omega
  have l1 : (namedS (nameK a.c1) a.c1).length ≤ 21 := namedS_len _ _ l0 ha.c1.i
  have l2 := itoa_length_le a.c2 ha.c2.i.1 ha.c2.i.2
  have r1 : 0 ≤ a.c1 := ha.c1.1
  have r2 : a.c1 ≤ 255 := ha.c1.2
  have r3 : 0 ≤ a.c2 := ha.c2.1
  have r4 : a.c2 ≤ 255 := ha.c2.2
  have H_n := Lib.hid (fun W => digits_any W a.n ha.n)
  have l_n := itoa_length_le a.n ha.n.1 ha.n.2
  have H_p1 := Lib.hid (fun W => digits_any W a.p1 ha.p1)
  have l_p1 := itoa_length_le a.p1 ha.p1.1 ha.p1.2
  have H_p2 := Lib.hid (fun W => digits_any W a.p2 ha.p2)
  have l_p2 := itoa_length_le a.p2 ha.p2.1 ha.p2.2
  have H_p3 := Lib.hid (fun W => digits_any W a.p3 ha.p3)
  have l_p3 := itoa_length_le a.p3 ha.p3.1 ha.p3.2
  have H_p4 := Lib.hid (fun W => digits_any W a.p4 ha.p4)
  have l_p4 := itoa_length_le a.p4 ha.p4.1 ha.p4.2
  unfold ansV
  unfold ansC at ⊢
  generalize ansS 10 a = res at HX ⊢
  generalize namedS (nameK a.c1) a.c1 = nm at HX HM l1
  generalize nameK a.c1 = nk at HN HM l0
  generalize itoa a.c2 = it at HX HD l2
  generalize itoa a.n = d_n at HX H_n l_n
  generalize itoa a.p1 = d_p1 at HX H_p1 l_p1
  generalize itoa a.p2 = d_p2 at HX H_p2 l_p2
  generalize itoa a.p3 = d_p3 at HX H_p3 l_p3
  generalize itoa a.p4 = d_p4 at HX H_p4 l_p4
  clear ha hz
  obtain ⟨W, hW⟩ : ∃ W, W = w.alloc (.cells (ansC a) 43) := ⟨_, rfl⟩
  rw [← hW] at HB HK
  unfold ansC at hW
  have HWW := Lib.hid hW
  clear hW
  go_enter Tryd.func17, Tryd.ntmps17
  go_wp2
  rw [← HWW.out]
  obtain ⟨C0, C1, C2, C3, C4, C5, C6, C7, C8, C9, C10, C11, C12, C13⟩ := HK.out.ansB
  refine wp_region_quiet_below (by kernel_rfl) (by kernel_rfl) ?_
  repeat (go_big_quiet_step ((first | (go_at_call 39; with_reducible exact calls_below (HD.out _)) | (go_at_call 38; with_reducible exact calls_below (HM.out _)) | (go_at_call 26; with_reducible exact calls_below (HN.out _)))))
  refine wpQuiet_nil ?_
  intro _ hw'
  obtain ⟨⟨wq, hbq⟩, hw''⟩ := hw'
  subst hw''
  have HB1 := Lib.hid (HB.out.trans (hbq.mono HB.out.size))
  have HK1 := Lib.hid (HK.out.below hbq HK.out.lt)
  clear hbq C0 C1 C2 C3 C4 C5 C6 C7 C8 C9 C10 C11 C12 C13
  go_wp2
  obtain ⟨C0, C1, C2, C3, C4, C5, C6, C7, C8, C9, C10, C11, C12, C13⟩ := HK1.out.ansB
  refine wp_region_quiet_below (by kernel_rfl) (by kernel_rfl) ?_
  repeat (go_big_quiet_step ((go_at_call 39; first | (with_reducible exact calls_below (H_n.out _)) | (with_reducible exact calls_below (H_p1.out _)) | (with_reducible exact calls_below (H_p2.out _)) | (with_reducible exact calls_below (H_p3.out _)) | (with_reducible exact calls_below (H_p4.out _)))))
  refine wpQuiet_nil ?_
  intro _ hw'
  obtain ⟨⟨wp, hbp⟩, hw''⟩ := hw'
  subst hw''
  have HB2 := Lib.hid (HB1.out.trans (hbp.mono HB1.out.size))
  clear hbp C0 C1 C2 C3 C4 C5 C6 C7 C8 C9 C10 C11 C12 C13
  go_wp2
  go_ret
  refine ⟨?_, HB2.out⟩
  rw [HX.out]
  exact ret_str (by simp [lit_str, str_append])
set_option maxRecDepth 100000 in
set_option maxHeartbeats 4000000 in
theorem fans_x (w : World) (k : Int) (a : AnsR) (ha : a.Ok) (hz : a.e = 0) (h7 : k ≠ 7) (h8 : k ≠ 8) (h10 : k ≠ 10) : Calls Tryd.prog 17 #[.int .i64 k, ansV a] w fun e w' => e = .returned (.string (str (ansS k a))) ∧ Below w.heap.size w w' := by
  have HX := Lib.hid (show ansS k a = [111, 107] by unfold ansS; rw [if_pos hz]; unfold ansW; rw [if_neg h7, if_neg h8, if_neg h10]; simp [cellW, Lib.join_one, join_cons_cons])
  have HB := Lib.hid ((Below.refl w.heap.size w).alloc (Nat.le_refl _) (.cells (ansC a) 43))
  have HK := Lib.hid (Blk.new w 43 (ansC a))
  have hb : (a.e != 0) = false := by simpa using hz
  have HN := Lib.hid (fun W => fname_any W a.c1 ha.c1)
  have HM := Lib.hid (fun W => fnamed_any W (nameK a.c1) a.c1 ha.c1.i)
  have HD := Lib.hid (fun W => digits_any W a.c2 ha.c2.i)
  have l0 : (nameK a.c1).length ≤ 21 := by have := nameK_len a.c1; omega
  have l1 : (namedS (nameK a.c1) a.c1).length ≤ 21 := namedS_len _ _ l0 ha.c1.i
  have l2 := itoa_length_le a.c2 ha.c2.i.1 ha.c2.i.2
  have r1 : 0 ≤ a.c1 := ha.c1.1
  have r2 : a.c1 ≤ 255 := ha.c1.2
  have r3 : 0 ≤ a.c2 := ha.c2.1
  have r4 : a.c2 ≤ 255 := ha.c2.2
  unfold ansV
  unfold ansC at ⊢
  generalize ansS k a = res at HX ⊢
  generalize namedS (nameK a.c1) a.c1 = nm at HX HM l1
  generalize nameK a.c1 = nk at HN HM l0
  generalize itoa a.c2 = it at HX HD l2
  clear ha hz
  obtain ⟨W, hW⟩ : ∃ W, W = w.alloc (.cells (ansC a) 43) := ⟨_, rfl⟩
  rw [← hW] at HB HK
  unfold ansC at hW
  have HWW := Lib.hid hW
  clear hW
  go_enter Tryd.func17, Tryd.ntmps17
  go_wp2
  rw [← HWW.out]
  obtain ⟨C0, C1, C2, C3, C4, C5, C6, C7, C8, C9, C10, C11, C12, C13⟩ := HK.out.ansB
  refine wp_region_quiet_below (by kernel_rfl) (by kernel_rfl) ?_
  repeat (go_big_quiet_step ((first | (go_at_call 39; with_reducible exact calls_below (HD.out _)) | (go_at_call 38; with_reducible exact calls_below (HM.out _)) | (go_at_call 26; with_reducible exact calls_below (HN.out _)))))
  refine wpQuiet_nil ?_
  intro _ hw'
  obtain ⟨⟨wq, hbq⟩, hw''⟩ := hw'
  subst hw''
  have HB1 := Lib.hid (HB.out.trans (hbq.mono HB.out.size))
  have HK1 := Lib.hid (HK.out.below hbq HK.out.lt)
  clear hbq C0 C1 C2 C3 C4 C5 C6 C7 C8 C9 C10 C11 C12 C13
  go_wp2
  go_ret
  refine ⟨?_, HB1.out⟩
  rw [HX.out]
  exact ret_str (by simp [lit_str, str_append])
theorem fans_any (w : World) (k : Int) (a : AnsR) (ha : a.Ok) : Calls Tryd.prog 17 #[.int .i64 k, ansV a] w fun e w' => e = .returned (.string (str (ansS k a))) ∧ Below w.heap.size w w' := by
  by_cases hz : a.e = 0
  · by_cases h7 : k = 7
    · subst h7; exact fans_7 w a ha hz
    by_cases h8 : k = 8
    · subst h8; exact fans_8 w a ha hz
    by_cases h10 : k = 10
    · subst h10; exact fans_10 w a ha hz
    · exact fans_x w k a ha hz h7 h8 h10
  · exact fans_err w k a ha hz
end Go.Proofs.YtjbhkmpabajeoaaDoor
