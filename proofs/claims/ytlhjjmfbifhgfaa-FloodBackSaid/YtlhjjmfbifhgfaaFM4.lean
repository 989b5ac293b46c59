/- Joined texts of one seat, each under its own heading below. -/
import Derived.Test.YtlhjjmfbifhgfaaFM3
import Derived.Deep.RegionHeld
/- What is asked of a cell: may it be, is it clear, what light has it: the program's walks and the document's. -/
namespace Go.Proofs.Ytlhjjmfbifhgfaa
set_option linter.unusedSimpArgs false
set_option linter.unusedVariables false
open Go.RowKit

theorem two_cells {w : World} {g : Nat} {t : TypeId} {a b : Value} (h : Blk w g t #[a, b]) : w.cell? ⟨g, 0, none⟩ = some a ∧ w.cell? ⟨g, 1, none⟩ = some b := ⟨h.cell 0, h.cell 1⟩
set_option maxRecDepth 100000 in
set_option maxHeartbeats 2000000 in
theorem kmay_any (w : World) (k l : Int) (hk : InU k) (hl : InU l) : Calls Try.prog 47 #[.agg #[.int .u8 k, .int .u8 l]] w fun e w' => e = .returned (.bool (mayC k l)) ∧ Below w.heap.size w w' := by
  have HO := Lib.hid (fun W => of_any W k hk)
  have HM := Lib.hid (show mayC k l = (decide ((kindR k).1 ≠ []) && decide ((kindR k).2.2.1 ≤ l) && decide (l ≤ (kindR k).2.2.2)) from rfl)
  generalize kindR k = x at HO HM
  obtain ⟨nm, is, lo, hi⟩ := x
  simp only at HM
  simp only [kv] at HO
  have HK := Lib.hid (Blk.new w 33 #[.int .u8 k, .int .u8 l])
  have HB := Lib.hid ((Below.refl w.heap.size w).alloc (Nat.le_refl _) (.cells #[.int .u8 k, .int .u8 l] 33))
  generalize mayC k l = res at HM ⊢
  rcases Bool.eq_false_or_eq_true nm.isEmpty with h1 | h1
  · have e1 : nm = [] := by simpa using h1
    subst e1
    obtain rfl : res = false := by rw [HM.out]; rfl
    go_enter Try.func47, Try.ntmps47
    go_wp2_with fail
    go_at_call 62
    refine (HO.out _).mono ?_
    rintro e w1 ⟨rfl, hb⟩
    have HB1 := Lib.hid (let x := HB.out.trans (hb.mono HB.out.size); x.alloc x.size (.cells #[.string (str []), .int .u8 is, .int .u8 lo, .int .u8 hi] 100))
    clear hb
    go_wp2
    go_ret
    exact ⟨rfl, HB1.out⟩
  · have e1 : nm ≠ [] := by simpa using h1
    have HN := Lib.hid e1
    clear e1
    rcases Bool.eq_false_or_eq_true (decide (lo ≤ l)) with h2 | h2
    · rcases Bool.eq_false_or_eq_true (decide (l ≤ hi)) with h3 | h3
      · obtain rfl : res = true := by rw [HM.out, h2, h3]; simp [HN.out]
        go_enter Try.func47, Try.ntmps47
        go_wp2_with fail
        go_at_call 62
        refine (HO.out _).mono ?_
        rintro e w1 ⟨rfl, hb⟩
        obtain ⟨c0, c1⟩ := two_cells ((HK.out.below hb HK.out.lt).alloc (.cells #[.string (str nm), .int .u8 is, .int .u8 lo, .int .u8 hi] 100))
        have HB1 := Lib.hid (let x := HB.out.trans (hb.mono HB.out.size); x.alloc x.size (.cells #[.string (str nm), .int .u8 is, .int .u8 lo, .int .u8 hi] 100))
        clear hb
        go_wp2
        go_ret
        exact ⟨rfl, HB1.out⟩
      · obtain rfl : res = false := by rw [HM.out, h3]; simp
        go_enter Try.func47, Try.ntmps47
        go_wp2_with fail
        go_at_call 62
        refine (HO.out _).mono ?_
        rintro e w1 ⟨rfl, hb⟩
        obtain ⟨c0, c1⟩ := two_cells ((HK.out.below hb HK.out.lt).alloc (.cells #[.string (str nm), .int .u8 is, .int .u8 lo, .int .u8 hi] 100))
        have HB1 := Lib.hid (let x := HB.out.trans (hb.mono HB.out.size); x.alloc x.size (.cells #[.string (str nm), .int .u8 is, .int .u8 lo, .int .u8 hi] 100))
        clear hb
        go_wp2
        go_ret
        exact ⟨rfl, HB1.out⟩
    · obtain rfl : res = false := by rw [HM.out, h2]; simp
      go_enter Try.func47, Try.ntmps47
      go_wp2_with fail
      go_at_call 62
      refine (HO.out _).mono ?_
      rintro e w1 ⟨rfl, hb⟩
      obtain ⟨c0, c1⟩ := two_cells ((HK.out.below hb HK.out.lt).alloc (.cells #[.string (str nm), .int .u8 is, .int .u8 lo, .int .u8 hi] 100))
      have HB1 := Lib.hid (let x := HB.out.trans (hb.mono HB.out.size); x.alloc x.size (.cells #[.string (str nm), .int .u8 is, .int .u8 lo, .int .u8 hi] 100))
      clear hb
      go_wp2
      go_ret
      exact ⟨rfl, HB1.out⟩
theorem field_is (s : ByteArray) (b c d : Int) (w : World) : (Instr.field 100 (.agg #[.string s, .int .u8 b, .int .u8 c, .int .u8 d]) 1).run Try.prog w = .ok (.int .u8 b) w := by kernel_rfl
theorem clear_fin : ∀ i : Fin 15, bits .and .u8 (kinds.getD i.val ([], 0, 0, 0)).2.1 1 = (kinds.getD i.val ([], 0, 0, 0)).2.1 % 2 := by decide
theorem clear_bit (k : Int) : bits .and .u8 (kindR k).2.1 1 = (kindR k).2.1 % 2 := by
  rcases kindR_cases k with ⟨i, _, h⟩ | ⟨_, h⟩
  · rw [h]; exact clear_fin i
  · rw [h]; decide
set_option maxRecDepth 100000 in
set_option maxHeartbeats 1000000 in
theorem kclear_any (w : World) (k : Int) (hk : InU k) : Calls Try.prog 48 #[.int .u8 k] w fun e w' => e = .returned (.bool (clearK k)) ∧ Below w.heap.size w w' := by
  have HO := Lib.hid (fun W => of_any W k hk)
  have HM := Lib.hid (show clearK k = decide ((kindR k).2.1 % 2 = 1) from rfl)
  have hbit := clear_bit k
  generalize kindR k = x at HO HM hbit
  obtain ⟨nm, is, lo, hi⟩ := x
  simp only at HM hbit
  simp only [kv] at HO
  have hf := field_is
  have h01 : is % 2 = 0 ∨ is % 2 = 1 := by omega
  generalize clearK k = res at HM ⊢
  generalize is % 2 = b at hbit h01 HM
  rcases h01 with rfl | rfl
  · obtain rfl : res = false := by rw [HM.out]; rfl
    go_enter Try.func48, Try.ntmps48
    go_wp2_with fail
    go_at_call 62
    refine (HO.out _).mono ?_
    rintro e w1 ⟨rfl, hb⟩
    go_wp2
    go_ret
    exact ⟨rfl, hb⟩
  · obtain rfl : res = true := by rw [HM.out]; rfl
    go_enter Try.func48, Try.ntmps48
    go_wp2_with fail
    go_at_call 62
    refine (HO.out _).mono ?_
    rintro e w1 ⟨rfl, hb⟩
    go_wp2
    go_ret
    exact ⟨rfl, hb⟩
set_option maxRecDepth 100000 in
set_option maxHeartbeats 1000000 in
theorem fclear_any (w : World) (k l : Int) (hk : InU k) (hl : InU l) : Calls Try.prog 25 #[.agg #[.int .u8 k, .int .u8 l]] w fun e w' => e = .returned (.bool (clearC k l)) ∧ Below w.heap.size w w' := by
  have HM := Lib.hid (fun W => kmay_any W k l hk hl)
  have HC := Lib.hid (fun W => kclear_any W k hk)
  have HX := Lib.hid (show clearC k l = (mayC k l && clearK k) from rfl)
  have HK := Lib.hid (Blk.new w 33 #[.int .u8 k, .int .u8 l])
  have HB := Lib.hid ((Below.refl w.heap.size w).alloc (Nat.le_refl _) (.cells #[.int .u8 k, .int .u8 l] 33))
  generalize mayC k l = m at HM HX
  generalize clearK k = c at HC HX
  generalize clearC k l = res at HX ⊢
  obtain rfl := HX.out
  cases m with
  | false =>
    go_enter Try.func25, Try.ntmps25
    go_wp2_with fail
    go_at_call 47
    refine (HM.out _).mono ?_
    rintro e w1 ⟨rfl, hb⟩
    have HB1 := Lib.hid (HB.out.trans (hb.mono HB.out.size))
    clear hb
    go_wp2
    go_ret
    exact ⟨rfl, HB1.out⟩
  | true =>
    go_enter Try.func25, Try.ntmps25
    go_wp2_with fail
    go_at_call 47
    refine (HM.out _).mono ?_
    rintro e w1 ⟨rfl, hb⟩
    have HB1 := Lib.hid (HB.out.trans (hb.mono HB.out.size))
    obtain ⟨c0, c1⟩ := two_cells (HK.out.below hb HK.out.lt)
    clear hb
    go_wp2_with fail
    go_at_call 48
    refine (HC.out _).mono ?_
    rintro e w2 ⟨rfl, hb⟩
    have HB2 := Lib.hid (HB1.out.trans (hb.mono HB1.out.size))
    clear hb
    go_wp2
    go_ret
    exact ⟨by simp, HB2.out⟩
set_option maxRecDepth 100000 in
set_option maxHeartbeats 1000000 in
theorem klamp_any (w : World) (k l : Int) (hk : InU k) (hl : InU l) : Calls Try.prog 26 #[.agg #[.int .u8 k, .int .u8 l]] w fun e w' => e = .returned (.int .u8 (lampC k l)) ∧ Below w.heap.size w w' := by
  have HM := Lib.hid (fun W => kmay_any W k l hk hl)
  have HX := Lib.hid (show lampC k l = if mayC k l then (if k = 11 then l else if k = 14 then 10 else 0) else 0 from rfl)
  have HK := Lib.hid (Blk.new w 33 #[.int .u8 k, .int .u8 l])
  have HB := Lib.hid ((Below.refl w.heap.size w).alloc (Nat.le_refl _) (.cells #[.int .u8 k, .int .u8 l] 33))
  generalize mayC k l = m at HM HX
  generalize lampC k l = res at HX ⊢
  obtain rfl := HX.out
  cases m with
  | false =>
    go_enter Try.func26, Try.ntmps26
    go_wp2_with fail
    go_at_call 47
    refine (HM.out _).mono ?_
    rintro e w1 ⟨rfl, hb⟩
    have HB1 := Lib.hid (HB.out.trans (hb.mono HB.out.size))
    clear hb
    go_wp2
    go_ret
    exact ⟨rfl, HB1.out⟩
  | true =>
    rw [if_pos rfl]
    by_cases h1 : k = 11
    · subst h1
      rw [if_pos rfl]
      go_enter Try.func26, Try.ntmps26
      go_wp2_with fail
      go_at_call 47
      refine (HM.out _).mono ?_
      rintro e w1 ⟨rfl, hb⟩
      have HB1 := Lib.hid (HB.out.trans (hb.mono HB.out.size))
      obtain ⟨c0, c1⟩ := two_cells (HK.out.below hb HK.out.lt)
      clear hb
      go_wp2
      go_ret
      exact ⟨rfl, HB1.out⟩
    rw [if_neg h1]
    by_cases h2 : k = 14
    · subst h2
      rw [if_pos rfl]
      go_enter Try.func26, Try.ntmps26
      go_wp2_with fail
      go_at_call 47
      refine (HM.out _).mono ?_
      rintro e w1 ⟨rfl, hb⟩
      have HB1 := Lib.hid (HB.out.trans (hb.mono HB.out.size))
      obtain ⟨c0, c1⟩ := two_cells (HK.out.below hb HK.out.lt)
      clear hb
      go_wp2
      go_ret
      exact ⟨rfl, HB1.out⟩
    · rw [if_neg h2]
      go_enter Try.func26, Try.ntmps26
      go_wp2_with fail
      go_at_call 47
      refine (HM.out _).mono ?_
      rintro e w1 ⟨rfl, hb⟩
      have HB1 := Lib.hid (HB.out.trans (hb.mono HB.out.size))
      obtain ⟨c0, c1⟩ := two_cells (HK.out.below hb HK.out.lt)
      clear hb
      go_wp2
      go_ret
      exact ⟨rfl, HB1.out⟩
end Go.Proofs.Ytlhjjmfbifhgfaa
/- What the document says of a cell: the walks. -/
namespace Go.Proofs.Ytlhjjmfbifhgfaa
set_option linter.unusedSimpArgs false
set_option linter.unusedVariables false
open Go.RowKit

def levelsK (k : Int) : Int := if k = 11 then 15 else if k = 12 then 3 else if k = 13 then 7 else if k = 14 then 1 else 0
theorem may_fin : ∀ i : Fin 15, ∀ l : Fin 256, mayC (i.val : Int) (l.val : Int) = (decide ((l.val : Int) ≤ levelsK (i.val : Int)) && (decide ((i.val : Int) ≠ 11) || decide (0 < (l.val : Int)))) := by decide +kernel
theorem may_doc {k l : Int} (hk : InU k) (hl : InU l) : mayC k l = (decide (k < 15) && decide (l ≤ levelsK k) && (decide (k ≠ 11) || decide (0 < l))) := by
  unfold InU at hk hl
  by_cases h : k < 15
  · have := may_fin ⟨k.toNat, by omega⟩ ⟨l.toNat, by omega⟩
    simp only [show ((k.toNat : Nat) : Int) = k from by omega, show ((l.toNat : Nat) : Int) = l from by omega] at this
    rw [this]
    simp [h]
  · rcases kindR_cases k with ⟨i, hi, _⟩ | ⟨_, h2⟩
    · omega
    · unfold mayC
      rw [h2]
      simp [h]
theorem clear_doc_fin : ∀ k : Fin 256, clearK (k.val : Int) = [0, 9, 11, 12, 13, 14].contains (k.val : Int) := by decide +kernel
theorem clear_doc {k : Int} (hk : InU k) : clearK k = [0, 9, 11, 12, 13, 14].contains k := by
  unfold InU at hk
  have := clear_doc_fin ⟨k.toNat, by omega⟩
  simpa only [show ((k.toNat : Nat) : Int) = k from by omega] using this
set_option maxRecDepth 100000 in
theorem clevels_any (w : World) (k : Int) : Calls Try.prog 46 #[.int .u8 k] w fun e w' => e = .returned (.int .u8 (levelsK k)) ∧ w = w' := by
  unfold levelsK
  by_cases h1 : k = 11
  · subst h1
    rw [if_pos rfl]
    go_enter Try.func46, Try.ntmps46
    go_wp2
    go_ret
    exact ⟨rfl, rfl⟩
  rw [if_neg h1]
  by_cases h2 : k = 12
  · subst h2
    rw [if_pos rfl]
    go_enter Try.func46, Try.ntmps46
    go_wp2
    go_ret
    exact ⟨rfl, rfl⟩
  rw [if_neg h2]
  by_cases h3 : k = 13
  · subst h3
    rw [if_pos rfl]
    go_enter Try.func46, Try.ntmps46
    go_wp2
    go_ret
    exact ⟨rfl, rfl⟩
  rw [if_neg h3]
  by_cases h4 : k = 14
  · subst h4
    rw [if_pos rfl]
    go_enter Try.func46, Try.ntmps46
    go_wp2
    go_ret
    exact ⟨rfl, rfl⟩
  rw [if_neg h4]
  go_enter Try.func46, Try.ntmps46
  go_wp2
  go_ret
  exact ⟨rfl, rfl⟩
theorem levelsK_in (k : Int) : 0 ≤ levelsK k ∧ levelsK k ≤ 15 := by
  unfold levelsK
  split
  · omega
  split
  · omega
  split
  · omega
  split <;> omega
set_option maxRecDepth 100000 in
set_option maxHeartbeats 1000000 in
theorem cin_any (w : World) (k : Int) (b : Nat) (L : List Int) (n : Nat) (hn : n = L.length) (hn2 : n ≤ 1000) (hb : Blk w b 5 (L.map fun x => Value.int .u8 x).toArray) :
    Calls Try.prog 82 #[.int .u8 k, .slice (some ⟨b, 0, none⟩) n n] w fun e w' => e = .returned (.bool (L.contains k)) ∧ w = w' := by
  have HB := Lib.hid hb
  have HL := Lib.hid hn
  clear hb hn
  go_enter Try.func82, Try.ntmps82
  go_wp2
  go_loopw [5] (fun i wr => ∃ j : Nat, j ≤ n ∧ i = .int .i64 j ∧ w = wr ∧ ∀ m, m < j → L.getD m 0 ≠ k) (fun i _ => n - (intOf i).toNat)
  case atStart => exact ⟨0, Nat.zero_le _, rfl, rfl, fun _ h => by omega⟩
  case round =>
    obtain ⟨j, hj, rfl, rfl, hm⟩ := hrel
    have HM := Lib.hid hm
    clear hm
    by_cases hlt : j < n
    · have hltI : (j : Int) < (n : Int) := by omega
      have hjl : j < L.length := by rw [← HL.out]; exact hlt
      have c0 : w.cell? ⟨b, j, none⟩ = some (.int .u8 (L.getD j 0)) := by
        rw [HB.out.cell j]
        simp only [List.getElem?_toArray, List.getElem?_map, List.getD_eq_getElem?_getD, List.getElem?_eq_getElem hjl]
        rfl
      by_cases hk : k = L.getD j 0
      · have HC := Lib.hid (show L.contains k = true by
          rw [List.contains_iff_mem, hk, List.getD_eq_getElem?_getD, List.getElem?_eq_getElem hjl]
          exact List.getElem_mem hjl)
        rw [← hk] at c0
        clear hk
        go_wp2
        go_ret
        refine ⟨?_, rfl⟩
        rw [HC.out]
        rfl
      · have HK := Lib.hid hk
        generalize L.getD j 0 = x at c0 hk
        have hk2 : (x == k) = false := by simpa using fun e => hk e.symm
        clear hk
        go_wp2
        go_roundw
        case rel =>
          refine ⟨j + 1, by omega, by go_num, trivial, fun m hm => ?_⟩
          rcases Nat.lt_succ_iff_lt_or_eq.1 hm with h | h
          · exact HM.out m h
          · rw [h]; exact fun e => HK.out e.symm
        case measure => simp [intOf]; omega
    · obtain rfl : j = n := by omega
      have HC := Lib.hid (show L.contains k = false by
        rw [← Bool.not_eq_true, List.contains_iff_mem]
        intro h
        obtain ⟨i, hi, he⟩ := List.getElem_of_mem h
        exact HM.out i (by rw [HL.out]; exact hi) (by rw [← he, List.getD_eq_getElem?_getD, List.getElem?_eq_getElem hi]; rfl))
      go_wp2
      go_ret
      refine ⟨?_, rfl⟩
      rw [HC.out]
      rfl
set_option maxRecDepth 100000 in
theorem cclear_any (w : World) (k : Int) (hk : InU k) : Calls Try.prog 75 #[.int .u8 k] w fun e w' => e = .returned (.bool (clearK k)) ∧ Below w.heap.size w w' := by
  have HI := Lib.hid (cin_any (w.alloc (.cells #[.int .u8 0, .int .u8 9, .int .u8 11, .int .u8 12, .int .u8 13, .int .u8 14] 5)) k w.heap.size [0, 9, 11, 12, 13, 14] 6 rfl (by decide) (Blk.new _ _ _))
  have HD := Lib.hid (clear_doc hk)
  have HB := Lib.hid ((Below.refl w.heap.size w).alloc (Nat.le_refl _) (.cells #[.int .u8 0, .int .u8 9, .int .u8 11, .int .u8 12, .int .u8 13, .int .u8 14] 5))
  generalize [0, 9, 11, 12, 13, 14].contains k = res at HI HD
  go_enter Try.func75, Try.ntmps75
  go_wp2_with fail
  go_at_call 82
  refine HI.out.mono ?_
  rintro e w1 ⟨rfl, rfl⟩
  go_wp2
  go_ret
  refine ⟨?_, HB.out⟩
  rw [HD.out]
  rfl
set_option maxRecDepth 100000 in
set_option maxHeartbeats 2000000 in
theorem cmay_any (w : World) (k l : Int) (hk : InU k) (hl : InU l) : Calls Try.prog 23 #[.agg #[.int .u8 k, .int .u8 l]] w fun e w' => e = .returned (.bool (mayC k l)) ∧ Below w.heap.size w w' := by
  have HL := Lib.hid (fun W => clevels_any W k)
  have HX := Lib.hid (may_doc hk hl)
  have HB := Lib.hid ((Below.refl w.heap.size w).alloc (Nat.le_refl _) (.cells #[.int .u8 k, .int .u8 l] 33))
  have hlv := levelsK_in k
  generalize mayC k l = res at HX ⊢
  generalize levelsK k = lv at HL HX hlv
  obtain rfl := HX.out
  have HK := Blk.new w 33 #[.int .u8 k, .int .u8 l]
  obtain ⟨c0, c1⟩ := two_cells HK
  clear HK HX
  obtain ⟨W, hW⟩ : ∃ W, W = w.alloc (.cells #[.int .u8 k, .int .u8 l] 33) := ⟨_, rfl⟩
  rw [← hW] at HB c0 c1
  have HW := Lib.hid hW
  clear hW
  by_cases h1 : k < 15
  · have g1 : decide ((15 : Int) ≤ k) = false := decide_eq_false (by omega)
    by_cases h2 : l ≤ lv
    · have g2 : decide (lv < l) = false := decide_eq_false (by omega)
      by_cases h3 : k = 11
      · by_cases h4 : 0 < l
        · have g3 : (k != 11) = false := by simp [h3]
          have g4 : decide (0 < l) = true := decide_eq_true h4
          have HR := Lib.hid (show (decide (k < 15) && decide (l ≤ lv) && (decide (k ≠ 11) || decide (0 < l))) = true by simp [h1, h2, h4])
          clear h1 h2 h3 h4
          go_enter Try.func23, Try.ntmps23
          go_wp2
          rw [← HW.out]
          go_region_held (fun w' => w'.cell? ⟨w.heap.size, 0, none⟩ = some (.int .u8 k) ∧ w'.cell? ⟨w.heap.size, 1, none⟩ = some (.int .u8 l)) (go_keep) (first | (go_at_call 46; refine (HL.out _).mono ?_; rintro e w1 ⟨rfl, rfl⟩))
          go_wp2
          go_ret
          refine ⟨?_, HB.out.drew⟩
          rw [HR.out]
          try rfl
        · have g3 : (k != 11) = false := by simp [h3]
          have g4 : decide (0 < l) = false := decide_eq_false h4
          have HR := Lib.hid (show (decide (k < 15) && decide (l ≤ lv) && (decide (k ≠ 11) || decide (0 < l))) = false by simp [h3, h4])
          clear h1 h2 h3 h4
          go_enter Try.func23, Try.ntmps23
          go_wp2
          rw [← HW.out]
          go_region_held (fun w' => w'.cell? ⟨w.heap.size, 0, none⟩ = some (.int .u8 k) ∧ w'.cell? ⟨w.heap.size, 1, none⟩ = some (.int .u8 l)) (go_keep) (first | (go_at_call 46; refine (HL.out _).mono ?_; rintro e w1 ⟨rfl, rfl⟩))
          go_wp2
          go_ret
          refine ⟨?_, HB.out.drew⟩
          rw [HR.out]
          try rfl
      · have g3 : (k != 11) = true := by simp [h3]
        have HR := Lib.hid (show (decide (k < 15) && decide (l ≤ lv) && (decide (k ≠ 11) || decide (0 < l))) = true by simp [h1, h2, h3])
        clear h1 h2 h3
        go_enter Try.func23, Try.ntmps23
        go_wp2
        rw [← HW.out]
        go_region_held (fun w' => w'.cell? ⟨w.heap.size, 0, none⟩ = some (.int .u8 k) ∧ w'.cell? ⟨w.heap.size, 1, none⟩ = some (.int .u8 l)) (go_keep) (first | (go_at_call 46; refine (HL.out _).mono ?_; rintro e w1 ⟨rfl, rfl⟩))
        go_wp2
        go_ret
        refine ⟨?_, HB.out.drew⟩
        rw [HR.out]
        try rfl
    · have g2 : decide (lv < l) = true := decide_eq_true (by omega)
      have HR := Lib.hid (show (decide (k < 15) && decide (l ≤ lv) && (decide (k ≠ 11) || decide (0 < l))) = false by simp [h2])
      clear h1 h2
      go_enter Try.func23, Try.ntmps23
      go_wp2
      rw [← HW.out]
      go_region_held (fun w' => w'.cell? ⟨w.heap.size, 0, none⟩ = some (.int .u8 k) ∧ w'.cell? ⟨w.heap.size, 1, none⟩ = some (.int .u8 l)) (go_keep) (first | (go_at_call 46; refine (HL.out _).mono ?_; rintro e w1 ⟨rfl, rfl⟩))
      go_wp2
      go_ret
      refine ⟨?_, HB.out.drew⟩
      rw [HR.out]
      try rfl
  · have g1 : decide ((15 : Int) ≤ k) = true := decide_eq_true (by omega)
    have HR := Lib.hid (show (decide (k < 15) && decide (l ≤ lv) && (decide (k ≠ 11) || decide (0 < l))) = false by simp [h1])
    clear h1
    go_enter Try.func23, Try.ntmps23
    go_wp2
    rw [← HW.out]
    go_quiet (fail)
    go_wp2
    go_ret
    refine ⟨?_, ?_⟩
    · rw [HR.out]
      rfl
    · exact ⟨HB.out.os, HB.out.tape, HB.out.output, HB.out.size, HB.out.block⟩
set_option maxRecDepth 100000 in
set_option maxHeartbeats 1000000 in
theorem gclear_any (w : World) (k l : Int) (hk : InU k) (hl : InU l) : Calls Try.prog 59 #[.agg #[.int .u8 k, .int .u8 l]] w fun e w' => e = .returned (.bool (clearC k l)) ∧ Below w.heap.size w w' := by
  have HM := Lib.hid (fun W => cmay_any W k l hk hl)
  have HC := Lib.hid (fun W => cclear_any W k hk)
  have HX := Lib.hid (show clearC k l = (mayC k l && clearK k) from rfl)
  have HK := Lib.hid (Blk.new w 33 #[.int .u8 k, .int .u8 l])
  have HB := Lib.hid ((Below.refl w.heap.size w).alloc (Nat.le_refl _) (.cells #[.int .u8 k, .int .u8 l] 33))
  generalize mayC k l = m at HM HX
  generalize clearK k = c at HC HX
  generalize clearC k l = res at HX ⊢
  obtain rfl := HX.out
  cases m with
  | false =>
    go_enter Try.func59, Try.ntmps59
    go_wp2_with fail
    go_at_call 23
    refine (HM.out _).mono ?_
    rintro e w1 ⟨rfl, hb⟩
    have HB1 := Lib.hid (HB.out.trans (hb.mono HB.out.size))
    clear hb
    go_wp2
    go_ret
    exact ⟨rfl, HB1.out⟩
  | true =>
    go_enter Try.func59, Try.ntmps59
    go_wp2_with fail
    go_at_call 23
    refine (HM.out _).mono ?_
    rintro e w1 ⟨rfl, hb⟩
    have HB1 := Lib.hid (HB.out.trans (hb.mono HB.out.size))
    obtain ⟨c0, c1⟩ := two_cells (HK.out.below hb HK.out.lt)
    clear hb
    go_wp2_with fail
    go_at_call 75
    refine (HC.out _).mono ?_
    rintro e w2 ⟨rfl, hb⟩
    have HB2 := Lib.hid (HB1.out.trans (hb.mono HB1.out.size))
    clear hb
    go_wp2
    go_ret
    exact ⟨by simp, HB2.out⟩
set_option maxRecDepth 100000 in
set_option maxHeartbeats 1000000 in
theorem clamp_any (w : World) (k l : Int) (hk : InU k) (hl : InU l) : Calls Try.prog 60 #[.agg #[.int .u8 k, .int .u8 l]] w fun e w' => e = .returned (.int .u8 (lampC k l)) ∧ Below w.heap.size w w' := by
  have HM := Lib.hid (fun W => cmay_any W k l hk hl)
  have HX := Lib.hid (show lampC k l = if mayC k l then (if k = 11 then l else if k = 14 then 10 else 0) else 0 from rfl)
  have HK := Lib.hid (Blk.new w 33 #[.int .u8 k, .int .u8 l])
  have HB := Lib.hid ((Below.refl w.heap.size w).alloc (Nat.le_refl _) (.cells #[.int .u8 k, .int .u8 l] 33))
  generalize mayC k l = m at HM HX
  generalize lampC k l = res at HX ⊢
  obtain rfl := HX.out
  have first_call : ∀ (hk11 : m = true ∧ k = 11), Calls Try.prog 60 #[.agg #[.int .u8 k, .int .u8 l]] w fun e w' => e = .returned (.int .u8 l) ∧ Below w.heap.size w w' := by
    rintro ⟨rfl, rfl⟩
    go_enter Try.func60, Try.ntmps60
    go_wp2_with fail
    go_at_call 23
    refine (HM.out _).mono ?_
    rintro e w1 ⟨rfl, hb⟩
    have HB1 := Lib.hid (HB.out.trans (hb.mono HB.out.size))
    obtain ⟨c0, c1⟩ := two_cells (HK.out.below hb HK.out.lt)
    clear hb
    go_wp2
    go_ret
    exact ⟨rfl, HB1.out⟩
  have more : ∀ (r : Int), ((m && (k == 11)) = false) → (r = if (m && (k == 14)) = true then 10 else 0) → Calls Try.prog 60 #[.agg #[.int .u8 k, .int .u8 l]] w fun e w' => e = .returned (.int .u8 r) ∧ Below w.heap.size w w' := by
    intro r h1 hr
    rcases Bool.eq_false_or_eq_true (k == 14) with h2 | h2 <;> rcases Bool.eq_false_or_eq_true (k == 11) with h3 | h3 <;> cases m <;> simp only [h2, h3, Bool.and_true, Bool.and_false, Bool.true_and, Bool.false_and, if_true, if_false] at h1 hr <;> (try cases h1) <;>
    · have HR := Lib.hid hr
      clear hr
      go_enter Try.func60, Try.ntmps60
      go_wp2_with fail
      go_at_call 23
      refine (HM.out _).mono ?_
      rintro e w1 ⟨rfl, hb⟩
      have HB1 := Lib.hid (HB.out.trans (hb.mono HB.out.size))
      have HK1 := Lib.hid (HK.out.below hb HK.out.lt)
      obtain ⟨c0, c1⟩ := two_cells HK1.out
      clear hb
      go_wp2_with fail
      go_at_call 23
      refine (HM.out _).mono ?_
      rintro e w2 ⟨rfl, hb⟩
      have HB2 := Lib.hid (HB1.out.trans (hb.mono HB1.out.size))
      have HK2 := Lib.hid (HK1.out.below hb HK1.out.lt)
      clear hb c0 c1
      obtain ⟨c0, c1⟩ := two_cells HK2.out
      go_wp2
      go_ret
      refine ⟨?_, HB2.out⟩
      rw [HR.out]
      rfl
  by_cases h1 : m = true ∧ k = 11
  · have := first_call h1
    rw [if_pos h1.1, if_pos h1.2]
    exact this
  · refine more _ ?_ ?_
    · cases m
      · rfl
      · simpa using h1
    · cases m
      · rfl
      · have hk11 : k ≠ 11 := fun e => h1 ⟨rfl, e⟩
        rw [if_pos rfl, if_neg hk11]
        by_cases h2 : k = 14
        · simp [h2]
        · simp [h2]
end Go.Proofs.Ytlhjjmfbifhgfaa
