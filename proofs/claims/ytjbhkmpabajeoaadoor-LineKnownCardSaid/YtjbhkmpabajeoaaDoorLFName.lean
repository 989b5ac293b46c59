/- Names of kinds and directions, as the document's answer has them: the walks. -/
import Derived.Test.YtjbhkmpabajeoaaDoorLRef
import Derived.Great.Walk
namespace Go.Proofs.YtjbhkmpabajeoaaDoor
set_option linter.unusedSimpArgs false
set_option linter.unusedVariables false
open Go.RowKit
open Go.Lib (itoa itoa_length_le)

def nmCells : Array Value := (names.map sv).toArray
theorem nmCells_at : ∀ i : Fin 15, nmCells[i.val]? = some (sv (names.getD i.val []))
  | 0 => rfl | 1 => rfl | 2 => rfl | 3 => rfl | 4 => rfl | 5 => rfl | 6 => rfl | 7 => rfl | 8 => rfl | 9 => rfl | 10 => rfl | 11 => rfl | 12 => rfl | 13 => rfl | 14 => rfl
set_option maxRecDepth 100000 in
set_option maxHeartbeats 1000000 in
theorem fname_some (w : World) (i : Nat) (hi : i < 15) : Calls Tryd.prog 26 #[.int .u8 (i : Int)] w fun e w' => e = .returned (.string (str (names.getD i []))) ∧ Below w.heap.size w w' := by
  have e0 := nmCells_at ⟨i, hi⟩
  simp only at e0
  generalize names.getD i [] = x at e0 ⊢
  go_enter Tryd.func26, Tryd.ntmps26
  go_wp2_with (refine Great.wpList_runTo rfl (some 4) rfl (.slice (some ⟨w.heap.size, 0, none⟩) 15 15) (w.alloc (.cells nmCells 9)) (by kernel_rfl) ?_)
  go_ret
  exact ⟨rfl, (Below.refl _ _).alloc (Nat.le_refl _) _⟩
set_option maxRecDepth 100000 in
set_option maxHeartbeats 1000000 in
theorem fname_no (w : World) (i : Nat) (h : 15 ≤ i) (h2 : i ≤ 255) : Calls Tryd.prog 26 #[.int .u8 (i : Int)] w fun e w' => e = .returned (.string (str [])) ∧ Below w.heap.size w w' := by
  go_enter Tryd.func26, Tryd.ntmps26
  go_wp2_with (refine Great.wpList_runTo rfl (some 4) rfl (.slice (some ⟨w.heap.size, 0, none⟩) 15 15) (w.alloc (.cells nmCells 9)) (by kernel_rfl) ?_)
  go_ret
  exact ⟨rfl, (Below.refl _ _).alloc (Nat.le_refl _) _⟩
theorem fname_any (w : World) (k : Int) (hk : InU k) : Calls Tryd.prog 26 #[.int .u8 k] w fun e w' => e = .returned (.string (str (nameK k))) ∧ Below w.heap.size w w' := by
  unfold InU at hk
  obtain ⟨i, rfl⟩ : ∃ i : Nat, k = (i : Int) := ⟨k.toNat, by omega⟩
  by_cases h : i < 15
  · rw [nameK_at h]
    exact fname_some w i h
  · have e : nameK (i : Int) = [] := by unfold nameK; rw [if_neg (by omega)]
    rw [e]
    exact fname_no w i (by omega) (by omega)
set_option maxRecDepth 100000 in
set_option maxHeartbeats 1000000 in
theorem fof_any (w : World) (s : Bs) : Calls Tryd.prog 34 #[.string (str s)] w fun e w' => e = .returned (kindV s) ∧ Below w.heap.size w w' := by
  go_enter Tryd.func34, Tryd.ntmps34
  go_wp2
  go_loopw [4] (fun k wr => ∃ i : Nat, i ≤ 15 ∧ k = .int .i64 i ∧ (∀ j, j < i → names.getD j [] ≠ s) ∧ Below w.heap.size w wr) (fun k _ => 16 - (intOf k).toNat)
  case atStart => exact ⟨0, by omega, rfl, fun j hj => by omega, Below.refl _ _⟩
  case round =>
    obtain ⟨i, hi, rfl, hne, hb⟩ := hrel
    have HB := Lib.hid hb
    have HNE := Lib.hid hne
    clear hb hne
    by_cases hlt : i < 15
    · have HH := Lib.hid (fun W => fname_some W i hlt)
      have HN := Lib.hid (show names.getD i [] = names.getD i [] from rfl)
      rcases Bool.eq_false_or_eq_true (names.getD i [] == s) with h2 | h2
      · have e1 : names.getD i [] = s := by simpa using h2
        have HE1 := Lib.hid e1
        generalize names.getD i [] = x1 at HH h2
        clear HN e1
        go_wp2_with (go_at_call 26; (with_reducible refine (HH.out _).mono ?_); rintro e w1 ⟨rfl, hb1⟩; replace HB := Lib.hid (HB.out.trans (hb1.mono HB.out.size)); clear hb1)
        go_ret2
        refine ⟨?_, HB.out⟩
        unfold kindV kindOf
        rw [findIdx_step HNE.out (by simpa [names] using hlt) HE1.out]
        rfl
      · have e1 : names.getD i [] ≠ s := by simpa using h2
        have HE1 := Lib.hid e1
        generalize names.getD i [] = x1 at HH h2
        clear HN e1
        go_wp2_with (go_at_call 26; (with_reducible refine (HH.out _).mono ?_); rintro e w1 ⟨rfl, hb1⟩; replace HB := Lib.hid (HB.out.trans (hb1.mono HB.out.size)); clear hb1)
        go_roundw
        case rel =>
          refine ⟨i + 1, by omega, by go_num, fun j hj => ?_, HB.out⟩
          rcases Nat.lt_or_ge j i with h | h
          · exact HNE.out j h
          · obtain rfl : j = i := by omega
            exact HE1.out
        case measure => simp [intOf]; omega
    · obtain rfl : i = 15 := by omega
      go_wp2
      go_ret2
      refine ⟨?_, HB.out⟩
      unfold kindV kindOf
      rw [findIdx_end (fun j hj => HNE.out j (by simpa [names] using hj))]
      rfl
def cellL (c l : Int) : Bs := 32 :: (nameK c ++ 32 :: itoa l)
set_option maxRecDepth 100000 in
set_option maxHeartbeats 1000000 in
theorem fcell_any (w : World) (x y : Int) (hx : InU x) (hy : InU y) : Calls Tryd.prog 43 #[.agg #[.int .u8 x, .int .u8 y]] w fun e w' => e = .returned (.string (str (cellL x y))) ∧ Below w.heap.size w w' := by
  have HX := Lib.hid (fun W => fname_any W x hx)
  have HY := Lib.hid (fun W => digits_any W y hy.i)
  have lx := nameK_len x
  have ly := itoa_length_le y hy.i.1 hy.i.2
  have y0 : 0 ≤ y := hy.1
  have y1 : y ≤ 255 := hy.2
  have HT := Lib.hid (show cellL x y = 32 :: (nameK x ++ 32 :: itoa y) from rfl)
  generalize nameK x = dx at HX lx HT
  generalize itoa y = dy at HY ly HT
  have HB := Lib.hid ((Below.refl w.heap.size w).alloc (Nat.le_refl _) (.cells #[.int .u8 x, .int .u8 y] 25))
  have hk := Blk.new w 25 #[.int .u8 x, .int .u8 y]
  have c0 := hk.cell 0
  have c1 := hk.cell 1
  simp only [List.getElem?_toArray, List.getElem?_cons_zero, List.getElem?_cons_succ] at c0 c1
  have hlt := hk.lt
  go_enter Tryd.func43, Tryd.ntmps43
  go_wp2
  obtain ⟨W, hW⟩ : ∃ W, W = w.alloc (.cells #[.int .u8 x, .int .u8 y] 25) := ⟨_, rfl⟩
  rw [← hW] at HB c0 c1 hlt ⊢
  have C0 := fun (p : InB W) => p.cell c0 hlt
  have C1 := fun (p : InB W) => p.cell c1 hlt
  clear hW hk c0 c1
  refine wp_region_quiet_below (by kernel_rfl) (by kernel_rfl) ?_
  repeat (go_big_quiet_step ((first | (go_at_call 39; with_reducible exact calls_below (HY.out _)) | (go_at_call 26; with_reducible exact calls_below (HX.out _)))))
  refine wpQuiet_nil ?_
  intro _ hw'
  obtain ⟨⟨wq, hbq⟩, hw''⟩ := hw'
  subst hw''
  go_wp2
  go_ret
  refine ⟨?_, HB.out.trans (hbq.mono HB.out.size)⟩
  rw [HT.out]
  exact ret_str (by simp only [blank_str, str_append]; simp)
set_option maxRecDepth 100000 in
theorem fword_any (w : World) (n : Int) (h0 : 0 ≤ n) (h5 : n ≤ 5) : Calls Tryd.prog 44 #[.int .i64 n] w fun e w' => e = .returned (.string (str (dirs.getD n.toNat []))) ∧ Below w.heap.size w w' := by
  obtain ⟨j, rfl⟩ : ∃ j : Nat, n = j := ⟨n.toNat, by omega⟩
  have hj : j < 6 := by omega
  have e0 := dirCells_at ⟨j, hj⟩
  simp only [Int.toNat_natCast] at e0 ⊢
  generalize dirs.getD j [] = x at e0 ⊢
  go_enter Tryd.func44, Tryd.ntmps44
  go_wp2_with (refine Great.wpList_runTo rfl (some 4) rfl (.slice (some ⟨w.heap.size, 0, none⟩) 6 6) (w.alloc (.cells dirCells 9)) (by kernel_rfl) ?_)
  go_ret
  exact ⟨rfl, (Below.refl _ _).alloc (Nat.le_refl _) _⟩
end Go.Proofs.YtjbhkmpabajeoaaDoor
