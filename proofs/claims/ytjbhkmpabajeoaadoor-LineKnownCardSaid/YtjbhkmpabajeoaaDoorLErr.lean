/- Errors' names: the program's and the document's. -/
import Derived.Test.YtjbhkmpabajeoaaDoorLText
import Derived.Test.YtjbhkmpabajeoaaDoorLNums
namespace Go.Proofs.YtjbhkmpabajeoaaDoor
set_option linter.unusedSimpArgs false
set_option linter.unusedVariables false
open Go.RowKit

def errN : List Int := [0, 1, 2, 3, 4, 5, 6, 7, 10, 11, 12, 20, 21, 30]
def errW : List Bs := [[111, 107], [110, 105, 108], [97, 114, 103], [108, 111, 110, 103], [102, 111, 114, 109], [110, 111, 110, 101], [116, 104, 101, 114, 101], [102, 117, 108, 108], [112, 108, 97, 99, 101], [107, 105, 110, 100], [107, 101, 101, 112], [98, 117, 115, 121], [100, 105, 115, 107], [108, 105, 110, 101]]
def errS (e : Int) : Bs := errW.getD (errN.idxOf e) []
theorem errS_at {i : Nat} (hi : i < 14) : errS (errN.getD i 0) = errW.getD i [] := by
  have h : ∀ j : Fin 14, errS (errN.getD j.val 0) = errW.getD j.val [] := by decide
  exact h ⟨i, hi⟩
theorem errS_no {e : Int} (h : e ∉ errN) : errS e = [] := by
  unfold errS
  rw [List.idxOf_eq_length h]
  rfl
set_option maxRecDepth 100000 in
set_option maxHeartbeats 2000000 in
theorem lerror_fin (w : World) : ∀ i : Nat, i < 14 → Calls Tryd.prog 18 #[.int .i64 (errN.getD i 0)] w fun e w' => e = .returned (.string (str (errW.getD i []))) ∧ w = w' := by
  intro i hi
  obtain rfl | rfl | rfl | rfl | rfl | rfl | rfl | rfl | rfl | rfl | rfl | rfl | rfl | rfl : i = 0 ∨ i = 1 ∨ i = 2 ∨ i = 3 ∨ i = 4 ∨ i = 5 ∨ i = 6 ∨ i = 7 ∨ i = 8 ∨ i = 9 ∨ i = 10 ∨ i = 11 ∨ i = 12 ∨ i = 13 := by omega
  all_goals
    simp only [errN, errW, List.getD_cons_zero, List.getD_cons_succ]
    go_enter Tryd.func18, Tryd.ntmps18
    go_wp2
    go_ret
    exact ⟨rfl, rfl⟩
set_option maxRecDepth 100000 in
set_option maxHeartbeats 2000000 in
theorem lerror_no (w : World) (k : Int) (h : k ∉ errN) : Calls Tryd.prog 18 #[.int .i64 k] w fun e w' => e = .returned (.string (str [])) ∧ w = w' := by
  simp only [errN, List.mem_cons, List.not_mem_nil, or_false, not_or] at h
  obtain ⟨h0, h1, h2, h3, h4, h5, h6, h7, h8, h9, h10, h11, h12, h13⟩ := h
  go_enter Tryd.func18, Tryd.ntmps18
  go_wp2
  go_ret
  exact ⟨rfl, rfl⟩
theorem lerror_any (w : World) (k : Int) : Calls Tryd.prog 18 #[.int .i64 k] w fun e w' => e = .returned (.string (str (errS k))) ∧ w = w' := by
  by_cases h : k ∈ errN
  · obtain ⟨i, hi, he⟩ := List.getElem_of_mem h
    have hi' : i < 14 := hi
    obtain rfl : k = errN.getD i 0 := by rw [← he, List.getD_eq_getElem?_getD, List.getElem?_eq_getElem hi]; rfl
    rw [errS_at hi']
    exact lerror_fin w i hi'
  · rw [errS_no h]
    exact lerror_no w k h

theorem errN_cells : ∀ i : Nat, i < 14 → (errN.map iv).toArray[i]? = some (.int .i64 (errN.getD i 0)) := by
  intro i hi
  have h : ∀ j : Fin 14, (errN.map iv).toArray[j.val]? = some (.int .i64 (errN.getD j.val 0)) := by
    intro ⟨j, hj⟩
    obtain rfl | rfl | rfl | rfl | rfl | rfl | rfl | rfl | rfl | rfl | rfl | rfl | rfl | rfl : j = 0 ∨ j = 1 ∨ j = 2 ∨ j = 3 ∨ j = 4 ∨ j = 5 ∨ j = 6 ∨ j = 7 ∨ j = 8 ∨ j = 9 ∨ j = 10 ∨ j = 11 ∨ j = 12 ∨ j = 13 := by omega
    all_goals rfl
  exact h ⟨i, hi⟩
theorem errW_cells : ∀ i : Nat, i < 14 → (errW.map sv).toArray[i]? = some (.string (str (errW.getD i []))) := by
  intro i hi
  have h : ∀ j : Fin 14, (errW.map sv).toArray[j.val]? = some (.string (str (errW.getD j.val []))) := by
    intro ⟨j, hj⟩
    obtain rfl | rfl | rfl | rfl | rfl | rfl | rfl | rfl | rfl | rfl | rfl | rfl | rfl | rfl : j = 0 ∨ j = 1 ∨ j = 2 ∨ j = 3 ∨ j = 4 ∨ j = 5 ∨ j = 6 ∨ j = 7 ∨ j = 8 ∨ j = 9 ∨ j = 10 ∨ j = 11 ∨ j = 12 ∨ j = 13 := by omega
    all_goals rfl
  exact h ⟨i, hi⟩
set_option maxRecDepth 100000 in
set_option maxHeartbeats 2000000 in
theorem ferror_any (w : World) (k : Int) : Calls Tryd.prog 19 #[.int .i64 k] w fun e w' => e = .returned (.string (str (errS k))) ∧ Below w.heap.size w w' := by
  have HN := Lib.hid ((Blk.new w 3 (errN.map iv).toArray).alloc (.cells (errW.map sv).toArray 9))
  have HW := Lib.hid (Blk.new (w.alloc (.cells (errN.map iv).toArray 3)) 9 (errW.map sv).toArray)
  have HB := Lib.hid (((Below.refl w.heap.size w).alloc (Nat.le_refl _) (.cells (errN.map iv).toArray 3)).alloc (by simp) (.cells (errW.map sv).toArray 9))
  obtain ⟨W, hW⟩ : ∃ W, W = (w.alloc (.cells (errN.map iv).toArray 3)).alloc (.cells (errW.map sv).toArray 9) := ⟨_, rfl⟩
  rw [← hW] at HN HW HB
  rw [show (w.alloc (.cells (errN.map iv).toArray 3)).heap.size = w.heap.size + 1 from by simp] at HW
  simp only [errN, errW, List.map_cons, List.map_nil, iv, sv] at hW
  go_enter Tryd.func19, Tryd.ntmps19
  have HWW := Lib.hid hW
  clear hW
  go_wp2
  rw [← HWW.out]
  clear HWW
  go_loopw [5] (fun i wr => ∃ j : Nat, j ≤ 14 ∧ i = .int .i64 j ∧ wr = W ∧ ∀ m, m < j → errN.getD m 0 ≠ k) (fun i _ => 14 - (intOf i).toNat)
  case atStart => exact ⟨0, Nat.zero_le _, rfl, rfl, fun _ h => by omega⟩
  case round =>
    obtain ⟨j, hj, rfl, rfl, hm⟩ := hrel
    have HM := Lib.hid hm
    clear hm
    by_cases hlt : j < 14
    · have c0 : wr.cell? ⟨w.heap.size, j, none⟩ = some (.int .i64 (errN.getD j 0)) := by rw [HN.out.cell j]; exact errN_cells j hlt
      have c1 : wr.cell? ⟨w.heap.size + 1, j, none⟩ = some (.string (str (errW.getD j []))) := by rw [HW.out.cell j]; exact errW_cells j hlt
      have HE := Lib.hid (errS_at hlt)
      by_cases hk : k = errN.getD j 0
      · rw [← hk] at c0 HE
        generalize errW.getD j [] = y at c1 HE
        clear hk
        go_wp2
        go_ret
        refine ⟨?_, HB.out⟩
        rw [HE.out]
        rfl
      · have HK := Lib.hid hk
        generalize errN.getD j 0 = x at c0 hk
        clear HE c1
        go_wp2
        go_roundw
        case rel =>
          refine ⟨j + 1, by omega, by go_num, trivial, fun m hm => ?_⟩
          rcases Nat.lt_succ_iff_lt_or_eq.1 hm with h | h
          · exact HM.out m h
          · rw [h]; exact fun e => HK.out e.symm
        case measure => simp [intOf]; omega
    · obtain rfl : j = 14 := by omega
      have hno : errS k = [] := errS_no fun h => by
        obtain ⟨i, hi, he⟩ := List.getElem_of_mem h
        exact HM.out i hi (by rw [← he, List.getD_eq_getElem?_getD, List.getElem?_eq_getElem hi]; rfl)
      have HNO := Lib.hid hno
      clear hno
      go_wp2
      go_ret
      refine ⟨?_, HB.out⟩
      rw [HNO.out]
      rfl
end Go.Proofs.YtjbhkmpabajeoaaDoor
