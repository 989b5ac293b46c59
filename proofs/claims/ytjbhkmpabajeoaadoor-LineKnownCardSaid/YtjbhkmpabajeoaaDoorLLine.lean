/- The words as a line; the table of kinds; the rows; the directions: the walks. -/
import Derived.Test.YtjbhkmpabajeoaaDoorLNums
namespace Go.Proofs.YtjbhkmpabajeoaaDoor
set_option linter.unusedSimpArgs false
set_option linter.unusedVariables false
open Go.RowKit

theorem own_cells {w : World} {base n c g : Nat} {l : List Bs} (h : w.ownsRow base 9 1 (.slice (some ⟨g, 0, none⟩) n c) n (l.map sv)) : ∀ (j : Nat) x, (l.map str)[j]? = some x → w.cell? ⟨g, 0 + j, none⟩ = some (.string x) := by
  intro j x hx
  rw [List.getElem?_map] at hx
  have hj : j < l.length := by
    rcases Nat.lt_or_ge j l.length with h0 | h0
    · exact h0
    · rw [List.getElem?_eq_none h0] at hx; cases hx
  rw [List.getElem?_eq_getElem hj] at hx
  simp only [Option.map_some, Option.some.injEq] at hx
  have hn : n = l.length := by have := h.1; simpa using this.symm
  rw [Nat.zero_add, h.cellAt j (by rw [hn]; omega), List.getElem?_map, List.getElem?_eq_getElem hj, ← hx]
  rfl
set_option maxRecDepth 100000 in
theorem line_any (w : World) (base : Nat) (v : Value) (l : List Bs) (hv : w.ownsRow base 9 1 v l.length (l.map sv)) (h0 : 0 < l.length) (h1 : l.length ≤ 1000000) (h2 : (Lib.join l [32]).length ≤ 1000000) :
    Calls Tryd.prog 25 #[v] w fun e w' => e = .returned (.string (str (Lib.join l [32]))) ∧ Below w.heap.size w w' := by
  obtain ⟨d, c, rfl, _, hd⟩ := hv.form h0
  have hc : l.length ≤ c := by
    rcases hv.2 with ⟨h, _⟩ | ⟨_, _, _, h, _, _, h3, _⟩
    · cases h
    · injection h with _ _ e
      rw [e]; exact h3
  have hj := Tryd.strings_Join d 0 c (l.map str) (str [32]) w (own_cells hv) hd (by simp; omega) (by simpa using hc) (by rw [List.map_map, show (fun x => x.data.toList) ∘ str = (id : Bs → Bs) from rfl, List.map_id, str_list]; omega)
  rw [List.map_map, show (fun x => x.data.toList) ∘ str = (id : Bs → Bs) from rfl, List.map_id, str_list, List.length_map] at hj
  have HJ := Lib.hid hj
  clear hv hj h2
  go_enter Tryd.func25, Tryd.ntmps25
  go_wp2_with (go_at_call 41; (with_reducible refine HJ.out.mono ?_); rintro e w' ⟨rfl, hb⟩)
  go_ret
  exact ⟨rfl, hb⟩

/-! ### the rows -/
def rowS (k : Int) : Bs := (rowOf k).1
def rowT (k : Int) : Bs := (rowOf k).2
theorem row_fin (w : World) : ∀ i : Nat, i < 11 → Calls Tryd.prog 20 #[.int .i64 ((i : Int) + 1)] w fun e w' => e = .returned (.tuple #[.string (str (rowL.getD i ([], [])).1), .string (str (rowL.getD i ([], [])).2)]) ∧ w = w' := by
  intro i hi
  obtain rfl | rfl | rfl | rfl | rfl | rfl | rfl | rfl | rfl | rfl | rfl : i = 0 ∨ i = 1 ∨ i = 2 ∨ i = 3 ∨ i = 4 ∨ i = 5 ∨ i = 6 ∨ i = 7 ∨ i = 8 ∨ i = 9 ∨ i = 10 := by omega
  all_goals
    go_enter Tryd.func20, Tryd.ntmps20
    go_wp2
    go_ret2
    exact ⟨rfl, rfl⟩
theorem row_no (w : World) (k : Int) (h : ¬ (1 ≤ k ∧ k ≤ 11)) : Calls Tryd.prog 20 #[.int .i64 k] w fun e w' => e = .returned (.tuple #[.string (str []), .string (str [])]) ∧ w = w' := by
  have h1 : k ≠ 1 := by omega
  have h2 : k ≠ 2 := by omega
  have h3 : k ≠ 3 := by omega
  have h4 : k ≠ 4 := by omega
  have h5 : k ≠ 5 := by omega
  have h6 : k ≠ 6 := by omega
  have h7 : k ≠ 7 := by omega
  have h8 : k ≠ 8 := by omega
  have h9 : k ≠ 9 := by omega
  have h10 : k ≠ 10 := by omega
  have h11 : k ≠ 11 := by omega
  clear h
  go_enter Tryd.func20, Tryd.ntmps20
  go_wp2
  go_ret2
  exact ⟨rfl, rfl⟩
theorem row_any (w : World) (k : Int) : Calls Tryd.prog 20 #[.int .i64 k] w fun e w' => e = .returned (.tuple #[.string (str (rowS k)), .string (str (rowT k))]) ∧ w = w' := by
  by_cases h : 1 ≤ k ∧ k ≤ 11
  · obtain ⟨i, rfl⟩ : ∃ i : Nat, k = (i : Int) + 1 := ⟨(k - 1).toNat, by omega⟩
    have hi : i < 11 := by omega
    unfold rowS rowT
    rw [row_at hi]
    exact row_fin w i hi
  · have e : rowOf k = ([], []) := by unfold rowOf; rw [if_neg h]
    unfold rowS rowT
    rw [e]
    exact row_no w k h

/-! ### directions -/
def dirCells : Array Value := #[sv [101, 97, 115, 116], sv [119, 101, 115, 116], sv [115, 111, 117, 116, 104], sv [110, 111, 114, 116, 104], sv [117, 112], sv [100, 111, 119, 110]]
theorem dirs_any (w : World) : Calls Tryd.prog 24 #[] w fun e w' => e = .returned (.slice (some ⟨w.heap.size, 0, none⟩) 6 6) ∧ w' = w.alloc (.cells dirCells 9) := by
  go_enter Tryd.func24, Tryd.ntmps24
  go_wp2
  go_ret
  exact ⟨rfl, rfl⟩

end Go.Proofs.YtjbhkmpabajeoaaDoor
