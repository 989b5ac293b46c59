/- The kind of a name: the walk. -/
import Derived.Test.YtjbhkmpabajeoaaDoorLName
namespace Go.Proofs.YtjbhkmpabajeoaaDoor
set_option linter.unusedSimpArgs false
set_option linter.unusedVariables false
open Go.RowKit

def kindV (s : Bs) : Value := match kindOf s with | some i => .tuple #[.int .u8 (i : Int), .bool true] | none => .tuple #[.int .u8 0, .bool false]
theorem findIdx_step {l : List Bs} {s : Bs} {i : Nat} (h : ∀ j, j < i → l.getD j [] ≠ s) (hi : i < l.length) (e : l.getD i [] = s) : l.findIdx? (fun w => w == s) = some i := by
  rw [List.findIdx?_eq_some_iff_getElem]
  have hg : ∀ j (hj : j < l.length), l.getD j [] = l[j] := fun j hj => by rw [List.getD_eq_getElem?_getD, List.getElem?_eq_getElem hj]; rfl
  refine ⟨hi, by rw [← hg i hi, e]; simp, fun j hj => ?_⟩
  have := h j hj
  rw [hg j (by omega)] at this
  simpa using this
theorem findIdx_end {l : List Bs} {s : Bs} (h : ∀ j, j < l.length → l.getD j [] ≠ s) : l.findIdx? (fun w => w == s) = none := by
  rw [List.findIdx?_eq_none_iff]
  intro x hx
  obtain ⟨j, hj, rfl⟩ := List.getElem_of_mem hx
  have := h j hj
  rw [List.getD_eq_getElem?_getD, List.getElem?_eq_getElem hj] at this
  simpa using this
set_option maxRecDepth 100000 in
set_option maxHeartbeats 1000000 in
theorem kof_any (w : World) (s : Bs) : Calls Tryd.prog 58 #[.string (str s)] w fun e w' => e = .returned (kindV s) ∧ Below w.heap.size w w' := by
  have hf := field_name
  go_enter Tryd.func58, Tryd.ntmps58
  go_wp2
  go_loopw [4] (fun k wr => ∃ i : Nat, i ≤ 15 ∧ k = .int .u8 i ∧ (∀ j, j < i → names.getD j [] ≠ s) ∧ Below w.heap.size w wr) (fun k _ => 16 - (intOf k).toNat)
  case atStart => exact ⟨0, by omega, rfl, fun j hj => by omega, Below.refl _ _⟩
  case round =>
    obtain ⟨i, hi, rfl, hne, hb⟩ := hrel
    have HB := Lib.hid hb
    have HNE := Lib.hid hne
    clear hb hne
    have H := fun W => of_any W (i : Int) ⟨by omega, by omega⟩
    have HN := Lib.hid (kindR_name (i : Int))
    unfold kv at H
    generalize kindR (i : Int) = x at H HN
    obtain ⟨x1, x2, x3, x4⟩ := x
    have HH := Lib.hid H
    clear H
    go_wp2_with (go_at_call 40; (with_reducible refine (HH.out _).mono ?_); rintro e w1 ⟨rfl, hb1⟩; replace HB := Lib.hid (HB.out.trans (hb1.mono HB.out.size)); clear hb1)
    · have h1 : (!List.isEmpty x1) = true := by assumption
      have h2 : (x1 == s) = true := by assumption
      have e1 : x1 = s := by simpa using h2
      have e2 : x1 = nameK i := HN.out
      have hi' : i < 15 := by
        rcases Nat.lt_or_ge i 15 with h | h
        · exact h
        · rw [e2] at h1
          unfold nameK at h1
          rw [if_neg (by omega)] at h1
          simp at h1
      rw [nameK_at hi', e1] at e2
      go_ret2
      refine ⟨?_, HB.out⟩
      unfold kindV kindOf
      rw [findIdx_step HNE.out (by simpa [names] using hi') e2.symm]
      rfl
    · have h1 : (!List.isEmpty x1) = true := by assumption
      have h2 : (x1 == s) = false := by assumption
      have e2 : x1 = nameK i := HN.out
      have hi' : i < 15 := by
        rcases Nat.lt_or_ge i 15 with h | h
        · exact h
        · rw [e2] at h1
          unfold nameK at h1
          rw [if_neg (by omega)] at h1
          simp at h1
      go_roundw
      case rel =>
        refine ⟨i + 1, by omega, by go_num, fun j hj => ?_, HB.out⟩
        rcases Nat.lt_or_ge j i with h | h
        · exact HNE.out j h
        · obtain rfl : j = i := by omega
          rw [← nameK_at hi', ← e2]
          simpa using h2
      case measure => simp [intOf]; omega
    · have h1 : (!List.isEmpty x1) = false := by assumption
      have e2 : x1 = nameK i := HN.out
      have hi' : i = 15 := by
        rcases Nat.lt_or_ge i 15 with h | h
        · rw [e2, nameK_at h] at h1
          have := (names_ok ⟨i, h⟩).1
          simp at h1
          exact absurd h1 (by simpa using this)
        · omega
      subst hi'
      go_ret2
      refine ⟨?_, HB.out⟩
      unfold kindV kindOf
      rw [findIdx_end (fun j hj => HNE.out j (by simpa [names] using hj))]
      rfl
end Go.Proofs.YtjbhkmpabajeoaaDoor
