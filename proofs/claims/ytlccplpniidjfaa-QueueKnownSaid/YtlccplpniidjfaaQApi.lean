/- What a queue tells: may, is, place, Due, First, Len: the walks. -/
import Derived.Test.YtlccplpniidjfaaQRemove
namespace Go.Proofs.Ytlccplpniidjfaa
open Go.RowKit

def mayT (t : Tk) : Bool := decide (0 ≤ t.1 ∧ t.1 < 4096 ∧ 1 ≤ t.2 ∧ t.2 ≤ 2199023255552)
theorem ret_bool {a b : Bool} (h : a = b) : Ending.returned (.bool a) = .returned (.bool b) := by rw [h]

set_option maxRecDepth 100000 in
set_option maxHeartbeats 1000000 in
theorem may_any (w : World) (a d : Int) :
    Calls Try.prog 31 #[.agg #[.int .i64 a, .int .i64 d]] w fun e w' => e = .returned (.bool (mayT (a, d))) ∧ Below w.heap.size w w' := by
  have hb : Below w.heap.size w (w.alloc (.cells #[.int .i64 a, .int .i64 d] 24)) := (Below.refl _ _).alloc (Nat.le_refl _) _
  have HB := Lib.hid hb
  clear hb
  by_cases h1 : 0 ≤ a
  · have g1 : decide (0 ≤ a) = true := by simpa using h1
    by_cases h2 : a < 4096
    · have g2 : decide (a < 4096) = true := by simpa using h2
      by_cases h3 : 1 ≤ d
      · have g3 : decide (1 ≤ d) = true := by simpa using h3
        have HM := Lib.hid (show mayT (a, d) = decide (d ≤ 2199023255552) by simp [mayT, h1, h2, h3])
        clear h1 h2 h3
        go_enter Try.func31, Try.ntmps31
        go_wp2
        go_ret
        exact ⟨by rw [HM.out]; rfl, HB.out⟩
      · have g3 : decide (1 ≤ d) = false := by simpa using h3
        have HM := Lib.hid (show mayT (a, d) = false by simp [mayT, h3])
        clear h1 h2 h3
        go_enter Try.func31, Try.ntmps31
        go_wp2
        go_ret
        exact ⟨by rw [HM.out]; rfl, HB.out⟩
    · have g2 : decide (a < 4096) = false := by simpa using h2
      have HM := Lib.hid (show mayT (a, d) = false by simp [mayT, h2])
      clear h1 h2
      go_enter Try.func31, Try.ntmps31
      go_wp2
      go_ret
      exact ⟨by rw [HM.out]; rfl, HB.out⟩
  · have g1 : decide (0 ≤ a) = false := by simpa using h1
    have HM := Lib.hid (show mayT (a, d) = false by simp [mayT, h1])
    clear h1
    go_enter Try.func31, Try.ntmps31
    go_wp2
    go_ret
    exact ⟨by rw [HM.out]; rfl, HB.out⟩

theorem cellM_q {w : World} {base g : Nat} {l : List Tk} {r : Option Nat} (h : QS w base g l r) : w.cell? ⟨g, 4097, none⟩ = some (.bool true) := by
  obtain ⟨v, f, hb, _⟩ := h
  exact hb.cellM
theorem is_any {w : World} {base g : Nat} {l : List Tk} {r : Option Nat} (h : QS w base g l r) :
    Calls Try.prog 28 #[.pointer (some ⟨g, 0, none⟩)] w fun e w' => e = .returned (.bool true) ∧ w = w' := by
  have hc := cellM_q h
  clear h
  go_enter Try.func28, Try.ntmps28
  go_wp2
  go_ret
  exact ⟨rfl, rfl⟩
theorem is_nil (w : World) : Calls Try.prog 28 #[.pointer none] w fun e w' => e = .returned (.bool false) ∧ w = w' := by
  go_enter Try.func28, Try.ntmps28
  go_wp2
  go_ret
  exact ⟨rfl, rfl⟩
end Go.Proofs.Ytlccplpniidjfaa
