/- Which of two ticks is ahead: the walk. -/
import Derived.Test.YtlccplpniidjfaaQMem
namespace Go.Proofs.Ytlccplpniidjfaa
open Go.RowKit

theorem row_at {w : World} {base d c : Nat} {l : List Tk} (h : w.ownsRow base 24 2 (.slice (some ⟨d, 0, none⟩) l.length c) l.length (tcells l)) {i : Nat} (hi : i < l.length) :
    w.cell? ⟨d, i * 2, none⟩ = some (.int .i64 (nth l i).1) ∧ w.cell? ⟨d, i * 2 + 1, none⟩ = some (.int .i64 (nth l i).2) ∧ w.frozen? ⟨d, i * 2, none⟩ = false ∧ w.frozen? ⟨d, i * 2 + 1, none⟩ = false := by
  have := tcells_at l i hi
  exact ⟨(h.cellAt (i * 2) (by omega)).trans this.1, (h.cellAt (i * 2 + 1) (by omega)).trans this.2, h.frozenAt _, h.frozenAt _⟩

set_option maxRecDepth 100000 in
set_option maxHeartbeats 1000000 in
theorem less_some (w : World) (d n c : Nat) (i k : Nat) (ai bi ak bk : Int) (hi : i < n) (hk : k < n)
    (c1 : w.cell? ⟨d, i * 2, none⟩ = some (.int .i64 ai)) (c2 : w.cell? ⟨d, i * 2 + 1, none⟩ = some (.int .i64 bi))
    (c3 : w.cell? ⟨d, k * 2, none⟩ = some (.int .i64 ak)) (c4 : w.cell? ⟨d, k * 2 + 1, none⟩ = some (.int .i64 bk)) :
    Calls Try.prog 80 #[.slice (some ⟨d, 0, none⟩) n c, .int .i64 i, .int .i64 k] w fun e w' => e = .returned (.bool (lessT (ai, bi) (ak, bk))) ∧ ∃ m, w' = w.drewN m := by
  have hi' : (i : Int) < (n : Int) := by omega
  have hk' : (k : Int) < (n : Int) := by omega
  by_cases h1 : bi < bk
  · have g1 : decide (bi < bk) = true := by simpa using h1
    have HR := Lib.hid (show lessT (ai, bi) (ak, bk) = true from by simp [lessT, h1])
    clear h1
    go_enter Try.func80, Try.ntmps80
    go_wp2
    go_quiet (fail)
    go_wp2
    go_ret
    exact ⟨by rw [HR.out]; rfl, _, rfl⟩
  · have g1 : decide (bi < bk) = false := by simpa using h1
    by_cases h2 : bi = bk
    · have g2 : (bi == bk) = true := by simpa using h2
      have HR := Lib.hid (show lessT (ai, bi) (ak, bk) = decide (ai < ak) from by simp [lessT, h2])
      clear h1 h2
      go_enter Try.func80, Try.ntmps80
      go_wp2
      go_quiet (fail)
      go_wp2
      go_ret
      exact ⟨by rw [HR.out]; rfl, _, rfl⟩
    · have g2 : (bi == bk) = false := by simpa using h2
      have HR := Lib.hid (show lessT (ai, bi) (ak, bk) = false from by simp [lessT, h1, h2])
      clear h1 h2
      go_enter Try.func80, Try.ntmps80
      go_wp2
      go_quiet (fail)
      go_wp2
      go_ret
      exact ⟨by rw [HR.out]; rfl, _, rfl⟩

theorem row_form {w : World} {base n : Nat} {v : Value} {l : List Tk} (h : w.ownsRow base 24 2 v n (tcells l)) (hn : 0 < n) : ∃ d c, v = .slice (some ⟨d, 0, none⟩) n c ∧ base ≤ d ∧ n ≤ c ∧ c ≤ maxLen := by
  rcases h.2 with ⟨_, h0⟩ | ⟨g, cap, cur, hv, hb, _, hc, hm, _⟩
  · omega
  · exact ⟨g, cap, hv, hb, hc, hm⟩

theorem less_any {w : World} {base : Nat} {v : Value} {l : List Tk} (h : w.ownsRow base 24 2 v l.length (tcells l)) (i k : Nat) (hi : i < l.length) (hk : k < l.length) :
    Calls Try.prog 80 #[v, .int .i64 i, .int .i64 k] w fun e w' => e = .returned (.bool (lessT (nth l i) (nth l k))) ∧ ∃ m, w' = w.drewN m := by
  obtain ⟨d, c, rfl, _⟩ := row_form h (by omega)
  have h1 := row_at h hi
  have h2 := row_at h hk
  exact less_some w d _ c i k _ _ _ _ hi hk h1.1 h1.2.1 h2.1 h2.2.1

theorem len_any (w : World) (ao : Option Addr) (n c : Nat) :
    Calls Try.prog 29 #[.slice ao n c] w fun e w' => e = .returned (.int .i64 n) ∧ w = w' := by
  go_enter Try.func29, Try.ntmps29
  go_wp2
  go_ret
  exact ⟨rfl, rfl⟩
end Go.Proofs.Ytlccplpniidjfaa
