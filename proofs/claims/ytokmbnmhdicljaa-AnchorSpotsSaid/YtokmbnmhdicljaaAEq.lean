/- Anchors that are the same: == in the model. -/
import Derived.Test.YtokmbnmhdicljaaASpots
namespace Go.Proofs.Ytokmbnmhdicljaa
open Go.RowKit

theorem cellsBool_ : Try.prog.cellsOf 4 = 1 := by kernel_rfl
theorem cellsAn_ : Try.prog.cellsOf 25 = 4 := by kernel_rfl
theorem cellsTwo_ : Try.prog.cellsOf 26 = 8 := by kernel_rfl
theorem keyAn_ : Try.prog.keyTypeAt 3 25 = true := by kernel_rfl
theorem keyTwo_ : Try.prog.keyTypeAt 4 26 = true := by kernel_rfl
theorem wf3 {s : Sp} (h : SpOk s) : (Lit.int .i64 s.1).wf = true ∧ (Lit.int .i64 s.2.1).wf = true ∧ (Lit.int .i64 s.2.2).wf = true := by
  obtain ⟨⟨a1, a2⟩, ⟨b1, b2⟩, c1, c2⟩ := h
  exact ⟨WalkArith.wf_i64 (by omega), WalkArith.wf_i64 (by omega), WalkArith.wf_i64 (by omega)⟩
theorem lits_an (a : An) (h : AnOk a) : ∃ l, Try.prog.keyLits 6 25 [.int .i64 a.1.1, .int .i64 a.1.2.1, .int .i64 a.1.2.2, .bool a.2] = some l := by
  obtain ⟨w1, w2, w3⟩ := wf3 (s := a.1) h
  simp [Program.keyLits, Try.underlying25, Try.underlying23, Try.underlying3, Try.underlying4, cells_, cellsInt_, cellsBool_, cellsAn_, w1, w2, w3]
  rw [if_pos (by decide)]
  exact ⟨_, rfl⟩
theorem lits_two (a b : An) (ha : AnOk a) (hb : AnOk b) : ∃ l, Try.prog.keyLits 7 26 [.int .i64 a.1.1, .int .i64 a.1.2.1, .int .i64 a.1.2.2, .bool a.2, .int .i64 b.1.1, .int .i64 b.1.2.1, .int .i64 b.1.2.2, .bool b.2] = some l := by
  obtain ⟨la, hla⟩ := lits_an a ha
  obtain ⟨lb, hlb⟩ := lits_an b hb
  have e : List.range 2 = [0, 1] := rfl
  unfold Program.keyLits
  simp [Try.underlying26, cellsTwo_, cellsAn_, e, hla, hlb]
theorem eq_an (a : An) (h : AnOk a) (w : World) : (Op.equalIn 10000 25 (anV a) (anV a)).run Try.prog w = .ok true w := by
  obtain ⟨l, hl⟩ := lits_an a h
  have hf : (anV a).formed Try.prog 25 = true := by simp [Value.formed, Try.underlying25, cellsAn_]
  obtain ⟨r, hr, hiff⟩ := run_equalIn_deep (10000 - 3) 3 _ keyAn_ w 6 6 _ _ l l hf hf hl hl
  rw [hiff.2 rfl] at hr
  exact hr
theorem eq_two (a b : An) (ha : AnOk a) (hb : AnOk b) (w : World) : (Op.equalIn 10000 26 (twoV a b) (twoV a b)).run Try.prog w = .ok true w := by
  obtain ⟨l, hl⟩ := lits_two a b ha hb
  have hf : (twoV a b).formed Try.prog 26 = true := by simp [Value.formed, Try.underlying26, cellsTwo_]
  obtain ⟨r, hr, hiff⟩ := run_equalIn_deep (10000 - 4) 4 _ keyTwo_ w 7 7 _ _ l l hf hf hl hl
  rw [hiff.2 rfl] at hr
  exact hr
end Go.Proofs.Ytokmbnmhdicljaa
