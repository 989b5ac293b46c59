/- anchor.In: the walk; Same, where the lists are one. -/
import Derived.Test.YtokmbnmhdicljaaASpots
import Derived.Test.YtokmbnmhdicljaaAFind
import Derived.Deep.RegionWith
namespace Go.Proofs.Ytokmbnmhdicljaa
open Go.RowKit

/-- A row, read as a list. -/
theorem row_sat {w : World} {base : Nat} {v : Value} {l : List Sp} (h : Row w base v l) : SAt w v l ∧ ∃ ao c, v = .slice ao l.length c ∧ l.length ≤ c ∧ c ≤ maxLen := own_rat encS_len h
set_option maxRecDepth 100000 in
set_option maxHeartbeats 4000000 in
theorem aIn_any (w : World) (a b : An) (s : Sp) (ha : AnOk a) (hb : AnOk b) :
    Calls Try.prog 10 #[.agg #[.int .i64 a.1.1, .int .i64 a.1.2.1, .int .i64 a.1.2.2, .bool a.2, .int .i64 b.1.1, .int .i64 b.1.2.1, .int .i64 b.1.2.2, .bool b.2], spV s] w fun e w' => e = .returned (.bool (inS a b s)) ∧ Below w.heap.size w w' := by
  obtain ⟨X, hX⟩ : ∃ X : World, X = w.alloc (.cells #[.int .i64 a.1.1, .int .i64 a.1.2.1, .int .i64 a.1.2.2, .bool a.2, .int .i64 b.1.1, .int .i64 b.1.2.1, .int .i64 b.1.2.2, .bool b.2] 26) := ⟨_, rfl⟩
  have hxs : X.heap.size = w.heap.size + 1 := by rw [hX]; simp
  have hbx : Below w.heap.size w X := by rw [hX]; exact (Below.refl _ _).alloc (Nat.le_refl _) _
  have hb0 := hbx.alloc (by omega) (.cells #[.int .i64 s.1, .int .i64 s.2.1, .int .i64 s.2.2] 23)
  have HS := Lib.hid (show Blk (X.alloc (.cells #[.int .i64 s.1, .int .i64 s.2.1, .int .i64 s.2.2] 23)) (w.heap.size + 1) 23 #[.int .i64 s.1, .int .i64 s.2.1, .int .i64 s.2.2] by rw [← hxs]; exact Blk.new _ _ _)
  rw [hX] at hb0 HS
  obtain ⟨Y, hY⟩ : ∃ Y : World, Y = (w.alloc (.cells #[.int .i64 a.1.1, .int .i64 a.1.2.1, .int .i64 a.1.2.2, .bool a.2, .int .i64 b.1.1, .int .i64 b.1.2.1, .int .i64 b.1.2.2, .bool b.2] 26)).alloc (.cells #[.int .i64 s.1, .int .i64 s.2.1, .int .i64 s.2.2] 23) := ⟨_, rfl⟩
  have HB := Lib.hid (show Below w.heap.size w Y.drew by rw [hY]; exact Below.drew hb0)
  replace HS := Lib.hid (show Blk Y.drew (w.heap.size + 1) 23 #[.int .i64 s.1, .int .i64 s.2.1, .int .i64 s.2.2] by rw [hY]; exact HS.out)
  rw [hY] at HB HS
  have HY := Lib.hid (show decide (s ∈ spotsL a b) = inS a b s by rw [Bool.eq_iff_iff, decide_eq_true_eq, mem_spotsL])
  clear hX hxs hbx hb0 hY
  go_enter Try.func10, Try.ntmps10
  go_wp2
  go_region_with (first
    | (go_at_call 7
       refine (spots_walk _ a b ha hb).mono ?_
       rintro e w1 ⟨v, rfl, hb1, hrow⟩
       obtain ⟨hsat, ao, c, rfl, -, -⟩ := row_sat hrow
       have HSAT := Lib.hid hsat
       have HB1 := Lib.hid hb1
       have hs1 := HS.out.below hb1 HS.out.lt
       obtain ⟨k0, k1, k2, -⟩ := hs1.three
       clear hsat hb1 hrow hs1)
    | (go_at_call 23
       refine (find_any HSAT.out (asc_spotsL a b) (by have := spotsL_72 a b; omega) s).mono ?_
       rintro e w2 ⟨⟨i, rfl⟩, hb2⟩
       have HB2 := Lib.hid hb2
       clear hb2))
  all_goals
    go_wp2
    go_ret
    refine ⟨ret_bool HY.out, ?_⟩
    exact HB.out.trans ((HB1.out.trans (HB2.out.mono HB1.out.size)).mono HB.out.size)
end Go.Proofs.Ytokmbnmhdicljaa
