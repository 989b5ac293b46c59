/- The last tick off a queue's rows: the walk. -/
import Derived.Test.YtlccplpniidjfaaQPush
namespace Go.Proofs.Ytlccplpniidjfaa
open Go.RowKit

theorem mi_tick (x y : Value) (W : World) : (Instr.makeInterface 24 (.agg #[x, y])).run Try.prog W = .ok (.iface 24 (.agg #[x, y])) W := by kernel_rfl
theorem own_short {w : World} {base d n c : Nat} {l0 : List Tk} {t : Tk} (h : w.ownsRow base 24 2 (.slice (some ⟨d, 0, none⟩) (n + 1) c) (n + 1) (tcells (l0 ++ [t]))) (hn : l0.length = n) :
    w.ownsRow base 24 2 (.slice (some ⟨d, 0, none⟩) n c) n (tcells l0) := by
  refine ⟨by rw [tcells_length, hn], ?_⟩
  rcases h.2 with ⟨h', _⟩ | ⟨g, cap, cur, hv, hb, hh, hc, hm, hs, ht⟩
  · simp at h'
  · injection hv with e1 e2 e3
    injection e1 with e1
    injection e1 with e1
    subst e1 e3
    refine .inr ⟨d, c, cur, rfl, hb, hh, by omega, hm, hs, ?_⟩
    have h3 : List.take (n * 2) (tcells l0) = tcells l0 := List.take_of_length_le (by rw [tcells_length, hn]; exact Nat.le_refl _)
    have h2 := congrArg (List.take (n * 2)) ht
    rw [List.take_take, tcells_append, Nat.min_eq_left (by omega), List.take_append_of_le_length (by rw [tcells_length, hn]; exact Nat.le_refl _), h3] at h2
    exact h2

/-- What Pop leaves. -/
def Popped (w w' : World) (base g d c : Nat) (f : Nat → Nat) (l0 : List Tk) (a : Nat) : Prop :=
  w'.ownsRow base 24 2 (.slice (some ⟨d, 0, none⟩) l0.length c) l0.length (tcells l0) ∧ QBlk w' g (.slice (some ⟨d, 0, none⟩) l0.length c) (upd f a 0) ∧ Only w w' (QF g (some d))

set_option maxRecDepth 100000 in
set_option maxHeartbeats 4000000 in
theorem rpop_some (w : World) (base g d n c : Nat) (f : Nat → Nat) (l0 : List Tk) (a : Nat) (due : Int) (ha : a < 4096) (hl : l0.length = n) (hn : n < 4096) (hc : n + 1 ≤ c) (hc' : c ≤ maxLen)
    (hb : QBlk w g (.slice (some ⟨d, 0, none⟩) (n + 1) c) f) (ho : w.ownsRow base 24 2 (.slice (some ⟨d, 0, none⟩) (n + 1) c) (n + 1) (tcells (l0 ++ [((a : Int), due)]))) :
    Calls Try.prog 81 #[.pointer (some ⟨g, 0, none⟩)] w fun e w' => e = .returned (.iface 24 (.agg #[.int .i64 a, .int .i64 due])) ∧ Popped w w' base g d c f l0 a := by
  have hgd : g ≠ d := fun e => hb.ne_row ho (by decide) (by rw [e]; rfl)
  have c0 := hb.cell
  have hll : (l0 ++ [((a : Int), due)]).length = n + 1 := by rw [List.length_append, hl]; rfl
  have hnt : nth (l0 ++ [((a : Int), due)]) n = ((a : Int), due) := by rw [← hl]; simp [nth, List.getD]
  obtain ⟨c1, c2, -, -⟩ := row_at (i := n) (by rw [hll]; exact ho) (by rw [hll]; omega)
  rw [hnt] at c1 c2
  have hos := own_short ho hl
  have hdlt := ho.lt d rfl
  have hmi := mi_tick (.int .i64 a) (.int .i64 due)
  have hs2 := hb.set0 (.slice (some ⟨d, 0, none⟩) n c)
  have ka : (a : Int) < 4096 := by omega
  have hg := hb.lt
  have f0 := hb.frozen 0
  have g1 : (n : Int) ≤ (c : Int) := by omega
  have g2 : (c : Int) ≤ 9223372036854775807 := by unfold maxLen at hc'; omega
  have HO := Lib.hid ho
  have HB := Lib.hid hb
  have HOS := Lib.hid hos
  have HNL := Lib.hid hl
  clear ho hb hll hnt hos hs2 hc' hl
  unfold Popped
  rw [HNL.out]
  go_enter Try.func81, Try.ntmps81
  go_wp2_with (go_at_call 29; refine (len_any _ _ _ _).mono ?_; rintro e w' ⟨rfl, rfl⟩)
  have r1 := (HB.out.set0 (.slice (some ⟨d, 0, none⟩) n c)).alloc (.cells #[.int .i64 (a : Int), .int .i64 due] 24)
  have r2 := (((Only.refl w (QF g (some d))).setCell (p := ⟨g, 0, none⟩) (.inl (.inl rfl)) (.slice (some ⟨d, 0, none⟩) n c))).alloc (.cells #[.int .i64 (a : Int), .int .i64 due] 24)
  have r3 := (own_only HOS.out ((Only.refl w (fun k => k = g)).setCell (p := ⟨g, 0, none⟩) (.inl rfl) (.slice (some ⟨d, 0, none⟩) n c)) (fun q hq e => hgd (by injection hq with hq; exact e.symm.trans hq.symm))).alloc (.cells #[.int .i64 (a : Int), .int .i64 due] 24)
  have b0 : ((w.setCell ⟨g, 0, none⟩ (.slice (some ⟨d, 0, none⟩) n c)).alloc (.cells #[.int .i64 (a : Int), .int .i64 due] 24)).cell? ⟨w.heap.size, 0, none⟩ = some (.int .i64 a) := by
    have := Blk.cell (Blk.new (w.setCell ⟨g, 0, none⟩ (.slice (some ⟨d, 0, none⟩) n c)) 24 #[.int .i64 (a : Int), .int .i64 due]) 0
    simpa [World.setCell] using this
  have b1 : ((w.setCell ⟨g, 0, none⟩ (.slice (some ⟨d, 0, none⟩) n c)).alloc (.cells #[.int .i64 (a : Int), .int .i64 due] 24)).cell? ⟨w.heap.size, 1, none⟩ = some (.int .i64 due) := by
    have := Blk.cell (Blk.new (w.setCell ⟨g, 0, none⟩ (.slice (some ⟨d, 0, none⟩) n c)) 24 #[.int .i64 (a : Int), .int .i64 due]) 1
    simpa [World.setCell] using this
  clear c0 c1 c2 f0
  generalize ((w.setCell ⟨g, 0, none⟩ (.slice (some ⟨d, 0, none⟩) n c)).alloc (.cells #[.int .i64 (a : Int), .int .i64 due] 24)) = W1 at *
  have k1 := r1.cellW ha
  have k2 := r1.frozen (1 + a)
  have hne : ¬ (g = w.heap.size) := by omega
  have k3 : (W1.setCell ⟨g, 1 + a, none⟩ (.int .i64 0)).cell? ⟨w.heap.size, 0, none⟩ = some (.int .i64 a) := by
    rw [World.cell?_setCell_other _ _ _ _ (fun e => by injection e with e; omega)]; exact b0
  have k4 : (W1.setCell ⟨g, 1 + a, none⟩ (.int .i64 0)).cell? ⟨w.heap.size, 1, none⟩ = some (.int .i64 due) := by
    rw [World.cell?_setCell_other _ _ _ _ (fun e => by injection e with e; omega)]; exact b1
  have R1 := Lib.hid r1
  have R2 := Lib.hid r2
  have R3 := Lib.hid r3
  clear r1 r2 r3
  go_region
  all_goals
    go_wp2
    go_ret
    exact ⟨rfl, (own_only (S := fun k => k = g) R3.out ((Only.refl W1 (fun k => k = g)).setCell (p := ⟨g, 1 + a, none⟩) (.inl rfl) _).drew (fun q hq e => hgd (by injection hq with hq; exact e.symm.trans hq.symm))),
      (R1.out.setW ha 0).drew, (R2.out.setCell (p := ⟨g, 1 + a, none⟩) (.inl (.inl rfl)) _).drew⟩
end Go.Proofs.Ytlccplpniidjfaa
