/- What a queue tells: place, Due, First, Len: the walks. -/
import Derived.Test.YtlccplpniidjfaaQApi
namespace Go.Proofs.Ytlccplpniidjfaa
open Go.RowKit

set_option maxRecDepth 100000 in
theorem place_in {w : World} {base g : Nat} {l : List Tk} {r : Option Nat} (h : QS w base g l r) (i : Nat) (hi : i < l.length) :
    Calls Try.prog 27 #[.pointer (some ⟨g, 0, none⟩), .int .i64 (nth l i).1] w fun e w' => e = .returned (.int .i64 i) ∧ w = w' := by
  have HI := Lib.hid (is_any h)
  have hsm := h.apt.small
  obtain ⟨v, f, hb, ho, hr, hbg, hf, ha⟩ := h
  have hbd := ha.1 i hi
  have hfi := hf.1 i hi
  obtain ⟨a, hat⟩ : ∃ a : Nat, (nth l i).1 = a := ⟨(nth l i).1.toNat, by omega⟩
  rw [hat] at hfi hbd ⊢
  have hc := hb.cellW (a := a) (by omega)
  rw [Int.toNat_natCast] at hfi
  rw [hfi] at hc
  have g1 : decide ((a : Int) < 0) = false := by simp
  have g2 : decide (4096 ≤ (a : Int)) = false := by simp; omega
  have g3 : (a : Int) < 4096 := by omega
  have e0 : ((i + 1 : Nat) : Int) = (i : Int) + 1 := by omega
  rw [e0] at hc
  have hi' : i < 4096 := by omega
  clear hb ho hr hf ha hfi hat hbd e0 hi hsm
  go_enter Try.func27, Try.ntmps27
  go_wp2_with (go_at_call 28; (with_reducible refine HI.out.mono ?_); rintro e w' ⟨rfl, rfl⟩)
  go_ret
  exact ⟨by simp, rfl⟩

set_option maxRecDepth 100000 in
theorem place_out {w : World} {base g : Nat} {l : List Tk} {r : Option Nat} (h : QS w base g l r) (a : Int) (hno : ∀ i, i < l.length → (nth l i).1 ≠ a) :
    Calls Try.prog 27 #[.pointer (some ⟨g, 0, none⟩), .int .i64 a] w fun e w' => e = .returned (.int .i64 (-1)) ∧ w = w' := by
  have HI := Lib.hid (is_any h)
  by_cases h1 : a < 0
  · have g1 : decide (a < 0) = true := by simpa using h1
    clear h hno h1
    go_enter Try.func27, Try.ntmps27
    go_wp2_with (go_at_call 28; (with_reducible refine HI.out.mono ?_); rintro e w' ⟨rfl, rfl⟩)
    go_ret
    exact ⟨rfl, rfl⟩
  · have g1 : decide (a < 0) = false := by simpa using h1
    by_cases h2 : 4096 ≤ a
    · have g2 : decide (4096 ≤ a) = true := by simpa using h2
      clear h hno h1 h2
      go_enter Try.func27, Try.ntmps27
      go_wp2_with (go_at_call 28; (with_reducible refine HI.out.mono ?_); rintro e w' ⟨rfl, rfl⟩)
      go_ret
      exact ⟨rfl, rfl⟩
    · have g2 : decide (4096 ≤ a) = false := by simpa using h2
      obtain ⟨b, rfl⟩ : ∃ b : Nat, a = b := ⟨a.toNat, by omega⟩
      obtain ⟨v, f, hb, ho, hr, hbg, hf, ha⟩ := h
      have hc := hb.cellW (a := b) (by omega)
      rw [hf.2 b hno] at hc
      have g3 : (b : Int) < 4096 := by omega
      clear hb ho hr hf ha hno h1 h2
      go_enter Try.func27, Try.ntmps27
      go_wp2_with (go_at_call 28; (with_reducible refine HI.out.mono ?_); rintro e w' ⟨rfl, rfl⟩)
      go_ret
      exact ⟨rfl, rfl⟩

theorem cells_q {w : World} {base g : Nat} {l : List Tk} {r : Option Nat} (h : QS w base g l r) {i : Nat} (hi : i < l.length) :
    ∃ d c, w.cell? ⟨g, 0, none⟩ = some (.slice (some ⟨d, 0, none⟩) l.length c) ∧ w.cell? ⟨d, i * 2, none⟩ = some (.int .i64 (nth l i).1) ∧ w.cell? ⟨d, i * 2 + 1, none⟩ = some (.int .i64 (nth l i).2) ∧
      w.frozen? ⟨d, i * 2, none⟩ = false ∧ w.frozen? ⟨d, i * 2 + 1, none⟩ = false ∧ r = some d ∧ d ≠ g := by
  obtain ⟨v, f, hb, ho, hr, hbg, hf, ha⟩ := h
  obtain ⟨d, c, rfl, _⟩ := row_form ho (by omega)
  obtain ⟨c1, c2, f1, f2⟩ := row_at ho hi
  exact ⟨d, c, hb.cell, c1, c2, f1, f2, hr, fun e => hb.ne_row ho (by decide) (by rw [e]; rfl)⟩

set_option maxRecDepth 100000 in
theorem due_in {w : World} {base g : Nat} {l : List Tk} {r : Option Nat} (h : QS w base g l r) (i : Nat) (hi : i < l.length) :
    Calls Try.prog 12 #[.pointer (some ⟨g, 0, none⟩), .int .i64 (nth l i).1] w fun e w' => e = .returned (.tuple #[.int .i64 (nth l i).2, .bool true]) ∧ w = w' := by
  have HI := Lib.hid (place_in h i hi)
  obtain ⟨d, c, c0, c1, c2, -, -, -, -⟩ := cells_q h hi
  have hi' : (i : Int) < (l.length : Int) := by omega
  clear h
  go_enter Try.func12, Try.ntmps12
  go_wp2_with (go_at_call 27; (with_reducible refine HI.out.mono ?_); rintro e w' ⟨rfl, rfl⟩)
  go_ret2
  exact ⟨rfl, rfl⟩
set_option maxRecDepth 100000 in
theorem due_out {w : World} {base g : Nat} {l : List Tk} {r : Option Nat} (h : QS w base g l r) (a : Int) (hno : ∀ i, i < l.length → (nth l i).1 ≠ a) :
    Calls Try.prog 12 #[.pointer (some ⟨g, 0, none⟩), .int .i64 a] w fun e w' => e = .returned (.tuple #[.int .i64 0, .bool false]) ∧ w = w' := by
  have HI := Lib.hid (place_out h a hno)
  clear h hno
  go_enter Try.func12, Try.ntmps12
  go_wp2_with (go_at_call 27; (with_reducible refine HI.out.mono ?_); rintro e w' ⟨rfl, rfl⟩)
  go_ret2
  exact ⟨rfl, rfl⟩
set_option maxRecDepth 100000 in
theorem len_q {w : World} {base g : Nat} {l : List Tk} {r : Option Nat} (h : QS w base g l r) :
    Calls Try.prog 13 #[.pointer (some ⟨g, 0, none⟩)] w fun e w' => e = .returned (.int .i64 l.length) ∧ w = w' := by
  have HI := Lib.hid (is_any h)
  obtain ⟨ao, c, hc⟩ := cell_q h
  clear h
  go_enter Try.func13, Try.ntmps13
  go_wp2_with (first | (go_at_call 28; (with_reducible refine HI.out.mono ?_); rintro e w' ⟨rfl, rfl⟩) | (go_at_call 29; (with_reducible refine (len_any _ _ _ _).mono ?_); rintro e w' ⟨rfl, rfl⟩))
  go_ret
  exact ⟨rfl, rfl⟩

theorem bcell {W w1 : World} (hb : Below W.heap.size W w1) : (∀ b o, b < W.heap.size → w1.cell? ⟨b, o, none⟩ = W.cell? ⟨b, o, none⟩) ∧ (∀ b o, b < W.heap.size → w1.frozen? ⟨b, o, none⟩ = W.frozen? ⟨b, o, none⟩) :=
  ⟨fun b o h => hb.cell (p := ⟨b, o, none⟩) h, fun b o h => hb.frozen (p := ⟨b, o, none⟩) h⟩
/-- A tick and whether it is: two results, the first in a new block. -/
def tickRes (t : Tk) (b : Bool) : Ending := .returned (.tuple #[.agg #[.int .i64 t.1, .int .i64 t.2], .bool b])
theorem QS.only {w w' : World} {S : Nat → Prop} {base g : Nat} {l : List Tk} {r : Option Nat} (h : QS w base g l r) (ho : Only w w' S) (hn : ∀ k, QF g r k → ¬ S k) : QS w' base g l r := by
  obtain ⟨v, f, hb, hown, hr, hbg, hf, ha⟩ := h
  exact ⟨v, f, hb.only ho (hn g (.inl rfl)), own_only hown ho (fun k hk => hn k (.inr (by rw [hr, hk]))), hr, hbg, hf, ha⟩
theorem QS.below {w w' : World} {base g : Nat} {l : List Tk} {r : Option Nat} (h : QS w base g l r) (hb : Below w.heap.size w w') : QS w' base g l r :=
  h.only (S := fun _ => False) (Only.of_below hb) (fun _ _ h => h)
theorem QS.alloc {w : World} {base g : Nat} {l : List Tk} {r : Option Nat} (h : QS w base g l r) (o : Obj) : QS (w.alloc o) base g l r := h.below ((Below.refl _ _).alloc (Nat.le_refl _) _)

set_option maxRecDepth 100000 in
theorem first_in {w : World} {base g : Nat} {l : List Tk} {r : Option Nat} (h : QS w base g l r) (h0 : 0 < l.length) :
    Calls Try.prog 16 #[.pointer (some ⟨g, 0, none⟩)] w fun e w' => e = tickRes (nth l 0) true ∧ Below w.heap.size w w' := by
  have h1 := h.alloc (.cells #[.int .i64 0, .int .i64 0] 24)
  have HI := Lib.hid (is_any h1)
  obtain ⟨d, c, c0, c1, c2, -, -, -, -⟩ := cells_q h1 h0
  have g0 : ((l.length : Int) == 0) = false := by rw [beq_eq_false_iff_ne]; omega
  have hi' : (0 : Int) < (l.length : Int) := by omega
  have hl := h.apt.small
  clear h h1
  go_enter Try.func16, Try.ntmps16
  go_wp2_with (first | (go_at_call 28; (with_reducible refine HI.out.mono ?_); rintro e w' ⟨rfl, rfl⟩) | (go_at_call 29; (with_reducible refine (len_any _ _ _ _).mono ?_); rintro e w' ⟨rfl, rfl⟩))
  exact bodyPost_ret (v := .tuple #[.agg #[.int .i64 (nth l 0).1, .int .i64 (nth l 0).2], .bool true]) (by simp [results, Try.results16, go_sem]) rfl ⟨rfl, (Below.refl _ _).alloc (Nat.le_refl _) _⟩
set_option maxRecDepth 100000 in
theorem first_out {w : World} {base g : Nat} {l : List Tk} {r : Option Nat} (h : QS w base g l r) (h0 : l.length = 0) :
    Calls Try.prog 16 #[.pointer (some ⟨g, 0, none⟩)] w fun e w' => e = tickRes (0, 0) false ∧ Below w.heap.size w w' := by
  have h1 := h.alloc (.cells #[.int .i64 0, .int .i64 0] 24)
  have HI := Lib.hid (is_any h1)
  obtain ⟨ao, c, hc⟩ := cell_q h1
  rw [h0] at hc
  clear h h1 h0
  go_enter Try.func16, Try.ntmps16
  go_wp2_with (first | (go_at_call 28; (with_reducible refine HI.out.mono ?_); rintro e w' ⟨rfl, rfl⟩) | (go_at_call 29; (with_reducible refine (len_any _ _ _ _).mono ?_); rintro e w' ⟨rfl, rfl⟩))
  exact bodyPost_ret (v := .tuple #[.agg #[.int .i64 0, .int .i64 0], .bool false]) (by simp [results, Try.results16, go_sem]) rfl ⟨rfl, (Below.refl _ _).alloc (Nat.le_refl _) _⟩
set_option maxRecDepth 100000 in
theorem first_nil (w : World) :
    Calls Try.prog 16 #[.pointer none] w fun e w' => e = tickRes (0, 0) false ∧ Below w.heap.size w w' := by
  go_enter Try.func16, Try.ntmps16
  go_wp2_with (go_at_call 28; (with_reducible refine (is_nil _).mono ?_); rintro e w' ⟨rfl, rfl⟩)
  exact bodyPost_ret (v := .tuple #[.agg #[.int .i64 0, .int .i64 0], .bool false]) (by simp [results, Try.results16, go_sem]) rfl ⟨rfl, (Below.refl _ _).alloc (Nat.le_refl _) _⟩

/-- A tick in a block of its own. -/
theorem Blk.tick {w : World} {p : Nat} {x y : Value} (h : Blk w p 24 #[x, y]) : w.cell? ⟨p, 0, none⟩ = some x ∧ w.cell? ⟨p, 1, none⟩ = some y ∧ w.frozen? ⟨p, 0, none⟩ = false ∧ w.frozen? ⟨p, 1, none⟩ = false :=
  ⟨h.cell 0, h.cell 1, h.frozen 0, h.frozen 1⟩
theorem Blk.retick {w : World} {p : Nat} {x y : Value} (h : Blk w p 24 #[x, y]) (x' y' : Value) : Blk ((w.setCell ⟨p, 0, none⟩ x').setCell ⟨p, 1, none⟩ y') p 24 #[x', y'] := (h.set_ 0 x').set_ 1 y'

set_option maxRecDepth 100000 in
set_option maxHeartbeats 1000000 in
theorem take_no {w : World} {base g : Nat} {l : List Tk} {r : Option Nat} (h : QS w base g l r) (now : Int) (hno : l.length = 0 ∨ now < (nth l 0).2) :
    Calls Try.prog 15 #[.pointer (some ⟨g, 0, none⟩), .int .i64 now] w fun e w' => e = tickRes (0, 0) false ∧ Below w.heap.size w w' := by
  have h1 := h.alloc (.cells #[.int .i64 0, .int .i64 0] 24)
  have hb1 : Below w.heap.size w (w.alloc (.cells #[.int .i64 0, .int .i64 0] 24)) := (Below.refl _ _).alloc (Nat.le_refl _) _
  have HB1 := Lib.hid hb1
  clear hb1
  have hf : ∃ t b, (b = false ∨ now < t.2) ∧ Calls Try.prog 16 #[.pointer (some ⟨g, 0, none⟩)] (w.alloc (.cells #[.int .i64 0, .int .i64 0] 24)) fun e w' => e = tickRes t b ∧ Below (w.alloc (.cells #[.int .i64 0, .int .i64 0] 24)).heap.size (w.alloc (.cells #[.int .i64 0, .int .i64 0] 24)) w' := by
    by_cases h0 : l.length = 0
    · exact ⟨_, _, .inl rfl, first_out h1 h0⟩
    · exact ⟨_, _, .inr (by rcases hno with h | h; exact absurd h h0; exact h), first_in h1 (by omega)⟩
  obtain ⟨t, b, hno', hf⟩ := hf
  have HF := Lib.hid hf
  clear h h1 hno hf
  cases b with
  | false =>
    clear hno'
    go_enter Try.func15, Try.ntmps15
    go_wp2_with fail
    go_at_call 16
    refine HF.out.mono ?_
    rintro e w1 ⟨rfl, hb⟩
    unfold tickRes
    have kb : Blk w1 w.heap.size 24 #[.int .i64 0, .int .i64 0] := (Blk.new w 24 #[.int .i64 0, .int .i64 0]).below hb (by simp)
    obtain ⟨k0, k1, f0, f1⟩ := kb.tick
    have kz : w.heap.size < w1.heap.size := kb.lt
    have HBB := Lib.hid (HB1.out.trans (hb.mono (by simp)))
    have KB := Lib.hid kb
    clear kb hb
    go_wp2
    obtain ⟨q0, q1, -, -⟩ := ((KB.out.retick (.int .i64 0) (.int .i64 0)).alloc (.cells #[.int .i64 t.1, .int .i64 t.2] 24)).tick
    exact bodyPost_ret (v := .tuple #[.agg #[.int .i64 0, .int .i64 0], .bool false]) (by simp [results, Try.results15, go_sem, q0, q1]) rfl
      ⟨rfl, ((HBB.out.setCell (p := ⟨w.heap.size, 0, none⟩) (Nat.le_refl _) _).setCell (p := ⟨w.heap.size, 1, none⟩) (Nat.le_refl _) _).alloc (by simp [World.setCell]; omega) _⟩
  | true =>
    have hlt : decide (now < t.2) = true := by simpa using hno'
    clear hno'
    go_enter Try.func15, Try.ntmps15
    go_wp2_with fail
    go_at_call 16
    refine HF.out.mono ?_
    rintro e w1 ⟨rfl, hb⟩
    unfold tickRes
    have kb : Blk w1 w.heap.size 24 #[.int .i64 0, .int .i64 0] := (Blk.new w 24 #[.int .i64 0, .int .i64 0]).below hb (by simp)
    obtain ⟨k0, k1, f0, f1⟩ := kb.tick
    have kz : w.heap.size < w1.heap.size := kb.lt
    have HBB := Lib.hid (HB1.out.trans (hb.mono (by simp)))
    have KB := Lib.hid kb
    clear kb hb
    go_wp2
    obtain ⟨q0, q1, -, -⟩ := ((KB.out.retick (.int .i64 0) (.int .i64 0)).alloc (.cells #[.int .i64 t.1, .int .i64 t.2] 24)).tick
    exact bodyPost_ret (v := .tuple #[.agg #[.int .i64 0, .int .i64 0], .bool false]) (by simp [results, Try.results15, go_sem, q0, q1]) rfl
      ⟨rfl, ((HBB.out.setCell (p := ⟨w.heap.size, 0, none⟩) (Nat.le_refl _) _).setCell (p := ⟨w.heap.size, 1, none⟩) (Nat.le_refl _) _).alloc (by simp [World.setCell]; omega) _⟩
end Go.Proofs.Ytlccplpniidjfaa
