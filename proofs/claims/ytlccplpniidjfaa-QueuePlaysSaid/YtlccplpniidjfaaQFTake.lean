/- The document's queue: Take: the walk. -/
import Derived.Test.YtlccplpniidjfaaQSame
namespace Go.Proofs.Ytlccplpniidjfaa
open Go.RowKit

set_option maxRecDepth 100000 in
set_option maxHeartbeats 1000000 in
theorem ftake_no {w : World} {base p : Nat} {m : List Tk} {rv : Option Nat} {t : Tk} {b : Bool} (h : RQ w base p m rv) (hfo : FirstOf m t b) (now : Int) (hno' : b = false ∨ now < t.2) :
    Calls Try.prog 25 #[.pointer (some ⟨p, 0, none⟩), .int .i64 now] w fun e w' => e = .returned (.tuple #[.agg #[.int .i64 0, .int .i64 0], .bool false]) ∧ Below w.heap.size w w' := by
  have hb1 : Below w.heap.size w (w.alloc (.cells #[.int .i64 0, .int .i64 0] 24)) := (Below.refl _ _).alloc (Nat.le_refl _) _
  have HF := Lib.hid (ffirst_of (h.below hb1) hfo)
  have HB1 := Lib.hid hb1
  clear h hb1 hfo
  cases b with
  | false =>
    clear hno'
    go_enter Try.func25, Try.ntmps25
    go_wp2_with fail
    go_at_call 35
    refine HF.out.mono ?_
    rintro e w1 ⟨rfl, hb⟩
    have kb : Blk w1 w.heap.size 24 #[.int .i64 0, .int .i64 0] := (Blk.new w 24 #[.int .i64 0, .int .i64 0]).below hb (by simp)
    obtain ⟨k0, k1, f0, f1⟩ := kb.tick
    have kz : w.heap.size < w1.heap.size := kb.lt
    have HBB := Lib.hid (HB1.out.trans (hb.mono (by simp)))
    have KB := Lib.hid kb
    clear kb hb
    go_wp2
    obtain ⟨q0, q1, -, -⟩ := ((KB.out.retick (.int .i64 0) (.int .i64 0)).alloc (.cells #[.int .i64 t.1, .int .i64 t.2] 24)).tick
    exact bodyPost_ret (v := .tuple #[.agg #[.int .i64 0, .int .i64 0], .bool false]) (by simp [results, Try.results25, go_sem, q0, q1]) rfl
      ⟨rfl, ((HBB.out.setCell (p := ⟨w.heap.size, 0, none⟩) (Nat.le_refl _) _).setCell (p := ⟨w.heap.size, 1, none⟩) (Nat.le_refl _) _).alloc (by simp [World.setCell]; omega) _⟩
  | true =>
    have hlt : decide (now < t.2) = true := by simpa using hno'
    clear hno'
    go_enter Try.func25, Try.ntmps25
    go_wp2_with fail
    go_at_call 35
    refine HF.out.mono ?_
    rintro e w1 ⟨rfl, hb⟩
    have kb : Blk w1 w.heap.size 24 #[.int .i64 0, .int .i64 0] := (Blk.new w 24 #[.int .i64 0, .int .i64 0]).below hb (by simp)
    obtain ⟨k0, k1, f0, f1⟩ := kb.tick
    have kz : w.heap.size < w1.heap.size := kb.lt
    have HBB := Lib.hid (HB1.out.trans (hb.mono (by simp)))
    have KB := Lib.hid kb
    clear kb hb
    go_wp2
    obtain ⟨q0, q1, -, -⟩ := ((KB.out.retick (.int .i64 0) (.int .i64 0)).alloc (.cells #[.int .i64 t.1, .int .i64 t.2] 24)).tick
    exact bodyPost_ret (v := .tuple #[.agg #[.int .i64 0, .int .i64 0], .bool false]) (by simp [results, Try.results25, go_sem, q0, q1]) rfl
      ⟨rfl, ((HBB.out.setCell (p := ⟨w.heap.size, 0, none⟩) (Nat.le_refl _) _).setCell (p := ⟨w.heap.size, 1, none⟩) (Nat.le_refl _) _).alloc (by simp [World.setCell]; omega) _⟩

set_option maxRecDepth 100000 in
set_option maxHeartbeats 1000000 in
theorem ftake_yes {w : World} {base p : Nat} {m : List Tk} {rv : Option Nat} {t : Tk} (h : RQ w base p m rv) (hbs : base ≤ w.heap.size) (ht : IsMin m t) (now : Int) (hdue : t.2 ≤ now) :
    Calls Try.prog 25 #[.pointer (some ⟨p, 0, none⟩), .int .i64 now] w fun e w' => e = .returned (.tuple #[.agg #[.int .i64 t.1, .int .i64 t.2], .bool true]) ∧
      ∃ rv', RQ w' base p (rest m t.1) rv' ∧ Only w w' (fun k => k = p) ∧ RNew2 w rv rv' := by
  have hb1 : Below w.heap.size w (w.alloc (.cells #[.int .i64 0, .int .i64 0] 24)) := (Below.refl _ _).alloc (Nat.le_refl _) _
  have HF := Lib.hid (ffirst_of (h.below hb1) (.inr ⟨ht, rfl⟩))
  have hdue' : decide (now < t.2) = false := by simp; omega
  have HQ := Lib.hid h
  have HPL := Lib.hid (h.lt p (.inl rfl)).2
  clear h hb1 hdue ht
  go_enter Try.func25, Try.ntmps25
  go_wp2_with fail
  go_at_call 35
  refine HF.out.mono ?_
  rintro e w1 ⟨rfl, hb⟩
  have kb : Blk w1 w.heap.size 24 #[.int .i64 0, .int .i64 0] := (Blk.new w 24 #[.int .i64 0, .int .i64 0]).below hb (by simp)
  have kz : w.heap.size < w1.heap.size := kb.lt
  have hw1 : Below w.heap.size w (w1.alloc (.cells #[.int .i64 t.1, .int .i64 t.2] 24)) := (((Below.refl w.heap.size w).alloc (Nat.le_refl _) _).trans (hb.mono (by simp))).alloc (by omega) _
  have kt := Blk.new w1 24 #[.int .i64 t.1, .int .i64 t.2]
  have kb1 := kb.alloc (.cells #[.int .i64 t.1, .int .i64 t.2] 24)
  have hq1 := HQ.out.below hw1
  have HP := Lib.hid (fdrop_any hq1 (Nat.le_trans hbs hw1.size) t.1)
  have HT := Lib.hid kt
  have HB := Lib.hid kb1
  have HW := Lib.hid hw1
  clear hb kb hq1 kt kb1 hw1
  go_wp2_with fail
  go_at_call 24
  refine HP.out.mono ?_
  rintro e w2 ⟨rfl, rv', hq2, ho2, hr2⟩
  have hn1 : ¬ w1.heap.size = p := fun hk => by have := HPL.out; omega
  have hn2 : ¬ w.heap.size = p := fun hk => by have := HPL.out; omega
  have kt2 := HT.out.only ho2 hn1
  have kb2 := HB.out.only ho2 hn2
  obtain ⟨k0, k1, -, -⟩ := kt2.tick
  obtain ⟨k2, k3, f2, f3⟩ := kb2.tick
  have KB := Lib.hid kb2
  have HQ2 := Lib.hid hq2
  have HO2 := Lib.hid ho2
  have HR2 := Lib.hid hr2
  clear kt2 kb2 hq2 ho2 hr2
  go_wp2
  obtain ⟨q0, q1, -, -⟩ := (KB.out.retick (.int .i64 t.1) (.int .i64 t.2)).tick
  have hon : Only w2 ((w2.setCell ⟨w.heap.size, 0, none⟩ (.int .i64 t.1)).setCell ⟨w.heap.size, 1, none⟩ (.int .i64 t.2)) (fun k => k = w.heap.size) :=
    ((Only.refl w2 (fun k => k = w.heap.size)).setCell (p := ⟨w.heap.size, 0, none⟩) (.inl rfl) _).setCell (p := ⟨w.heap.size, 1, none⟩) (.inl rfl) _
  have hlt : ∀ k, QF p rv' k → k ≠ w.heap.size := by
    intro k hk e
    rcases hk with rfl | hk
    · exact hn2 e.symm
    · rcases HR2.out with h | h
      · have := (HQ.out.lt k (.inr (by rw [← h]; exact hk))).2
        omega
      · have h1 := h k hk.symm
        have h2 := HW.out.size
        have h3 := (Blk.new w1 24 #[.int .i64 t.1, .int .i64 t.2]).lt
        omega
  refine bodyPost_ret (v := .tuple #[.agg #[.int .i64 t.1, .int .i64 t.2], .bool true]) (by simp [results, Try.results25, go_sem, q0, q1]) rfl
    ⟨rfl, rv', HQ2.out.only hon hlt, ((Only.of_below HW.out).trans' HO2.out).trans hon (fun k hk => .inr (by omega)), ?_⟩
  rcases HR2.out with h | h
  · exact .inl h
  · exact .inr fun k hk => Nat.le_trans HW.out.size (h k hk)
end Go.Proofs.Ytlccplpniidjfaa
