/- Put and Drop: the walks. -/
import Derived.Test.YtlccplpniidjfaaQTake
namespace Go.Proofs.Ytlccplpniidjfaa
open Go.RowKit

theorem Only.of_alloc (w : World) (o : Obj) (S : Nat → Prop) : Only w (w.alloc o) S := (Only.refl w S).alloc o

set_option maxRecDepth 100000 in
set_option maxHeartbeats 1000000 in
theorem put_bad {w : World} {base g : Nat} {l : List Tk} {r : Option Nat} (h : QS w base g l r) (t : Tk) (hm : mayT t = false) :
    Calls Try.prog 21 #[.pointer (some ⟨g, 0, none⟩), .agg #[.int .i64 t.1, .int .i64 t.2]] w fun e w' => e = .returned (.tuple #[.bool false, .int .i64 2]) ∧ Below w.heap.size w w' := by
  have HI := Lib.hid (is_any (h.alloc (.cells #[.int .i64 t.1, .int .i64 t.2] 24)))
  have hmay := may_any (w.alloc (.cells #[.int .i64 t.1, .int .i64 t.2] 24)) t.1 t.2
  rw [show (t.1, t.2) = t from rfl, hm] at hmay
  have HM := Lib.hid hmay
  have hb1 : Below w.heap.size w (w.alloc (.cells #[.int .i64 t.1, .int .i64 t.2] 24)) := (Below.refl _ _).alloc (Nat.le_refl _) _
  have HB1 := Lib.hid hb1
  clear h hmay hm hb1
  go_enter Try.func21, Try.ntmps21
  go_wp2_with (first | (go_at_call 28; (with_reducible refine HI.out.mono ?_); rintro e w' ⟨rfl, rfl⟩) | (go_at_call 31; (with_reducible refine HM.out.mono ?_); rintro e w1 ⟨rfl, hb⟩))
  go_ret2
  exact ⟨rfl, HB1.out.trans (hb.mono (by simp))⟩

set_option maxRecDepth 100000 in
set_option maxHeartbeats 2000000 in
theorem put_new {w : World} {base g : Nat} {l : List Tk} {r : Option Nat} (h : QS w base g l r) (hbs : base ≤ w.heap.size) (a : Nat) (d : Int) (hm : mayT ((a : Int), d) = true) (hno : ∀ i, i < l.length → (nth l i).1 ≠ (a : Int)) :
    Calls Try.prog 21 #[.pointer (some ⟨g, 0, none⟩), .agg #[.int .i64 a, .int .i64 d]] w fun e w' => e = .returned (.tuple #[.bool true, .int .i64 0]) ∧
      ∃ r', QS w' base g (upL l.length (l ++ [((a : Int), d)]) l.length) r' ∧ Only w w' (QF g r) ∧ RNew w r r' := by
  have h1 := h.alloc (.cells #[.int .i64 (a : Int), .int .i64 d] 24)
  have HI := Lib.hid (is_any h1)
  have hmay := may_any (w.alloc (.cells #[.int .i64 (a : Int), .int .i64 d] 24)) a d
  rw [hm] at hmay
  have ha : a < 4096 := by simp [mayT] at hm; omega
  have HM := Lib.hid hmay
  have HQ := Lib.hid h1
  have HNO := Lib.hid hno
  have kb0 := Blk.new w 24 #[.int .i64 (a : Int), .int .i64 d]
  have KB := Lib.hid kb0
  have HON := Lib.hid (Only.of_alloc w (.cells #[.int .i64 (a : Int), .int .i64 d] 24) (QF g r))
  clear h h1 hmay hm hno kb0
  go_enter Try.func21, Try.ntmps21
  go_wp2_with (first | (go_at_call 28; (with_reducible refine HI.out.mono ?_); rintro e w' ⟨rfl, rfl⟩))
  go_at_call 31
  refine HM.out.mono ?_
  rintro e w1 ⟨rfl, hb⟩
  obtain ⟨k0, k1, -, -⟩ := (KB.out.below hb (by simp)).tick
  have HP := Lib.hid (place_out (HQ.out.below hb) a HNO.out)
  have HPU := Lib.hid (hpush_any ((HQ.out.below hb).drewN 1) (Nat.le_trans hbs (Nat.le_trans (by simp) hb.size)) a d ha HNO.out)
  have HO1 := Lib.hid ((HON.out.trans' (Only.of_below hb)).drewN 1)
  have HSZ := Lib.hid (show w.heap.size ≤ w1.heap.size from Nat.le_trans (by simp) hb.size)
  clear hb
  go_wp2_with (go_at_call 27; (with_reducible refine HP.out.mono ?_); rintro e w' ⟨rfl, rfl⟩)
  go_region_with (go_at_call 32; refine HPU.out.mono ?_; rintro e w2 ⟨rfl, r', hq2, ho2, hr2⟩)
  all_goals
    go_wp2
    go_ret2
    refine ⟨rfl, r', hq2, HO1.out.trans' ho2, ?_⟩
    rcases hr2 with hr2 | ⟨q, hr2, hq⟩
    · exact .inl hr2
    · exact .inr ⟨q, hr2, Nat.le_trans HSZ.out hq⟩

set_option maxRecDepth 100000 in
set_option maxHeartbeats 2000000 in
theorem put_old {w : World} {base g : Nat} {l : List Tk} {r : Option Nat} (h : QS w base g l r) (a : Nat) (d : Int) (hm : mayT ((a : Int), d) = true) (i : Nat) (hi : i < l.length) (hia : (nth l i).1 = (a : Int)) (hd : (nth l i).2 ≤ d) :
    Calls Try.prog 21 #[.pointer (some ⟨g, 0, none⟩), .agg #[.int .i64 a, .int .i64 d]] w fun e w' => e = .returned (.tuple #[.bool false, .int .i64 0]) ∧ Below w.heap.size w w' := by
  have h1 := h.alloc (.cells #[.int .i64 (a : Int), .int .i64 d] 24)
  have hsm := h.apt.small
  have HI := Lib.hid (is_any h1)
  have hmay := may_any (w.alloc (.cells #[.int .i64 (a : Int), .int .i64 d] 24)) a d
  rw [hm] at hmay
  have HM := Lib.hid hmay
  have HQ := Lib.hid h1
  have HIA := Lib.hid hia
  have kb0 := Blk.new w 24 #[.int .i64 (a : Int), .int .i64 d]
  have KB := Lib.hid kb0
  have hb1 : Below w.heap.size w (w.alloc (.cells #[.int .i64 (a : Int), .int .i64 d] 24)) := (Below.refl _ _).alloc (Nat.le_refl _) _
  have HB1 := Lib.hid hb1
  have hd' : decide ((nth l i).2 ≤ d) = true := by simpa using hd
  have hi' : (i : Int) < (l.length : Int) := by omega
  have hi4 : i < 4096 := by omega
  clear h h1 hmay hm hia kb0 hb1 hd
  go_enter Try.func21, Try.ntmps21
  go_wp2_with (first | (go_at_call 28; (with_reducible refine HI.out.mono ?_); rintro e w' ⟨rfl, rfl⟩))
  go_at_call 31
  refine HM.out.mono ?_
  rintro e w1 ⟨rfl, hb⟩
  obtain ⟨k0, k1, -, -⟩ := (KB.out.below hb (by simp)).tick
  have hp := place_in (HQ.out.below hb) i hi
  rw [HIA.out] at hp
  have HP := Lib.hid hp
  obtain ⟨dd, c, c0, c1, c2, -, -, -, -⟩ := cells_q (HQ.out.below hb) hi
  have HBB := Lib.hid (HB1.out.trans (hb.mono (by simp)))
  clear hb hp
  go_wp2_with (go_at_call 27; (with_reducible refine HP.out.mono ?_); rintro e w' ⟨rfl, rfl⟩)
  go_quiet (fail)
  go_wp2
  go_ret2
  exact ⟨rfl, below_drewN HBB.out _⟩

theorem QS.set_ {w : World} {base g d c : Nat} {l : List Tk} {r : Option Nat} (h : QS w base g l r) {i : Nat} (hi : i < l.length) (t : Tk) (ht : t.1 = (nth l i).1)
    (hv : w.cell? ⟨g, 0, none⟩ = some (.slice (some ⟨d, 0, none⟩) l.length c)) :
    QS ((w.setCell ⟨d, i * 2, none⟩ (.int .i64 t.1)).setCell ⟨d, i * 2 + 1, none⟩ (.int .i64 t.2)) base g (l.set i t) r := by
  obtain ⟨v, f, hb, ho, hr, hbg, hf, ha⟩ := h
  have hv' := hb.cell
  rw [hv] at hv'
  injection hv' with hv'
  subst hv'
  have hgd : g ≠ d := fun e => hb.ne_row ho (by decide) (by rw [e]; rfl)
  have h1 := (ho.stored (i * 2) (.int .i64 t.1)).1
  have h2 := (h1.stored (i * 2 + 1) (.int .i64 t.2)).1
  rw [← tcells_set l i t hi] at h2
  have hn : ∀ j, (nth (l.set i t) j).1 = (nth l j).1 := by
    intro j
    rw [nth_set hi]
    split
    · rename_i e; rw [← e, ht]
    · rfl
  refine ⟨_, f, (hb.far (p := ⟨d, i * 2, none⟩) hgd _).far (p := ⟨d, i * 2 + 1, none⟩) hgd _, by rw [List.length_set]; exact h2, hr, hbg, ⟨fun j hj => ?_, fun b hb' => ?_⟩, ⟨fun j hj => ?_, fun j k hj hk he => ?_⟩⟩
  · rw [hn]; exact hf.1 j (by simpa using hj)
  · refine hf.2 b fun j hj => ?_
    have := hb' j (by simpa using hj)
    rwa [hn] at this
  · rw [hn]; exact ha.1 j (by simpa using hj)
  · rw [hn, hn] at he; exact ha.2 j k (by simpa using hj) (by simpa using hk) he

set_option maxRecDepth 100000 in
set_option maxHeartbeats 2000000 in
theorem put_less {w : World} {base g : Nat} {l : List Tk} {r : Option Nat} (h : QS w base g l r) (a : Nat) (d : Int) (hm : mayT ((a : Int), d) = true) (i : Nat) (hi : i < l.length) (hia : (nth l i).1 = (a : Int)) (hd : d < (nth l i).2) :
    Calls Try.prog 21 #[.pointer (some ⟨g, 0, none⟩), .agg #[.int .i64 a, .int .i64 d]] w fun e w' => e = .returned (.tuple #[.bool true, .int .i64 0]) ∧
      QS w' base g (mendL (l.set i ((a : Int), d)) i l.length) r ∧ Only w w' (QF g r) := by
  have h1 := h.alloc (.cells #[.int .i64 (a : Int), .int .i64 d] 24)
  have hsm := h.apt.small
  have HI := Lib.hid (is_any h1)
  have hmay := may_any (w.alloc (.cells #[.int .i64 (a : Int), .int .i64 d] 24)) a d
  rw [hm] at hmay
  have HM := Lib.hid hmay
  have HQ := Lib.hid h1
  have HIA := Lib.hid hia
  have kb0 := Blk.new w 24 #[.int .i64 (a : Int), .int .i64 d]
  have KB := Lib.hid kb0
  have HON := Lib.hid (Only.of_alloc w (.cells #[.int .i64 (a : Int), .int .i64 d] 24) (QF g r))
  have hd' : decide ((nth l i).2 ≤ d) = false := by simpa using hd
  have hi' : (i : Int) < (l.length : Int) := by omega
  have hi4 : i < 4096 := by omega
  clear h h1 hmay hm hia kb0 hd
  go_enter Try.func21, Try.ntmps21
  go_wp2_with (first | (go_at_call 28; (with_reducible refine HI.out.mono ?_); rintro e w' ⟨rfl, rfl⟩))
  go_at_call 31
  refine HM.out.mono ?_
  rintro e w1 ⟨rfl, hb⟩
  obtain ⟨k0, k1, -, -⟩ := (KB.out.below hb (by simp)).tick
  have hq1 := HQ.out.below hb
  have hp := place_in hq1 i hi
  rw [HIA.out] at hp
  have HP := Lib.hid hp
  obtain ⟨dd, c, c0, c1, c2, f1, f2, hr, hdg⟩ := cells_q hq1 hi
  have HR := Lib.hid hr
  have HSET := Lib.hid (fun (m : Nat) => (hq1.drewN m).set_ (d := dd) (c := c) hi ((a : Int), d) HIA.out.symm c0)
  have HON1 := Lib.hid (HON.out.trans' (Only.of_below hb))
  clear hb hp hq1 hr
  go_wp2_with (go_at_call 27; (with_reducible refine HP.out.mono ?_); rintro e w' ⟨rfl, rfl⟩)
  go_quiet (fail)
  go_wp2
  go_region
  have hlen : (l.set i ((a : Int), d)).length = l.length := by simp
  have HL := Lib.hid hlen
  clear hlen
  all_goals
    go_wp2_with fail
    go_at_call 41
    refine (hfix_any (base := base) (l := l.set i ((a : Int), d)) (r := r) (HSET.out _) i (by rw [HL.out]; exact hi)).mono ?_
    rintro e w2 ⟨rfl, hq2, ho2⟩
    rw [HL.out] at hq2
    go_wp2
    go_ret2
    refine ⟨rfl, hq2, Only.trans' ?_ ho2⟩
    have hon := ((HON1.out.drewN 0).setCell (p := ⟨dd, i * 2, none⟩) (.inl (.inr HR.out.symm)) (.int .i64 (a : Int))).setCell (p := ⟨dd, i * 2 + 1, none⟩) (.inl (.inr HR.out.symm)) (.int .i64 d)
    exact ⟨hon.os, hon.tape, hon.output, hon.size, hon.block⟩

set_option maxRecDepth 100000 in
theorem drop_out {w : World} {base g : Nat} {l : List Tk} {r : Option Nat} (h : QS w base g l r) (a : Int) (hno : ∀ i, i < l.length → (nth l i).1 ≠ a) :
    Calls Try.prog 22 #[.pointer (some ⟨g, 0, none⟩), .int .i64 a] w fun e w' => e = .returned (.bool false) ∧ w = w' := by
  have HI := Lib.hid (place_out h a hno)
  clear h hno
  go_enter Try.func22, Try.ntmps22
  go_wp2_with (go_at_call 27; (with_reducible refine HI.out.mono ?_); rintro e w' ⟨rfl, rfl⟩)
  go_ret
  exact ⟨rfl, rfl⟩
set_option maxRecDepth 100000 in
theorem drop_in {w : World} {base g : Nat} {l : List Tk} {r : Option Nat} (h : QS w base g l r) (i : Nat) (hi : i < l.length) :
    Calls Try.prog 22 #[.pointer (some ⟨g, 0, none⟩), .int .i64 (nth l i).1] w fun e w' => e = .returned (.bool true) ∧ QS w' base g (removeL l i) r ∧ Only w w' (QF g r) := by
  have HI := Lib.hid (place_in h i hi)
  have HR := Lib.hid (hremove_any h i hi)
  clear h
  go_enter Try.func22, Try.ntmps22
  go_wp2_with (go_at_call 27; (with_reducible refine HI.out.mono ?_); rintro e w' ⟨rfl, rfl⟩)
  go_at_call 42
  refine HR.out.mono ?_
  rintro e w2 ⟨⟨v, rfl⟩, hq2, ho2⟩
  go_wp2
  go_ret
  exact ⟨rfl, hq2, ho2⟩
end Go.Proofs.Ytlccplpniidjfaa
