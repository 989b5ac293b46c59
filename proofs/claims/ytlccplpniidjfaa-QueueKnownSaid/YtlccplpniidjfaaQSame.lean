/- same: a queue and the document's of one list tell the same: the walk. -/
import Derived.Test.YtlccplpniidjfaaQFNew
import Derived.Test.YtlccplpniidjfaaQList
namespace Go.Proofs.Ytlccplpniidjfaa
open Go.RowKit

/-- What First tells of a list. -/
def FirstOf (l : List Tk) (y : Tk) (b : Bool) : Prop := (l = [] ∧ y = (0, 0) ∧ b = false) ∨ (IsMin l y ∧ b = true)
theorem exists_firstOf (l : List Tk) : ∃ y b, FirstOf l y b := by
  by_cases h : l = []
  · exact ⟨_, _, .inl ⟨h, rfl, rfl⟩⟩
  · obtain ⟨y, hy⟩ := exists_min h
    exact ⟨y, true, .inr ⟨hy, rfl⟩⟩
theorem first_of {w : World} {base g : Nat} {m : List Tk} {r : Option Nat} {y : Tk} {b : Bool} (h : QQ w base g m r) (hf : FirstOf m y b) :
    Calls Try.prog 16 #[.pointer (some ⟨g, 0, none⟩)] w fun e w' => e = .returned (.tuple #[.agg #[.int .i64 y.1, .int .i64 y.2], .bool b]) ∧ Below w.heap.size w w' := by
  rcases hf with ⟨rfl, rfl, rfl⟩ | ⟨hy, rfl⟩
  · exact first_none h
  · exact first_is h hy
theorem ffirst_of {w : World} {base p : Nat} {m : List Tk} {rv : Option Nat} {y : Tk} {b : Bool} (h : RQ w base p m rv) (hf : FirstOf m y b) :
    Calls Try.prog 35 #[.pointer (some ⟨p, 0, none⟩)] w fun e w' => e = .returned (.tuple #[.agg #[.int .i64 y.1, .int .i64 y.2], .bool b]) ∧ Below w.heap.size w w' := by
  rcases hf with ⟨rfl, rfl, rfl⟩ | ⟨hy, rfl⟩
  · exact ffirst_none h
  · cases m with
    | nil => exact absurd hy.1 (by simp)
    | cons x m =>
      rw [min_unique hy (best_min m x h.rising)]
      exact ffirst_some h

set_option maxRecDepth 100000 in
set_option maxHeartbeats 2000000 in
theorem lsame_any {w : World} {base g base' p : Nat} {m : List Tk} {r rv : Option Nat} (hq : QQ w base g m r) (hr : RQ w base' p m rv) :
    Calls Try.prog 19 #[.pointer (some ⟨g, 0, none⟩), .pointer (some ⟨p, 0, none⟩)] w fun e w' => e = .returned (.bool true) ∧ Below w.heap.size w w' := by
  obtain ⟨y, b, hfo⟩ := exists_firstOf m
  have hsm := hr.small
  have HF := Lib.hid (first_of hq hfo)
  have HFO := Lib.hid hfo
  have HQ := Lib.hid hq
  have HR := Lib.hid hr
  clear hfo hq hr
  go_enter Try.func19, Try.ntmps19
  go_wp2_with fail
  go_at_call 16
  refine HF.out.mono ?_
  rintro e w1 ⟨rfl, hb1⟩
  have hb2 := hb1.alloc hb1.size (.cells #[.int .i64 y.1, .int .i64 y.2] 24)
  have HKA := Lib.hid (Blk.new w1 24 #[.int .i64 y.1, .int .i64 y.2])
  have hsz : w1.heap.size < (w1.alloc (.cells #[.int .i64 y.1, .int .i64 y.2] 24)).heap.size := by simp
  have HSZ := Lib.hid hsz
  have HFR := Lib.hid (ffirst_of (HR.out.below hb2) HFO.out)
  have HB2 := Lib.hid hb2
  clear hb1 hb2 hsz
  go_wp2_with fail
  go_at_call 35
  refine HFR.out.mono ?_
  rintro e w2 ⟨rfl, hb3⟩
  have hka := HKA.out.below hb3 HSZ.out
  obtain ⟨k0, k1, -, -⟩ := hka.tick
  have hlt : w1.heap.size < w2.heap.size := Nat.lt_of_lt_of_le HSZ.out hb3.size
  have hb4 := HB2.out.trans (hb3.mono HB2.out.size)
  have hb5 := hb4.alloc hb4.size (.cells #[.int .i64 y.1, .int .i64 y.2] 24)
  have HB5 := Lib.hid hb5
  have HL := Lib.hid (fun (n : Nat) => qlen_q ((HQ.out.below hb5).drewN n))
  obtain ⟨ao, c, c0, htk⟩ := (HR.out.below hb4).reads
  have hpl := ((HR.out.below hb4).lt p (.inl rfl)).2
  have HQ5 := Lib.hid (HQ.out.below hb5)
  clear hka hb3 hb4 hb5 htk
  go_wp2
  go_quiet ((go_at_call 13; exact quiet_left (HL.out _)))
  have HLI := Lib.hid (list_q (HQ5.out.drewN nq))
  go_wp2_with fail
  go_at_call 20
  refine HLI.out.mono ?_
  rintro e w3 ⟨hb6, v, rfl, hown⟩
  have hbl := (below_drewN HB5.out nq).trans (hb6.mono HB5.out.size)
  obtain ⟨htk3, ao3, c3, rfl⟩ := own_ticks hown
  obtain ⟨ao4, c4, d0, htk4⟩ := (HR.out.below hbl).reads
  have HS := Lib.hid (fsame_any htk3 htk4 (by omega))
  have HOWN := Lib.hid (own_base hown HB5.out.size)
  have HBL := Lib.hid hbl
  clear hb6 hbl hown htk3 htk4
  go_wp2_with fail
  go_at_call 36
  refine HS.out.mono ?_
  rintro e w4 ⟨rfl, hb7⟩
  have HO4 := Lib.hid (own_only (S := fun _ => False) HOWN.out (Only.of_below hb7) (fun _ _ h => h))
  have HBL4 := Lib.hid (HBL.out.trans (hb7.mono HBL.out.size))
  clear hb7
  go_wp2
  go_loopw [10] (fun s wr => ∃ (i : Nat) (xs : List Value), i ≤ m.length ∧ s = .int .i64 (i : Nat) ∧ wr.ownsRow w.heap.size 24 2 (.slice ao3 m.length c3) m.length xs ∧ Below w.heap.size w wr) (fun s _ => m.length - (intOf s).toNat)
  case atStart => exact ⟨0, _, Nat.zero_le _, rfl, HO4.out, HBL4.out⟩
  case round =>
    obtain ⟨i, xs, hi, rfl, hown, hbl⟩ := hrel
    have HBL := Lib.hid hbl
    have HOW := Lib.hid hown
    by_cases hlt : i < m.length
    · have l1 : (i : Int) < (m.length : Int) := by omega
      obtain ⟨gg, cap, hv, hgb, hgl⟩ := hown.form (by omega)
      injection hv with e1 e2 e3
      subst e1 e3
      have c1 := hown.cellAt (i * 2) (by omega)
      have c2 := hown.cellAt (i * 2 + 1) (by omega)
      have f1 := hown.frozenAt (i * 2)
      have f2 := hown.frozenAt (i * 2 + 1)
      have hxl := hown.1
      obtain ⟨x1, hx1⟩ : ∃ x1, xs[i * 2]? = some x1 := ⟨_, List.getElem?_eq_getElem (by omega)⟩
      obtain ⟨x2, hx2⟩ : ∃ x2, xs[i * 2 + 1]? = some x2 := ⟨_, List.getElem?_eq_getElem (by omega)⟩
      rw [hx1] at c1
      rw [hx2] at c2
      have hs1 := (hown.stored (i * 2) (.int .i64 1)).1
      have HS2 := Lib.hid ((hs1.stored (i * 2 + 1) (.int .i64 1)).1)
      have HBS := Lib.hid ((hbl.setCell (p := ⟨gg, i * 2, none⟩) hgb (.int .i64 1)).setCell (p := ⟨gg, i * 2 + 1, none⟩) hgb (.int .i64 1))
      clear hown hbl e2 hgb hxl hx1 hx2 hs1
      go_wp2
      go_roundw
      case rel => exact ⟨i + 1, _, by omega, by go_num, HS2.out, HBS.out⟩
      case measure => (simp [intOf] <;> omega)
    · obtain rfl : i = m.length := by omega
      clear hlt hown hbl
      go_wp2
      go_ret
      exact ⟨rfl, HBL.out⟩
end Go.Proofs.Ytlccplpniidjfaa
