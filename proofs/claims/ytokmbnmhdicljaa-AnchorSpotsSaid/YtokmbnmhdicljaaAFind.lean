/- slices.BinarySearchFunc of spots: the walk. -/
import Derived.Test.YtokmbnmhdicljaaASort
import Derived.Test.YtokmbnmhdicljaaQB
import Derived.Outline
namespace Go.Proofs.Ytokmbnmhdicljaa
open Go.RowKit

set_option maxRecDepth 100000 in
set_option maxHeartbeats 2000000 in
theorem find_any {w : World} {ao : Option Addr} {n c : Nat} {m : List Sp} (h : SAt w (.slice ao n c) m) (hasc : Asc m) (hn : n ≤ 4096) (s : Sp) :
    Calls Try.prog 23 #[.slice ao n c, spV s, .func (.func 19) #[] #[]] w fun e w' => (∃ i : Nat, e = .returned (.tuple #[.int .i64 (i : Nat), .bool (decide (s ∈ m))])) ∧ Below w.heap.size w w' := by
  have hl := h.len
  have hb0 : Below w.heap.size w (w.alloc (.cells #[.int .i64 s.1, .int .i64 s.2.1, .int .i64 s.2.2] 23)) := (Below.refl _ _).alloc (Nat.le_refl _) _
  have HB0 := Lib.hid hb0
  have HK := Lib.hid (Blk.new w 23 #[.int .i64 s.1, .int .i64 s.2.1, .int .i64 s.2.2])
  have H := Lib.hid h
  have HA := Lib.hid hasc
  have HL := Lib.hid hl
  clear h hasc hl hb0
  go_enter Try.func23, Try.ntmps23
  go_wp2
  go_loopw [9, 10] (fun i j wr => ∃ (i' j' : Nat), i' ≤ j' ∧ j' ≤ n ∧ i = .int .i64 (i' : Nat) ∧ j = .int .i64 (j' : Nat) ∧ (∀ k, k < i' → ltS (nthS m k) s) ∧ (∀ k, j' ≤ k → k < n → ¬ ltS (nthS m k) s) ∧
      Below w.heap.size w wr ∧ Blk wr w.heap.size 23 #[.int .i64 s.1, .int .i64 s.2.1, .int .i64 s.2.2]) (fun i j _ => (intOf j).toNat - (intOf i).toNat)
  case atStart => exact ⟨0, n, Nat.zero_le _, Nat.le_refl _, rfl, rfl, fun k hk => by omega, fun k hk hk2 => by omega, HB0.out, HK.out⟩
  case round =>
    obtain ⟨i, j, hij, hjn, rfl, rfl, hlo, hhi, hbl, hk⟩ := hrel
    have HLO := Lib.hid hlo
    have HHI := Lib.hid hhi
    have HBL := Lib.hid hbl
    have HKK := Lib.hid hk
    obtain ⟨k0, k1, k2, -⟩ := hk.three
    have kl := hk.lt
    clear hlo hhi hk
    by_cases hlt : i < j
    · have hqj : (i + j) / 2 < j := by omega
      have hiq : i ≤ (i + j) / 2 := by omega
      have l1 : (i : Int) < (j : Int) := by omega
      have l2 : ((i : Int) + (j : Int)) / 2 < (n : Int) := by omega
      have l3 : 0 ≤ ((i : Int) + (j : Int)) / 2 := by omega
      have l4 : (((i : Int) + (j : Int)) / 2).toNat = (i + j) / 2 := by omega
      obtain ⟨b, off, hao, hb, c0, c1, c2⟩ := (H.out.below hbl).some3 (i := (i + j) / 2) (by rw [← HL.out]; omega)
      subst hao
      have C0 := fun (p : InB wr) => p.cell c0 hb
      have C1 := fun (p : InB wr) => p.cell c1 hb
      have C2 := fun (p : InB wr) => p.cell c2 hb
      have K0 := fun (p : InB wr) => p.cell k0 kl
      have K1 := fun (p : InB wr) => p.cell k1 kl
      have K2 := fun (p : InB wr) => p.cell k2 kl
      clear hbl hb kl c0 c1 c2 k0 k1 k2
      by_cases hlt2 : ltS (nthS m ((i + j) / 2)) s
      · have kk : decide (cmpS (nthS m ((i + j) / 2)) s < 0) = true := by simpa using cmpS_lt.2 hlt2
        have HX := Lib.hid hlt2
        clear hlt2
        go_wp2
        refine wp_region_quiet_below (by kernel_rfl) (by kernel_rfl) ?_
        repeat (quiet_step ((go_at_call 19; exact calls_below (cmpSpot_below _ _ _))))
        refine wpQuiet_nil ?_
        intro _ hw'
        obtain ⟨⟨wq, hbq⟩, hw''⟩ := hw'
        subst hw''
        have HBQ := Lib.hid hbq
        clear C0 C1 C2 K0 K1 K2 hbq
        go_wp2
        go_roundw
        case rel =>
          refine ⟨(i + j) / 2 + 1, j, by omega, by omega, by go_num, rfl, fun k hk => ?_, HHI.out, HBL.out.trans (HBQ.out.mono HBL.out.size), HKK.out.below HBQ.out HKK.out.lt⟩
          rcases Nat.lt_or_ge k ((i + j) / 2) with hl | hl
          · exact ltS_trans (HA.out.at_ hl (by rw [← HL.out]; omega)) HX.out
          · obtain rfl : k = (i + j) / 2 := by omega
            exact HX.out
        case measure => simp [intOf]; omega
      · have kk : decide (cmpS (nthS m ((i + j) / 2)) s < 0) = false := by simp; have := mt cmpS_lt.1 hlt2; omega
        have HX := Lib.hid hlt2
        clear hlt2
        go_wp2
        refine wp_region_quiet_below (by kernel_rfl) (by kernel_rfl) ?_
        repeat (quiet_step ((go_at_call 19; exact calls_below (cmpSpot_below _ _ _))))
        refine wpQuiet_nil ?_
        intro _ hw'
        obtain ⟨⟨wq, hbq⟩, hw''⟩ := hw'
        subst hw''
        have HBQ := Lib.hid hbq
        clear C0 C1 C2 K0 K1 K2 hbq
        go_wp2
        go_roundw
        case rel =>
          refine ⟨i, (i + j) / 2, by omega, by omega, rfl, by go_num, HLO.out, fun k hk hkn => ?_, HBL.out.trans (HBQ.out.mono HBL.out.size), HKK.out.below HBQ.out HKK.out.lt⟩
          rcases Nat.lt_or_ge ((i + j) / 2) k with hl | hl
          · exact fun h => HX.out (ltS_trans (HA.out.at_ hl (by rw [← HL.out]; exact hkn)) h)
          · obtain rfl : k = (i + j) / 2 := by omega
            exact HX.out
        case measure => simp [intOf]; omega
    · obtain rfl : i = j := by omega
      by_cases hin : i < n
      · have l1 : (i : Int) < (n : Int) := by omega
        obtain ⟨b, off, hao, hb, c0, c1, c2⟩ := (H.out.below hbl).some3 (i := i) (by rw [← HL.out]; omega)
        subst hao
        have C0 := fun (p : InB wr) => p.cell c0 hb
        have C1 := fun (p : InB wr) => p.cell c1 hb
        have C2 := fun (p : InB wr) => p.cell c2 hb
        have K0 := fun (p : InB wr) => p.cell k0 kl
        have K1 := fun (p : InB wr) => p.cell k1 kl
        have K2 := fun (p : InB wr) => p.cell k2 kl
        have HD := Lib.hid (show (cmpS (nthS m i) s == 0) = decide (s ∈ m) by
          rw [Bool.eq_iff_iff]
          simp only [beq_iff_eq, decide_eq_true_eq, cmpS_eq]
          constructor
          · rintro rfl; exact nthS_mem (by rw [← HL.out]; exact hin)
          · intro hs
            obtain ⟨k, hk, rfl⟩ := List.getElem_of_mem hs
            rw [← nthS_get hk] at *
            rcases Nat.lt_trichotomy k i with hl | rfl | hl
            · exact absurd (HLO.out k hl) (ltS_irrefl _)
            · rfl
            · exact absurd (HA.out.at_ hl hk) (HHI.out i (Nat.le_refl _) hin))
        clear hbl hb kl c0 c1 c2 k0 k1 k2 hlt
        go_wp2
        refine wp_region_quiet_below (by kernel_rfl) (by kernel_rfl) ?_
        repeat (quiet_step ((go_at_call 19; exact calls_below (cmpSpot_below _ _ _))))
        refine wpQuiet_nil ?_
        intro _ hw'
        obtain ⟨⟨wq, hbq⟩, hw''⟩ := hw'
        subst hw''
        have HBQ := Lib.hid hbq
        clear C0 C1 C2 K0 K1 K2 hbq
        go_wp2
        go_ret2
        exact ⟨⟨i, by rw [HD.out]; rfl⟩, HBL.out.trans (HBQ.out.mono HBL.out.size)⟩
      · obtain rfl : i = n := by omega
        have HD := Lib.hid (show decide (s ∈ m) = false by
          simp only [decide_eq_false_iff_not]
          intro hs
          obtain ⟨k, hk, rfl⟩ := List.getElem_of_mem hs
          have := HLO.out k (by rw [HL.out]; exact hk)
          rw [nthS_get hk] at this
          exact ltS_irrefl _ this)
        clear hbl kl k0 k1 k2 hlt hin
        go_wp2
        go_quiet (fail)
        go_wp2
        go_ret2
        exact ⟨⟨i, by rw [HD.out]; rfl⟩, ⟨HBL.out.os, HBL.out.tape, HBL.out.output, HBL.out.size, HBL.out.block⟩⟩
end Go.Proofs.Ytokmbnmhdicljaa
