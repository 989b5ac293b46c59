/- A number's digits, as the document's answer reckons them: the walk. -/
import Derived.Test.YtjbhkmpabajeoaaDoorLPut
import Derived.WalkLawsBesides
namespace Go.Proofs.YtjbhkmpabajeoaaDoor
set_option linter.unusedSimpArgs false
set_option linter.unusedVariables false
open Go.RowKit
open Go.Lib (decDigits itoa nDigits nDigits_le20 nDigits_pos nDigits_big nDigits_small)

theorem dec_small {u : Nat} (h : u < 10) (s : Bs) : decDigits u ++ s = UInt8.ofNat (48 + u % 10) :: s := by
  rw [decDigits, dif_pos h, Nat.mod_eq_of_lt h]; rfl
theorem dec_big {u : Nat} (h : ¬ u < 10) (s : Bs) : decDigits u ++ s = decDigits (u / 10) ++ (UInt8.ofNat (48 + u % 10) :: s) := by
  rw [decDigits, dif_neg h, List.append_assoc]; rfl
theorem str_append (a b : Bs) : str a ++ str b = str (a ++ b) := by
  apply ByteArray.ext
  simp
theorem str_nil_append (b : Bs) : (({ data := #[] } : ByteArray) ++ str b) = str b := str_append [] b
theorem digit_eq (d : Nat) : 48 + UInt8.ofNat d = UInt8.ofNat (48 + d) := by rw [UInt8.ofNat_add]; rfl
theorem wrap_neg (m : Nat) (h1 : 1 ≤ m) (hm : m ≤ 9223372036854775808) : IntKind.u64.wrap (-IntKind.u64.wrap (-(m : Int))) = m := by
  simp only [IntKind.wrap, IntKind.bits, IntKind.signed]
  simp
  omega
theorem conv_one (W : World) (x : Int) : (convert 49 9 (.slice (some ⟨W.heap.size, 0, none⟩) 1 1)).run Tryd.prog (W.alloc (.cells #[.int .u8 x] 5)) = .ok (.string (str [UInt8.ofNat x.toNat])) (W.alloc (.cells #[.int .u8 x] 5)) := by
  rw [run_convert_bytes_string _ _ _ _ _ _ _ Tryd.underlying49 Tryd.underlying5 Tryd.underlying9]
  have h := run_bytesToString (P := Tryd.prog) (W.alloc (.cells #[.int .u8 x] 5)) ⟨W.heap.size, 0, none⟩ 1 1 [x] (by
    have := run_loadCells_list (P := Tryd.prog) (W.alloc (.cells #[.int .u8 x] 5)) ⟨W.heap.size, 0, none⟩ [.int .u8 x] (fun j v hv => by
      match j, hv with
      | 0, hv => simp at hv; subst hv; simp [Addr.add])
    exact this)
  rw [h]
  rfl
set_option maxRecDepth 100000 in
set_option maxHeartbeats 2000000 in
theorem digits_pos (w : World) (m : Nat) (hm : m ≤ 9223372036854775807) : Calls Tryd.prog 39 #[.int .i64 ((m : Int))] w fun e w' => e = .returned (.string (str (itoa ((m : Int))))) ∧ Below w.heap.size w w' := by
  have hm' : (m : Int) ≤ 9223372036854775807 := by omega
  have hm2 : ¬ (m : Int) < 0 := by omega
  have hcv := conv_one
  go_enter Tryd.func39, Tryd.ntmps39
  go_wp2
  go_loopw [3, 5] (fun us ss wr => ∃ (u : Nat) (s : Bs), u ≤ 9223372036854775808 ∧ us = .int .u64 (u : Int) ∧ ss = .string (str s) ∧ decDigits u ++ s = decDigits m ∧ s.length + nDigits u ≤ 20 ∧ Below w.heap.size w wr) (fun us _ _ => (intOf us).toNat)
  case atStart => exact ⟨m, [], by omega, by go_num, rfl, by simp, by have := nDigits_le20 m (by omega); simpa using this, Below.refl _ _⟩
  case round =>
    obtain ⟨u, s, hu, rfl, rfl, hd, hl, hb⟩ := hrel
    have HD := Lib.hid hd
    have HB := Lib.hid (hb.alloc hb.size (.cells #[.int .u8 (48 + (u : Int) % 10)] 5))
    have HL := Lib.hid hl
    have hp := nDigits_pos u
    have hs1 : s.length ≤ 19 := by omega
    clear hd hb hl hp
    by_cases hu10 : u < 10
    · have hz : (((u : Int) / 10) == 0) = true := by simp; omega
      go_wp2
      go_ret
      refine ⟨?_, HB.out⟩
      have h := HD.out
      rw [dec_small hu10] at h
      simp only [str_append, digit_eq, List.cons_append, List.nil_append]
      rw [h, Go.Lib.itoa_nonneg]
      rfl
    · have hz : (((u : Int) / 10) == 0) = false := by simp; omega
      go_wp2
      go_roundw
      case rel =>
        refine ⟨u / 10, UInt8.ofNat (48 + u % 10) :: s, by omega, by go_num, ?_, ?_, ?_, HB.out⟩
        · rw [str_append, digit_eq]; rfl
        · rw [← dec_big hu10]; exact HD.out
        · have := HL.out
          rw [nDigits_big hu10] at this
          simp only [List.length_cons]
          omega
      case measure => simp [intOf]; omega
set_option maxRecDepth 100000 in
set_option maxHeartbeats 2000000 in
theorem digits_neg (w : World) (m : Nat) (h1 : 1 ≤ m) (hm : m ≤ 9223372036854775808) : Calls Tryd.prog 39 #[.int .i64 (-(m : Int))] w fun e w' => e = .returned (.string (str (itoa (-(m : Int))))) ∧ Below w.heap.size w w' := by
  have hm' : (m : Int) ≤ 9223372036854775808 := by omega
  have hm2 : -(m : Int) < 0 := by omega
  have hcv := conv_one
  go_enter Tryd.func39, Tryd.ntmps39
  go_wp2
  go_loopw [3, 5] (fun us ss wr => ∃ (u : Nat) (s : Bs), u ≤ 9223372036854775808 ∧ us = .int .u64 (u : Int) ∧ ss = .string (str s) ∧ decDigits u ++ s = decDigits m ∧ s.length + nDigits u ≤ 20 ∧ Below w.heap.size w wr) (fun us _ _ => (intOf us).toNat)
  case atStart => exact ⟨m, [], by omega, by rw [wrap_neg m h1 hm], rfl, by simp, by have := nDigits_le20 m (by omega); simpa using this, Below.refl _ _⟩
  case round =>
    obtain ⟨u, s, hu, rfl, rfl, hd, hl, hb⟩ := hrel
    have HD := Lib.hid hd
    have HB := Lib.hid (hb.alloc hb.size (.cells #[.int .u8 (48 + (u : Int) % 10)] 5))
    have HL := Lib.hid hl
    have hp := nDigits_pos u
    have hs1 : s.length ≤ 19 := by omega
    clear hd hb hl hp
    by_cases hu10 : u < 10
    · have hz : (((u : Int) / 10) == 0) = true := by simp; omega
      go_wp2
      go_ret
      refine ⟨?_, HB.out⟩
      have h := HD.out
      rw [dec_small hu10] at h
      simp only [str_append, digit_eq, List.cons_append, List.nil_append]
      rw [h, Go.Lib.itoa_neg m h1]
      rfl
    · have hz : (((u : Int) / 10) == 0) = false := by simp; omega
      go_wp2
      go_roundw
      case rel =>
        refine ⟨u / 10, UInt8.ofNat (48 + u % 10) :: s, by omega, by go_num, ?_, ?_, ?_, HB.out⟩
        · rw [str_append, digit_eq]; rfl
        · rw [← dec_big hu10]; exact HD.out
        · have := HL.out
          rw [nDigits_big hu10] at this
          simp only [List.length_cons]
          omega
      case measure => simp [intOf]; omega
theorem digits_any (w : World) (n : Int) (hn : InI n) : Calls Tryd.prog 39 #[.int .i64 n] w fun e w' => e = .returned (.string (str (itoa n))) ∧ Below w.heap.size w w' := by
  obtain ⟨h1, h2⟩ := hn
  by_cases h : 0 ≤ n
  · obtain ⟨m, rfl⟩ : ∃ m : Nat, n = m := ⟨n.toNat, by omega⟩
    exact digits_pos w m (by omega)
  · obtain ⟨m, rfl⟩ : ∃ m : Nat, n = -(m : Int) := ⟨n.natAbs, by omega⟩
    exact digits_neg w m (by omega) (by omega)
end Go.Proofs.YtjbhkmpabajeoaaDoor
