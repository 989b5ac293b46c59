/- Numbers put behind words; the words as a line: the walks. -/
import Derived.Test.YtjbhkmpabajeoaaDoorLText
namespace Go.Proofs.YtjbhkmpabajeoaaDoor
set_option linter.unusedSimpArgs false
set_option linter.unusedVariables false
open Go.RowKit

def iv (n : Int) : Value := .int .i64 n
theorem Worded.refl {w : World} {base g : Nat} {l : List Bs} {r : Option Nat} (h : WordsAt w base g l r) : Worded w w base g l r := ⟨⟨r, h, .inl rfl⟩, Only.refl _ _⟩
theorem Worded.below {w w' w'' : World} {base g : Nat} {l : List Bs} {r : Option Nat} (h : Worded w w' base g l r) (hb : Below w'.heap.size w' w'') : Worded w w'' base g l r :=
  h.trans fun r' h' => ⟨⟨r', h'.below hb, .inl rfl⟩, Only.of_below hb⟩
theorem Worded.elim {w w' : World} {base g : Nat} {l : List Bs} {r : Option Nat} (h : Worded w w' base g l r) : ∃ r', WordsAt w' base g l r' ∧ ∀ w'' m, Worded w' w'' base g m r' → Worded w w'' base g m r := by
  obtain ⟨⟨r', h1, h2⟩, h3⟩ := h
  refine ⟨r', h1, fun w'' m ⟨⟨r'', k1, k2⟩, k3⟩ => ⟨⟨r'', k1, ?_⟩, h3.trans k3 fun i hi => ?_⟩⟩
  · rcases k2 with rfl | ⟨j, rfl, hj⟩
    · exact h2
    · exact .inr ⟨j, rfl, Nat.le_trans h3.size hj⟩
  · rcases hi with rfl | hi
    · exact .inl (.inl rfl)
    · rcases h2 with rfl | ⟨j, rfl, hj⟩
      · exact .inl (.inr hi)
      · injection hi with hi
        exact .inr (by omega)
theorem Worded.env {w w' : World} {base g : Nat} {l m : List Bs} {r : Option Nat} (h : Worded w w' base g m r) (hw : WordsAt w base g l r) (he : Env w) (hb : 8 ≤ base) : Env w' :=
  he.only h.2 fun k hk => Nat.le_trans hb (hw.frame k hk)
theorem Worded.blk {w w' : World} {base g b : Nat} {l m : List Bs} {r : Option Nat} {t : TypeId} {cs : Array Value} (h : Worded w w' base g m r) (hw : WordsAt w base g l r) (hb : Blk w b t cs) (h1 : t ≠ 52) (h2 : t ≠ 9) : Blk w' b t cs := by
  obtain ⟨v, k1, k2, k3, _⟩ := hw
  refine hb.only h.2 fun hk => ?_
  rcases hk with rfl | hk
  · exact Blk.ne_ hb k1 h1 rfl
  · exact own_blk_ne k2 hb (Ne.symm h2) (k3.symm.trans hk.symm)
theorem take_one {α : Type} (ns : List α) (k : Nat) (d : α) (h : k < ns.length) : ns.take (k + 1) = ns.take k ++ [ns.getD k d] := by
  rw [List.take_succ_eq_append_getElem h, List.getD_eq_getElem?_getD, List.getElem?_eq_getElem h]
  rfl

set_option maxRecDepth 100000 in
set_option maxHeartbeats 2000000 in
theorem numbers_any (w : World) (base g b : Nat) (l : List Bs) (r : Option Nat) (ns : List Int) (hw : WordsAt w base g l r) (hl : l.length + ns.length ≤ 1000000) (he : Env w) (h8 : 8 ≤ base)
    (hb : Blk w b 3 (ns.map iv).toArray) (hn : ∀ n ∈ ns, InI n) :
    Calls Tryd.prog 21 #[.pointer (some ⟨g, 0, none⟩), .slice (some ⟨b, 0, none⟩) ns.length ns.length] w fun e w' => e = .returned (.tuple #[]) ∧ Worded w w' base g (l ++ ns.map Lib.itoa) r := by
  obtain ⟨n, hlen⟩ : ∃ n, n = ns.length := ⟨_, rfl⟩
  have HL := Lib.hid hlen
  have HW := Lib.hid hw
  have HE := Lib.hid he
  have HB := Lib.hid hb
  have HN := Lib.hid hn
  have h9 : (n : Int) ≤ 1000000 := by omega
  rw [← hlen]
  rw [← hlen] at hl
  clear hw he hb hn hlen
  go_enter Tryd.func21, Tryd.ntmps21
  go_wp2
  go_loopw [8] (fun i wr => ∃ k : Nat, k ≤ n ∧ i = .int .i64 k ∧ Worded w wr base g (l ++ (ns.take k).map Lib.itoa) r) (fun i _ => n - (intOf i).toNat)
  case atStart => exact ⟨0, Nat.zero_le _, rfl, by simpa using Worded.refl HW.out⟩
  case round =>
    obtain ⟨k, hk, rfl, hd⟩ := hrel
    have HD := Lib.hid hd
    clear hd
    by_cases hlt : k < n
    · have hb1 := HD.out.blk HW.out HB.out (by decide) (by decide)
      have hk' : k < ns.length := by rw [← HL.out]; exact hlt
      have c0 : wr.cell? ⟨b, k, none⟩ = some (.int .i64 (ns.getD k 0)) := by
        rw [hb1.cell k]
        simp only [List.getElem?_toArray, List.getElem?_map, List.getD_eq_getElem?_getD]
        rw [List.getElem?_eq_getElem hk']
        rfl
      have hin : InI (ns.getD k 0) := HN.out _ (by rw [List.getD_eq_getElem?_getD, List.getElem?_eq_getElem hk']; exact List.getElem_mem hk')
      have HIN := Lib.hid hin
      have HT := Lib.hid (take_one ns k 0 hk')
      generalize ns.getD k 0 = x at c0 hin HIN HT
      have HI := Lib.hid (fun w' he' => itoa_any w' x HIN.out he')
      have HE1 := Lib.hid (HD.out.env HW.out HE.out h8)
      have hlt' : (k : Int) < (n : Int) := by omega
      clear hb1 hk' hin
      go_wp2_with fail
      go_at_call 36
      refine (HI.out _ HE1.out).mono ?_
      rintro e w2 ⟨rfl, hb2⟩
      have HD2 := Lib.hid (HD.out.below hb2)
      obtain ⟨r', hr1, hr2⟩ := HD2.out.elim
      have HR := Lib.hid hr2
      have HTX := Lib.hid (text_any w2 base g _ r' (Lib.itoa x) hr1 (by simp; omega))
      clear hb2 hr1 hr2 c0
      go_wp2_with fail
      go_at_call 23
      refine HTX.out.mono ?_
      rintro e w3 ⟨rfl, hw3⟩
      have HD3 := Lib.hid (HR.out _ _ hw3)
      clear hw3
      go_wp2
      go_roundw
      case rel => exact ⟨k + 1, by omega, by go_num, by rw [HT.out, List.map_append, ← List.append_assoc]; exact HD3.out⟩
      case measure => simp [intOf]; omega
    · obtain rfl : k = n := by omega
      go_wp2
      go_end0
      refine ⟨rfl, ?_⟩
      have h := HD.out
      rw [HL.out, List.take_of_length_le (Nat.le_refl _)] at h
      exact h
end Go.Proofs.YtjbhkmpabajeoaaDoor
