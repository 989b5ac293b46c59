/- A reader's numbers, places, cells, directions: the walks. -/
import Derived.Test.YtjbhkmpabajeoaaDoorLReader
namespace Go.Proofs.YtjbhkmpabajeoaaDoor
set_option linter.unusedSimpArgs false
set_option linter.unusedVariables false
open Go.RowKit

theorem word_size {w : World} {g : Nat} {s : Bs} {r : List Bs} (h : ReaderAt w g (s :: r)) : s.length ≤ 1024 := by
  obtain ⟨_, _, _, _, _, _, h⟩ := h
  exact h s List.mem_cons_self
theorem Only.more {w w' w'' : World} {g : Nat} (h : Only w w' (fun k => k = g)) (hb : Below w'.heap.size w' w'') : Only w w'' (fun k => k = g) := h.trans' (Only.of_below hb)
theorem Env.reader {w w' : World} {g : Nat} (he : Env w) (h : Only w w' (fun k => k = g)) (hg : 8 ≤ g) : Env w' := he.only h fun k hk => by omega
/-- A word that is no number. -/
theorem num_cases (s : Bs) : (∃ v, Lib.atoiAll s = .ok v ∧ InI v ∧ (numP s = if Lib.itoa v = s then some v else none)) ∨ ((∀ v, Lib.atoiAll s ≠ .ok v) ∧ numP s = none) := by
  unfold numP
  cases h : Lib.atoiAll s
  · exact .inl ⟨_, rfl, Lib.atoiAll_bounds h, rfl⟩
  · exact .inr ⟨fun v h => (by cases h), rfl⟩
  · exact .inr ⟨fun v h => (by cases h), rfl⟩
set_option maxRecDepth 100000 in
set_option maxHeartbeats 2000000 in
theorem number_none (w : World) (g : Nat) (h : ReaderAt w g []) : Calls Tryd.prog 50 #[.pointer (some ⟨g, 0, none⟩)] w fun e w' => e = .panicked wrongP ∧ w = w' := by
  have HW := Lib.hid (word_none w g h)
  unfold wrongP at *
  clear h
  go_enter Tryd.func50, Tryd.ntmps50
  go_wp2_with (go_at_call 30; (with_reducible refine HW.out.mono ?_); rintro e w1 ⟨rfl, rfl⟩)
  exact ⟨rfl, rfl, rfl⟩
set_option maxRecDepth 100000 in
set_option maxHeartbeats 2000000 in
theorem number_some (w : World) (g : Nat) (s : Bs) (r : List Bs) (h : ReaderAt w g (s :: r)) (he : Env w) (hg : 8 ≤ g) : Calls Tryd.prog 50 #[.pointer (some ⟨g, 0, none⟩)] w (Took ((numP s).map fun v => (v, r)) (fun v => .int .i64 v) g w) := by
  have HW := Lib.hid (word_some w g s r h)
  have HS := Lib.hid (word_size h)
  have HE := Lib.hid he
  clear h he
  rcases num_cases s with ⟨v, hv, hin, hP⟩ | ⟨hv, hP⟩
  · have HA := Lib.hid (fun W => atoi_ok W (str s) HS.out hv)
    have HI := Lib.hid (fun W => itoa_any W v hin)
    by_cases hi : Lib.itoa v = s
    · rw [hP, if_pos hi]
      rw [hi] at HI
      clear hv hin hP hi
      go_enter Tryd.func50, Tryd.ntmps50
      go_wp2_with fail
      go_at_call 30
      refine HW.out.mono ?_
      rintro e w1 ⟨rfl, hr, ho⟩
      have HO := Lib.hid ho
      have HR := Lib.hid hr
      have HE1 := Lib.hid (HE.out.reader ho hg)
      clear hr ho
      go_wp2_with fail
      go_at_call 59
      refine (HA.out _).mono ?_
      rintro e w2 ⟨rfl, hb⟩
      have HO2 := Lib.hid (HO.out.more hb)
      have HR2 := Lib.hid (HR.out.below hb)
      have HE2 := Lib.hid (HE1.out.next hb)
      clear hb
      go_wp2_with fail
      go_at_call 36
      refine (HI.out _ HE2.out).mono ?_
      rintro e w3 ⟨rfl, hb⟩
      have HO3 := Lib.hid (HO2.out.more hb)
      have HR3 := Lib.hid (HR2.out.below hb)
      clear hb
      go_wp2
      go_ret
      exact ⟨HO3.out, rfl, HR3.out⟩
    · rw [hP, if_neg hi]
      have hne : (Lib.itoa v == s) = false := by simpa using hi
      generalize Lib.itoa v = d at HI hne
      clear hv hin hP hi
      go_enter Tryd.func50, Tryd.ntmps50
      go_wp2_with fail
      go_at_call 30
      refine HW.out.mono ?_
      rintro e w1 ⟨rfl, hr, ho⟩
      have HO := Lib.hid ho
      have HR := Lib.hid hr
      have HE1 := Lib.hid (HE.out.reader ho hg)
      clear hr ho
      go_wp2_with fail
      go_at_call 59
      refine (HA.out _).mono ?_
      rintro e w2 ⟨rfl, hb⟩
      have HO2 := Lib.hid (HO.out.more hb)
      have HR2 := Lib.hid (HR.out.below hb)
      have HE2 := Lib.hid (HE1.out.next hb)
      clear hb
      go_wp2_with fail
      go_at_call 36
      refine (HI.out _ HE2.out).mono ?_
      rintro e w3 ⟨rfl, hb⟩
      have HO3 := Lib.hid (HO2.out.more hb)
      have HR3 := Lib.hid (HR2.out.below hb)
      clear hb
      go_wp2
      exact ⟨rfl, HO3.out, rfl⟩
  · rw [hP]
    have HA := Lib.hid (fun W he => atoi_no W (str s) HS.out he hv)
    clear hv hP
    go_enter Tryd.func50, Tryd.ntmps50
    go_wp2_with fail
    go_at_call 30
    refine HW.out.mono ?_
    rintro e w1 ⟨rfl, hr, ho⟩
    have HO := Lib.hid ho
    have HR := Lib.hid hr
    have HE1 := Lib.hid (HE.out.reader ho hg)
    clear hr ho
    go_wp2_with fail
    go_at_call 59
    refine (HA.out _ HE1.out).mono ?_
    rintro e w2 ⟨⟨v, t, N, rfl⟩, hb⟩
    have HO2 := Lib.hid (HO.out.more hb)
    have HR2 := Lib.hid (HR.out.below hb)
    have HE2 := Lib.hid (HE1.out.next hb)
    clear hb
    go_wp2
    exact ⟨rfl, HO2.out, rfl⟩
theorem number_any (w : World) (g : Nat) (l : List Bs) (h : ReaderAt w g l) (he : Env w) (hg : 8 ≤ g) : Calls Tryd.prog 50 #[.pointer (some ⟨g, 0, none⟩)] w (Took (takeN l) (fun v => .int .i64 v) g w) := by
  cases l with
  | nil => exact (number_none w g h).mono fun e w' ⟨h1, h2⟩ => by subst h2; exact ⟨Only.refl _ _, h1⟩
  | cons s r => exact number_some w g s r h he hg
end Go.Proofs.YtjbhkmpabajeoaaDoor
