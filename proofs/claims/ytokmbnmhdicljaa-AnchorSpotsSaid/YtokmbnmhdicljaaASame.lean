/- Same of two lists that are one; a row's element set; a spot put in at its place: plain laws. -/
import Derived.Test.YtokmbnmhdicljaaAInP
import Derived.Test.YtokmbnmhdicljaaAIn
import Derived.Test.YtokmbnmhdicljaaCopyK
namespace Go.Proofs.Ytokmbnmhdicljaa
open Go.RowKit

set_option maxRecDepth 100000 in
set_option maxHeartbeats 2000000 in
theorem rSame_any {w : World} {ao bo : Option Addr} {k c d : Nat} {m : List Sp} (h1 : SAt w (.slice ao k c) m) (h2 : SAt w (.slice bo k d) m) (hk : k ≤ 4096) :
    Calls Try.prog 9 #[.slice ao k c, .slice bo k d] w fun e w' => e = .returned (.bool true) ∧ Below w.heap.size w w' := by
  have HL := Lib.hid h1.len
  have H1 := Lib.hid h1
  have H2 := Lib.hid h2
  clear h1 h2
  go_enter Try.func9, Try.ntmps9
  go_wp2
  go_loopw [5] (fun s wr => ∃ i : Nat, i ≤ k ∧ s = .int .i64 (i : Nat) ∧ Below w.heap.size w wr) (fun s _ => k - (intOf s).toNat)
  case atStart => exact ⟨0, Nat.zero_le _, rfl, Below.refl _ _⟩
  case round =>
    obtain ⟨i, hi, rfl, hbl⟩ := hrel
    have HBL := Lib.hid hbl
    by_cases hlt : i < k
    · have l1 : (i : Int) < (k : Int) := by omega
      obtain ⟨b, off, hao, hb, c0, c1, c2⟩ := (H1.out.below hbl).some3 (i := i) (by rw [← HL.out]; exact hlt)
      obtain ⟨b', off', hbo, hb', d0, d1, d2⟩ := (H2.out.below hbl).some3 (i := i) (by rw [← HL.out]; exact hlt)
      subst hao hbo
      clear hbl
      go_wp2
      go_quiet (fail)
      go_wp2
      go_roundw
      case rel => exact ⟨i + 1, by omega, by go_num, below_drewN HBL.out _⟩
      case measure => (simp [intOf] <;> omega)
    · obtain rfl : i = k := by omega
      clear hlt hbl
      go_wp2
      go_ret
      exact ⟨rfl, HBL.out⟩

theorem rc_set3 (s : Sp) : ∀ (l : List Sp) (i : Nat), i < l.length → (((rc encS l).set (i * 3) (.int .i64 s.1)).set (i * 3 + 1) (.int .i64 s.2.1)).set (i * 3 + 2) (.int .i64 s.2.2) = rc encS (l.set i s)
  | [], i, h => by simp at h
  | a :: l, 0, _ => rfl
  | a :: l, i + 1, h => by
    have ih := rc_set3 s l i (by simpa using h)
    rw [List.set_cons_succ, rc_cons, rc_cons, ← ih]
    rw [show (i + 1) * 3 = i * 3 + 1 + 1 + 1 by omega, show i * 3 + 1 + 1 + 1 + 1 = i * 3 + 1 + 1 + 1 + 1 from rfl]
    simp only [encS, List.cons_append, List.nil_append, List.set_cons_succ]
/-- A spot stored at a place of an own row. -/
theorem row_set3 {w : World} {base g n c i : Nat} {l : List Sp} (h : Row w base (.slice (some ⟨g, 0, none⟩) n c) l) (hn : n = l.length) (hi : i < l.length) (s : Sp) :
    Row (((w.setCell ⟨g, i * 3, none⟩ (.int .i64 s.1)).setCell ⟨g, i * 3 + 1, none⟩ (.int .i64 s.2.1)).setCell ⟨g, i * 3 + 2, none⟩ (.int .i64 s.2.2)) base (.slice (some ⟨g, 0, none⟩) n c) (l.set i s) := by
  subst hn
  have h3 := (((World.ownsRow.stored h (i * 3) (.int .i64 s.1)).1.stored (i * 3 + 1) (.int .i64 s.2.1)).1.stored (i * 3 + 2) (.int .i64 s.2.2)).1
  rw [rc_set3 s l i hi] at h3
  show World.ownsRow _ _ _ _ _ (l.set i s).length _
  rw [List.length_set]
  exact h3

/-! ### put in at its place -/
def putIn (m : List Sp) (i : Nat) (c : Sp) : List Sp := m.take i ++ c :: m.drop i
theorem putIn_set (m : List Sp) (i : Nat) (c : Sp) (hi : i < m.length) : (m.take (i + 1) ++ m.drop i).set i c = putIn m i c := by
  unfold putIn
  rw [List.take_add_one, List.getElem?_eq_getElem hi]
  simp only [Option.toList_some, List.append_assoc, List.singleton_append]
  rw [List.set_append_right _ _ (by simp; omega)]
  simp [Nat.min_eq_left (Nat.le_of_lt hi)]
theorem putIn_end (m : List Sp) (z c : Sp) : (m ++ [z]).set m.length c = putIn m m.length c := by
  unfold putIn
  rw [List.set_append_right _ _ (Nat.le_refl _)]
  simp
theorem mem_putIn {m : List Sp} {i : Nat} {c s : Sp} : s ∈ putIn m i c ↔ s = c ∨ s ∈ m := by
  unfold putIn
  rw [List.mem_append, List.mem_cons]
  have h : s ∈ m ↔ s ∈ m.take i ∨ s ∈ m.drop i := by rw [← List.mem_append, List.take_append_drop]
  rw [h]
  constructor
  · rintro (h | h | h) <;> simp [h]
  · rintro (h | h | h) <;> simp [h]
theorem length_putIn {m : List Sp} {i : Nat} {c : Sp} : (putIn m i c).length = m.length + 1 := by
  have := congrArg List.length (List.take_append_drop i m)
  unfold putIn
  simp only [List.length_append, List.length_cons] at *
  omega
theorem asc_putIn {m : List Sp} {i : Nat} {c : Sp} (h : Asc m) (hi : i ≤ m.length) (hlo : ∀ k, k < i → ltS (nthS m k) c) (hhi : i < m.length → ltS c (nthS m i)) : Asc (putIn m i c) := by
  have htd := List.take_append_drop i m
  have h' := h
  rw [← htd] at h'
  obtain ⟨p1, p2, p3⟩ := List.pairwise_append.1 h'
  have hta : ∀ a ∈ m.take i, ltS a c := fun a ha => by
    obtain ⟨k, hk, rfl⟩ := List.getElem_of_mem ha
    rw [List.length_take] at hk
    have := hlo k (by omega)
    rw [nthS_get (by omega)] at this
    rw [List.getElem_take]
    exact this
  have hdr : ∀ a ∈ m.drop i, ltS c a := fun a ha => by
    obtain ⟨k, hk, rfl⟩ := List.getElem_of_mem ha
    rw [List.length_drop] at hk
    have h1 := hhi (by omega)
    rw [List.getElem_drop]
    rcases Nat.eq_zero_or_pos k with rfl | hp
    · rw [nthS_get (by omega)] at h1
      exact h1
    · have := h.at_ (i := i) (j := i + k) (by omega) (by omega)
      rw [nthS_get (show i + k < m.length by omega)] at this
      exact ltS_trans h1 this
  refine List.pairwise_append.2 ⟨p1, List.pairwise_cons.2 ⟨hdr, p2⟩, fun a ha b hb => ?_⟩
  rcases List.mem_cons.1 hb with rfl | hb
  · exact hta a ha
  · exact p3 a ha b hb
end Go.Proofs.Ytokmbnmhdicljaa
