/- A reader takes words, one behind the other: the walks. -/
import Derived.Test.YtjbhkmpabajeoaaDoorLFPut2
namespace Go.Proofs.YtjbhkmpabajeoaaDoor
set_option linter.unusedSimpArgs false
set_option linter.unusedVariables false
open Go.RowKit

/-- A reader at block g that holds the words l. -/
def ReaderAt (w : World) (g : Nat) (l : List Bs) : Prop :=
  ∃ (A : Option Addr) (c : Nat), Blk w g 60 #[.slice A l.length c] ∧ l.length ≤ c ∧ c ≤ 1000000 ∧ Reads w g 1 A l.length (l.map sv) ∧ ∀ s ∈ l, s.length ≤ 1024
def wrongP : List PanicEntry := [{ v := .iface 84 (.agg #[]), recovered := false }]
/-- How a reader's call ends: a value and what is left, or a panic; nothing but the reader has turned. -/
def Took {α : Type} (res : Option (α × List Bs)) (val : α → Value) (g : Nat) (w : World) (e : Ending) (w' : World) : Prop :=
  Only w w' (fun k => k = g) ∧ match res with | some x => e = .returned (val x.1) ∧ ReaderAt w' g x.2 | none => e = .panicked wrongP
section
variable {w w' : World} {g : Nat} {l : List Bs}
theorem ReaderAt.lt (h : ReaderAt w g l) : g < w.heap.size := by obtain ⟨_, _, h, _⟩ := h; exact h.lt
theorem ReaderAt.below (h : ReaderAt w g l) (hb : Below w.heap.size w w') : ReaderAt w' g l := by
  have hl := h.lt
  obtain ⟨A, c, h1, h2, h3, h4, h5⟩ := h
  exact ⟨A, c, h1.below hb hl, h2, h3, h4.below (hb.mono (Nat.le_of_lt hl)), h5⟩
theorem ReaderAt.alloc (h : ReaderAt w g l) (o : Obj) : ReaderAt (w.alloc o) g l := h.below ((Below.refl _ _).alloc (Nat.le_refl _) o)
end
theorem only_set (w : World) (g i : Nat) (v : Value) : Only w (w.setCell ⟨g, i, none⟩ v) (fun k => k = g) := (Only.refl w (fun k => k = g)).setCell (p := ⟨g, i, none⟩) (.inl rfl) v
theorem Reads_nil (w : World) (B : Nat) (A : Option Addr) : Reads w B 1 A 0 [] := ⟨by simp, fun h => absurd h (Nat.lt_irrefl _)⟩
set_option maxRecDepth 100000 in
set_option maxHeartbeats 1000000 in
theorem word_none (w : World) (g : Nat) (h : ReaderAt w g []) : Calls Tryd.prog 30 #[.pointer (some ⟨g, 0, none⟩)] w fun e w' => e = .panicked wrongP ∧ w = w' := by
  obtain ⟨A, c, h1, h2, h3, h4, h5⟩ := h
  have c0 : w.cell? ⟨g, 0, none⟩ = some (.slice A 0 c) := h1.cell 0
  go_enter Tryd.func30, Tryd.ntmps30
  go_wp2
  exact ⟨rfl, rfl, rfl⟩
set_option maxRecDepth 100000 in
set_option maxHeartbeats 1000000 in
theorem word_some (w : World) (g : Nat) (s : Bs) (r : List Bs) (h : ReaderAt w g (s :: r)) : Calls Tryd.prog 30 #[.pointer (some ⟨g, 0, none⟩)] w fun e w' => e = .returned (.string (str s)) ∧ ReaderAt w' g r ∧ Only w w' (fun k => k = g) := by
  obtain ⟨A, c, h1, h2, h3, h4, h5⟩ := h
  obtain ⟨n, hn⟩ : ∃ n, n = (s :: r).length := ⟨_, rfl⟩
  have hn1 : 1 ≤ n := by rw [hn]; simp
  obtain ⟨ad, u, rfl, hab, hu, hc⟩ := h4.at_ (k := 0) (by rw [← hn]; omega)
  have hu' : u = sv s := by simpa using hu.symm
  subst hu'
  rw [← hn] at h1 h2 h4
  have c0 : w.cell? ⟨g, 0, none⟩ = some (.slice (some ad) n c) := h1.cell 0
  have f0 := h1.frozen 0
  have hcut := h4.cut (k := 1) hn1 h2
  have H1 := Lib.hid h1
  have HC := Lib.hid hcut
  have HN := Lib.hid hn
  have g1 : (n : Int) ≤ (c : Int) := by omega
  have g2 : (c : Int) ≤ 1000000 := by omega
  have g3 : (0 : Int) < (n : Int) := by omega
  have g4 : (1 : Int) ≤ (n : Int) := by omega
  have g5 : ((n : Int) == 0) = false := by simp; omega
  have hc' : w.cell? ad = some (.string (str s)) := by simpa [Addr.add] using hc
  clear h1 h4 hcut hn hc hu
  by_cases hcap : c = 1
  · go_enter Tryd.func30, Tryd.ntmps30
    go_wp2
    go_ret
    have hr : r = [] := by
      have := HN.out
      simp at this
      exact List.length_eq_zero_iff.1 (by omega)
    subst hr
    refine ⟨rfl, ⟨some ad, 0, ?_, Nat.le_refl _, by omega, Reads_nil _ _ _, fun s hs => by cases hs⟩, only_set w g 0 _⟩
    have hn1' : n - 1 = 0 := by omega
    rw [hn1']
    exact H1.out.set_ 0 _
  · go_enter Tryd.func30, Tryd.ntmps30
    go_wp2
    go_ret
    have hl : r.length = n - 1 := by have := HN.out; simp at this; omega
    have hc2 := HC.out
    rw [if_neg hcap] at hc2
    refine ⟨rfl, ⟨some (ad.add 1), c - 1, ?_, by omega, by omega, ?_, fun s' hs => h5 s' (List.mem_cons_of_mem _ hs)⟩, only_set w g 0 _⟩
    · rw [hl]
      exact H1.out.set_ 0 _
    · rw [hl]
      have h := hc2.setCell (p := ⟨g, 0, none⟩) (Nat.le_refl _) (.slice (some ⟨ad.block, ad.off + 1, none⟩) (n - 1) (c - 1))
      simpa using h
end Go.Proofs.YtjbhkmpabajeoaaDoor
