/- A word, and numbers, put behind words: the walks. -/
import Derived.Test.YtjbhkmpabajeoaaDoorLMem
namespace Go.Proofs.YtjbhkmpabajeoaaDoor
set_option linter.unusedSimpArgs false
set_option linter.unusedVariables false
open Go.RowKit

abbrev sv (l : Bs) : Value := .string (str l)
/-- Words behind a pointer to a variable of their own (block g); r: their row's block. -/
def WordsAt (w : World) (base g : Nat) (l : List Bs) (r : Option Nat) : Prop :=
  ∃ v, Blk w g 52 #[v] ∧ w.ownsRow base 9 1 v l.length (l.map sv) ∧ r = v.ownBlock ∧ base ≤ g
theorem infoStr : (Tryd.prog.info? 9).map (fun i => (i.zero, i.size, i.bytes)) = some (some (.string ByteArray.empty), 1, 16) := by kernel_rfl
section
variable {w w' : World} {base g : Nat} {l : List Bs} {r : Option Nat} {S : Nat → Prop}
theorem WordsAt.only (h : WordsAt w base g l r) (ho : Only w w' S) (hg : ¬ S g) (hr : ∀ k, r = some k → ¬ S k) : WordsAt w' base g l r := by
  obtain ⟨v, h1, h2, h3, h4⟩ := h
  exact ⟨v, h1.only ho hg, own_only h2 ho (fun k hk => hr k (h3.trans hk)), h3, h4⟩
theorem WordsAt.below (h : WordsAt w base g l r) (hb : Below w.heap.size w w') : WordsAt w' base g l r :=
  h.only (Only.of_below (S := fun _ => False) hb) (fun h => h) (fun _ _ h => h)
theorem WordsAt.alloc (h : WordsAt w base g l r) (o : Obj) : WordsAt (w.alloc o) base g l r := h.below ((Below.refl _ _).alloc (Nat.le_refl _) o)
theorem WordsAt.drew (h : WordsAt w base g l r) : WordsAt w.drew base g l r := h
theorem WordsAt.lt (h : WordsAt w base g l r) : g < w.heap.size := by obtain ⟨v, h, _⟩ := h; exact h.lt
theorem WordsAt.low (h : WordsAt w base g l r) : base ≤ g := by obtain ⟨v, _, _, _, h⟩ := h; exact h
theorem WordsAt.row (h : WordsAt w base g l r) : ∀ k, r = some k → base ≤ k ∧ k < w.heap.size ∧ k ≠ g := by
  obtain ⟨v, h1, h2, h3, _⟩ := h
  intro k hk
  have hv : v.ownBlock = some k := h3.symm.trans hk
  refine ⟨(h2.lt k hv).1, (h2.lt k hv).2, fun e => ?_⟩
  subst e
  exact own_blk_ne h2 h1 (by decide) hv
theorem WordsAt.frame (h : WordsAt w base g l r) : ∀ k, QF g r k → base ≤ k := by
  intro k hk
  rcases hk with rfl | hk
  · exact h.low
  · exact (h.row k hk.symm).1
end
/-- Words, one more: what is left. -/
def Worded (w w' : World) (base g : Nat) (l : List Bs) (r : Option Nat) : Prop :=
  (∃ r', WordsAt w' base g l r' ∧ (r' = r ∨ ∃ k, r' = some k ∧ w.heap.size ≤ k)) ∧ Only w w' (QF g r)
theorem Worded.trans {w w' w'' : World} {base g : Nat} {l m : List Bs} {r : Option Nat} (h : Worded w w' base g l r) (k : ∀ r', WordsAt w' base g l r' → Worded w' w'' base g m r') : Worded w w'' base g m r := by
  obtain ⟨⟨r', h1, h2⟩, h3⟩ := h
  obtain ⟨⟨r'', k1, k2⟩, k3⟩ := k r' h1
  refine ⟨⟨r'', k1, ?_⟩, h3.trans k3 fun i hi => ?_⟩
  · rcases k2 with rfl | ⟨j, rfl, hj⟩
    · exact h2
    · exact .inr ⟨j, rfl, Nat.le_trans h3.size hj⟩
  · rcases hi with rfl | hi
    · exact .inl (.inl rfl)
    · rcases h2 with rfl | ⟨j, rfl, hj⟩
      · exact .inl (.inr hi)
      · injection hi with hi
        exact .inr (by omega)

set_option maxRecDepth 100000 in
set_option maxHeartbeats 1000000 in
theorem text_any (w : World) (base g : Nat) (l : List Bs) (r : Option Nat) (s : Bs) (h : WordsAt w base g l r) (hl : l.length ≤ 1000000) :
    Calls Tryd.prog 23 #[.pointer (some ⟨g, 0, none⟩), .string (str s)] w fun e w' => e = .returned (.tuple #[]) ∧ Worded w w' base g (l ++ [s]) r := by
  obtain ⟨v, h1, h2, h3, h4⟩ := h
  obtain ⟨i0, hi, hz0, hz1, hz2⟩ := info_parts infoStr
  have c0 := h1.cell 0
  have f0 := h1.frozen 0
  simp only [List.getElem?_toArray, List.getElem?_cons_zero] at c0
  have hg := h1.lt
  have HB := Lib.hid h1
  have HO := Lib.hid h2
  have HN := Lib.hid (own_blk_ne h2 h1 (by decide))
  have HR := Lib.hid h3
  have HG := Lib.hid (Nat.le_trans h4 (Nat.le_of_lt hg))
  clear h1 h2 h3
  go_enter Tryd.func23, Tryd.ntmps23
  go_wp2_with (at_builtin; refine wpList_append_any _ rfl _ _ 52 rfl base 9 i0 (.string ByteArray.empty) 1 16 Tryd.underlying52 hi hz0 hz1 hz2 rfl (by decide) v l.length _ rfl (HO.out.alloc _) (w.heap.size + 1) _ 1 1 [sv s] rfl ?c1 ?c2 ?c3 ?c4 ?c5 ?_)
  case c1 =>
    refine ⟨rfl, fun _ => ⟨_, rfl, Nat.lt_succ_self _, fun j u hu => ?_⟩⟩
    match j, hu with
    | 0, hu => simp at hu; subst hu; simp [Addr.add]
  case c2 => intro u hu; simp at hu; subst hu; rfl
  case c3 => unfold maxLen; omega
  case c4 => omega
  case c5 => have := HG.out; simp; omega
  intro v' w' k1 k2 k3
  obtain ⟨d, c, rfl, _, _⟩ := k1.form (Nat.succ_pos _)
  have K1 := Lib.hid k1
  have K2 := Lib.hid k2
  have K3 := Lib.hid k3
  have b1 := (HB.out.alloc (.cells #[sv s] 9)).grown k2 (fun e => HN.out e.symm)
  have f1 := b1.frozen 0
  have q1 : w'.cell? ⟨g, 0, none⟩ = some v := b1.cell 0
  have B1 := Lib.hid b1
  clear b1 k1 k2 k3
  go_wp2
  go_end0
  refine ⟨rfl, ⟨some d, ⟨.slice (some ⟨d, 0, none⟩) (l.length + 1) c, ?_, ?_, rfl, h4⟩, ?_⟩, ?_⟩
  · exact B1.out.set_ 0 _
  · rw [List.length_append, List.map_append]
    refine own_only K1.out (((Only.refl w' (fun k => k = g))).setCell (p := ⟨g, 0, none⟩) (.inl rfl) _) (fun k hk e => ?_)
    subst e
    exact own_blk_ne K1.out B1.out (by decide) hk
  · rcases K3.out with e | e
    · exact .inl (e.trans HR.out.symm)
    · exact .inr ⟨_, e, by simp⟩
  · refine Only.setCell ?_ (.inl (.inl rfl)) _
    exact ((Only.refl w _).alloc _).grown K2.out (fun k hk => .inl (.inr (by rw [HR.out, hk])))
end Go.Proofs.YtjbhkmpabajeoaaDoor
