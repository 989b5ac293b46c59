/- Two ticks exchanged: the walk. -/
import Derived.Test.YtlccplpniidjfaaQLess
namespace Go.Proofs.Ytlccplpniidjfaa
open Go.RowKit

theorem Only.set2 {w w' : World} {g d : Nat} (h : Only w w' (QF g (some d))) {p : Addr} (hp : p.block = g ∨ p.block = d) (u : Value) : Only w (w'.setCell p u) (QF g (some d)) :=
  h.setCell (.inl (hp.elim .inl (fun e => .inr (by rw [e])))) u

theorem swapL_cells {l : List Tk} {i k : Nat} (hi : i < l.length) (hk : k < l.length) :
    ((((tcells l).set (i * 2) (.int .i64 (nth l k).1)).set (i * 2 + 1) (.int .i64 (nth l k).2)).set (k * 2) (.int .i64 (nth l i).1)).set (k * 2 + 1) (.int .i64 (nth l i).2) = tcells (swapL l i k) := by
  unfold swapL
  rw [tcells_set _ k _ (by simpa using hk), tcells_set _ i _ hi]

/-- What Swap leaves. -/
def Swapped (w w' : World) (base g d n c : Nat) (f : Nat → Nat) (l : List Tk) (i k : Nat) : Prop :=
  w'.ownsRow base 24 2 (.slice (some ⟨d, 0, none⟩) n c) n (tcells (swapL l i k)) ∧
  QBlk w' g (.slice (some ⟨d, 0, none⟩) n c) (upd (upd f (nth l k).1.toNat (i + 1)) (nth l i).1.toNat (k + 1)) ∧ Only w w' (QF g (some d))

set_option maxRecDepth 100000 in
set_option maxHeartbeats 4000000 in
theorem swap_ne (w : World) (base g d n c : Nat) (f : Nat → Nat) (l : List Tk) (i k : Nat) (hl : l.length = n) (hi : i < n) (hk : k < n) (hne : i < k) (hn : n ≤ 4096)
    (hb : QBlk w g (.slice (some ⟨d, 0, none⟩) n c) f) (ho : w.ownsRow base 24 2 (.slice (some ⟨d, 0, none⟩) n c) n (tcells l))
    (hai : 0 ≤ (nth l i).1 ∧ (nth l i).1 < 4096) (hak : 0 ≤ (nth l k).1 ∧ (nth l k).1 < 4096) :
    Calls Try.prog 83 #[.pointer (some ⟨g, 0, none⟩), .int .i64 i, .int .i64 k] w fun e w' => e = .returned (.tuple #[]) ∧ Swapped w w' base g d n c f l i k := by
  subst hl
  have hgd : g ≠ d := fun e => hb.ne_row ho (by decide) (by rw [e]; rfl)
  have hcells := swapL_cells hi hk
  obtain ⟨c1, c2, f1, f2⟩ := row_at ho hi
  obtain ⟨c3, c4, f3, f4⟩ := row_at ho hk
  have c0 := hb.cell
  have hs1 := (ho.stored (i * 2) (.int .i64 (nth l k).1)).1
  have hs2 := (hs1.stored (i * 2 + 1) (.int .i64 (nth l k).2)).1
  have hs3 := (hs2.stored (k * 2) (.int .i64 (nth l i).1)).1
  have hs4 := (hs3.stored (k * 2 + 1) (.int .i64 (nth l i).2)).1
  rw [hcells] at hs4
  clear hs1 hs2 hs3 hcells
  obtain ⟨ai, hai'⟩ : ∃ a : Nat, (nth l i).1 = a := ⟨(nth l i).1.toNat, by omega⟩
  obtain ⟨ak, hak'⟩ : ∃ a : Nat, (nth l k).1 = a := ⟨(nth l k).1.toNat, by omega⟩
  have HSI := Lib.hid (show nth (swapL l i k) i = nth l k by rw [nth_swap hi hk, if_neg (by omega), if_pos rfl])
  have HSK := Lib.hid (show nth (swapL l i k) k = nth l i by rw [nth_swap hi hk, if_pos rfl])
  unfold Swapped
  rw [hai'] at c1 hs4 hai ⊢
  rw [hak'] at c3 hs4 hak ⊢
  generalize hbi : (nth l i).2 = bi at c2 hs4
  generalize hbk : (nth l k).2 = bk at c4 hs4
  have HAI := Lib.hid hai'
  have HAK := Lib.hid hak'
  clear hbi hbk hai' hak'
  have hi' : (i : Int) < (l.length : Int) := by omega
  have hk' : (k : Int) < (l.length : Int) := by omega
  have HO := Lib.hid ho
  have HB := Lib.hid hb
  clear ho hb
  go_enter Try.func83, Try.ntmps83
  go_wp2
  go_region
  have hb1 := (((((HB.out.far (p := ⟨d, i * 2, none⟩) hgd (.int .i64 (ak : Int))).far (p := ⟨d, i * 2 + 1, none⟩) hgd (.int .i64 bk)).far (p := ⟨d, k * 2, none⟩) hgd (.int .i64 (ai : Int))).far (p := ⟨d, k * 2 + 1, none⟩) hgd (.int .i64 bi))).drew
  have ho1 := (Only.refl w (QF g (some d))).set2 (p := ⟨d, i * 2, none⟩) (.inr rfl) (.int .i64 (ak : Int)) |>.set2 (p := ⟨d, i * 2 + 1, none⟩) (.inr rfl) (.int .i64 bk) |>.set2 (p := ⟨d, k * 2, none⟩) (.inr rfl) (.int .i64 (ai : Int)) |>.set2 (p := ⟨d, k * 2 + 1, none⟩) (.inr rfl) (.int .i64 bi) |>.drew
  have hs5 := hs4.drew
  go_wp2
  clear c0 c1 c2 c3 c4 f1 f2 f3 f4
  generalize World.drew _ = W1 at *
  obtain ⟨c1, -, -, -⟩ := row_at (i := i) (by rw [swapL_length]; exact hs5) (by rw [swapL_length]; exact hi)
  obtain ⟨c3, -, -, -⟩ := row_at (i := k) (by rw [swapL_length]; exact hs5) (by rw [swapL_length]; exact hk)
  rw [HSI.out, HAK.out] at c1
  rw [HSK.out, HAI.out] at c3
  have w1 := hb1.cellW (a := ak) (by omega)
  have w2 := hb1.frozen (1 + ak)
  have q1 : (ak : Int) < 4096 := hak.2
  have q2 : (ai : Int) < 4096 := hai.2
  have HB1 := Lib.hid hb1
  have HO1 := Lib.hid ho1
  have HS5 := Lib.hid hs5
  clear hb1 ho1 hs5 hs4
  go_region
  have hb2 : QBlk (W1.setCell ⟨g, 1 + ak, none⟩ (.int .i64 ((i : Int) + 1))).drew g _ _ := HB1.out.setW (a := ak) (by omega) (i + 1) |>.drew
  have ho2 := HO1.out.set2 (p := ⟨g, 1 + ak, none⟩) (.inl rfl) (.int .i64 ((i : Int) + 1)) |>.drew
  have hs6 := (own_only HS5.out (((Only.refl W1 (fun k => k = g))).setCell (p := ⟨g, 1 + ak, none⟩) (.inl rfl) (.int .i64 ((i : Int) + 1))) (fun q hq e => hgd (by injection hq with hq; exact e.symm.trans hq.symm))).drew
  go_wp2
  clear c1 c3 w1 w2
  generalize World.drew _ = W2 at *
  obtain ⟨c3, -, -, -⟩ := row_at (i := k) (by rw [swapL_length]; exact hs6) (by rw [swapL_length]; exact hk)
  rw [HSK.out, HAI.out] at c3
  have w1 := hb2.cellW (a := ai) (by omega)
  have w2 := hb2.frozen (1 + ai)
  have HB2 := Lib.hid hb2
  have HO2 := Lib.hid ho2
  have HS6 := Lib.hid hs6
  clear hb2 ho2 hs6
  go_region
  have hb3 : QBlk (W2.setCell ⟨g, 1 + ai, none⟩ (.int .i64 ((k : Int) + 1))).drew g _ _ := HB2.out.setW (a := ai) (by omega) (k + 1) |>.drew
  have ho3 := HO2.out.set2 (p := ⟨g, 1 + ai, none⟩) (.inl rfl) (.int .i64 ((k : Int) + 1)) |>.drew
  have hs7 := (own_only HS6.out (((Only.refl W2 (fun k => k = g))).setCell (p := ⟨g, 1 + ai, none⟩) (.inl rfl) (.int .i64 ((k : Int) + 1))) (fun q hq e => hgd (by injection hq with hq; exact e.symm.trans hq.symm))).drew
  go_wp2
  go_end0
  exact ⟨rfl, hs7, hb3, ho3⟩

theorem list_set_self {α : Type} (l : List α) (i : Nat) (x : α) (h : l[i]? = some x) : l.set i x = l := by
  apply List.ext_getElem?
  intro j
  rw [List.getElem?_set]
  split
  · rename_i e
    subst e
    split
    · exact h.symm
    · rename_i hn
      rw [List.getElem?_eq_none (by omega)] at h
      cases h
  · rfl
theorem swapL_self (l : List Tk) (i : Nat) (h : i < l.length) : swapL l i i = l := by
  unfold swapL
  have e : l.set i (nth l i) = l := list_set_self l i _ (by rw [nth_get h, List.getElem?_eq_getElem h])
  rw [e, e]

set_option maxRecDepth 100000 in
set_option maxHeartbeats 4000000 in
theorem swap_eq (w : World) (base g d n c : Nat) (f : Nat → Nat) (l : List Tk) (i : Nat) (hl : l.length = n) (hi : i < n) (hn : n ≤ 4096)
    (hb : QBlk w g (.slice (some ⟨d, 0, none⟩) n c) f) (ho : w.ownsRow base 24 2 (.slice (some ⟨d, 0, none⟩) n c) n (tcells l))
    (hai : 0 ≤ (nth l i).1 ∧ (nth l i).1 < 4096) :
    Calls Try.prog 83 #[.pointer (some ⟨g, 0, none⟩), .int .i64 i, .int .i64 i] w fun e w' => e = .returned (.tuple #[]) ∧ Swapped w w' base g d n c f l i i := by
  subst hl
  have hgd : g ≠ d := fun e => hb.ne_row ho (by decide) (by rw [e]; rfl)
  obtain ⟨c1, c2, f1, f2⟩ := row_at ho hi
  have c0 := hb.cell
  have ht := tcells_at l i hi
  have hs1 := (ho.stored (i * 2) (.int .i64 (nth l i).1)).1
  rw [list_set_self _ _ _ ht.1] at hs1
  have hs2 := (hs1.stored (i * 2 + 1) (.int .i64 (nth l i).2)).1
  rw [list_set_self _ _ _ ht.2] at hs2
  have hs3 := (hs2.stored (i * 2) (.int .i64 (nth l i).1)).1
  rw [list_set_self _ _ _ ht.1] at hs3
  have hs4 := (hs3.stored (i * 2 + 1) (.int .i64 (nth l i).2)).1
  rw [list_set_self _ _ _ ht.2] at hs4
  clear hs1 hs2 hs3 ht
  unfold Swapped
  rw [swapL_self l i hi]
  obtain ⟨ai, hai'⟩ : ∃ a : Nat, (nth l i).1 = a := ⟨(nth l i).1.toNat, by omega⟩
  rw [hai'] at c1 hs4 hai ⊢
  generalize hbi : (nth l i).2 = bi at c2 hs4
  have HAI := Lib.hid hai'
  clear hbi hai'
  have hi' : (i : Int) < (l.length : Int) := by omega
  have HO := Lib.hid ho
  have HB := Lib.hid hb
  clear ho hb
  go_enter Try.func83, Try.ntmps83
  go_wp2
  go_region
  have hb1 := (((((HB.out.far (p := ⟨d, i * 2, none⟩) hgd (.int .i64 (ai : Int))).far (p := ⟨d, i * 2 + 1, none⟩) hgd (.int .i64 bi)).far (p := ⟨d, i * 2, none⟩) hgd (.int .i64 (ai : Int))).far (p := ⟨d, i * 2 + 1, none⟩) hgd (.int .i64 bi))).drew
  have ho1 := (Only.refl w (QF g (some d))).set2 (p := ⟨d, i * 2, none⟩) (.inr rfl) (.int .i64 (ai : Int)) |>.set2 (p := ⟨d, i * 2 + 1, none⟩) (.inr rfl) (.int .i64 bi) |>.set2 (p := ⟨d, i * 2, none⟩) (.inr rfl) (.int .i64 (ai : Int)) |>.set2 (p := ⟨d, i * 2 + 1, none⟩) (.inr rfl) (.int .i64 bi) |>.drew
  have hs5 := hs4.drew
  go_wp2
  clear c0 c1 c2 f1 f2
  generalize World.drew _ = W1 at *
  obtain ⟨c1, -, -, -⟩ := row_at (i := i) hs5 hi
  rw [HAI.out] at c1
  have w1 := hb1.cellW (a := ai) (by omega)
  have w2 := hb1.frozen (1 + ai)
  have q1 : (ai : Int) < 4096 := hai.2
  have HB1 := Lib.hid hb1
  have HO1 := Lib.hid ho1
  have HS5 := Lib.hid hs5
  clear hb1 ho1 hs5 hs4
  go_region
  have hb2 : QBlk (W1.setCell ⟨g, 1 + ai, none⟩ (.int .i64 ((i : Int) + 1))).drew g _ _ := HB1.out.setW (a := ai) (by omega) (i + 1) |>.drew
  have ho2 := HO1.out.set2 (p := ⟨g, 1 + ai, none⟩) (.inl rfl) (.int .i64 ((i : Int) + 1)) |>.drew
  have hs6 := (own_only HS5.out (((Only.refl W1 (fun k => k = g))).setCell (p := ⟨g, 1 + ai, none⟩) (.inl rfl) (.int .i64 ((i : Int) + 1))) (fun q hq e => hgd (by injection hq with hq; exact e.symm.trans hq.symm))).drew
  go_wp2
  clear c1 w1 w2
  generalize World.drew _ = W2 at *
  obtain ⟨c3, -, -, -⟩ := row_at (i := i) hs6 hi
  rw [HAI.out] at c3
  have w1 := hb2.cellW (a := ai) (by omega)
  have w2 := hb2.frozen (1 + ai)
  have HB2 := Lib.hid hb2
  have HO2 := Lib.hid ho2
  have HS6 := Lib.hid hs6
  clear hb2 ho2 hs6
  go_region
  have hb3 : QBlk (W2.setCell ⟨g, 1 + ai, none⟩ (.int .i64 ((i : Int) + 1))).drew g _ _ := HB2.out.setW (a := ai) (by omega) (i + 1) |>.drew
  have ho3 := HO2.out.set2 (p := ⟨g, 1 + ai, none⟩) (.inl rfl) (.int .i64 ((i : Int) + 1)) |>.drew
  have hs7 := (own_only HS6.out (((Only.refl W2 (fun k => k = g))).setCell (p := ⟨g, 1 + ai, none⟩) (.inl rfl) (.int .i64 ((i : Int) + 1))) (fun q hq e => hgd (by injection hq with hq; exact e.symm.trans hq.symm))).drew
  go_wp2
  go_end0
  exact ⟨rfl, hs7, hb3, ho3⟩
end Go.Proofs.Ytlccplpniidjfaa
