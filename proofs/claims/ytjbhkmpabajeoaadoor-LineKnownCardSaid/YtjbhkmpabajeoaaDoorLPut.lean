/- An operation's line: the walk. -/
import Derived.Test.YtjbhkmpabajeoaaDoorLEq
import Derived.Lib.OthersKept
import Derived.Deep.RegionWith
namespace Go.Proofs.YtjbhkmpabajeoaaDoor
set_option linter.unusedSimpArgs false
set_option linter.unusedVariables false
open Go.RowKit

theorem WordsAt.setCell {w : World} {base g : Nat} {l : List Bs} {r : Option Nat} (h : WordsAt w base g l r) {p : Addr} (hp : g ≠ p.block) (hr : r ≠ some p.block) (v : Value) : WordsAt (w.setCell p v) base g l r :=
  h.only ((Only.refl w (fun k => k = p.block)).setCell (.inl rfl) v) hp (fun k hk e => hr (by rw [hk, e]))
theorem WordsAt.iter {w : World} {base g : Nat} {l : List Bs} {r : Option Nat} (h : WordsAt w base g l r) {b : Nat} {s : ByteArray} {p : Nat} (hb : w.heap[b]? = some (.stringIter s p)) (q : Nat) : WordsAt (w.iterAt b s q) base g l r := by
  obtain ⟨v, h1, h2, h3, h4⟩ := h
  have hne : ∀ k, v.ownBlock = some k → k ≠ b := by
    intro k hk e
    subst e
    rcases h2.2 with ⟨h, _⟩ | ⟨g', cap, cur, h, _, hg, _⟩
    · rw [h] at hk; simp [Value.ownBlock] at hk
    · rw [h] at hk
      have : g' = k := by simpa [Value.ownBlock] using hk
      subst this
      rw [hb] at hg
      cases hg
  have hg : g ≠ b := by
    rintro rfl
    unfold Blk at h1
    rw [hb] at h1
    cases h1
  have ho : Only w (w.iterAt b s q) (fun k => k = b) := ⟨rfl, rfl, rfl, by rw [Lib.iterAt_size]; exact Nat.le_refl _, fun k _ hk => Lib.iterAt_other w b k s q hk⟩
  exact WordsAt.only ⟨v, h1, h2, h3, h4⟩ ho hg (fun k hk => hne k (h3.symm.trans hk))
theorem Blk.iter {w : World} {g : Nat} {t : TypeId} {cs : Array Value} (h : Blk w g t cs) {b : Nat} {s : ByteArray} {p : Nat} (hb : w.heap[b]? = some (.stringIter s p)) (q : Nat) : Blk (w.iterAt b s q) g t cs := by
  have hg : g ≠ b := by
    rintro rfl
    unfold Blk at h
    rw [hb] at h
    cases h
  exact (Lib.iterAt_other w b g s q hg).trans h
theorem WordsAt.ne_ {w : World} {base g b : Nat} {l : List Bs} {r : Option Nat} {t : TypeId} {cs : Array Value} (h : WordsAt w base g l r) (hb : Blk w b t cs) (h1 : t ≠ 52) (h2 : t ≠ 9) : g ≠ b ∧ r ≠ some b := by
  obtain ⟨v, k1, k2, k3, _⟩ := h
  exact ⟨Blk.ne_ k1 hb (Ne.symm h1), fun e => own_blk_ne k2 hb (Ne.symm h2) (k3.symm.trans e)⟩
theorem Blk.op {w : World} {g : Nat} {o : OpR} (h : Blk w g 27 (opC o)) :
    (w.cell? ⟨g, 0, none⟩ = some (.int .i64 o.k) ∧ w.cell? ⟨g, 1, none⟩ = some (.int .i64 o.a1) ∧ w.cell? ⟨g, 2, none⟩ = some (.int .i64 o.a2) ∧ w.cell? ⟨g, 3, none⟩ = some (.int .i64 o.a3) ∧ w.cell? ⟨g, 4, none⟩ = some (.int .i64 o.b1) ∧
      w.cell? ⟨g, 5, none⟩ = some (.int .i64 o.b2) ∧ w.cell? ⟨g, 6, none⟩ = some (.int .i64 o.b3) ∧ w.cell? ⟨g, 7, none⟩ = some (.int .u8 o.c1) ∧ w.cell? ⟨g, 8, none⟩ = some (.int .u8 o.c2) ∧ w.cell? ⟨g, 9, none⟩ = some (.int .i64 o.n)) ∧
    (w.frozen? ⟨g, 0, none⟩ = false ∧ w.frozen? ⟨g, 1, none⟩ = false ∧ w.frozen? ⟨g, 2, none⟩ = false ∧ w.frozen? ⟨g, 3, none⟩ = false ∧ w.frozen? ⟨g, 4, none⟩ = false ∧ w.frozen? ⟨g, 5, none⟩ = false ∧ w.frozen? ⟨g, 6, none⟩ = false ∧ w.frozen? ⟨g, 7, none⟩ = false ∧ w.frozen? ⟨g, 8, none⟩ = false ∧ w.frozen? ⟨g, 9, none⟩ = false) :=
  ⟨⟨h.cell 0, h.cell 1, h.cell 2, h.cell 3, h.cell 4, h.cell 5, h.cell 6, h.cell 7, h.cell 8, h.cell 9⟩, h.frozen 0, h.frozen 1, h.frozen 2, h.frozen 3, h.frozen 4, h.frozen 5, h.frozen 6, h.frozen 7, h.frozen 8, h.frozen 9⟩
/-- What Put's loop holds ahead of part k. -/
def PutAt (w wr : World) (o : OpR) (word ps : Bs) (B k : Nat) : Prop :=
  ∃ l r, partsW o (ps.take k) = some l ∧ Blk wr B 27 (opC o) ∧ WordsAt wr B (B + 1 + 1) (word :: l) r ∧ Blk wr (B + 1 + 1 + 1) 27 (opC (usedAll o (ps.take k))) ∧ wr.heap[B + 1 + 1 + 1 + 1]? = some (.stringIter (str ps) k) ∧ Below B w wr
/-- The same, with the cells of what is used as they stand. -/
structure PutMid (w W : World) (o : OpR) (word ps : Bs) (B k : Nat) (l : List Bs) (r : Option Nat) (cs : Array Value) : Prop where
  op : Blk W B 27 (opC o)
  words : WordsAt W B (B + 1 + 1) (word :: l) r
  used : Blk W (B + 1 + 1 + 1) 27 cs
  iter : W.heap[B + 1 + 1 + 1 + 1]? = some (.stringIter (str ps) k)
  below : Below B w W
section
variable {w W W' : World} {o : OpR} {word ps : Bs} {B k : Nat} {l : List Bs} {r : Option Nat} {cs : Array Value}
theorem PutMid.set (h : PutMid w W o word ps B k l r cs) (i : Nat) (v : Value) : PutMid w (W.setCell ⟨B + 1 + 1 + 1, i, none⟩ v) o word ps B k l r (cs.setIfInBounds i v) := by
  obtain ⟨h1, h2⟩ := h.words.ne_ h.used (by decide) (by decide)
  exact ⟨h.op.far (by simp; omega) _, h.words.setCell (by simp) h2 _, h.used.set_ i v, (Below.heap_setCell W _ v _ (by simp)).trans h.iter, h.below.setCell (by simp; omega) _⟩
theorem PutMid.under (h : PutMid w W o word ps B k l r cs) (hb : Below W.heap.size W W') : PutMid w W' o word ps B k l r cs :=
  ⟨h.op.below hb h.op.lt, h.words.below hb, h.used.below hb h.used.lt, (hb.block _ (Array.getElem?_eq_some_iff.1 h.iter).1).trans h.iter, h.below.trans (hb.mono (Nat.le_trans (Nat.le_of_lt h.op.lt) (Nat.le_refl _)))⟩
theorem PutMid.alloc (h : PutMid w W o word ps B k l r cs) (x : Obj) : PutMid w (W.alloc x) o word ps B k l r cs := h.under ((Below.refl _ _).alloc (Nat.le_refl _) x)
theorem PutMid.worded (h : PutMid w W o word ps B k l r cs) {m : List Bs} (hw : Worded W W' B (B + 1 + 1) (word :: m) r) : ∃ r', PutMid w W' o word ps B k m r' cs := by
  obtain ⟨⟨r', h1, h2⟩, h3⟩ := hw
  have hit : ∀ x, x = B + 1 + 1 + 1 + 1 → ¬ QF (B + 1 + 1) r x := by
    rintro x rfl hx
    rcases hx with hx | hx
    · omega
    · obtain ⟨v, _, k2, k3, _⟩ := h.words
      have hv : v.ownBlock = some (B + 1 + 1 + 1 + 1) := k3.symm.trans hx.symm
      rcases k2.2 with ⟨q, _⟩ | ⟨g', cap, cur, q, _, hg, _⟩
      · rw [q] at hv; simp [Value.ownBlock] at hv
      · rw [q] at hv
        have : g' = B + 1 + 1 + 1 + 1 := by simpa [Value.ownBlock] using hv
        subst this
        have := h.iter
        rw [hg] at this
        cases this
  have hw : Worded W W' B (B + 1 + 1) (word :: m) r := ⟨⟨r', h1, h2⟩, h3⟩
  exact ⟨r', hw.blk h.words h.op (by decide) (by decide), h1, hw.blk h.words h.used (by decide) (by decide), (h3.block _ (Array.getElem?_eq_some_iff.1 h.iter).1 (hit _ rfl)).trans h.iter,
    h.below.trans (h3.below (fun x hx => h.words.frame x hx) (Nat.le_of_lt h.op.lt))⟩
theorem PutMid.env (h : PutMid w W o word ps B k l r cs) (he : Env w) (hB : B = w.heap.size) : Env W := by subst hB; exact he.next h.below
theorem PutMid.drew (h : PutMid w W o word ps B k l r cs) : PutMid w W.drew o word ps B k l r cs := ⟨h.op, h.words, h.used, h.iter, h.below.drew⟩
theorem dirCells_at : ∀ j : Fin 6, dirCells[j.val]? = some (sv (dirs.getD j.val []))
  | 0 => rfl | 1 => rfl | 2 => rfl | 3 => rfl | 4 => rfl | 5 => rfl
/-- The numbers of a part. -/
theorem PutMid.numbers (h : PutMid w W o word ps B k l r cs) (he : Env w) (hB : B = w.heap.size) (ns : List Int) (hl : l.length + ns.length ≤ 1000) (hn : ∀ n ∈ ns, InI n) {b n : Nat} (hb : b = W.heap.size) (hlen : n = ns.length) :
    Calls Tryd.prog 21 #[.pointer (some ⟨B + 1 + 1, 0, none⟩), .slice (some ⟨b, 0, none⟩) n n] (W.alloc (.cells (ns.map iv).toArray 3)) fun e w' => e = .returned (.tuple #[]) ∧ ∃ r', PutMid w w' o word ps B k (l ++ ns.map Lib.itoa) r' cs := by
  subst hb hlen
  have h1 := h.alloc (.cells (ns.map iv).toArray 3)
  refine (numbers_any _ B (B + 1 + 1) W.heap.size (word :: l) r ns h1.words (by simp; omega) (h1.env he hB) (by rw [hB]; exact he.size) (Blk.new _ _ _) hn).mono fun e w' ⟨h2, h3⟩ => ⟨h2, ?_⟩
  exact h1.worded h3
theorem PutMid.text (h : PutMid w W o word ps B k l r cs) (s : Bs) (hl : l.length ≤ 1000) :
    Calls Tryd.prog 23 #[.pointer (some ⟨B + 1 + 1, 0, none⟩), .string (str s)] W fun e w' => e = .returned (.tuple #[]) ∧ ∃ r', PutMid w w' o word ps B k (l ++ [s]) r' cs :=
  (text_any W B (B + 1 + 1) (word :: l) r s h.words (by simp; omega)).mono fun e w' ⟨h2, h3⟩ => ⟨h2, h.worded h3⟩
end
theorem partsW_len {o : OpR} {ps : Bs} {l : List Bs} (h : partsW o ps = some l) (hp : ps.length ≤ 3) : l.length ≤ 9 := by
  rw [parts_count ps l h]
  have : ∀ q : UInt8, partN q ≤ 3 := fun q => by unfold partN; split <;> (try split) <;> omega
  match ps, hp with
  | [], _ => simp
  | [a], _ => simp; have := this a; omega
  | [a, b], _ => simp; have h1 := this a; have h2 := this b; omega
  | [a, b, c], _ => simp; have h1 := this a; have h2 := this b; have h3 := this c; omega
theorem partsW_none {o : OpR} {ps : Bs} {k : Nat} {p : UInt8} (h : ps.take (k + 1) = ps.take k ++ [p]) (hp : partWords o p = none) : partsW o ps = none := by
  have e : ps = (ps.take k ++ [p]) ++ ps.drop (k + 1) := by rw [← h, List.take_append_drop]
  have hn : ∀ (a b : Bs), partsW o a = none → partsW o (a ++ b) = none := by
    intro a
    induction a with
    | nil => intro b h; cases h
    | cons q a ih =>
      intro b h
      simp only [partsW, List.cons_append] at h ⊢
      cases hq : partWords o q with
      | none => rfl
      | some x =>
        rw [hq] at h
        simp only [Option.bind_some, Option.map_eq_none_iff] at h ⊢
        rw [ih b h]
  rw [e]
  refine hn _ _ ?_
  rw [partsW_snoc, hp]
  cases partsW o (ps.take k) <;> rfl
theorem used_ok {o u : OpR} (ho : o.Ok) (hu : u.Ok) (p : UInt8) : (used o u p).Ok := by
  unfold used
  split
  · exact ⟨hu.k, ho.a1, ho.a2, ho.a3, hu.b1, hu.b2, hu.b3, hu.c1, hu.c2, hu.n⟩
  split
  · exact ⟨hu.k, hu.a1, hu.a2, hu.a3, ho.b1, ho.b2, ho.b3, hu.c1, hu.c2, hu.n⟩
  split
  · exact ⟨hu.k, hu.a1, hu.a2, hu.a3, hu.b1, hu.b2, hu.b3, ho.c1, ho.c2, hu.n⟩
  · exact ⟨hu.k, hu.a1, hu.a2, hu.a3, hu.b1, hu.b2, hu.b3, hu.c1, hu.c2, ho.n⟩
theorem opK_ok {k : Int} (h : InI k) : (opK k).Ok := ⟨h, inI0, inI0, inI0, inI0, inI0, inI0, inU0, inU0, inI0⟩
theorem usedAll_ok {o : OpR} (ho : o.Ok) (ps : Bs) : (usedAll o ps).Ok := by
  unfold usedAll
  have : ∀ (l : Bs) (u : OpR), u.Ok → (l.foldl (used o) u).Ok := by
    intro l
    induction l with
    | nil => exact fun u h => h
    | cons p l ih => exact fun u h => ih _ (used_ok ho h p)
  exact this ps _ (opK_ok ho.k)
theorem own_more {w : World} {base n : Nat} {e size : Nat} {v : Value} {xs : List Value} (h : w.ownsRow base e size v n xs) : w.ownsRow 0 e size v n xs := by
  refine ⟨h.1, ?_⟩
  rcases h.2 with h2 | ⟨b, cap, cur, r1, _, r⟩
  · exact .inl h2
  · exact .inr ⟨b, cap, cur, r1, Nat.zero_le _, r⟩
/-- What Put answers. -/
def putV (o : OpR) : Value := match putP o with | some s => .tuple #[.string (str s), .int .i64 0] | none => .tuple #[.string (str []), .int .i64 2]

theorem rowT_fin : ∀ i : Fin 11, ((rowL.getD i.val ([], [])).2).all (fun p => p == 112 || p == 98 || p == 99 || p == 100 || p == 110) = true ∧ (rowL.getD i.val ([], [])).2.length ≤ 3 := by decide
theorem rowT_ok (k : Int) : (∀ p ∈ rowT k, p = 112 ∨ p = 98 ∨ p = 99 ∨ p = 100 ∨ p = 110) ∧ (rowT k).length ≤ 3 := by
  unfold rowT
  by_cases h : (rowOf k).1 = []
  · have e : rowOf k = ([], []) := by
      unfold rowOf at h ⊢
      split
      · rename_i hk
        rw [if_pos hk] at h
        exact absurd h (rows_ok ⟨(k - 1).toNat, by omega⟩).1
      · rfl
    rw [e]
    simp
  · obtain ⟨i, hi, _, e⟩ := row_k h
    rw [e]
    obtain ⟨h1, h2⟩ := rowT_fin ⟨i, hi⟩
    refine ⟨fun p hp => ?_, h2⟩
    have := List.all_eq_true.1 h1 p hp
    simp only [Bool.or_eq_true, beq_iff_eq] at this
    rcases this with (((h | h) | h) | h) | h
    · exact .inl h
    · exact .inr (.inl h)
    · exact .inr (.inr (.inl h))
    · exact .inr (.inr (.inr (.inl h)))
    · exact .inr (.inr (.inr (.inr h)))
theorem PutAt.start (w : World) (o : OpR) (word ps : Bs) : PutAt w (((((w.alloc (.cells (opC o) 27)).alloc (.cells #[sv word] 9)).alloc (.cells #[.slice (some ⟨w.heap.size + 1, 0, none⟩) 1 1] 52)).alloc (.cells (opC (opK o.k)) 27)).iter (str ps) 0) o word ps w.heap.size 0 := by
  obtain ⟨w0, h0⟩ : ∃ w0, w0 = w.alloc (.cells (opC o) 27) := ⟨_, rfl⟩
  obtain ⟨w1, h1⟩ : ∃ w1, w1 = w0.alloc (.cells #[sv word] 9) := ⟨_, rfl⟩
  obtain ⟨w2, h2⟩ : ∃ w2, w2 = w1.alloc (.cells #[.slice (some ⟨w.heap.size + 1, 0, none⟩) 1 1] 52) := ⟨_, rfl⟩
  obtain ⟨w3, h3⟩ : ∃ w3, w3 = w2.alloc (.cells (opC (opK o.k)) 27) := ⟨_, rfl⟩
  have s0 : w0.heap.size = w.heap.size + 1 := by rw [h0]; simp
  have s1 : w1.heap.size = w.heap.size + 1 + 1 := by rw [h1]; simp [s0]
  have s2 : w2.heap.size = w.heap.size + 1 + 1 + 1 := by rw [h2]; simp [s1]
  have s3 : w3.heap.size = w.heap.size + 1 + 1 + 1 + 1 := by rw [h3]; simp [s2]
  have b0 : Blk w0 w.heap.size 27 (opC o) := by rw [h0]; exact Blk.new _ _ _
  have b1 : Blk w1 (w.heap.size + 1) 9 #[sv word] := by rw [h1, ← s0]; exact Blk.new _ _ _
  have b2 : Blk w2 (w.heap.size + 1 + 1) 52 #[.slice (some ⟨w.heap.size + 1, 0, none⟩) 1 1] := by
    have := Blk.new w1 52 #[.slice (some ⟨w.heap.size + 1, 0, none⟩) 1 1]
    rw [← h2, s1] at this
    exact this
  have b3 : Blk w3 (w.heap.size + 1 + 1 + 1) 27 (opC (opK o.k)) := by rw [h3, ← s2]; exact Blk.new _ _ _
  have hb : Below w.heap.size w w3 := by
    have k0 : Below w.heap.size w w0 := by rw [h0]; exact (Below.refl _ _).alloc (Nat.le_refl _) _
    have k1 : Below w.heap.size w w1 := by rw [h1]; exact k0.alloc k0.size _
    have k2 : Below w.heap.size w w2 := by rw [h2]; exact k1.alloc k1.size _
    rw [h3]
    exact k2.alloc k2.size _
  rw [← h0, ← h1, ← h2, ← h3]
  have e1 : Blk w2 (w.heap.size + 1) 9 #[sv word] := by rw [h2]; exact b1.alloc _
  refine ⟨[], some (w.heap.size + 1), rfl, ?_, ?_, ?_, ?_, hb.alloc hb.size _⟩
  · refine Blk.alloc (t := 27) ?_ _
    rw [h3, h2, h1]
    exact ((b0.alloc _).alloc _).alloc _
  · refine WordsAt.alloc ?_ _
    rw [h3]
    refine WordsAt.alloc ⟨_, b2, ⟨rfl, .inr ⟨w.heap.size + 1, 1, #[sv word], rfl, by omega, e1, Nat.le_refl _, by decide, rfl, rfl⟩⟩, rfl, by omega⟩ _
  · exact b3.alloc _
  · rw [← s3]
    exact World.iter_heap _ _ _
set_option maxRecDepth 100000 in
set_option maxHeartbeats 4000000 in
theorem put_walk (w : World) (o : OpR) (ho : o.Ok) (he : Env w) : Calls Tryd.prog 11 #[opV o] w fun e w' => e = .returned (putV o) ∧ Below w.heap.size w w' := by
  have HR := Lib.hid (fun W => row_any W o.k)
  have HO := Lib.hid ho
  have HE := Lib.hid he
  have hrT := rowT_ok o.k
  have HPV := Lib.hid (show rowS o.k = (rowOf o.k).1 ∧ rowT o.k = (rowOf o.k).2 from ⟨rfl, rfl⟩)
  have HST := Lib.hid (PutAt.start w o (rowS o.k) (rowT o.k))
  unfold opC opK at HST
  generalize rowS o.k = word at HR HPV HST
  generalize rowT o.k = ps at HR HPV HST hrT
  have HPS := Lib.hid hrT.1
  have hlen := hrT.2
  clear he hrT
  unfold opV opC
  rcases Bool.eq_false_or_eq_true (List.isEmpty word) with h0 | h0
  · go_enter Tryd.func11, Tryd.ntmps11
    go_wp2_with (go_at_call 20; (with_reducible refine (HR.out _).mono ?_); rintro e w1 ⟨rfl, rfl⟩)
    go_ret2
    refine ⟨?_, (Below.refl _ _).alloc (Nat.le_refl _) _⟩
    unfold putV putP
    rw [if_pos (by rw [← HPV.out.1]; simpa using h0)]
    rfl
  · have HW0 := Lib.hid h0
    go_enter Tryd.func11, Tryd.ntmps11
    go_wp2_with (go_at_call 20; (with_reducible refine (HR.out _).mono ?_); rintro e w1 ⟨rfl, rfl⟩)
    clear h0
    go_loopw [9] (fun _ wr => ∃ k : Nat, k ≤ ps.length ∧ PutAt w wr o word ps w.heap.size k) (fun _ wr => ps.length - wr.iterPos (w.heap.size + 1 + 1 + 1 + 1))
    case atStart => exact ⟨0, Nat.zero_le _, HST.out⟩
    case round =>
      obtain ⟨k, hk, l, r, hl, hb0, hw, hb3, hit, hbl⟩ := hrel
      have HB0 := Lib.hid hb0
      have HW := Lib.hid hw
      have HB3 := Lib.hid hb3
      have HIT := Lib.hid hit
      have HL := Lib.hid hl
      have HBL := Lib.hid hbl
      clear hb0 hw hb3 hit hl hbl
      by_cases hlt : k < ps.length
      · obtain ⟨W1, hW1⟩ : ∃ W1, W1 = wr.iterAt (w.heap.size + 1 + 1 + 1 + 1) (str ps) (k + 1) := ⟨_, rfl⟩
        have hps : ps.getD k 0 ∈ ps := by rw [List.getD_eq_getElem?_getD, List.getElem?_eq_getElem hlt]; exact List.getElem_mem hlt
        have hpo := HPS.out _ hps
        have hlt2 : k < (str ps).size := by rw [str_size]; exact hlt
        have hpe : (str ps)[k]'hlt2 = ps.getD k 0 := by
          rw [List.getD_eq_getElem?_getD, List.getElem?_eq_getElem hlt]; rfl
        have hnx := fun ty => Lib.run_next_ascii_at (P := Tryd.prog) wr _ (str ps) k ty HIT.out hlt2 (by rw [hpe]; rcases hpo with h | h | h | h | h <;> rw [h] <;> decide)
        rw [← hW1, hpe] at hnx
        have HTK := Lib.hid (take_one ps k 0 hlt)
        have hb0 : Blk W1 w.heap.size 27 (opC o) := by rw [hW1]; exact HB0.out.iter HIT.out _
        have hb3 : Blk W1 (w.heap.size + 1 + 1 + 1) 27 (opC (usedAll o (ps.take k))) := by rw [hW1]; exact HB3.out.iter HIT.out _
        have hw1 : WordsAt W1 w.heap.size (w.heap.size + 1 + 1) (word :: l) r := by rw [hW1]; exact HW.out.iter HIT.out _
        have hit1 : W1.heap[w.heap.size + 1 + 1 + 1 + 1]? = some (.stringIter (str ps) (k + 1)) := by rw [hW1]; exact Lib.iterAt_heap _ _ _ _ _ HIT.out
        have hbl1 : Below w.heap.size w W1 := by rw [hW1]; exact Lib.below_iterAt HBL.out (by omega) _ _
        generalize ps.getD k 0 = p at hnx hpo HTK
        have HU := Lib.hid (show usedAll o (ps.take (k + 1)) = used o (usedAll o (ps.take k)) p by rw [HTK.out, usedAll_snoc])
        generalize usedAll o (ps.take k) = u at hb3 HU
        obtain ⟨⟨c0, c1, c2, c3, c4, c5, c6, c7, c8, c9⟩, -⟩ := hb0.op
        obtain ⟨⟨d0, d1, d2, d3, d4, d5, d6, d7, d8, d9⟩, f0, f1, f2, f3, f4, f5, f6, f7, f8, f9⟩ := hb3.op
        have HB0' := Lib.hid hb0
        have HB3' := Lib.hid hb3
        have HW' := Lib.hid hw1
        have HIT' := Lib.hid hit1
        have HBL' := Lib.hid hbl1
        clear hW1 hb0 hb3 hw1 hit1 hbl1 hps hpe hlt2
        have HM := Lib.hid (show PutMid w W1 o word ps w.heap.size (k + 1) l r (opC u) from ⟨HB0'.out, HW'.out, HB3'.out, HIT'.out, HBL'.out⟩)
        have hll := partsW_len HL.out (by rw [List.length_take]; omega)
        rcases hpo with rfl | rfl | rfl | rfl | rfl
        · simp only [show ((112 : UInt8).toNat : Int) = 112 from rfl] at hnx
          have HM2 := Lib.hid (((HM.out.set 1 (.int .i64 o.a1)).set 2 (.int .i64 o.a2)).set 3 (.int .i64 o.a3))
          have HN := Lib.hid (HM2.out.numbers HE.out rfl [o.a1, o.a2, o.a3] (by simp; omega) (fun n hn => by simp at hn; rcases hn with rfl | rfl | rfl; exact HO.out.a1; exact HO.out.a2; exact HO.out.a3) (b := W1.heap.size) (n := 3) (by simp) rfl)
          go_wp2_with fail
          go_at_call 21
          refine HN.out.mono ?_
          rintro e w5 ⟨rfl, r5, h5⟩
          have HM5 := Lib.hid h5
          clear h5 c0 c1 c2 c3 c4 c5 c6 c7 c8 c9 d0 d1 d2 d3 d4 d5 d6 d7 d8 d9 f0 f1 f2 f3 f4 f5 f6 f7 f8 f9 hnx
          go_wp2_with fail
          go_roundw
          case rel =>
            exact ⟨k + 1, hlt, _, r5, by rw [HTK.out, partsW_snoc, HL.out]; rfl, HM5.out.op, HM5.out.words, by rw [HU.out]; exact HM5.out.used, HM5.out.iter, HM5.out.below⟩
          case measure =>
            have h1 := HIT.out
            have h2 := HM5.out.iter
            simp [World.iterPos, h1, h2]
            omega
        · simp only [show ((98 : UInt8).toNat : Int) = 98 from rfl] at hnx
          have HM2 := Lib.hid (((HM.out.set 4 (.int .i64 o.b1)).set 5 (.int .i64 o.b2)).set 6 (.int .i64 o.b3))
          have HN := Lib.hid (HM2.out.numbers HE.out rfl [o.b1, o.b2, o.b3] (by simp; omega) (fun n hn => by simp at hn; rcases hn with rfl | rfl | rfl; exact HO.out.b1; exact HO.out.b2; exact HO.out.b3) (b := W1.heap.size) (n := 3) (by simp) rfl)
          go_wp2_with fail
          go_at_call 21
          refine HN.out.mono ?_
          rintro e w5 ⟨rfl, r5, h5⟩
          have HM5 := Lib.hid h5
          clear h5 c0 c1 c2 c3 c4 c5 c6 c7 c8 c9 d0 d1 d2 d3 d4 d5 d6 d7 d8 d9 f0 f1 f2 f3 f4 f5 f6 f7 f8 f9 hnx
          go_wp2_with fail
          go_roundw
          case rel =>
            exact ⟨k + 1, hlt, _, r5, by rw [HTK.out, partsW_snoc, HL.out]; rfl, HM5.out.op, HM5.out.words, by rw [HU.out]; exact HM5.out.used, HM5.out.iter, HM5.out.below⟩
          case measure =>
            have h1 := HIT.out
            have h2 := HM5.out.iter
            simp [World.iterPos, h1, h2]
            omega
        · simp only [show ((99 : UInt8).toNat : Int) = 99 from rfl] at hnx
          have HM2 := Lib.hid ((HM.out.set 7 (.int .u8 o.c1)).set 8 (.int .u8 o.c2))
          have HN := Lib.hid (fun W => name_any W o.c1 HO.out.c1)
          have hPN := Lib.hid (show partWords o 99 = if nameK o.c1 = [] then none else some [nameK o.c1, Lib.itoa o.c2] from rfl)
          have hr1 : 0 ≤ o.c2 := HO.out.c2.1
          have hr2 : o.c2 ≤ 255 := HO.out.c2.2
          generalize nameK o.c1 = nm at HN hPN
          rcases Bool.eq_false_or_eq_true (List.isEmpty nm) with hn0 | hn0
          · go_wp2_with (go_at_call 22; (with_reducible refine (HN.out _).mono ?_); rintro e w4 ⟨rfl, hb4⟩; replace HM2 := Lib.hid (HM2.out.under hb4); clear hb4)
            go_ret2
            refine ⟨?_, HM2.out.below⟩
            have e : putP o = none := by
              unfold putP
              rw [← HPV.out.1, ← HPV.out.2, if_neg (by simpa using HW0.out), partsW_none HTK.out (by rw [hPN.out, if_pos (by simpa using hn0)])]
            unfold putV
            rw [e]
            rfl
          · go_wp2_with (go_at_call 22; (with_reducible refine (HN.out _).mono ?_); rintro e w4 ⟨rfl, hb4⟩; replace HM2 := Lib.hid (HM2.out.under hb4); clear hb4)
            go_at_call 23
            refine (HM2.out.text nm (by omega)).mono ?_
            rintro e w5 ⟨rfl, r5, h5⟩
            have HM5 := Lib.hid h5
            have HN5 := Lib.hid (HM5.out.numbers HE.out rfl [o.c2] (by simp; omega) (fun n hn => by simp at hn; rw [hn]; exact HO.out.c2.i) (b := w5.heap.size) (n := 1) rfl rfl)
            clear c0 c1 c2 c3 c4 c5 c6 c7 c8 c9 d0 d1 d2 d3 d4 d5 d6 d7 d8 d9 f0 f1 f2 f3 f4 f5 f6 f7 f8 f9 hnx
            obtain ⟨⟨-, -, -, -, -, -, -, -, c8, -⟩, -⟩ := h5.op.op
            clear h5
            go_wp2_with fail
            go_at_call 21
            refine HN5.out.mono ?_
            rintro e w6 ⟨rfl, r6, h6⟩
            have HM6 := Lib.hid h6
            clear h6 c8
            go_wp2_with fail
            go_roundw
            case rel =>
              refine ⟨k + 1, hlt, _, r6, ?_, HM6.out.op, HM6.out.words, by rw [HU.out]; exact HM6.out.used, HM6.out.iter, HM6.out.below⟩
              rw [HTK.out, partsW_snoc, HL.out, hPN.out, if_neg (by simpa using hn0)]
              simp
            case measure =>
              have h1 := HIT.out
              have h2 := HM6.out.iter
              simp [World.iterPos, h1, h2]
              omega
        · simp only [show ((100 : UInt8).toNat : Int) = 100 from rfl] at hnx
          have HM2 := Lib.hid (HM.out.set 9 (.int .i64 o.n))
          have hPN := Lib.hid (show partWords o 100 = if o.n < 0 ∨ 5 < o.n then none else some [dirs.getD o.n.toNat []] from rfl)
          have HD := Lib.hid dirs_any
          by_cases hn : o.n < 0
          · go_wp2_with fail
            go_ret2
            refine ⟨?_, HM2.out.below⟩
            have e : putP o = none := by
              unfold putP
              rw [← HPV.out.1, ← HPV.out.2, if_neg (by simpa using HW0.out), partsW_none HTK.out (by rw [hPN.out, if_pos (.inl hn)])]
            unfold putV
            rw [e]
            rfl
          by_cases hn5 : 5 < o.n
          · go_wp2_with fail
            go_ret2
            refine ⟨?_, HM2.out.below⟩
            have e : putP o = none := by
              unfold putP
              rw [← HPV.out.1, ← HPV.out.2, if_neg (by simpa using HW0.out), partsW_none HTK.out (by rw [hPN.out, if_pos (.inr hn5)])]
            unfold putV
            rw [e]
            rfl
          · have g1 : 0 ≤ o.n := by omega
            have g2 : o.n ≤ 5 := by omega
            clear hn hn5
            go_wp2_with fail
            obtain ⟨W2, hW2⟩ : ∃ W2, W2 = W1.setCell ⟨w.heap.size + 1 + 1 + 1, 9, none⟩ (.int .i64 o.n) := ⟨_, rfl⟩
            have hm2 := HM2.out
            rw [← hW2] at hm2 ⊢
            clear c0 c1 c2 c3 c4 c5 c6 c7 c8 c9 d0 d1 d2 d3 d4 d5 d6 d7 d8 d9 f0 f1 f2 f3 f4 f5 f6 f7 f8 f9 hnx HM2 hW2
            have c9 : W2.cell? ⟨w.heap.size, 9, none⟩ = some (.int .i64 o.n) := hm2.op.op.1.2.2.2.2.2.2.2.2.2
            have c9' : (W2.alloc (.cells dirCells 9)).cell? ⟨w.heap.size, 9, none⟩ = some (.int .i64 o.n) := (hm2.alloc (.cells dirCells 9)).op.op.1.2.2.2.2.2.2.2.2.2
            have HM2 := Lib.hid hm2
            clear hm2
            obtain ⟨j, hj⟩ : ∃ j : Nat, o.n = j := ⟨o.n.toNat, by omega⟩
            have hj6 : j < 6 := by omega
            have hdj : dirCells[j]? = some (sv (dirs.getD j [])) := dirCells_at ⟨j, hj6⟩
            have HPN2 := Lib.hid (show partWords o 100 = some [dirs.getD j []] by rw [hPN.out, if_neg (by omega), hj]; rfl)
            rw [hj] at c9 c9'
            clear hPN g1 g2 hj
            generalize dirs.getD j [] = dw at hdj HPN2
            have HTX := Lib.hid ((HM2.out.alloc (.cells dirCells 9)).drew.text dw (by omega))
            go_region_with (first | (go_at_call 24; refine (HD.out _).mono ?_; rintro e wd ⟨rfl, rfl⟩) | (go_at_call 23; refine HTX.out.mono ?_; rintro e w5 ⟨rfl, r5, h5⟩))
            all_goals
              have HM5 := Lib.hid h5
              clear h5 c9 c9' hdj
              go_wp2_with fail
              go_roundw
              case rel =>
                refine ⟨k + 1, hlt, _, r5, ?_, HM5.out.op, HM5.out.words, by rw [HU.out]; exact HM5.out.used, HM5.out.iter, HM5.out.below⟩
                rw [HTK.out, partsW_snoc, HL.out, HPN2.out]
                rfl
              case measure =>
                have h1 := HIT.out
                have h2 := HM5.out.iter
                simp [World.iterPos, h1, h2]
                omega
        · simp only [show ((110 : UInt8).toNat : Int) = 110 from rfl] at hnx
          have HM2 := Lib.hid (HM.out.set 9 (.int .i64 o.n))
          have HN := Lib.hid (HM2.out.numbers HE.out rfl [o.n] (by simp; omega) (fun n hn => by simp at hn; rcases hn with rfl; exact HO.out.n) (b := W1.heap.size) (n := 1) (by simp) rfl)
          go_wp2_with fail
          go_at_call 21
          refine HN.out.mono ?_
          rintro e w5 ⟨rfl, r5, h5⟩
          have HM5 := Lib.hid h5
          clear h5 c0 c1 c2 c3 c4 c5 c6 c7 c8 c9 d0 d1 d2 d3 d4 d5 d6 d7 d8 d9 f0 f1 f2 f3 f4 f5 f6 f7 f8 f9 hnx
          go_wp2_with fail
          go_roundw
          case rel =>
            exact ⟨k + 1, hlt, _, r5, by rw [HTK.out, partsW_snoc, HL.out]; rfl, HM5.out.op, HM5.out.words, by rw [HU.out]; exact HM5.out.used, HM5.out.iter, HM5.out.below⟩
          case measure =>
            have h1 := HIT.out
            have h2 := HM5.out.iter
            simp [World.iterPos, h1, h2]
            omega
      · have hk' : k = ps.length := by omega
        have hkt : ps.take k = ps := List.take_of_length_le (by omega)
        have hl := HL.out
        have hb3 := HB3.out
        rw [hkt] at hl hb3
        have hlt2 : ¬ k < (str ps).size := by rw [str_size]; omega
        have hnx := fun ty => Lib.run_next_end_at (P := Tryd.prog) wr _ (str ps) k ty HIT.out hlt2
        obtain ⟨⟨c0, c1, c2, c3, c4, c5, c6, c7, c8, c9⟩, -⟩ := HB0.out.op
        obtain ⟨⟨d0, d1, d2, d3, d4, d5, d6, d7, d8, d9⟩, -⟩ := hb3.op
        have HLL := Lib.hid hl
        have hll := partsW_len hl (by omega)
        have hEq := eq_op (usedAll_ok HO.out ps) HO.out
        unfold opV opC at hEq
        have HPP := Lib.hid (show putP o = if usedAll o ps = o then some (Lib.join (word :: l) [32]) else none by
          unfold putP
          rw [← HPV.out.1, ← HPV.out.2, if_neg (by simpa using HW0.out), hl])
        by_cases hue : usedAll o ps = o
        · have HPP1 := Lib.hid (HPP.out.trans (if_pos hue))
          rw [hue] at hEq d0 d1 d2 d3 d4 d5 d6 d7 d8 d9
          simp only [decide_true] at hEq
          obtain ⟨v, hv1, hv2, -, -⟩ := HW.out
          have v0 := hv1.cell 0
          simp only [List.getElem?_toArray, List.getElem?_cons_zero] at v0
          have hjl : (Lib.join (word :: l) [32]).length ≤ 200 := (put_len HO.out HPP1.out).2
          have HLN := Lib.hid (line_any wr _ v (word :: l) hv2 (by simp) (by simp; omega) (by omega))
          obtain ⟨d, c, hvv, -, -⟩ := hv2.form (by simp)
          subst hvv
          obtain ⟨nl, hnl⟩ : ∃ nl, nl = (word :: l).length := ⟨_, rfl⟩
          rw [← hnl] at HLN v0
          clear HPP hnl hv1 hv2 hue hl hb3 hkt hk' hjl
          go_wp2_with (go_at_call 25; (with_reducible refine HLN.out.mono ?_); rintro e w' ⟨rfl, hb⟩)
          go_ret2
          refine ⟨?_, HBL.out.trans (hb.mono HBL.out.size)⟩
          unfold putV
          rw [HPP1.out]
          rfl
        · have HPP2 := Lib.hid (HPP.out.trans (if_neg hue))
          simp only [hue, decide_false] at hEq
          clear HPP hue hl hb3 hkt hk'
          generalize usedAll o ps = u at hEq d0 d1 d2 d3 d4 d5 d6 d7 d8 d9
          go_wp2_with fail
          go_ret2
          refine ⟨?_, HBL.out⟩
          unfold putV
          rw [HPP2.out]
          rfl
end Go.Proofs.YtjbhkmpabajeoaaDoor
