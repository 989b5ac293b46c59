/- A queue in memory: ticks in a row of cells, the place of each index in a block. -/
import Derived.Test.YtlccplpniidjfaaHeapPure
import Derived.Test.YtlccplpniidjfaaKit
import Derived.Deep.RegionLaw
import Derived.BigQuiet
import Derived.BigRegion
namespace Go.Proofs.Ytlccplpniidjfaa
open Go.RowKit

def tcells (l : List Tk) : List Value := l.flatMap fun t => [.int .i64 t.1, .int .i64 t.2]
theorem tcells_cons (t : Tk) (l : List Tk) : tcells (t :: l) = .int .i64 t.1 :: .int .i64 t.2 :: tcells l := rfl
theorem tcells_length (l : List Tk) : (tcells l).length = l.length * 2 := by
  induction l with
  | nil => rfl
  | cons t l ih => rw [tcells_cons, List.length_cons, List.length_cons, List.length_cons, ih]; omega
theorem tcells_append (l r : List Tk) : tcells (l ++ r) = tcells l ++ tcells r := by simp [tcells]
theorem tcells_at : ∀ (l : List Tk) (i : Nat), i < l.length → (tcells l)[i * 2]? = some (.int .i64 (nth l i).1) ∧ (tcells l)[i * 2 + 1]? = some (.int .i64 (nth l i).2)
  | [], i, h => by simp at h
  | t :: l, 0, _ => ⟨rfl, rfl⟩
  | t :: l, i + 1, h => by
    have ih := tcells_at l i (by simpa using h)
    rw [tcells_cons, show (i + 1) * 2 = i * 2 + 1 + 1 by omega, show i * 2 + 1 + 1 + 1 = (i * 2 + 1) + 1 + 1 by omega]
    simp only [List.getElem?_cons_succ]
    exact ih
theorem tcells_set : ∀ (l : List Tk) (i : Nat) (t : Tk), i < l.length → tcells (l.set i t) = ((tcells l).set (i * 2) (.int .i64 t.1)).set (i * 2 + 1) (.int .i64 t.2)
  | [], i, _, h => by simp at h
  | x :: l, 0, t, _ => rfl
  | x :: l, i + 1, t, h => by
    rw [List.set_cons_succ, tcells_cons, tcells_cons, show (i + 1) * 2 = i * 2 + 1 + 1 by omega, show i * 2 + 1 + 1 + 1 = (i * 2 + 1) + 1 + 1 by omega]
    simp only [List.set_cons_succ]
    rw [tcells_set l i t (by simpa using h)]
theorem tcells_one (l : List Tk) : ∀ u ∈ tcells l, u.oneCell' = true := by
  intro u hu
  simp only [tcells, List.mem_flatMap] at hu
  obtain ⟨t, _, hu⟩ := hu
  simp at hu
  rcases hu with rfl | rfl <;> rfl

/-- Block g is a queue: its row, where each index stands (and 1; 0: nowhere), that it was made. -/
def QBlk (w : World) (g : Nat) (v : Value) (f : Nat → Nat) : Prop :=
  ∃ cs : Array Value, w.heap[g]? = some (.cells cs 53 (0, 0)) ∧ cs.size = 4098 ∧ cs[0]? = some v ∧ (∀ a, a < 4096 → cs[1 + a]? = some (.int .i64 (f a))) ∧ cs[4097]? = some (.bool true)
def upd (f : Nat → Nat) (a x : Nat) : Nat → Nat := fun b => if b = a then x else f b

section
variable {w w' : World} {g : Nat} {v : Value} {f : Nat → Nat}
theorem QBlk.lt (h : QBlk w g v f) : g < w.heap.size := by
  obtain ⟨cs, h, _⟩ := h
  exact Blk.lt (t := 53) (cs := cs) h
theorem QBlk.cell (h : QBlk w g v f) : w.cell? ⟨g, 0, none⟩ = some v := by
  obtain ⟨cs, h, _, h0, _⟩ := h
  rw [Blk.cell (t := 53) (cs := cs) h]; exact h0
theorem QBlk.cellW (h : QBlk w g v f) {a : Nat} (ha : a < 4096) : w.cell? ⟨g, 1 + a, none⟩ = some (.int .i64 (f a)) := by
  obtain ⟨cs, h, _, _, h1, _⟩ := h
  rw [Blk.cell (t := 53) (cs := cs) h]; exact h1 a ha
theorem QBlk.cellM (h : QBlk w g v f) : w.cell? ⟨g, 4097, none⟩ = some (.bool true) := by
  obtain ⟨cs, h, _, _, _, h2⟩ := h
  rw [Blk.cell (t := 53) (cs := cs) h]; exact h2
theorem QBlk.frozen (h : QBlk w g v f) (i : Nat) : w.frozen? ⟨g, i, none⟩ = false := by
  obtain ⟨cs, h, _⟩ := h
  exact Blk.frozen (t := 53) (cs := cs) h i
theorem QBlk.keep (h : QBlk w g v f) (hk : w'.heap[g]? = w.heap[g]?) : QBlk w' g v f := by
  obtain ⟨cs, h, r⟩ := h
  exact ⟨cs, hk.trans h, r⟩
theorem QBlk.set0 (h : QBlk w g v f) (v' : Value) : QBlk (w.setCell ⟨g, 0, none⟩ v') g v' f := by
  obtain ⟨cs, h, hs, h0, h1, h2⟩ := h
  refine ⟨cs.setIfInBounds 0 v', Blk.set_ (t := 53) h 0 v', by simpa using hs, by rw [Array.getElem?_setIfInBounds_self, if_pos (by omega)], fun a ha => ?_, ?_⟩
  · rw [Array.getElem?_setIfInBounds_ne (by omega)]; exact h1 a ha
  · rw [Array.getElem?_setIfInBounds_ne (by omega)]; exact h2
theorem QBlk.setW (h : QBlk w g v f) {a : Nat} (ha : a < 4096) (x : Nat) : QBlk (w.setCell ⟨g, 1 + a, none⟩ (.int .i64 (x : Int))) g v (upd f a x) := by
  obtain ⟨cs, h, hs, h0, h1, h2⟩ := h
  refine ⟨cs.setIfInBounds (1 + a) (.int .i64 (x : Int)), Blk.set_ (t := 53) h (1 + a) _, by simpa using hs, ?_, fun b hb => ?_, ?_⟩
  · rw [Array.getElem?_setIfInBounds_ne (by omega)]; exact h0
  · by_cases e : b = a
    · subst e
      rw [Array.getElem?_setIfInBounds_self, if_pos (by omega)]
      simp [upd]
    · rw [Array.getElem?_setIfInBounds_ne (by omega)]
      simp only [upd, if_neg e]
      exact h1 b hb
  · rw [Array.getElem?_setIfInBounds_ne (by omega)]; exact h2
theorem QBlk.far (h : QBlk w g v f) {p : Addr} (hp : g ≠ p.block) (u : Value) : QBlk (w.setCell p u) g v f := h.keep (Below.heap_setCell w p u g hp)
theorem QBlk.drew (h : QBlk w g v f) : QBlk w.drew g v f := h
theorem QBlk.drewN (h : QBlk w g v f) (n : Nat) : QBlk (w.drewN n) g v f := h
theorem QBlk.alloc (h : QBlk w g v f) (o : Obj) : QBlk (w.alloc o) g v f := h.keep (Below.heap_alloc w o g h.lt)
theorem QBlk.ne_row {base n : Nat} {e size : Nat} {u : Value} {xs : List Value} (h : QBlk w g v f) (ho : w.ownsRow base e size u n xs) (he : e ≠ 53) : u.ownBlock ≠ some g := by
  obtain ⟨cs, h, _⟩ := h
  exact own_blk_ne ho (t := 53) h he
end

/-- All blocks but those of S are as they were. -/
structure Only (w w' : World) (S : Nat → Prop) : Prop where
  os : w'.os = w.os
  tape : w'.tape = w.tape
  output : w'.output = w.output
  size : w.heap.size ≤ w'.heap.size
  block : ∀ k, k < w.heap.size → ¬ S k → w'.heap[k]? = w.heap[k]?
section
variable {w w' w'' : World} {S S' : Nat → Prop}
theorem Only.refl (w : World) (S : Nat → Prop) : Only w w S := ⟨rfl, rfl, rfl, Nat.le_refl _, fun _ _ _ => rfl⟩
theorem Only.trans (h : Only w w' S) (k : Only w' w'' S') (hs : ∀ i, S' i → S i ∨ w.heap.size ≤ i) : Only w w'' S :=
  ⟨k.os.trans h.os, k.tape.trans h.tape, k.output.trans h.output, Nat.le_trans h.size k.size, fun i hi hn =>
    (k.block i (Nat.lt_of_lt_of_le hi h.size) (fun hk => (hs i hk).elim hn (by omega))).trans (h.block i hi hn)⟩
theorem Only.trans' (h : Only w w' S) (k : Only w' w'' S) : Only w w'' S := h.trans k fun _ hi => .inl hi
theorem Only.mono (h : Only w w' S) (hs : ∀ i, S i → S' i) : Only w w' S' := ⟨h.os, h.tape, h.output, h.size, fun i hi hn => h.block i hi fun hk => hn (hs i hk)⟩
theorem Only.drew (h : Only w w' S) : Only w w'.drew S := ⟨h.os, h.tape, h.output, h.size, h.block⟩
theorem Only.drewN (h : Only w w' S) (n : Nat) : Only w (w'.drewN n) S := ⟨h.os, h.tape, h.output, h.size, h.block⟩
theorem Only.alloc (h : Only w w' S) (o : Obj) : Only w (w'.alloc o) S :=
  ⟨h.os, h.tape, h.output, Nat.le_trans h.size (by simp), fun i hi hn => (Below.heap_alloc w' o i (Nat.lt_of_lt_of_le hi h.size)).trans (h.block i hi hn)⟩
theorem Only.setCell (h : Only w w' S) {p : Addr} (hp : S p.block ∨ w.heap.size ≤ p.block) (u : Value) : Only w (w'.setCell p u) S :=
  ⟨h.os, h.tape, h.output, by simpa [World.setCell] using h.size, fun i hi hn => (Below.heap_setCell w' p u i (fun e => by subst e; rcases hp with hp | hp; exact hn hp; omega)).trans (h.block i hi hn)⟩
theorem Only.grown (h : Only w w' S) {row : Option Nat} (hg : w'.grownBy w'' row) (hr : ∀ k, row = some k → S k ∨ w.heap.size ≤ k) : Only w w'' S :=
  ⟨hg.os.trans h.os, hg.tape.trans h.tape, hg.output.trans h.output, Nat.le_trans h.size hg.size, fun i hi hn =>
    (hg.block i (Nat.lt_of_lt_of_le hi h.size) (fun e => (hr i e.symm).elim hn (by omega))).trans (h.block i hi hn)⟩
theorem Only.below (h : Only w w' S) {B : Nat} (hB : ∀ k, S k → B ≤ k) (hs : B ≤ w.heap.size) : Below B w w' :=
  ⟨h.os, h.tape, h.output, h.size, fun k hk => h.block k (by omega) (fun hS => by have := hB k hS; omega)⟩
theorem Only.of_below (h : Below w.heap.size w w') : Only w w' S := ⟨h.os, h.tape, h.output, h.size, fun k hk _ => h.block k hk⟩
theorem own_only {base e size n : Nat} {v : Value} {xs : List Value} (h : w.ownsRow base e size v n xs) (ho : Only w w' S) (hn : ∀ k, v.ownBlock = some k → ¬ S k) : w'.ownsRow base e size v n xs := by
  refine ⟨h.1, ?_⟩
  have hl := h.lt
  rcases h.2 with h0 | ⟨b, cap, cur, rfl, hb, hh, r⟩
  · exact .inl h0
  · exact .inr ⟨b, cap, cur, rfl, hb, (ho.block b (hl b rfl).2 (hn b rfl)).trans hh, r⟩
theorem QBlk.only {g : Nat} {v : Value} {f : Nat → Nat} (h : QBlk w g v f) (ho : Only w w' S) (hn : ¬ S g) : QBlk w' g v f := h.keep (ho.block g h.lt hn)
end

/-- Where the indexes stand, and nowhere else. -/
def WhereIs (f : Nat → Nat) (l : List Tk) : Prop := (∀ i, i < l.length → f (nth l i).1.toNat = i + 1) ∧ ∀ a : Nat, (∀ i, i < l.length → (nth l i).1 ≠ (a : Int)) → f a = 0
/-- Indexes in their bounds, each once. -/
def Apt (l : List Tk) : Prop := (∀ i, i < l.length → 0 ≤ (nth l i).1 ∧ (nth l i).1 < 4096) ∧ ∀ i j, i < l.length → j < l.length → (nth l i).1 = (nth l j).1 → i = j

/-- A queue at block g of memory from base on; its row's block is r. -/
def QS (w : World) (base g : Nat) (l : List Tk) (r : Option Nat) : Prop :=
  ∃ v f, QBlk w g v f ∧ w.ownsRow base 24 2 v l.length (tcells l) ∧ r = v.ownBlock ∧ base ≤ g ∧ WhereIs f l ∧ Apt l
/-- The blocks of a queue. -/
def QF (g : Nat) (r : Option Nat) : Nat → Prop := fun k => k = g ∨ some k = r

theorem m_less (a : Addr) (w : World) : (method 219 63 (.pointer (some a)) "Less").run Try.prog w = (do let v ← loadVar 48 a; pure (80, v) : Sem (FuncId × Value)).run Try.prog w := by kernel_rfl
theorem m_len (a : Addr) (w : World) : (method 219 63 (.pointer (some a)) "Len").run Try.prog w = (do let v ← loadVar 48 a; pure (29, v) : Sem (FuncId × Value)).run Try.prog w := by kernel_rfl
theorem m_swap (a : Addr) (w : World) : (method 219 63 (.pointer (some a)) "Swap").run Try.prog w = .ok (83, .pointer (some a)) w := by kernel_rfl
theorem m_push (a : Addr) (w : World) : (method 219 63 (.pointer (some a)) "Push").run Try.prog w = .ok (82, .pointer (some a)) w := by kernel_rfl
theorem m_pop (a : Addr) (w : World) : (method 219 63 (.pointer (some a)) "Pop").run Try.prog w = .ok (81, .pointer (some a)) w := by kernel_rfl
theorem run_less {a : Addr} {w : World} {ao : Option Addr} {n c : Nat} (h : w.cell? a = some (.slice ao n c)) : (method 219 63 (.pointer (some a)) "Less").run Try.prog w = .ok (80, .slice ao n c) w := by
  rw [m_less]; go_simp
theorem run_len {a : Addr} {w : World} {ao : Option Addr} {n c : Nat} (h : w.cell? a = some (.slice ao n c)) : (method 219 63 (.pointer (some a)) "Len").run Try.prog w = .ok (29, .slice ao n c) w := by
  rw [m_len]; go_simp
end Go.Proofs.Ytlccplpniidjfaa
