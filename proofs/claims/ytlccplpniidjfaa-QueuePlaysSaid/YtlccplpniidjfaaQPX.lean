/- A queue and the document's, side by side in memory: what each call does to both. -/
import Derived.Test.YtlccplpniidjfaaQFTake
import Derived.Test.YtlccplpniidjfaaQAgain
namespace Go.Proofs.Ytlccplpniidjfaa
open Go.RowKit

/-- Both queues, apart from each other, and blocks that are kept. -/
def PX (w0 w : World) (gq gp : Nat) (mq mp : List Tk) (K : List (Nat × Array Value)) : Prop :=
  ∃ r rv, QQ w w0.heap.size gq mq r ∧ RQ w w0.heap.size gp mp rv ∧ (∀ x, QF gq r x → ¬ QF gp rv x) ∧ Below w0.heap.size w0 w ∧ ∀ y ∈ K, Blk w y.1 24 y.2 ∧ ¬ QF gq r y.1 ∧ ¬ QF gp rv y.1
theorem PX.below {w0 w : World} {gq gp : Nat} {mq mp : List Tk} {K : List (Nat × Array Value)} (h : PX w0 w gq gp mq mp K) : Below w0.heap.size w0 w := by
  obtain ⟨_, _, _, _, _, h, _⟩ := h
  exact h
theorem PX.kept {w0 w : World} {gq gp : Nat} {mq mp : List Tk} {K : List (Nat × Array Value)} (h : PX w0 w gq gp mq mp K) {x y : Value} {g : Nat} (hg : (g, #[x, y]) ∈ K) : w.cell? ⟨g, 0, none⟩ = some x ∧ w.cell? ⟨g, 1, none⟩ = some y ∧ g < w.heap.size := by
  obtain ⟨_, _, _, _, _, _, h⟩ := h
  have hb := (h _ hg).1
  exact ⟨hb.cell 0, hb.cell 1, hb.lt⟩
theorem PX.fewer {w0 w : World} {gq gp : Nat} {mq mp : List Tk} {K K' : List (Nat × Array Value)} (h : PX w0 w gq gp mq mp K) (hk : ∀ y ∈ K', y ∈ K) : PX w0 w gq gp mq mp K' := by
  obtain ⟨r, rv, h1, h2, h3, h4, h5⟩ := h
  exact ⟨r, rv, h1, h2, h3, h4, fun y hy => h5 y (hk y hy)⟩
theorem PX.drewN {w0 w : World} {gq gp : Nat} {mq mp : List Tk} {K : List (Nat × Array Value)} (h : PX w0 w gq gp mq mp K) (n : Nat) : PX w0 (w.drewN n) gq gp mq mp K := by
  obtain ⟨r, rv, h1, h2, h3, h4, h5⟩ := h
  exact ⟨r, rv, h1, h2, h3, below_drewN h4 n, h5⟩
theorem PX.drew {w0 w : World} {gq gp : Nat} {mq mp : List Tk} {K : List (Nat × Array Value)} (h : PX w0 w gq gp mq mp K) : PX w0 w.drew gq gp mq mp K := by
  obtain ⟨r, rv, h1, h2, h3, h4, h5⟩ := h
  exact ⟨r, rv, h1, h2, h3, ⟨h4.os, h4.tape, h4.output, h4.size, h4.block⟩, h5⟩
theorem PX.calm {w0 w w' : World} {gq gp : Nat} {mq mp : List Tk} {K : List (Nat × Array Value)} (h : PX w0 w gq gp mq mp K) (hb : Below w.heap.size w w') : PX w0 w' gq gp mq mp K := by
  obtain ⟨r, rv, h1, h2, h3, h4, h5⟩ := h
  exact ⟨r, rv, h1.below hb, h2.below hb, h3, h4.trans (hb.mono h4.size), fun y hy => ⟨(h5 y hy).1.below hb (h5 y hy).1.lt, (h5 y hy).2⟩⟩
theorem PX.more {w0 w : World} {gq gp : Nat} {mq mp : List Tk} {K : List (Nat × Array Value)} (h : PX w0 w gq gp mq mp K) (cs : Array Value) : PX w0 (w.alloc (.cells cs 24)) gq gp mq mp ((w.heap.size, cs) :: K) := by
  have hb : Below w.heap.size w (w.alloc (.cells cs 24)) := (Below.refl _ _).alloc (Nat.le_refl _) _
  obtain ⟨r, rv, h1, h2, h3, h4, h5⟩ := h
  refine ⟨r, rv, h1.below hb, h2.below hb, h3, h4.trans (hb.mono h4.size), fun y hy => ?_⟩
  rcases List.mem_cons.1 hy with rfl | hy
  · exact ⟨Blk.new w _ _, fun hk => Nat.lt_irrefl _ (h1.lt _ hk).2, fun hk => Nat.lt_irrefl _ (h2.lt _ hk).2⟩
  · exact ⟨(h5 y hy).1.below hb (h5 y hy).1.lt, (h5 y hy).2⟩
theorem PX.stepQ {w0 w w' : World} {gq gp : Nat} {mq mp mq' : List Tk} {K : List (Nat × Array Value)} {r rv r' : Option Nat} (h1 : QQ w w0.heap.size gq mq r) (h2 : RQ w w0.heap.size gp mp rv) (h3 : ∀ x, QF gq r x → ¬ QF gp rv x) (h4 : Below w0.heap.size w0 w)
    (h5 : ∀ y ∈ K, Blk w y.1 24 y.2 ∧ ¬ QF gq r y.1 ∧ ¬ QF gp rv y.1) (hq : QQ w' w0.heap.size gq mq' r') (ho : Only w w' (QF gq r)) (hn : RNew w r r') : PX w0 w' gq gp mq' mp K := by
  have hnew : ∀ x, QF gq r' x → QF gq r x ∨ w.heap.size ≤ x := by
    intro x hx
    rcases hx with rfl | hx
    · exact .inl (.inl rfl)
    · rcases hn with h | ⟨d, h, hd⟩
      · exact .inl (.inr (by rw [← h]; exact hx))
      · right
        rw [h] at hx
        injection hx with hx
        omega
  refine ⟨r', rv, hq, h2.only ho (fun x hx hs => h3 x hs hx), fun x hx hs => ?_, h4.trans (ho.below (fun x hx => (h1.lt x hx).1) h4.size), fun y hy => ⟨(h5 y hy).1.only ho (h5 y hy).2.1, fun hx => ?_, (h5 y hy).2.2⟩⟩
  · rcases hnew x hx with h | h
    · exact h3 x h hs
    · have := (h2.lt x hs).2
      omega
  · rcases hnew _ hx with h | h
    · exact (h5 y hy).2.1 h
    · have := (h5 y hy).1.lt
      omega
theorem PX.stepR {w0 w w' : World} {gq gp : Nat} {mq mp mp' : List Tk} {K : List (Nat × Array Value)} {r rv rv' : Option Nat} (h1 : QQ w w0.heap.size gq mq r) (h2 : RQ w w0.heap.size gp mp rv) (h3 : ∀ x, QF gq r x → ¬ QF gp rv x) (h4 : Below w0.heap.size w0 w)
    (h5 : ∀ y ∈ K, Blk w y.1 24 y.2 ∧ ¬ QF gq r y.1 ∧ ¬ QF gp rv y.1) (hr : RQ w' w0.heap.size gp mp' rv') (ho : Only w w' (fun k => k = gp)) (hn : RNew2 w rv rv') : PX w0 w' gq gp mq mp' K := by
  have hnew : ∀ x, QF gp rv' x → QF gp rv x ∨ w.heap.size ≤ x := by
    intro x hx
    rcases hx with rfl | hx
    · exact .inl (.inl rfl)
    · rcases hn with h | h
      · exact .inl (.inr (by rw [← h]; exact hx))
      · exact .inr (h x hx.symm)
  refine ⟨r, rv', h1.only ho (fun x hx hs => h3 x hx (.inl hs)), hr, fun x hx hs => ?_, h4.trans (ho.below (fun x hx => by have := (h2.lt gp (.inl rfl)).1; have e : x = gp := hx; omega) h4.size), fun y hy => ⟨(h5 y hy).1.only ho (fun e => (h5 y hy).2.2 (.inl e)), (h5 y hy).2.1, fun hx => ?_⟩⟩
  · rcases hnew x hs with h | h
    · exact h3 x hx h
    · have := (h1.lt x hx).2
      omega
  · rcases hnew _ hx with h | h
    · exact (h5 y hy).2.2 h
    · have := (h5 y hy).1.lt
      omega
section
variable {w0 w : World} {gq gp : Nat} {mq mp : List Tk} {K : List (Nat × Array Value)}
theorem px_put (h : PX w0 w gq gp mq mp K) (t : Tk) :
    Calls Try.prog 21 #[.pointer (some ⟨gq, 0, none⟩), .agg #[.int .i64 t.1, .int .i64 t.2]] w fun e w' => e = .returned (.tuple #[.bool (putR mq t).1, .int .i64 (putR mq t).2.1]) ∧ PX w0 w' gq gp (putR mq t).2.2 mp K := by
  obtain ⟨r, rv, h1, h2, h3, h4, h5⟩ := h
  refine (put_q h1 h4.size t).mono ?_
  rintro e w' ⟨he, r', hq, ho, hn⟩
  exact ⟨he, PX.stepQ h1 h2 h3 h4 h5 hq ho hn⟩
theorem px_fput (h : PX w0 w gq gp mq mp K) (t : Tk) :
    Calls Try.prog 23 #[.pointer (some ⟨gp, 0, none⟩), .agg #[.int .i64 t.1, .int .i64 t.2]] w fun e w' => e = .returned (.tuple #[.bool (putR mp t).1, .int .i64 (putR mp t).2.1]) ∧ PX w0 w' gq gp mq (putR mp t).2.2 K := by
  obtain ⟨r, rv, h1, h2, h3, h4, h5⟩ := h
  refine (fput_any h2 h4.size t).mono ?_
  rintro e w' ⟨he, r', hq, ho, hn⟩
  exact ⟨he, PX.stepR h1 h2 h3 h4 h5 hq ho hn⟩
theorem px_drop (h : PX w0 w gq gp mq mp K) (a : Int) :
    Calls Try.prog 22 #[.pointer (some ⟨gq, 0, none⟩), .int .i64 a] w fun e w' => e = .returned (.bool (findM mq a).isSome) ∧ PX w0 w' gq gp (rest mq a) mp K := by
  obtain ⟨r, rv, h1, h2, h3, h4, h5⟩ := h
  refine (drop_q h1 a).mono ?_
  rintro e w' ⟨he, hq, ho⟩
  exact ⟨he, PX.stepQ h1 h2 h3 h4 h5 hq ho (.inl rfl)⟩
theorem px_fdrop (h : PX w0 w gq gp mq mp K) (a : Int) :
    Calls Try.prog 24 #[.pointer (some ⟨gp, 0, none⟩), .int .i64 a] w fun e w' => e = .returned (.bool (findM mp a).isSome) ∧ PX w0 w' gq gp mq (rest mp a) K := by
  obtain ⟨r, rv, h1, h2, h3, h4, h5⟩ := h
  refine (fdrop_any h2 h4.size a).mono ?_
  rintro e w' ⟨he, r', hq, ho, hn⟩
  exact ⟨he, PX.stepR h1 h2 h3 h4 h5 hq ho hn⟩
theorem px_due (h : PX w0 w gq gp mq mp K) (a : Int) :
    Calls Try.prog 12 #[.pointer (some ⟨gq, 0, none⟩), .int .i64 a] w fun e w' => e = .returned (.tuple #[.int .i64 ((findM mq a).map (·.2) |>.getD 0), .bool (findM mq a).isSome]) ∧ PX w0 w' gq gp mq mp K := by
  obtain ⟨r, rv, h1, h2, h3, h4, h5⟩ := h
  refine (due_q h1 a).mono ?_
  rintro e w' ⟨he, rfl⟩
  exact ⟨he, r, rv, h1, h2, h3, h4, h5⟩
theorem px_fdue (h : PX w0 w gq gp mq mp K) (a : Int) :
    Calls Try.prog 26 #[.pointer (some ⟨gp, 0, none⟩), .int .i64 a] w fun e w' => e = .returned (.tuple #[.int .i64 ((findM mp a).map (·.2) |>.getD 0), .bool (findM mp a).isSome]) ∧ PX w0 w' gq gp mq mp K := by
  have h0 := h
  obtain ⟨r, rv, h1, h2, h3, h4, h5⟩ := h
  refine (fdue_any h2 a).mono ?_
  rintro e w' ⟨he, n, rfl⟩
  exact ⟨he, h0.drewN n⟩
/-- What Take tells of a list, and what stays. -/
def takeR (m : List Tk) (now : Int) (y : Tk) (b : Bool) (m' : List Tk) : Prop :=
  ((m = [] ∨ ∃ t, IsMin m t ∧ now < t.2) ∧ y = (0, 0) ∧ b = false ∧ m' = m) ∨ (IsMin m y ∧ y.2 ≤ now ∧ b = true ∧ m' = rest m y.1)
theorem exists_takeR (m : List Tk) (now : Int) : ∃ y b m', takeR m now y b m' := by
  by_cases h0 : m = []
  · exact ⟨_, _, _, .inl ⟨.inl h0, rfl, rfl, rfl⟩⟩
  · obtain ⟨t, ht⟩ := exists_min h0
    by_cases hd : t.2 ≤ now
    · exact ⟨_, _, _, .inr ⟨ht, hd, rfl, rfl⟩⟩
    · exact ⟨_, _, _, .inl ⟨.inr ⟨t, ht, by omega⟩, rfl, rfl, rfl⟩⟩
theorem px_take {mq' : List Tk} {y : Tk} {b : Bool} (h : PX w0 w gq gp mq mp K) (now : Int) (ht : takeR mq now y b mq') :
    Calls Try.prog 15 #[.pointer (some ⟨gq, 0, none⟩), .int .i64 now] w fun e w' => e = .returned (.tuple #[.agg #[.int .i64 y.1, .int .i64 y.2], .bool b]) ∧ PX w0 w' gq gp mq' mp K := by
  obtain ⟨r, rv, h1, h2, h3, h4, h5⟩ := h
  rcases ht with ⟨hno, rfl, rfl, rfl⟩ | ⟨hm, hd, rfl, rfl⟩
  · refine (take_none h1 now hno).mono ?_
    rintro e w' ⟨he, hq, ho⟩
    exact ⟨he, PX.stepQ h1 h2 h3 h4 h5 hq ho (.inl rfl)⟩
  · refine (take_some h1 now hm hd).mono ?_
    rintro e w' ⟨he, hq, ho⟩
    exact ⟨he, PX.stepQ h1 h2 h3 h4 h5 hq ho (.inl rfl)⟩
theorem px_ftake {mp' : List Tk} {y : Tk} {b : Bool} (h : PX w0 w gq gp mq mp K) (now : Int) (ht : takeR mp now y b mp') :
    Calls Try.prog 25 #[.pointer (some ⟨gp, 0, none⟩), .int .i64 now] w fun e w' => e = .returned (.tuple #[.agg #[.int .i64 y.1, .int .i64 y.2], .bool b]) ∧ PX w0 w' gq gp mq mp' K := by
  have h0 := h
  obtain ⟨r, rv, h1, h2, h3, h4, h5⟩ := h
  rcases ht with ⟨hno, rfl, rfl, rfl⟩ | ⟨hm, hd, rfl, rfl⟩
  · have hf : ∃ t b, FirstOf mp' t b ∧ (b = false ∨ now < t.2) := by
      rcases hno with h | ⟨t, ht, hlt⟩
      · exact ⟨_, _, .inl ⟨h, rfl, rfl⟩, .inl rfl⟩
      · exact ⟨t, true, .inr ⟨ht, rfl⟩, .inr hlt⟩
    obtain ⟨t, b, hfo, hno'⟩ := hf
    refine (ftake_no h2 hfo now hno').mono ?_
    rintro e w' ⟨he, hb⟩
    exact ⟨he, h0.calm hb⟩
  · refine (ftake_yes h2 h4.size hm now hd).mono ?_
    rintro e w' ⟨he, r', hq, ho, hn⟩
    exact ⟨he, PX.stepR h1 h2 h3 h4 h5 hq ho hn⟩
theorem px_same {m : List Tk} (h : PX w0 w gq gp m m K) :
    Calls Try.prog 19 #[.pointer (some ⟨gq, 0, none⟩), .pointer (some ⟨gp, 0, none⟩)] w fun e w' => e = .returned (.bool true) ∧ PX w0 w' gq gp m m K := by
  have h0 := h
  obtain ⟨r, rv, h1, h2, h3, h4, h5⟩ := h
  refine (lsame_any h1 h2).mono ?_
  rintro e w' ⟨he, hb⟩
  exact ⟨he, h0.calm hb⟩
end
end Go.Proofs.Ytlccplpniidjfaa
