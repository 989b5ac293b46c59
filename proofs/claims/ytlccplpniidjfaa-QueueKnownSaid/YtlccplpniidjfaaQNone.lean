/- Queues that are none: nil, and the zero one: the walks. -/
import Derived.Test.YtlccplpniidjfaaQAgain
namespace Go.Proofs.Ytlccplpniidjfaa
open Go.RowKit

theorem zero_made : Try.zeroCells53[4097]? = some (.bool false) := by kernel_rfl
theorem is_empty {w : World} {g : Nat} (h : Blk w g 53 Try.zeroCells53) : Calls Try.prog 28 #[.pointer (some ⟨g, 0, none⟩)] w fun e w' => e = .returned (.bool false) ∧ w = w' := by
  have hc := h.cell 4097
  rw [zero_made] at hc
  clear h
  go_enter Try.func28, Try.ntmps28
  go_wp2
  go_ret
  exact ⟨rfl, rfl⟩
/-- Queues that are none. -/
def NoQ (w : World) (v : Value) : Prop := v = .pointer none ∨ ∃ g, v = .pointer (some ⟨g, 0, none⟩) ∧ Blk w g 53 Try.zeroCells53
theorem NoQ.below {w w' : World} {v : Value} (h : NoQ w v) (hb : Below w.heap.size w w') : NoQ w' v := by
  rcases h with h | ⟨g, h, hk⟩
  · exact .inl h
  · exact .inr ⟨g, h, hk.below hb hk.lt⟩
theorem is_no {w : World} {v : Value} (h : NoQ w v) : Calls Try.prog 28 #[v] w fun e w' => e = .returned (.bool false) ∧ w = w' := by
  rcases h with rfl | ⟨g, rfl, h⟩
  · exact is_nil w
  · exact is_empty h
set_option maxRecDepth 100000 in
set_option maxHeartbeats 1000000 in
theorem put_no {w : World} {v : Value} (h : NoQ w v) (a d : Int) :
    Calls Try.prog 21 #[v, .agg #[.int .i64 a, .int .i64 d]] w fun e w' => e = .returned (.tuple #[.bool false, .int .i64 1]) ∧ Below w.heap.size w w' := by
  have hb : Below w.heap.size w (w.alloc (.cells #[.int .i64 a, .int .i64 d] 24)) := (Below.refl _ _).alloc (Nat.le_refl _) _
  have HI := Lib.hid (is_no (h.below hb))
  have HB := Lib.hid hb
  clear h hb
  go_enter Try.func21, Try.ntmps21
  go_wp2_with (go_at_call 28; (with_reducible refine HI.out.mono ?_); rintro e w' ⟨rfl, rfl⟩)
  go_ret2
  exact ⟨rfl, HB.out⟩
set_option maxRecDepth 100000 in
set_option maxHeartbeats 1000000 in
theorem len_no {w : World} {v : Value} (h : NoQ w v) :
    Calls Try.prog 13 #[v] w fun e w' => e = .returned (.int .i64 0) ∧ w = w' := by
  have HI := Lib.hid (is_no h)
  clear h
  go_enter Try.func13, Try.ntmps13
  go_wp2_with (go_at_call 28; (with_reducible refine HI.out.mono ?_); rintro e w' ⟨rfl, rfl⟩)
  go_ret
  exact ⟨rfl, rfl⟩
set_option maxRecDepth 100000 in
set_option maxHeartbeats 1000000 in
theorem list_no {w : World} {v : Value} (h : NoQ w v) :
    Calls Try.prog 20 #[v] w fun e w' => e = .returned (.slice none 0 0) ∧ w = w' := by
  have HI := Lib.hid (is_no h)
  clear h
  go_enter Try.func20, Try.ntmps20
  go_wp2_with (go_at_call 28; (with_reducible refine HI.out.mono ?_); rintro e w' ⟨rfl, rfl⟩)
  go_ret
  exact ⟨rfl, rfl⟩
set_option maxRecDepth 100000 in
set_option maxHeartbeats 1000000 in
theorem place_no {w : World} {v : Value} (h : NoQ w v) (a : Int) :
    Calls Try.prog 27 #[v, .int .i64 a] w fun e w' => e = .returned (.int .i64 (-1)) ∧ w = w' := by
  have HI := Lib.hid (is_no h)
  clear h
  go_enter Try.func27, Try.ntmps27
  go_wp2_with (go_at_call 28; (with_reducible refine HI.out.mono ?_); rintro e w' ⟨rfl, rfl⟩)
  go_ret
  exact ⟨rfl, rfl⟩
set_option maxRecDepth 100000 in
set_option maxHeartbeats 1000000 in
theorem drop_no {w : World} {v : Value} (h : NoQ w v) (a : Int) :
    Calls Try.prog 22 #[v, .int .i64 a] w fun e w' => e = .returned (.bool false) ∧ w = w' := by
  have HI := Lib.hid (place_no h a)
  clear h
  go_enter Try.func22, Try.ntmps22
  go_wp2_with (go_at_call 27; (with_reducible refine HI.out.mono ?_); rintro e w' ⟨rfl, rfl⟩)
  go_ret
  exact ⟨rfl, rfl⟩

theorem first_none_ (w : World) : Calls Try.prog 16 #[.pointer none] w fun e w' => e = .returned (.tuple #[.agg #[.int .i64 0, .int .i64 0], .bool false]) ∧ Below w.heap.size w w' := first_nil w
/-- A queue, and ticks in blocks of their own. -/
def QX (w0 w : World) (g : Nat) (m : List Tk) (K : List (Nat × Array Value)) : Prop :=
  ∃ r, QQ w w0.heap.size g m r ∧ Below w0.heap.size w0 w ∧ ∀ y ∈ K, Blk w y.1 24 y.2 ∧ ¬ QF g r y.1
section
variable {w0 w w' : World} {g : Nat} {m : List Tk} {K : List (Nat × Array Value)}
theorem QX.below (h : QX w0 w g m K) : Below w0.heap.size w0 w := by
  obtain ⟨_, _, h, _⟩ := h
  exact h
theorem QX.kept (h : QX w0 w g m K) {x y : Value} {b : Nat} (hg : (b, #[x, y]) ∈ K) : w.cell? ⟨b, 0, none⟩ = some x ∧ b < w.heap.size := by
  obtain ⟨_, _, _, h⟩ := h
  exact ⟨(h _ hg).1.cell 0, (h _ hg).1.lt⟩
theorem QX.fewer {K' : List (Nat × Array Value)} (h : QX w0 w g m K) (hk : ∀ y ∈ K', y ∈ K) : QX w0 w g m K' := by
  obtain ⟨r, h1, h4, h5⟩ := h
  exact ⟨r, h1, h4, fun y hy => h5 y (hk y hy)⟩
theorem QX.calm (h : QX w0 w g m K) (hb : Below w.heap.size w w') : QX w0 w' g m K := by
  obtain ⟨r, h1, h4, h5⟩ := h
  exact ⟨r, h1.below hb, h4.trans (hb.mono h4.size), fun y hy => ⟨(h5 y hy).1.below hb (h5 y hy).1.lt, (h5 y hy).2⟩⟩
theorem QX.more (h : QX w0 w g m K) (cs : Array Value) : QX w0 (w.alloc (.cells cs 24)) g m ((w.heap.size, cs) :: K) := by
  have hb : Below w.heap.size w (w.alloc (.cells cs 24)) := (Below.refl _ _).alloc (Nat.le_refl _) _
  obtain ⟨r, h1, h4, h5⟩ := h
  refine ⟨r, h1.below hb, h4.trans (hb.mono h4.size), fun y hy => ?_⟩
  rcases List.mem_cons.1 hy with rfl | hy
  · exact ⟨Blk.new w _ _, fun hk => Nat.lt_irrefl _ (h1.lt _ hk).2⟩
  · exact ⟨(h5 y hy).1.below hb (h5 y hy).1.lt, (h5 y hy).2⟩
theorem QX.step {m' : List Tk} {r r' : Option Nat} (h1 : QQ w w0.heap.size g m r) (h4 : Below w0.heap.size w0 w) (h5 : ∀ y ∈ K, Blk w y.1 24 y.2 ∧ ¬ QF g r y.1)
    (hq : QQ w' w0.heap.size g m' r') (ho : Only w w' (QF g r)) (hn : RNew w r r') : QX w0 w' g m' K := by
  refine ⟨r', hq, h4.trans (ho.below (fun x hx => (h1.lt x hx).1) h4.size), fun y hy => ⟨(h5 y hy).1.only ho (h5 y hy).2, fun hx => ?_⟩⟩
  rcases hx with hx | hx
  · exact (h5 y hy).2 (.inl hx)
  · rcases hn with h | ⟨d, h, hd⟩
    · exact (h5 y hy).2 (.inr (by rw [← h]; exact hx))
    · rw [h] at hx
      injection hx with hx
      have := (h5 y hy).1.lt
      omega
theorem qx_put (h : QX w0 w g m K) (a d : Int) {z : Bool × Int × List Tk} (hz : putR m (a, d) = z) :
    Calls Try.prog 21 #[.pointer (some ⟨g, 0, none⟩), .agg #[.int .i64 a, .int .i64 d]] w fun e w' => e = .returned (.tuple #[.bool z.1, .int .i64 z.2.1]) ∧ QX w0 w' g z.2.2 K := by
  subst hz
  obtain ⟨r, h1, h4, h5⟩ := h
  refine (put_q h1 h4.size (a, d)).mono ?_
  rintro e w' ⟨he, r', hq, ho, hn⟩
  exact ⟨he, QX.step h1 h4 h5 hq ho hn⟩
theorem qx_take {m' : List Tk} (h : QX w0 w g m K) (now : Int) {t : Tk} (ht : IsMin m t) (hd : t.2 ≤ now) (hm : rest m t.1 = m') :
    Calls Try.prog 15 #[.pointer (some ⟨g, 0, none⟩), .int .i64 now] w fun e w' => e = .returned (.tuple #[.agg #[.int .i64 t.1, .int .i64 t.2], .bool true]) ∧ QX w0 w' g m' K := by
  subst hm
  obtain ⟨r, h1, h4, h5⟩ := h
  refine (take_some h1 now ht hd).mono ?_
  rintro e w' ⟨he, hq, ho⟩
  exact ⟨he, QX.step h1 h4 h5 hq ho (.inl rfl)⟩
theorem qx_take_no (h : QX w0 w g m K) (now : Int) (hno : m = [] ∨ ∃ t, IsMin m t ∧ now < t.2) :
    Calls Try.prog 15 #[.pointer (some ⟨g, 0, none⟩), .int .i64 now] w fun e w' => e = .returned (.tuple #[.agg #[.int .i64 0, .int .i64 0], .bool false]) ∧ QX w0 w' g m K := by
  obtain ⟨r, h1, h4, h5⟩ := h
  refine (take_none h1 now hno).mono ?_
  rintro e w' ⟨he, hq, ho⟩
  exact ⟨he, QX.step h1 h4 h5 hq ho (.inl rfl)⟩
theorem qx_first (h : QX w0 w g m K) {t : Tk} (ht : IsMin m t) :
    Calls Try.prog 16 #[.pointer (some ⟨g, 0, none⟩)] w fun e w' => e = .returned (.tuple #[.agg #[.int .i64 t.1, .int .i64 t.2], .bool true]) ∧ Below w.heap.size w w' := by
  obtain ⟨r, h1, h4, h5⟩ := h
  exact first_is h1 ht
theorem qx_list (h : QX w0 w g m K) :
    Calls Try.prog 20 #[.pointer (some ⟨g, 0, none⟩)] w fun e w' => Below w.heap.size w w' ∧ ∃ v, e = .returned v ∧ w'.ownsRow w.heap.size 24 2 v m.length (tcells m) := by
  obtain ⟨r, h1, h4, h5⟩ := h
  exact list_q h1
end
end Go.Proofs.Ytlccplpniidjfaa
