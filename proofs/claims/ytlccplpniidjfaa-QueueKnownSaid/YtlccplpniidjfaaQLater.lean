/- QueueLater: nothing is taken ahead of its time, and what is left is due later: the walk. -/
import Derived.Test.YtlccplpniidjfaaQLaw
namespace Go.Proofs.Ytlccplpniidjfaa
open Go.RowKit

theorem exists_min : ∀ {m : List Tk}, m ≠ [] → ∃ t, IsMin m t
  | [x], _ => ⟨x, by simp, fun y hy => by simp at hy; rw [hy]; exact lessT_irrefl _⟩
  | x :: y :: m, _ => by
    obtain ⟨t, ht, hmin⟩ := exists_min (m := y :: m) (by simp)
    cases hl : lessT x t with
    | true =>
      refine ⟨x, List.mem_cons_self, fun z hz => ?_⟩
      rcases List.mem_cons.1 hz with rfl | hz
      · exact lessT_irrefl _
      · exact notless_trans (lessT_asymm hl) (hmin z hz)
    | false =>
      refine ⟨t, List.mem_cons_of_mem _ ht, fun z hz => ?_⟩
      rcases List.mem_cons.1 hz with rfl | hz
      · exact hl
      · exact hmin z hz
theorem take_none {w : World} {base g : Nat} {m : List Tk} {r : Option Nat} (h : QQ w base g m r) (now : Int) (hno : m = [] ∨ ∃ t, IsMin m t ∧ now < t.2) :
    Calls Try.prog 15 #[.pointer (some ⟨g, 0, none⟩), .int .i64 now] w fun e w' => e = .returned (.tuple #[.agg #[.int .i64 0, .int .i64 0], .bool false]) ∧ QQ w' base g m r ∧ Only w w' (QF g r) := by
  refine (take_q h now).mono ?_
  rintro e w' ⟨h1, ho⟩
  rcases h1 with ⟨_, he, hq⟩ | ⟨t, ht, hd, _⟩
  · exact ⟨he, hq, ho⟩
  · rcases hno with rfl | ⟨u, hu, hlt⟩
    · exact absurd ht.1 (by simp)
    · rw [min_unique ht hu] at hd; omega
theorem take_some {w : World} {base g : Nat} {m : List Tk} {r : Option Nat} (h : QQ w base g m r) (now : Int) {t : Tk} (ht : IsMin m t) (hd : t.2 ≤ now) :
    Calls Try.prog 15 #[.pointer (some ⟨g, 0, none⟩), .int .i64 now] w fun e w' => e = .returned (.tuple #[.agg #[.int .i64 t.1, .int .i64 t.2], .bool true]) ∧ QQ w' base g (rest m t.1) r ∧ Only w w' (QF g r) := by
  refine (take_q h now).mono ?_
  rintro e w' ⟨h1, ho⟩
  rcases h1 with ⟨hno, _⟩ | ⟨u, hu, _, he, hq⟩
  · rcases hno with rfl | ⟨u, hu, hlt⟩
    · exact absurd ht.1 (by simp)
    · rw [min_unique hu ht] at hlt; omega
  · rw [min_unique hu ht] at he hq
    exact ⟨he, hq, ho⟩
theorem first_none {w : World} {base g : Nat} {r : Option Nat} (h : QQ w base g [] r) :
    Calls Try.prog 16 #[.pointer (some ⟨g, 0, none⟩)] w fun e w' => e = .returned (.tuple #[.agg #[.int .i64 0, .int .i64 0], .bool false]) ∧ Below w.heap.size w w' := by
  refine (first_q h).mono ?_
  rintro e w' ⟨h1, hb⟩
  rcases h1 with ⟨_, he⟩ | ⟨u, hu, _⟩
  · exact ⟨he, hb⟩
  · exact absurd hu.1 (by simp)
theorem rest_length {m : List Tk} {t : Tk} (hm : Rising m) (ht : t ∈ m) : (rest m t.1).length + 1 = m.length := by
  have hn : (m.map fun t => t.1).Nodup := by
    rw [List.nodup_iff_pairwise_ne]
    exact (List.pairwise_map.2 (hm.imp (fun h => Int.ne_of_lt h)))
  have := (perm_rest hn ht).length_eq
  simpa using this.symm
theorem QQ.rising {w : World} {base g : Nat} {m : List Tk} {r : Option Nat} (h : QQ w base g m r) : Rising m := by obtain ⟨_, _, _, _, h, _⟩ := h; exact h
theorem putM_length (m : List Tk) (t : Tk) : (putM m t).length ≤ m.length + 1 := by
  induction m with
  | nil => simp [putM]
  | cons x m ih =>
    unfold putM
    split
    · simp
    · split
      · simp
      · simp; omega
theorem putR_length (m : List Tk) (t : Tk) : (putR m t).2.2.length ≤ m.length + 1 := by
  have := putM_length m t
  unfold putR
  split
  · split
    · split
      · simp
      · exact this
    · exact this
  · simp
theorem putAll_length (ts : List Tk) : ∀ m, (putAll ts m).length ≤ m.length + ts.length := by
  unfold putAll
  induction ts with
  | nil => intro m; simp
  | cons t ts ih =>
    intro m
    have := ih (putR m t).2.2
    have := putR_length m t
    simp only [List.foldl_cons, List.length_cons]
    omega
theorem TicksAt.take {w : World} {ao : Option Addr} {n c : Nat} {ts : List Tk} (h : TicksAt w (.slice ao n c) ts) {k : Nat} (hk : k ≤ n) : TicksAt w (.slice ao k c) (ts.take k) := by
  obtain ⟨ao', c', he, hc⟩ := h
  injection he with h1 h2 h3
  subst h1 h3
  have hl : (ts.take k).length = k := by simp; omega
  refine ⟨ao, c, by rw [hl], fun i hi => ?_⟩
  rw [hl] at hi
  obtain ⟨b, off, h3, h4, h5, h6⟩ := hc i (by omega)
  rw [nth_take hi]
  exact ⟨b, off, h3, h4, h5, h6⟩
/-- The least of a slice's length and a bound. -/
theorem min_law (n m : Nat) (W : World) : (Builtin.min_ #[3, 3] 3 #[.int .i64 (n : Int), .int .i64 (m : Int)]).run Try.prog W = .ok (.int .i64 ((min n m : Nat) : Int)) W := by
  simp [Builtin.min_, Builtin.min2]
  omega

set_option maxRecDepth 100000 in
set_option maxHeartbeats 2000000 in
theorem later_walk (w : World) (ao : Option Addr) (n c : Nat) (ts : List Tk) (now : Int) (hv : TicksAt w (.slice ao n c) ts) (hnc : n ≤ c) (hn : n * 16 ≤ 140737488351232) (hc : c ≤ maxLen) :
    Calls Try.prog 5 #[.slice ao n c, .int .i64 now] w fun e w' => e = .returned (.bool true) ∧ Below w.heap.size w w' := by
  obtain ⟨k, hk⟩ : ∃ k, k = min n 200 := ⟨_, rfl⟩
  have hmn : ∀ W, (Builtin.min_ #[3, 3] 3 #[.int .i64 (n : Int), .int .i64 200]).run Try.prog W = .ok (.int .i64 (k : Int)) W := fun W => by rw [hk]; exact min_law n 200 W
  have hkn : k ≤ n := by omega
  have hk2 : k ≤ 200 := by omega
  have hlen := putAll_length (ts.take k) []
  have hnl : n = ts.length := by obtain ⟨_, _, he, _⟩ := hv; injection he
  have HLEN := Lib.hid (show (putAll (ts.take k) []).length ≤ 200 by simp at hlen; omega)
  have HPUT := Lib.hid (lput_any w ao k c _ (hv.take hkn) (by omega))
  have g1 : (k : Int) ≤ (c : Int) := by omega
  have g2 : (c : Int) ≤ 9223372036854775807 := by unfold maxLen at hc; omega
  generalize putAll (ts.take k) [] = m0 at HLEN HPUT
  clear hv hk hlen hnl hc
  go_enter Try.func5, Try.ntmps5
  go_wp2_with (go_at_call 11; (with_reducible refine HPUT.out.mono ?_); rintro e w1 ⟨hb1, rfl, r, hq⟩)
  go_loopw [6] (fun s wr => ∃ (j : Nat) (m : List Tk) (r : Option Nat), j + m.length ≤ 200 ∧ s = .int .i64 j ∧ QQ wr w.heap.size w.heap.size m r ∧ Below w.heap.size w wr) (fun s _ => 201 - (intOf s).toNat)
  case atStart => exact ⟨0, m0, r, by have := HLEN.out; omega, rfl, hq, hb1⟩
  case round =>
    obtain ⟨j, m, r, hj, rfl, hq, hbl⟩ := hrel
    have HQ := Lib.hid hq
    have HBL := Lib.hid hbl
    have g3 : (j : Int) < 201 := by omega
    have hcase : (m = [] ∨ ∃ t, IsMin m t ∧ now < t.2) ∨ ∃ t, IsMin m t ∧ t.2 ≤ now := by
      by_cases h0 : m = []
      · exact .inl (.inl h0)
      · obtain ⟨t, ht⟩ := exists_min h0
        by_cases hd : t.2 ≤ now
        · exact .inr ⟨t, ht, hd⟩
        · exact .inl (.inr ⟨t, ht, by omega⟩)
    rcases hcase with hno | ⟨t, ht, hd⟩
    · have HT := Lib.hid (take_none hq now hno)
      have HNO := Lib.hid hno
      clear hq hbl hno hb1
      go_wp2_with (go_at_call 15; (with_reducible refine HT.out.mono ?_); rintro e w2 ⟨rfl, hq2, ho2⟩)
      have hbl2 := only_below HBL.out HQ.out ho2
      have hq3 := hq2.below ((Below.refl _ _).alloc (Nat.le_refl _) (.cells #[.int .i64 0, .int .i64 0] 24))
      have HBL3 := Lib.hid (hbl2.alloc hbl2.size (.cells #[.int .i64 0, .int .i64 0] 24))
      have HW := Lib.hid (works_any)
      by_cases h0 : m = []
      · subst h0
        have HF := Lib.hid (first_none hq3)
        clear hq3 hbl2 ho2 hq2
        go_wp2_with fail
        go_at_call 16
        refine HF.out.mono ?_
        rintro e w3 ⟨rfl, hb3⟩
        have HB3 := Lib.hid ((HBL3.out.trans (hb3.mono HBL3.out.size)).alloc (Nat.le_trans HBL3.out.size hb3.size) (.cells #[.int .i64 0, .int .i64 0] 24))
        clear hb3
        go_wp2_with (go_at_call 14; (with_reducible refine (HW.out _).mono ?_); rintro e w4 ⟨rfl, hb4⟩)
        go_ret
        exact ⟨rfl, HB3.out.trans (hb4.mono HB3.out.size)⟩
      · obtain ⟨t, ht, hlt⟩ : ∃ t, IsMin m t ∧ now < t.2 := HNO.out.elim (fun h => absurd h h0) id
        have HF := Lib.hid (first_is hq3 ht)
        have hlt' : decide (now < t.2) = true := by simpa using hlt
        clear hq3 hbl2 ho2 hq2 ht hlt h0
        go_wp2_with fail
        go_at_call 16
        refine HF.out.mono ?_
        rintro e w3 ⟨rfl, hb3⟩
        have HB3 := Lib.hid ((HBL3.out.trans (hb3.mono HBL3.out.size)).alloc (Nat.le_trans HBL3.out.size hb3.size) (.cells #[.int .i64 t.1, .int .i64 t.2] 24))
        clear hb3
        go_wp2_with (go_at_call 14; (with_reducible refine (HW.out _).mono ?_); rintro e w4 ⟨rfl, hb4⟩)
        go_ret
        exact ⟨rfl, HB3.out.trans (hb4.mono HB3.out.size)⟩
    · have HT := Lib.hid (take_some hq now ht hd)
      have hrl := rest_length hq.rising ht.1
      have hd' : decide (now < t.2) = false := by simp; omega
      clear hq hbl ht hb1
      go_wp2_with (go_at_call 15; (with_reducible refine HT.out.mono ?_); rintro e w2 ⟨rfl, hq2, ho2⟩)
      go_roundw
      case rel =>
        have hbl2 := only_below HBL.out HQ.out ho2
        exact ⟨j + 1, rest m t.1, r, by omega, by go_num, hq2.below ((Below.refl _ _).alloc (Nat.le_refl _) _), hbl2.alloc hbl2.size _⟩
      case measure => simp [intOf]; omega
end Go.Proofs.Ytlccplpniidjfaa
