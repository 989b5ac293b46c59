/- QueueAgain: a queue of another one's list is taken from likewise: the walk. -/
import Derived.Test.YtlccplpniidjfaaQMakes
namespace Go.Proofs.Ytlccplpniidjfaa
open Go.RowKit

theorem putM_last : ∀ {m : List Tk} {t : Tk}, (∀ x ∈ m, x.1 < t.1) → putM m t = m ++ [t]
  | [], _, _ => rfl
  | x :: m, t, h => by
    have hx := h x List.mem_cons_self
    unfold putM
    rw [if_neg (by omega), if_neg (by omega), putM_last (fun y hy => h y (List.mem_cons_of_mem _ hy))]
    rfl
theorem newGo_rising : ∀ (ts acc : List Tk), Rising (acc ++ ts) → (∀ t ∈ ts, mayT t = true) → newGo ts acc = (0, acc ++ ts)
  | [], acc, _, _ => by simp [newGo]
  | t :: ts, acc, hr, hm => by
    have hlt : ∀ x ∈ acc, x.1 < t.1 := fun x hx => (List.pairwise_append.1 hr).2.2 x hx t List.mem_cons_self
    have hf : findM acc t.1 = none := by
      unfold findM
      rw [List.find?_eq_none]
      intro x hx
      have := hlt x hx
      simp
      omega
    unfold newGo
    rw [if_pos (hm t List.mem_cons_self), hf, putM_last hlt]
    have := newGo_rising ts (acc ++ [t]) (by simpa using hr) (fun x hx => hm x (List.mem_cons_of_mem _ hx))
    simpa using this
theorem QQ.may_ {w : World} {base g : Nat} {m : List Tk} {r : Option Nat} (h : QQ w base g m r) : ∀ t ∈ m, mayT t = true := by
  obtain ⟨_, _, _, _, _, h⟩ := h
  exact h

set_option maxRecDepth 100000 in
set_option maxHeartbeats 4000000 in
theorem again_walk (w : World) (ao : Option Addr) (n c : Nat) (ts : List Tk) (hv : TicksAt w (.slice ao n c) ts) (hnc : n ≤ c) (hc : c ≤ maxLen) :
    Calls Try.prog 7 #[.slice ao n c] w fun e w' => e = .returned (.bool true) ∧ Below w.heap.size w w' := by
  obtain ⟨k, hk⟩ : ∃ k, k = min n 200 := ⟨_, rfl⟩
  have hmn : ∀ W, (Builtin.min_ #[3, 3] 3 #[.int .i64 (n : Int), .int .i64 200]).run Try.prog W = .ok (.int .i64 (k : Int)) W := fun W => by rw [hk]; exact min_law n 200 W
  have hkn : k ≤ n := by omega
  have hk2 : k ≤ 200 := by omega
  have hlen := putAll_length (ts.take k) []
  have HLEN := Lib.hid (show (putAll (ts.take k) []).length ≤ 200 by simp at hlen; omega)
  have HPUT := Lib.hid (lput_any w ao k c _ (hv.take hkn) (by omega))
  have g1 : (k : Int) ≤ (c : Int) := by omega
  have g2 : (c : Int) ≤ 9223372036854775807 := by unfold maxLen at hc; omega
  generalize putAll (ts.take k) [] = m0 at HLEN HPUT
  clear hv hk hlen hc
  go_enter Try.func7, Try.ntmps7
  go_wp2_with (go_at_call 11; (with_reducible refine HPUT.out.mono ?_); rintro e w1 ⟨hb1, rfl, r, hq⟩)
  have HLI := Lib.hid (list_q hq)
  have HQ1 := Lib.hid hq
  have HB1 := Lib.hid hb1
  clear hq hb1
  go_at_call 20
  refine HLI.out.mono ?_
  rintro e w2 ⟨hb2, v, rfl, hown⟩
  obtain ⟨htk, ao2, c2, rfl⟩ := own_ticks hown
  have hnew := new_any w2 ao2 m0.length c2 m0 htk (by have := HLEN.out; omega)
  rw [newGo_rising m0 [] (by simpa using HQ1.out.rising) HQ1.out.may_] at hnew
  have HN := Lib.hid hnew
  have HB2 := Lib.hid (HB1.out.trans (hb2.mono HB1.out.size))
  have HQ2 := Lib.hid (HQ1.out.below hb2)
  have HLT := Lib.hid (fun x hx => ((HQ1.out.below hb2).lt x hx).2)
  clear hb2 hown htk hnew
  go_wp2_with fail
  go_at_call 17
  refine HN.out.mono ?_
  rintro e w3 ⟨hb3, ⟨-, rfl, r2, hp3⟩ | ⟨h, -⟩⟩
  case inr => exact absurd rfl h
  have hp3 : QQ w3 w2.heap.size w2.heap.size m0 r2 := by simpa using hp3
  have HP3 := Lib.hid hp3
  have HQ3 := Lib.hid (HQ2.out.below hb3)
  have HB3 := Lib.hid (HB2.out.trans (hb3.mono HB2.out.size))
  clear hp3 hb3
  go_wp2
  go_loopw [6] (fun s wr => ∃ (j : Nat) (m : List Tk), j + m.length ≤ 200 ∧ s = .int .i64 j ∧ QQ wr w.heap.size w.heap.size m r ∧ QQ wr w2.heap.size w2.heap.size m r2 ∧ Below w.heap.size w wr) (fun s _ => 201 - (intOf s).toNat)
  case atStart => exact ⟨0, m0, by have := HLEN.out; omega, rfl, HQ3.out, HP3.out, HB3.out⟩
  case round =>
    obtain ⟨j, m, hj, rfl, hq, hp, hbl⟩ := hrel
    have HQ := Lib.hid hq
    have HP := Lib.hid hp
    have HBL := Lib.hid hbl
    have g3 : (j : Int) < 201 := by omega
    by_cases h0 : m = []
    · subst h0
      have HT := Lib.hid (take_none hq 2199023255552 (.inl rfl))
      clear hq hp hbl
      go_wp2_with fail
      go_at_call 15
      refine HT.out.mono ?_
      rintro e w4 ⟨rfl, hq4, ho4⟩
      have hp4 := HP.out.only ho4 (fun x hx hs => by have h1 := HLT.out x hs; have h2 := (HP.out.lt x hx).1; omega)
      have hbl4 := only_below HBL.out HQ.out ho4
      have hba : Below w4.heap.size w4 (w4.alloc (.cells #[.int .i64 0, .int .i64 0] 24)) := (Below.refl _ _).alloc (Nat.le_refl _) _
      have HQ5 := Lib.hid (hq4.below hba)
      have HP5 := Lib.hid (hp4.below hba)
      have HBL5 := Lib.hid (hbl4.trans (hba.mono hbl4.size))
      have HT2 := Lib.hid (take_none HP5.out 2199023255552 (.inl rfl))
      have HK := Lib.hid (Blk.new w4 24 #[.int .i64 0, .int .i64 0])
      have HLTA := Lib.hid (fun x hx => ((hp4.lt x hx).2))
      clear hq4 ho4 hp4 hbl4 hba
      go_wp2_with fail
      go_at_call 15
      refine HT2.out.mono ?_
      rintro e w6 ⟨rfl, hp6, ho6⟩
      have hk6 : Blk w6 w4.heap.size 24 #[.int .i64 0, .int .i64 0] := by
        unfold Blk
        rw [ho6.block _ HK.out.lt (fun h => absurd (HLTA.out _ h) (Nat.lt_irrefl _))]
        exact HK.out
      obtain ⟨k0, k1, -, -⟩ := hk6.tick
      have hq6 := HQ5.out.only ho6 (fun x hx hs => by have h1 := HLT.out x hx; have h2 := (HP5.out.lt x hs).1; omega)
      have hbl6 : Below w.heap.size w w6 := HBL5.out.trans (ho6.below (fun x hx => Nat.le_trans HB2.out.size (HP5.out.lt x hx).1) HBL5.out.size)
      have hk6l := hk6.lt
      have hba : Below w6.heap.size w6 (w6.alloc (.cells #[.int .i64 0, .int .i64 0] 24)) := (Below.refl _ _).alloc (Nat.le_refl _) _
      have HQ7 := Lib.hid (hq6.below hba)
      have HP7 := Lib.hid (hp6.below hba)
      have HBL7 := Lib.hid (hbl6.trans (hba.mono hbl6.size))
      have HW := Lib.hid (works_any)
      clear hp6 ho6 hk6 hq6 hbl6 hba
      have HL1 := Lib.hid (len_zero HQ7.out)
      have HL2 := Lib.hid (len_zero HP7.out)
      go_wp2_with (first | (go_at_call 13; (with_reducible refine HL1.out.mono ?_); rintro e w' ⟨rfl, rfl⟩) | (go_at_call 13; (with_reducible refine HL2.out.mono ?_); rintro e w' ⟨rfl, rfl⟩) | (go_at_call 14; (with_reducible refine (HW.out _).mono ?_); rintro e w8 ⟨rfl, hb8⟩))
      go_ret
      exact ⟨rfl, HBL7.out.trans (hb8.mono HBL7.out.size)⟩
    · obtain ⟨t, ht⟩ := exists_min h0
      have htm := mayT_iff.1 (hq.may_ t ht.1)
      have HRL := Lib.hid (rest_length hq.rising ht.1)
      have HMIN := Lib.hid ht
      have HD := Lib.hid (show t.2 ≤ 2199023255552 by omega)
      have HT := Lib.hid (take_some hq 2199023255552 ht (by omega))
      clear hq hp hbl ht htm h0
      go_wp2_with fail
      go_at_call 15
      refine HT.out.mono ?_
      rintro e w4 ⟨rfl, hq4, ho4⟩
      have hp4 := HP.out.only ho4 (fun x hx hs => by have h1 := HLT.out x hs; have h2 := (HP.out.lt x hx).1; omega)
      have hbl4 := only_below HBL.out HQ.out ho4
      have hba : Below w4.heap.size w4 (w4.alloc (.cells #[.int .i64 t.1, .int .i64 t.2] 24)) := (Below.refl _ _).alloc (Nat.le_refl _) _
      have HQ5 := Lib.hid (hq4.below hba)
      have HP5 := Lib.hid (hp4.below hba)
      have HBL5 := Lib.hid (hbl4.trans (hba.mono hbl4.size))
      have HT2 := Lib.hid (take_some HP5.out 2199023255552 HMIN.out HD.out)
      have HK := Lib.hid (Blk.new w4 24 #[.int .i64 t.1, .int .i64 t.2])
      have HLTA := Lib.hid (fun x hx => ((hp4.lt x hx).2))
      clear hq4 ho4 hp4 hbl4 hba
      go_wp2_with fail
      go_at_call 15
      refine HT2.out.mono ?_
      rintro e w6 ⟨rfl, hp6, ho6⟩
      have hk6 : Blk w6 w4.heap.size 24 #[.int .i64 t.1, .int .i64 t.2] := by
        unfold Blk
        rw [ho6.block _ HK.out.lt (fun h => absurd (HLTA.out _ h) (Nat.lt_irrefl _))]
        exact HK.out
      obtain ⟨k0, k1, -, -⟩ := hk6.tick
      have hq6 := HQ5.out.only ho6 (fun x hx hs => by have h1 := HLT.out x hx; have h2 := (HP5.out.lt x hs).1; omega)
      have hbl6 : Below w.heap.size w w6 := HBL5.out.trans (ho6.below (fun x hx => Nat.le_trans HB2.out.size (HP5.out.lt x hx).1) HBL5.out.size)
      have hk6l := hk6.lt
      have hba : Below w6.heap.size w6 (w6.alloc (.cells #[.int .i64 t.1, .int .i64 t.2] 24)) := (Below.refl _ _).alloc (Nat.le_refl _) _
      have HQ7 := Lib.hid (hq6.below hba)
      have HP7 := Lib.hid (hp6.below hba)
      have HBL7 := Lib.hid (hbl6.trans (hba.mono hbl6.size))
      clear hp6 ho6 hk6 hq6 hbl6 hba
      go_wp2
      go_roundw
      case rel => exact ⟨j + 1, rest m t.1, by have := HRL.out; omega, by go_num, HQ7.out, HP7.out, HBL7.out⟩
      case measure => simp [intOf]; omega
end Go.Proofs.Ytlccplpniidjfaa
