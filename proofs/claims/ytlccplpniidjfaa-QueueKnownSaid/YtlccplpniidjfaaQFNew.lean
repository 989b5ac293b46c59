/- The document's queue: New: the walk; New of too many ticks. -/
import Derived.Test.YtlccplpniidjfaaQRefPut2
namespace Go.Proofs.Ytlccplpniidjfaa
open Go.RowKit

theorem rq_new (w : World) : RQ (w.alloc (.cells #[.slice none 0 0] 57)) w.heap.size w.heap.size [] none :=
  ⟨.slice none 0 0, Blk.new w 57 _, World.ownsRow_nil _ _ _ _, rfl, Nat.le_refl _, List.Pairwise.nil, fun t ht => by simp at ht⟩

set_option maxRecDepth 100000 in
set_option maxHeartbeats 1000000 in
theorem fnew_long (w : World) (ao : Option Addr) (n c : Nat) (hn : 4096 < n) (hn2 : n ≤ 5000) :
    Calls Try.prog 18 #[.slice ao n c] w fun e w' => e = .returned (.tuple #[.pointer none, .int .i64 3]) ∧ w = w' := by
  have g0 : decide (4096 < (n : Int)) = true := by simp; omega
  go_enter Try.func18, Try.ntmps18
  go_wp2
  go_ret2
  exact ⟨rfl, rfl⟩
set_option maxRecDepth 100000 in
set_option maxHeartbeats 1000000 in
theorem new_long (w : World) (ao : Option Addr) (n c : Nat) (hn : 4096 < n) (hn2 : n ≤ 5000) :
    Calls Try.prog 17 #[.slice ao n c] w fun e w' => e = .returned (.tuple #[.pointer none, .int .i64 3]) ∧ w = w' := by
  have g0 : decide (4096 < (n : Int)) = true := by simp; omega
  go_enter Try.func17, Try.ntmps17
  go_wp2
  go_ret2
  exact ⟨rfl, rfl⟩

set_option maxRecDepth 100000 in
set_option maxHeartbeats 4000000 in
theorem fnew_any (w : World) (ao : Option Addr) (n c : Nat) (ts : List Tk) (hv : TicksAt w (.slice ao n c) ts) (hn : n ≤ 4096) :
    Calls Try.prog 18 #[.slice ao n c] w fun e w' => Below w.heap.size w w' ∧
      (((newGo ts []).1 = 0 ∧ e = .returned (.tuple #[.pointer (some ⟨w.heap.size, 0, none⟩), .int .i64 0]) ∧ ∃ rv, RQ w' w.heap.size w.heap.size (newGo ts []).2 rv) ∨
        ((newGo ts []).1 ≠ 0 ∧ e = .returned (.tuple #[.pointer none, .int .i64 (newGo ts []).1]))) := by
  have hnl : n = ts.length := by obtain ⟨_, _, he, _⟩ := hv; injection he
  have HV := Lib.hid hv
  have HQ0 := Lib.hid (rq_new w)
  have HB0 := Lib.hid (show Below w.heap.size w (w.alloc (.cells #[.slice none 0 0] 57)) from (Below.refl _ _).alloc (Nat.le_refl _) _)
  have HN := Lib.hid hnl
  clear hv hnl
  have g0 : decide (4096 < (n : Int)) = false := by simp; omega
  go_enter Try.func18, Try.ntmps18
  go_wp2
  go_loopw [5] (fun s wr => ∃ (k : Nat) (m : List Tk) (r : Option Nat), k ≤ n ∧ s = .int .i64 k ∧ RQ wr w.heap.size w.heap.size m r ∧ newGo (ts.drop k) m = newGo ts [] ∧ Below w.heap.size w wr) (fun s _ => n - (intOf s).toNat)
  case atStart => exact ⟨0, [], none, Nat.zero_le _, rfl, HQ0.out, by simp, HB0.out⟩
  case round =>
    obtain ⟨k, m, r, hk, rfl, hq, hgo, hbl⟩ := hrel
    have HQ := Lib.hid hq
    have HG := Lib.hid hgo
    have HBL := Lib.hid hbl
    clear hq hgo
    by_cases hlt : k < n
    · have hkl : k < ts.length := by rw [← HN.out]; exact hlt
      have htk := HV.out.below hbl
      have HTK := Lib.hid htk
      obtain ⟨ao', c', he, hcells⟩ := htk
      injection he with he1 he2 he3
      subst he1 he3
      obtain ⟨b, off, rfl, hb, c1, c2⟩ := hcells k hkl
      have HD := Lib.hid (newGo_drop hkl m)
      have HM := Lib.hid (fmay_any2 wr (nth ts k))
      have hlt' : (k : Int) < (n : Int) := by omega
      clear he2 hcells hkl hbl
      cases hm : mayT (nth ts k) with
      | false =>
        rw [hm] at HM
        have HE := Lib.hid (show newGo ts [] = (2, m) by rw [← HG.out, HD.out, hm]; rfl)
        clear hm
        go_wp2_with (go_at_call 33; (with_reducible refine HM.out.mono ?_); rintro e w1 ⟨rfl, hb1⟩)
        go_ret2
        refine ⟨HBL.out.trans (hb1.mono HBL.out.size), .inr ?_⟩
        rw [HE.out]
        exact ⟨(show (2 : Int) ≠ 0 by decide), rfl⟩
      | true =>
        rw [hm] at HD HM
        obtain ⟨t, ht⟩ : ∃ t, t = nth ts k := ⟨_, rfl⟩
        rw [← ht] at HD HM c1 c2 hm
        have HT := Lib.hid ht
        have HMT := Lib.hid hm
        clear hm ht
        go_wp2_with fail
        go_at_call 33
        refine HM.out.mono ?_
        rintro e w1 ⟨rfl, hb1⟩
        have d1 := (hb1.cell (p := ⟨b, off + k * 2, none⟩) hb).trans c1
        have d2 := (hb1.cell (p := ⟨b, off + k * 2 + 1, none⟩) hb).trans c2
        have hq1 := HQ.out.below hb1
        have HB1 := Lib.hid (HBL.out.trans (hb1.mono HBL.out.size))
        have HP := Lib.hid (fplace_any hq1 t.1)
        have HQ1 := Lib.hid hq1
        clear hb1 hq1 c1 c2
        go_wp2_with fail
        go_at_call 34
        refine HP.out.mono ?_
        rintro e w2 ⟨⟨i, hp, rfl⟩, q, rfl⟩
        have hf := hp.find HQ1.out.rising
        cases hc : isAt m t.1 i with
        | true =>
          rw [hc, if_pos rfl] at hf
          have HE := Lib.hid (show newGo ts [] = (6, m) by rw [← HG.out, HD.out, hf]; rfl)
          clear hf hp hc
          go_wp2
          go_ret2
          refine ⟨below_drewN HB1.out _, .inr ?_⟩
          rw [HE.out]
          exact ⟨(show (6 : Int) ≠ 0 by decide), rfl⟩
        | false =>
          rw [hc, if_neg (by simp)] at hf
          have HE := Lib.hid (show newGo (ts.drop (k + 1)) (putM m t) = newGo ts [] by rw [← HG.out, HD.out, hf]; rfl)
          have hpr : putR m t = (true, 0, Ytlccplpniidjfaa.putM m t) := by simp [putR, HMT.out, hf]
          have hpa := fput_any (HQ1.out.drewN q) HB1.out.size t
          rw [hpr] at hpa
          have HPA := Lib.hid hpa
          clear hf hp hc hpr hpa
          go_wp2_with fail
          go_at_call 23
          refine HPA.out.mono ?_
          rintro e w3 ⟨rfl, rv', hq3, ho3, hr3⟩
          have HQ3 := Lib.hid hq3
          have HB3 := Lib.hid ((below_drewN HB1.out q).trans (ho3.below (B := w.heap.size) (fun j hj => by have := hj; omega) HB1.out.size))
          clear hq3 ho3 hr3
          go_wp2
          go_roundw
          case rel => exact ⟨k + 1, putM m t, rv', by omega, by go_num, HQ3.out, HE.out, HB3.out⟩
          case measure => simp [intOf]; omega
    · obtain rfl : k = n := by omega
      have HE := Lib.hid (show newGo ts [] = (0, m) by rw [← HG.out, List.drop_of_length_le (by rw [← HN.out]; exact Nat.le_refl _)]; rfl)
      go_wp2
      go_ret2
      refine ⟨HBL.out, .inl ?_⟩
      rw [HE.out]
      exact ⟨rfl, rfl, r, HQ.out⟩
end Go.Proofs.Ytlccplpniidjfaa
