/- QueuePlays: whatever is done with a queue is answered as the document says: the walk. -/
import Derived.Test.YtlccplpniidjfaaQPX
import Derived.Test.YtlccplpniidjfaaQDos
namespace Go.Proofs.Ytlccplpniidjfaa
open Go.RowKit

theorem px_new {w w1 : World} {r : Option Nat} (hb : Below w.heap.size w w1) (h : QQ w1 w.heap.size w.heap.size [] r) : PX w (w1.alloc (.cells #[.slice none 0 0] 57)) w.heap.size w1.heap.size [] [] [] := by
  have hb2 : Below w1.heap.size w1 (w1.alloc (.cells #[.slice none 0 0] 57)) := (Below.refl _ _).alloc (Nat.le_refl _) _
  refine ⟨r, none, h.below hb2, (rq_new w1).base hb.size, fun x hx hs => ?_, hb.trans (hb2.mono hb.size), fun y hy => by simp at hy⟩
  have := (h.lt x hx).2
  rcases hs with rfl | hs
  · omega
  · cases hs

set_option maxRecDepth 100000 in
set_option maxHeartbeats 8000000 in
theorem plays_walk (w : World) (ao : Option Addr) (n c : Nat) (ds : List Call3) (hv : DosAt w (.slice ao n c) ds) (hnc : n ≤ c) (hc : c ≤ maxLen) :
    Calls Try.prog 9 #[.slice ao n c] w fun e w' => e = .returned (.bool true) ∧ Below w.heap.size w w' := by
  have hnl : n = ds.length := by obtain ⟨_, _, he, _⟩ := hv; injection he
  have HN := Lib.hid (new_nil w)
  have HV := Lib.hid hv
  have HNL := Lib.hid hnl
  have g2 : (n : Int) ≤ 9223372036854775807 := by unfold maxLen at hc; omega
  clear hv hnl hc hnc
  go_enter Try.func9, Try.ntmps9
  go_wp2_with (go_at_call 17; (with_reducible refine HN.out.mono ?_); rintro e w1 ⟨hb1, rfl, r, hq⟩)
  have HP0 := Lib.hid (px_new hb1 hq)
  clear hb1 hq
  go_loopw [6] (fun s wr => ∃ (i : Nat) (m : List Tk), i ≤ n ∧ i ≤ 150 ∧ s = .int .i64 (i : Nat) ∧ PX w wr w.heap.size w1.heap.size m m []) (fun s _ => 150 - (intOf s).toNat)
  case atStart => exact ⟨0, [], Nat.zero_le _, Nat.zero_le _, rfl, HP0.out⟩
  case round =>
    obtain ⟨i, m, hi, hi2, rfl, hp⟩ := hrel
    have HP := Lib.hid hp
    have HW := Lib.hid works_any
    by_cases hlt : i < n
    · by_cases h150 : i < 150
      · have l1 : (i : Int) < (n : Int) := by omega
        have l2 : (i : Int) < 150 := by omega
        obtain ⟨ao', c', he, hcells⟩ := HV.out.below hp.below
        injection he with he1 he2 he3
        subst he1 he3
        obtain ⟨⟨hr1, hr2⟩, b, off, rfl, hb, c0, c1, c2⟩ := hcells i (by rw [← HNL.out]; exact hlt)
        obtain ⟨x, hx⟩ : ∃ x, x = (nthD ds i).1 := ⟨_, rfl⟩
        obtain ⟨t, ht⟩ : ∃ t, t = (nthD ds i).2 := ⟨_, rfl⟩
        rw [← hx] at c0 hr1 hr2
        rw [← ht] at c1 c2
        have HX := Lib.hid (hp.more #[.int .i64 t.1, .int .i64 t.2])
        clear he2 hcells hp hx ht
        by_cases h0 : x.tmod 4 = 0
        · have k0 : (x.tmod 4 == 0) = true := by simpa using h0
          obtain ⟨z, hz⟩ : ∃ z, z = putR m t := ⟨_, rfl⟩
          have hput := px_put HX.out t
          rw [← hz] at hput
          have HPUT := Lib.hid hput
          have HZ := Lib.hid hz
          clear h0 hput hz
          go_wp2_with fail
          go_at_call 21
          refine HPUT.out.mono ?_
          rintro e w2 ⟨rfl, hp2⟩
          obtain ⟨d0, d1, dl⟩ := hp2.kept List.mem_cons_self
          have hput := px_fput hp2 t
          rw [← HZ.out] at hput
          have HF := Lib.hid hput
          clear hput hp2
          go_wp2_with fail
          go_at_call 23
          refine HF.out.mono ?_
          rintro e w3 ⟨rfl, hp3⟩
          have HS := Lib.hid (px_same hp3)
          clear hp3
          go_wp2_with (go_at_call 19; (with_reducible refine HS.out.mono ?_); rintro e w4 ⟨rfl, hp4⟩)
          go_roundw
          case rel => exact ⟨i + 1, _, by omega, by omega, by go_num, hp4.fewer (by simp)⟩
          case measure => (simp [intOf] <;> omega)
        · have k0 : (x.tmod 4 == 0) = false := by simpa using h0
          clear h0
          by_cases h1 : x.tmod 4 = 1
          · have k1 : (x.tmod 4 == 1) = true := by simpa using h1
            obtain ⟨bb, hbb⟩ : ∃ bb, bb = (findM m t.1).isSome := ⟨_, rfl⟩
            have HBB := Lib.hid hbb
            clear h1 hbb
            go_wp2_with fail
            go_region_with (first
              | (go_at_call 22; refine (px_drop HX.out.drew t.1).mono ?_; rintro e w2 ⟨rfl, hp2⟩; rw [← HBB.out]; obtain ⟨d0, d1, dl⟩ := hp2.kept List.mem_cons_self; have HX2 := Lib.hid hp2; clear hp2)
              | (go_at_call 24; refine (px_fdrop HX2.out t.1).mono ?_; rintro e w3 ⟨rfl, hp3⟩; rw [← HBB.out]; have HS := Lib.hid (px_same hp3); clear hp3))
            all_goals
              go_wp2_with (go_at_call 19; (with_reducible refine HS.out.mono ?_); rintro e w4 ⟨rfl, hp4⟩)
              go_roundw
              case rel => exact ⟨i + 1, _, by omega, by omega, by go_num, hp4.fewer (by simp)⟩
              case measure => (simp [intOf] <;> omega)
          · have k1 : (x.tmod 4 == 1) = false := by simpa using h1
            clear h1
            by_cases h2 : x.tmod 4 = 2
            · have k2 : (x.tmod 4 == 2) = true := by simpa using h2
              obtain ⟨y, bb, m', ht⟩ := exists_takeR m t.2
              have HT := Lib.hid (px_take HX.out t.2 ht)
              have HTR := Lib.hid ht
              clear h2 ht
              go_wp2_with fail
              go_at_call 15
              refine HT.out.mono ?_
              rintro e w2 ⟨rfl, hp2⟩
              have hp2' := hp2.more #[.int .i64 y.1, .int .i64 y.2]
              obtain ⟨d0, d1, dl⟩ := hp2.kept List.mem_cons_self
              have HF := Lib.hid (px_ftake hp2' t.2 HTR.out)
              clear hp2 hp2'
              go_wp2_with fail
              go_at_call 25
              refine HF.out.mono ?_
              rintro e w3 ⟨rfl, hp3⟩
              obtain ⟨d0, d1, dl⟩ := hp3.kept List.mem_cons_self
              have HS := Lib.hid (px_same (hp3.more #[.int .i64 y.1, .int .i64 y.2]))
              clear hp3
              go_wp2_with (go_at_call 19; (with_reducible refine HS.out.mono ?_); rintro e w4 ⟨rfl, hp4⟩)
              go_roundw
              case rel => exact ⟨i + 1, _, by omega, by omega, by go_num, hp4.fewer (by simp)⟩
              case measure => (simp [intOf] <;> omega)
            · have k2 : (x.tmod 4 == 2) = false := by simpa using h2
              obtain ⟨z, hz⟩ : ∃ z, z = ((findM m t.1).map (·.2) |>.getD 0) := ⟨_, rfl⟩
              obtain ⟨bb, hbb⟩ : ∃ bb, bb = (findM m t.1).isSome := ⟨_, rfl⟩
              have hdue := px_due HX.out t.1
              rw [← hz, ← hbb] at hdue
              have HD := Lib.hid hdue
              have HZ := Lib.hid (And.intro hz hbb)
              clear h2 hdue hz hbb
              go_wp2_with fail
              go_at_call 12
              refine HD.out.mono ?_
              rintro e w2 ⟨rfl, hp2⟩
              obtain ⟨d0, d1, dl⟩ := hp2.kept List.mem_cons_self
              have hdue := px_fdue hp2 t.1
              rw [← HZ.out.1, ← HZ.out.2] at hdue
              have HF := Lib.hid hdue
              clear hp2 hdue
              go_wp2_with fail
              go_at_call 26
              refine HF.out.mono ?_
              rintro e w3 ⟨rfl, hp3⟩
              have HS := Lib.hid (px_same hp3)
              clear hp3
              go_wp2_with (go_at_call 19; (with_reducible refine HS.out.mono ?_); rintro e w4 ⟨rfl, hp4⟩)
              go_roundw
              case rel => exact ⟨i + 1, _, by omega, by omega, by go_num, hp4.fewer (by simp)⟩
              case measure => (simp [intOf] <;> omega)
      · obtain rfl : i = 150 := by omega
        have l1 : (150 : Int) < (n : Int) := by omega
        clear hp h150 hlt
        go_wp2_with (go_at_call 14; (with_reducible refine (HW.out _).mono ?_); rintro e w6 ⟨rfl, hb6⟩)
        go_ret
        exact ⟨rfl, HP.out.below.trans (hb6.mono HP.out.below.size)⟩
    · obtain rfl : i = n := by omega
      clear hp hlt
      go_wp2_with (go_at_call 14; (with_reducible refine (HW.out _).mono ?_); rintro e w6 ⟨rfl, hb6⟩)
      go_ret
      exact ⟨rfl, HP.out.below.trans (hb6.mono HP.out.below.size)⟩
end Go.Proofs.Ytlccplpniidjfaa
