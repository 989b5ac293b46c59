/- The laws' own helpers: put, works: the walks. -/
import Derived.Test.YtlccplpniidjfaaQNew
namespace Go.Proofs.Ytlccplpniidjfaa
open Go.RowKit

theorem ticks_nil (w : World) : TicksAt w (.slice none 0 0) [] := ⟨none, 0, rfl, fun i hi => by simp at hi⟩
theorem new_nil (w : World) :
    Calls Try.prog 17 #[.slice none 0 0] w fun e w' => Below w.heap.size w w' ∧ e = .returned (.tuple #[.pointer (some ⟨w.heap.size, 0, none⟩), .int .i64 0]) ∧ ∃ r, QQ w' w.heap.size w.heap.size [] r := by
  refine (new_any w none 0 0 [] (ticks_nil w) (by decide)).mono ?_
  rintro e w' ⟨hb, h⟩
  rcases h with ⟨_, he, hq⟩ | ⟨h, _⟩
  · exact ⟨hb, he, hq⟩
  · exact absurd rfl h

def putAll (ts : List Tk) (m : List Tk) : List Tk := ts.foldl (fun m t => (putR m t).2.2) m
theorem putAll_take (ts : List Tk) (k : Nat) (h : k < ts.length) : putAll (ts.take (k + 1)) [] = (putR (putAll (ts.take k) []) (nth ts k)).2.2 := by
  unfold putAll
  rw [List.take_succ_eq_append_getElem h, List.foldl_append, nth_get h]; rfl

/-- Behind a call that keeps all but the queue, what was there ahead of it is as it was. -/
theorem only_below {w w1 w2 : World} {g : Nat} {m : List Tk} {r : Option Nat} (hb : Below w.heap.size w w1) (hq : QQ w1 w.heap.size g m r) (ho : Only w1 w2 (QF g r)) : Below w.heap.size w w2 :=
  hb.trans (ho.below (fun k hk => (hq.lt k hk).1) hb.size)

set_option maxRecDepth 100000 in
set_option maxHeartbeats 1000000 in
theorem lput_any (w : World) (ao : Option Addr) (n c : Nat) (ts : List Tk) (hv : TicksAt w (.slice ao n c) ts) (hn : n ≤ 1000000) :
    Calls Try.prog 11 #[.slice ao n c] w fun e w' => Below w.heap.size w w' ∧ e = .returned (.pointer (some ⟨w.heap.size, 0, none⟩)) ∧ ∃ r, QQ w' w.heap.size w.heap.size (putAll ts []) r := by
  have hnl : n = ts.length := by obtain ⟨_, _, he, _⟩ := hv; injection he
  have HV := Lib.hid hv
  have HN := Lib.hid hnl
  have HNEW := Lib.hid (new_nil w)
  clear hv hnl
  go_enter Try.func11, Try.ntmps11
  go_wp2_with (go_at_call 17; (with_reducible refine HNEW.out.mono ?_); rintro e w0 ⟨hb0, rfl, r0, hq0⟩)
  go_loopw [5] (fun s wr => ∃ (k : Nat) (r : Option Nat), k ≤ n ∧ s = .int .i64 k ∧ QQ wr w.heap.size w.heap.size (putAll (ts.take k) []) r ∧ Below w.heap.size w wr) (fun s _ => n - (intOf s).toNat)
  case atStart => exact ⟨0, r0, Nat.zero_le _, rfl, hq0, hb0⟩
  case round =>
    obtain ⟨k, r, hk, rfl, hq, hbl⟩ := hrel
    have HQ := Lib.hid hq
    have HBL := Lib.hid hbl
    clear hq
    by_cases hlt : k < n
    · have hkl : k < ts.length := by rw [← HN.out]; exact hlt
      obtain ⟨ao', c', he, hcells⟩ := HV.out.below hbl
      injection he with he1 he2 he3
      subst he1 he3
      obtain ⟨b, off, rfl, hb, c1, c2⟩ := hcells k hkl
      have HP := Lib.hid (put_q HQ.out hbl.size (nth ts k))
      have HT := Lib.hid (putAll_take ts k hkl)
      have hlt' : (k : Int) < (n : Int) := by omega
      clear he2 hcells hkl hbl
      go_wp2_with (go_at_call 21; (with_reducible refine HP.out.mono ?_); rintro e w1 ⟨rfl, r', hq', ho', hr'⟩)
      go_roundw
      case rel => exact ⟨k + 1, r', by omega, by go_num, by rw [HT.out]; exact hq', only_below HBL.out HQ.out ho'⟩
      case measure => simp [intOf]; omega
    · obtain rfl : k = n := by omega
      have HE := Lib.hid (show ts.take k = ts by rw [HN.out]; exact List.take_length)
      go_wp2
      go_ret
      refine ⟨HBL.out, rfl, r, ?_⟩
      have := HQ.out
      rw [HE.out] at this
      exact this

theorem first_is {w : World} {base g : Nat} {m : List Tk} {r : Option Nat} (h : QQ w base g m r) {t : Tk} (ht : IsMin m t) :
    Calls Try.prog 16 #[.pointer (some ⟨g, 0, none⟩)] w fun e w' => e = .returned (.tuple #[.agg #[.int .i64 t.1, .int .i64 t.2], .bool true]) ∧ Below w.heap.size w w' := by
  refine (first_q h).mono ?_
  rintro e w' ⟨h1, hb⟩
  rcases h1 with ⟨rfl, _⟩ | ⟨u, hu, he⟩
  · exact absurd ht.1 (by simp)
  · exact ⟨by rw [he, min_unique hu ht]; rfl, hb⟩
theorem ticks_two (w : World) (a b c d : Int) : TicksAt (w.alloc (.cells #[.int .i64 a, .int .i64 b, .int .i64 c, .int .i64 d] 24)) (.slice (some ⟨w.heap.size, 0, none⟩) 2 2) [(a, b), (c, d)] := by
  have h := Blk.new w 24 #[.int .i64 a, .int .i64 b, .int .i64 c, .int .i64 d]
  refine ⟨_, _, rfl, fun i hi => ?_⟩
  match i, hi with
  | 0, _ => exact ⟨_, _, rfl, by simp, h.cell 0, h.cell 1⟩
  | 1, _ => exact ⟨_, _, rfl, by simp, h.cell 2, h.cell 3⟩

set_option maxRecDepth 100000 in
set_option maxHeartbeats 1000000 in
theorem works_any (w : World) : Calls Try.prog 14 #[] w fun e w' => e = .returned (.bool true) ∧ Below w.heap.size w w' := by
  have hn := new_any _ _ 2 2 _ (ticks_two w 5 9 7 3) (by decide)
  rw [show newGo [((5 : Int), (9 : Int)), (7, 3)] [] = (0, [(5, 9), (7, 3)]) by decide] at hn
  have hsz : (w.alloc (.cells #[.int .i64 5, .int .i64 9, .int .i64 7, .int .i64 3] 24)).heap.size = w.heap.size + 1 := by simp
  rw [hsz] at hn
  have HN := Lib.hid hn
  have HB0 := Lib.hid (show Below w.heap.size w (w.alloc (.cells #[.int .i64 5, .int .i64 9, .int .i64 7, .int .i64 3] 24)) from (Below.refl _ _).alloc (Nat.le_refl _) _)
  clear hn hsz
  go_enter Try.func14, Try.ntmps14
  go_wp2_with fail
  go_at_call 17
  refine HN.out.mono ?_
  rintro e w1 ⟨hb1, h⟩
  rcases h with ⟨_, rfl, r, hq⟩ | ⟨h, _⟩
  · have HQ := Lib.hid hq
    have HB1 := Lib.hid (HB0.out.trans (hb1.mono (Nat.le_succ _)))
    have HF := Lib.hid (first_is hq (t := (7, 3)) ⟨by simp, fun x hx => by simp at hx; rcases hx with rfl | rfl <;> decide⟩)
    clear hb1 hq
    go_wp2_with fail
    go_at_call 16
    refine HF.out.mono ?_
    rintro e w2 ⟨rfl, hb2⟩
    have HB2 := Lib.hid ((HB1.out.trans (hb2.mono HB1.out.size)).alloc (Nat.le_trans HB1.out.size hb2.size) (.cells #[.int .i64 7, .int .i64 3] 24))
    have HL := Lib.hid (qlen_q ((HQ.out.below hb2).below ((Below.refl _ _).alloc (Nat.le_refl _) (.cells #[.int .i64 7, .int .i64 3] 24))))
    clear hb2
    go_wp2_with (go_at_call 13; (with_reducible refine HL.out.mono ?_); rintro e w' ⟨rfl, rfl⟩)
    go_ret
    exact ⟨rfl, HB2.out⟩
  · exact absurd rfl h
end Go.Proofs.Ytlccplpniidjfaa
