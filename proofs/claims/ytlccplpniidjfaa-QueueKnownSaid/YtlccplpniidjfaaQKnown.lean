/- QueueKnown: the chapter's examples: the walk. -/
import Derived.Test.YtlccplpniidjfaaQNone
namespace Go.Proofs.Ytlccplpniidjfaa
open Go.RowKit

theorem ticks_three (w : World) (a b c d e f : Int) : TicksAt (w.alloc (.cells #[.int .i64 a, .int .i64 b, .int .i64 c, .int .i64 d, .int .i64 e, .int .i64 f] 24)) (.slice (some ⟨w.heap.size, 0, none⟩) 3 3) [(a, b), (c, d), (e, f)] := by
  have h := Blk.new w 24 #[.int .i64 a, .int .i64 b, .int .i64 c, .int .i64 d, .int .i64 e, .int .i64 f]
  refine ⟨_, _, rfl, fun i hi => ?_⟩
  match i, hi with
  | 0, _ => exact ⟨_, _, rfl, by simp, h.cell 0, h.cell 1⟩
  | 1, _ => exact ⟨_, _, rfl, by simp, h.cell 2, h.cell 3⟩
  | 2, _ => exact ⟨_, _, rfl, by simp, h.cell 4, h.cell 5⟩
def m1 : List Tk := [(2, 3), (5, 9), (7, 3)]
def m2 : List Tk := [(2, 3), (5, 1), (7, 3)]
def m3 : List Tk := [(2, 3), (7, 3)]
def m4 : List Tk := [(7, 3)]
theorem min1 : IsMin m1 (2, 3) := ⟨by simp [m1], fun x hx => by simp [m1] at hx; rcases hx with rfl | rfl | rfl <;> decide⟩
theorem min2 : IsMin m2 (5, 1) := ⟨by simp [m2], fun x hx => by simp [m2] at hx; rcases hx with rfl | rfl | rfl <;> decide⟩
theorem min3 : IsMin m3 (2, 3) := ⟨by simp [m3], fun x hx => by simp [m3] at hx; rcases hx with rfl | rfl <;> decide⟩
theorem min4 : IsMin m4 (7, 3) := ⟨by simp [m4], fun x hx => by simp [m4] at hx; rw [hx]; decide⟩
theorem hmk_known (W : World) : ∃ cs : Array Value, (Instr.makeSlice 22 (.int .i64 4097) (.int .i64 4097)).run Try.prog W = .ok (.slice (some ⟨W.heap.size, 0, none⟩) 4097 4097) (W.alloc (.cells cs 24)) := by
  obtain ⟨i0, hi, hz0, hz1, hz2⟩ := info_parts infoTick
  exact ⟨_, run_make_rowN 22 24 i0 (.agg #[.int .i64 0, .int .i64 0]) Try.underlying22 hi hz0 .i64 .i64 4097 4097 (Nat.le_refl _) (by rw [hz2]; decide) (by decide) W⟩

set_option maxRecDepth 1000000 in
set_option maxHeartbeats 8000000 in
theorem known_walk (w : World) : Calls Try.prog 8 #[] w fun e w' => e = .returned (.bool true) ∧ Below w.heap.size w w' := by
  have hb0 : Below w.heap.size w (w.alloc (.cells #[.int .i64 5, .int .i64 9, .int .i64 7, .int .i64 3, .int .i64 2, .int .i64 3] 24)) := (Below.refl _ _).alloc (Nat.le_refl _) _
  have hn := new_any _ _ 3 3 _ (ticks_three w 5 9 7 3 2 3) (by decide)
  rw [show newGo [((5 : Int), (9 : Int)), (7, 3), (2, 3)] [] = (0, m1) by decide] at hn
  have hsz : (w.alloc (.cells #[.int .i64 5, .int .i64 9, .int .i64 7, .int .i64 3, .int .i64 2, .int .i64 3] 24)).heap.size = w.heap.size + 1 := by simp
  rw [hsz] at hn
  have HN := Lib.hid hn
  have HB0 := Lib.hid hb0
  clear hn hsz hb0
  go_enter Try.func8, Try.ntmps8
  go_wp2_with fail
  go_at_call 17
  refine HN.out.mono ?_
  rintro e w2 ⟨hb, ⟨-, rfl, r, hq⟩ | ⟨h, -⟩⟩
  case inr => exact absurd rfl h
  have hx : QX w w2 (w.heap.size + 1) m1 [] := ⟨r, hq.base (Nat.le_succ _), HB0.out.trans (hb.mono (Nat.le_succ _)), fun y hy => by simp at hy⟩
  have HL := Lib.hid (qx_list hx)
  have HX := Lib.hid hx
  clear hb hq hx
  go_wp2_with fail
  go_at_call 20
  refine HL.out.mono ?_
  rintro e w3 ⟨hb, v, rfl, hown⟩
  obtain ⟨htk, ao, c, rfl⟩ := own_ticks hown
  have hlen : m1.length = 3 := rfl
  rw [hlen] at htk ⊢
  have hx := HX.out.calm hb
  have HF := Lib.hid (qx_first hx min1)
  have HX3 := Lib.hid hx
  have HTK := Lib.hid htk
  clear hb hown hx htk hlen
  go_wp2_with fail
  go_at_call 16
  refine HF.out.mono ?_
  rintro e w4 ⟨rfl, hb⟩
  have htk := HTK.out.below hb
  obtain ⟨b, off, hao, hbl, c0, -⟩ := htk.some_ (i := 0) (by decide)
  subst hao
  obtain ⟨-, c1, -⟩ := htk.at_ (i := 1) (by decide)
  obtain ⟨-, c2, -⟩ := htk.at_ (i := 2) (by decide)
  have c0 : w4.cell? ⟨b, off, none⟩ = some (.int .i64 2) := c0
  have c1 : w4.cell? ⟨b, off + 2, none⟩ = some (.int .i64 5) := c1
  have c2 : w4.cell? ⟨b, off + 4, none⟩ = some (.int .i64 7) := c2
  have hx := (HX3.out.calm hb).more #[.int .i64 2, .int .i64 3]
  have HP := Lib.hid (qx_put (hx.fewer (K' := []) (by simp)) 5 10 (z := (false, 0, m1)) (by decide))
  clear hb hx htk
  go_wp2_with fail
  go_at_call 21
  refine HP.out.mono ?_
  rintro e w5 ⟨rfl, hx⟩
  have HP := Lib.hid (qx_put hx 5 9 (z := (false, 0, m1)) (by decide))
  clear hx
  go_wp2_with fail
  go_at_call 21
  refine HP.out.mono ?_
  rintro e w6 ⟨rfl, hx⟩
  have HP := Lib.hid (qx_put hx 5 1 (z := (true, 0, m2)) (by decide))
  clear hx
  go_wp2_with fail
  go_at_call 21
  refine HP.out.mono ?_
  rintro e w7 ⟨rfl, hx⟩
  have HP := Lib.hid (qx_take_no hx 0 (.inr ⟨_, min2, by decide⟩))
  clear hx
  go_wp2_with fail
  go_at_call 15
  refine HP.out.mono ?_
  rintro e w8 ⟨rfl, hx⟩
  have HP := Lib.hid (qx_take ((hx.more #[.int .i64 0, .int .i64 0]).fewer (K' := []) (by simp)) 3 min2 (by decide) (m' := m3) (by decide))
  clear hx
  go_wp2_with fail
  go_at_call 15
  refine HP.out.mono ?_
  rintro e w9 ⟨rfl, hx⟩
  have HP := Lib.hid (qx_take (hx.more #[.int .i64 5, .int .i64 1]) 3 min3 (by decide) (m' := m4) (by decide))
  clear hx
  go_wp2_with fail
  go_at_call 15
  refine HP.out.mono ?_
  rintro e w10 ⟨rfl, hx⟩
  have HP := Lib.hid (qx_take (hx.more #[.int .i64 2, .int .i64 3]) 3 min4 (by decide) (m' := []) (by decide))
  clear hx
  go_wp2_with fail
  go_at_call 15
  refine HP.out.mono ?_
  rintro e w11 ⟨rfl, hx⟩
  have HP := Lib.hid (qx_take_no (hx.more #[.int .i64 7, .int .i64 3]) 3 (.inl rfl))
  clear hx
  go_wp2_with fail
  go_at_call 15
  refine HP.out.mono ?_
  rintro e w12 ⟨rfl, hx⟩
  obtain ⟨x0, x1⟩ := hx.kept (b := w11.heap.size) (x := .int .i64 7) (y := .int .i64 3) (by simp)
  obtain ⟨y0, y1⟩ := hx.kept (b := w10.heap.size) (x := .int .i64 2) (y := .int .i64 3) (by simp)
  obtain ⟨z0, z1⟩ := hx.kept (b := w9.heap.size) (x := .int .i64 5) (y := .int .i64 1) (by simp)
  have HP := Lib.hid (qx_put ((hx.more #[.int .i64 0, .int .i64 0]).fewer (K' := []) (by simp)) 1 0 (z := (false, 2, [])) (by decide))
  clear hx
  go_wp2_with fail
  go_at_call 21
  refine HP.out.mono ?_
  rintro e w13 ⟨rfl, hx⟩
  have HP := Lib.hid (qx_put hx 4096 1 (z := (false, 2, [])) (by decide))
  clear hx
  go_wp2_with fail
  go_at_call 21
  refine HP.out.mono ?_
  rintro e w14 ⟨rfl, hx⟩
  have HP := Lib.hid (qx_put hx 1 2199023255553 (z := (false, 2, [])) (by decide))
  clear hx
  go_wp2_with fail
  go_at_call 21
  refine HP.out.mono ?_
  rintro e w15 ⟨rfl, hx⟩
  have hn := new_any _ _ 2 2 _ (ticks_two w15 1 1 1 2) (by decide)
  rw [show newGo [((1 : Int), (1 : Int)), (1, 2)] [] = (6, [(1, 1)]) by decide] at hn
  have HB := Lib.hid (hx.below.alloc hx.below.size (.cells #[.int .i64 1, .int .i64 1, .int .i64 1, .int .i64 2] 24))
  have HN := Lib.hid hn
  clear hx hn
  go_wp2_with fail
  go_at_call 17
  refine HN.out.mono ?_
  rintro e w16 ⟨hb, ⟨h, -⟩ | ⟨-, rfl⟩⟩
  case inl => exact absurd h (by decide)
  have HB2 := Lib.hid (HB.out.trans (hb.mono HB.out.size))
  obtain ⟨cs, hmk⟩ := hmk_known w16
  have HL := Lib.hid (new_long (w16.alloc (.cells cs 24)) (some ⟨w16.heap.size, 0, none⟩) 4097 4097 (by decide) (by decide))
  have HB3 := Lib.hid (HB2.out.alloc HB2.out.size (.cells cs 24))
  clear hb
  go_wp2_with fail
  go_at_call 17
  refine HL.out.mono ?_
  rintro e w17 ⟨rfl, rfl⟩
  clear hmk
  obtain ⟨W, hW⟩ : ∃ W, W = w16.alloc (.cells cs 24) := ⟨_, rfl⟩
  rw [← hW] at HB3 ⊢
  clear hW
  have HE := Lib.hid (Blk.new W 53 Try.zeroCells53)
  have HBE := Lib.hid (HB3.out.alloc HB3.out.size (.cells Try.zeroCells53 53))
  have HP := Lib.hid (put_no (w := W.alloc (.cells Try.zeroCells53 53)) (.inl rfl) 1 1)
  go_wp2_with fail
  go_at_call 21
  refine HP.out.mono ?_
  rintro e w18 ⟨rfl, hb⟩
  have HE2 := Lib.hid ((NoQ.below (.inr ⟨_, rfl, HE.out⟩) hb))
  have HB4 := Lib.hid (HBE.out.trans (hb.mono HBE.out.size))
  have HP := Lib.hid (put_no HE2.out 1 1)
  clear hb
  go_wp2_with fail
  go_at_call 21
  refine HP.out.mono ?_
  rintro e w19 ⟨rfl, hb⟩
  have HE3 := Lib.hid (HE2.out.below hb)
  have HB5 := Lib.hid (HB4.out.trans (hb.mono HB4.out.size))
  have HF := Lib.hid (first_none_ w19)
  clear hb
  go_wp2_with fail
  go_at_call 16
  refine HF.out.mono ?_
  rintro e w20 ⟨rfl, hb⟩
  have hba : Below w20.heap.size w20 (w20.alloc (.cells #[.int .i64 0, .int .i64 0] 24)) := (Below.refl _ _).alloc (Nat.le_refl _) _
  have HE4 := Lib.hid ((HE3.out.below hb).below hba)
  have HB6 := Lib.hid ((HB5.out.trans (hb.mono HB5.out.size)).trans (hba.mono (Nat.le_trans HB5.out.size hb.size)))
  have HLN := Lib.hid (len_no (w := w20.alloc (.cells #[.int .i64 0, .int .i64 0] 24)) (.inl rfl))
  have HLI := Lib.hid (list_no HE4.out)
  have HDR := Lib.hid (drop_no (w := w20.alloc (.cells #[.int .i64 0, .int .i64 0] 24)) (.inl rfl) 1)
  have HW := Lib.hid works_any
  clear hb hba
  go_wp2_with (first
    | (go_at_call 13; (with_reducible refine HLN.out.mono ?_); rintro e w' ⟨rfl, rfl⟩)
    | (go_at_call 20; (with_reducible refine HLI.out.mono ?_); rintro e w' ⟨rfl, rfl⟩)
    | (go_at_call 22; (with_reducible refine HDR.out.mono ?_); rintro e w' ⟨rfl, rfl⟩)
    | (go_at_call 14; (with_reducible refine (HW.out _).mono ?_); rintro e w6 ⟨rfl, hb6⟩))
  go_ret
  exact ⟨rfl, HB6.out.trans (hb6.mono HB6.out.size)⟩
end Go.Proofs.Ytlccplpniidjfaa
