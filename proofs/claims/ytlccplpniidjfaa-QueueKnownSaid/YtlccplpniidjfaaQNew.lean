/- New: the walk. -/
import Derived.Test.YtlccplpniidjfaaQQ
namespace Go.Proofs.Ytlccplpniidjfaa
open Go.RowKit

noncomputable def qz : Array Value := Try.zeroCells53.setIfInBounds 4097 (.bool true)
theorem qz_list : qz.toList = .slice none 0 0 :: (List.replicate 4096 (.int .i64 0) ++ [.bool true]) := by kernel_rfl
theorem qz_at (i : Nat) : qz[i]? = (.slice none 0 0 :: (List.replicate 4096 (Value.int .i64 0) ++ [.bool true]))[i]? := by
  rw [← qz_list, Array.getElem?_toList]
/-- A queue that was just made. -/
theorem qblk_new (w : World) : QBlk (w.alloc (.cells qz 53)) w.heap.size (.slice none 0 0) (fun _ => 0) := by
  refine ⟨qz, Blk.new w 53 qz, ?_, by rw [qz_at]; rfl, fun a ha => ?_, ?_⟩
  · rw [← Array.length_toList, qz_list, List.length_cons, List.length_append, List.length_replicate]; rfl
  · rw [qz_at, show 1 + a = a + 1 by omega, List.getElem?_cons_succ, List.getElem?_append_left (by rw [List.length_replicate]; exact ha), List.getElem?_replicate, if_pos ha]; rfl
  · rw [qz_at, show 4097 = 4096 + 1 from rfl, List.getElem?_cons_succ, List.getElem?_append_right (by rw [List.length_replicate]; exact Nat.le_refl _), List.length_replicate]; rfl
theorem qq_new (w : World) : QQ (w.alloc (.cells qz 53)) w.heap.size w.heap.size [] none := by
  refine ⟨[], ⟨.slice none 0 0, _, qblk_new w, World.ownsRow_nil _ _ _ _, rfl, Nat.le_refl _, ⟨fun i hi => by simp at hi, fun _ _ => rfl⟩, ⟨fun i hi => by simp at hi, fun i j hi => by simp at hi⟩⟩, fun k hk => by simp at hk, List.Perm.refl _, List.Pairwise.nil, fun t ht => by simp at ht⟩

/-- A slice that reads as ticks. -/
def TicksAt (w : World) (v : Value) (ts : List Tk) : Prop :=
  ∃ ao cap, v = .slice ao ts.length cap ∧ ∀ i, i < ts.length → ∃ b off, ao = some ⟨b, off, none⟩ ∧ b < w.heap.size ∧ w.cell? ⟨b, off + i * 2, none⟩ = some (.int .i64 (nth ts i).1) ∧ w.cell? ⟨b, off + i * 2 + 1, none⟩ = some (.int .i64 (nth ts i).2)
theorem TicksAt.below {w w' : World} {v : Value} {ts : List Tk} (h : TicksAt w v ts) (hb : Below w.heap.size w w') : TicksAt w' v ts := by
  obtain ⟨ao, cap, hv, h⟩ := h
  refine ⟨ao, cap, hv, fun i hi => ?_⟩
  obtain ⟨b, off, h1, h2, h3, h4⟩ := h i hi
  exact ⟨b, off, h1, Nat.lt_of_lt_of_le h2 hb.size, (hb.cell (p := ⟨b, _, none⟩) h2).trans h3, (hb.cell (p := ⟨b, _, none⟩) h2).trans h4⟩

/-- What New comes to: the error, and the ticks. -/
def newGo : List Tk → List Tk → Int × List Tk
  | [], m => (0, m)
  | t :: ts, m => if mayT t = true then (if (findM m t.1).isSome = true then (6, m) else newGo ts (putM m t)) else (2, m)
theorem newGo_drop {ts : List Tk} {k : Nat} (h : k < ts.length) (m : List Tk) :
    newGo (ts.drop k) m = if mayT (nth ts k) = true then (if (findM m (nth ts k).1).isSome = true then (6, m) else newGo (ts.drop (k + 1)) (putM m (nth ts k))) else (2, m) := by
  rw [List.drop_eq_getElem_cons h, nth_get h]
  rfl

theorem where_q {w : World} {base g : Nat} {m : List Tk} {r : Option Nat} (h : QQ w base g m r) {a : Nat} (ha : a < 4096) :
    ∃ x : Nat, w.cell? ⟨g, 1 + a, none⟩ = some (.int .i64 x) ∧ (0 < x ↔ (findM m (a : Int)).isSome = true) := by
  obtain ⟨l, ⟨v, f, hb, ho, hr, hbg, hf, hap⟩, hh, hp, hm, hmay⟩ := h
  refine ⟨f a, hb.cellW ha, ?_⟩
  cases hfm : findM m (a : Int) with
  | none =>
    have hno : ∀ x ∈ m, x.1 ≠ (a : Int) := fun x hx => by
      have := List.find?_eq_none.1 hfm x hx
      simpa using this
    rw [hf.2 a (fun i hi => hno _ (hp.mem_iff.1 (nth_mem hi)))]
    simp
  | some x =>
    have hxm := List.mem_of_find?_eq_some hfm
    have hxa : x.1 = (a : Int) := by have := List.find?_some hfm; simpa using this
    obtain ⟨i, hi, hix⟩ := perm_nth hp hxm
    have := hf.1 i hi
    rw [hix, hxa, Int.toNat_natCast] at this
    rw [this]
    simp
theorem hpush_qq {w : World} {base g : Nat} {m : List Tk} {r : Option Nat} (h : QQ w base g m r) (hbs : base ≤ w.heap.size) (a : Nat) (d : Int) (hmt : mayT ((a : Int), d) = true) (hf : (findM m (a : Int)).isSome = false) :
    Calls Try.prog 32 #[.iface 63 (.pointer (some ⟨g, 0, none⟩)), .iface 24 (.agg #[.int .i64 a, .int .i64 d])] w fun e w' =>
      e = .returned (.tuple #[]) ∧ ∃ r', QQ w' base g (putM m ((a : Int), d)) r' ∧ Only w w' (QF g r) ∧ RNew w r r' := by
  obtain ⟨l, hq, hh, hp, hm, hmay⟩ := h
  have hno : ∀ x ∈ m, x.1 ≠ (a : Int) := fun x hx => by
    have h1 : findM m (a : Int) = none := by simpa using hf
    have := List.find?_eq_none.1 h1 x hx
    simpa using this
  have hb := mayT_iff.1 hmt
  refine (hpush_any hq hbs a d (by have := hb.2.1; omega) (fun i hi => hno _ (hp.mem_iff.1 (nth_mem hi)))).mono ?_
  rintro e w' ⟨he, r', hq', ho, hr⟩
  refine ⟨he, r', ⟨_, hq', ?_, ?_, putM_rising hm, ?_⟩, ho, hr⟩
  · rw [upL_length _ _ _ (by simp)]
    simpa using push_heap ((a : Int), d) hh
  · refine (upL_perm _ _ _ (by simp)).trans (List.perm_append_comm.trans ?_)
    refine (List.Perm.cons ((a : Int), d) ?_).trans (putM_perm hm).symm
    rw [rest_none hno]
    exact hp
  · intro x hx
    rcases mem_putM hx with rfl | hx
    · exact hmt
    · exact hmay x hx

set_option maxRecDepth 100000 in
set_option maxHeartbeats 4000000 in
theorem new_any (w : World) (ao : Option Addr) (n c : Nat) (ts : List Tk) (hv : TicksAt w (.slice ao n c) ts) (hn : n ≤ 4096) :
    Calls Try.prog 17 #[.slice ao n c] w fun e w' => Below w.heap.size w w' ∧
      (((newGo ts []).1 = 0 ∧ e = .returned (.tuple #[.pointer (some ⟨w.heap.size, 0, none⟩), .int .i64 0]) ∧ ∃ r, QQ w' w.heap.size w.heap.size (newGo ts []).2 r) ∨
        ((newGo ts []).1 ≠ 0 ∧ e = .returned (.tuple #[.pointer none, .int .i64 (newGo ts []).1]))) := by
  have hnl : n = ts.length := by obtain ⟨_, _, he, _⟩ := hv; injection he
  have HV := Lib.hid hv
  have HQ0 := Lib.hid (qq_new w)
  have HB0 := Lib.hid (show Below w.heap.size w (w.alloc (.cells qz 53)) from (Below.refl _ _).alloc (Nat.le_refl _) _)
  have HN := Lib.hid hnl
  clear hv hnl
  go_enter Try.func17, Try.ntmps17
  have g0 : decide (4096 < (n : Int)) = false := by simp; omega
  go_wp2
  go_loopw [14] (fun s wr => ∃ (k : Nat) (m : List Tk) (r : Option Nat), k ≤ n ∧ s = .int .i64 k ∧ QQ wr w.heap.size w.heap.size m r ∧ newGo (ts.drop k) m = newGo ts [] ∧ Below w.heap.size w wr ∧ w.heap.size < wr.heap.size) (fun s _ => n - (intOf s).toNat)
  case atStart => exact ⟨0, [], none, Nat.zero_le _, rfl, HQ0.out, by simp, HB0.out, by simp⟩
  case round =>
    obtain ⟨k, m, r, hk, rfl, hq, hgo, hbl, hsz⟩ := hrel
    have HQ := Lib.hid hq
    have HG := Lib.hid hgo
    have HBL := Lib.hid hbl
    clear hq hgo
    by_cases hlt : k < n
    · have hkl : k < ts.length := by rw [← HN.out]; exact hlt
      obtain ⟨ao', c', he, hcells⟩ := HV.out.below hbl
      injection he with he1 he2 he3
      subst he1 he3
      obtain ⟨b, off, rfl, hb, c1, c2⟩ := hcells k hkl
      have HD := Lib.hid (newGo_drop hkl m)
      have hmay := may_any (wr.alloc (.cells #[.int .i64 (nth ts k).1, .int .i64 (nth ts k).2] 24)) (nth ts k).1 (nth ts k).2
      have hlt' : (k : Int) < (n : Int) := by omega
      clear he2 hcells hkl hbl
      cases hm : mayT (nth ts k) with
      | false =>
        rw [show ((nth ts k).1, (nth ts k).2) = nth ts k from rfl, hm] at hmay
        have HM := Lib.hid hmay
        have HE := Lib.hid (show newGo ts [] = (2, m) by rw [← HG.out, HD.out, hm]; rfl)
        clear hmay hm
        go_wp2_with (go_at_call 31; (with_reducible refine HM.out.mono ?_); rintro e w1 ⟨rfl, hb1⟩)
        go_ret2
        refine ⟨HBL.out.trans (((Below.refl _ _).alloc (Nat.le_refl _) _ |>.trans (hb1.mono (by simp))).mono HBL.out.size), .inr ?_⟩
        rw [HE.out]
        exact ⟨(show (2 : Int) ≠ 0 by decide), rfl⟩
      | true =>
        rw [show ((nth ts k).1, (nth ts k).2) = nth ts k from rfl, hm] at hmay
        rw [hm] at HD
        have hbd := mayT_iff.1 hm
        generalize nth ts k = t at *
        obtain ⟨a, d⟩ := t
        obtain ⟨a, rfl⟩ : ∃ a' : Nat, a = a' := ⟨a.toNat, by omega⟩
        have HMT := Lib.hid hm
        have HM := Lib.hid hmay
        have ha : (a : Int) < 4096 := hbd.2.1
        have ha' : a < 4096 := by omega
        have KB := Lib.hid (Blk.new wr 24 #[.int .i64 (a : Int), .int .i64 d])
        have HB1 := Lib.hid (show Below wr.heap.size wr (wr.alloc (.cells #[.int .i64 (a : Int), .int .i64 d] 24)) from (Below.refl _ _).alloc (Nat.le_refl _) _)
        have hab : wr.heap.size < (wr.alloc (.cells #[.int .i64 (a : Int), .int .i64 d] 24)).heap.size := by simp
        have HAB := Lib.hid hab
        clear hmay hm hbd hab
        cases hf : (findM m (a : Int)).isSome with
        | true =>
          rw [show findM m ((a : Int), d).1 = findM m (a : Int) from rfl, hf] at HD
          have HE := Lib.hid (show newGo ts [] = (6, m) by rw [← HG.out, HD.out]; rfl)
          have HF := Lib.hid hf
          clear hf
          go_wp2_with fail
          go_at_call 31
          refine HM.out.mono ?_
          rintro e w1 ⟨rfl, hb1⟩
          obtain ⟨k0, k1, -, -⟩ := (KB.out.below hb1 HAB.out).tick
          have hb2 := HB1.out.trans (hb1.mono (Nat.le_of_lt HAB.out))
          obtain ⟨x, hx, hx0⟩ := where_q (HQ.out.below hb2) ha'
          have hx1 : 0 < x := hx0.2 HF.out
          have HB2 := Lib.hid hb2
          clear hb1 hb2 hx0
          go_wp2
          go_quiet (fail)
          go_wp2
          go_ret2
          refine ⟨below_drewN (HBL.out.trans (HB2.out.mono HBL.out.size)) _, .inr ?_⟩
          rw [HE.out]
          exact ⟨(show (6 : Int) ≠ 0 by decide), rfl⟩
        | false =>
          rw [show findM m ((a : Int), d).1 = findM m (a : Int) from rfl, hf] at HD
          have HE := Lib.hid (show newGo (ts.drop (k + 1)) (putM m ((a : Int), d)) = newGo ts [] by rw [← HG.out, HD.out]; rfl)
          have HF := Lib.hid hf
          clear hf
          go_wp2_with fail
          go_at_call 31
          refine HM.out.mono ?_
          rintro e w1 ⟨rfl, hb1⟩
          obtain ⟨k0, k1, -, -⟩ := (KB.out.below hb1 HAB.out).tick
          have hb2 := HB1.out.trans (hb1.mono (Nat.le_of_lt HAB.out))
          have hq2 := HQ.out.below hb2
          obtain ⟨x, hx, hx0⟩ := where_q hq2 ha'
          obtain rfl : x = 0 := by
            rcases Nat.eq_zero_or_pos x with h | h
            · exact h
            · have := hx0.1 h; rw [HF.out] at this; cases this
          have HB2 := Lib.hid hb2
          have HQ2 := Lib.hid hq2
          have HLT := Lib.hid hq2.lt
          clear hb1 hb2 hx0 hq2
          go_wp2
          go_quiet (fail)
          go_wp2
          go_region_with (go_at_call 32; refine (hpush_qq (m := m) (base := w.heap.size) (g := w.heap.size) (r := r) (HQ2.out.drewN _) (Nat.le_of_lt (HLT.out w.heap.size (.inl rfl)).2) a d HMT.out HF.out).mono ?_; rintro e w3 ⟨rfl, r', hq3, ho3, hr3⟩)
          all_goals
            go_wp2
            go_roundw
            case rel =>
              have hq4 := hq3.lt
              refine ⟨k + 1, putM m ((a : Int), d), r', by omega, by go_num, hq3, HE.out, ?_, ?_⟩
              · have h1 : Only wr w3 (QF w.heap.size r) := (Only.of_below (S := QF w.heap.size r) HB2.out).trans' (w'' := w3) ⟨ho3.os, ho3.tape, ho3.output, ho3.size, ho3.block⟩
                exact HBL.out.trans (h1.below (B := w.heap.size) (fun q hq => (HQ.out.lt q hq).1) HBL.out.size)
              · exact (hq4 w.heap.size (.inl rfl)).2
            case measure => simp [intOf]; omega
    · obtain rfl : k = n := by omega
      have HE := Lib.hid (show newGo ts [] = (0, m) by rw [← HG.out, List.drop_of_length_le (by rw [← HN.out]; exact Nat.le_refl _)]; rfl)
      go_wp2
      go_ret2
      refine ⟨HBL.out, .inl ?_⟩
      rw [HE.out]
      exact ⟨rfl, rfl, r, HQ.out⟩
end Go.Proofs.Ytlccplpniidjfaa
