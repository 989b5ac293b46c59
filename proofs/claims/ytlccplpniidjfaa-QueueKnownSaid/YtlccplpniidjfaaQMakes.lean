/- QueueMakes: a queue is made of ticks, or refused, as the document says: the walk. -/
import Derived.Test.YtlccplpniidjfaaQSame
import Derived.Test.YtlccplpniidjfaaQArg
namespace Go.Proofs.Ytlccplpniidjfaa
open Go.RowKit

def newE (ts : List Tk) : Int := if 4096 < ts.length then 3 else (newGo ts []).1
def ptrIf (ok : Bool) (g : Nat) : Value := if ok then .pointer (some ⟨g, 0, none⟩) else .pointer none
theorem new_gen (w : World) (ao : Option Addr) (n c : Nat) (ts : List Tk) (hv : TicksAt w (.slice ao n c) ts) (hn : n ≤ 5000) :
    Calls Try.prog 17 #[.slice ao n c] w fun e w' => Below w.heap.size w w' ∧ e = .returned (.tuple #[ptrIf (decide (newE ts = 0)) w.heap.size, .int .i64 (newE ts)]) ∧ (newE ts = 0 → ∃ r, QQ w' w.heap.size w.heap.size (newGo ts []).2 r) := by
  have hnl : n = ts.length := by obtain ⟨_, _, he, _⟩ := hv; injection he
  by_cases h : n ≤ 4096
  · have he : newE ts = (newGo ts []).1 := by unfold newE; rw [if_neg (by omega)]
    refine (new_any w ao n c ts hv h).mono ?_
    rintro e w' ⟨hb, ⟨h0, rfl, hq⟩ | ⟨h0, rfl⟩⟩
    · exact ⟨hb, by simp [he, h0, ptrIf], fun _ => hq⟩
    · exact ⟨hb, by simp [he, h0, ptrIf], fun h => absurd (he ▸ h) h0⟩
  · have he : newE ts = 3 := by unfold newE; rw [if_pos (by omega)]
    refine (new_long w ao n c (by omega) hn).mono ?_
    rintro e w' ⟨rfl, rfl⟩
    exact ⟨Below.refl _ _, by simp [he, ptrIf], fun h => by rw [he] at h; exact absurd h (by decide)⟩
theorem fnew_gen (w : World) (ao : Option Addr) (n c : Nat) (ts : List Tk) (hv : TicksAt w (.slice ao n c) ts) (hn : n ≤ 5000) :
    Calls Try.prog 18 #[.slice ao n c] w fun e w' => Below w.heap.size w w' ∧ e = .returned (.tuple #[ptrIf (decide (newE ts = 0)) w.heap.size, .int .i64 (newE ts)]) ∧ (newE ts = 0 → ∃ r, RQ w' w.heap.size w.heap.size (newGo ts []).2 r) := by
  have hnl : n = ts.length := by obtain ⟨_, _, he, _⟩ := hv; injection he
  by_cases h : n ≤ 4096
  · have he : newE ts = (newGo ts []).1 := by unfold newE; rw [if_neg (by omega)]
    refine (fnew_any w ao n c ts hv h).mono ?_
    rintro e w' ⟨hb, ⟨h0, rfl, hq⟩ | ⟨h0, rfl⟩⟩
    · exact ⟨hb, by simp [he, h0, ptrIf], fun _ => hq⟩
    · exact ⟨hb, by simp [he, h0, ptrIf], fun h => absurd (he ▸ h) h0⟩
  · have he : newE ts = 3 := by unfold newE; rw [if_pos (by omega)]
    refine (fnew_long w ao n c (by omega) hn).mono ?_
    rintro e w' ⟨rfl, rfl⟩
    exact ⟨Below.refl _ _, by simp [he, ptrIf], fun h => by rw [he] at h; exact absurd h (by decide)⟩
/-- A slice of ticks reads as cells. -/
theorem TicksAt.reads {w : World} {ao : Option Addr} {n c : Nat} {ts : List Tk} (h : TicksAt w (.slice ao n c) ts) : Reads w w.heap.size 2 ao n (tcells ts) := by
  obtain ⟨ao', c', he, hc⟩ := h
  injection he with h1 h2 h3
  subst h1 h2 h3
  refine ⟨tcells_length ts, fun hn => ?_⟩
  obtain ⟨b, off, rfl, hb, -, -⟩ := hc 0 hn
  refine ⟨_, rfl, hb, fun j u hu => ?_⟩
  have hj : j < (tcells ts).length := (List.getElem?_eq_some_iff.1 hu).1
  rw [tcells_length] at hj
  have ha : (⟨b, off, none⟩ : Addr).add j = ⟨b, off + j, none⟩ := by unfold Addr.add; split <;> simp_all
  rw [ha]
  obtain ⟨i, rfl | rfl⟩ : ∃ i, j = i * 2 ∨ j = i * 2 + 1 := ⟨j / 2, by omega⟩
  · obtain ⟨b', off', e, _, c1, c2⟩ := hc i (by omega)
    injection e with e
    injection e with e1 e2
    subst e1 e2
    rw [c1, ← hu, (tcells_at ts i (by omega)).1]
  · obtain ⟨b', off', e, _, c1, c2⟩ := hc i (by omega)
    injection e with e
    injection e with e1 e2
    subst e1 e2
    rw [← Nat.add_assoc, c2, ← hu, (tcells_at ts i (by omega)).2]
/-- Both queues, where there are any. -/
def Both (w : World) (ok : Bool) (B g p : Nat) (m : List Tk) : Prop := ok = true → ∃ r rv, QQ w B g m r ∧ RQ w B p m rv
theorem Both.only {w w' : World} {ok : Bool} {B g p x : Nat} {m : List Tk} (h : Both w ok B g p m) (ho : Only w w' (fun k => k = x)) (hx : x < B) : Both w' ok B g p m := fun hk => by
  obtain ⟨r, rv, hq, hr⟩ := h hk
  exact ⟨r, rv, hq.only ho (fun k hk e => by have := (hq.lt k hk).1; have e : k = x := e; omega), hr.only ho (fun k hk e => by have := (hr.lt k hk).1; have e : k = x := e; omega)⟩
theorem QQ.base {w : World} {b b' g : Nat} {m : List Tk} {r : Option Nat} (h : QQ w b g m r) (hb : b' ≤ b) : QQ w b' g m r := by
  obtain ⟨l, ⟨v, f, h1, h2, h3, h4, h5⟩, h6⟩ := h
  exact ⟨l, ⟨v, f, h1, own_base h2 hb, h3, Nat.le_trans hb h4, h5⟩, h6⟩
theorem RQ.base {w : World} {b b' p : Nat} {m : List Tk} {r : Option Nat} (h : RQ w b p m r) (hb : b' ≤ b) : RQ w b' p m r := by
  obtain ⟨v, h1, h2, h3, h4, h5⟩ := h
  exact ⟨v, h1, own_base h2 hb, h3, Nat.le_trans hb h4, h5⟩

set_option maxRecDepth 100000 in
set_option maxHeartbeats 4000000 in
theorem makes_walk (w : World) (ao : Option Addr) (n c : Nat) (ts : List Tk) (hv : TicksAt w (.slice ao n c) ts) (hnc : n ≤ c) (hn : n * 16 ≤ 140737488351232) (hc : c ≤ maxLen) :
    Calls Try.prog 6 #[.slice ao n c] w fun e w' => e = .returned (.bool true) ∧ Below w.heap.size w w' := by
  obtain ⟨k, hk⟩ : ∃ k, k = min n 5000 := ⟨_, rfl⟩
  have hmn : ∀ W, (Builtin.min_ #[3, 3] 3 #[.int .i64 (n : Int), .int .i64 5000]).run Try.prog W = .ok (.int .i64 (k : Int)) W := fun W => by rw [hk]; exact min_law n 5000 W
  have hkn : k ≤ n := by omega
  have hk2 : k ≤ 5000 := by omega
  obtain ⟨us, hus⟩ : ∃ us, us = ts.take k := ⟨_, rfl⟩
  have htk : TicksAt w (.slice ao k c) us := by rw [hus]; exact hv.take hkn
  have hul : k = us.length := by obtain ⟨_, _, he, _⟩ := htk; injection he
  have g1 : (k : Int) ≤ (c : Int) := by omega
  have g2 : (c : Int) ≤ 9223372036854775807 := by unfold maxLen at hc; omega
  have HTK := Lib.hid htk
  have HR := Lib.hid htk.reads
  have HUL := Lib.hid hul
  clear hv hk hc hus htk hul
  go_enter Try.func6, Try.ntmps6
  go_wp2_with (at_builtin; refine ticks_law (l := []) (World.ownsRow_nil _ w.heap.size _ _) rfl _ _ rfl rfl rfl HR.out HUL.out (by have := HUL.out; simp; omega) (Nat.le_refl _) ?_)
  intro v1 w1 hown1 hg1 hn1
  have hb1 : Below w.heap.size w w1 := (Below.refl _ w).grown hg1 (Nat.le_refl _) (fun g hg => by cases hg)
  have hown1' := own_tc (l' := us) hown1 (by simp)
  obtain ⟨htk1, ao1, c1, rfl⟩ := own_ticks hown1'
  rw [← HUL.out] at htk1 hown1'
  rw [← HUL.out]
  have HN := Lib.hid (new_gen w1 ao1 k c1 us htk1 hk2)
  have HO1 := Lib.hid hown1'
  have HB1 := Lib.hid hb1
  clear hown1 hown1' hg1 hn1 htk1 hb1
  go_wp2_with fail
  go_at_call 17
  refine HN.out.mono ?_
  rintro e w2 ⟨hb2, rfl, hq2⟩
  have hbl2 := HB1.out.trans (hb2.mono HB1.out.size)
  have HF := Lib.hid (fnew_gen w2 ao k c us (HTK.out.below hbl2) hk2)
  have HQ2 := Lib.hid hq2
  have HB2 := Lib.hid hb2
  clear hb2 hbl2 hq2
  obtain ⟨ev, hev⟩ : ∃ ev, ev = newE us := ⟨_, rfl⟩
  obtain ⟨qv, hqv⟩ : ∃ qv, qv = ptrIf (decide (ev = 0)) w1.heap.size := ⟨_, rfl⟩
  rw [← hev] at HF HQ2 ⊢
  rw [← hqv]
  have HEV := Lib.hid hev
  have HQV := Lib.hid hqv
  clear hev hqv
  go_wp2_with fail
  go_at_call 18
  refine HF.out.mono ?_
  rintro e w3 ⟨hb3, rfl, hr3⟩
  obtain ⟨pv, hpv⟩ : ∃ pv, pv = ptrIf (decide (ev = 0)) w2.heap.size := ⟨_, rfl⟩
  rw [← hpv]
  have HPV := Lib.hid hpv
  have HBOTH := Lib.hid (show Both w3 (decide (ev = 0)) w1.heap.size w1.heap.size w2.heap.size (newGo us []).2 from fun h => by
    have h0 : ev = 0 := by simpa using h
    obtain ⟨r, hq⟩ := HQ2.out h0
    obtain ⟨rv, hr⟩ := hr3 h0
    exact ⟨r, rv, hq.below hb3, hr.base HB2.out.size⟩)
  have hb13 := HB2.out.trans (hb3.mono HB2.out.size)
  have HO3 := Lib.hid (own_only (S := fun _ => False) HO1.out (Only.of_below hb13) (fun _ _ h => h))
  have HB3 := Lib.hid (HB1.out.trans (hb13.mono HB1.out.size))
  have HLT := Lib.hid HO1.out.lt
  clear hb3 hr3 hpv hb13
  go_wp2
  go_loopw [8] (fun s wr => ∃ (i : Nat) (zs : List Tk), i ≤ k ∧ s = .int .i64 (i : Nat) ∧ zs.length = k ∧ (∀ j, i ≤ j → nth zs j = nth us j) ∧ wr.ownsRow w.heap.size 24 2 (.slice ao1 k c1) k (tcells zs) ∧
      Both wr (decide (ev = 0)) w1.heap.size w1.heap.size w2.heap.size (newGo us []).2 ∧ Below w.heap.size w wr) (fun s _ => k - (intOf s).toNat)
  case atStart => exact ⟨0, us, Nat.zero_le _, rfl, HUL.out.symm, fun _ _ => rfl, HO3.out, HBOTH.out, HB3.out⟩
  case round =>
    obtain ⟨i, zs, hi, rfl, hzl, hzs, hown, hboth, hbl⟩ := hrel
    have HBL := Lib.hid hbl
    have HBO := Lib.hid hboth
    have HZL := Lib.hid hzl
    have HZS := Lib.hid hzs
    clear hboth
    by_cases hlt : i < k
    · have l1 : (i : Int) < (k : Int) := by omega
      obtain ⟨gg, cap, hv, hgb, hgl⟩ := hown.form (by omega)
      injection hv with e1 e2 e3
      subst e1 e3
      have hgg := (HLT.out gg rfl).2
      have d1 := hown.cellAt (i * 2) (by omega)
      have d2 := hown.cellAt (i * 2 + 1) (by omega)
      rw [(tcells_at zs i (by omega)).1, hzs i (Nat.le_refl _)] at d1
      rw [(tcells_at zs i (by omega)).2, hzs i (Nat.le_refl _)] at d2
      have f1 := hown.frozenAt (i * 2)
      have f2 := hown.frozenAt (i * 2 + 1)
      obtain ⟨b, off, hao, hb, x1, x2⟩ := (HTK.out.below hbl).some_ (i := i) (by rw [← HUL.out]; exact hlt)
      subst hao
      have HOWN := Lib.hid hown
      have HOS := Lib.hid (fun (q : Nat) => ((World.ownsRow.stored (w := wr.drewN q) (show (wr.drewN q).ownsRow _ _ _ _ _ _ from hown) (i * 2) (.int .i64 1)).1.stored (i * 2 + 1) (.int .i64 1)).1)
      have HGB := Lib.hid hgb
      have HGG := Lib.hid hgg
      clear hown hbl hgb hgg e2 hzs hzl hgl
      go_wp2
      go_quiet (fail)
      go_wp2
      go_roundw
      case rel =>
        refine ⟨i + 1, zs.set i (1, 1), by omega, by go_num, by rw [List.length_set]; exact HZL.out, fun j hj => ?_, ?_, ?_, ?_⟩
        · rw [← HZS.out j (by omega)]; unfold nth; rw [List.getD_eq_getElem?_getD, List.getD_eq_getElem?_getD, List.getElem?_set_ne (by omega)]
        · rw [tcells_set zs i (1, 1) (by rw [HZL.out]; exact hlt)]; exact HOS.out nq
        · exact HBO.out.only ((((Only.refl wr (fun k => k = gg)).drewN nq).setCell (p := ⟨gg, i * 2, none⟩) (.inl rfl) _).setCell (p := ⟨gg, i * 2 + 1, none⟩) (.inl rfl) _) HGG.out
        · exact ((below_drewN HBL.out nq).setCell (p := ⟨gg, i * 2, none⟩) HGB.out _).setCell (p := ⟨gg, i * 2 + 1, none⟩) HGB.out _
      case measure => (simp [intOf] <;> omega)
    · obtain rfl : i = k := by omega
      have HW := Lib.hid works_any
      by_cases h0 : ev = 0
      · subst h0
        obtain ⟨r, rv, hq, hr⟩ := HBO.out (by simp)
        have HS := Lib.hid (lsame_any hq hr)
        have hq1 : qv = .pointer (some ⟨w1.heap.size, 0, none⟩) := HQV.out
        have hp1 : pv = .pointer (some ⟨w2.heap.size, 0, none⟩) := HPV.out
        subst hq1 hp1
        clear hq hr hown hbl hzs hzl hlt
        go_wp2_with (first | (go_at_call 19; (with_reducible refine HS.out.mono ?_); rintro e w5 ⟨rfl, hb5⟩) | (go_at_call 14; (with_reducible refine (HW.out _).mono ?_); rintro e w6 ⟨rfl, hb6⟩))
        go_ret
        have h5 := HBL.out.trans (hb5.mono HBL.out.size)
        exact ⟨rfl, h5.trans (hb6.mono h5.size)⟩
      · have hq1 : qv = .pointer none := by have := HQV.out; simpa [ptrIf, h0] using this
        have k1 : (ev == 0) = false := by simpa using h0
        have k2 : (ev != 0) = true := by simpa using h0
        subst hq1
        clear hown hbl hzs hzl hlt h0
        go_wp2_with (go_at_call 14; (with_reducible refine (HW.out _).mono ?_); rintro e w6 ⟨rfl, hb6⟩)
        go_ret
        exact ⟨rfl, HBL.out.trans (hb6.mono HBL.out.size)⟩
end Go.Proofs.Ytlccplpniidjfaa
