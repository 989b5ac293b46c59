/- The document's queue: Due, First, Same: the walks. -/
import Derived.Test.YtlccplpniidjfaaQRef
namespace Go.Proofs.Ytlccplpniidjfaa
open Go.RowKit

theorem RQ.drewN {w : World} {base p : Nat} {m : List Tk} {rv : Option Nat} (h : RQ w base p m rv) (n : Nat) : RQ (w.drewN n) base p m rv := h
theorem isAt_iff {m : List Tk} {a : Int} {i : Nat} : isAt m a i = true ↔ i < m.length ∧ (nth m i).1 = a := by simp [isAt]

set_option maxRecDepth 100000 in
set_option maxHeartbeats 1000000 in
theorem fdue_any {w : World} {base p : Nat} {m : List Tk} {rv : Option Nat} (h : RQ w base p m rv) (a : Int) :
    Calls Try.prog 26 #[.pointer (some ⟨p, 0, none⟩), .int .i64 a] w fun e w' =>
      e = .returned (.tuple #[.int .i64 ((findM m a).map (·.2) |>.getD 0), .bool (findM m a).isSome]) ∧ ∃ n, w' = w.drewN n := by
  have HP := Lib.hid (fplace_any h a)
  have HQ := Lib.hid h
  have hsm := h.small
  clear h
  go_enter Try.func26, Try.ntmps26
  go_wp2_with fail
  go_at_call 34
  refine HP.out.mono ?_
  rintro e w1 ⟨⟨i, hp, rfl⟩, n, rfl⟩
  have hf := hp.find HQ.out.rising
  cases hc : isAt m a i with
  | true =>
    rw [hc, if_pos rfl] at hf
    have HF := Lib.hid hf
    obtain ⟨hi, -⟩ := isAt_iff.1 hc
    obtain ⟨ao, c, c0, htk⟩ := (HQ.out.drewN n).reads
    obtain ⟨b, off, hao, hb, c1, c2⟩ := htk.some_ hi
    subst hao
    have l1 : (i : Int) < (m.length : Int) := by omega
    clear hf hp hc htk
    go_wp2
    go_ret2
    exact ⟨by rw [HF.out]; rfl, n, rfl⟩
  | false =>
    rw [hc, if_neg (by simp)] at hf
    have HF := Lib.hid hf
    clear hf hp hc
    go_wp2
    go_ret2
    exact ⟨by rw [HF.out]; rfl, n, rfl⟩

set_option maxRecDepth 100000 in
set_option maxHeartbeats 1000000 in
theorem fsame_any {w : World} {ao bo : Option Addr} {c d : Nat} {m : List Tk} (h1 : TicksAt w (.slice ao m.length c) m) (h2 : TicksAt w (.slice bo m.length d) m) (hm : m.length ≤ 1099511627776) :
    Calls Try.prog 36 #[.slice ao m.length c, .slice bo m.length d] w fun e w' => e = .returned (.bool true) ∧ Below w.heap.size w w' := by
  have H1 := Lib.hid h1
  have H2 := Lib.hid h2
  clear h1 h2
  go_enter Try.func36, Try.ntmps36
  go_wp2
  go_loopw [5] (fun s wr => ∃ i : Nat, i ≤ m.length ∧ s = .int .i64 (i : Nat) ∧ Below w.heap.size w wr) (fun s _ => m.length - (intOf s).toNat)
  case atStart => exact ⟨0, Nat.zero_le _, rfl, Below.refl _ _⟩
  case round =>
    obtain ⟨i, hi, rfl, hbl⟩ := hrel
    have HBL := Lib.hid hbl
    by_cases hlt : i < m.length
    · have l1 : (i : Int) < (m.length : Int) := by omega
      obtain ⟨b, off, hao, hb, c1, c2⟩ := (H1.out.below hbl).some_ hlt
      obtain ⟨b', off', hbo, hb', d1, d2⟩ := (H2.out.below hbl).some_ hlt
      subst hao hbo
      clear hbl
      go_wp2
      go_quiet (fail)
      go_wp2
      go_roundw
      case rel => exact ⟨i + 1, by omega, by go_num, below_drewN HBL.out _⟩
      case measure => (simp [intOf] <;> omega)
    · obtain rfl : i = m.length := by omega
      clear hlt hbl
      go_wp2
      go_ret
      exact ⟨rfl, HBL.out⟩

set_option maxRecDepth 100000 in
theorem ffirst_none {w : World} {base p : Nat} {rv : Option Nat} (h : RQ w base p [] rv) :
    Calls Try.prog 35 #[.pointer (some ⟨p, 0, none⟩)] w fun e w' => e = tickRes (0, 0) false ∧ Below w.heap.size w w' := by
  have h1 := h.below ((Below.refl _ _).alloc (Nat.le_refl _) (.cells #[.int .i64 0, .int .i64 0] 24))
  obtain ⟨ao, c, c0, -⟩ := h1.reads
  have c0' : (w.alloc (.cells #[.int .i64 0, .int .i64 0] 24)).cell? ⟨p, 0, none⟩ = some (.slice ao 0 c) := c0
  clear h h1 c0
  go_enter Try.func35, Try.ntmps35
  go_wp2
  exact bodyPost_ret (v := .tuple #[.agg #[.int .i64 0, .int .i64 0], .bool false]) (by simp [results, Try.results35, go_sem]) rfl
    ⟨rfl, (Below.refl _ _).alloc (Nat.le_refl _) _⟩
set_option maxRecDepth 100000 in
set_option maxHeartbeats 2000000 in
theorem ffirst_some {w : World} {base p : Nat} {x : Tk} {m : List Tk} {rv : Option Nat} (h : RQ w base p (x :: m) rv) :
    Calls Try.prog 35 #[.pointer (some ⟨p, 0, none⟩)] w fun e w' => e = tickRes (bestL x m) true ∧ Below w.heap.size w w' := by
  have hb1 : Below w.heap.size w (w.alloc (.cells #[.int .i64 0, .int .i64 0] 24)) := (Below.refl _ _).alloc (Nat.le_refl _) _
  have h1 := h.below hb1
  obtain ⟨ao, c, c0, htk⟩ := h1.reads
  obtain ⟨b, off, hao, hb, c1, c2⟩ := htk.some_ (i := 0) (by simp)
  subst hao
  have hsm := h.small
  have l0 : (m.length : Int) ≤ 4096 := by simp at hsm; omega
  have g0 : (((m.length : Int) + 1) == 0) = false := by rw [beq_eq_false_iff_ne]; omega
  have hsz : (w.alloc (.cells #[.int .i64 0, .int .i64 0] 24)).heap.size = w.heap.size + 1 := by simp
  have HK0 := Lib.hid ((Blk.new w 24 #[.int .i64 0, .int .i64 0]).alloc (.cells #[.int .i64 x.1, .int .i64 x.2] 24))
  have HK1 := Lib.hid (show Blk _ (w.heap.size + 1) _ _ from hsz ▸ Blk.new (w.alloc (.cells #[.int .i64 0, .int .i64 0] 24)) 24 #[.int .i64 x.1, .int .i64 x.2])
  have HB2 := Lib.hid (hb1.alloc (by rw [hsz]; omega) (.cells #[.int .i64 x.1, .int .i64 x.2] 24))
  have HQ := Lib.hid h
  have c1' : (w.alloc (.cells #[.int .i64 0, .int .i64 0] 24)).cell? ⟨b, off, none⟩ = some (.int .i64 x.1) := by have c := c1; rw [show nth (x :: m) 0 = x from rfl] at c; simpa using c
  have c2' : (w.alloc (.cells #[.int .i64 0, .int .i64 0] 24)).cell? ⟨b, off + 1, none⟩ = some (.int .i64 x.2) := by have c := c2; rw [show nth (x :: m) 0 = x from rfl] at c; simpa using c
  clear h h1 hb1 c1 c2 htk hsz
  go_enter Try.func35, Try.ntmps35
  go_wp2
  go_loopw [5] (fun s wr => ∃ k : Nat, k ≤ m.length ∧ s = .int .i64 ((k + 1 : Nat) : Int) ∧ Blk wr w.heap.size 24 #[.int .i64 0, .int .i64 0] ∧
      Blk wr (w.heap.size + 1) 24 #[.int .i64 (bestL x (m.take k)).1, .int .i64 (bestL x (m.take k)).2] ∧ Below w.heap.size w wr) (fun s _ => m.length + 1 - (intOf s).toNat)
  case atStart => exact ⟨0, Nat.zero_le _, rfl, HK0.out, HK1.out, HB2.out⟩
  case round =>
    obtain ⟨k, hk, rfl, hk0, hk1, hbl⟩ := hrel
    have hq := HQ.out.below hbl
    have HK0 := Lib.hid hk0
    have HBL := Lib.hid hbl
    have HK1 := Lib.hid hk1
    obtain ⟨ao, c, d0, htk⟩ := hq.reads
    obtain ⟨d1, d2, e1, e2⟩ := hk1.tick
    obtain ⟨d3, d4, e3, e4⟩ := hk0.tick
    by_cases hlt : k < m.length
    · have l1 : (k : Int) + 1 < (m.length : Int) + 1 := by omega
      obtain ⟨b, off, hao, hb, f1, f2⟩ := htk.some_ (i := k + 1) (by simp; omega)
      subst hao
      rw [show nth (x :: m) (k + 1) = nth m k from rfl] at f1 f2
      have HT := Lib.hid (best_take x m hlt)
      obtain ⟨y, hy⟩ : ∃ y, y = bestL x (m.take k) := ⟨_, rfl⟩
      rw [← hy] at HT HK1 d1 d2
      clear hk0 hk1 hbl hq htk hy
      by_cases hc : (nth m k).2 < y.2
      · have k1 : decide ((nth m k).2 < y.2) = true := by simpa using hc
        have HC := Lib.hid (show bestL x (m.take (k + 1)) = nth m k by rw [HT.out, if_pos hc])
        clear hc
        go_wp2
        go_quiet (fail)
        go_wp2
        go_roundw
        case rel =>
          refine ⟨k + 1, by omega, by go_num, ?_, ?_, ?_⟩
          · exact ((HK0.out.drewN nq).far (p := ⟨w.heap.size + 1, 0, none⟩) (by simp) _).far (p := ⟨w.heap.size + 1, 1, none⟩) (by simp) _
          · rw [HC.out]; exact (HK1.out.drewN nq).retick _ _
          · exact ((below_drewN HBL.out nq).setCell (p := ⟨w.heap.size + 1, 0, none⟩) (by simp) _).setCell (p := ⟨w.heap.size + 1, 1, none⟩) (by simp) _
        case measure => (simp [intOf] <;> omega)
      · have k1 : decide ((nth m k).2 < y.2) = false := by simpa using hc
        have HC := Lib.hid (show bestL x (m.take (k + 1)) = y by rw [HT.out, if_neg hc])
        clear hc
        go_wp2
        go_quiet (fail)
        go_wp2
        go_roundw
        case rel => exact ⟨k + 1, by omega, by go_num, HK0.out.drewN _, by rw [HC.out]; exact HK1.out.drewN _, below_drewN HBL.out _⟩
        case measure => (simp [intOf] <;> omega)
    · obtain rfl : k = m.length := by omega
      rw [List.take_length] at d1 d2 HK1
      clear hlt hk0 hk1 hbl hq htk
      go_wp2
      obtain ⟨q0, q1, -, -⟩ := (HK0.out.retick (.int .i64 (bestL x m).1) (.int .i64 (bestL x m).2)).tick
      exact bodyPost_ret (v := .tuple #[.agg #[.int .i64 (bestL x m).1, .int .i64 (bestL x m).2], .bool true]) (by simp [results, Try.results35, go_sem, q0, q1]) rfl
        ⟨rfl, (HBL.out.setCell (p := ⟨w.heap.size, 0, none⟩) (Nat.le_refl _) _).setCell (p := ⟨w.heap.size, 1, none⟩) (Nat.le_refl _) _⟩
end Go.Proofs.Ytlccplpniidjfaa
