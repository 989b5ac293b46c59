/- Take, where the first one is due: the walk. -/
import Derived.Test.YtlccplpniidjfaaQApi2
namespace Go.Proofs.Ytlccplpniidjfaa
open Go.RowKit

theorem Blk.only {w w' : World} {S : Nat → Prop} {p : Nat} {t : TypeId} {cs : Array Value} (h : Blk w p t cs) (ho : Only w w' S) (hn : ¬ S p) : Blk w' p t cs := (ho.block p h.lt hn).trans h
theorem QS.lt {w : World} {base g : Nat} {l : List Tk} {r : Option Nat} (h : QS w base g l r) : ∀ k, QF g r k → base ≤ k ∧ k < w.heap.size := by
  obtain ⟨v, f, hb, ho, hr, hbg, hf, ha⟩ := h
  intro k hk
  rcases hk with rfl | hk
  · exact ⟨hbg, hb.lt⟩
  · exact ho.lt k (by rw [← hr, hk])

set_option maxRecDepth 100000 in
set_option maxHeartbeats 1000000 in
theorem take_yes {w : World} {base g : Nat} {l : List Tk} {r : Option Nat} (h : QS w base g l r) (now : Int) (h0 : 0 < l.length) (hdue : (nth l 0).2 ≤ now) :
    Calls Try.prog 15 #[.pointer (some ⟨g, 0, none⟩), .int .i64 now] w fun e w' => e = tickRes (nth l 0) true ∧ QS w' base g (popL l) r ∧ Only w w' (QF g r) := by
  have h1 := h.alloc (.cells #[.int .i64 0, .int .i64 0] 24)
  have hlt := h.lt
  have HF := Lib.hid (first_in h1 h0)
  have hdue' : decide (now < (nth l 0).2) = false := by simp; omega
  have HQ := Lib.hid h
  have HLT := Lib.hid hlt
  have HH0 := Lib.hid h0
  clear h h1 hlt hdue h0
  go_enter Try.func15, Try.ntmps15
  go_wp2_with fail
  go_at_call 16
  refine HF.out.mono ?_
  rintro e w1 ⟨rfl, hb⟩
  unfold tickRes
  have kb : Blk w1 w.heap.size 24 #[.int .i64 0, .int .i64 0] := (Blk.new w 24 #[.int .i64 0, .int .i64 0]).below hb (by simp)
  have kz : w.heap.size < w1.heap.size := kb.lt
  have hw1 : Below w.heap.size w (w1.alloc (.cells #[.int .i64 (nth l 0).1, .int .i64 (nth l 0).2] 24)) := (((Below.refl w.heap.size w).alloc (Nat.le_refl _) _).trans (hb.mono (by simp))).alloc (by omega) _
  have kt := Blk.new w1 24 #[.int .i64 (nth l 0).1, .int .i64 (nth l 0).2]
  have kb1 := kb.alloc (.cells #[.int .i64 (nth l 0).1, .int .i64 (nth l 0).2] 24)
  have hq1 := HQ.out.below hw1
  have HP := Lib.hid (hpop_any hq1 HH0.out)
  have HT := Lib.hid kt
  have HB := Lib.hid kb1
  have HW := Lib.hid hw1
  clear hb kb hq1 kt kb1 hw1
  go_wp2_with fail
  go_at_call 30
  refine HP.out.mono ?_
  rintro e w2 ⟨rfl, hq2, ho2⟩
  have hn1 : ¬ QF g r w1.heap.size := fun hk => by have := (HLT.out _ hk).2; omega
  have hn2 : ¬ QF g r w.heap.size := fun hk => by have := (HLT.out _ hk).2; omega
  have kt2 := HT.out.only ho2 hn1
  have kb2 := HB.out.only ho2 hn2
  obtain ⟨k0, k1, -, -⟩ := kt2.tick
  obtain ⟨k2, k3, f2, f3⟩ := kb2.tick
  have KB := Lib.hid kb2
  have HQ2 := Lib.hid hq2
  have HO2 := Lib.hid ho2
  clear kt2 kb2 hq2 ho2
  go_wp2
  obtain ⟨q0, q1, -, -⟩ := (KB.out.retick (.int .i64 (nth l 0).1) (.int .i64 (nth l 0).2)).tick
  have hon : Only w2 ((w2.setCell ⟨w.heap.size, 0, none⟩ (.int .i64 (nth l 0).1)).setCell ⟨w.heap.size, 1, none⟩ (.int .i64 (nth l 0).2)) (fun k => k = w.heap.size) :=
    ((Only.refl w2 (fun k => k = w.heap.size)).setCell (p := ⟨w.heap.size, 0, none⟩) (.inl rfl) _).setCell (p := ⟨w.heap.size, 1, none⟩) (.inl rfl) _
  exact bodyPost_ret (v := .tuple #[.agg #[.int .i64 (nth l 0).1, .int .i64 (nth l 0).2], .bool true]) (by simp [results, Try.results15, go_sem, q0, q1]) rfl
    ⟨rfl, HQ2.out.only hon (fun k hk e => hn2 (e ▸ hk)), ((Only.of_below HW.out).trans' HO2.out).trans hon (fun k hk => .inr (by omega))⟩
end Go.Proofs.Ytlccplpniidjfaa
