/- The document's queue: May, place, Due, First, Same: the walks. -/
import Derived.Test.YtlccplpniidjfaaQRefPure
namespace Go.Proofs.Ytlccplpniidjfaa
open Go.RowKit

theorem rising_small : ∀ (m : List Tk) (a b : Int), Rising m → (∀ t ∈ m, a ≤ t.1 ∧ t.1 < b) → m.length ≤ (b - a).toNat
  | [], _, _, _, _ => Nat.zero_le _
  | x :: m, a, b, h, hb => by
    have hx := hb x List.mem_cons_self
    have := rising_small m (a + 1) b h.tail (fun t ht => by
      have h1 := h.head t ht
      have h2 := hb t (List.mem_cons_of_mem _ ht)
      omega)
    simp only [List.length_cons]
    omega
/-- The document's queue at block p: the list m; its row's block. -/
def RQ (w : World) (base p : Nat) (m : List Tk) (rv : Option Nat) : Prop :=
  ∃ v, Blk w p 57 #[v] ∧ w.ownsRow base 24 2 v m.length (tcells m) ∧ rv = v.ownBlock ∧ base ≤ p ∧ Rising m ∧ ∀ t ∈ m, mayT t = true
theorem RQ.small {w : World} {base p : Nat} {m : List Tk} {rv : Option Nat} (h : RQ w base p m rv) : m.length ≤ 4096 := by
  obtain ⟨v, _, _, _, _, hm, hmay⟩ := h
  exact rising_small m 0 4096 hm (fun t ht => by have := mayT_iff.1 (hmay t ht); omega)
theorem RQ.rising {w : World} {base p : Nat} {m : List Tk} {rv : Option Nat} (h : RQ w base p m rv) : Rising m := by
  obtain ⟨v, _, _, _, _, hm, hmay⟩ := h
  exact hm
theorem RQ.only {w w' : World} {S : Nat → Prop} {base p : Nat} {m : List Tk} {rv : Option Nat} (h : RQ w base p m rv) (ho : Only w w' S) (hn : ∀ k, QF p rv k → ¬ S k) : RQ w' base p m rv := by
  obtain ⟨v, hb, hown, hr, hr2⟩ := h
  exact ⟨v, hb.only ho (hn p (.inl rfl)), own_only hown ho (fun k hk => hn k (.inr (by rw [hr, hk]))), hr, hr2⟩
theorem RQ.below {w w' : World} {base p : Nat} {m : List Tk} {rv : Option Nat} (h : RQ w base p m rv) (hb : Below w.heap.size w w') : RQ w' base p m rv :=
  h.only (S := fun _ => False) (Only.of_below hb) (fun _ _ h => h)
theorem RQ.lt {w : World} {base p : Nat} {m : List Tk} {rv : Option Nat} (h : RQ w base p m rv) : ∀ k, QF p rv k → base ≤ k ∧ k < w.heap.size := by
  obtain ⟨v, hb, ho, hr, hbg, _⟩ := h
  intro k hk
  rcases hk with rfl | hk
  · exact ⟨hbg, hb.lt⟩
  · exact ho.lt k (by rw [← hr, hk])
/-- A queue's list, as it is read. -/
theorem RQ.reads {w : World} {base p : Nat} {m : List Tk} {rv : Option Nat} (h : RQ w base p m rv) : ∃ ao c, w.cell? ⟨p, 0, none⟩ = some (.slice ao m.length c) ∧ TicksAt w (.slice ao m.length c) m := by
  obtain ⟨v, hb, hown, _⟩ := h
  obtain ⟨htk, ao, c, rfl⟩ := own_ticks hown
  exact ⟨ao, c, by rw [hb.cell 0]; rfl, htk⟩

set_option maxRecDepth 100000 in
set_option maxHeartbeats 1000000 in
theorem fmay_any (w : World) (a d : Int) :
    Calls Try.prog 33 #[.agg #[.int .i64 a, .int .i64 d]] w fun e w' => e = .returned (.bool (mayT (a, d))) ∧ Below w.heap.size w w' := by
  have HB := Lib.hid (show Below w.heap.size w (w.alloc (.cells #[.int .i64 a, .int .i64 d] 24)) from (Below.refl _ _).alloc (Nat.le_refl _) _)
  by_cases h1 : 0 ≤ a
  · have g1 : decide (0 ≤ a) = true := by simpa using h1
    by_cases h2 : a < 4096
    · have g2 : decide (a < 4096) = true := by simpa using h2
      by_cases h3 : 1 ≤ d
      · have g3 : decide (1 ≤ d) = true := by simpa using h3
        have HM := Lib.hid (show mayT (a, d) = decide (d ≤ 2199023255552) by simp [mayT, h1, h2, h3])
        clear h1 h2 h3
        go_enter Try.func33, Try.ntmps33
        go_wp2
        go_ret
        exact ⟨by rw [HM.out]; rfl, HB.out⟩
      · have g3 : decide (1 ≤ d) = false := by simpa using h3
        have HM := Lib.hid (show mayT (a, d) = false by simp [mayT, h3])
        clear h1 h2 h3
        go_enter Try.func33, Try.ntmps33
        go_wp2
        go_ret
        exact ⟨by rw [HM.out]; rfl, HB.out⟩
    · have g2 : decide (a < 4096) = false := by simpa using h2
      have HM := Lib.hid (show mayT (a, d) = false by simp [mayT, h2])
      clear h1 h2
      go_enter Try.func33, Try.ntmps33
      go_wp2
      go_ret
      exact ⟨by rw [HM.out]; rfl, HB.out⟩
  · have g1 : decide (0 ≤ a) = false := by simpa using h1
    have HM := Lib.hid (show mayT (a, d) = false by simp [mayT, h1])
    clear h1
    go_enter Try.func33, Try.ntmps33
    go_wp2
    go_ret
    exact ⟨by rw [HM.out]; rfl, HB.out⟩
theorem fmay_any2 (w : World) (t : Tk) : Calls Try.prog 33 #[.agg #[.int .i64 t.1, .int .i64 t.2]] w fun e w' => e = .returned (.bool (mayT t)) ∧ Below w.heap.size w w' := fmay_any w t.1 t.2

set_option maxRecDepth 100000 in
set_option maxHeartbeats 2000000 in
theorem fplace_any {w : World} {base p : Nat} {m : List Tk} {rv : Option Nat} (h : RQ w base p m rv) (a : Int) :
    Calls Try.prog 34 #[.pointer (some ⟨p, 0, none⟩), .int .i64 a] w fun e w' => (∃ i : Nat, Place m a i ∧ e = .returned (.tuple #[.int .i64 (i : Nat), .bool (isAt m a i)])) ∧ ∃ n, w' = w.drewN n := by
  obtain ⟨ao, c, c0, htk⟩ := h.reads
  have HT := Lib.hid htk
  have hsm := h.small
  clear h htk
  go_enter Try.func34, Try.ntmps34
  go_wp2
  go_loopw [6] (fun s wr => ∃ i : Nat, i ≤ m.length ∧ (∀ j, j < i → (nth m j).1 < a) ∧ s = .int .i64 (i : Nat) ∧ wr = w) (fun s _ => m.length - (intOf s).toNat)
  case atStart => exact ⟨0, Nat.zero_le _, fun j hj => by omega, rfl, rfl⟩
  case round =>
    obtain ⟨i, hi, hall, rfl, rfl⟩ := hrel
    have HALL := Lib.hid hall
    clear hall
    by_cases hlt : i < m.length
    · have l1 : (i : Int) < (m.length : Int) := by omega
      obtain ⟨b, off, hao, hb, c1, c2⟩ := HT.out.some_ hlt
      subst hao
      by_cases hc : (nth m i).1 < a
      · have k1 : decide ((nth m i).1 < a) = true := by simpa using hc
        have HC := Lib.hid hc
        clear hc
        go_wp2
        go_roundw
        case rel => exact ⟨i + 1, by omega, fun j hj => (by
          rcases Nat.lt_or_ge j i with h | h
          · exact HALL.out j h
          · obtain rfl : j = i := by omega
            exact HC.out), by go_num, trivial⟩
        case measure => (simp [intOf] <;> omega)
      · have k1 : decide ((nth m i).1 < a) = false := by simpa using hc
        have HP := Lib.hid (show Place m a i from ⟨hi, HALL.out, fun _ => by omega⟩)
        by_cases he : (nth m i).1 = a
        · have k2 : ((nth m i).1 == a) = true := by simpa using he
          have HE := Lib.hid (show isAt m a i = true by simp [isAt]; exact ⟨hlt, he⟩)
          clear hc he
          go_wp2
          go_quiet (fail)
          go_wp2
          go_ret2
          exact ⟨⟨i, HP.out, by rw [HE.out]; rfl⟩, _, rfl⟩
        · have k2 : ((nth m i).1 == a) = false := by simpa using he
          have HE := Lib.hid (show isAt m a i = false by simp [isAt]; exact fun _ => he)
          clear hc he
          go_wp2
          go_quiet (fail)
          go_wp2
          go_ret2
          exact ⟨⟨i, HP.out, by rw [HE.out]; rfl⟩, _, rfl⟩
    · obtain rfl : i = m.length := by omega
      have HP := Lib.hid (show Place m a m.length from ⟨hi, HALL.out, fun h => by omega⟩)
      have HE := Lib.hid (show isAt m a m.length = false by simp [isAt])
      clear hlt
      go_wp2
      go_quiet (fail)
      go_wp2
      go_ret2
      exact ⟨⟨m.length, HP.out, by rw [HE.out]; rfl⟩, _, rfl⟩
end Go.Proofs.Ytlccplpniidjfaa
