/- heap.Push, heap.Pop, heap.Fix, heap.Remove over a queue's rows: the walks. -/
import Derived.Test.YtlccplpniidjfaaQDown
import Derived.Test.YtlccplpniidjfaaQPop
namespace Go.Proofs.Ytlccplpniidjfaa
open Go.RowKit

/-- The row's block stays, or is new. -/
def RNew (w : World) (r r' : Option Nat) : Prop := r' = r ∨ ∃ d, r' = some d ∧ w.heap.size ≤ d
theorem RNew.refl (w : World) (r : Option Nat) : RNew w r r := .inl rfl

theorem nth_push_last (l : List Tk) (t : Tk) : nth (l ++ [t]) l.length = t := by simp [nth, List.getD]
theorem whereIs_push {f : Nat → Nat} {l : List Tk} {t : Tk} (hf : WhereIs f l) (ha : Apt l) (ht : 0 ≤ t.1 ∧ t.1 < 4096) (hno : ∀ i, i < l.length → (nth l i).1 ≠ t.1) :
    WhereIs (upd f t.1.toNat (l.length + 1)) (l ++ [t]) ∧ Apt (l ++ [t]) := by
  have hl : (l ++ [t]).length = l.length + 1 := by simp
  have cases_ : ∀ i, i < (l ++ [t]).length → (i < l.length ∧ nth (l ++ [t]) i = nth l i) ∨ (i = l.length ∧ nth (l ++ [t]) i = t) := by
    intro i hi
    rw [hl] at hi
    by_cases e : i < l.length
    · exact .inl ⟨e, nth_append e⟩
    · obtain rfl : i = l.length := by omega
      exact .inr ⟨rfl, nth_push_last l t⟩
  refine ⟨⟨fun i hi => ?_, fun a hna => ?_⟩, fun i hi => ?_, fun i j hi hj he => ?_⟩
  · rcases cases_ i hi with ⟨h1, h2⟩ | ⟨h1, h2⟩
    · rw [h2]
      have hb := ha.1 i h1
      have : (nth l i).1.toNat ≠ t.1.toNat := fun h => hno i h1 (by omega)
      simp only [upd, if_neg this]
      exact hf.1 i h1
    · rw [h2, h1]; simp [upd]
  · have h1 := hna l.length (by rw [hl]; omega)
    rw [nth_push_last] at h1
    have : a ≠ t.1.toNat := fun h => h1 (by omega)
    simp only [upd, if_neg this]
    refine hf.2 a fun i hi => ?_
    have := hna i (by rw [hl]; omega)
    rwa [nth_append hi] at this
  · rcases cases_ i hi with ⟨h1, h2⟩ | ⟨h1, h2⟩
    · rw [h2]; exact ha.1 i h1
    · rw [h2]; exact ht
  · rcases cases_ i hi with ⟨h1, h2⟩ | ⟨h1, h2⟩ <;> rcases cases_ j hj with ⟨h3, h4⟩ | ⟨h3, h4⟩ <;> rw [h2, h4] at he
    · exact ha.2 i j h1 h3 he
    · exact absurd he (hno i h1)
    · exact absurd he.symm (hno j h3)
    · omega
theorem whereIs_pop {f : Nat → Nat} {l0 : List Tk} {t : Tk} (hf : WhereIs f (l0 ++ [t])) (ha : Apt (l0 ++ [t])) : WhereIs (upd f t.1.toNat 0) l0 ∧ Apt l0 := by
  have hl : (l0 ++ [t]).length = l0.length + 1 := by simp
  have hb := ha.1 l0.length (by rw [hl]; omega)
  rw [nth_push_last] at hb
  have hap : Apt l0 := ⟨fun i hi => by have := ha.1 i (by rw [hl]; omega); rwa [nth_append hi] at this, fun i j hi hj he => ha.2 i j (by rw [hl]; omega) (by rw [hl]; omega) (by rw [nth_append hi, nth_append hj]; exact he)⟩
  refine ⟨⟨fun i hi => ?_, fun a hna => ?_⟩, hap⟩
  · have h1 := hf.1 i (by rw [hl]; omega)
    have hbi := hap.1 i hi
    rw [nth_append hi] at h1
    have : (nth l0 i).1.toNat ≠ t.1.toNat := fun h => by
      have := ha.2 i l0.length (by rw [hl]; omega) (by rw [hl]; omega) (by rw [nth_append hi, nth_push_last]; omega)
      omega
    simp only [upd, if_neg this]
    exact h1
  · by_cases e : a = t.1.toNat
    · simp [upd, e]
    · simp only [upd, if_neg e]
      refine hf.2 a fun i hi he => ?_
      rw [hl] at hi
      by_cases e2 : i < l0.length
      · rw [nth_append e2] at he; exact hna i e2 he
      · obtain rfl : i = l0.length := by omega
        rw [nth_push_last] at he
        omega

/-- rows.Push, of a queue. -/
theorem rpush_q {w : World} {base g : Nat} {l : List Tk} {r : Option Nat} (h : QS w base g l r) (hbs : base ≤ w.heap.size) (a : Nat) (due : Int) (ha : a < 4096) (hno : ∀ i, i < l.length → (nth l i).1 ≠ (a : Int)) :
    Calls Try.prog 82 #[.pointer (some ⟨g, 0, none⟩), .iface 24 (.agg #[.int .i64 a, .int .i64 due])] w fun e w' =>
      e = .returned (.tuple #[]) ∧ ∃ r', QS w' base g (l ++ [((a : Int), due)]) r' ∧ Only w w' (QF g r) ∧ RNew w r r' := by
  obtain ⟨v, f, hb, ho, hr, hbg, hf, hap⟩ := h
  refine (rpush_any w base g v f l a due ha hap.small hbs hb ho).mono ?_
  rintro e w' ⟨he, d, c, h1, h2, h3, h4⟩
  have hp := whereIs_push (t := ((a : Int), due)) hf hap ⟨by simp, by simp; omega⟩ hno
  refine ⟨he, some d, ⟨_, _, h2, h1, rfl, hbg, ?_, hp.2⟩, by rw [hr]; exact h3, ?_⟩
  · have := hp.1
    simpa using this
  · rcases h4 with h4 | h4
    · exact .inl (h4.trans hr.symm)
    · exact .inr ⟨d, rfl, h4⟩
/-- rows.Pop, of a queue. -/
theorem rpop_q {w : World} {base g : Nat} {l0 : List Tk} {t : Tk} {r : Option Nat} (h : QS w base g (l0 ++ [t]) r) :
    Calls Try.prog 81 #[.pointer (some ⟨g, 0, none⟩)] w fun e w' =>
      e = .returned (.iface 24 (.agg #[.int .i64 t.1, .int .i64 t.2])) ∧ QS w' base g l0 r ∧ Only w w' (QF g r) := by
  obtain ⟨v, f, hb, ho, hr, hbg, hf, hap⟩ := h
  have hsm := hap.small
  have hl : (l0 ++ [t]).length = l0.length + 1 := by simp
  rw [hl] at ho hsm
  obtain ⟨d, c, rfl, hd, hc, hm⟩ := row_form ho (by omega)
  have hbt := hap.1 l0.length (by rw [hl]; omega)
  rw [nth_push_last] at hbt
  obtain ⟨a, hat⟩ : ∃ a : Nat, t.1 = a := ⟨t.1.toNat, by omega⟩
  have ht : t = ((a : Int), t.2) := by rw [← hat]
  have hp := whereIs_pop hf hap
  rw [hat] at hp ⊢
  refine (rpop_some w base g d l0.length c f l0 a t.2 (by omega) rfl (by omega) hc hm hb (by rw [← ht]; exact ho)).mono ?_
  rintro e w' ⟨he, h1, h2, h3⟩
  exact ⟨he, ⟨_, _, h2, h1, hr, hbg, by simpa using hp.1, hp.2⟩, by rw [hr]; exact h3⟩

theorem cell_q {w : World} {base g : Nat} {l : List Tk} {r : Option Nat} (h : QS w base g l r) : ∃ ao c, w.cell? ⟨g, 0, none⟩ = some (.slice ao l.length c) := by
  obtain ⟨ao, c, h, _⟩ := less_all h
  exact ⟨ao, c, h⟩

set_option maxRecDepth 100000 in
set_option maxHeartbeats 1000000 in
theorem hpush_any {w : World} {base g : Nat} {l : List Tk} {r : Option Nat} (h : QS w base g l r) (hbs : base ≤ w.heap.size) (a : Nat) (due : Int) (ha : a < 4096) (hno : ∀ i, i < l.length → (nth l i).1 ≠ (a : Int)) :
    Calls Try.prog 32 #[.iface 63 (.pointer (some ⟨g, 0, none⟩)), .iface 24 (.agg #[.int .i64 a, .int .i64 due])] w fun e w' =>
      e = .returned (.tuple #[]) ∧ ∃ r', QS w' base g (upL l.length (l ++ [((a : Int), due)]) l.length) r' ∧ Only w w' (QF g r) ∧ RNew w r r' := by
  have hsm := h.apt.small
  have HP := Lib.hid (rpush_q h hbs a due ha hno)
  have mp := m_push ⟨g, 0, none⟩
  clear h hno
  go_enter Try.func32, Try.ntmps32
  go_wp2_with fail
  go_at_call 82
  refine HP.out.mono ?_
  rintro e w1 ⟨rfl, r1, hq1, ho1, hr1⟩
  obtain ⟨ao, c, hc⟩ := cell_q hq1
  have hl : (l ++ [((a : Int), due)]).length = l.length + 1 := by simp
  have ml := run_len hc
  rw [hl] at ml
  have HU := Lib.hid (up_any hq1 l.length (by rw [hl]; omega))
  have HQ := Lib.hid hq1
  clear hc hl mp hq1
  go_wp2_with (first | (go_at_call 29; (with_reducible refine (len_any _ _ _ _).mono ?_); rintro e w' ⟨rfl, rfl⟩) | (go_at_call 44; (with_reducible refine HU.out.mono ?_); rintro e w2 ⟨rfl, hq2, ho2⟩))
  go_end0
  refine ⟨rfl, r1, hq2, ho1.trans ho2 ?_, hr1⟩
  intro i hi
  rcases hi with hi | hi
  · exact .inl (.inl hi)
  · rcases hr1 with hr1 | ⟨d, hr1, hd⟩
    · rw [hr1] at hi; exact .inl (.inr hi)
    · rw [hr1] at hi; injection hi with hi; right; omega
end Go.Proofs.Ytlccplpniidjfaa
