/- The document's Number: what it makes of a word, as a plain function; a number's digits. -/
import Derived.Test.YtjbhkmpabajeoaaDoorLFWords
namespace Go.Proofs.YtjbhkmpabajeoaaDoor
set_option linter.unusedSimpArgs false
set_option linter.unusedVariables false
open Go.Lib (decDigits itoa nDigits nDigits_le20 nDigits_pos nDigits_big nDigits_small decDigits_length)

def digB (c : UInt8) : Bool := decide (48 ≤ c.toNat ∧ c.toNat ≤ 57)
def numStep (n : Int) (c : UInt8) : Int := IntKind.i64.wrap (IntKind.i64.wrap (10 * n) - ((c.toNat : Int) - 48))
/-- The loop: the digits, below zero; none: a byte that is no digit. -/
def numLoop : Int → Bs → Option Int
  | n, [] => some n
  | n, c :: l => if digB c then numLoop (numStep n c) l else none
def signed (s : Bs) : Nat := if s.getD 0 0 = 45 then 1 else 0
def numV (s : Bs) : Int :=
  if s.length = signed s ∨ signed s + 19 < s.length then 0
  else match numLoop 0 (s.drop (signed s)) with
    | none => 0
    | some n => if signed s = 0 then IntKind.i64.wrap (-n) else n
theorem numLoop_append : ∀ (l r : Bs) (n : Int), numLoop n (l ++ r) = (numLoop n l).bind fun m => numLoop m r
  | [], r, n => rfl
  | c :: l, r, n => by
    simp only [List.cons_append, numLoop]
    by_cases h : digB c
    · simp only [h, if_true]; exact numLoop_append l r _
    · simp [h]
theorem wrap_in {n : Int} (h : InI n) : IntKind.i64.wrap n = n := IntWalk.i64_in n h
theorem dig_of {d : Nat} (h : d < 10) : digB (UInt8.ofNat (48 + d)) = true := by
  unfold digB
  rw [digit_toNat h]
  simp
  omega
theorem step_of {u d : Nat} (h : d < 10) (hu : u * 10 + d ≤ 9223372036854775808) : numStep (-(u : Int)) (UInt8.ofNat (48 + d)) = -((u * 10 + d : Nat) : Int) := by
  unfold numStep
  have e1 : IntKind.i64.wrap (10 * -(u : Int)) = 10 * -(u : Int) := wrap_in (by unfold InI; omega)
  rw [digit_toNat h, e1, wrap_in (by unfold InI; omega)]
  omega
theorem num_dec : ∀ u, u ≤ 9223372036854775808 → numLoop 0 (decDigits u) = some (-(u : Int)) := by
  intro u
  induction u using Nat.strongRecOn with
  | _ u ih =>
    intro hu
    by_cases h : u < 10
    · rw [decDigits, dif_pos h]
      have := step_of (u := 0) h (by omega)
      simp only [numLoop, dig_of h, if_true]
      simpa using this
    · have e : decDigits u = decDigits (u / 10) ++ [UInt8.ofNat (48 + u % 10)] := by
        conv => lhs; rw [decDigits, dif_neg h]
      rw [e, numLoop_append, ih (u / 10) (by omega) (by omega)]
      have := step_of (u := u / 10) (d := u % 10) (by omega) (by omega)
      simp only [Option.bind_some, numLoop, dig_of (show u % 10 < 10 by omega), if_true, this]
      congr 2
      omega
theorem nDigits_19 {u : Nat} (h : u ≤ 9223372036854775808) : nDigits u ≤ 19 := by
  have h1 : nDigits (u / 10 ^ 18) ≤ 1 := by rw [nDigits_small (by omega)]; exact Nat.le_refl _
  have step : ∀ v, nDigits v ≤ nDigits (v / 10) + 1 := fun v => by
    by_cases hv : v < 10
    · rw [nDigits_small hv]; omega
    · rw [nDigits_big hv]; exact Nat.le_refl _
  have hk : ∀ k, nDigits u ≤ nDigits (u / 10 ^ k) + k := by
    intro k
    induction k with
    | zero => simp
    | succ k ih =>
      have := step (u / 10 ^ k)
      rw [Nat.div_div_eq_div_mul, ← Nat.pow_succ] at this
      show nDigits u ≤ nDigits (u / 10 ^ k.succ) + (k + 1)
      omega
  have := hk 18
  omega
theorem dec_first (u : Nat) : (decDigits u).getD 0 0 ≠ 45 := by
  intro h
  have hl := decDigits_length u
  have hp := nDigits_pos u
  cases hd : decDigits u with
  | nil => rw [hd] at hl; simp at hl; omega
  | cons c l =>
    rw [hd] at h
    have := dec_digits u c (by rw [hd]; exact List.mem_cons_self)
    simp at h
    subst h
    simp at this
theorem num_itoa {v : Int} (h : InI v) : numV (itoa v) = v := by
  unfold InI at h
  by_cases hv : v < 0
  · have e : itoa v = 45 :: decDigits v.natAbs := by unfold itoa; rw [if_pos hv]
    have hu : v.natAbs ≤ 9223372036854775808 := by omega
    have hl := decDigits_length v.natAbs
    have h9 := nDigits_19 hu
    have hp := nDigits_pos v.natAbs
    rw [e]
    have hs : signed (45 :: decDigits v.natAbs) = 1 := by simp [signed]
    unfold numV
    rw [hs, if_neg (by rw [List.length_cons]; omega)]
    simp only [List.drop_succ_cons, List.drop_zero, num_dec _ hu]
    simp
    omega
  · have e : itoa v = decDigits v.toNat := by unfold itoa; rw [if_neg hv]
    have hu : v.toNat ≤ 9223372036854775808 := by omega
    have hl := decDigits_length v.toNat
    have h9 := nDigits_19 hu
    have hp := nDigits_pos v.toNat
    rw [e]
    have hs : signed (decDigits v.toNat) = 0 := by unfold signed; rw [if_neg (dec_first _)]
    unfold numV
    rw [hs, if_neg (by omega)]
    simp only [List.drop_zero, num_dec _ hu, if_true]
    rw [wrap_in (by unfold InI; omega)]
    omega
end Go.Proofs.YtjbhkmpabajeoaaDoor
