/- The plain laws of the sums: linear over bits; no Go. -/
import Derived.Test.YtanbidicopjoaaaDoorPure
namespace Go.Proofs.YtanbidicopjoaaaDoor

theorem xcancel (a b : Nat) : a ^^^ (a ^^^ b) = b := by rw [← Nat.xor_assoc, Nat.xor_self, Nat.zero_xor]
theorem xor_eq_zero {a b : Nat} (h : a ^^^ b = 0) : a = b := by
  have := xcancel a b
  rw [h, Nat.xor_zero] at this
  exact this
theorem xleft (a b c : Nat) : a ^^^ (b ^^^ c) = b ^^^ (a ^^^ c) := by rw [← Nat.xor_assoc, ← Nat.xor_assoc, Nat.xor_comm a b]
theorem x4 (a b c d : Nat) : (a ^^^ b) ^^^ (c ^^^ d) = (a ^^^ c) ^^^ (b ^^^ d) := by
  rw [Nat.xor_assoc, Nat.xor_assoc, xleft b c d]
theorem xcancel2 (p a b : Nat) : (a ^^^ p) ^^^ (b ^^^ p) = a ^^^ b := by rw [x4, Nat.xor_self, Nat.xor_zero]

/-- One bit. -/
def bitStep (x : Nat) : Nat := if x % 2 = 1 then x / 2 ^^^ 2197175160 else x / 2
theorem bitStep_xor (a b : Nat) : bitStep (a ^^^ b) = bitStep a ^^^ bitStep b := by
  have hp := Nat.xor_mod_two_eq_one (a := a) (b := b)
  have hd := Nat.xor_div_two (a := a) (b := b)
  unfold bitStep
  by_cases ha : a % 2 = 1 <;> by_cases hb : b % 2 = 1
  · rw [if_neg (by rw [hp]; simp [ha, hb]), if_pos ha, if_pos hb, hd, xcancel2]
  · rw [if_pos (by rw [hp]; simp [ha]; omega), if_pos ha, if_neg hb, hd, Nat.xor_assoc, Nat.xor_comm (b / 2), ← Nat.xor_assoc]
  · rw [if_pos (by rw [hp]; simp [hb]; omega), if_neg ha, if_pos hb, hd, Nat.xor_assoc]
  · rw [if_neg (by rw [hp]; simp; omega), if_neg ha, if_neg hb, hd]
theorem bitStep_even (k : Nat) : bitStep (2 * k) = k := by unfold bitStep; rw [if_neg (by omega)]; omega
theorem bitStep_lt {x : Nat} (h : x < 4294967296) : bitStep x < 4294967296 := by
  unfold bitStep
  split
  · exact xor_lt32 (by omega) (by decide)
  · omega
theorem bitStep_zero {x : Nat} (hx : x < 4294967296) (h : bitStep x = 0) : x = 0 := by
  unfold bitStep at h
  split at h
  · have := xor_eq_zero h; omega
  · omega

/-- So many bits. -/
def bitRunL (k x : Nat) : Nat := Nat.repeat bitStep k x
theorem bitRunL_zero (x : Nat) : bitRunL 0 x = x := rfl
theorem bitRunL_succ (k x : Nat) : bitRunL (k + 1) x = bitStep (bitRunL k x) := rfl
theorem bitRunL_lt (k : Nat) {x : Nat} (h : x < 4294967296) : bitRunL k x < 4294967296 := by
  induction k with
  | zero => exact h
  | succ k ih => exact bitStep_lt ih
theorem bitRunL_xor (k a b : Nat) : bitRunL k (a ^^^ b) = bitRunL k a ^^^ bitRunL k b := by
  induction k with
  | zero => rfl
  | succ k ih => rw [bitRunL_succ, ih, bitStep_xor]; rfl
theorem bitRunL_add (j k x : Nat) : bitRunL (j + k) x = bitRunL j (bitRunL k x) := by
  induction j with
  | zero => rw [Nat.zero_add]; rfl
  | succ j ih => rw [Nat.succ_add, bitRunL_succ, ih]; rfl
theorem bitRunL_mul (k m : Nat) : bitRunL k (2 ^ k * m) = m := by
  induction k generalizing m with
  | zero => rw [Nat.pow_zero, Nat.one_mul]; rfl
  | succ k ih => rw [bitRunL_succ, Nat.pow_succ, Nat.mul_assoc, ih, bitStep_even]
theorem bitRunL_eq_zero (k : Nat) {x : Nat} (hx : x < 4294967296) (h : bitRunL k x = 0) : x = 0 := by
  induction k with
  | zero => exact h
  | succ k ih => exact ih (bitStep_zero (bitRunL_lt k hx) h)

theorem mul_xor_low (i a b : Nat) (h : b < 2 ^ i) : 2 ^ i * a + b = 2 ^ i * a ^^^ b := by
  apply Nat.eq_of_testBit_eq
  intro j
  rw [Nat.testBit_xor, Nat.two_pow_add_eq_or_of_lt h, Nat.testBit_or]
  by_cases hj : j < i
  · have : (2 ^ i * a).testBit j = false := by rw [Nat.testBit_two_pow_mul]; simp; omega
    rw [this]; simp
  · have : b.testBit j = false := Nat.testBit_lt_two_pow (Nat.lt_of_lt_of_le h (Nat.pow_le_pow_right (by decide) (by omega)))
    rw [this]; simp
theorem half_run (i : Nat) (h : i < 16) : bitRunL 4 i = half i := by
  have : ∀ j : Fin 16, bitRunL 4 j.val = half j.val := by decide +kernel
  exact this ⟨i, h⟩
theorem nib_eq (x : Nat) : nib x = bitRunL 4 x := by
  have h : x = 2 ^ 4 * (x / 16) ^^^ x % 16 := by rw [← mul_xor_low 4 _ _ (by omega)]; omega
  rw [show bitRunL 4 x = bitRunL 4 (2 ^ 4 * (x / 16) ^^^ x % 16) from congrArg _ h, bitRunL_xor, bitRunL_mul, half_run _ (by omega)]
  rfl
def refStep (x : Nat) (z : Int) : Nat := bitRunL 8 (x ^^^ z.toNat)
def refRun (x : Nat) (l : List Int) : Nat := l.foldl refStep x
theorem byteStep_eq (x : Nat) (z : Int) : byteStep x z = refStep x z := by
  unfold byteStep refStep
  rw [nib_eq, nib_eq, ← bitRunL_add]
theorem crcRun_eq (x : Nat) (l : List Int) : crcRun x l = refRun x l := by
  unfold crcRun refRun
  congr 1
  funext x z
  exact byteStep_eq x z
theorem refStep_lt {x : Nat} (h : x < 4294967296) {z : Int} (hz : z < 256) : refStep x z < 4294967296 := bitRunL_lt _ (xor_lt32 h (by omega))
theorem refRun_lt {l : List Int} (hl : ∀ z ∈ l, 0 ≤ z ∧ z < 256) : ∀ {x : Nat}, x < 4294967296 → refRun x l < 4294967296 := by
  intro x h
  rw [← crcRun_eq]; exact crcRun_lt hl h
theorem refRun_take (x : Nat) (l : List Int) (k : Nat) (h : k < l.length) : refRun x (l.take (k + 1)) = refStep (refRun x (l.take k)) (l.getD k 0) := by
  unfold refRun; rw [List.take_succ_eq_append_getElem h, getD_in _ _ h, List.foldl_append]; rfl
theorem bit_odd {v : Nat} (h : v % 2 = 1) : bitStep v = (v / 2 ^^^ 2197175160) := by unfold bitStep; rw [if_pos h]
theorem bit_even {v : Nat} (h : ¬ v % 2 = 1) : bitStep v = v / 2 := by unfold bitStep; rw [if_neg h]

theorem ones_xor {x : Nat} (h : x < 4294967296) : 4294967295 ^^^ x = 4294967295 - x := by
  have h1 : (~~~(BitVec.ofNat 32 x)).toNat = 2 ^ 32 - 1 - (BitVec.ofNat 32 x).toNat := BitVec.toNat_not
  have h2 : (BitVec.allOnes 32 ^^^ BitVec.ofNat 32 x).toNat = (BitVec.allOnes 32).toNat ^^^ (BitVec.ofNat 32 x).toNat := BitVec.toNat_xor _ _
  rw [BitVec.allOnes_xor] at h2
  rw [h2, BitVec.toNat_ofNat, Nat.mod_eq_of_lt h, BitVec.toNat_allOnes] at h1
  exact h1

/-- CrcSums: the sum is the document's. -/
theorem crcMore_ref {s : Nat} (hs : s < 4294967296) {l : List Int} (hl : ∀ z ∈ l, 0 ≤ z ∧ z < 256) :
    crcMore s l = 4294967295 - refRun (4294967295 - s) l := by
  unfold crcMore
  rw [ones_xor hs, crcRun_eq, ones_xor (refRun_lt hl (by omega))]
/-- CrcParts. -/
theorem crcMore_append (a b : List Int) (s : Nat) : crcMore (crcMore s a) b = crcMore s (a ++ b) := by
  unfold crcMore
  rw [xcancel, crcRun, crcRun, crcRun, List.foldl_append]
theorem crcMore_nil (s : Nat) : crcMore s [] = s := by
  unfold crcMore crcRun
  rw [List.foldl_nil, xcancel]

/-- A row of bytes as one number, the first byte the least. -/
def numL : List Int → Nat
  | [] => 0
  | z :: l => z.toNat ^^^ 256 * numL l
theorem refRun_num (l : List Int) : ∀ x, refRun x l = bitRunL (8 * l.length) (x ^^^ numL l) := by
  induction l with
  | nil => intro x; show x = bitRunL 0 (x ^^^ 0); rw [Nat.xor_zero]; rfl
  | cons z l ih =>
    intro x
    show refRun (refStep x z) l = _
    rw [ih, List.length_cons, Nat.mul_succ, bitRunL_add]
    congr 1
    show refStep x z ^^^ numL l = bitRunL 8 (x ^^^ (z.toNat ^^^ 256 * numL l))
    rw [← Nat.xor_assoc, bitRunL_xor, show (256 : Nat) = 2 ^ 8 from rfl, bitRunL_mul]
    rfl
theorem crcMore_num (s : Nat) (l : List Int) : crcMore s l = 4294967295 ^^^ bitRunL (8 * l.length) (4294967295 ^^^ s ^^^ numL l) := by
  unfold crcMore
  rw [crcRun_eq, refRun_num]

/-- Bit by bit one of three rows. -/
def xor3 : List Int → List Int → List Int → List Int
  | x :: a, y :: b, z :: c => (((x.toNat ^^^ y.toNat) ^^^ z.toNat : Nat) : Int) :: xor3 a b c
  | _, _, _ => []
theorem mul_xor (k a b : Nat) : 2 ^ k * (a ^^^ b) = 2 ^ k * a ^^^ 2 ^ k * b := by
  have h := Nat.shiftLeft_xor_distrib (i := k) (a := a) (b := b)
  rw [Nat.shiftLeft_eq, Nat.shiftLeft_eq, Nat.shiftLeft_eq] at h
  rw [Nat.mul_comm, h, Nat.mul_comm a, Nat.mul_comm b]
theorem xor3_num : ∀ (a b c : List Int), a.length = b.length → b.length = c.length → numL (xor3 a b c) = (numL a ^^^ numL b) ^^^ numL c
  | [], [], [], _, _ => rfl
  | x :: a, y :: b, z :: c, h1, h2 => by
    simp only [List.length_cons, Nat.add_right_cancel_iff] at h1 h2
    simp only [xor3, numL, Int.toNat_natCast]
    rw [xor3_num a b c h1 h2, show (256 : Nat) = 2 ^ 8 from rfl, mul_xor, mul_xor, x4 x.toNat, x4 (x.toNat ^^^ y.toNat)]
  | [], [], _ :: _, _, h2 => by simp at h2
  | [], _ :: _, _, h1, _ => by simp at h1
  | _ :: _, [], _, h1, _ => by simp at h1
  | _ :: _, _ :: _, [], _, h2 => by simp at h2
theorem xor3_length : ∀ (a b c : List Int), a.length = b.length → b.length = c.length → (xor3 a b c).length = a.length
  | [], [], [], _, _ => rfl
  | x :: a, y :: b, z :: c, h1, h2 => by
    simp only [List.length_cons, Nat.add_right_cancel_iff] at h1 h2
    simp only [xor3, List.length_cons]
    rw [xor3_length a b c h1 h2]
  | [], [], _ :: _, _, h2 => by simp at h2
  | [], _ :: _, _, h1, _ => by simp at h1
  | _ :: _, [], _, h1, _ => by simp at h1
  | _ :: _, _ :: _, [], _, h2 => by simp at h2
/-- CrcThree. -/
theorem crcMore_three (a b c : List Int) (h1 : a.length = b.length) (h2 : b.length = c.length) :
    crcMore 0 (xor3 a b c) = crcMore 0 a ^^^ crcMore 0 b ^^^ crcMore 0 c := by
  rw [crcMore_num, crcMore_num, crcMore_num, crcMore_num, xor3_num a b c h1 h2, xor3_length a b c h1 h2, ← h2, ← h1, Nat.xor_zero]
  have e : ∀ F A B C : Nat, F ^^^ (A ^^^ B ^^^ C) = (F ^^^ A) ^^^ (F ^^^ B) ^^^ (F ^^^ C) := by
    intro F A B C
    rw [x4 F A F B, Nat.xor_self, Nat.zero_xor, xleft]
  rw [e, bitRunL_xor, bitRunL_xor]
  exact e _ _ _ _

theorem numL_inj : ∀ {a b : List Int}, (∀ z ∈ a, 0 ≤ z ∧ z < 256) → (∀ z ∈ b, 0 ≤ z ∧ z < 256) → a.length = b.length → numL a = numL b → a = b
  | [], [], _, _, _, _ => rfl
  | x :: a, y :: b, ha, hb, h1, h => by
    simp only [List.length_cons, Nat.add_right_cancel_iff] at h1
    have hx := ha x List.mem_cons_self
    have hy := hb y List.mem_cons_self
    unfold numL at h
    rw [Nat.xor_comm x.toNat, Nat.xor_comm y.toNat, show (256 : Nat) = 2 ^ 8 from rfl, ← mul_xor_low 8 _ _ (by omega), ← mul_xor_low 8 _ _ (by omega)] at h
    have h3 : numL a = numL b := by omega
    have h4 : x = y := by omega
    rw [h4, numL_inj (fun z hz => ha z (List.mem_cons_of_mem _ hz)) (fun z hz => hb z (List.mem_cons_of_mem _ hz)) h1 h3]
  | [], _ :: _, _, _, h1, _ => by simp at h1
  | _ :: _, [], _, _, h1, _ => by simp at h1
theorem numL_set : ∀ (l : List Int) (j y : Nat), j < l.length → numL (l.set j (((l.getD j 0).toNat ^^^ y : Nat) : Int)) = numL l ^^^ 2 ^ (8 * j) * y
  | [], j, _, h => by simp at h
  | z :: l, 0, y, _ => by
    simp only [List.set_cons_zero, numL, List.getD_cons_zero, Int.toNat_natCast, Nat.mul_zero, Nat.pow_zero, Nat.one_mul]
    rw [Nat.xor_assoc, Nat.xor_comm y, ← Nat.xor_assoc]
  | z :: l, j + 1, y, h => by
    simp only [List.set_cons_succ, numL, List.getD_cons_succ]
    rw [numL_set l j y (by simpa using h), show (256 : Nat) = 2 ^ 8 from rfl, mul_xor, ← Nat.xor_assoc, ← Nat.mul_assoc, ← Nat.pow_add, Nat.mul_succ, Nat.add_comm 8]
/-- CrcBurst: bits that are turned within 32 are told. -/
theorem crcMore_burst {a b : List Int} (ha : ∀ z ∈ a, 0 ≤ z ∧ z < 256) (hb : ∀ z ∈ b, 0 ≤ z ∧ z < 256) (hl : b.length = a.length) {bit R : Nat}
    (hbit : bit ≤ 8 * a.length) (hR : R < 4294967296) (hn : numL b = numL a ^^^ 2 ^ bit * R) : crcMore 0 a = crcMore 0 b ↔ a = b := by
  constructor
  · intro h
    rw [crcMore_num, crcMore_num, hn, hl, ← Nat.xor_assoc, bitRunL_xor (8 * a.length) _ (2 ^ bit * R), ← Nat.xor_assoc] at h
    have h0 : bitRunL (8 * a.length) (2 ^ bit * R) = 0 := by
      have := congrArg (fun t => (4294967295 ^^^ bitRunL (8 * a.length) (4294967295 ^^^ 0 ^^^ numL a)) ^^^ t) h
      simp only [Nat.xor_self, xcancel] at this
      exact this.symm
    rw [show 8 * a.length = (8 * a.length - bit) + bit from by omega, bitRunL_add, bitRunL_mul] at h0
    have hz := bitRunL_eq_zero _ hR h0
    subst hz
    rw [Nat.mul_zero, Nat.xor_zero] at hn
    exact numL_inj ha hb hl.symm hn.symm
  · intro h; rw [h]

end Go.Proofs.YtanbidicopjoaaaDoor
