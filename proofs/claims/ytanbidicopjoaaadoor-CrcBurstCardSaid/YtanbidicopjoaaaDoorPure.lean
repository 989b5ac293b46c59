/- The plain sums: bytes and sums as natural numbers; no Go. -/
import Derived.Test.YtanbidicopjoaaaDoorRows
namespace Go.Proofs.YtanbidicopjoaaaDoor

/-- What comes of four bits. -/
def half (i : Nat) : Nat :=
  [0, 274646895, 549293790, 820201905, 1098587580, 1361435347, 1640403810, 1905808397, 2197175160, 2460548119, 2722870694, 2987750089, 3280807620, 3553878443, 3811616794, 4084100981].getD i 0
def nib (x : Nat) : Nat := x / 16 ^^^ half (x % 16)
def byteStep (x : Nat) (z : Int) : Nat := nib (nib (x ^^^ z.toNat))
def crcRun (x : Nat) (l : List Int) : Nat := l.foldl byteStep x
def crcMore (sum : Nat) (l : List Int) : Nat := 4294967295 ^^^ crcRun (4294967295 ^^^ sum) l

theorem getD_in {α : Type} (l : List α) (d : α) {i : Nat} (h : i < l.length) : l.getD i d = l[i] := by simp [List.getD, List.getElem?_eq_getElem h]
theorem getD_out {α : Type} (l : List α) (d : α) {i : Nat} (h : l.length ≤ i) : l.getD i d = d := by simp [List.getD, List.getElem?_eq_none h]
theorem xor_lt32 {a b : Nat} (ha : a < 4294967296) (hb : b < 4294967296) : a ^^^ b < 4294967296 := Nat.xor_lt_two_pow (n := 32) ha hb
theorem half_lt (i : Nat) : half i < 4294967296 := by
  by_cases h : i < 16
  · have : ∀ j : Fin 16, half j.val < 4294967296 := by decide
    exact this ⟨i, h⟩
  · unfold half
    rw [getD_out _ _ (by simp; omega)]
    decide
theorem nib_lt {x : Nat} (h : x < 4294967296) : nib x < 4294967296 := xor_lt32 (by omega) (half_lt _)
theorem byteStep_lt {x : Nat} (h : x < 4294967296) {z : Int} (hz : z < 256) : byteStep x z < 4294967296 :=
  nib_lt (nib_lt (xor_lt32 h (by omega)))
theorem crcRun_lt {l : List Int} (hl : ∀ z ∈ l, 0 ≤ z ∧ z < 256) : ∀ {x : Nat}, x < 4294967296 → crcRun x l < 4294967296 := by
  induction l with
  | nil => intro x h; exact h
  | cons z l ih =>
    intro x h
    exact ih (fun y hy => hl y (List.mem_cons_of_mem _ hy)) (byteStep_lt h (hl z (List.mem_cons_self)).2)
theorem crcMore_lt {sum : Nat} (h : sum < 4294967296) {l : List Int} (hl : ∀ z ∈ l, 0 ≤ z ∧ z < 256) : crcMore sum l < 4294967296 :=
  xor_lt32 (by decide) (crcRun_lt hl (xor_lt32 (by decide) h))
theorem crcRun_snoc (x : Nat) (l : List Int) (z : Int) : crcRun x (l ++ [z]) = byteStep (crcRun x l) z := by simp [crcRun]
theorem crcRun_take (x : Nat) (l : List Int) (k : Nat) (h : k < l.length) : crcRun x (l.take (k + 1)) = byteStep (crcRun x (l.take k)) (l.getD k 0) := by
  rw [List.take_succ_eq_append_getElem h, crcRun_snoc, getD_in _ _ h]

end Go.Proofs.YtanbidicopjoaaaDoor
