/- Joined texts of one seat, each under its own heading below. -/
import Derived.Test.YtlhjjmfbifhgfaaKit
import Derived.Test.YtlhjjmfbifhgfaaFM2
import Derived.Deep.WholeRow
import Derived.Great.Walk
/- The table of kinds: the walk. -/
namespace Go.Proofs.Ytlhjjmfbifhgfaa
set_option linter.unusedSimpArgs false
set_option linter.unusedVariables false
open Go.RowKit

abbrev Bs := List UInt8
abbrev str (l : Bs) : ByteArray := ⟨l.toArray⟩
def InU (n : Int) : Prop := 0 ≤ n ∧ n ≤ 255
def InI (n : Int) : Prop := -9223372036854775808 ≤ n ∧ n ≤ 9223372036854775807
/-! ### kinds -/
/-- Name, what it is, least and greatest level. -/
def kinds : List (Bs × Int × Int × Int) := [([97, 105, 114], 13, 0, 0), ([98, 101, 100, 114, 111, 99, 107], 0, 0, 0), ([115, 116, 111, 110, 101], 2, 0, 0), ([115, 111, 105, 108], 2, 0, 0), ([115, 97, 110, 100], 18, 0, 0), ([103, 114, 97, 118, 101, 108], 18, 0, 0), ([119, 111, 111, 100], 34, 0, 0), ([108, 101, 97, 118, 101, 115], 34, 0, 0), ([97, 115, 104], 18, 0, 0), ([103, 108, 97, 115, 115], 3, 0, 0), ([109, 111, 118, 101, 114], 0, 0, 0), ([116, 111, 114, 99, 104], 13, 1, 15), ([112, 108, 97, 110, 116], 45, 0, 3), ([119, 97, 116, 101, 114], 5, 0, 7), ([102, 105, 114, 101], 13, 0, 1)]
def kindR (k : Int) : Bs × Int × Int × Int := if 0 ≤ k ∧ k < 15 then kinds.getD k.toNat ([], 0, 0, 0) else ([], 0, 0, 0)
def kv (x : Bs × Int × Int × Int) : Value := .agg #[.string (str x.1), .int .u8 x.2.1, .int .u8 x.2.2.1, .int .u8 x.2.2.2]
def kCells : Array Value := (kinds.flatMap fun x => [.string (str x.1), .int .u8 x.2.1, .int .u8 x.2.2.1, .int .u8 x.2.2.2]).toArray
def kZero : Array Value := ((List.range 15).flatMap fun _ => [.string ByteArray.empty, .int .u8 0, .int .u8 0, .int .u8 0]).toArray
theorem kCells_fin : ∀ i : Fin 15, kCells[i.val * 4]? = some (.string (str (kinds.getD i.val ([], 0, 0, 0)).1)) ∧ kCells[i.val * 4 + 1]? = some (.int .u8 (kinds.getD i.val ([], 0, 0, 0)).2.1) ∧ kCells[i.val * 4 + 2]? = some (.int .u8 (kinds.getD i.val ([], 0, 0, 0)).2.2.1) ∧ kCells[i.val * 4 + 3]? = some (.int .u8 (kinds.getD i.val ([], 0, 0, 0)).2.2.2)
  | 0 => ⟨rfl, rfl, rfl, rfl⟩ | 1 => ⟨rfl, rfl, rfl, rfl⟩ | 2 => ⟨rfl, rfl, rfl, rfl⟩ | 3 => ⟨rfl, rfl, rfl, rfl⟩ | 4 => ⟨rfl, rfl, rfl, rfl⟩ | 5 => ⟨rfl, rfl, rfl, rfl⟩ | 6 => ⟨rfl, rfl, rfl, rfl⟩ | 7 => ⟨rfl, rfl, rfl, rfl⟩
  | 8 => ⟨rfl, rfl, rfl, rfl⟩ | 9 => ⟨rfl, rfl, rfl, rfl⟩ | 10 => ⟨rfl, rfl, rfl, rfl⟩ | 11 => ⟨rfl, rfl, rfl, rfl⟩ | 12 => ⟨rfl, rfl, rfl, rfl⟩ | 13 => ⟨rfl, rfl, rfl, rfl⟩ | 14 => ⟨rfl, rfl, rfl, rfl⟩
/-- A whole array into the block that was made last. -/
theorem wpList_store_new {P : Program} {ops : Array Oper} {rest : List Oper} {o : Oper} {a : Act} {w : World} {Q : Exit → Act → World → Prop} (hgd : o.guard = none) (ty : TypeId) (x y : Operand) (ho : o.op = .store ty x y) (hdst : o.dst = none)
    (W : World) (t : TypeId) (c c' : Array Value) (hw : w = W.alloc (.cells c t)) (hx : a.eval x = .pointer (some ⟨W.heap.size, 0, none⟩)) (hy : a.eval y = .agg c') (hi : (P.info? ty).map (·.size) = some c'.size)
    (hc : c.size = c'.size) (h1 : c'.all (·.oneCell') = true) (h : wpList P ops Q rest (a.put none undef) (W.alloc (.cells c' t))) : wpList P ops Q (o :: rest) a w := by
  subst hw
  refine wpList_store_row hgd ty x y ho _ c' hx hy t c (heap_alloc_last _ _) hi hc h1 ?_
  rw [World.setRow_alloc_new, hdst]
  exact h
set_option maxRecDepth 100000 in
set_option maxHeartbeats 1000000 in
theorem of_some (w : World) (i : Nat) (hi : i < 15) : Calls Try.prog 62 #[.int .u8 (i : Int)] w fun e w' => e = .returned (kv (kinds.getD i ([], 0, 0, 0))) ∧ Below w.heap.size w w' := by
  obtain ⟨e0, e1, e2, e3⟩ := kCells_fin ⟨i, hi⟩
  simp only at e0 e1 e2 e3
  generalize kinds.getD i ([], 0, 0, 0) = x at e0 e1 e2 e3 ⊢
  obtain ⟨x1, x2, x3, x4⟩ := x
  simp only at e0 e1 e2 e3
  go_enter Try.func62, Try.ntmps62
  go_wp2_with (first
    | (refine Great.wpList_runTo rfl (some 19) rfl (.agg kCells) _ (by kernel_rfl) ?_)
    | (refine Great.wpList_runTo rfl (some 3) rfl (.pointer (some ⟨(w.alloc (.cells #[.string ByteArray.empty, .int .u8 0, .int .u8 0, .int .u8 0] 100)).heap.size, 0, none⟩)) ((w.alloc (.cells #[.string ByteArray.empty, .int .u8 0, .int .u8 0, .int .u8 0] 100)).alloc (.cells kZero 116)) (by kernel_rfl) ?_)
    | (refine wpList_store_new rfl 116 _ _ rfl rfl (w.alloc (.cells #[.string ByteArray.empty, .int .u8 0, .int .u8 0, .int .u8 0] 100)) 116 kZero kCells rfl rfl rfl (by kernel_rfl) (by kernel_rfl) (by kernel_rfl) ?_))
  refine bodyPost_ret (v := kv (x1, x2, x3, x4)) (by simp [results, Try.results62, go_sem, kv]) rfl ⟨rfl, ?_⟩
  exact ((Below.refl _ _).alloc (Nat.le_refl _) _).alloc (by simp) _
set_option maxRecDepth 100000 in
set_option maxHeartbeats 1000000 in
theorem of_no (w : World) (i : Nat) (h : 15 ≤ i) (h2 : i ≤ 255) : Calls Try.prog 62 #[.int .u8 (i : Int)] w fun e w' => e = .returned (kv ([], 0, 0, 0)) ∧ Below w.heap.size w w' := by
  go_enter Try.func62, Try.ntmps62
  go_wp2_with (first
    | (refine Great.wpList_runTo rfl (some 19) rfl (.agg kCells) _ (by kernel_rfl) ?_)
    | (refine Great.wpList_runTo rfl (some 3) rfl (.pointer (some ⟨(w.alloc (.cells #[.string ByteArray.empty, .int .u8 0, .int .u8 0, .int .u8 0] 100)).heap.size, 0, none⟩)) ((w.alloc (.cells #[.string ByteArray.empty, .int .u8 0, .int .u8 0, .int .u8 0] 100)).alloc (.cells kZero 116)) (by kernel_rfl) ?_)
    | (refine wpList_store_new rfl 116 _ _ rfl rfl (w.alloc (.cells #[.string ByteArray.empty, .int .u8 0, .int .u8 0, .int .u8 0] 100)) 116 kZero kCells rfl rfl rfl (by kernel_rfl) (by kernel_rfl) (by kernel_rfl) ?_))
  refine bodyPost_ret (v := kv ([], 0, 0, 0)) (by simp [results, Try.results62, go_sem, kv]) rfl ⟨rfl, ?_⟩
  exact ((Below.refl _ _).alloc (Nat.le_refl _) _).alloc (by simp) _
theorem of_any (w : World) (k : Int) (hk : InU k) : Calls Try.prog 62 #[.int .u8 k] w fun e w' => e = .returned (kv (kindR k)) ∧ Below w.heap.size w w' := by
  unfold InU at hk
  by_cases h : k < 15
  · obtain ⟨i, rfl⟩ : ∃ i : Nat, k = (i : Int) := ⟨k.toNat, by omega⟩
    have e : kindR (i : Int) = kinds.getD i ([], 0, 0, 0) := by unfold kindR; rw [if_pos (by omega)]; rfl
    rw [e]
    exact of_some w i (by omega)
  · have e : kindR k = ([], 0, 0, 0) := by unfold kindR; rw [if_neg (by omega)]
    rw [e]
    obtain ⟨i, rfl⟩ : ∃ i : Nat, k = (i : Int) := ⟨k.toNat, by omega⟩
    exact of_no w i (by omega) (by omega)

/-! ### what is asked of a cell -/
/-- May a cell be? -/
def mayC (k l : Int) : Bool := decide ((kindR k).1 ≠ []) && decide ((kindR k).2.2.1 ≤ l) && decide (l ≤ (kindR k).2.2.2)
/-- Is a kind clear? -/
def clearK (k : Int) : Bool := decide ((kindR k).2.1 % 2 = 1)
def clearC (k l : Int) : Bool := mayC k l && clearK k
def lampC (k l : Int) : Int := if mayC k l then (if k = 11 then l else if k = 14 then 10 else 0) else 0
theorem kindR_cases (k : Int) : (∃ i : Fin 15, k = (i.val : Int) ∧ kindR k = kinds.getD i.val ([], 0, 0, 0)) ∨ (¬ (0 ≤ k ∧ k < 15) ∧ kindR k = ([], 0, 0, 0)) := by
  unfold kindR
  by_cases h : 0 ≤ k ∧ k < 15
  · rw [if_pos h]
    exact .inl ⟨⟨k.toNat, by omega⟩, by simp; omega, rfl⟩
  · rw [if_neg h]
    exact .inr ⟨h, rfl⟩
theorem kinds_fin : ∀ i : Fin 15, 0 ≤ (kinds.getD i.val ([], 0, 0, 0)).2.1 ∧ (kinds.getD i.val ([], 0, 0, 0)).2.1 ≤ 255 ∧ 0 ≤ (kinds.getD i.val ([], 0, 0, 0)).2.2.1 ∧ (kinds.getD i.val ([], 0, 0, 0)).2.2.1 ≤ 15 ∧ 0 ≤ (kinds.getD i.val ([], 0, 0, 0)).2.2.2 ∧ (kinds.getD i.val ([], 0, 0, 0)).2.2.2 ≤ 15 := by decide
theorem kindR_in (k : Int) : 0 ≤ (kindR k).2.1 ∧ (kindR k).2.1 ≤ 255 ∧ 0 ≤ (kindR k).2.2.1 ∧ (kindR k).2.2.1 ≤ 15 ∧ 0 ≤ (kindR k).2.2.2 ∧ (kindR k).2.2.2 ≤ 15 := by
  rcases kindR_cases k with ⟨i, _, h⟩ | ⟨_, h⟩
  · rw [h]; exact kinds_fin i
  · rw [h]; decide
theorem lampC_in {k l : Int} (h : InU l) : 0 ≤ lampC k l ∧ lampC k l ≤ 15 := by
  unfold lampC
  have := kindR_in k
  unfold InU at h
  split
  · rename_i hm
    unfold mayC at hm
    simp only [Bool.and_eq_true, decide_eq_true_eq] at hm
    split
    · omega
    split <;> omega
  · omega
end Go.Proofs.Ytlhjjmfbifhgfaa
