/- LineKnown: the walk. -/
import Derived.Test.YtjbhkmpabajeoaaDoorLKnownP
import Derived.Test.YtjbhkmpabajeoaaDoorLFGetL
import Derived.Test.YtjbhkmpabajeoaaDoorLAnsW
import Derived.Test.YtjbhkmpabajeoaaDoorLWorks
import Derived.Laws.MakeOwn
import Derived.Laws.BytesString
namespace Go.Proofs.YtjbhkmpabajeoaaDoor
set_option linter.unusedSimpArgs false
set_option linter.unusedVariables false
open Go.RowKit

theorem row_of {W : World} {L : List OpR} {cs : Array Value} {n : Nat} (hn : L.length = n) (hm : n ≤ 1000) (hcs : cs = (rc opE L).toArray) :
    (W.alloc (.cells cs 27)).ownsRow W.heap.size 27 10 (.slice (some ⟨W.heap.size, 0, none⟩) n n) L.length (rc opE L) := by
  subst hcs
  have hbl := Blk.new W 27 (rc opE L).toArray
  have hl := rc_length (enc := opE) opE_len L
  generalize rc opE L = xs at hl hbl ⊢
  rw [hn] at hl ⊢
  exact ⟨hl, .inr ⟨W.heap.size, n, xs.toArray, rfl, Nat.le_refl _, hbl, Nat.le_refl _, by unfold maxLen; omega, by simp [hl], List.take_of_length_le (by rw [show xs.toArray.toList = xs from rfl, hl]; exact Nat.le_refl _)⟩⟩
theorem strs_at {W : World} {b : Nat} {L : List Bs} (h : Blk W b 9 (L.map sv).toArray) {i : Nat} (hi : i < L.length) : W.cell? ⟨b, i, none⟩ = some (.string (str (L.getD i []))) := by
  rw [h.cell i]
  simp only [List.getElem?_toArray, List.getElem?_map, List.getD_eq_getElem?_getD, List.getElem?_eq_getElem hi]
  rfl
def bigZ : Array Value := madeCells #[.int .u8 0] 1025
theorem infoU8 : (Tryd.prog.info? 5).map (fun i => (i.zero, i.size, i.bytes)) = some (some (.int .u8 0), 1, 1) := by kernel_rfl
theorem make_big (W : World) : (Instr.makeSlice 49 (.int .i64 1025) (.int .i64 1025)).run Tryd.prog W = .ok (.slice (some ⟨W.heap.size, 0, none⟩) 1025 1025) (W.alloc (.cells bigZ 5)) := by
  obtain ⟨i, hi, hz, h1, h2⟩ := info_parts infoU8
  have := run_makeSlice (w := W) 49 5 i _ Tryd.underlying49 hi hz .i64 .i64 1025 1025 (by decide) (by decide) (by rw [h1]; decide) (by rw [h2]; decide) (by decide)
  rw [this, h1]
  rfl
theorem fold_zero : ∀ (n : Nat) (s : Bs), (List.replicate n (0 : Int)).foldl (fun r (x : Int) => r.push (UInt8.ofNat x.toNat)) (str s) = str (s ++ List.replicate n 0)
  | 0, s => by simp
  | n + 1, s => by
    rw [List.replicate_succ, List.foldl_cons, show (str s).push (UInt8.ofNat (0 : Int).toNat) = str (s ++ [0]) from by simp [str, ByteArray.push], fold_zero n (s ++ [0])]
    simp [List.replicate_succ]
theorem addr_add (b j : Nat) : (⟨b, 0, none⟩ : Addr).add j = ⟨b, j, none⟩ := by unfold Addr.add; split <;> simp_all
theorem conv_big (W : World) : (convert 49 9 (.slice (some ⟨W.heap.size, 0, none⟩) 1025 1025)).run Tryd.prog (W.alloc (.cells bigZ 5)) = .ok (.string (str zer)) (W.alloc (.cells bigZ 5)) := by
  rw [run_convert_bytes_string _ _ _ _ _ _ _ Tryd.underlying49 Tryd.underlying5 Tryd.underlying9]
  have hb := Blk.new W 5 bigZ
  have hl : (List.replicate 1025 (Value.int .u8 0)).length = 1025 := List.length_replicate
  have h := run_bytesToString (P := Tryd.prog) (W.alloc (.cells bigZ 5)) ⟨W.heap.size, 0, none⟩ 1025 1025 (List.replicate 1025 0) (by
    have := run_loadCells_list (P := Tryd.prog) (w := W.alloc (.cells bigZ 5)) ⟨W.heap.size, 0, none⟩ (List.replicate 1025 (.int .u8 0)) (fun j v hv => by
      have hj : j < 1025 := by
        have := (List.getElem?_eq_some_iff.1 hv).1
        rwa [hl] at this
      have hv2 : v = .int .u8 0 := by
        rw [List.getElem?_replicate, if_pos hj] at hv
        exact (Option.some.inj hv).symm
      rw [addr_add, hb.cell j, hv2]
      unfold bigZ
      simp [madeCells, hj, Nat.mod_one])
    rw [hl] at this
    rw [this, List.map_replicate])
  rw [h, show (ByteArray.empty) = str [] from rfl, fold_zero]
  rfl
end Go.Proofs.YtjbhkmpabajeoaaDoor
