/- Rows of ticks behind the library's sort: plain laws, and the layings of slices.Clone, slices.SortFunc and cmp.Compare. -/
import Derived.Test.YtlccplpniidjfaaLay
import Derived.Test.YtlccplpniidjfaaQSorted
import Derived.Shelf.SlSortCmp.NoneTotal
import Derived.Shelf.SlicesE.Clone
import Derived.Shelf.SlicesG.Cmp
import Derived.Shelf.Lay
import Derived.Shelf.SlGeneric
import Derived.Ground.SlsfProg
import Derived.Ground.SlgcProg
import Derived.Ground.SlgnProg
namespace Go.Proofs.Ytlccplpniidjfaa
open Go.Shelf Go.RowKit Go.Lib Go.Sort

def encT (x : Tk) : List Value := [.int .i64 x.1, .int .i64 x.2]
def cfT (x y : Tk) : Int := Lib.compareInt x.1 y.1
theorem ltCf (x y : Tk) : ltOf cfT x y = decide (x.1 < y.1) := by
  unfold ltOf cfT Lib.compareInt
  by_cases h1 : x.1 < y.1
  · simp [h1]
  · by_cases h2 : y.1 < x.1 <;> simp [h1, h2]
theorem swoCf : SWO (ltOf cfT) where
  irrefl x := by rw [ltCf]; simp
  trans x y z h1 h2 := by rw [ltCf] at *; simp at *; omega
  ntrans x y z h1 h2 := by rw [ltCf] at *; simp at *; omega

set_option maxRecDepth 100000 in
set_option maxHeartbeats 1000000 in
theorem cmp_call (x y : Tk) (W : World) : Calls Try.prog 39 #[.agg #[.int .i64 x.1, .int .i64 x.2], .agg #[.int .i64 y.1, .int .i64 y.2]] W fun e w' => e = .returned (.int .i64 (cfT x y)) ∧ ∃ q os', w' = grow (W.drewN q) os' := by
  have hcon := fun W' => AnyG.cmp_Compare_int Try.cmpT x.1 y.1 W'
  change ∀ W', Calls Try.prog 40 _ _ _ at hcon
  unfold cfT
  generalize Lib.compareInt x.1 y.1 = r at hcon ⊢
  go_enter Try.func39, Try.ntmps39
  go_wp2_with (go_at_call 40; refine (hcon _).mono ?_; rintro e w' ⟨rfl, rfl⟩)
  go_ret
  exact ⟨rfl, 0, _, by rw [alloc_eq_grow, alloc_eq_grow, grow_grow]; rfl⟩
theorem cmp_lays (blk off size : Nat) (w : World) : CmpLays Try.prog 39 #[] encT 2 cfT blk off size w := fun _ _ _ _ x y => cmp_call x y _

theorem flat_list (d : Array Tk) : (flatK encT 2 d).toList = tcells d.toList := by
  refine List.ext_getElem? fun j => ?_
  by_cases hj : j < d.size * 2
  · obtain ⟨i, rfl | rfl⟩ : ∃ i, j = i * 2 ∨ j = i * 2 + 1 := ⟨j / 2, by omega⟩
    · have h := (tcells_at d.toList i (by simp; omega)).1
      rw [h, Array.getElem?_toList, getElem?_pos _ _ (by simpa using hj), ← getElem!_pos _ _ (by simpa using hj), get_flatK _ _ _ _ hj]
      rw [show i * 2 / 2 = i by omega, show i * 2 % 2 = 0 by omega, nth_get (by simp; omega)]
      rw [getElem!_pos d i (by omega)]
      rfl
    · have h := (tcells_at d.toList i (by simp; omega)).2
      rw [h, Array.getElem?_toList, getElem?_pos _ _ (by simpa using hj), ← getElem!_pos _ _ (by simpa using hj), get_flatK _ _ _ _ hj]
      rw [show (i * 2 + 1) / 2 = i by omega, show (i * 2 + 1) % 2 = 1 by omega, nth_get (by simp; omega)]
      rw [getElem!_pos d i (by omega)]
      rfl
  · rw [List.getElem?_eq_none (by simp; omega), List.getElem?_eq_none (by rw [tcells_length]; simp; omega)]
theorem heap_sorted {w : World} {g n : Nat} {os : Array Obj} {cur : Array Value} {e : TypeId} {fr : Nat × Nat} (F : Array Value) (hb : w.heap[g]? = some (.cells cur e fr)) :
    (grow (putRow id (Sort.ahead w n) g 0 F) os).heap[g]? = some (.cells (putCells id 0 F cur) e fr) := by
  have hg : g < w.heap.size := (Array.getElem?_eq_some_iff.1 hb).1
  rw [heap_grow_old _ _ (by simpa using hg)]
  simp [putRow, mapBlock, Sort.ahead, Array.getElem?_modify, hb, onCells]
theorem grownBy_sorted {w : World} {g n : Nat} {os : Array Obj} (F : Array Value) : w.grownBy (grow (putRow id (Sort.ahead w n) g 0 F) os) (some g) := by
  refine ⟨rfl, rfl, rfl, by simp, fun k hk hne => ?_⟩
  rw [heap_grow_old _ _ (by simpa using hk)]
  have : g ≠ k := fun e => hne (by rw [e])
  simp [putRow, mapBlock, Sort.ahead, Array.getElem?_modify, this]
theorem take_sorted (cur F : Array Value) (h : F.size ≤ cur.size) : (putCells id 0 F cur).toList.take F.size = F.toList := by
  apply List.ext_getElem?
  intro j
  by_cases hj : j < F.size
  · rw [List.getElem?_take_of_lt hj, Array.getElem?_toList]
    simp [putCells, hj, show j < cur.size by omega]
  · rw [List.getElem?_take_eq_none (by omega), List.getElem?_eq_none (by simp; omega)]
theorem own_holds {w : World} {base g n cap : Nat} {l : List Tk} (h : w.ownsRow base 24 2 (.slice (some ⟨g, 0, none⟩) n cap) n (tcells l)) (hn : n = l.length) : HoldsK encT 2 w g 0 l.toArray := by
  intro j hj
  have hj' : j < l.length * 2 := by simpa using hj
  refine ⟨?_, h.frozenAt _⟩
  rw [Nat.zero_add, h.cellAt j (by rw [hn]; exact hj')]
  have hf := flat_list l.toArray
  have hl : l.toArray.toList = l := rfl
  rw [hl] at hf
  rw [← hf, Array.getElem?_toList, getElem?_pos (flatK encT 2 l.toArray) j hj, ← getElem!_pos (flatK encT 2 l.toArray) j hj]
  rfl
theorem own_sorted {w : World} {base g n cap q : Nat} {l : List Tk} {os : Array Obj} (h : w.ownsRow base 24 2 (.slice (some ⟨g, 0, none⟩) n cap) n (tcells l)) (d : Array Tk) (hd : d.size = n) :
    (sortWorldK encT 2 w g 0 q d os).ownsRow base 24 2 (.slice (some ⟨g, 0, none⟩) n cap) n (tcells d.toList) := by
  rcases h.2 with ⟨h', _⟩ | ⟨g', cap', cur, h', hb, hg, h1, h2, h3, htake⟩
  · simp at h'
  · injection h' with e1 e2 e3
    injection e1 with e1
    injection e1 with e1
    subst e1 e3
    have hs : (flatK encT 2 d).size = n * 2 := by simp [hd]
    refine ⟨by rw [tcells_length]; simp [hd], .inr ⟨g, cap, _, rfl, hb, heap_sorted _ hg, h1, h2, by simp [putCells, h3], ?_⟩⟩
    rw [← hs, take_sorted _ _ (by rw [hs, h3]; exact Nat.mul_le_mul_right _ h1), flat_list]
theorem sorted_rising {d d' : Array Tk} (hp : PermIn 0 d.size d d') (hs : SortedIn (ltOf cfT) 0 d.size d') (hn : (d.toList.map fun t => t.1).Nodup) : d'.toList.Perm d.toList ∧ Rising d'.toList := by
  have hp' : d'.toList.Perm d.toList := by
    have := hp.2.2
    rw [← hp.1] at this
    simp only [Array.extract_size] at this
    rwa [hp.1, Array.extract_size] at this
  refine ⟨hp', ?_⟩
  have hn' : (d'.toList.map fun t => t.1).Nodup := ((hp'.map _).nodup_iff).2 hn
  rw [List.nodup_iff_pairwise_ne, List.pairwise_iff_getElem] at hn'
  unfold Rising
  rw [List.pairwise_iff_getElem]
  intro i j hi hj hij
  have hi' : i < d'.size := by simpa using hi
  have hj' : j < d'.size := by simpa using hj
  have h1 := hs i j (Nat.zero_le _) hij (by rw [← hp.1]; exact hj')
  rw [getElem!_pos d' i hi', getElem!_pos d' j hj', ltCf] at h1
  have h2 := hn' i j (by simpa using hi) (by simpa using hj) hij
  simp only [List.getElem_map, Array.getElem_toList] at h2 ⊢
  simp at h1
  omega
theorem rising_unique {l m : List Tk} (hl : Rising l) (hm : Rising m) (hp : l.Perm m) : l = m :=
  List.Perm.eq_of_pairwise (le := fun (a b : Tk) => a.1 < b.1) (fun x y _ _ h1 h2 => absurd h1 (by omega)) hl hm hp
end Go.Proofs.Ytlccplpniidjfaa
