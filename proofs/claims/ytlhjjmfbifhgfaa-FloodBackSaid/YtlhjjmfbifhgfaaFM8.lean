/- Joined texts of one seat, each under its own heading below. -/
import Derived.Test.YtlhjjmfbifhgfaaKit
import Derived.Maps.Own
/- A map of the call's own, its entries known one by one. -/
namespace Go.Proofs.Ytlhjjmfbifhgfaa
set_option linter.unusedSimpArgs false
set_option linter.unusedVariables false
open Go.RowKit Go.ChangeMaps Go.MapKept
open Go.Maps (Keyed)

section
variable {α : Type} [DecidableEq α]
/-- An entry: its key, what it holds, when it was born. -/
abbrev Ent (α : Type) := α × Value × Nat
def entOf (kv : α → Value) (x : Ent α) : MapEntry := ⟨kv x.1, x.2.1, x.2.2⟩
def keysOf (L : List (Ent α)) : List α := L.map (·.1)
def getM (L : List (Ent α)) (s : α) : Option Value := (L.find? fun x => decide (x.1 = s)).map (·.2.1)
def setM (L : List (Ent α)) (s : α) (v : Value) : List (Ent α) := L.map fun x => if x.1 = s then (x.1, v, x.2.2) else x
def putM (L : List (Ent α)) (s : α) (v : Value) (c : Nat) : List (Ent α) := if s ∈ keysOf L then setM L s v else L ++ [(s, v, c)]
def putC (L : List (Ent α)) (s : α) (c : Nat) : Nat := if s ∈ keysOf L then c else c + 1
structure MapIs (kv : α → Value) (ok : α → Prop) (w : World) (b : Nat) (L : List (Ent α)) (c : Nat) : Prop where
  block : w.heap[b]? = some (.map (L.map (entOf kv)).toArray c)
  keys : (keysOf L).Nodup
  ok : ∀ x ∈ L, ok x.1
  lt : ∀ x ∈ L, x.2.2 < c
  born : (L.map (·.2.2)).Nodup
variable {kv : α → Value} {ok : α → Prop} {w w' : World} {b c : Nat} {L : List (Ent α)}
omit [DecidableEq α] in
theorem MapIs.inb (h : MapIs kv ok w b L c) : b < w.heap.size := (Array.getElem?_eq_some_iff.1 h.block).1
omit [DecidableEq α] in
theorem MapIs.keep (h : MapIs kv ok w b L c) (hk : w'.heap[b]? = w.heap[b]?) : MapIs kv ok w' b L c := ⟨hk.trans h.block, h.keys, h.ok, h.lt, h.born⟩
omit [DecidableEq α] in
theorem MapIs.drewN (h : MapIs kv ok w b L c) (n : Nat) : MapIs kv ok (w.drewN n) b L c := h.keep rfl
omit [DecidableEq α] in
theorem MapIs.drew (h : MapIs kv ok w b L c) : MapIs kv ok w.drew b L c := h.keep rfl
omit [DecidableEq α] in
theorem MapIs.alloc (h : MapIs kv ok w b L c) (o : Obj) : MapIs kv ok (w.alloc o) b L c := h.keep (Below.heap_alloc w o b h.inb)
omit [DecidableEq α] in
theorem MapIs.setCell (h : MapIs kv ok w b L c) {p : Addr} (hp : b ≠ p.block) (u : Value) : MapIs kv ok (w.setCell p u) b L c := h.keep (Below.heap_setCell w p u b hp)
omit [DecidableEq α] in
theorem MapIs.below {B : Nat} (h : MapIs kv ok w b L c) (hb : Below B w w') (hl : b < B) : MapIs kv ok w' b L c := h.keep (hb.block b hl)
omit [DecidableEq α] in
theorem MapIs.grown {row : Option Nat} (h : MapIs kv ok w b L c) (hg : w.grownBy w' row) (hne : some b ≠ row) : MapIs kv ok w' b L c := h.keep (hg.block b h.inb hne)
omit [DecidableEq α] in
theorem MapIs.made (w : World) : MapIs kv ok (w.alloc (.map #[] 0)) w.heap.size [] 0 :=
  ⟨(MapKept.heap_alloc w _).1, List.nodup_nil, fun x hx => by simp at hx, fun x hx => by simp at hx, List.nodup_nil⟩
theorem getM_none {s : α} : getM L s = none ↔ s ∉ keysOf L := by
  unfold getM keysOf
  rw [Option.map_eq_none_iff, List.find?_eq_none]
  simp only [decide_eq_true_eq, List.mem_map, not_exists, not_and]
theorem getM_some {s : α} {j : Nat} {x : Ent α} (hn : (keysOf L).Nodup) (hj : L[j]? = some x) (hx : x.1 = s) : getM L s = some x.2.1 := by
  unfold getM
  cases hf : L.find? fun y => decide (y.1 = s) with
  | none =>
    have := List.find?_eq_none.1 hf x (List.mem_of_getElem? hj)
    simp [hx] at this
  | some y =>
    have hy := List.mem_of_find?_eq_some hf
    have hys : y.1 = s := by simpa using List.find?_some hf
    obtain ⟨i, hi, hiy⟩ := List.getElem_of_mem hy
    obtain ⟨hj', hjx⟩ := List.getElem?_eq_some_iff.1 hj
    have e : i = j := by
      have hh := List.nodup_iff_pairwise_ne.1 hn
      rw [List.pairwise_iff_getElem] at hh
      rcases Nat.lt_trichotomy i j with hl | he | hl
      · exact absurd (show (keysOf L)[i]'(by simpa [keysOf] using hi) = (keysOf L)[j]'(by simpa [keysOf] using hj') by simp [keysOf, hiy, hjx, hys, hx]) (hh i j _ _ hl)
      · exact he
      · exact absurd (show (keysOf L)[j]'(by simpa [keysOf] using hj') = (keysOf L)[i]'(by simpa [keysOf] using hi) by simp [keysOf, hiy, hjx, hys, hx]) (hh j i _ _ hl)
    subst e
    rw [← hiy, hjx]
    rfl
theorem setM_at {s : α} {v : Value} {j : Nat} {x : Ent α} (hn : (keysOf L).Nodup) (hj : L[j]? = some x) (hx : x.1 = s) (f : MapEntry → MapEntry) (hf : f (entOf kv x) = entOf kv (s, v, x.2.2)) :
    ((L.map (entOf kv)).toArray).modify j f = ((setM L s v).map (entOf kv)).toArray := by
  apply Array.ext_getElem?
  intro i
  obtain ⟨hj', hjx⟩ := List.getElem?_eq_some_iff.1 hj
  rw [Array.getElem?_modify]
  simp only [List.getElem?_toArray, List.getElem?_map, setM]
  by_cases e : j = i
  · subst e
    rw [if_pos rfl, hj]
    simp only [Option.map_some, hx, if_true, hf]
  · rw [if_neg e]
    cases hi : L[i]? with
    | none => rfl
    | some y =>
      obtain ⟨hi', hiy⟩ := List.getElem?_eq_some_iff.1 hi
      have hne : y.1 ≠ s := by
        intro hys
        have hh := List.nodup_iff_pairwise_ne.1 hn
        rw [List.pairwise_iff_getElem] at hh
        rcases Nat.lt_or_gt_of_ne e with hl | hl
        · exact absurd (show (keysOf L)[j]'(by simpa [keysOf] using hj') = (keysOf L)[i]'(by simpa [keysOf] using hi') by simp [keysOf, hiy, hjx, hys, hx]) (hh j i _ _ hl)
        · exact absurd (show (keysOf L)[i]'(by simpa [keysOf] using hi') = (keysOf L)[j]'(by simpa [keysOf] using hj') by simp [keysOf, hiy, hjx, hys, hx]) (hh i j _ _ hl)
      simp only [Option.map_some, hne, if_false]
theorem setM_keys {s : α} {v : Value} : keysOf (setM L s v) = keysOf L := by
  unfold keysOf setM
  rw [List.map_map]
  refine List.map_congr_left fun x _ => ?_
  simp only [Function.comp]
  split <;> rfl
theorem setM_born {s : α} {v : Value} : (setM L s v).map (·.2.2) = L.map (·.2.2) := by
  unfold setM
  rw [List.map_map]
  refine List.map_congr_left fun x _ => ?_
  simp only [Function.comp]
  split <;> rfl
theorem mem_setM {s : α} {v : Value} {y : Ent α} (h : y ∈ setM L s v) : ∃ x ∈ L, y.1 = x.1 ∧ y.2.2 = x.2.2 := by
  unfold setM at h
  obtain ⟨x, hx, rfl⟩ := List.mem_map.1 h
  refine ⟨x, hx, ?_⟩
  split <;> exact ⟨rfl, rfl⟩
theorem MapIs.setBlock_ (h : MapIs kv ok w b L c) {s : α} {v : Value} : MapIs kv ok (setBlock w b (.map ((setM L s v).map (entOf kv)).toArray c)) b (setM L s v) c :=
  ⟨heap_setBlock_same h.block _, by rw [setM_keys]; exact h.keys, fun y hy => by obtain ⟨x, hx, e, _⟩ := mem_setM hy; rw [e]; exact h.ok x hx,
    fun y hy => by obtain ⟨x, hx, _, e⟩ := mem_setM hy; rw [e]; exact h.lt x hx, by rw [setM_born]; exact h.born⟩
omit [DecidableEq α] in
theorem MapIs.pushBlock_ (h : MapIs kv ok w b L c) {s : α} {v : Value} (hs : s ∉ keysOf L) (ho : ok s) : MapIs kv ok (setBlock w b (.map ((L ++ [(s, v, c)]).map (entOf kv)).toArray (c + 1))) b (L ++ [(s, v, c)]) (c + 1) := by
  refine ⟨heap_setBlock_same h.block _, ?_, ?_, ?_, ?_⟩
  · unfold keysOf at *
    rw [List.map_append, List.nodup_append]
    refine ⟨h.keys, by simp, fun x hx y hy e => ?_⟩
    simp at hy
    subst hy e
    exact hs hx
  · intro x hx
    rcases List.mem_append.1 hx with hx | hx
    · exact h.ok x hx
    · simp at hx; subst hx; exact ho
  · intro x hx
    rcases List.mem_append.1 hx with hx | hx
    · exact Nat.lt_succ_of_lt (h.lt x hx)
    · simp at hx; subst hx; exact Nat.lt_succ_self _
  · rw [List.map_append, List.nodup_append]
    refine ⟨h.born, by simp, fun x hx y hy e => ?_⟩
    simp at hy
    subst hy e
    obtain ⟨z, hz, e⟩ := List.mem_map.1 hx
    have := h.lt z hz
    omega
omit [DecidableEq α] in
theorem MapIs.grownSet (h : MapIs kv ok w b L c) (o : Obj) : w.grownBy (setBlock w b o) (some b) :=
  ⟨rfl, rfl, rfl, by simp [setBlock], fun i _ hi => heap_setBlock_other h.block _ (fun e => hi (by rw [e]))⟩

variable {P : Program} {kt t e : TypeId} (K : Keyed P kt) (ht : P.underlying t = some (.map kt e)) (hkey : ∀ a, ok a → ∃ l, keyOf P kt (kv a) = some l) (inj : ∀ a a', kv a = kv a' → a = a')
include K hkey inj
omit [DecidableEq α] in
theorem MapIs.find (h : MapIs kv ok w b L c) {s : α} (hs : ok s) :
    ((Instr.findKey kt (kv s) (L.map (entOf kv))).run P w = .ok none w ∧ s ∉ keysOf L) ∨ ∃ j x, (Instr.findKey kt (kv s) (L.map (entOf kv))).run P w = .ok (some (j, x.2.1)) w ∧ L[j]? = some x ∧ x.1 = s := by
  obtain ⟨l, hl⟩ := hkey s hs
  rcases K.find w hl (L.map (entOf kv)) (fun y hy => by obtain ⟨x, hx, rfl⟩ := List.mem_map.1 hy; exact hkey _ (h.ok x hx)) with ⟨h1, h2⟩ | ⟨j, y, h1, h2, h3⟩
  · refine .inl ⟨h1, fun hm => ?_⟩
    obtain ⟨x, hx, rfl⟩ := List.mem_map.1 hm
    exact h2 (entOf kv x) (List.mem_map.2 ⟨x, hx, rfl⟩) rfl
  · rw [List.getElem?_map] at h2
    cases hj : L[j]? with
    | none => rw [hj] at h2; cases h2
    | some x =>
      rw [hj] at h2
      injection h2 with h2
      subst h2
      exact .inr ⟨j, x, h1, hj, inj _ _ h3⟩
include ht
theorem MapIs.lookup (h : MapIs kv ok w b L c) {s : α} (hs : ok s) (cm : Bool) {z : Value} (hz : (zeroValue e).run P w = .ok z w) :
    (Instr.lookup t (.map (some b)) (kv s) cm).run P w = .ok (match getM L s with | some v => if cm then .tuple #[v, .bool true] else v | none => if cm then .tuple #[z, .bool false] else z) w := by
  obtain ⟨l, hl⟩ := hkey s hs
  rcases h.find K hkey inj hs with ⟨h1, h2⟩ | ⟨j, x, h1, h2, h3⟩
  · rw [getM_none.2 h2]
    simp [Instr.lookup, run_underlying ht, MapKept.run_getObj_map h.block, K.check w _ hl, h1, hz, Result.andThen]
  · rw [getM_some h.keys h2 h3]
    simp [Instr.lookup, run_underlying ht, MapKept.run_getObj_map h.block, K.check w _ hl, h1, Result.andThen]
theorem MapIs.update (h : MapIs kv ok w b L c) {s : α} (hs : ok s) (v : Value) :
    ∃ W, (Instr.mapUpdate t (.map (some b)) (kv s) v).run P w = .ok () W ∧ MapIs kv ok W b (putM L s v c) (putC L s c) ∧ w.grownBy W (some b) := by
  obtain ⟨l, hl⟩ := hkey s hs
  rcases h.find K hkey inj hs with ⟨h1, h2⟩ | ⟨j, x, h1, h2, h3⟩
  · refine ⟨setBlock w b (.map ((L ++ [(s, v, c)]).map (entOf kv)).toArray (c + 1)), ?_, ?_, h.grownSet _⟩
    · simp [Instr.mapUpdate, run_underlying ht, MapKept.run_getObj_map h.block, K.check w false hl, h1, MapKept.run_setObj_map _ h.block, Result.andThen, setBlock, entOf]
    · unfold putM putC
      rw [if_neg h2, if_neg h2]
      exact h.pushBlock_ h2 hs
  · have hm : s ∈ keysOf L := List.mem_map.2 ⟨x, List.mem_of_getElem? h2, h3⟩
    refine ⟨setBlock w b (.map ((setM L s v).map (entOf kv)).toArray c), ?_, ?_, h.grownSet _⟩
    · have hx : (L.map (entOf kv))[j]? = some (entOf kv x) := by rw [List.getElem?_map, h2]; rfl
      rw [← setM_at (kv := kv) (v := v) h.keys h2 h3 (fun y => { y with key := kv s, val := v }) (by rw [← h3]; rfl)]
      simp [Instr.mapUpdate, run_underlying ht, MapKept.run_getObj_map h.block, K.check w false hl, h1, h2, entOf, h3, K.stays w hl, MapKept.run_setObj_map _ h.block, Result.andThen, setBlock]
    · unfold putM putC
      rw [if_pos hm, if_pos hm]
      exact h.setBlock_
/-- m[s] as an entry: what it holds, its stamp; it is there from now on. -/
theorem MapIs.entry (h : MapIs kv ok w b L c) {s : α} (hs : ok s) {z : Value} (hz : (zeroValue e).run P w = .ok z w) :
    ∃ (W : World) (n : Nat) (L' : List (Ent α)) (c' : Nat), (Instr.mapEntry t (.map (some b)) (kv s)).run P w = .ok (.tuple #[(getM L s).getD z, .int .i64 n]) W ∧ MapIs kv ok W b L' c' ∧ w.grownBy W (some b) ∧
      (∃ x ∈ L', x.1 = s ∧ x.2.2 = n) ∧ c' = putC L s c ∧ (∀ v, setM L' s v = putM L s v c) ∧ getM L' s = some ((getM L s).getD z) := by
  obtain ⟨l, hl⟩ := hkey s hs
  rcases h.find K hkey inj hs with ⟨h1, h2⟩ | ⟨j, x, h1, h2, h3⟩
  · refine ⟨setBlock w b (.map ((L ++ [(s, z, c)]).map (entOf kv)).toArray (c + 1)), c, L ++ [(s, z, c)], c + 1, ?_, h.pushBlock_ h2 hs, h.grownSet _, ⟨(s, z, c), by simp, rfl, rfl⟩, by rw [putC, if_neg h2], fun v => ?_, ?_⟩
    · rw [getM_none.2 h2]
      simp [Instr.mapEntry, run_underlying ht, MapKept.run_getObj_map h.block, K.check w false hl, h1, hz, MapKept.run_setObj_map _ h.block, Result.andThen, setBlock, entOf, goInt]
    · rw [putM, if_neg h2]
      unfold setM
      rw [List.map_append]
      congr 1
      · conv => rhs; rw [← List.map_id L]
        refine List.map_congr_left fun x hx => ?_
        rw [if_neg (fun e => h2 (List.mem_map.2 ⟨x, hx, e⟩))]
        rfl
      · simp
    · rw [getM_none.2 h2]
      exact getM_some (x := (s, z, c)) (h.pushBlock_ h2 hs (v := z)).keys (j := L.length) (by simp) rfl
  · have hm : s ∈ keysOf L := List.mem_map.2 ⟨x, List.mem_of_getElem? h2, h3⟩
    refine ⟨w, x.2.2, L, c, ?_, h, World.grownBy.refl w _, ⟨x, List.mem_of_getElem? h2, h3, rfl⟩, by rw [putC, if_pos hm], fun v => by rw [putM, if_pos hm], by rw [getM_some h.keys h2 h3]; rfl⟩
    rw [getM_some h.keys h2 h3]
    have hx : (L.map (entOf kv))[j]? = some (entOf kv x) := by rw [List.getElem?_map, h2]; rfl
    have hmod : ((L.map (entOf kv)).toArray).modify j (fun y => { y with key := kv s }) = (L.map (entOf kv)).toArray := by
      rw [setM_at (kv := kv) (v := x.2.1) h.keys h2 h3 (fun y => { y with key := kv s }) (by rw [← h3]; rfl)]
      congr 2
      unfold setM
      conv => rhs; rw [← List.map_id L]
      refine List.map_congr_left fun y hy => ?_
      split
      · rename_i e
        have h4 := getM_some h.keys h2 h3
        obtain ⟨i, hi, hiy⟩ := List.getElem_of_mem hy
        have h5 := getM_some h.keys (show L[i]? = some y by rw [List.getElem?_eq_getElem hi, hiy]) e
        rw [h4] at h5
        injection h5 with h5
        rw [h5]
        rfl
      · rfl
    have hsb : ({ w with heap := w.heap.setIfInBounds b (.map (L.map (entOf kv)).toArray c) } : World) = w := by
      have hb := h.block
      have hlt := h.inb
      rw [Array.getElem?_eq_getElem hlt] at hb
      injection hb with hb
      have : w.heap.setIfInBounds b (.map (L.map (entOf kv)).toArray c) = w.heap := by
        apply Array.ext_getElem?
        intro i
        rw [Array.getElem?_setIfInBounds]
        split
        · rename_i e
          subst e
          rw [Array.getElem?_eq_getElem hlt, hb]
        · rfl
      rw [this]
    have hbn : (L[j]?.map (fun y => y.2.2)) = some x.2.2 := by rw [h2]; rfl
    have hkx : (entOf kv x).key = kv s := by rw [← h3]; rfl
    have hbx : (entOf kv x).born = x.2.2 := rfl
    have hmod' : (L.map (entOf kv)).modify j (fun y => { y with key := kv s }) = L.map (entOf kv) := by
      have := congrArg Array.toList hmod
      simpa using this
    simp [Instr.mapEntry, run_underlying ht, MapKept.run_getObj_map h.block, K.check w false hl, h1, h2, hkx, hbx, K.stays w hl, MapKept.run_setObj_map _ h.block, Result.andThen, goInt, hmod', hsb]
omit K ht hkey inj in
/-- An entry is stored by its stamp. -/
theorem MapIs.store (h : MapIs kv ok w b L c) {s : α} {n : Nat} (hx : ∃ x ∈ L, x.1 = s ∧ x.2.2 = n) (v : Value) :
    ∃ W, (Instr.entryStore t (.map (some b)) (.int .i64 n) v).run P w = .ok () W ∧ MapIs kv ok W b (setM L s v) c ∧ w.grownBy W (some b) := by
  obtain ⟨x, hx, hxs, hxn⟩ := hx
  obtain ⟨j, hj, hjx⟩ := List.getElem_of_mem hx
  have h2 : L[j]? = some x := by rw [List.getElem?_eq_getElem hj, hjx]
  refine ⟨setBlock w b (.map ((setM L s v).map (entOf kv)).toArray c), ?_, h.setBlock_, h.grownSet _⟩
  have hf : L.findIdx? ((fun y : MapEntry => (y.born : Int) == (n : Int)) ∘ entOf kv) = some j := by
    rw [List.findIdx?_eq_some_iff_getElem]
    refine ⟨hj, by simp [entOf, hjx, hxn], fun i hi => ?_⟩
    simp only [Function.comp, entOf, Bool.not_eq_true, beq_eq_false_iff_ne, ne_eq, Int.natCast_inj]
    intro e
    have hh := List.nodup_iff_pairwise_ne.1 h.born
    rw [List.pairwise_iff_getElem] at hh
    have := hh i j (by simp; omega) (by simpa using hj) hi
    simp [hjx, hxn, e] at this
  rw [← setM_at (kv := kv) (v := v) h.keys h2 hxs (fun y => { y with val := v }) (by rw [← hxs]; rfl)]
  simp only [Instr.entryStore, asInt, asIntOf]
  simp [MapKept.run_getObj_map h.block, MapKept.run_setObj_map _ h.block, Result.andThen, setBlock, hf]
end
end Go.Proofs.Ytlhjjmfbifhgfaa
