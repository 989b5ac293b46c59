/- Joined texts of one seat, each under its own heading below. -/
import Derived.Test.YtlhjjmfbifhgfaaKit
import Derived.BigQuiet
import Derived.Shelf.SlSortCmp.NoneTotal
import Derived.Shelf.Lay
import Derived.Shelf.SlGeneric
/- Rows of elements of k cells each: plain laws; rows of the call's own; append; the library's sort. -/
namespace Go.Proofs.Ytlhjjmfbifhgfaa
set_option linter.unusedSimpArgs false
set_option linter.unusedVariables false
open Go.RowKit

section
variable {α : Type} (enc : α → List Value)
/-- The cells of a list. -/
def rc (l : List α) : List Value := l.flatMap enc
variable {enc}
theorem rc_cons (x : α) (l : List α) : rc enc (x :: l) = enc x ++ rc enc l := rfl
theorem rc_append (l r : List α) : rc enc (l ++ r) = rc enc l ++ rc enc r := by simp [rc]
theorem rc_nil : rc enc ([] : List α) = [] := rfl
theorem rc_single (x : α) : rc enc [x] = enc x := by simp [rc]
variable {k : Nat} (hk : ∀ x, (enc x).length = k)
include hk
theorem rc_length (l : List α) : (rc enc l).length = l.length * k := by
  induction l with
  | nil => simp [rc]
  | cons x l ih => rw [rc_cons, List.length_append, ih, hk, List.length_cons, Nat.add_mul]; omega
theorem rc_at (d : α) : ∀ (l : List α) (i j : Nat), i < l.length → j < k → (rc enc l)[i * k + j]? = (enc (l.getD i d))[j]?
  | [], i, _, h, _ => by simp at h
  | x :: l, 0, j, _, hj => by
    rw [rc_cons, Nat.zero_mul, Nat.zero_add, List.getElem?_append_left (by rw [hk]; exact hj)]; rfl
  | x :: l, i + 1, j, h, hj => by
    rw [rc_cons, List.getElem?_append_right (by rw [hk, Nat.add_mul]; omega), hk, show (i + 1) * k + j - k = i * k + j by rw [Nat.add_mul]; omega, rc_at d l i j (by simpa using h) hj]
    rfl
theorem rc_take (l : List α) (i : Nat) (hi : i ≤ l.length) : (rc enc l).take (i * k) = rc enc (l.take i) := by
  have h := rc_append (enc := enc) (l.take i) (l.drop i)
  rw [List.take_append_drop] at h
  rw [h, List.take_left' (by rw [rc_length hk, List.length_take, Nat.min_eq_left hi])]
theorem rc_drop (l : List α) (i : Nat) (hi : i ≤ l.length) : (rc enc l).drop (i * k) = rc enc (l.drop i) := by
  have h := rc_append (enc := enc) (l.take i) (l.drop i)
  rw [List.take_append_drop] at h
  rw [h, List.drop_left' (by rw [rc_length hk, List.length_take, Nat.min_eq_left hi])]
theorem rc_inj_len {n : Nat} {l : List α} {xs : List Value} (hkp : 0 < k) (h : xs.length = n * k) (hx : xs = rc enc l) : n = l.length := by
  rw [hx, rc_length hk] at h
  exact (Nat.eq_of_mul_eq_mul_right hkp h).symm
end

/-- A slice that reads as a list. -/
def RAt {α : Type} (enc : α → List Value) (k : Nat) (d : α) (w : World) (v : Value) (l : List α) : Prop :=
  ∃ ao cap, v = .slice ao l.length cap ∧ ∀ i, i < l.length → ∃ b off, ao = some ⟨b, off, none⟩ ∧ b < w.heap.size ∧ ∀ j, j < k → w.cell? ⟨b, off + i * k + j, none⟩ = (enc (l.getD i d))[j]?
section
variable {α : Type} {enc : α → List Value} {k : Nat} {d : α} {w w' : World} {l : List α}
theorem RAt.below {v : Value} (h : RAt enc k d w v l) (hb : Below w.heap.size w w') : RAt enc k d w' v l := by
  obtain ⟨ao, cap, hv, h⟩ := h
  refine ⟨ao, cap, hv, fun i hi => ?_⟩
  obtain ⟨b, off, h1, h2, h3⟩ := h i hi
  exact ⟨b, off, h1, Nat.lt_of_lt_of_le h2 hb.size, fun j hj => (hb.cell (p := ⟨b, _, none⟩) h2).trans (h3 j hj)⟩
theorem RAt.drewN {v : Value} (h : RAt enc k d w v l) (n : Nat) : RAt enc k d (w.drewN n) v l := h
theorem RAt.some_ {ao : Option Addr} {n c : Nat} (h : RAt enc k d w (.slice ao n c) l) {i : Nat} (hi : i < l.length) :
    ∃ b off, ao = some ⟨b, off, none⟩ ∧ b < w.heap.size ∧ ∀ j, j < k → w.cell? ⟨b, off + i * k + j, none⟩ = (enc (l.getD i d))[j]? := by
  obtain ⟨ao', cap, he, h⟩ := h
  injection he with h1 h2 h3
  subst h1
  exact h i hi
theorem RAt.at_ {b off n c : Nat} (h : RAt enc k d w (.slice (some ⟨b, off, none⟩) n c) l) {i : Nat} (hi : i < l.length) :
    b < w.heap.size ∧ ∀ j, j < k → w.cell? ⟨b, off + i * k + j, none⟩ = (enc (l.getD i d))[j]? := by
  obtain ⟨b', off', h1, h2, h3⟩ := h.some_ hi
  injection h1 with h1
  injection h1 with e1 e2
  subst e1 e2
  exact ⟨h2, h3⟩
theorem RAt.len {ao : Option Addr} {n c : Nat} (h : RAt enc k d w (.slice ao n c) l) : n = l.length := by
  obtain ⟨_, _, he, _⟩ := h
  injection he
theorem RAt.nil (w : World) (ao : Option Addr) (c : Nat) : RAt enc k d w (.slice ao 0 c) [] := ⟨ao, c, rfl, fun i hi => by simp at hi⟩
theorem RAt.take_ {ao : Option Addr} {n c : Nat} (h : RAt enc k d w (.slice ao n c) l) {m : Nat} (hm : m ≤ n) : RAt enc k d w (.slice ao m c) (l.take m) := by
  have hn := h.len
  have hl : (l.take m).length = m := by rw [List.length_take]; omega
  refine ⟨ao, c, by rw [hl], fun i hi => ?_⟩
  rw [hl] at hi
  obtain ⟨b, off, h1, h2, h3⟩ := h.some_ (i := i) (by omega)
  refine ⟨b, off, h1, h2, fun j hj => ?_⟩
  rw [h3 j hj, List.getD_eq_getElem?_getD, List.getD_eq_getElem?_getD, List.getElem?_take_of_lt hi]
variable (hk : ∀ x, (enc x).length = k)
include hk
theorem RAt.reads {ao : Option Addr} {n c : Nat} (h : RAt enc k d w (.slice ao n c) l) (hkp : 0 < k) : Reads w w.heap.size k ao n (rc enc l) := by
  have hn := h.len
  subst hn
  refine ⟨rc_length hk l, fun hn => ?_⟩
  obtain ⟨b, off, rfl, hb, -⟩ := h.some_ (i := 0) hn
  refine ⟨_, rfl, hb, fun j u hu => ?_⟩
  have hj : j < (rc enc l).length := (List.getElem?_eq_some_iff.1 hu).1
  rw [rc_length hk] at hj
  have ha : (⟨b, off, none⟩ : Addr).add j = ⟨b, off + j, none⟩ := by unfold Addr.add; split <;> simp_all
  rw [ha]
  have hdm := Nat.div_add_mod j k
  have hi : j / k < l.length := Nat.div_lt_of_lt_mul (by rw [Nat.mul_comm]; exact hj)
  have h2 := (h.at_ (i := j / k) hi).2 (j % k) (Nat.mod_lt _ hkp)
  have h3 := rc_at hk d l (j / k) (j % k) hi (Nat.mod_lt _ hkp)
  rw [Nat.mul_comm k, ] at hdm
  rw [hdm] at h3
  rw [show off + j / k * k + j % k = off + j by omega] at h2
  rw [h2, ← h3, hu]
theorem own_rat {base : Nat} {e : TypeId} {v : Value} (h : w.ownsRow base e k v l.length (rc enc l)) : RAt enc k d w v l ∧ ∃ ao c, v = .slice ao l.length c ∧ l.length ≤ c ∧ c ≤ maxLen := by
  rcases h.2 with ⟨rfl, h0⟩ | ⟨g, cap, cur, rfl, hb, hg, r1, r2, r3⟩
  · exact ⟨⟨none, 0, by rw [h0], fun i hi => by omega⟩, none, 0, by rw [h0], by omega, Nat.zero_le _⟩
  · refine ⟨⟨some ⟨g, 0, none⟩, cap, rfl, fun i hi => ⟨g, 0, rfl, (h.lt g rfl).2, fun j hj => ?_⟩⟩, _, _, rfl, r1, r2⟩
    rw [Nat.zero_add, h.cellAt (i * k + j) (by
      have h1 : (i + 1) * k ≤ l.length * k := Nat.mul_le_mul_right k hi
      rw [Nat.add_mul] at h1
      omega), rc_at hk d l i j hi hj]
theorem own_rc {base n : Nat} {e : TypeId} {v : Value} {xs : List Value} {l' : List α} (hkp : 0 < k) (h : w.ownsRow base e k v n xs) (hx : xs = rc enc l') : w.ownsRow base e k v l'.length (rc enc l') := by
  have e := rc_inj_len hk hkp h.1 hx
  rw [← hx, ← e]
  exact h
theorem own_at {base : Nat} {e : TypeId} {g n c : Nat} (d : α) (h : w.ownsRow base e k (.slice (some ⟨g, 0, none⟩) n c) l.length (rc enc l)) {i : Nat} (hi : i < l.length) :
    ∀ j, j < k → w.cell? ⟨g, i * k + j, none⟩ = (enc (l.getD i d))[j]? := by
  intro j hj
  obtain ⟨b, off, hao, _, hc⟩ := ((own_rat (d := d) hk h).1).some_ hi
  injection hao with hao
  injection hao with e1 e2
  subst e1 e2
  have := hc j hj
  rwa [Nat.zero_add] at this
end
theorem own_form {w : World} {base : Nat} {ao : Option Addr} {n c : Nat} {e : TypeId} {size : Nat} {xs : List Value} (h : w.ownsRow base e size (.slice ao n c) n xs) (hc : 0 < c) : ∃ g, ao = some ⟨g, 0, none⟩ ∧ base ≤ g ∧ g < w.heap.size := by
  rcases h.2 with ⟨h1, h2⟩ | ⟨g, cap, cur, r1, hb, _⟩
  · injection h1 with _ h3 h4
    omega
  · injection r1 with h1 _ _
    subst h1
    exact ⟨g, rfl, hb, (h.lt g rfl).2⟩
theorem own_base {w : World} {base base' : Nat} {e : TypeId} {size n : Nat} {v : Value} {xs : List Value} (h : w.ownsRow base e size v n xs) (hb : base' ≤ base) : w.ownsRow base' e size v n xs := by
  obtain ⟨h1, h2⟩ := h
  refine ⟨h1, ?_⟩
  rcases h2 with h2 | ⟨g, cap, cur, r1, r2, r3⟩
  · exact .inl h2
  · exact .inr ⟨g, cap, cur, r1, Nat.le_trans hb r2, r3⟩
theorem own_below {w w' : World} {base : Nat} {e : TypeId} {size n : Nat} {v : Value} {xs : List Value} (h : w.ownsRow base e size v n xs) (hb : Below w.heap.size w w') : w'.ownsRow base e size v n xs := by
  refine ⟨h.1, ?_⟩
  rcases h.2 with h2 | ⟨g, cap, cur, r1, r2, r3, r4⟩
  · exact .inl h2
  · exact .inr ⟨g, cap, cur, r1, r2, (hb.block g (Array.getElem?_eq_some_iff.1 r3).1).trans r3, r4⟩

/-! ### append -/
theorem rc_one {α : Type} {enc : α → List Value} (h1 : ∀ x, ∀ u ∈ enc x, u.oneCell' = true) (l : List α) : ∀ u ∈ rc enc l, u.oneCell' = true := by
  intro u hu
  simp only [rc, List.mem_flatMap] at hu
  obtain ⟨t, _, hu⟩ := hu
  exact h1 t u hu
section
variable {α : Type} {enc : α → List Value} {k : Nat} (hk : ∀ x, (enc x).length = k) (h1 : ∀ x, ∀ u ∈ enc x, u.oneCell' = true) (hkp : 0 < k)
include hk h1 hkp
/-- append(row, others...). -/
theorem rows_law {ops : Array Oper} {rest : List Oper} {o : Oper} {a : Act} {Q : Exit → Act → World → Prop} {W : World} {base : Nat} {v : Value} {l us : List α} {B : Nat} {ao : Option Addr} {n c : Nat} {t e : TypeId} {z : Value} {bytes : Nat}
    (ht : Try.prog.underlying t = some (.slice e)) (hinfo : (Try.prog.info? e).map (fun i => (i.zero, i.size, i.bytes)) = some (some z, k, bytes)) (hz : z.cells.size = k) (hby : bytes ≤ 128)
    (hown : W.ownsRow base e k v l.length (rc enc l)) (hgd : o.guard = none) (s x : Operand)
    (ho : o.op = .call { callee := .builtin .append, args := #[s, x], argTypes := #[t, t] }) (hs : a.eval s = v)
    (hx : a.eval x = .slice ao n c) (hr : Reads W B k ao n (rc enc us)) (hlen : l.length + us.length ≤ 1099511627776) (hbase : base ≤ W.heap.size)
    (h : ∀ v' w', w'.ownsRow base e k v' (l ++ us).length (rc enc (l ++ us)) → W.grownBy w' v.ownBlock → (v'.ownBlock = v.ownBlock ∨ v'.ownBlock = some W.heap.size) → wpList Try.prog ops Q rest (a.put o.dst v') w') :
    wpList Try.prog ops Q (o :: rest) a W := by
  obtain ⟨i0, hi, hz0, hz1, hz2⟩ := info_parts hinfo
  have hn : n = us.length := rc_inj_len hk hkp hr.1 rfl
  subst hn
  exact wpList_append_any _ hgd s x t ho base e i0 z k bytes ht hi hz0 hz1 hz2 hz hkp v l.length _ hs hown B ao us.length c (rc enc us) hx hr (rc_one h1 us) (by unfold maxLen; omega)
    (Nat.le_trans (Nat.mul_le_mul hlen hby) (by decide)) hbase
    (fun v' w' h1 h2 h3 => h v' w' (by rw [rc_append, List.length_append]; exact h1) h2 h3)
/-- append(row, x). -/
theorem row_law {ops : Array Oper} {rest : List Oper} {o : Oper} {a : Act} {Q : Exit → Act → World → Prop} {W : World} {base : Nat} {v : Value} {l : List α} {t e : TypeId} {z : Value} {bytes b : Nat} {cs : Array Value}
    (ht : Try.prog.underlying t = some (.slice e)) (hinfo : (Try.prog.info? e).map (fun i => (i.zero, i.size, i.bytes)) = some (some z, k, bytes)) (hz : z.cells.size = k) (hby : bytes ≤ 128)
    (hown : W.ownsRow base e k v l.length (rc enc l)) (hgd : o.guard = none) (s x : Operand)
    (ho : o.op = .call { callee := .builtin .append, args := #[s, x], argTypes := #[t, t] }) (hs : a.eval s = v) (y : α) (hcs : cs.toList = enc y)
    (hx : a.eval x = .slice (some ⟨b, 0, none⟩) 1 1) (hb : b = W.heap.size) (hlen : l.length ≤ 1099511627775) (hbase : base ≤ W.heap.size)
    (h : ∀ v' w', w'.ownsRow base e k v' (l ++ [y]).length (rc enc (l ++ [y])) → (W.alloc (.cells cs e)).grownBy w' v.ownBlock → (v'.ownBlock = v.ownBlock ∨ v'.ownBlock = some (W.alloc (.cells cs e)).heap.size) → wpList Try.prog ops Q rest (a.put o.dst v') w') :
    wpList Try.prog ops Q (o :: rest) a (W.alloc (.cells cs e)) := by
  subst hb
  have hbl := Blk.new W e cs
  refine rows_law hk h1 hkp (us := [y]) ht hinfo hz hby (hown.alloc _) hgd s x ho hs hx (B := W.heap.size + 1) ⟨by rw [rc_length hk]; rfl, fun _ => ⟨_, rfl, Nat.lt_succ_self _, fun j u hu => ?_⟩⟩ (by simp; omega) (by simp; omega) h
  have ha : (⟨W.heap.size, 0, none⟩ : Addr).add j = ⟨W.heap.size, j, none⟩ := by unfold Addr.add; split <;> simp_all
  rw [ha, hbl.cell j, ← hu, rc_single, ← hcs, Array.getElem?_toList]
end

/-! ### the library's sort -/
section
open Go.Lib Go.Sort Go.Shelf
variable {α : Type} [Inhabited α] {enc : α → List Value} {k : Nat} (hk : ∀ x, (enc x).length = k) (hkp : 0 < k)
include hk hkp
theorem flat_rc (d : Array α) : (flatK enc k d).toList = rc enc d.toList := by
  refine List.ext_getElem? fun j => ?_
  by_cases hj : j < d.size * k
  · have hdm := Nat.div_add_mod j k
    rw [Nat.mul_comm k] at hdm
    have hi : j / k < d.size := Nat.div_lt_of_lt_mul (by rw [Nat.mul_comm]; exact hj)
    have hm := Nat.mod_lt j hkp
    have h3 := rc_at hk default d.toList (j / k) (j % k) (by simpa using hi) hm
    rw [hdm] at h3
    have hj' : j < (flatK enc k d).size := by simpa using hj
    rw [h3, Array.getElem?_toList, getElem?_pos (flatK enc k d) j hj', ← getElem!_pos (flatK enc k d) j hj', get_flatK _ _ _ _ hj, getElem!_pos d (j / k) hi]
    have e : d.toList.getD (j / k) default = d[j / k] := by
      rw [List.getD_eq_getElem?_getD, List.getElem?_eq_getElem (show j / k < d.toList.length by simpa using hi)]
      rfl
    rw [e]
    have hl : j % k < (enc d[j / k]).length := by rw [hk]; exact hm
    rw [List.getElem?_eq_getElem hl, getElem!_pos (enc d[j / k]) (j % k) hl]
  · rw [List.getElem?_eq_none (by simp; omega), List.getElem?_eq_none (by rw [rc_length hk]; simp; omega)]
end
section
open Go.Lib Go.Sort Go.Shelf
theorem heap_sorted {w : World} {g n : Nat} {os : Array Obj} {cur : Array Value} {e : TypeId} {fr : Nat × Nat} (F : Array Value) (hb : w.heap[g]? = some (.cells cur e fr)) :
    (grow (putRow id (Sort.ahead w n) g 0 F) os).heap[g]? = some (.cells (putCells id 0 F cur) e fr) := by
  have hg : g < w.heap.size := (Array.getElem?_eq_some_iff.1 hb).1
  rw [heap_grow_old _ _ (by simpa using hg)]
  simp [putRow, mapBlock, Sort.ahead, Array.getElem?_modify, hb, onCells]
theorem grownBy_sorted {w : World} {g n : Nat} {os : Array Obj} (F : Array Value) : w.grownBy (grow (putRow id (Sort.ahead w n) g 0 F) os) (some g) := by
  refine ⟨rfl, rfl, rfl, by simp, fun k hk hne => ?_⟩
  rw [heap_grow_old _ _ (by simpa using hk)]
  have : g ≠ k := fun e => hne (by rw [e])
  simp [putRow, mapBlock, Sort.ahead, Array.getElem?_modify, this]
theorem take_sorted (cur F : Array Value) (h : F.size ≤ cur.size) : (putCells id 0 F cur).toList.take F.size = F.toList := by
  apply List.ext_getElem?
  intro j
  by_cases hj : j < F.size
  · rw [List.getElem?_take_of_lt hj, Array.getElem?_toList]
    simp [putCells, hj, show j < cur.size by omega]
  · rw [List.getElem?_take_eq_none (by omega), List.getElem?_eq_none (by simp; omega)]
variable {α : Type} [Inhabited α] {enc : α → List Value} {k : Nat} (hk : ∀ x, (enc x).length = k) (hkp : 0 < k)
include hk hkp
theorem own_holds {w : World} {base g n cap : Nat} {e : TypeId} {l : List α} (h : w.ownsRow base e k (.slice (some ⟨g, 0, none⟩) n cap) n (rc enc l)) (hn : n = l.length) : HoldsK enc k w g 0 l.toArray := by
  intro j hj
  have hj' : j < l.length * k := by simpa using hj
  refine ⟨?_, h.frozenAt _⟩
  rw [Nat.zero_add, h.cellAt j (by rw [hn]; exact hj')]
  have hf := flat_rc hk hkp l.toArray
  have hl : l.toArray.toList = l := rfl
  rw [hl] at hf
  rw [← hf, Array.getElem?_toList, getElem?_pos (flatK enc k l.toArray) j hj, ← getElem!_pos (flatK enc k l.toArray) j hj]
  rfl
theorem own_sorted {w : World} {base g n cap q : Nat} {e : TypeId} {l : List α} {os : Array Obj} (h : w.ownsRow base e k (.slice (some ⟨g, 0, none⟩) n cap) n (rc enc l)) (d : Array α) (hd : d.size = n) :
    (sortWorldK enc k w g 0 q d os).ownsRow base e k (.slice (some ⟨g, 0, none⟩) n cap) n (rc enc d.toList) := by
  rcases h.2 with ⟨h', _⟩ | ⟨g', cap', cur, h', hb, hg, h1, h2, h3, htake⟩
  · simp at h'
  · injection h' with e1 e2 e3
    injection e1 with e1
    injection e1 with e1
    subst e1 e3
    have hs : (flatK enc k d).size = n * k := by simp [hd]
    refine ⟨by rw [rc_length hk]; simp [hd], .inr ⟨g, cap, _, rfl, hb, heap_sorted _ hg, h1, h2, by simp [putCells, h3], ?_⟩⟩
    rw [← hs, take_sorted _ _ (by rw [hs, h3]; exact Nat.mul_le_mul_right _ h1), flat_rc hk hkp]
omit hk hkp in
theorem sorted_by {cf : α → α → Int} {R : α → α → Prop} (hR : ∀ x y, x ≠ y → ltOf cf y x = false → R x y) {d d' : Array α} (hp : PermIn 0 d.size d d') (hs : SortedIn (ltOf cf) 0 d.size d') (hn : d.toList.Nodup) :
    d'.toList.Perm d.toList ∧ d'.toList.Pairwise R := by
  have hp' : d'.toList.Perm d.toList := by
    have := hp.2.2
    rw [← hp.1] at this
    simp only [Array.extract_size] at this
    rwa [hp.1, Array.extract_size] at this
  refine ⟨hp', ?_⟩
  have hn' : d'.toList.Nodup := hp'.nodup_iff.2 hn
  rw [List.nodup_iff_pairwise_ne, List.pairwise_iff_getElem] at hn'
  rw [List.pairwise_iff_getElem]
  intro i j hi hj hij
  have hi' : i < d'.size := by simpa using hi
  have hj' : j < d'.size := by simpa using hj
  have h1 := hs i j (Nat.zero_le _) hij (by rw [← hp.1]; exact hj')
  rw [getElem!_pos d' i hi', getElem!_pos d' j hj'] at h1
  exact hR _ _ (hn' i j hi hj hij) h1
end
end Go.Proofs.Ytlhjjmfbifhgfaa
