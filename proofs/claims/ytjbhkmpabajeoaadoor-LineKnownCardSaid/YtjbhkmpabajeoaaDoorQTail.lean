/- A region that draws its order: its head reads, and calls functions that leave alone what was there; its tail, which waits for all of the head, goes one by one (a store of the result). -/
import Derived.Test.YtjbhkmpabajeoaaDoorQB
import Derived.StillTail
namespace Go.Proofs.YtjbhkmpabajeoaaDoor
set_option linter.unusedSimpArgs false
set_option linter.unusedVariables false
open Go.RowKit

section
variable {P : Program} {ops : Array Oper} {md : Region.Mode} {C : World → Prop}

/-- The operations of a list, one behind the other. -/
def walkQ (P : Program) (ops : Array Oper) (C : World → Prop) (Q : Act → Prop) : List Nat → Act → Prop
  | [], a => Q a
  | i :: L, a => qOp P ops C i (walkQ P ops C Q L) a
/-- Of two operations of the head the later one waits for the elder one, or they are apart. -/
def pairsB (md : Region.Mode) (ops : Array Oper) (n : Nat) : Bool :=
  (List.range n).all fun i => (List.range n).all fun j => !decide (i < j) || Region.waitsFor md ops j i ||
    match ops[i]?, ops[j]? with
    | some oi, some oj => oi.apart ops oj
    | _, _ => false
/-- An operation of the head waits for elder ones alone. -/
def elderB (md : Region.Mode) (ops : Array Oper) (n : Nat) : Bool :=
  (List.range n).all fun j => match ops[j]? with | some oj => oj.after.all fun e => !Region.binds md e || decide (e.on < j) | none => false
def doneAt (n g : Nat) : Array Bool := (List.replicate n true ++ List.replicate g false).toArray
def headTailB (md : Region.Mode) (ops : Array Oper) (n : Nat) : Bool :=
  Region.noSelect ops && decide (n < ops.size) && Region.sinkB md ops n && Region.chainB md ops n && pairsB md ops n && elderB md ops n && Region.seqB md ops (ops.size - n) n (doneAt n (ops.size - n))

/-- An operation that is apart from all ahead of it may be taken first. -/
theorem walkQ_first {Q : Act → Prop} (hsel : Region.noSelect ops = true) {j : Nat} {oj : Oper} (hj : ops[j]? = some oj) : ∀ (L : List Nat) (a : Act), j ∈ L → L.Nodup →
    (∀ i ∈ L, i < j → ∀ oi, ops[i]? = some oi → oi.apart ops oj = true) → L.Pairwise (· < ·) → (∀ i ∈ L, ∃ oi, ops[i]? = some oi) → walkQ P ops C Q L a → qOp P ops C j (walkQ P ops C Q (L.erase j)) a
  | [], _, hm, _, _, _, _, _ => by cases hm
  | i :: L, a, hm, hn, hap, hp, hex, h => by
    by_cases e : i = j
    · subst e
      rw [List.erase_cons_head]
      exact h
    · have hm' : j ∈ L := by
        rcases List.mem_cons.1 hm with h1 | h1
        · exact absurd h1.symm e
        · exact h1
      have hij : i < j := (List.pairwise_cons.1 hp).1 j hm'
      obtain ⟨oi, hoi⟩ := hex i List.mem_cons_self
      obtain ⟨v, hy, hK⟩ := yieldsIn_of_qOp hoi h
      have ih := walkQ_first hsel hj L _ hm' (List.nodup_cons.1 hn).2 (fun k hk => hap k (List.mem_cons_of_mem _ hk)) (List.pairwise_cons.1 hp).2 (fun k hk => hex k (List.mem_cons_of_mem _ hk)) hK
      have h2 := qOp_put hj (hap i List.mem_cons_self hij oi hoi) (fun cs b => Region.noSelect_spec hsel i oi cs b hoi) (fun cs b => Region.noSelect_spec hsel j oj cs b hj) hy ih
      rw [List.erase_cons_tail (by simpa using e)]
      exact qOp_mono (fun a' ⟨h3, h4⟩ => h3.qOp hoi h4) h2

/-- What is listed while the head goes: just what is not in L. -/
structure Going (md : Region.Mode) (ops : Array Oper) (n : Nat) (listed : Array Bool) (L : List Nat) : Prop where
  inv : HeadInv md ops n listed
  mem : ∀ i, i ∈ L ↔ i < n ∧ listed.getD i true = false
  ord : L.Pairwise (· < ·)
theorem Going.take {n : Nat} {listed : Array Bool} {L : List Nat} (h : Going md ops n listed L) (hn : n < ops.size) {j : Nat} (hj : j ∈ Region.ready md ops listed) (hjn : j < n) : Going md ops n (listed.setIfInBounds j true) (L.erase j) := by
  have hnd : L.Nodup := h.ord.imp (fun h => Nat.ne_of_lt h)
  refine ⟨h.inv.set hj hjn, fun i => ?_, h.ord.sublist List.erase_sublist⟩
  rw [List.Nodup.mem_erase_iff hnd, h.mem]
  by_cases e : i = j
  · subst e
    constructor
    · rintro ⟨h1, _⟩; exact absurd rfl h1
    · rintro ⟨_, h1⟩
      have hs : i < listed.size := by rw [h.inv.size]; omega
      simp [hs] at h1
  · rw [getD_set_ne true (fun h => e h.symm)]
    exact ⟨fun ⟨_, h1⟩ => h1, fun h1 => ⟨e, h1⟩⟩
theorem wpAny_of_walkQ {n : Nat} {Q : Act → Prop} {Q' : Exit → Act → World → Prop} (hB : headTailB md ops n = true)
    (hQ : ∀ a w, C w → Q a → wpAny P md ops Q' (ops.size - n) (doneAt n (ops.size - n)) a w) :
    ∀ (f : Nat) (L : List Nat) (listed : Array Bool) (a : Act) (w : World), L.length = f → C w → Going md ops n listed L → walkQ P ops C Q L a → wpAny P md ops Q' (f + (ops.size - n)) listed a w := by
  simp only [headTailB, Bool.and_eq_true, decide_eq_true_eq] at hB
  obtain ⟨⟨⟨⟨⟨⟨hsel, hn⟩, hs⟩, hc⟩, hpr⟩, hel⟩, _⟩ := hB
  intro f
  induction f with
  | zero =>
    intro L listed a w hl hw hg h
    have hL : L = [] := List.length_eq_zero_iff.1 hl
    subst hL
    have e : listed = doneAt n (ops.size - n) := by
      apply Array.ext
      · rw [hg.inv.size]; simp [doneAt]; omega
      · intro i h1 h2
        have hi : i < ops.size := by rw [← hg.inv.size]; exact h1
        by_cases hin : i < n
        · have hm : ¬ (i < n ∧ listed.getD i true = false) := fun h => absurd ((hg.mem i).2 h) (by simp)
          have : listed[i] = true := by
            cases hb : listed[i] with
            | true => rfl
            | false => exact absurd ⟨hin, by simp [h1, hb]⟩ hm
          rw [this]
          simp [doneAt, List.getElem_append, hin]
        · have := hg.inv.tail i (by omega) hi
          simp [h1] at this
          rw [this]
          simp [doneAt, List.getElem_append, hin]
    rw [Nat.zero_add, e]
    exact hQ a w hw h
  | succ f ih =>
    intro L listed a w hl hw hg h
    have hnd : L.Nodup := hg.ord.imp (fun h => Nat.ne_of_lt h)
    have hex : ∀ i ∈ L, ∃ oi, ops[i]? = some oi := fun i hi => by
      have := ((hg.mem i).1 hi).1
      exact ⟨ops[i], Array.getElem?_eq_getElem (by omega)⟩
    rw [show f + 1 + (ops.size - n) = (f + (ops.size - n)) + 1 by omega]
    refine ⟨fun h0 => ?_, fun j hj => ?_⟩
    · exfalso
      match L, hl with
      | k :: L', _ =>
        obtain ⟨hkn, hk⟩ := (hg.mem k).1 List.mem_cons_self
        have hr : k ∈ Region.ready md ops listed := by
          obtain ⟨ok, hok⟩ := hex k List.mem_cons_self
          refine mem_ready.2 ⟨hk, ok, hok, fun e he hb => ?_⟩
          have h1 := List.all_eq_true.1 hel k (List.mem_range.2 hkn)
          rw [hok] at h1
          have h2 := Array.all_eq_true_iff_forall_mem.1 h1 e he
          simp only [hb, Bool.not_true, Bool.false_or, decide_eq_true_eq] at h2
          have h3 : e.on ∉ k :: L' := by
            intro hm
            rcases List.mem_cons.1 hm with h4 | h4
            · omega
            · have := (List.pairwise_cons.1 hg.ord).1 _ h4
              omega
          have h5 : ¬ (e.on < n ∧ listed.getD e.on true = false) := fun h => h3 ((hg.mem e.on).2 h)
          have hsz : e.on < listed.size := by rw [hg.inv.size]; omega
          cases hb2 : listed.getD e.on true with
          | false => exact absurd ⟨by omega, hb2⟩ h5
          | true => simpa [hsz] using hb2
        rw [h0] at hr
        cases hr
    · have hne : L ≠ [] := by intro e; rw [e] at hl; cases hl
      have hjn : j < n := by
        rcases Nat.lt_or_ge j n with h1 | h1
        · exact h1
        · obtain ⟨k, hk⟩ := List.exists_mem_of_ne_nil L hne
          obtain ⟨hkn, hku⟩ := (hg.mem k).1 hk
          exact absurd hj (tail_waits hs hc hn hg.inv _ k rfl hkn hku j h1)
      obtain ⟨hju, oj, hoj, hall⟩ := mem_ready.1 hj
      have hjL : j ∈ L := (hg.mem j).2 ⟨hjn, hju⟩
      have hap : ∀ i ∈ L, i < j → ∀ oi, ops[i]? = some oi → oi.apart ops oj = true := by
        intro i hi hij oi hoi
        obtain ⟨hin, hiu⟩ := (hg.mem i).1 hi
        have h1 := List.all_eq_true.1 (List.all_eq_true.1 hpr i (List.mem_range.2 hin)) j (List.mem_range.2 hjn)
        simp only [hij, decide_true, Bool.not_true, Bool.false_or, hoi, hoj, Bool.or_eq_true] at h1
        rcases h1 with h1 | h1
        · obtain ⟨o', ho', e, he, hb, hon⟩ := Region.waitsFor_spec h1
          have : o' = oj := Option.some.inj (ho'.symm.trans hoj)
          subst this
          have h2 := hall e he hb
          rw [hon, getD_both hiu] at h2
          cases h2
        · exact h1
      have h1 := walkQ_first hsel hoj L a hjL hnd hap hg.ord hex h
      refine wpOp_of_qOp hw (fun a' w' hw' h' => ih (L.erase j) _ a' w' ?_ hw' (hg.take hn hj hjn) h') h1
      rw [List.length_erase_of_mem hjL, hl]
      rfl
theorem walkQ_of_quiet {Q : Act → Prop} : ∀ (l : List Oper) (k : Nat) (a : Act), (∀ j, j < l.length → l[j]? = ops[k + j]?) → wpQuiet P ops C Q l a → walkQ P ops C Q (List.range' k l.length) a
  | [], _, _, _, h => h
  | o :: l, k, a, hl, h => by
    have h0 : ops[k]? = some o := by simpa using (hl 0 (by simp)).symm
    rw [List.length_cons, List.range'_succ]
    unfold walkQ
    refine qOp_mono (fun a' h' => walkQ_of_quiet l (k + 1) a' (fun j hj => by have := hl (j + 1) (by simp; omega); simpa [Nat.add_assoc, Nat.add_comm 1 j] using this) h') ?_
    unfold qOp
    simp only [h0]
    exact h
theorem wp_region_quiet_tail {id : Nat} {Q : Exit → Act → World → Prop} {a : Act} {w : World} {l : List Oper} (n : Nat) (hm : P.follows .mixedOrders = true) (hB : headTailB .any l.toArray n = true) (hC : C { w with drawn := w.drawn + 1 })
    (h : wpQuiet P l.toArray C (fun a' => ∀ w', C w' → wpList P l.toArray Q (l.drop n) a' w') (l.take n) a) : (Code.region id l.toArray true).wp P Q a w := by
  have hB' := hB
  simp only [headTailB, Bool.and_eq_true, decide_eq_true_eq] at hB'
  obtain ⟨⟨⟨⟨⟨⟨hsel, hn⟩, _⟩, _⟩, _⟩, _⟩, hseq⟩ := hB'
  have hnl : n < l.length := by simpa using hn
  have htl : (l.take n).length = n := by simp; omega
  have hdl : (l.drop n).length = l.toArray.size - n := by simp
  refine wp_region_any hm ?_
  have inv0 : HeadInv .any l.toArray n (Array.replicate l.toArray.size false) :=
    ⟨by simp, fun j oj _ hl => (by rw [getD_replicate_false] at hl; cases hl), fun t _ ht => getD_in (by simpa using ht) (getD_replicate_false _ _)⟩
  have hw := walkQ_of_quiet (l.take n) 0 a (fun j hj => by
    have hj' : j < n := by rw [htl] at hj; exact hj
    simp [hj']) h
  rw [htl] at hw
  have H := wpAny_of_walkQ (Q' := Q) hB (fun a' w' hw' h' => by
    have := wpAny_of_seq (md := .any) (Q' := Q) (l.drop n) n (doneAt n (l.toArray.size - n)) a' w' (fun j => by simp [List.getElem?_drop]) (by rw [hdl]; exact hseq) (h' w' hw')
    rwa [hdl] at this) n (List.range' 0 n) (Array.replicate l.toArray.size false) a _ (by simp) hC ⟨inv0, fun i => by
      simp only [List.mem_range'_1, Nat.zero_add, Nat.zero_le, true_and]
      constructor
      · intro hi
        exact ⟨hi, getD_in (by simp; omega) (getD_replicate_false _ _)⟩
      · exact fun h => h.1, List.pairwise_lt_range'⟩ hw
  rw [show n + (l.toArray.size - n) = l.toArray.size by omega] at H
  exact H
/-- The same at the class of the worlds in which all that was there is as it was. -/
theorem wp_region_tail_below {id : Nat} {Q : Exit → Act → World → Prop} {a : Act} {w : World} {l : List Oper} (n : Nat) (hm : P.follows .mixedOrders = true) (hB : headTailB .any l.toArray n = true)
    (h : wpQuiet P l.toArray (fun w' => ∃ p : InB w, w' = p.w') (fun a' => ∀ w', (∃ p : InB w, w' = p.w') → wpList P l.toArray Q (l.drop n) a' w') (l.take n) a) : (Code.region id l.toArray true).wp P Q a w :=
  wp_region_quiet_tail (C := fun w' => ∃ p : InB w, w' = p.w') n hm hB ⟨⟨w.drew, ⟨rfl, rfl, rfl, Nat.le_refl _, fun _ _ => rfl⟩⟩, rfl⟩ h
end
end Go.Proofs.YtjbhkmpabajeoaaDoor
