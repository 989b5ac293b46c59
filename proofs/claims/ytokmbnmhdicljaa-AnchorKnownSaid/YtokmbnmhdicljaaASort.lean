/- Spots in memory: keys, rows; the library's sort and search over them. -/
import Derived.Test.YtokmbnmhdicljaaLay
import Derived.Test.YtokmbnmhdicljaaAPlace
import Derived.Test.YtokmbnmhdicljaaRowK
import Derived.Test.YtokmbnmhdicljaaMapK
import Derived.DeepKeys4
import Derived.Ground.SlsfProg
namespace Go.Proofs.Ytokmbnmhdicljaa
open Go.RowKit

def SpOk (s : Sp) : Prop := (-9223372036854775808 ≤ s.1 ∧ s.1 ≤ 9223372036854775807) ∧ (-9223372036854775808 ≤ s.2.1 ∧ s.2.1 ≤ 9223372036854775807) ∧ (-9223372036854775808 ≤ s.2.2 ∧ s.2.2 ≤ 9223372036854775807)
theorem SpOk.of_may {s : Sp} (h : maySpot s = true) : SpOk s := by
  rw [maySpot_iff] at h
  unfold SpOk
  omega
theorem laidOut_ : laidOutB Try.prog = true := by kernel_rfl
theorem wide_ : (match Try.prog.underlying 23 with | some (.array _ _) | some (.struct _) => true | _ => false) = true := by rw [Try.underlying23]
theorem keyed_ : Maps.Keyed Try.prog 23 := Maps.Keyed.of_law (deep_law_laid laidOut_ (m := 3) (by omega) (of_decide_eq_true (by kernel_rfl)) (by kernel_rfl) wide_)
theorem types_ : ∃ m, Try.prog.types.size + 1 = m + 2 := ⟨Try.prog.types.size - 1, by have : 1 ≤ Try.prog.types.size := of_decide_eq_true (by kernel_rfl); omega⟩
theorem cells_ : Try.prog.cellsOf 23 = 3 := by kernel_rfl
theorem cellsInt_ : Try.prog.cellsOf 3 = 1 := by kernel_rfl
theorem keyType_ : Try.prog.keyType 23 = true := by kernel_rfl
theorem key_spot (s : Sp) (h : SpOk s) : ∃ l, keyOf Try.prog 23 (spV s) = some l := by
  obtain ⟨m, hm⟩ := types_
  obtain ⟨⟨a1, a2⟩, ⟨b1, b2⟩, c1, c2⟩ := h
  have w1 : (Lit.int .i64 s.1).wf = true := WalkArith.wf_i64 (by omega)
  have w2 : (Lit.int .i64 s.2.1).wf = true := WalkArith.wf_i64 (by omega)
  have w3 : (Lit.int .i64 s.2.2).wf = true := WalkArith.wf_i64 (by omega)
  have hf : (spV s).formed Try.prog 23 = true := by simp [Value.formed, Try.underlying23, cells_]
  unfold keyOf
  rw [Try.underlying23]
  simp only [keyType_, hf, Bool.and_self, if_true, hm]
  simp [Program.keyLits, Try.underlying23, Try.underlying3, cells_, cellsInt_, Value.cells, w1, w2, w3]
theorem spV_inj (a b : Sp) (h : spV a = spV b) : a = b := by
  simp only [spV, Value.agg.injEq] at h
  injection h with h
  simp at h
  exact Prod.ext h.1 (Prod.ext h.2.1 h.2.2)
theorem zero_int (w : World) : (zeroValue 3).run Try.prog w = .ok (.int .i64 0) w := by kernel_rfl

/-! ### rows of spots -/
def encS (s : Sp) : List Value := [.int .i64 s.1, .int .i64 s.2.1, .int .i64 s.2.2]
theorem encS_len (s : Sp) : (encS s).length = 3 := rfl
theorem encS_one (s : Sp) : ∀ u ∈ encS s, u.oneCell' = true := by
  intro u hu
  simp [encS] at hu
  rcases hu with rfl | rfl | rfl <;> rfl
theorem infoSpot : (Try.prog.info? 23).map (fun i => (i.zero, i.size, i.bytes)) = some (some (.agg #[.int .i64 0, .int .i64 0, .int .i64 0]), 3, 24) := by kernel_rfl
abbrev SAt (w : World) (v : Value) (l : List Sp) : Prop := RAt encS 3 (0, 0, 0) w v l
abbrev Row (w : World) (base : Nat) (v : Value) (l : List Sp) : Prop := w.ownsRow base 23 3 v l.length (rc encS l)
theorem RAt.cells3 {w : World} {b off n c : Nat} {l : List Sp} (h : SAt w (.slice (some ⟨b, off, none⟩) n c) l) {i : Nat} (hi : i < l.length) :
    b < w.heap.size ∧ w.cell? ⟨b, off + i * 3, none⟩ = some (.int .i64 (nthS l i).1) ∧ w.cell? ⟨b, off + i * 3 + 1, none⟩ = some (.int .i64 (nthS l i).2.1) ∧ w.cell? ⟨b, off + i * 3 + 2, none⟩ = some (.int .i64 (nthS l i).2.2) := by
  obtain ⟨hb, hc⟩ := h.at_ hi
  exact ⟨hb, hc 0 (by decide), hc 1 (by decide), hc 2 (by decide)⟩
theorem RAt.some3 {w : World} {ao : Option Addr} {n c : Nat} {l : List Sp} (h : SAt w (.slice ao n c) l) {i : Nat} (hi : i < l.length) :
    ∃ b off, ao = some ⟨b, off, none⟩ ∧ b < w.heap.size ∧ w.cell? ⟨b, off + i * 3, none⟩ = some (.int .i64 (nthS l i).1) ∧ w.cell? ⟨b, off + i * 3 + 1, none⟩ = some (.int .i64 (nthS l i).2.1) ∧ w.cell? ⟨b, off + i * 3 + 2, none⟩ = some (.int .i64 (nthS l i).2.2) := by
  obtain ⟨b, off, e, hb, hc⟩ := h.some_ hi
  exact ⟨b, off, e, hb, hc 0 (by decide), hc 1 (by decide), hc 2 (by decide)⟩
section
open Go.Lib Go.Sort Go.Shelf
theorem ltOf_cmpS (a b : Sp) : ltOf cmpS a b = decide (ltS a b) := by
  unfold ltOf
  exact decide_eq_decide.2 cmpS_lt
theorem swoS : SWO (ltOf cmpS) where
  irrefl x := by rw [ltOf_cmpS]; simpa using ltS_irrefl x
  trans x y z h1 h2 := by rw [ltOf_cmpS] at *; simp at *; exact ltS_trans h1 h2
  ntrans x y z h1 h2 := by
    rw [ltOf_cmpS] at *
    simp only [decide_eq_false_iff_not] at *
    intro h
    unfold ltS at *
    omega
theorem cmp_lays (blk off size : Nat) (w : World) : CmpLays Try.prog 19 #[] encS 3 cmpS blk off size w := fun _ _ _ _ x y => cmpSpot_any _ x y
set_option maxRecDepth 100000 in
set_option maxHeartbeats 1000000 in
/-- slices.SortFunc of an own row of spots. -/
theorem sort_any {w : World} {base : Nat} {v : Value} {l : List Sp} (h : Row w base v l) (hbase : base ≤ w.heap.size) (hlen : l.length ≤ 4096) (hn : l.Nodup) :
    Calls Try.prog 21 #[v, .func (.func 19) #[] #[]] w fun e w' => e = .returned (.tuple #[]) ∧ Below base w w' ∧ ∃ m, Asc m ∧ (∀ s, s ∈ m ↔ s ∈ l) ∧ Row w' base v m := by
  rcases h.2 with ⟨rfl, h0⟩ | ⟨g, cap, cur, rfl, hb, hg, r⟩
  · have hc := AnyF.slices_SortFunc_none (P := Try.prog) (ρ := Try.sortT_ren) { Try.sortT with } none 0 (.func (.func 19) #[] #[]) w
    change Calls Try.prog 21 _ _ _ at hc
    refine hc.mono ?_
    rintro e w' ⟨rfl, rfl⟩
    have hl : l = [] := List.eq_nil_of_length_eq_zero h0
    subst hl
    exact ⟨rfl, Below.refl _ _, [], List.Pairwise.nil, fun _ => Iff.rfl, World.ownsRow_nil _ _ _ _⟩
  · have eg : ∀ args w, (callFunc 19 args).run Try.prog w = .ok (.enter 19 args) w := enters_of Try.func19 (by kernel_rfl) rfl
    have hH := own_holds encS_len (by decide) h rfl
    have hg' : g < w.heap.size := (Array.getElem?_eq_some_iff.1 hg).1
    have hc := AnyQ.slices_SortFunc Try.sortT 3 Try.isAgg23 Try.sizeOf23 encS (fun _ => rfl) (fun x v hv => encS_one x v hv) cmpS swoS 19 #[] g 0 cap l.toArray w eg (cmp_lays g 0 l.toArray.size w) hH hg' (by simp; omega)
    change Calls Try.prog 21 _ _ _ at hc
    have hs : l.toArray.size = l.length := by simp
    rw [hs] at hc
    refine hc.mono ?_
    rintro e w' ⟨rfl, d', n, os, hpi, hsi, rfl⟩
    have hd : d'.size = l.length := by rw [hpi.1, hs]
    obtain ⟨hp, hasc⟩ := sorted_by (R := ltS) (cf := cmpS) (fun x y hne hf => by
      rw [ltOf_cmpS] at hf
      simp only [decide_eq_false_iff_not] at hf
      exact Classical.byContradiction fun h => hne (ltS_total h hf)) (d := l.toArray) (by rw [hs]; exact hpi) (by rw [hs]; exact hsi) hn
    have ho := own_sorted encS_len (by decide) (q := n) (os := os) h d' hd
    refine ⟨rfl, (Below.refl base w).grown (grownBy_sorted (flatK encS 3 d')) hbase (fun k hk => by injection hk with hk; rw [← hk]; exact hb), d'.toList, hasc, fun s => hp.mem_iff, ?_⟩
    have e : l.length = d'.toList.length := by simp [hd]
    show World.ownsRow _ _ _ _ _ d'.toList.length _
    rw [← e]
    exact ho
end
end Go.Proofs.Ytokmbnmhdicljaa
