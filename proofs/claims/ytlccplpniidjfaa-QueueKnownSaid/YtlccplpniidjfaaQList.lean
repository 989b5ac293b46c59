/- List: a queue's ticks by rising indexes, in memory of the call's own: the walk. -/
import Derived.Test.YtlccplpniidjfaaQListKit
namespace Go.Proofs.Ytlccplpniidjfaa
open Go.Shelf Go.RowKit Go.Lib Go.Sort

set_option maxRecDepth 100000 in
set_option maxHeartbeats 1000000 in
/-- slices.Clone of an own row of ticks. -/
theorem clone_any {w : World} {base : Nat} {v : Value} {l : List Tk} (h : w.ownsRow base 24 2 v l.length (tcells l)) (hlen : l.length ≤ 4096) :
    Calls Try.prog 37 #[v] w fun e w' => Below w.heap.size w w' ∧ ∃ v', e = .returned v' ∧ w'.ownsRow w.heap.size 24 2 v' l.length (tcells l) := by
  rcases h.2 with ⟨rfl, h0⟩ | ⟨g, cap, cur, rfl, hb, hg, r⟩
  · have hc := AnyE.slices_Clone_nil Try.cloneT 0 0 w
    change Calls Try.prog 37 _ _ _ at hc
    refine hc.mono ?_
    rintro e w' ⟨rfl, rfl⟩
    have hl : l = [] := List.eq_nil_of_length_eq_zero h0
    subst hl
    exact ⟨Below.refl _ _, _, rfl, World.ownsRow_nil _ _ _ _⟩
  · obtain ⟨i0, hi, hz0, hz1, hz2⟩ := info_parts infoTick
    have hc := AnyE.slices_Clone Try.cloneT i0 (.agg #[.int .i64 0, .int .i64 0]) 2 16 hi hz0 hz1 hz2 rfl (by decide) Try.sizeOf24 g 0 l.length cap (tcells l) w (tcells_length l) (by unfold maxLen; omega) (by omega)
      (fun j u hu => by
        have hj : j < (tcells l).length := (List.getElem?_eq_some_iff.1 hu).1
        rw [Nat.zero_add, h.cellAt j (by rw [← tcells_length]; exact hj)]; exact hu) (tcells_one l)
    change Calls Try.prog 37 _ _ _ at hc
    refine hc.mono ?_
    rintro e w' ⟨v', rfl, hown, _, hbl⟩
    exact ⟨hbl, v', rfl, hown⟩

set_option maxRecDepth 100000 in
set_option maxHeartbeats 1000000 in
/-- slices.SortFunc of an own row of ticks by their indexes. -/
theorem sort_any {w : World} {base : Nat} {v : Value} {l m : List Tk} (h : w.ownsRow base 24 2 v l.length (tcells l)) (hbase : base ≤ w.heap.size) (hlen : l.length ≤ 4096) (hp : l.Perm m) (hm : Rising m) :
    Calls Try.prog 38 #[v, .func (.func 39) #[] #[]] w fun e w' => e = .returned (.tuple #[]) ∧ w'.ownsRow base 24 2 v m.length (tcells m) ∧ Below base w w' := by
  rcases h.2 with ⟨rfl, h0⟩ | ⟨g, cap, cur, rfl, hb, hg, r⟩
  · have hc := AnyF.slices_SortFunc_none (P := Try.prog) (ρ := Try.sortT_ren) { Try.sortT with } none 0 (.func (.func 39) #[] #[]) w
    change Calls Try.prog 38 _ _ _ at hc
    refine hc.mono ?_
    rintro e w' ⟨rfl, rfl⟩
    have hl : l = [] := List.eq_nil_of_length_eq_zero h0
    subst hl
    rw [show m = [] from hp.symm.eq_nil]
    exact ⟨rfl, World.ownsRow_nil _ _ _ _, Below.refl _ _⟩
  · have eg : ∀ args w, (callFunc 39 args).run Try.prog w = .ok (.enter 39 args) w := enters_of Try.func39 (by kernel_rfl) rfl
    have hH := own_holds h rfl
    have hg' : g < w.heap.size := (Array.getElem?_eq_some_iff.1 hg).1
    have hc := AnyQ.slices_SortFunc Try.sortT 2 Try.isAgg24 Try.sizeOf24 encT (fun _ => rfl) (fun x v hv => by simp [encT] at hv; rcases hv with rfl | rfl <;> rfl) cfT swoCf 39 #[] g 0 cap l.toArray w eg (cmp_lays g 0 l.toArray.size w) hH hg' (by simp; omega)
    change Calls Try.prog 38 _ _ _ at hc
    have hs : l.toArray.size = l.length := by simp
    rw [hs] at hc
    refine hc.mono ?_
    rintro e w' ⟨rfl, d', n, os, hpi, hsi, rfl⟩
    have hd : d'.size = l.length := by rw [hpi.1, hs]
    have hsr := sorted_rising (d := l.toArray) (by rw [hs]; exact hpi) (by rw [hs]; exact hsi) (((hp.map _).nodup_iff).2 (nodup_keys hm))
    have hdm : d'.toList = m := rising_unique hsr.2 hm (hsr.1.trans hp)
    have ho := own_sorted (q := n) (os := os) h d' hd
    rw [hdm] at ho
    refine ⟨rfl, ?_, ?_⟩
    · rw [← hp.length_eq]; exact ho
    · exact (Below.refl base w).grown (grownBy_sorted (flatK encT 2 d')) hbase (fun k hk => by injection hk with hk; rw [← hk]; exact hb)

set_option maxRecDepth 100000 in
set_option maxHeartbeats 1000000 in
theorem list_q {w : World} {base g : Nat} {m : List Tk} {r : Option Nat} (h : QQ w base g m r) :
    Calls Try.prog 20 #[.pointer (some ⟨g, 0, none⟩)] w fun e w' => Below w.heap.size w w' ∧ ∃ v, e = .returned v ∧ w'.ownsRow w.heap.size 24 2 v m.length (tcells m) := by
  obtain ⟨l, hq, hh, hp, hm, hmay⟩ := h
  have HI := Lib.hid (is_any hq)
  have hsmall := hq.apt.small
  obtain ⟨v, f, hb, hown, hr, hbg, hf, hap⟩ := hq
  have hc := hb.cell
  have HC := Lib.hid (clone_any hown hsmall)
  have HS := Lib.hid (fun (w1 : World) (v1 : Value) (h1 : w1.ownsRow w.heap.size 24 2 v1 l.length (tcells l)) (h2 : w.heap.size ≤ w1.heap.size) => sort_any h1 h2 hsmall hp hm)
  obtain ⟨-, ao, c, rfl⟩ := own_ticks hown
  clear hown hb hr hf hap hh hmay hsmall
  go_enter Try.func20, Try.ntmps20
  go_wp2_with (go_at_call 28; (with_reducible refine HI.out.mono ?_); rintro e w' ⟨rfl, rfl⟩)
  go_at_call 37
  refine HC.out.mono ?_
  rintro e w1 ⟨hb1, v1, rfl, ho1⟩
  have HSO := Lib.hid (HS.out w1 v1 ho1 hb1.size)
  have HB1 := Lib.hid hb1
  clear hb1 ho1
  go_wp2_with fail
  go_at_call 38
  refine HSO.out.mono ?_
  rintro e w2 ⟨rfl, ho2, hb2⟩
  have HO2 := Lib.hid ho2
  have HB2 := Lib.hid (HB1.out.trans hb2)
  clear ho2 hb2
  go_wp2
  go_ret
  exact ⟨HB2.out, v1, rfl, HO2.out⟩
end Go.Proofs.Ytlccplpniidjfaa
