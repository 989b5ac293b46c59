/- Joined texts of one seat, each under its own heading below. -/
import Derived.Test.YtlhjjmfbifhgfaaFM18
import Derived.Test.YtlhjjmfbifhgfaaFM19
import Derived.Test.YtlhjjmfbifhgfaaFM20
/- What the check of one edit rests on: plain laws. -/
namespace Go.Proofs.Ytlhjjmfbifhgfaa
set_option linter.unusedSimpArgs false
set_option linter.unusedVariables false
open Go.RowKit

theorem lit_src {f : Fw} {q : Pl} (hq : f.b.inside q) : litP f.b (clrF f) q ↔ isSrc f.b f.cells (f.b.idx q) = true := by
  unfold isSrc
  rw [clr_same]
  by_cases htop : f.b.lo.2.1 + (f.b.Y : Int) = 64
  · have h := src_spread (b := f.b) (clr := clrF f) htop q
    unfold spread at h
    rw [if_pos hq] at h
    constructor
    · intro hl
      rw [skyOwn_lit hl] at h
      rw [← h]
      simp [htop]
    · intro hs
      refine Classical.byContradiction fun hn => ?_
      rw [skyOwn_not hn] at h
      rw [← h] at hs
      simp at hs
  · constructor
    · intro hl
      exact absurd hl.1 htop
    · intro hs
      simp [htop] at hs
theorem near_sm {f : Fw} (ok : f.b.Ok) {p x : Pl} {old : Int × Int} (hp : f.b.inside p) (h : NearC f p old x) : Sm x := by
  rcases h with h | ⟨s, hs, _, h⟩
  · exact Sm.of_far (Bx.inside_may ok hp) (by omega)
  · exact Sm.of_far (Bx.inside_may ok hs) (by omega)
theorem near_src {f : Fw} {p x : Pl} {old : Int × Int} {c0 : List (Int × Int)} (hc : (f.old p old).cells = c0) (h : NearC f p old x) : nearB f.b x p (isSrc f.b c0) (isSrc f.b f.cells) = true := by
  refine nearB_iff.2 ?_
  rcases h with h | ⟨s, hs, hl, h⟩
  · exact .inl (by rw [farP_comm]; exact h)
  · refine .inr ⟨f.b.idx s, f.b.idx_lt hs, fun e => hl ?_, by rw [f.b.at_idx hs, farP_comm]; exact h⟩
    have h2 := lit_src (f := f.old p old) (q := s) hs
    rw [hc] at h2
    rw [lit_src hs, show f.b = (f.old p old).b from rfl, h2]
    show isSrc f.b f.cells (f.b.idx s) = true ↔ isSrc f.b c0 (f.b.idx s) = true
    rw [e]
theorem put_old {f : Fw} (ok : f.Ok) {i : Nat} (hi : i < f.b.size) (c : Int × Int) (a t : List Pl) : (({ f.put i c with asked := a, told := t } : Fw).old (f.b.at_ i) (f.cells.getD i (0, 0))).cells = f.cells := by
  show (f.cells.set i c).set (f.b.idx (f.b.at_ i)) (f.cells.getD i (0, 0)) = f.cells
  rw [f.b.idx_at hi, List.set_set]
  have h : i < f.cells.length := by rw [ok.cells]; exact hi
  rw [List.getD_eq_getElem?_getD, List.getElem?_eq_getElem h]
  exact List.set_getElem_self h
/-- How many cells, of the first so many, are of another light. -/
def cntN (g : Nat → Bool) (m : Nat) : Nat := ((List.range m).filter g).length
theorem cntN_zero (g : Nat → Bool) : cntN g 0 = 0 := rfl
theorem cntN_succ (g : Nat → Bool) (m : Nat) : cntN g (m + 1) = cntN g m + (if g m = true then 1 else 0) := by
  unfold cntN
  rw [List.range_succ, List.filter_append, List.length_append]
  by_cases h : g m = true
  · rw [if_pos h, List.filter_cons_of_pos h]; rfl
  · rw [if_neg h, List.filter_cons_of_neg h]; rfl
theorem cntN_le (g : Nat → Bool) (m : Nat) : cntN g m ≤ m := by
  have := List.length_filter_le g (List.range m)
  rw [List.length_range] at this
  exact this
theorem asc_nodup {T : List Pl} (h : Asc T) : T.Nodup := List.nodup_iff_pairwise_ne.2 (h.imp fun {a b} hab e => by subst e; exact ltS_irrefl _ hab)
theorem told_count {b : Bx} {T : List Pl} {g : Nat → Bool} (hn : T.Nodup) (hm : ∀ q, q ∈ T ↔ b.inside q ∧ g (b.idx q) = true) : T.length = cntN g b.size := by
  have h1 : (T.map b.idx).Nodup := by
    refine List.nodup_iff_pairwise_ne.2 (List.pairwise_map.2 ?_)
    refine List.Pairwise.imp_of_mem ?_ (List.nodup_iff_pairwise_ne.1 hn)
    intro p q hp hq hne
    exact fun e => idx_ne ((hm q).1 hq).1 ((hm p).1 hp).1 hne e
  have h2 : ((List.range b.size).filter g).Nodup := (List.nodup_range).filter _
  have h3 := (List.perm_ext_iff_of_nodup h1 h2).2 fun i => by
    simp only [List.mem_map, List.mem_filter, List.mem_range]
    constructor
    · rintro ⟨q, hq, rfl⟩
      obtain ⟨h, k⟩ := (hm q).1 hq
      exact ⟨b.idx_lt h, k⟩
    · rintro ⟨hi, hg⟩
      exact ⟨b.at_ i, (hm _).2 ⟨b.at_inside hi, by rw [b.idx_at hi]; exact hg⟩, b.idx_at hi⟩
  have h4 := h3.length_eq
  rw [List.length_map] at h4
  exact h4
/-- Lights that are right at each place are the right ones. -/
theorem lights_eq {f : Fw} {L : List (Int × Int)} (hl : L.length = f.b.size) (h : ∀ q, f.b.inside q → L.getD (f.b.idx q) (0, 0) = ((rFS f q : Int), (rFL f q : Int))) : L = rightL f := by
  refine List.ext_getElem (by rw [hl, rightL_len]) fun i h1 h2 => ?_
  have hi : i < f.b.size := by omega
  have e1 := h (f.b.at_ i) (f.b.at_inside hi)
  rw [← rightL_at f (f.b.at_inside hi), f.b.idx_at hi] at e1
  simpa [List.getD_eq_getElem?_getD, List.getElem?_eq_getElem h1, List.getElem?_eq_getElem h2] using e1
/-- Is the light at an index another one than it was? -/
def difB (L0 L1 : List (Int × Int)) (i : Nat) : Bool := decide (L1.getD i (0, 0) ≠ L0.getD i (0, 0))
theorem chg_dif {f : Fw} {q : Pl} (hq : f.b.inside q) : chg f (rFS f) (rFL f) q = difB f.lights (rightL f) (f.b.idx q) := by
  unfold chg difB lightAt
  rw [if_pos hq, rightL_at f hq]
  exact decide_eq_decide.2 ⟨fun h e => h e.symm, fun h e => h e.symm⟩
end Go.Proofs.Ytlhjjmfbifhgfaa
/- The lights of the chapter's examples: plain laws. -/
namespace Go.Proofs.Ytlhjjmfbifhgfaa
set_option linter.unusedSimpArgs false
set_option linter.unusedVariables false
open Go.RowKit

/-- Values that are each what comes of its sides are the rounds' end. -/
theorem fix_round {b : Bx} (ok : b.Ok) {clr : Nat → Bool} {own G : Nat → Nat} (ho : ∀ i, own i ≤ 15) (hG : ∀ i, i < b.size → G i ≤ 15 ∧ G i = nextN b clr own G i) {i : Nat} (hi : i < b.size) : roundN b clr own 15 i = G i := by
  have hs : ∀ p, spread b G p = spread b (nextN b clr own G) p := fun p => by
    unfold spread
    split
    · exact (hG _ (b.idx_lt ‹_›)).2
    · rfl
  have hL : Lights sidesP (clearAt b clr) (spread b own) (spread b G) := ⟨fun p => by
      unfold spread
      split
      · exact (hG _ (b.idx_lt ‹_›)).1
      · omega, fun p v hv => by
      rw [show (v ≤ spread b G p) = (v ≤ spread b (nextN b clr own G) p) from by rw [hs p]]
      exact next_iff ok hv⟩
  have h := congrFun ((rounds_lights ok ho).unique hL) (b.at_ i)
  unfold spread at h
  rw [if_pos (b.at_inside hi), if_pos (b.at_inside hi), b.idx_at hi] at h
  exact h
/-! ### the example's box -/
def oB : Bx := madeB (0, 48, 0) 6 15 6
theorem oB_ok : oB.Ok := madeB_ok _ _ _ _
theorem oB_x : oB.X = 7 := by decide
theorem oB_y : oB.Y = 16 := by decide
theorem oB_z : oB.Z = 7 := by decide
theorem oB_lo : oB.lo = (0, 48, 0) := by decide
theorem oB_size : oB.size = 784 := by decide
/-- Soil below, the first so many cells. -/
def soilC (m i : Nat) : Int × Int := if i < m then (3, 0) else (0, 0)
def soilL (m : Nat) : List (Int × Int) := (List.range 784).map (soilC m)
theorem soil_len (m : Nat) : (soilL m).length = 784 := by simp [soilL]
theorem soil_get (m i : Nat) (hm : m ≤ 784) : (soilL m).getD i (0, 0) = soilC m i := by
  unfold soilL
  rw [List.getD_eq_getElem?_getD, List.getElem?_map]
  by_cases h : i < 784
  · rw [List.getElem?_range h]; rfl
  · rw [List.getElem?_eq_none (by simp; omega)]
    unfold soilC
    rw [if_neg (by omega)]
    rfl
theorem soil_step (m : Nat) (hm : m < 784) : (soilL m).set m (3, 0) = soilL (m + 1) := by
  refine List.ext_getElem? fun i => ?_
  rw [List.getElem?_set, soil_len]
  unfold soilL
  rw [List.getElem?_map, List.getElem?_map]
  by_cases h : i < 784
  · rw [List.getElem?_range h]
    by_cases e : m = i
    · subst e
      rw [if_pos rfl, if_pos h]
      simp [soilC]
    · rw [if_neg e]
      simp only [Option.map_some, soilC]
      by_cases h2 : i < m
      · rw [if_pos h2, if_pos (by omega)]
      · rw [if_neg h2, if_neg (by omega)]
  · rw [if_neg (by omega), List.getElem?_eq_none (by simp; omega)]
    rfl
theorem soil_in (m : Nat) : ∀ c ∈ soilL m, InU c.1 ∧ InU c.2 := by
  intro c hc
  obtain ⟨i, _, rfl⟩ := List.mem_map.1 hc
  unfold soilC InU
  split <;> simp
theorem soil_zero : tileL [] 784 = soilL 0 := by
  unfold tileL soilL
  refine List.map_congr_left fun i _ => ?_
  simp [tileC, soilC]
/-- The world of an example, ahead of its change. -/
def oFb : Fw := { b := oB, cells := soilL 441, lights := [], asked := [], told := [] }
def oF0 : Fw := { oFb with lights := rightL oFb }
theorem oFb_b : oFb.b = oB := by unfold oFb; with_reducible rfl
theorem oF0_b : oF0.b = oB := by unfold oF0; exact oFb_b
theorem oFb_cells : oFb.cells = soilL 441 := by unfold oFb; with_reducible rfl
theorem oF0_cells : oF0.cells = soilL 441 := by unfold oF0; dsimp only; rw [oFb_cells]
theorem oF0_right : oF0.lights = rightL oF0 := by
  have h : oF0.lights = rightL oFb := by unfold oF0; with_reducible rfl
  rw [h]
  exact rightL_congr (f := oFb) (h := oF0) (by rw [oF0_b, oFb_b]) (by rw [oF0_cells, oFb_cells])
theorem oF0_ok : oF0.Ok := by
  have h1 : ∀ c ∈ oF0.cells, InU c.1 ∧ InU c.2 := by rw [oF0_cells]; exact soil_in 441
  have h2 : oF0.b.Ok := by rw [oF0_b]; exact oB_ok
  exact ⟨h2, by rw [oF0_cells, soil_len, oF0_b, oB_size], by rw [oF0_right, rightL_len], h1, by rw [oF0_right]; exact rightL_in oF0 h2 h1⟩
def clrO (i : Nat) (cb : Bool) (j : Nat) : Bool := if j = i then cb else decide (441 ≤ j)
def lampO (i lv j : Nat) : Nat := if j = i then lv else 0
theorem put_get {i : Nat} (hi : i < 784) (c : Int × Int) (j : Nat) : (oF0.put i c).cells.getD j (0, 0) = if j = i then c else soilC 441 j := by
  unfold Fw.put
  simp only
  rw [oF0_cells]
  rw [List.getD_eq_getElem?_getD, List.getElem?_set, soil_len]
  by_cases e : i = j
  · subst e; rw [if_pos rfl, if_pos hi, if_pos rfl]; rfl
  · rw [if_neg e, if_neg (fun h => e h.symm), ← List.getD_eq_getElem?_getD, soil_get _ _ (by decide)]
theorem clr_soil : clearC 3 0 = false := by decide +kernel
theorem clr_air : clearC 0 0 = true := by decide +kernel
theorem lamp_soil : (lampC 3 0).toNat = 0 := by decide +kernel
theorem lamp_air : (lampC 0 0).toNat = 0 := by decide +kernel
theorem put_clr {i : Nat} (hi : i < 784) (c : Int × Int) : clrL (oF0.put i c).cells = clrO i (clearC c.1 c.2) := by
  funext j
  unfold clrL clrO
  rw [put_get hi]
  by_cases e : j = i
  · rw [if_pos e, if_pos e]
  · rw [if_neg e, if_neg e]
    unfold soilC
    by_cases h : j < 441
    · rw [if_pos h]
      show clearC 3 0 = _
      rw [clr_soil, decide_eq_false (by omega)]
    · rw [if_neg h]
      show clearC 0 0 = _
      rw [clr_air, decide_eq_true (by omega)]
theorem put_lamp {i : Nat} (hi : i < 784) (c : Int × Int) : lampL (oF0.put i c).cells = lampO i (lampC c.1 c.2).toNat := by
  funext j
  unfold lampL lampO
  rw [put_get hi]
  by_cases e : j = i
  · rw [if_pos e, if_pos e]
  · rw [if_neg e, if_neg e]
    unfold soilC
    split
    · exact lamp_soil
    · exact lamp_air
/-- Are these the lights: a check, cell by cell. -/
def chkO (clr : Nat → Bool) (own G : Nat → Nat) : Bool := (List.range 784).all fun j => Nat.ble (G j) 15 && Nat.beq (G j) (nextN oB clr own G j)
theorem chk_round {clr : Nat → Bool} {own G : Nat → Nat} (ho : ∀ i, own i ≤ 15) (h : chkO clr own G = true) {j : Nat} (hj : j < 784) : roundN oB clr own 15 j = G j := by
  refine fix_round oB_ok ho (fun i hi => ?_) (by rw [oB_size]; exact hj)
  rw [oB_size] at hi
  have := List.all_eq_true.1 h i (List.mem_range.2 hi)
  simp only [Bool.and_eq_true, Nat.ble_eq, Nat.beq_eq] at this
  exact this
theorem over_right {i : Nat} (hi : i < 784) (c : Int × Int) (hc : InU c.1 ∧ InU c.2) {GS GL : Nat → Nat} (hS : chkO (clrO i (clearC c.1 c.2)) (srcN oB (clrO i (clearC c.1 c.2))) GS = true) (hL : chkO (clrO i (clearC c.1 c.2)) (lampO i (lampC c.1 c.2).toNat) GL = true) {j : Nat} (hj : j < 784) :
    (rightL (oF0.put i c)).getD j (0, 0) = ((GS j : Int), (GL j : Int)) := by
  have hin := (put_ok oF0_ok i hc).cin
  have hb : (oF0.put i c).b = oB := by unfold Fw.put; exact oF0_b
  have hlo : ¬ (oF0.put i c).b.lo.2.1 + ((oF0.put i c).b.Y : Int) < 64 := by rw [hb, oB_lo, oB_y]; decide
  unfold rightL
  rw [if_neg hlo, hb, lightsL_get (by rw [oB_size]; exact hj), put_clr hi, put_lamp hi]
  rw [chk_round (src_le oB _) hS hj, chk_round (by have := lampL_le (oF0.put i c).cells hin; rw [put_lamp hi] at this; exact this) hL hj]
theorem put_same_g (f : Fw) (i : Nat) (c : Int × Int) (h : f.cells.set i c = f.cells) : f.put i c = f := by unfold Fw.put; rw [h]
/-- A cell put as it was. -/
theorem put_same (i : Nat) (hi : i < 784) : oF0.put i (soilC 441 i) = oF0 := by
  refine put_same_g oF0 i _ ?_
  rw [oF0_cells]
  refine List.ext_getElem? fun j => ?_
  rw [List.getElem?_set, soil_len]
  by_cases e : i = j
  · subst e
    rw [if_pos rfl, if_pos hi]
    unfold soilL
    rw [List.getElem?_map, List.getElem?_range hi]
    rfl
  · rw [if_neg e]
def airS (j : Nat) : Nat := if Nat.blt j 441 then 0 else 15
def noL (_ : Nat) : Nat := 0
theorem base_right {j : Nat} (hj : j < 784) : (rightL oF0).getD j (0, 0) = ((airS j : Int), (0 : Int)) := by
  have h := over_right (i := 612) (by decide) (soilC 441 612) (by unfold soilC InU; decide) (GS := airS) (GL := noL) (by decide +kernel) (by decide +kernel) hj
  rw [put_same 612 (by decide)] at h
  exact h
/-- How many lights a change sets, and a light of the column. -/
def ovN (y : Nat) (c : Int × Int) : Nat := cntN (difB (rightL oF0) (rightL (oF0.put (49 * y + 24) c))) 784
def ovL (y : Nat) (c : Int × Int) (k : Nat) : Int × Int := (rightL (oF0.put (49 * y + 24) c)).getD (49 * k + 24) (0, 0)
theorem cnt_of {g h : Nat → Bool} {n : Nat} (e : ∀ i, i < n → g i = h i) : cntN g n = cntN h n := by
  unfold cntN
  rw [List.filter_congr fun i hi => e i (List.mem_range.1 hi)]
theorem ov_both {y : Nat} (hy : 49 * y + 24 < 784) (c : Int × Int) (hc : InU c.1 ∧ InU c.2) {GS GL : Nat → Nat} (hS : chkO (clrO (49 * y + 24) (clearC c.1 c.2)) (srcN oB (clrO (49 * y + 24) (clearC c.1 c.2))) GS = true) (hL : chkO (clrO (49 * y + 24) (clearC c.1 c.2)) (lampO (49 * y + 24) (lampC c.1 c.2).toNat) GL = true) :
    ovN y c = cntN (fun j => !(Nat.beq (GS j) (airS j) && Nat.beq (GL j) 0)) 784 ∧ ∀ k, k < 16 → ovL y c k = ((GS (49 * k + 24) : Int), (GL (49 * k + 24) : Int)) := by
  refine ⟨?_, fun k hk => over_right hy c hc hS hL (by omega)⟩
  refine cnt_of fun j hj => ?_
  unfold difB
  rw [over_right hy c hc hS hL hj, base_right hj]
  by_cases h1 : GS j = airS j
  · by_cases h2 : GL j = 0
    · simp [h1, h2]
    · have : Nat.beq (GL j) 0 = false := by
        cases hb : Nat.beq (GL j) 0 with
        | false => rfl
        | true => exact absurd (Nat.eq_of_beq_eq_true hb) h2
      rw [this, decide_eq_true (by
        intro e
        simp only [Prod.mk.injEq] at e
        omega)]
      simp
  · have : Nat.beq (GS j) (airS j) = false := by
      cases hb : Nat.beq (GS j) (airS j) with
      | false => rfl
      | true => exact absurd (Nat.eq_of_beq_eq_true hb) h1
    rw [this, decide_eq_true (by
      intro e
      simp only [Prod.mk.injEq] at e
      omega)]
    rfl
/-! ### the examples -/
def torchL (j : Nat) : Nat := if Nat.beq j 612 then 2 else if Nat.beq j 611 || Nat.beq j 613 || Nat.beq j 605 || Nat.beq j 619 || Nat.beq j 563 || Nat.beq j 661 then 1 else 0
def emberL (j : Nat) : Nat := if Nat.beq j 612 then 1 else 0
def underS (i j : Nat) : Nat := if Nat.blt j 441 then 0 else if Nat.beq j i then 0 else if Nat.beq (j % 49) 24 && Nat.blt j i then 14 else 15
def holeS (j : Nat) : Nat := if Nat.blt j 441 && !(Nat.beq j 416) then 0 else 15
theorem inU_lit {a b : Int} (h : (0 ≤ a ∧ a ≤ 255) ∧ 0 ≤ b ∧ b ≤ 255) : InU a ∧ InU b := by unfold InU; omega
theorem ex_torch : ovN 12 (11, 2) = 7 ∧ ovL 12 (11, 2) 12 = (15, 2) ∧ ovL 12 (11, 2) 13 = (15, 1) := by
  obtain ⟨h1, h2⟩ := ov_both (y := 12) (by decide) (11, 2) (inU_lit (by decide)) (GS := airS) (GL := torchL) (by decide +kernel) (by decide +kernel)
  refine ⟨by rw [h1]; decide +kernel, by rw [h2 12 (by decide)]; decide +kernel, by rw [h2 13 (by decide)]; decide +kernel⟩
theorem ex_stone : ovN 12 (2, 0) = 4 ∧ ovL 12 (2, 0) 12 = (0, 0) ∧ ovL 12 (2, 0) 11 = (14, 0) ∧ ovL 12 (2, 0) 9 = (14, 0) := by
  obtain ⟨h1, h2⟩ := ov_both (y := 12) (by decide) (2, 0) (inU_lit (by decide)) (GS := underS 612) (GL := noL) (by decide +kernel) (by decide +kernel)
  refine ⟨by rw [h1]; decide +kernel, by rw [h2 12 (by decide)]; decide +kernel, by rw [h2 11 (by decide)]; decide +kernel, by rw [h2 9 (by decide)]; decide +kernel⟩
theorem ex_ember : ovN 12 (11, 1) = 1 ∧ ovL 12 (11, 1) 12 = (15, 1) := by
  obtain ⟨h1, h2⟩ := ov_both (y := 12) (by decide) (11, 1) (inU_lit (by decide)) (GS := airS) (GL := emberL) (by decide +kernel) (by decide +kernel)
  refine ⟨by rw [h1]; decide +kernel, by rw [h2 12 (by decide)]; decide +kernel⟩
theorem ex_glass : ovN 12 (9, 0) = 0 := by
  obtain ⟨h1, h2⟩ := ov_both (y := 12) (by decide) (9, 0) (inU_lit (by decide)) (GS := airS) (GL := noL) (by decide +kernel) (by decide +kernel)
  rw [h1]; decide +kernel
theorem ex_stone13 : ovN 13 (2, 0) = 5 := by
  obtain ⟨h1, h2⟩ := ov_both (y := 13) (by decide) (2, 0) (inU_lit (by decide)) (GS := underS 661) (GL := noL) (by decide +kernel) (by decide +kernel)
  rw [h1]; decide +kernel
theorem ex_hole : ovN 8 (0, 0) = 1 ∧ ovL 8 (0, 0) 8 = (15, 0) := by
  obtain ⟨h1, h2⟩ := ov_both (y := 8) (by decide) (0, 0) (inU_lit (by decide)) (GS := holeS) (GL := noL) (by decide +kernel) (by decide +kernel)
  refine ⟨by rw [h1]; decide +kernel, by rw [h2 8 (by decide)]; decide +kernel⟩
theorem ex_deep : ovN 3 (2, 0) = 0 := by
  obtain ⟨h1, h2⟩ := ov_both (y := 3) (by decide) (2, 0) (inU_lit (by decide)) (GS := airS) (GL := noL) (by decide +kernel) (by decide +kernel)
  rw [h1]; decide +kernel
end Go.Proofs.Ytlhjjmfbifhgfaa
/- The check of one edit: nothing far is asked: the walk of its last loop. (Printed by genkept.py.) -/
namespace Go.Proofs.Ytlhjjmfbifhgfaa
set_option linter.unusedSimpArgs false
set_option linter.unusedVariables false
open Go.RowKit
set_option maxRecDepth 1000000

set_option maxHeartbeats 16000000 in
theorem kept_near (W : World) (base g k1 k2 b7 : Nat) (f : Fw) (cv lv av tv : Value) (h : FieldAt W base g f cv lv av tv) (ok : f.b.Ok) (p : Pl) (hp : Sm p) (hb7 : Blk W b7 23 (plC p)) (l1 l2 : Nat → Bool) (h1 : BBlk W k1 f.b.size l1) (h2 : BBlk W k2 f.b.size l2) (hA : ∀ x ∈ f.asked, Sm x ∧ nearB f.b x p l1 l2 = true)
    (u1 u2 u3 u4 u5 u8 u9 u10 u11 u12 u14 u15 u16 u17 u18 u19 u20 u21 u22 u23 u24 u25 u26 u27 u28 u29 u30 u31 u32 u33 u34 u35 u36 u37 u38 u39 u40 u41 u42 u43 u44 u45 u46 u47 u48 u49 u50 u51 u52 u53 u54 u55 u56 u57 u58 u59 u60 u61 u62 u63 u64 u65 u66 u67 u68 u69 u70 u71 u72 u73 u74 u75 u76 u77 u78 u79 u80 u81 u82 u83 u84 u85 u86 u87 u88 u89 u90 u91 u92 u93 u94 u95 u96 u97 u98 u99 u100 u101 u102 u103 u104 u105 u106 u107 u108 u109 u110 u111 u112 u113 u114 u115 u116 u117 u118 u119 u120 u121 u122 u123 u124 u125 u126 u127 u128 u129 u130 u131 u132 u133 u134 u135 u136 u137 u138 u139 u140 u141 u142 u143 u144 u145 u146 u147 u148 u149 u150 u151 u152 u153 u154 u155 u156 u157 u158 u159 u160 u161 u162 u163 u164 u165 u166 u167 u168 u169 u170 u171 u172 u173 u174 u175 u176 : Value) (R : Ending → World → Prop) (hR : ∀ w', Below W.heap.size W w' → R (.returned (.bool true)) w') :
    Code.wp Try.prog (gnav (Try.f8.body.getD .skip) [true, true, true, true, true, true, true, true, true, true, true, true]) (bodyPost Try.prog Try.f8 R) { tmps := #[.pointer (some ⟨g, 0, none⟩), u1, u2, u3, u4, u5, .slice (some ⟨k1, 0, none⟩) f.b.size f.b.size, .pointer (some ⟨b7, 0, none⟩), u8, u9, u10, u11, u12, .slice (some ⟨k2, 0, none⟩) f.b.size f.b.size, u14, u15, u16, u17, u18, u19, u20, u21, u22, u23, u24, u25, u26, u27, u28, u29, u30, u31, u32, u33, u34, u35, u36, u37, u38, u39, u40, u41, u42, u43, u44, u45, u46, u47, u48, u49, u50, u51, u52, u53, u54, u55, u56, u57, u58, u59, u60, u61, u62, u63, u64, u65, u66, u67, u68, u69, u70, u71, u72, u73, u74, u75, u76, u77, u78, u79, u80, u81, u82, u83, u84, u85, u86, u87, u88, u89, u90, u91, u92, u93, u94, u95, u96, u97, u98, u99, u100, u101, u102, u103, u104, u105, u106, u107, u108, u109, u110, u111, u112, u113, u114, u115, u116, u117, u118, u119, u120, u121, u122, u123, u124, u125, u126, u127, u128, u129, u130, u131, u132, u133, u134, u135, u136, u137, u138, u139, u140, u141, u142, u143, u144, u145, u146, u147, u148, u149, u150, u151, u152, u153, u154, u155, u156, u157, u158, u159, u160, u161, u162, u163, u164, u165, u166, u167, u168, u169, u170, u171, u172, u173, u174, u175, u176], defers := [] } W := by
  have HR := Lib.hid hR
  have HF := Lib.hid h
  have HA := Lib.hid hA
  have HB7 := Lib.hid hb7
  have H1 := Lib.hid h1
  have H2 := Lib.hid h2
  have HN := Lib.hid (fun (w : World) (hb : Below W.heap.size W w) x (hx : Sm x) => near_any w g f cv lv av tv (HF.out.blk.below hb HF.out.blk.lt) ok x p hx hp k1 k2 l1 l2 (H1.out.below hb) (H2.out.below hb))
  obtain ⟨_, ao, cap, rfl, hcap, hmax⟩ := own_rat (d := ((0, 0, 0) : Pl)) plE_len h.asked
  obtain ⟨n, hn⟩ : ∃ n, n = f.asked.length := ⟨_, rfl⟩
  have HNL := Lib.hid hn
  have HMX := Lib.hid (show n ≤ 9223372036854775807 from by unfold maxLen at hmax; rw [hn]; omega)
  have hcap2 : n ≤ cap := by rw [hn]; exact hcap
  have h8 : W.cell? ⟨g, 8, none⟩ = some (.slice ao n cap) := by rw [hn]; exact h.blk.cell 8
  have HGL := Lib.hid h.blk.lt
  obtain ⟨p1, p2, p3⟩ := p
  obtain ⟨c0, c1, c2⟩ := three_of hb7
  have HC := Lib.hid (And.intro h8 (And.intro c0 (And.intro c1 c2)))
  obtain ⟨sz, hsz⟩ : ∃ sz, sz = f.b.size := ⟨_, rfl⟩
  rw [← hsz] at HN ⊢
  clear hR h hA hb7 h1 h2 hcap hn h8 c0 c1 c2 hp hsz hmax
  refine (show Code.wp Try.prog (Code.seq (Code.seq (Code.region 24 _ false) _) _) _ _ _ from ?_)
  go_wp2
  go_loopw [17] (fun s wr => ∃ m : Nat, m ≤ n ∧ s = .int .i64 m ∧ Below W.heap.size W wr) (fun s _ => n - (intOf s).toNat)
  case atStart => exact ⟨0, Nat.zero_le _, rfl, Below.refl _ _⟩
  case round =>
    obtain ⟨m, hm, rfl, hb⟩ := hrel
    have HB := Lib.hid hb
    have h8 : wr.cell? ⟨g, 8, none⟩ = some (.slice ao n cap) := (hb.cell HGL.out).trans HC.out.1
    by_cases hmt : m < n
    · have hmI : (m : Int) < (n : Int) := by omega
      have hm0 : (0 : Int) ≤ (m : Int) := by omega
      have hw1 : IntKind.i64.wrap ((m : Int) + 1) = (m : Int) + 1 := IntWalk.i64_in _ (by have := HMX.out; omega)
      have hml : m < f.asked.length := by rw [← HNL.out]; exact hmt
      have hrow := own_below (HF.out.asked) (hb)
      rw [← HNL.out] at hrow
      obtain ⟨ga, hao, -, hgl⟩ := own_form hrow (by omega)
      subst hao
      rw [HNL.out] at hrow
      have hat := own_at plE_len ((0, 0, 0) : Pl) hrow hml
      obtain ⟨⟨x1, x2, x3⟩, hx⟩ : ∃ x, x = f.asked.getD m (0, 0, 0) := ⟨_, rfl⟩
      have hxm : (x1, x2, x3) ∈ f.asked := by
        rw [hx, List.getD_eq_getElem?_getD, List.getElem?_eq_getElem hml]
        exact List.getElem_mem hml
      obtain ⟨hs, hnr⟩ := HA.out _ hxm
      rw [← hx] at hat
      have a0 : wr.cell? ⟨ga, m * 3, none⟩ = some (.int .i64 x1) := hat 0 (by decide)
      have a1 : wr.cell? ⟨ga, m * 3 + 1, none⟩ = some (.int .i64 x2) := hat 1 (by decide)
      have a2 : wr.cell? ⟨ga, m * 3 + 2, none⟩ = some (.int .i64 x3) := hat 2 (by decide)
      have c0 : wr.cell? ⟨b7, 0, none⟩ = some (.int .i64 p1) := (hb.cell HB7.out.lt).trans HC.out.2.1
      have c1 : wr.cell? ⟨b7, 1, none⟩ = some (.int .i64 p2) := (hb.cell HB7.out.lt).trans HC.out.2.2.1
      have c2 : wr.cell? ⟨b7, 2, none⟩ = some (.int .i64 p3) := (hb.cell HB7.out.lt).trans HC.out.2.2.2
      have HNM := Lib.hid (fun q : InB wr => HN.out q.w' (hb.trans (q.h.mono hb.size)) (x1, x2, x3) hs)
      rw [hnr] at HNM
      unfold plV plC at HNM
      simp only at HNM
      have hb7l := Nat.lt_of_lt_of_le HB7.out.lt hb.size
      have hgg := Nat.lt_of_lt_of_le HGL.out hb.size
      have a0' : ∀ q : InB wr, q.w'.cell? ⟨ga, m * 3, none⟩ = some (.int .i64 x1) := fun q => q.cell a0 hgl
      have a1' : ∀ q : InB wr, q.w'.cell? ⟨ga, m * 3 + 1, none⟩ = some (.int .i64 x2) := fun q => q.cell a1 hgl
      have a2' : ∀ q : InB wr, q.w'.cell? ⟨ga, m * 3 + 2, none⟩ = some (.int .i64 x3) := fun q => q.cell a2 hgl
      have c0' : ∀ q : InB wr, q.w'.cell? ⟨b7, 0, none⟩ = some (.int .i64 p1) := fun q => q.cell c0 hb7l
      have c1' : ∀ q : InB wr, q.w'.cell? ⟨b7, 1, none⟩ = some (.int .i64 p2) := fun q => q.cell c1 hb7l
      have c2' : ∀ q : InB wr, q.w'.cell? ⟨b7, 2, none⟩ = some (.int .i64 p3) := fun q => q.cell c2 hb7l
      have h8' : ∀ q : InB wr, q.w'.cell? ⟨g, 8, none⟩ = some (.slice (some ⟨ga, 0, none⟩) n cap) := fun q => q.cell h8 hgg
      clear hb hrow hat hx hxm hs hnr a0 a1 a2 c0 c1 c2 hb7l hgg hgl hml
      go_wp2
      refine wp_region_quiet_below (by kernel_rfl) (by kernel_rfl) ?_
      repeat (go_big_quiet_step ((first | (go_at_call 20; exact calls_below (HNM.out _)))))
      refine wpQuiet_nil ?_
      intro _ hw'
      obtain ⟨⟨wq, hbq⟩, hw''⟩ := hw'
      subst hw''
      have HBQ := Lib.hid (HB.out.trans (hbq.mono HB.out.size))
      clear a0' a1' a2' c0' c1' c2' h8' h8 hbq
      go_wp2
      go_roundw
      case rel => exact ⟨m + 1, by omega, by go_num, HBQ.out⟩
      case measure => (simp [intOf] <;> omega)
    · have hmn : m = n := by omega
      subst hmn
      clear hb
      go_wp2

      exact HR.out _ HB.out
end Go.Proofs.Ytlhjjmfbifhgfaa
/- The check of one edit: what is told is another light, once and in order: the walk of its third loop. (Printed by genkept.py.) -/
namespace Go.Proofs.Ytlhjjmfbifhgfaa
set_option linter.unusedSimpArgs false
set_option linter.unusedVariables false
open Go.RowKit
set_option maxRecDepth 1000000

theorem eql_light (a b c d : Int) (ha : 0 ≤ a ∧ a ≤ 255) (hb : 0 ≤ b ∧ b ≤ 255) (hc : 0 ≤ c ∧ c ≤ 255) (hd : 0 ≤ d ∧ d ≤ 255) (w : World) :
    (binOp .eql 43 (.agg #[.int .u8 a, .int .u8 b]) (.agg #[.int .u8 c, .int .u8 d])).run Try.prog w = .ok (.bool (decide ((c, d) = (a, b)))) w := by
  simp only [binOp]
  rw [show Op.equal 43 (Value.agg #[.int .u8 a, .int .u8 b]) (.agg #[.int .u8 c, .int .u8 d]) = Op.equalIn 10000 43 (.agg #[.int .u8 a, .int .u8 b]) (.agg #[.int .u8 c, .int .u8 d]) from rfl]
  simp [equal_light a b c d ha hb hc hd w, Result.andThen]
theorem getD_lin {L : List (Int × Int)} (h : ∀ c ∈ L, (0 ≤ c.1 ∧ c.1 ≤ 15) ∧ (0 ≤ c.2 ∧ c.2 ≤ 15)) (i : Nat) : (0 ≤ (L.getD i (0, 0)).1 ∧ (L.getD i (0, 0)).1 ≤ 255) ∧ (0 ≤ (L.getD i (0, 0)).2 ∧ (L.getD i (0, 0)).2 ≤ 255) := by
  rw [List.getD_eq_getElem?_getD]
  cases hi : L[i]? with
  | none => simp
  | some c =>
    have := h c (List.mem_of_getElem? hi)
    simp only [Option.getD_some]
    omega
set_option maxHeartbeats 16000000 in
theorem kept_told (W : World) (base bw g k1 k2 b7 : Nat) (f : Fw) (cv lv av tv wv rv : Value) (h : FieldAt W base g f cv lv av tv) (ok : f.b.Ok) (L0 L1 : List (Int × Int)) (hw : LRow W bw wv L0) (hr : LRow W bw rv L1) (h0l : L0.length = f.b.size) (h1l : L1.length = f.b.size)
    (h0i : ∀ c ∈ L0, (0 ≤ c.1 ∧ c.1 ≤ 15) ∧ (0 ≤ c.2 ∧ c.2 ≤ 15)) (h1i : ∀ c ∈ L1, (0 ≤ c.1 ∧ c.1 ≤ 15) ∧ (0 ≤ c.2 ∧ c.2 ≤ 15)) (hasc : Asc f.told) (hT : ∀ q ∈ f.told, f.b.inside q ∧ difB L0 L1 (f.b.idx q) = true)
    (p : Pl) (hp : Sm p) (hb7 : Blk W b7 23 (plC p)) (l1 l2 : Nat → Bool) (h1 : BBlk W k1 f.b.size l1) (h2 : BBlk W k2 f.b.size l2) (hA : ∀ x ∈ f.asked, Sm x ∧ nearB f.b x p l1 l2 = true)
    (u1 u2 u3 u4 u8 u10 u11 u12 u14 u15 u16 u17 u18 u19 u20 u21 u22 u23 u24 u25 u26 u27 u28 u29 u30 u31 u32 u33 u34 u35 u36 u37 u38 u39 u40 u41 u42 u43 u44 u45 u46 u47 u48 u49 u50 u51 u52 u53 u54 u55 u56 u57 u58 u59 u60 u61 u62 u63 u64 u65 u66 u67 u68 u69 u70 u71 u72 u73 u74 u75 u76 u77 u78 u79 u80 u81 u82 u83 u84 u85 u86 u87 u88 u89 u90 u91 u92 u93 u94 u95 u96 u97 u98 u99 u100 u101 u102 u103 u104 u105 u106 u107 u108 u109 u110 u111 u112 u113 u114 u115 u116 u117 u118 u119 u120 u121 u122 u123 u124 u125 u126 u127 u128 u129 u130 u131 u132 u133 u134 u135 u136 u137 u138 u139 u140 u141 u142 u143 u144 u145 u146 u147 u148 u149 u150 u151 u152 u153 u154 u155 u156 u157 u158 u159 u160 u161 u162 u163 u164 u165 u166 u167 u168 u169 u170 u171 u172 u173 u174 u175 u176 : Value) (R : Ending → World → Prop) (hR : ∀ w', Below W.heap.size W w' → R (.returned (.bool true)) w') :
    Code.wp Try.prog (gnav (Try.f8.body.getD .skip) [true, true, true, true, true, true, true, true, true, true, true]) (bodyPost Try.prog Try.f8 R) { tmps := #[.pointer (some ⟨g, 0, none⟩), u1, u2, u3, u4, wv, .slice (some ⟨k1, 0, none⟩) f.b.size f.b.size, .pointer (some ⟨b7, 0, none⟩), u8, rv, u10, u11, u12, .slice (some ⟨k2, 0, none⟩) f.b.size f.b.size, u14, u15, u16, u17, u18, u19, u20, u21, u22, u23, u24, u25, u26, u27, u28, u29, u30, u31, u32, u33, u34, u35, u36, u37, u38, u39, u40, u41, u42, u43, u44, u45, u46, u47, u48, u49, u50, u51, u52, u53, u54, u55, u56, u57, u58, u59, u60, u61, u62, u63, u64, u65, u66, u67, u68, u69, u70, u71, u72, u73, u74, u75, u76, u77, u78, u79, u80, u81, u82, u83, u84, u85, u86, u87, u88, u89, u90, u91, u92, u93, u94, u95, u96, u97, u98, u99, u100, u101, u102, u103, u104, u105, u106, u107, u108, u109, u110, u111, u112, u113, u114, u115, u116, u117, u118, u119, u120, u121, u122, u123, u124, u125, u126, u127, u128, u129, u130, u131, u132, u133, u134, u135, u136, u137, u138, u139, u140, u141, u142, u143, u144, u145, u146, u147, u148, u149, u150, u151, u152, u153, u154, u155, u156, u157, u158, u159, u160, u161, u162, u163, u164, u165, u166, u167, u168, u169, u170, u171, u172, u173, u174, u175, u176], defers := [] } W := by
  have HR := Lib.hid hR
  have HF := Lib.hid h
  have HW := Lib.hid (And.intro hw (And.intro h0l h0i))
  have HRI := Lib.hid (And.intro hr (And.intro h1l h1i))
  have HASC := Lib.hid hasc
  have HT := Lib.hid hT
  have HNEXT := Lib.hid (fun (w : World) (hb : Below W.heap.size W w) => kept_near w base g k1 k2 b7 f cv lv av tv (h.under hb) ok p hp (hb7.below hb hb7.lt) l1 l2 (h1.below hb) (h2.below hb) hA)
  have HIX := Lib.hid (fun (w : World) (hb : Below W.heap.size W w) q (hq : f.b.inside q) => windex_any w g f cv lv av tv (h.blk.below hb h.blk.lt) ok q (Bx.inside_may ok hq))
  obtain ⟨_, aot, capt, rfl, hcap, _⟩ := own_rat (d := ((0, 0, 0) : Pl)) plE_len h.told
  obtain ⟨_, aow, capw, rfl, hcapw, _⟩ := own_rat (d := ((0, 0) : Int × Int)) clE_len hw
  obtain ⟨_, aor, capr, rfl, hcapr, _⟩ := own_rat (d := ((0, 0) : Int × Int)) clE_len hr
  obtain ⟨n, hn⟩ : ∃ n, n = f.told.length := ⟨_, rfl⟩
  have HNL := Lib.hid hn
  have HLEN := Lib.hid (show n ≤ 1024 from by rw [hn]; exact nodup_box ok (asc_nodup hasc) (fun q hq => (hT q hq).1))
  have hcap2 : n ≤ capt := by rw [hn]; exact hcap
  have h9 : W.cell? ⟨g, 9, none⟩ = some (.slice aot n capt) := by rw [hn]; exact h.blk.cell 9
  have H9 := Lib.hid h9
  have HGL := Lib.hid h.blk.lt
  obtain ⟨sz, hsz⟩ : ∃ sz, sz = f.b.size := ⟨_, rfl⟩
  have HSZ := Lib.hid hsz
  have hc0 : sz ≤ capw := by rw [hsz, ← h0l]; exact hcapw
  have hc1 : sz ≤ capr := by rw [hsz, ← h1l]; exact hcapr
  rw [h0l, h1l, ← hsz]
  clear hR h hw hr h0l h1l h0i h1i hasc hT hA hb7 h1 h2 hcap hcapw hcapr hn h9 hp hsz
  refine (show Code.wp Try.prog (Code.seq (gnav (Try.f8.body.getD .skip) [true, true, true, true, true, true, true, true, true, true, true, false]) (gnav (Try.f8.body.getD .skip) [true, true, true, true, true, true, true, true, true, true, true, true])) _ _ _ from wp_seq_k ?_)
  intro K hK
  have HK := Lib.hid hK
  clear hK
  refine (show Code.wp Try.prog (Code.seq (Code.region 18 _ false) _) _ _ _ from ?_)
  go_wp2
  go_loopw [14] (fun s wr => ∃ m : Nat, m ≤ n ∧ s = .int .i64 m ∧ Below W.heap.size W wr) (fun s _ => n - (intOf s).toNat)
  case atStart => exact ⟨0, Nat.zero_le _, rfl, Below.refl _ _⟩
  case round =>
    obtain ⟨m, hm, rfl, hb⟩ := hrel
    have HB := Lib.hid hb
    have h9 : wr.cell? ⟨g, 9, none⟩ = some (.slice aot n capt) := (hb.cell HGL.out).trans H9.out
    by_cases hmt : m < n
    · have hmI : (m : Int) < (n : Int) := by omega
      have hm0 : (0 : Int) ≤ (m : Int) := by omega
      have hw2 : IntKind.i64.wrap ((m : Int) + 1) = (m : Int) + 1 := wrap_small (by omega) (by have := HLEN.out; omega)
      have hml : m < f.told.length := by rw [← HNL.out]; exact hmt
      have hrow : W.ownsRow base 23 3 (.slice aot f.told.length capt) f.told.length (rc plE f.told) := HF.out.told
      rw [← HNL.out] at hrow
      obtain ⟨gt, hao, -, hgl⟩ := own_form hrow (by omega)
      subst hao
      rw [HNL.out] at hrow
      have HROW := Lib.hid (And.intro hrow hgl)
      have hat := own_at plE_len ((0, 0, 0) : Pl) (own_below hrow hb) hml
      obtain ⟨⟨x1, x2, x3⟩, hx⟩ : ∃ x, x = f.told.getD m (0, 0, 0) := ⟨_, rfl⟩
      have HX := Lib.hid hx
      have hxm : (x1, x2, x3) ∈ f.told := by
        rw [hx, List.getD_eq_getElem?_getD, List.getElem?_eq_getElem hml]
        exact List.getElem_mem hml
      obtain ⟨hin, hdf⟩ := HT.out _ hxm
      have HIN := Lib.hid (And.intro hin hdf)
      rw [← hx] at hat
      have a0 : wr.cell? ⟨gt, m * 3, none⟩ = some (.int .i64 x1) := hat 0 (by decide)
      have a1 : wr.cell? ⟨gt, m * 3 + 1, none⟩ = some (.int .i64 x2) := hat 1 (by decide)
      have a2 : wr.cell? ⟨gt, m * 3 + 2, none⟩ = some (.int .i64 x3) := hat 2 (by decide)
      have HIM := Lib.hid (HIX.out wr hb _ hin)
      unfold indexV plV plC at HIM
      rw [if_pos hin] at HIM
      simp only at HIM
      clear hb hrow hat hx hxm hin hdf hgl
      go_wp2_with fail
      go_at_call 16
      refine HIM.out.mono ?_
      rintro e w2 ⟨rfl, hb2⟩
      have HB2 := Lib.hid (HB.out.trans (hb2.mono HB.out.size))
      obtain ⟨ix, hix⟩ : ∃ ix, ix = f.b.idx (x1, x2, x3) := ⟨_, rfl⟩
      have hixl : ix < sz := by rw [hix, HSZ.out]; exact f.b.idx_lt HIN.out.1
      have hixI : (ix : Int) < (sz : Int) := by omega
      have hix0 : (0 : Int) ≤ (ix : Int) := by omega
      have hs2 := HB2.out.size
      have hrow := own_below HROW.out.1 HB2.out
      have hat := own_at plE_len ((0, 0, 0) : Pl) hrow hml
      rw [← HX.out] at hat
      have hgtl : gt < w2.heap.size := Nat.lt_of_lt_of_le HROW.out.2 hs2
      have hgl2 := Nat.lt_of_lt_of_le HGL.out hs2
      have a0 : ∀ q : InB w2, q.w'.cell? ⟨gt, m * 3, none⟩ = some (.int .i64 x1) := fun q => q.cell (hat 0 (by decide)) hgtl
      have a1 : ∀ q : InB w2, q.w'.cell? ⟨gt, m * 3 + 1, none⟩ = some (.int .i64 x2) := fun q => q.cell (hat 1 (by decide)) hgtl
      have a2 : ∀ q : InB w2, q.w'.cell? ⟨gt, m * 3 + 2, none⟩ = some (.int .i64 x3) := fun q => q.cell (hat 2 (by decide)) hgtl
      have a9 : ∀ q : InB w2, q.w'.cell? ⟨g, 9, none⟩ = some (.slice (some ⟨gt, 0, none⟩) n capt) := fun q => q.cell ((HB2.out.cell HGL.out).trans H9.out) hgl2
      have hw2 := own_below HW.out.1 HB2.out
      have hr2 := own_below HRI.out.1 HB2.out
      have hil0 : ix < L0.length := by rw [HW.out.2.1, ← HSZ.out]; exact hixl
      have hil1 : ix < L1.length := by rw [HRI.out.2.1, ← HSZ.out]; exact hixl
      obtain ⟨gw, haw, -, hgw⟩ := own_form hw2 (by omega)
      subst haw
      obtain ⟨gr, har, -, hgr⟩ := own_form hr2 (by omega)
      subst har
      have hat0 := own_at clE_len ((0, 0) : Int × Int) hw2 hil0
      have hat1 := own_at clE_len ((0, 0) : Int × Int) hr2 hil1
      have hi0 := getD_lin HW.out.2.2 ix
      have hi1 := getD_lin HRI.out.2.2 ix
      have hdf := HIN.out.2
      unfold difB at hdf
      rw [← hix] at hdf
      obtain ⟨⟨y1, y2⟩, hy⟩ : ∃ y, y = L0.getD ix (0, 0) := ⟨_, rfl⟩
      obtain ⟨⟨z1, z2⟩, hz⟩ : ∃ z, z = L1.getD ix (0, 0) := ⟨_, rfl⟩
      rw [← hy] at hat0 hi0 hdf
      rw [← hz] at hat1 hi1 hdf
      have hdf2 : (z1, z2) ≠ (y1, y2) := of_decide_eq_true hdf
      have heq : ∀ w, (binOp .eql 43 (.agg #[.int .u8 z1, .int .u8 z2]) (.agg #[.int .u8 y1, .int .u8 y2])).run Try.prog w = .ok (.bool false) w := fun w => by
        rw [eql_light z1 z2 y1 y2 hi1.1 hi1.2 hi0.1 hi0.2 w, decide_eq_false (fun e => hdf2 e.symm)]
      have b0 : ∀ q : InB w2, q.w'.cell? ⟨gw, ix * 2, none⟩ = some (.int .u8 y1) := fun q => q.cell (hat0 0 (by decide)) hgw
      have b1 : ∀ q : InB w2, q.w'.cell? ⟨gw, ix * 2 + 1, none⟩ = some (.int .u8 y2) := fun q => q.cell (hat0 1 (by decide)) hgw
      have d0 : ∀ q : InB w2, q.w'.cell? ⟨gr, ix * 2, none⟩ = some (.int .u8 z1) := fun q => q.cell (hat1 0 (by decide)) hgr
      have d1 : ∀ q : InB w2, q.w'.cell? ⟨gr, ix * 2 + 1, none⟩ = some (.int .u8 z2) := fun q => q.cell (hat1 1 (by decide)) hgr
      rw [← hix]
      clear hat hat0 hat1 hi0 hi1 hdf hdf2 hy hz hw2 hr2 hix hs2 hgtl hgl2 hgw hgr hixl hil0 hil1 hb2 h9
      by_cases hp0 : 0 < m
      · have hpI : (0 : Int) < (m : Int) := by omega
        obtain ⟨j, hj⟩ : ∃ j, j = m - 1 := ⟨_, rfl⟩
        have hw1 : IntKind.i64.wrap ((m : Int) - 1) = (j : Int) := by
          rw [show (m : Int) - 1 = (j : Int) from by omega]
          exact wrap_small (by omega) (by have := HLEN.out; omega)
        have hjl : j < f.told.length := by omega
        have hatj := own_at plE_len ((0, 0, 0) : Pl) hrow hjl
        obtain ⟨⟨t1, t2, t3⟩, ht⟩ : ∃ t, t = f.told.getD j (0, 0, 0) := ⟨_, rfl⟩
        rw [← ht] at hatj
        have hgtl := Nat.lt_of_lt_of_le HROW.out.2 HB2.out.size
        have e0 : ∀ q : InB w2, q.w'.cell? ⟨gt, j * 3, none⟩ = some (.int .i64 t1) := fun q => q.cell (hatj 0 (by decide)) hgtl
        have e1 : ∀ q : InB w2, q.w'.cell? ⟨gt, j * 3 + 1, none⟩ = some (.int .i64 t2) := fun q => q.cell (hatj 1 (by decide)) hgtl
        have e2 : ∀ q : InB w2, q.w'.cell? ⟨gt, j * 3 + 2, none⟩ = some (.int .i64 t3) := fun q => q.cell (hatj 2 (by decide)) hgtl
        have hjI : (j : Int) < (n : Int) := by omega
        have hj0 : (0 : Int) ≤ (j : Int) := by omega
        have hlt : ltS (t1, t2, t3) (x1, x2, x3) := by
          have h1 := List.pairwise_iff_getElem.1 HASC.out j m hjl hml (by omega)
          rw [ht, HX.out, List.getD_eq_getElem?_getD, List.getD_eq_getElem?_getD, List.getElem?_eq_getElem hjl, List.getElem?_eq_getElem hml]
          exact h1
        obtain ⟨cs, hcs⟩ : ∃ cs, cs = cmpS (t1, t2, t3) (x1, x2, x3) := ⟨_, rfl⟩
        have hneg : ¬ (0 : Int) ≤ cs := by have := cmpS_lt.2 hlt; omega
        have HCM := Lib.hid (fun q : InB w2 => qcmp_any q.w' (t1, t2, t3) (x1, x2, x3))
        rw [← hcs] at HCM
        unfold plV plC at HCM
        simp only at HCM
        clear hrow hj hjl hatj ht hgtl hlt hcs hml
        go_wp2
        refine wp_region_quiet_below (by kernel_rfl) (by kernel_rfl) ?_
        repeat (go_big_quiet_step ((first | (go_at_call 19; exact calls_below (HCM.out _)))))
        refine wpQuiet_nil ?_
        intro _ hw'
        obtain ⟨⟨wq, hbq⟩, hw''⟩ := hw'
        subst hw''
        have HBQ := Lib.hid (HB2.out.trans (hbq.mono HB2.out.size))
        clear a0 a1 a2 a9 b0 b1 d0 d1 e0 e1 e2 hbq heq
        go_wp2
        go_roundw
        case rel => exact ⟨m + 1, by omega, by go_num, HBQ.out⟩
        case measure => (simp [intOf] <;> omega)
      · have hpI : ¬ (0 : Int) < (m : Int) := by omega
        clear hrow hml
        go_wp2
        refine wp_region_quiet_below (by kernel_rfl) (by kernel_rfl) ?_
        repeat (go_big_quiet_step (fail))
        refine wpQuiet_nil ?_
        intro _ hw'
        obtain ⟨⟨wq, hbq⟩, hw''⟩ := hw'
        subst hw''
        have HBQ := Lib.hid (HB2.out.trans (hbq.mono HB2.out.size))
        clear a0 a1 a2 a9 b0 b1 d0 d1 hbq heq
        go_wp2
        go_roundw
        case rel => exact ⟨m + 1, by omega, by go_num, HBQ.out⟩
        case measure => (simp [intOf] <;> omega)
    · have hmn : m = n := by omega
      subst hmn
      clear hb
      go_wp2
      refine HK.out _ _ ?_
      rw [HSZ.out]
      exact HNEXT.out _ HB.out _ _ _ _ _ _ _ _ _ _ _ _ _ _ _ _ _ _ _ _ _ _ _ _ _ _ _ _ _ _ _ _ _ _ _ _ _ _ _ _ _ _ _ _ _ _ _ _ _ _ _ _ _ _ _ _ _ _ _ _ _ _ _ _ _ _ _ _ _ _ _ _ _ _ _ _ _ _ _ _ _ _ _ _ _ _ _ _ _ _ _ _ _ _ _ _ _ _ _ _ _ _ _ _ _ _ _ _ _ _ _ _ _ _ _ _ _ _ _ _ _ _ _ _ _ _ _ _ _ _ _ _ _ _ _ _ _ _ _ _ _ _ _ _ _ _ _ _ _ _ _ _ _ _ _ _ _ _ _ _ _ _ _ _ _ _ _ _ _ _ _ _ _ R (fun w' hb => HR.out _ (HB.out.trans (hb.mono HB.out.size)))
end Go.Proofs.Ytlhjjmfbifhgfaa
/- The check of one edit: the lights are right, and as many are told: the walk of its first loop. (Printed by genkept.py.) -/
namespace Go.Proofs.Ytlhjjmfbifhgfaa
set_option linter.unusedSimpArgs false
set_option linter.unusedVariables false
open Go.RowKit
set_option maxRecDepth 1000000

set_option maxHeartbeats 16000000 in
theorem kept_same (W : World) (base bw g k1 b7 : Nat) (f : Fw) (cv lv av tv wv rv : Value) (h : FieldAt W base g f cv lv av tv) (ok : f.Ok) (L0 : List (Int × Int)) (hlr : f.lights = rightL f) (hw : LRow W bw wv L0) (hr : LRow W bw rv f.lights) (h0l : L0.length = f.b.size)
    (h0i : ∀ c ∈ L0, (0 ≤ c.1 ∧ c.1 ≤ 15) ∧ (0 ≤ c.2 ∧ c.2 ≤ 15)) (hasc : Asc f.told) (hT : ∀ q, q ∈ f.told ↔ f.b.inside q ∧ difB L0 f.lights (f.b.idx q) = true) (hbw : bw ≤ W.heap.size)
    (p : Pl) (hp : Sm p) (hb7 : Blk W b7 23 (plC p)) (l1 : Nat → Bool) (h1 : BBlk W k1 f.b.size l1) (hA : ∀ x ∈ f.asked, Sm x ∧ nearB f.b x p l1 (isSrc f.b f.cells) = true)
    (u1 u2 u3 u4 u8 u12 u13 u14 u15 u16 u17 u18 u19 u20 u21 u22 u23 u24 u25 u26 u27 u28 u29 u30 u31 u32 u33 u34 u35 u36 u37 u38 u39 u40 u41 u42 u43 u44 u45 u46 u47 u48 u49 u50 u51 u52 u53 u54 u55 u56 u57 u58 u59 u60 u61 u62 u63 u64 u65 u66 u67 u68 u69 u70 u71 u72 u73 u74 u75 u76 u77 u78 u79 u80 u81 u82 u83 u84 u85 u86 u87 u88 u89 u90 u91 u92 u93 u94 u95 u96 u97 u98 u99 u100 u101 u102 u103 u104 u105 u106 u107 u108 u109 u110 u111 u112 u113 u114 u115 u116 u117 u118 u119 u120 u121 u122 u123 u124 u125 u126 u127 u128 u129 u130 u131 u132 u133 u134 u135 u136 u137 u138 u139 u140 u141 u142 u143 u144 u145 u146 u147 u148 u149 u150 u151 u152 u153 u154 u155 u156 u157 u158 u159 u160 u161 u162 u163 u164 u165 u166 u167 u168 u169 u170 u171 u172 u173 u174 u175 u176 : Value) (R : Ending → World → Prop) (hR : ∀ w', Below W.heap.size W w' → R (.returned (.bool true)) w') :
    Code.wp Try.prog (gnav (Try.f8.body.getD .skip) [true, true, true, true, true, true, true, true]) (bodyPost Try.prog Try.f8 R) { tmps := #[.pointer (some ⟨g, 0, none⟩), u1, u2, u3, u4, wv, .slice (some ⟨k1, 0, none⟩) f.b.size f.b.size, .pointer (some ⟨b7, 0, none⟩), u8, rv, .int .i64 (f.told.length : Nat), .int .i64 0, u12, u13, u14, u15, u16, u17, u18, u19, u20, u21, u22, u23, u24, u25, u26, u27, u28, u29, u30, u31, u32, u33, u34, u35, u36, u37, u38, u39, u40, u41, u42, u43, u44, u45, u46, u47, u48, u49, u50, u51, u52, u53, u54, u55, u56, u57, u58, u59, u60, u61, u62, u63, u64, u65, u66, u67, u68, u69, u70, u71, u72, u73, u74, u75, u76, u77, u78, u79, u80, u81, u82, u83, u84, u85, u86, u87, u88, u89, u90, u91, u92, u93, u94, u95, u96, u97, u98, u99, u100, u101, u102, u103, u104, u105, u106, u107, u108, u109, u110, u111, u112, u113, u114, u115, u116, u117, u118, u119, u120, u121, u122, u123, u124, u125, u126, u127, u128, u129, u130, u131, u132, u133, u134, u135, u136, u137, u138, u139, u140, u141, u142, u143, u144, u145, u146, u147, u148, u149, u150, u151, u152, u153, u154, u155, u156, u157, u158, u159, u160, u161, u162, u163, u164, u165, u166, u167, u168, u169, u170, u171, u172, u173, u174, u175, u176], defers := [] } W := by
  have HR := Lib.hid hR
  have HF := Lib.hid h
  have HOK := Lib.hid ok
  have HW := Lib.hid (And.intro hw (And.intro h0l h0i))
  have HRI := Lib.hid (And.intro hr hlr)
  have HNEXT := Lib.hid (fun (w2 : World) (hb : Below W.heap.size W w2) k2 (h2 : BBlk w2 k2 f.b.size (isSrc f.b f.cells)) => kept_told w2 base bw g k1 k2 b7 f cv lv av tv wv rv (h.under hb) ok.box L0 f.lights (own_below hw hb) (own_below hr hb) h0l ok.lights h0i ok.lin hasc (fun q hq => (hT q).1 hq) p hp (hb7.below hb hb7.lt) l1 (isSrc f.b f.cells) (h1.below hb) h2 hA)
  have HSRC := Lib.hid (fun (w : World) (hb : Below W.heap.size W w) => wsources_any w base g f cv lv av tv (h.under hb) ok)
  have HCNT := Lib.hid (told_count (asc_nodup hasc) hT)
  have h9 : W.cell? ⟨g, 9, none⟩ = some tv := h.blk.cell 9
  have h7 : W.cell? ⟨g, 7, none⟩ = some lv := h.blk.cell 7
  have h10 : W.cell? ⟨g, 10, none⟩ = some (.int .i64 0) := h.blk.cell 10
  obtain ⟨_, aot, capt, rfl, hcap, _⟩ := own_rat (d := ((0, 0, 0) : Pl)) plE_len h.told
  obtain ⟨_, aow, capw, rfl, hcapw, _⟩ := own_rat (d := ((0, 0) : Int × Int)) clE_len hw
  obtain ⟨_, aor, capr, rfl, hcapr, _⟩ := own_rat (d := ((0, 0) : Int × Int)) clE_len hr
  obtain ⟨_, aol, capl, rfl, hcapl, _⟩ := own_rat (d := ((0, 0) : Int × Int)) clE_len h.lights
  have HGL := Lib.hid h.blk.lt
  have hsz := Bx.size_le ok.box
  obtain ⟨nw, hnw⟩ : ∃ n, n = L0.length := ⟨_, rfl⟩
  obtain ⟨nr, hnr⟩ : ∃ n, n = f.lights.length := ⟨_, rfl⟩
  obtain ⟨sz, hns⟩ : ∃ n, n = f.b.size := ⟨_, rfl⟩
  obtain ⟨t, ht⟩ : ∃ t, t = f.told.length := ⟨_, rfl⟩
  have hol := ok.lights
  rw [← hnw, ← hns] at h0l
  rw [← hnr, ← hns] at hol
  rw [← hns] at hsz
  rw [← hnw] at hcapw
  rw [← hnr] at hcapr hcapl h7
  rw [← ht] at h9
  have HEQ := Lib.hid (And.intro hnw (And.intro hnr (And.intro hns (And.intro ht (And.intro h0l hol)))))
  have HC := Lib.hid (And.intro h7 (And.intro h9 h10))
  have hsm := wrap_small (i := (nr : Int)) (by omega) (by omega)
  rw [← hnw, ← hnr, ← hns, ← ht]
  clear hR h ok hlr hw hr h0i hasc hT hbw hp hb7 h1 hA h7 h9 h10 hnw hnr hns ht hcap hsm
  refine (show Code.wp Try.prog (Code.seq (gnav (Try.f8.body.getD .skip) [true, true, true, true, true, true, true, true, false]) (gnav (Try.f8.body.getD .skip) [true, true, true, true, true, true, true, true, true])) _ _ _ from wp_seq_k ?_)
  intro K hK
  have HK := Lib.hid hK
  clear hK
  have HSZ := Lib.hid hsz
  have HE2 := Lib.hid (And.intro h0l hol)
  clear hsz h0l hol
  refine (show Code.wp Try.prog (Code.seq (Code.region 8 _ false) _) _ _ _ from ?_)
  go_wp2
  go_loopw [11, 12] (fun k s wr => ∃ m : Nat, m ≤ nr ∧ s = .int .i64 m ∧ k = .int .i64 (cntN (difB L0 f.lights) m : Nat) ∧ Below W.heap.size W wr) (fun _ s _ => nr - (intOf s).toNat)
  case atStart => exact ⟨0, Nat.zero_le _, rfl, rfl, Below.refl _ _⟩
  case round =>
    obtain ⟨m, hm, rfl, rfl, hb⟩ := hrel
    have HB := Lib.hid hb
    by_cases hmt : m < nr
    · have hmI : (m : Int) < (nr : Int) := by omega
      have hmW : (m : Int) < (nw : Int) := by have := HE2.out; omega
      have hm0 : (0 : Int) ≤ (m : Int) := by omega
      have hw2 : IntKind.i64.wrap ((m : Int) + 1) = (m : Int) + 1 := wrap_small (by omega) (by have := HSZ.out; have := HE2.out; omega)
      have hml : m < f.lights.length := by rw [← HEQ.out.2.1]; exact hmt
      have hmw : m < L0.length := by rw [← HEQ.out.1]; have := HE2.out; omega
      have hrl := own_below HF.out.lights hb
      have hrr := own_below HRI.out.1 hb
      have hrw := own_below HW.out.1 hb
      obtain ⟨gl, hal, -, hgl⟩ := own_form hrl (by omega)
      subst hal
      obtain ⟨gr, har, -, hgr⟩ := own_form hrr (by omega)
      subst har
      obtain ⟨gw, haw, -, hgw⟩ := own_form hrw (by have := HE2.out; omega)
      subst haw
      have hatl := own_at clE_len ((0, 0) : Int × Int) hrl hml
      have hatr := own_at clE_len ((0, 0) : Int × Int) hrr hml
      have hatw := own_at clE_len ((0, 0) : Int × Int) hrw hmw
      have hi0 := getD_lin HW.out.2.2 m
      have hi1 := getD_lin HOK.out.lin m
      have hdf : difB L0 f.lights m = decide (f.lights.getD m (0, 0) ≠ L0.getD m (0, 0)) := rfl
      obtain ⟨⟨y1, y2⟩, hy⟩ : ∃ y, y = L0.getD m (0, 0) := ⟨_, rfl⟩
      obtain ⟨⟨z1, z2⟩, hz⟩ : ∃ z, z = f.lights.getD m (0, 0) := ⟨_, rfl⟩
      rw [← hy] at hatw hi0 hdf
      rw [← hz] at hatl hatr hi1 hdf
      obtain ⟨cb, hcb⟩ : ∃ cb, cb = difB L0 f.lights m := ⟨_, rfl⟩
      have hn1 : ∀ w, (binOp .neq 43 (.agg #[.int .u8 z1, .int .u8 z2]) (.agg #[.int .u8 z1, .int .u8 z2])).run Try.prog w = .ok (.bool false) w := fun w => by
        rw [neq_light z1 z2 z1 z2 hi1.1 hi1.2 hi1.1 hi1.2 w, decide_eq_false (fun e => e rfl)]
      have hn2 : ∀ w, (binOp .neq 43 (.agg #[.int .u8 z1, .int .u8 z2]) (.agg #[.int .u8 y1, .int .u8 y2])).run Try.prog w = .ok (.bool cb) w := fun w => by
        rw [neq_light z1 z2 y1 y2 hi1.1 hi1.2 hi0.1 hi0.2 w, hcb, hdf, decide_eq_decide.2 ⟨fun h e => h e.symm, fun h e => h e.symm⟩]
      have h7 : wr.cell? ⟨g, 7, none⟩ = some (.slice (some ⟨gl, 0, none⟩) nr capl) := (hb.cell HGL.out).trans HC.out.1
      have a0 : wr.cell? ⟨gl, m * 2, none⟩ = some (.int .u8 z1) := hatl 0 (by decide)
      have a1 : wr.cell? ⟨gl, m * 2 + 1, none⟩ = some (.int .u8 z2) := hatl 1 (by decide)
      have b0 : wr.cell? ⟨gr, m * 2, none⟩ = some (.int .u8 z1) := hatr 0 (by decide)
      have b1 : wr.cell? ⟨gr, m * 2 + 1, none⟩ = some (.int .u8 z2) := hatr 1 (by decide)
      have d0 : wr.cell? ⟨gw, m * 2, none⟩ = some (.int .u8 y1) := hatw 0 (by decide)
      have d1 : wr.cell? ⟨gw, m * 2 + 1, none⟩ = some (.int .u8 y2) := hatw 1 (by decide)
      have HCB := Lib.hid (cntN_succ (difB L0 f.lights) m)
      rw [← hcb] at HCB
      obtain ⟨c, hc⟩ : ∃ c, c = cntN (difB L0 f.lights) m := ⟨_, rfl⟩
      have hcm : c ≤ m := by rw [hc]; exact cntN_le _ _
      rw [← hc] at HCB ⊢
      have hw1 : IntKind.i64.wrap ((c : Int) + 1) = (c : Int) + 1 := wrap_small (by omega) (by have := HSZ.out; have := HE2.out; omega)
      clear hb hrl hrr hrw hatl hatr hatw hi0 hi1 hdf hy hz hcb hgl hgr hgw hml hmw hc hcm
      go_wp2
      go_quiet (fail)
      go_wp2
      go_quiet (fail)
      cases cb with
      | false =>
        go_wp2
        go_roundw
        case rel => exact ⟨m + 1, by omega, by go_num, by rw [HCB.out]; rfl, below_drewN HB.out _⟩
        case measure => (simp [intOf] <;> omega)
      | true =>
        go_wp2
        go_roundw
        case rel => exact ⟨m + 1, by omega, by go_num, by rw [HCB.out]; go_num, below_drewN HB.out _⟩
        case measure => (simp [intOf] <;> omega)
    · have hmn : m = nr := by omega
      subst hmn
      have hct : cntN (difB L0 f.lights) m = t := by rw [HEQ.out.2.2.2.1, HCNT.out, ← HEQ.out.2.2.1, ← HE2.out.2]
      rw [hct]
      have h9 : wr.cell? ⟨g, 9, none⟩ = some (.slice aot t capt) := (hb.cell HGL.out).trans HC.out.2.1
      have h10 : wr.cell? ⟨g, 10, none⟩ = some (.int .i64 0) := (hb.cell HGL.out).trans HC.out.2.2
      clear hb hct hm hmt
      go_wp2
      refine HK.out _ _ ?_
      refine (show Code.wp Try.prog (Code.seq (gnav (Try.f8.body.getD .skip) [true, true, true, true, true, true, true, true, true, false]) (gnav (Try.f8.body.getD .skip) [true, true, true, true, true, true, true, true, true, true])) _ _ _ from wp_seq_k ?_)
      intro K9 hK9
      have HK9 := Lib.hid hK9
      clear hK9
      refine (show Code.wp Try.prog (Code.seq (Code.region 15 _ false) _) _ _ _ from ?_)
      go_wp2
      refine HK9.out _ _ ?_
      refine (show Code.wp Try.prog (Code.seq (gnav (Try.f8.body.getD .skip) [true, true, true, true, true, true, true, true, true, true, false]) (gnav (Try.f8.body.getD .skip) [true, true, true, true, true, true, true, true, true, true, true])) _ _ _ from wp_seq_k ?_)
      intro K10 hK10
      have HK10 := Lib.hid hK10
      clear hK10
      refine (show Code.wp Try.prog (Code.region 17 _ false) _ _ _ from ?_)
      go_wp2_with fail
      go_at_call 17
      refine (HSRC.out _ HB.out).mono ?_
      rintro e w2 ⟨k2, rfl, hbb, hb2, -⟩
      have HBB := Lib.hid hbb
      have HB2 := Lib.hid (HB.out.trans (hb2.mono HB.out.size))
      clear hbb hb2 h9 h10
      go_wp2
      refine HK10.out _ _ ?_
      rw [HEQ.out.1, HEQ.out.2.1, HEQ.out.2.2.1]
      exact HNEXT.out w2 HB2.out k2 HBB.out _ _ _ _ _ _ _ _ _ _ _ _ _ _ _ _ _ _ _ _ _ _ _ _ _ _ _ _ _ _ _ _ _ _ _ _ _ _ _ _ _ _ _ _ _ _ _ _ _ _ _ _ _ _ _ _ _ _ _ _ _ _ _ _ _ _ _ _ _ _ _ _ _ _ _ _ _ _ _ _ _ _ _ _ _ _ _ _ _ _ _ _ _ _ _ _ _ _ _ _ _ _ _ _ _ _ _ _ _ _ _ _ _ _ _ _ _ _ _ _ _ _ _ _ _ _ _ _ _ _ _ _ _ _ _ _ _ _ _ _ _ _ _ _ _ _ _ _ _ _ _ _ _ _ _ _ _ _ _ _ _ _ _ _ _ _ _ _ _ _ _ R (fun w' hb => HR.out _ (HB2.out.trans (hb.mono HB2.out.size)))
end Go.Proofs.Ytlhjjmfbifhgfaa
/- The check of one edit: the walk. (Printed by genkept.py.) -/
namespace Go.Proofs.Ytlhjjmfbifhgfaa
set_option linter.unusedSimpArgs false
set_option linter.unusedVariables false
open Go.RowKit
set_option maxRecDepth 1000000

theorem own_empty (W : World) (base e s : Nat) (hb : base ≤ W.heap.size) : (W.alloc (.cells #[] e)).ownsRow base e s (.slice (some ⟨W.heap.size, 0, none⟩) 0 0) 0 [] :=
  ⟨by simp, .inr ⟨W.heap.size, 0, #[], rfl, hb, Blk.new W e #[], Nat.le_refl _, Nat.zero_le _, by simp, by simp⟩⟩
theorem rF_congr {f h : Fw} (hb : f.b = h.b) (hc : f.cells = h.cells) : rFL f = rFL h ∧ rFS f = rFS h := by
  refine ⟨funext fun q => ?_, funext fun q => ?_⟩
  · unfold rFL clrF
    rw [hb, hc]
  · unfold rFS clrF
    rw [hb, hc]
/-- The right lights ahead of an edit, seen behind it. -/
theorem right_ahead {f : Fw} (ok : f.Ok) {i : Nat} (hi : i < f.b.size) (c : Int × Int) (a t : List Pl) : RightOf (({ f.put i c with asked := a, told := t } : Fw).old (f.b.at_ i) (f.cells.getD i (0, 0))) (rFL f) (rFS f) := by
  have hc := put_old ok hi c a t
  have h := right_right (({ f.put i c with asked := a, told := t } : Fw).old (f.b.at_ i) (f.cells.getD i (0, 0))) ok.box (by rw [hc]; exact ok.cin)
  obtain ⟨h1, h2⟩ := rF_congr (f := ({ f.put i c with asked := a, told := t } : Fw).old (f.b.at_ i) (f.cells.getD i (0, 0))) (h := f) rfl hc
  rw [h1, h2] at h
  exact h
/-- A world whose Asked, Told and Other are emptied. -/
theorem field_reset {W : World} {base g : Nat} {f : Fw} {cv lv av tv : Value} (h : FieldAt W base g f cv lv av tv) : FieldAt (((W.setCell ⟨g, 8, none⟩ nilS).setCell ⟨g, 9, none⟩ nilS).setCell ⟨g, 10, none⟩ (.int .i64 0)) base g { f with asked := [], told := [] } cv lv nilS nilS := by
  have ho : Only W (((W.setCell ⟨g, 8, none⟩ nilS).setCell ⟨g, 9, none⟩ nilS).setCell ⟨g, 10, none⟩ (.int .i64 0)) (fun k => k = g) := (((Only.refl W (fun k => k = g)).setCell (p := ⟨g, 8, none⟩) (.inl rfl) _).setCell (p := ⟨g, 9, none⟩) (.inl rfl) _).setCell (p := ⟨g, 10, none⟩) (.inl rfl) _
  exact ⟨((h.blk.set_ 8 nilS).set_ 9 nilS).set_ 10 (.int .i64 0), own_only h.cells ho (fun k hk e => own_blk_ne h.cells h.blk (by decide) (e ▸ hk)), own_only h.lights ho (fun k hk e => own_blk_ne h.lights h.blk (by decide) (e ▸ hk)), World.ownsRow_nil _ _ _ _, World.ownsRow_nil _ _ _ _, h.low, fun k hk => by simp [Value.ownBlock] at hk⟩
set_option maxHeartbeats 16000000 in
theorem kept_any (W : World) (base g : Nat) (f : Fw) (cv lv av tv : Value) (h : FieldAt W base g f cv lv av tv) (ok : f.Ok) (hlr : f.lights = rightL f) (hbase : base ≤ W.heap.size) (n : Int) (c : Int × Int) (hc : InU c.1 ∧ InU c.2) :
    Calls Try.prog 8 #[.pointer (some ⟨g, 0, none⟩), .agg #[.int .i64 n, .int .u8 c.1, .int .u8 c.2]] W fun e w' => e = .returned (.bool true) ∧ ∃ f' av' tv', FieldAt w' base g f' cv lv av' tv' ∧ f'.Ok ∧ f'.lights = rightL f' ∧ Below base W w' := by
  have HED := Lib.hid (fun w (hw : FieldAt w base g f cv lv av tv) => edited_any w base g f cv lv av tv hw ok n c hc)
  have hpos : 0 < f.b.size := by unfold Bx.size; exact Nat.mul_pos (Nat.mul_pos ok.box.x1 ok.box.y1) ok.box.z1
  obtain ⟨i, hi⟩ : ∃ i, i = edIx n f.b.size := ⟨_, rfl⟩
  have hil : i < f.b.size := by rw [hi]; exact edIx_lt hpos
  rw [← hi] at HED
  obtain ⟨ce, hce⟩ : ∃ ce, ce = edC c := ⟨_, rfl⟩
  have hcei : InU ce.1 ∧ InU ce.2 := by rw [hce]; exact edC_in hc
  rw [← hce] at HED
  obtain ⟨f1, hf1⟩ : ∃ f1, f1 = f.put i ce := ⟨_, rfl⟩
  have hok1 : f1.Ok := by rw [hf1]; exact put_ok ok i hcei
  have hb1 : f1.b = f.b := by rw [hf1]; rfl
  have hl1 : f1.lights = f.lights := by rw [hf1]; rfl
  have HRA := Lib.hid (right_ahead ok hil ce [] [])
  have HPO := Lib.hid (put_old ok hil ce [] [])
  rw [← hf1] at HED HRA HPO
  have HINP := Lib.hid (f.b.at_inside hil)
  have HOI := Lib.hid (show InU (f.cells.getD i (0, 0)).1 ∧ InU (f.cells.getD i (0, 0)).2 from getD_in ok.cin i)
  obtain ⟨c1, c2⟩ := c
  obtain ⟨W1, hW1⟩ : ∃ W1, W1 = W.alloc (.cells #[.int .i64 n, .int .u8 c1, .int .u8 c2] 35) := ⟨_, rfl⟩
  have hB1 : Below W.heap.size W W1 := by rw [hW1]; exact (Below.refl _ _).alloc (Nat.le_refl _) _
  have hb := Blk.new W 35 #[.int .i64 n, .int .u8 c1, .int .u8 c2]
  rw [← hW1] at hb
  have hs1 : W1.heap.size = W.heap.size + 1 := by rw [hW1]; simp
  have HF := Lib.hid h
  have HOK := Lib.hid (And.intro ok (And.intro hok1 (And.intro hb1 (And.intro hl1 hlr))))
  obtain ⟨_, aol, capl, hlv, hcapl, hmaxl⟩ := own_rat (d := ((0, 0) : Int × Int)) clE_len h.lights
  obtain ⟨hrat, -⟩ := own_rat (d := ((0, 0) : Int × Int)) clE_len h.lights
  subst hlv
  obtain ⟨W2, hW2⟩ : ∃ W2, W2 = W1.alloc (.cells #[] 43) := ⟨_, rfl⟩
  have hB2 : Below W.heap.size W W2 := by rw [hW2]; exact hB1.alloc (by omega) _
  have hs2 : W2.heap.size = W1.heap.size + 1 := by rw [hW2]; simp
  have HOW := Lib.hid (show W2.ownsRow W.heap.size 43 2 (.slice (some ⟨W1.heap.size, 0, none⟩) 0 0) ([] : List (Int × Int)).length (rc clE ([] : List (Int × Int))) from by rw [hW2]; exact own_empty W1 W.heap.size 43 2 (by omega))
  have HRD := Lib.hid (show Reads W2 W2.heap.size 2 aol f.lights.length (rc clE f.lights) from (hrat.below hB2).reads clE_len (by decide))
  have h7 : W2.cell? ⟨g, 7, none⟩ = some (.slice aol f.lights.length capl) := (hB2.cell h.blk.lt).trans (h.blk.cell 7)
  have hwl := lightsL_len f.b f.cells f.b.size
  have HLL := Lib.hid (show f.lights.length ≤ 1024 from by rw [ok.lights]; exact Bx.size_le ok.box)
  have HB2 := Lib.hid (And.intro hB2 (show Blk W2 W.heap.size 35 #[.int .i64 n, .int .u8 c1, .int .u8 c2] from by rw [hW2]; exact hb.alloc _))
  have HW2 := Lib.hid (And.intro hW1 (And.intro hW2 (And.intro hs1 hs2)))
  have HBS := Lib.hid hbase
  obtain ⟨nl, hnl⟩ : ∃ nl, nl = f.lights.length := ⟨_, rfl⟩
  have HNL := Lib.hid hnl
  rw [← hnl] at h7 HRD HLL
  rw [hW2, hW1] at h7
  clear h ok hlr hbase hc hpos hi hce hcei hf1 hok1 hb1 hl1 hB1 hb hW1 hs1 hcapl hmaxl hrat hB2 hs2 hW2 hwl hnl
  go_enter Try.func8, Try.ntmps8
  go_wp2_with (at_builtin; rw [← HW2.out.1, ← HW2.out.2.1]; refine rows_law clE_len clE_one (by decide) Try.underlying37 infoLight rfl (by decide) HOW.out rfl _ _ rfl (by rw [HW2.out.2.2.1]; rfl) rfl HRD.out (by have := HLL.out; have := HNL.out; simp; omega) (by have := HB2.out.1.size; omega) ?_)
  intro wv W3 k1 k2 k3
  have HV3 := Lib.hid (show LRow W3 W.heap.size wv f.lights from k1)
  have HB3 := Lib.hid (show Below W.heap.size W W3 from HB2.out.1.grown k2 HB2.out.1.size (fun k hk => by
    have h1 : W1.heap.size = k := Option.some.inj hk
    have := HW2.out.2.2.1
    omega))
  have HE3 := Lib.hid (show Blk W3 W.heap.size 35 #[.int .i64 n, .int .u8 c1, .int .u8 c2] from HB2.out.2.grown k2 (fun e => by
    have h1 : W.heap.size = W1.heap.size := Option.some.inj e
    have := HW2.out.2.2.1
    omega))
  have HS3 := Lib.hid (wsources_any W3 base g f cv _ av tv (HF.out.under HB3.out) HOK.out.1)
  clear k1 k2 k3 h7 HRD HOW HB2
  go_wp2_with fail
  go_at_call 17
  refine HS3.out.mono ?_
  rintro e W4 ⟨ks, rfl, hbb, hb4, hks⟩
  have HB4 := Lib.hid (HB3.out.trans (hb4.mono HB3.out.size))
  have HS4 := Lib.hid (And.intro hbb (show W.heap.size ≤ ks from Nat.le_trans HB3.out.size hks))
  have HV4 := Lib.hid (own_below HV3.out hb4)
  have hE4 := HE3.out.below hb4 HE3.out.lt
  have e0 : W4.cell? ⟨W.heap.size, 0, none⟩ = some (.int .i64 n) := hE4.cell 0
  have e1 : W4.cell? ⟨W.heap.size, 1, none⟩ = some (.int .u8 c1) := hE4.cell 1
  have e2 : W4.cell? ⟨W.heap.size, 2, none⟩ = some (.int .u8 c2) := hE4.cell 2
  have HED4 := Lib.hid (HED.out W4 (HF.out.under HB4.out))
  obtain ⟨⟨p1, p2, p3⟩, hp⟩ : ∃ p, p = f.b.at_ i := ⟨_, rfl⟩
  obtain ⟨⟨o1, o2⟩, ho⟩ : ∃ o, o = f.cells.getD i (0, 0) := ⟨_, rfl⟩
  rw [← hp] at HED4 HRA HPO HINP
  rw [← ho] at HED4 HRA HPO HOI
  unfold plV plC clV at HED4
  simp only at HED4
  clear hbb hb4 hks hE4 hp ho HED HE3 HV3 HS3
  go_wp2_with fail
  go_at_call 12
  refine HED4.out.mono ?_
  rintro e W5 ⟨rfl, hf5, ho5⟩
  have HF5 := Lib.hid hf5
  have HO5 := Lib.hid (show Only W W5 (fun k => base ≤ k ∧ (k < W.heap.size)) from (Only.of_below HB4.out).trans ho5 (fun k hk => by
    have := HF.out.cells.lt k hk.symm
    exact .inl this))
  have HV5 := Lib.hid (show LRow W5 W.heap.size wv f.lights from own_only HV4.out ho5 (fun k hk e => by
    have := (HV4.out.lt k hk).1
    have := (HF.out.cells.lt k e.symm).2
    omega))
  have HS5 := Lib.hid (show BBlk W5 ks f.b.size (isSrc f.b f.cells) from Blk.only HS4.out.1 ho5 (fun e => by
    have := HS4.out.2
    have := (HF.out.cells.lt ks e.symm).2
    omega))
  clear hf5 ho5 e0 e1 e2 HED4
  obtain ⟨W6, hW6⟩ : ∃ W6, W6 = (W5.alloc (.cells #[.int .i64 p1, .int .i64 p2, .int .i64 p3] 23)).alloc (.cells #[.int .u8 o1, .int .u8 o2] 33) := ⟨_, rfl⟩
  have s6 : (W5.alloc (.cells #[.int .i64 p1, .int .i64 p2, .int .i64 p3] 23)).heap.size = W5.heap.size + 1 := by simp
  have hb6 : Below W5.heap.size W5 W6 := by rw [hW6]; exact ((Below.refl _ _).alloc (Nat.le_refl _) _).alloc (by simp) _
  have hbp : Blk W6 W5.heap.size 23 #[.int .i64 p1, .int .i64 p2, .int .i64 p3] := by rw [hW6]; exact (Blk.new _ _ _).alloc _
  have hbo : Blk W6 (W5.heap.size + 1) 33 #[.int .u8 o1, .int .u8 o2] := by rw [hW6, ← s6]; exact Blk.new _ _ _
  have HW6 := Lib.hid hW6
  have HF6 := Lib.hid (HF5.out.under hb6)
  have HO6 := Lib.hid (show Only W W6 (fun k => base ≤ k ∧ (k < W.heap.size)) from HO5.out.trans (Only.of_below (S := fun _ => False) hb6) (fun _ h => h.elim))
  have HV6 := Lib.hid (own_below HV5.out hb6)
  have HS6 := Lib.hid (HS5.out.below hb6)
  have HN6 := Lib.hid (show W.heap.size ≤ W5.heap.size ∧ W5.heap.size + 1 < W6.heap.size from ⟨HO5.out.size, hbo.lt⟩)
  have HP6 := Lib.hid (And.intro hbp hbo)
  obtain ⟨b7, hb7⟩ : ∃ b, b = W5.heap.size := ⟨_, rfl⟩
  rw [← hb7] at HP6 HN6
  have HB7 := Lib.hid hb7
  have HR6 := Lib.hid (right_any W6 base g f1 cv _ av tv HF6.out.blk HF6.out.cells HOK.out.2.1.box HOK.out.2.1.cells HOK.out.2.1.cin)
  clear hW6 s6 hb6 hbp hbo hb7 HS5 HV5 HF5
  go_wp2_with fail
  rw [← HW6.out, ← HB7.out]
  go_at_call 18
  refine HR6.out.mono ?_
  rintro e W7 ⟨rv, rfl, hr7, hb7⟩
  have HR7 := Lib.hid (own_base hr7 HO6.out.size)
  have hf7 := HF6.out.under hb7
  have hp7 := HP6.out.1.below hb7 HP6.out.1.lt
  have hq7 := HP6.out.2.below hb7 HP6.out.2.lt
  have HF8 := Lib.hid (field_reset hf7)
  have ho8 : ∀ (S : Nat → Prop) (w : World), Only w W7 S → (S g ∨ w.heap.size ≤ g) → Only w (((W7.setCell ⟨g, 8, none⟩ nilS).setCell ⟨g, 9, none⟩ nilS).setCell ⟨g, 10, none⟩ (.int .i64 0)) S := fun S w h hg => ((h.setCell (p := ⟨g, 8, none⟩) hg _).setCell (p := ⟨g, 9, none⟩) hg _).setCell (p := ⟨g, 10, none⟩) hg _
  have hg8 : ∀ {k : Nat}, W.heap.size ≤ k → ¬ k = g := fun h e => by have := HF.out.blk.lt; omega
  have ho78 := ho8 (fun k => k = g) W7 (Only.refl _ _) (.inl rfl)
  have HO8 := Lib.hid (ho8 (fun k => base ≤ k ∧ (k < W.heap.size)) W (HO6.out.trans (Only.of_below (S := fun _ => False) hb7) (fun _ h => h.elim)) (.inl ⟨HF.out.low, HF.out.blk.lt⟩))
  have HV8 := Lib.hid (own_only (own_below HV6.out hb7) ho78 (fun k hk => hg8 (HV6.out.lt k hk).1))
  have HR8 := Lib.hid (own_only HR7.out ho78 (fun k hk => hg8 (HR7.out.lt k hk).1))
  have HS8 := Lib.hid (show BBlk _ ks f.b.size (isSrc f.b f.cells) from Blk.only (HS6.out.below hb7) ho78 (hg8 HS4.out.2))
  have HP8 := Lib.hid (And.intro (hp7.only ho78 (hg8 HN6.out.1)) (hq7.only ho78 (hg8 (Nat.le_succ_of_le HN6.out.1))))
  have k8 := hf7.blk.frozen 8
  have k9 := hf7.blk.frozen 9
  have k10 := hf7.blk.frozen 10
  have d8 : W7.cell? ⟨g, 8, none⟩ = some av := hf7.blk.cell 8
  have d9 : W7.cell? ⟨g, 9, none⟩ = some tv := hf7.blk.cell 9
  have d10 : W7.cell? ⟨g, 10, none⟩ = some (.int .i64 0) := hf7.blk.cell 10
  have hgne : g ≠ b7 ∧ g ≠ b7 + 1 := by have := HF.out.blk.lt; have := HN6.out.1; omega
  obtain ⟨a0, a1, a2⟩ := three_of hp7
  obtain ⟨a3, a4⟩ := two_cells hq7
  clear hr7 hf7 hb7 hp7 hq7 ho8 ho78 HR6 HR7 HV6 HS6 HP6 HF6 HO6
  go_wp2_with fail
  clear k8 k9 k10 d8 d9 d10 hgne a0 a1 a2 a3 a4
  generalize ((W7.setCell ⟨g, 8, none⟩ nilS).setCell ⟨g, 9, none⟩ nilS).setCell ⟨g, 10, none⟩ (.int .i64 0) = W8 at HF8 HO8 HV8 HR8 HS8 HP8 ⊢
  obtain ⟨f2, hf2⟩ : ∃ f2 : Fw, f2 = { f1 with asked := [], told := [] } := ⟨_, rfl⟩
  have hb2 : f2.b = f.b := by rw [hf2]; exact HOK.out.2.2.1
  have hl2 : f2.lights = f.lights := by rw [hf2]; exact HOK.out.2.2.2.1
  have hr2 : rightL f2 = rightL f1 := by rw [hf2]; exact rightL_congr rfl rfl
  have hok2 : f2.Ok := by rw [hf2]; exact ⟨HOK.out.2.1.box, HOK.out.2.1.cells, HOK.out.2.1.lights, HOK.out.2.1.cin, HOK.out.2.1.lin⟩
  rw [← hf2] at HF8 HRA HPO
  have HP2 := Lib.hid (show f2.b.inside (p1, p2, p3) from by rw [hb2]; exact HINP.out)
  have HCH := Lib.hid (change_any W8 base g f2 cv _ nilS nilS HF8.out hok2 (p1, p2, p3) HP2.out (o1, o2) HOI.out (rFL f2) (rFS f2) (rFL f) (rFS f) HRA.out (right_right f2 hok2.box hok2.cin)
    (fun q => by
      have h1 := rightL_light f HOK.out.2.2.2.2 q
      unfold lightAt at h1 ⊢
      rw [hb2, hl2]
      exact h1) (by rw [hf2]; simp) (by rw [hf2]; simp))
  have HEQ := Lib.hid (And.intro hb2 (And.intro hl2 (And.intro hr2 hok2)))
  have HE0 := Lib.hid (show f2.asked = [] ∧ f2.told = [] from by rw [hf2]; exact ⟨rfl, rfl⟩)
  unfold plV plC clV at HCH
  simp only at HCH
  clear hf2 hb2 hl2 hr2 hok2 HRA HF8 HINP
  rename_i K3 a3 Kl al
  have HK3 := Lib.hid a3
  clear a3
  go_at_call 11
  refine HCH.out.mono ?_
  rintro e W9 ⟨T, A, L', av', tv', rfl, hch⟩
  have hne : ∀ k, W.heap.size ≤ k → ¬ (QF g nilS.ownBlock k ∨ some k = nilS.ownBlock ∨ some k = (Value.slice aol nl capl).ownBlock) := fun k hk h => by
    rcases h with (h | h) | h | h
    · have := HF.out.blk.lt; omega
    · cases h
    · cases h
    · rw [HNL.out] at h
      have := (HF.out.lights.lt k h.symm).2
      omega
  rw [← HNL.out] at hch
  have HL := Lib.hid (show L' = rightL f2 from lights_eq (by rw [hch.len, HEQ.out.2.2.2.lights]) hch.lights)
  have HF9 := Lib.hid hch.fld
  have HV9 := Lib.hid (own_only HV8.out hch.only (fun k hk => hne k (HV8.out.lt k hk).1))
  have HR9 := Lib.hid (own_only HR8.out hch.only (fun k hk => hne k (HR8.out.lt k hk).1))
  have HS9 := Lib.hid (show BBlk W9 ks f.b.size (isSrc f.b f.cells) from Blk.only HS8.out hch.only (hne ks HS4.out.2))
  have HP9 := Lib.hid (HP8.out.1.only hch.only (hne b7 HN6.out.1))
  have HO9 := Lib.hid (show Only W W9 (fun k => base ≤ k ∧ (k < W.heap.size)) from HO8.out.trans hch.only (fun k hk => by
    rcases hk with (h | h) | h | h
    · exact .inl ⟨by have := HF.out.low; omega, by have := HF.out.blk.lt; omega⟩
    · cases h
    · cases h
    · rw [HNL.out] at h
      exact .inl (HF.out.lights.lt k h.symm)))
  have HT := Lib.hid (And.intro hch.asc (And.intro hch.mem hch.near))
  clear hch hne HCH HV8 HR8 HS8 HP8 HO8
  obtain ⟨f3, hf3⟩ : ∃ f3 : Fw, f3 = { f2 with asked := f2.asked ++ A, told := f2.told ++ T, lights := L' } := ⟨_, rfl⟩
  have hb3 : f3.b = f.b := by rw [hf3]; exact HEQ.out.1
  have hc3 : f3.cells = f2.cells := by rw [hf3]
  have hl3 : f3.lights = rightL f3 := by
    rw [hf3]
    exact HL.out.trans (rightL_congr rfl rfl)
  have ha3 : f3.asked = A := by rw [hf3]; show f2.asked ++ A = A; rw [HE0.out.1]; rfl
  have ht3 : f3.told = T := by rw [hf3]; show f2.told ++ T = T; rw [HE0.out.2]; rfl
  have hL3 : f3.lights = L' := by rw [hf3]
  have hok3 : f3.Ok := by
    have h := HEQ.out.2.2.2
    exact ⟨by rw [hb3]; exact HOK.out.1.box, by rw [hc3, h.cells, HEQ.out.1, hb3], by rw [hl3, rightL_len], by rw [hc3]; exact h.cin, by rw [hl3]; exact rightL_in f3 (by rw [hb3]; exact HOK.out.1.box) (by rw [hc3]; exact h.cin)⟩
  have hsame : LRow W9 W.heap.size rv f3.lights := by rw [hL3, HL.out, HEQ.out.2.2.1]; exact HR9.out
  have hT3 : ∀ q, q ∈ f3.told ↔ f3.b.inside q ∧ difB f.lights f3.lights (f3.b.idx q) = true := fun q => by
    rw [ht3, HT.out.2.1 q, hb3, hL3, HL.out, HEQ.out.1]
    refine and_congr_right fun hq => ?_
    have h := chg_dif (f := f2) (q := q) (by rw [HEQ.out.1]; exact hq)
    rw [h, HEQ.out.2.1, HEQ.out.1]
  have hA3 : ∀ x ∈ f3.asked, Sm x ∧ nearB f3.b x (p1, p2, p3) (isSrc f.b f.cells) (isSrc f3.b f3.cells) = true := fun x hx => by
    rw [ha3] at hx
    have h := HT.out.2.2 x hx
    refine ⟨near_sm HEQ.out.2.2.2.box HP2.out h, ?_⟩
    have h2 := near_src HPO.out h
    rw [HEQ.out.1] at h2
    rw [hc3, hb3]
    exact h2
  have HF3 := Lib.hid (show FieldAt W9 base g f3 cv (.slice aol nl capl) av' tv' from by rw [hf3]; exact HF9.out)
  have hasc3 : Asc f3.told := by rw [ht3]; exact HT.out.1
  have HNEXT := Lib.hid (kept_same W9 base W.heap.size g ks b7 f3 cv _ av' tv' wv rv HF3.out hok3 f.lights hl3 HV9.out hsame (by rw [hb3]; exact HOK.out.1.lights) HOK.out.1.lin hasc3 hT3 HO9.out.size (p1, p2, p3) (Sm.of_may (Bx.inside_may HEQ.out.2.2.2.box HP2.out)) HP9.out (isSrc f.b f.cells) (by rw [hb3]; exact HS9.out) hA3)
  have HEND := Lib.hid (show ∀ w', Below W9.heap.size W9 w' → ∃ f' av' tv', FieldAt w' base g f' cv (.slice aol nl capl) av' tv' ∧ f'.Ok ∧ f'.lights = rightL f' ∧ Below base W w' from fun w' hb =>
    ⟨f3, av', tv', HF3.out.under hb, hok3, hl3, (HO9.out.trans (Only.of_below (S := fun _ => False) hb) (fun _ h => h.elim)).below (fun k h => h.1) HBS.out⟩)
  have HB3' := Lib.hid (And.intro hb3 ht3)
  clear hf3 hb3 hc3 hl3 ha3 ht3 hL3 hok3 hsame hT3 hA3 hasc3 HF9 HV9 HR9 HS9 HP9 HO9 HT HL
  go_wp2
  refine HK3.out _ _ ?_
  refine (show Code.wp Try.prog (Code.seq (gnav (Try.f8.body.getD .skip) [true, true, true, true, true, true, true, false]) (gnav (Try.f8.body.getD .skip) [true, true, true, true, true, true, true, true])) _ _ _ from wp_seq_k ?_)
  intro K7 hK7
  have HK7 := Lib.hid hK7
  clear hK7
  refine (show Code.wp Try.prog (Code.region 7 _ false) _ _ _ from ?_)
  go_wp2
  refine HK7.out _ _ ?_
  rw [← HB3'.out.2, ← HB3'.out.1]
  rw [HNL.out] at HEND
  exact HNEXT.out _ _ _ _ _ _ _ _ _ _ _ _ _ _ _ _ _ _ _ _ _ _ _ _ _ _ _ _ _ _ _ _ _ _ _ _ _ _ _ _ _ _ _ _ _ _ _ _ _ _ _ _ _ _ _ _ _ _ _ _ _ _ _ _ _ _ _ _ _ _ _ _ _ _ _ _ _ _ _ _ _ _ _ _ _ _ _ _ _ _ _ _ _ _ _ _ _ _ _ _ _ _ _ _ _ _ _ _ _ _ _ _ _ _ _ _ _ _ _ _ _ _ _ _ _ _ _ _ _ _ _ _ _ _ _ _ _ _ _ _ _ _ _ _ _ _ _ _ _ _ _ _ _ _ _ _ _ _ _ _ _ _ _ _ _ _ _ _ _ _ _ (fun w' hb => ⟨rfl, HEND.out w' hb⟩)
end Go.Proofs.Ytlhjjmfbifhgfaa
/- The chapter's examples: one change in a small world: the walk. -/
namespace Go.Proofs.Ytlhjjmfbifhgfaa
set_option linter.unusedSimpArgs false
set_option linter.unusedVariables false
open Go.RowKit
set_option maxRecDepth 1000000

/-- The example's world, the first so many cells soil. -/
def sF (m : Nat) : Fw := { b := oB, cells := soilL m, lights := rightL { b := oB, cells := soilL 0, lights := [], asked := [], told := [] }, asked := [], told := [] }
theorem sF_b (m : Nat) : (sF m).b = oB := by unfold sF; with_reducible rfl
theorem sF_cells (m : Nat) : (sF m).cells = soilL m := by unfold sF; with_reducible rfl
theorem sF_ok {m : Nat} : (sF m).Ok := by
  have hb : (sF m).b.Ok := by rw [sF_b]; exact oB_ok
  have hl : (sF m).lights = rightL { b := oB, cells := soilL 0, lights := [], asked := [], told := [] } := by unfold sF; with_reducible rfl
  exact ⟨hb, by rw [sF_cells, soil_len, sF_b, oB_size], by rw [hl, rightL_len, sF_b], by rw [sF_cells]; exact soil_in m, by rw [hl]; exact rightL_in _ oB_ok (soil_in 0)⟩
theorem made_sF : madeF (0, 48, 0) 6 15 6 [] = sF 0 := by
  have h : madeF0 (0, 48, 0) 6 15 6 [] (madeB (0, 48, 0) 6 15 6).size = { b := oB, cells := soilL 0, lights := [], asked := [], told := [] } := by
    unfold madeF0
    rw [show madeB (0, 48, 0) 6 15 6 = oB from by unfold oB; with_reducible rfl, oB_size, soil_zero]
  unfold madeF
  rw [h]
  unfold sF
  with_reducible rfl
theorem sF_put {m : Nat} (hm : m < 784) : (sF m).put m (3, 0) = sF (m + 1) := by
  unfold Fw.put
  rw [sF_cells, soil_step m hm]
  unfold sF
  with_reducible rfl
theorem lights_new {W : World} {base g : Nat} {f : Fw} {cv lv av tv rv : Value} {L : List (Int × Int)} (h : FieldAt W base g f cv lv av tv) (hr : LRow W base rv L) : FieldAt (W.setCell ⟨g, 7, none⟩ rv) base g { f with lights := L } cv rv av tv := by
  have ho : Only W (W.setCell ⟨g, 7, none⟩ rv) (fun k => k = g) := (Only.refl W (fun k => k = g)).setCell (p := ⟨g, 7, none⟩) (.inl rfl) _
  exact ⟨h.blk.set_ 7 rv, own_only h.cells ho (fun k hk e => own_blk_ne h.cells h.blk (by decide) (e ▸ hk)), own_only hr ho (fun k hk e => own_blk_ne hr h.blk (by decide) (e ▸ hk)), own_only h.asked ho (fun k hk e => own_blk_ne h.asked h.blk (by decide) (e ▸ hk)), own_only h.told ho (fun k hk e => own_blk_ne h.told h.blk (by decide) (e ▸ hk)), h.low, h.apart⟩
theorem sF_full : ({ sF 441 with lights := rightL (sF 441) } : Fw) = oF0 := by
  have h : rightL (sF 441) = rightL oFb := rightL_congr (by rw [sF_b, oFb_b]) (by rw [sF_cells, oFb_cells])
  rw [h]
  unfold sF oF0 oFb
  with_reducible rfl
set_option maxHeartbeats 16000000 in
theorem over_any (W : World) (y : Nat) (hy : y < 16) (c : Int × Int) (hc : InU c.1 ∧ InU c.2) : Calls Try.prog 9 #[.int .i64 (y : Int), .agg #[.int .u8 c.1, .int .u8 c.2]] W fun e w' => ∃ v, e = .returned (.tuple #[.int .i64 (ovN y c : Nat), v]) ∧ LRow w' W.heap.size v ((List.range 16).map (ovL y c)) ∧ Below W.heap.size W w' := by
  obtain ⟨c1, c2⟩ := c
  obtain ⟨W1, hW1⟩ : ∃ W1, W1 = W.alloc (.cells #[.int .u8 c1, .int .u8 c2] 33) := ⟨_, rfl⟩
  have hB1 : Below W.heap.size W W1 := by rw [hW1]; exact (Below.refl _ _).alloc (Nat.le_refl _) _
  have hb := Blk.new W 33 #[.int .u8 c1, .int .u8 c2]
  rw [← hW1] at hb
  have HM := Lib.hid (made_any W1 (0, 48, 0) 6 15 6 nilS [] (RAt.nil W1 none 0) (fun c h => by cases h) (Nat.zero_le _))
  have HB1 := Lib.hid (And.intro hB1 hb)
  have HW1 := Lib.hid hW1
  have HC := Lib.hid hc
  have HY := Lib.hid hy
  clear hb hB1 hW1 hc hy
  go_enter Try.func9, Try.ntmps9
  go_wp2_with fail
  rw [← HW1.out]
  go_at_call 10
  refine HM.out.mono ?_
  rintro e w2 ⟨g, cv, lv, rfl, hf2, hb2⟩
  rw [made_sF] at hf2
  have HF2 := Lib.hid (show FieldAt w2 W.heap.size g (sF 0) cv lv nilS nilS from ⟨hf2.blk, own_base hf2.cells HB1.out.1.size, own_base hf2.lights HB1.out.1.size, own_base hf2.asked HB1.out.1.size, own_base hf2.told HB1.out.1.size, Nat.le_trans HB1.out.1.size hf2.low, hf2.apart⟩)
  have HB2 := Lib.hid (HB1.out.1.trans (hb2.mono HB1.out.1.size))
  have HC2 := Lib.hid (HB1.out.2.below hb2 HB1.out.2.lt)
  have HG2 := Lib.hid (show W.heap.size < g from Nat.lt_of_lt_of_le HB1.out.2.lt hf2.low)
  obtain ⟨_, aoc, cl, hcv, hcl, _⟩ := own_rat (d := ((0, 0) : Int × Int)) clE_len hf2.cells
  have h784 : (sF 0).cells.length = 784 := by rw [sF_cells, soil_len]
  rw [h784] at hcv hcl
  subst hcv
  obtain ⟨gl, haoc, hgl, -⟩ := own_form hf2.cells (by omega)
  subst haoc
  have HGL := Lib.hid (show W.heap.size < gl from Nat.lt_of_lt_of_le HB1.out.2.lt hgl)
  clear hf2 hb2 HM h784 hgl
  go_wp2
  go_loopw [7] (fun s wr => ∃ m : Nat, m ≤ 441 ∧ s = .int .i64 m ∧ FieldAt wr W.heap.size g (sF m) (.slice (some ⟨gl, 0, none⟩) 784 cl) lv nilS nilS ∧ Below W.heap.size W wr ∧ Blk wr W.heap.size 33 #[.int .u8 c1, .int .u8 c2]) (fun s _ => 441 - (intOf s).toNat)
  case atStart => exact ⟨0, Nat.zero_le _, rfl, HF2.out, HB2.out, HC2.out⟩
  case round =>
    obtain ⟨m, hm, rfl, hf, hb, hbc⟩ := hrel
    have HF := Lib.hid hf
    have HB := Lib.hid hb
    have HBC := Lib.hid hbc
    have d6 : wr.cell? ⟨g, 6, none⟩ = some (.slice (some ⟨gl, 0, none⟩) 784 cl) := hf.blk.cell 6
    by_cases hmt : m < 441
    · have hmI : (m : Int) < 441 := by omega
      have hm7 : (m : Int) < 784 := by omega
      have hm0 : (0 : Int) ≤ (m : Int) := by omega
      have z0 := own_free hf.cells (m * 2)
      have z1 := own_free hf.cells (m * 2 + 1)
      have hat := own_at clE_len ((0, 0) : Int × Int) hf.cells (i := m) (by rw [sF_cells, soil_len]; omega)
      have e0 : wr.cell? ⟨gl, m * 2, none⟩ = some (.int .u8 ((sF m).cells.getD m (0, 0)).1) := hat 0 (by decide)
      have e1 : wr.cell? ⟨gl, m * 2 + 1, none⟩ = some (.int .u8 ((sF m).cells.getD m (0, 0)).2) := hat 1 (by decide)
      have hd := cells_set hf (by rw [sF_cells, soil_len]) m ((3, 0) : Int × Int)
      rw [sF_put (by omega)] at hd
      have HD := Lib.hid hd
      clear hf hb hbc hat hd
      go_wp2
      go_roundw
      case rel => exact ⟨m + 1, by omega, by go_num, HD.out, (HB.out.setCell (p := ⟨gl, m * 2, none⟩) (Nat.le_of_lt HGL.out) _).setCell (p := ⟨gl, m * 2 + 1, none⟩) (Nat.le_of_lt HGL.out) _, (HBC.out.other (p := ⟨gl, m * 2, none⟩) (Nat.ne_of_lt HGL.out) _).other (p := ⟨gl, m * 2 + 1, none⟩) (Nat.ne_of_lt HGL.out) _⟩
      case measure => (simp [intOf] <;> omega)
    · obtain rfl : m = 441 := by omega
      have HR := Lib.hid (right_any wr W.heap.size g (sF 441) _ lv nilS nilS hf.blk hf.cells sF_ok.box sF_ok.cells sF_ok.cin)
      clear hf hb hbc
      go_wp2_with fail
      go_at_call 18
      refine HR.out.mono ?_
      rintro e w3 ⟨rv, rfl, hr3, hb3⟩
      obtain ⟨_, aor, cr, hrv, -⟩ := own_rat (d := ((0, 0) : Int × Int)) clE_len hr3
      rw [rightL_len, show (sF 441).b.size = 784 from by rw [sF_b, oB_size]] at hrv
      subst hrv
      have hf3 := HF.out.under hb3
      have d7 : w3.cell? ⟨g, 7, none⟩ = some lv := hf3.blk.cell 7
      have k7 := hf3.blk.frozen 7
      have h4 := lights_new hf3 (own_base hr3 HB.out.size)
      rw [sF_full] at h4
      have HF4 := Lib.hid h4
      have HB4 := Lib.hid ((HB.out.trans (hb3.mono HB.out.size)).setCell (p := ⟨g, 7, none⟩) (Nat.le_of_lt HG2.out) (.slice aor 784 cr))
      have HC4 := Lib.hid ((HBC.out.below hb3 HBC.out.lt).other (p := ⟨g, 7, none⟩) (Nat.ne_of_lt HG2.out) (.slice aor 784 cr))
      obtain ⟨i, hi⟩ : ∃ i, i = 49 * y + 24 := ⟨_, rfl⟩
      have hi7 : i < 784 := by have := HY.out; omega
      have hw1 : IntKind.i64.wrap (49 * (y : Int)) = 49 * (y : Int) := wrap_small (by omega) (by have := HY.out; omega)
      have hw2 : IntKind.i64.wrap (49 * (y : Int) + 24) = (i : Int) := by rw [show 49 * (y : Int) + 24 = (i : Int) from by omega]; exact wrap_small (by omega) (by omega)
      have hat := own_at clE_len ((0, 0) : Int × Int) hf3.cells (i := i) (by rw [sF_cells, soil_len]; exact hi7)
      obtain ⟨⟨o1, o2⟩, ho⟩ : ∃ o, o = oF0.cells.getD i (0, 0) := ⟨_, rfl⟩
      rw [show (sF 441).cells = oF0.cells from by rw [sF_cells, oF0_cells], ← ho] at hat
      have d6 : w3.cell? ⟨g, 6, none⟩ = some (.slice (some ⟨gl, 0, none⟩) 784 cl) := hf3.blk.cell 6
      have e0 : w3.cell? ⟨gl, i * 2, none⟩ = some (.int .u8 o1) := hat 0 (by decide)
      have e1 : w3.cell? ⟨gl, i * 2 + 1, none⟩ = some (.int .u8 o2) := hat 1 (by decide)
      have hng : gl ≠ g := fun e => own_blk_ne hf3.cells hf3.blk (by decide) (e ▸ rfl)
      have hiI : (i : Int) < 784 := by omega
      have hi0 : (0 : Int) ≤ (i : Int) := by omega
      have HI := Lib.hid (And.intro hi (And.intro hi7 ho))
      have hs4 : (w3.setCell ⟨g, 7, none⟩ (.slice aor 784 cr)).heap.size = w3.heap.size := by simp
      clear hr3 hb3 hf3 h4 hat hi ho
      go_wp2
      obtain ⟨b9, hb9⟩ : ∃ b, b = w3.heap.size := ⟨_, rfl⟩
      obtain ⟨W5, hW5⟩ : ∃ W5, W5 = (w3.setCell ⟨g, 7, none⟩ (.slice aor 784 cr)).alloc (.cells #[.int .u8 o1, .int .u8 o2] 33) := ⟨_, rfl⟩
      rw [← hW5, ← hb9]
      have hal : Below (w3.setCell ⟨g, 7, none⟩ (.slice aor 784 cr)).heap.size (w3.setCell ⟨g, 7, none⟩ (.slice aor 784 cr)) W5 := by rw [hW5]; exact (Below.refl _ _).alloc (Nat.le_refl _) _
      have hbo : Blk W5 b9 33 #[.int .u8 o1, .int .u8 o2] := by
        have h := Blk.new (w3.setCell ⟨g, 7, none⟩ (.slice aor 784 cr)) 33 #[.int .u8 o1, .int .u8 o2]
        rw [hs4, ← hb9] at h
        rw [hW5]; exact h
      have hf5 := HF4.out.under hal
      have hc5 := HC4.out.below hal HC4.out.lt
      have HB5 := Lib.hid (HB4.out.trans (hal.mono HB4.out.size))
      have HN9 := Lib.hid (show W.heap.size < b9 ∧ gl < b9 ∧ g < b9 from by
        have h1 := HC4.out.lt
        have h2 := (HF4.out.cells.lt gl rfl).2
        have h3 := HF4.out.blk.lt
        rw [hs4] at h1 h2 h3
        omega)
      have HLR := Lib.hid (show ∀ k, (Value.slice aor 784 cr).ownBlock = some k → W.heap.size ≤ k ∧ k < b9 from fun k hk => by
        have h := HF4.out.lights.lt k hk
        rw [hs4] at h
        omega)
      have d6 : W5.cell? ⟨g, 6, none⟩ = some (.slice (some ⟨gl, 0, none⟩) 784 cl) := hf5.blk.cell 6
      have z0 := own_free hf5.cells (i * 2)
      have z1 := own_free hf5.cells (i * 2 + 1)
      have hat := own_at clE_len ((0, 0) : Int × Int) hf5.cells (i := i) (by rw [oF0_cells, soil_len]; exact hi7)
      have e0 : W5.cell? ⟨gl, i * 2, none⟩ = some (.int .u8 (oF0.cells.getD i (0, 0)).1) := hat 0 (by decide)
      have e1 : W5.cell? ⟨gl, i * 2 + 1, none⟩ = some (.int .u8 (oF0.cells.getD i (0, 0)).2) := hat 1 (by decide)
      obtain ⟨x0, x1⟩ := two_cells hc5
      have hnc : gl ≠ W.heap.size := (Nat.ne_of_lt HGL.out).symm
      have HD := Lib.hid (cells_set hf5 (by rw [oF0_cells, soil_len]) i ((c1, c2) : Int × Int))
      have HO5 := Lib.hid hbo
      clear hal hbo hf5 hc5 hat hW5 hb9 hs4 hw1 hw2 d7 k7
      go_region_held (fun w' => w'.cell? ⟨g, 6, none⟩ = some (.slice (some ⟨gl, 0, none⟩) 784 cl) ∧ w'.cell? ⟨W.heap.size, 0, none⟩ = some (.int .u8 c1) ∧ w'.cell? ⟨W.heap.size, 1, none⟩ = some (.int .u8 c2)) (simp [*, World.cell?_setCell_far]) (fail)
      clear d6 z0 z1 e0 e1 x0 x1 hnc hng
      have HF6 := Lib.hid (show FieldAt ((W5.setCell ⟨gl, i * 2, none⟩ (.int .u8 c1)).setCell ⟨gl, i * 2 + 1, none⟩ (.int .u8 c2)).drew W.heap.size g (oF0.put i (c1, c2)) (.slice (some ⟨gl, 0, none⟩) 784 cl) (.slice aor 784 cr) nilS nilS from HD.out.under (Below.refl _ _).drew)
      have HO6 := Lib.hid (show Blk ((W5.setCell ⟨gl, i * 2, none⟩ (.int .u8 c1)).setCell ⟨gl, i * 2 + 1, none⟩ (.int .u8 c2)).drew b9 33 #[.int .u8 o1, .int .u8 o2] from ((HO5.out.other (p := ⟨gl, i * 2, none⟩) (by have := HN9.out; simp; omega) _).other (p := ⟨gl, i * 2 + 1, none⟩) (by have := HN9.out; simp; omega) _).drew)
      have HB6 := Lib.hid (show Below W.heap.size W ((W5.setCell ⟨gl, i * 2, none⟩ (.int .u8 c1)).setCell ⟨gl, i * 2 + 1, none⟩ (.int .u8 c2)).drew from ((HB5.out.setCell (p := ⟨gl, i * 2, none⟩) (Nat.le_of_lt HGL.out) _).setCell (p := ⟨gl, i * 2 + 1, none⟩) (Nat.le_of_lt HGL.out) _).drew)
      generalize ((W5.setCell ⟨gl, i * 2, none⟩ (.int .u8 c1)).setCell ⟨gl, i * 2 + 1, none⟩ (.int .u8 c2)).drew = W6 at HF6 HO6 HB6 ⊢
      obtain ⟨f1, hf1⟩ : ∃ f1, f1 = oF0.put i (c1, c2) := ⟨_, rfl⟩
      have hok1 : f1.Ok := by rw [hf1]; exact put_ok oF0_ok i HC.out
      have hb1 : f1.b = oB := by rw [hf1]; unfold Fw.put; exact oF0_b
      have hl1 : f1.lights = rightL oF0 := by rw [hf1]; unfold Fw.put; exact oF0_right
      have hi8 : i < oF0.b.size := by rw [oF0_b, oB_size]; exact hi7
      have hra := right_ahead oF0_ok hi8 (c1, c2) [] []
      have he1 : ({ oF0.put i (c1, c2) with asked := [], told := [] } : Fw) = f1 := by rw [hf1]; unfold Fw.put oF0 oFb; with_reducible rfl
      rw [he1, oF0_b, ← HI.out.2.2] at hra
      rw [← hf1] at HF6
      have hin : oB.inside (oB.at_ i) := oB.at_inside (by rw [oB_size]; exact hi7)
      have HAT6 := Lib.hid (at_any W6.drew g f1 _ _ nilS nilS HF6.out.blk.drew hok1.box i (by rw [hb1, oB_size]; exact hi7))
      rw [hb1] at HAT6
      have HCH := Lib.hid (fun w (hb : Below W6.heap.size W6 w) => change_any w W.heap.size g f1 _ _ nilS nilS (HF6.out.under hb) hok1 (oB.at_ i) (by rw [hb1]; exact hin) (o1, o2) (by rw [HI.out.2.2]; exact getD_in oF0_ok.cin i) (rFL f1) (rFS f1) (rFL oF0) (rFS oF0) hra (right_right f1 hok1.box hok1.cin)
        (fun q => by
          have h1 := rightL_light oF0 oF0_right q
          unfold lightAt at h1 ⊢
          rw [hb1, hl1]
          rw [oF0_b, oF0_right] at h1
          exact h1) (by rw [← he1]; simp) (by rw [← he1]; simp))
      have HE1 := Lib.hid (And.intro hf1 (And.intro hok1 (And.intro hb1 (And.intro hl1 (And.intro (show f1.asked = [] from by rw [← he1]) (show f1.told = [] from by rw [← he1]))))))
      obtain ⟨⟨p1, p2, p3⟩, hp⟩ : ∃ p, p = oB.at_ i := ⟨_, rfl⟩
      rw [← hp] at HAT6 HCH
      unfold plV plC at HAT6
      unfold plV plC clV at HCH
      simp only at HAT6 HCH
      have c0 : ∀ w, Below W6.heap.size W6 w → w.cell? ⟨b9, 0, none⟩ = some (.int .u8 o1) ∧ w.cell? ⟨b9, 1, none⟩ = some (.int .u8 o2) := fun w hb => ⟨(hb.cell HO6.out.lt).trans (HO6.out.cell 0), (hb.cell HO6.out.lt).trans (HO6.out.cell 1)⟩
      have CC := Lib.hid c0
      obtain ⟨x0, x1⟩ := c0 W6 (Below.refl _ _)
      have HNE := Lib.hid (show ∀ k, b9 ≤ k → ¬ (QF g nilS.ownBlock k ∨ some k = nilS.ownBlock ∨ some k = (Value.slice aor 784 cr).ownBlock) from fun k hk h => by
        rcases h with (h | h) | h | h
        · have := HN9.out; omega
        · cases h
        · cases h
        · have := (HLR.out k h.symm).2; omega)
      have SW := Lib.hid (show ∀ wa wb, Below W6.heap.size W6 wa → ∀ S : Nat → Prop, Only wa wb S → ¬ S b9 → wb.cell? ⟨b9, 0, none⟩ = some (.int .u8 o1) ∧ wb.cell? ⟨b9, 1, none⟩ = some (.int .u8 o2) from fun wa wb h S ho hn => by
        obtain ⟨h1, h2⟩ := CC.out wa h
        have hl : b9 < wa.heap.size := Nat.lt_of_lt_of_le HO6.out.lt h.size
        exact ⟨(ho.cell (p := ⟨b9, 0, none⟩) hl hn).trans h1, (ho.cell (p := ⟨b9, 1, none⟩) hl hn).trans h2⟩)
      clear hf1 hok1 hb1 hl1 hi8 hra he1 hin hp c0
      go_wp2
      go_region_held (fun w' => w'.cell? ⟨b9, 0, none⟩ = some (.int .u8 o1) ∧ w'.cell? ⟨b9, 1, none⟩ = some (.int .u8 o2))
        (first | exact ⟨x0, x1⟩ | assumption | go_keep)
        (first | (go_at_call 21; (with_reducible refine HAT6.out.mono ?_); rintro e wa ⟨rfl, hb⟩; have HBA := Lib.hid ((Below.refl W6.heap.size W6).drew.trans hb); have HCHA := Lib.hid (HCH.out wa HBA.out); have S_wa := CC.out _ HBA.out; clear hb) | (go_at_call 11; (with_reducible refine HCHA.out.mono ?_); rintro e wb ⟨T, A, L', av', tv', rfl, hch⟩; have HCG := Lib.hid hch; have S_wb := SW.out wa wb HBA.out _ hch.only (HNE.out b9 (Nat.le_refl _)); clear hch))
      have hch := HCG.out
      have HL := Lib.hid (show L' = rightL f1 from lights_eq (by rw [hch.len, HE1.out.2.1.lights]) hch.lights)
      have HN := Lib.hid (show T.length = ovN y (c1, c2) from by
        have h := told_count (b := oB) (g := difB (rightL oF0) (rightL f1)) (asc_nodup hch.asc) (fun q => by
          rw [hch.mem q, HE1.out.2.2.1]
          refine and_congr_right fun hq => ?_
          have h := chg_dif (f := f1) (q := q) (by rw [HE1.out.2.2.1]; exact hq)
          rw [h, HE1.out.2.2.2.1, HE1.out.2.2.1])
        rw [h, oB_size, HE1.out.1, HI.out.1]
        rfl)
      have hBW : Below W.heap.size W wb := by
        have h1 := HB6.out.trans (HBA.out.mono HB6.out.size)
        exact ((Only.of_below (S := fun k => W.heap.size ≤ k) h1).trans hch.only (fun k hk => by
          rcases hk with (h | h) | h | h
          · exact .inl (by have := HG2.out; omega)
          · cases h
          · cases h
          · exact .inl (HLR.out k h.symm).1)).below (fun k h => h) (Nat.le_refl _)
      have HBW := Lib.hid hBW
      have HRW := Lib.hid (show LRow wb W.heap.size (.slice aor 784 cr) (rightL f1) from by rw [← HL.out]; exact hch.fld.lights)
      have d7 : wb.cell? ⟨g, 7, none⟩ = some (.slice aor 784 cr) := hch.fld.blk.cell 7
      have H7 := Lib.hid (And.intro d7 hch.fld.blk.lt)
      have HOV := Lib.hid (show ∀ k, ovL y (c1, c2) k = (rightL f1).getD (49 * k + 24) (0, 0) from fun k => by rw [HE1.out.1, HI.out.1]; rfl)
      have HLN := Lib.hid (show (rightL f1).length = 784 from by rw [rightL_len, HE1.out.2.2.1, oB_size])
      clear hch hBW d7 S_wa S_wb x0 x1 HCHA HCG HL HAT6 HCH CC SW HNE HO6 HF6 HD HO5
      obtain ⟨N, hN⟩ : ∃ N, N = T.length := ⟨_, rfl⟩
      rw [← hN] at HN ⊢
      clear hN
      go_wp2
      go_loopw [11, 12] (fun l s wr => ∃ (m : Nat), m ≤ 16 ∧ s = .int .i64 m ∧ LRow wr wb.heap.size l ((List.range m).map (ovL y (c1, c2))) ∧ Below wb.heap.size wb wr) (fun _ s _ => 16 - (intOf s).toNat)
      case atStart => exact ⟨0, Nat.zero_le _, rfl, World.ownsRow_nil _ _ _ _, Below.refl _ _⟩
      case round =>
        obtain ⟨m, hm, rfl, hrow, hbl⟩ := hrel
        have HROW := Lib.hid hrow
        have HBL := Lib.hid hbl
        by_cases hmt : m < 16
        · have hmI : (m : Int) < 16 := by omega
          obtain ⟨j, hj⟩ : ∃ j, j = 49 * m + 24 := ⟨_, rfl⟩
          have hw1 : IntKind.i64.wrap (49 * (m : Int)) = 49 * (m : Int) := wrap_small (by omega) (by omega)
          have hw2 : IntKind.i64.wrap (49 * (m : Int) + 24) = (j : Int) := by rw [show 49 * (m : Int) + 24 = (j : Int) from by omega]; exact wrap_small (by omega) (by omega)
          have hj7 : j < 784 := by omega
          have hjI : (j : Int) < 784 := by omega
          have hj0 : (0 : Int) ≤ (j : Int) := by omega
          have d7 : wr.cell? ⟨g, 7, none⟩ = some (.slice aor 784 cr) := (hbl.cell H7.out.2).trans H7.out.1
          have hrl : LRow wb W.heap.size (.slice aor 784 cr) (rightL f1) := HRW.out
          have hcr2 : 784 ≤ cr := by
            obtain ⟨_, _, cr2, hce, h, _⟩ := own_rat (d := ((0, 0) : Int × Int)) clE_len hrl
            injection hce with _ _ hce
            rw [← hce, HLN.out] at h
            exact h
          have hrl2 : wb.ownsRow W.heap.size 43 2 (.slice aor 784 cr) 784 (rc clE (rightL f1)) := by
            have h := hrl
            unfold LRow at h
            rw [HLN.out] at h
            exact h
          obtain ⟨gr, hao, -, hgr⟩ := own_form hrl2 (by omega)
          subst hao
          have hat := own_at clE_len ((0, 0) : Int × Int) (show wb.ownsRow W.heap.size 43 2 (.slice (some ⟨gr, 0, none⟩) 784 cr) (rightL f1).length (rc clE (rightL f1)) from hrl) (i := j) (by rw [HLN.out]; exact hj7)
          obtain ⟨⟨z1, z2⟩, hz⟩ : ∃ z, z = (rightL f1).getD j (0, 0) := ⟨_, rfl⟩
          rw [← hz] at hat
          have e0 : wr.cell? ⟨gr, j * 2, none⟩ = some (.int .u8 z1) := (hbl.cell hgr).trans (hat 0 (by decide))
          have e1 : wr.cell? ⟨gr, j * 2 + 1, none⟩ = some (.int .u8 z2) := (hbl.cell hgr).trans (hat 1 (by decide))
          have HM := Lib.hid (show (List.range (m + 1)).map (ovL y (c1, c2)) = (List.range m).map (ovL y (c1, c2)) ++ [(z1, z2)] from by rw [List.range_succ, List.map_append, List.map_singleton, HOV.out m, ← hj, ← hz])
          have HLEN := Lib.hid (show ((List.range m).map (ovL y (c1, c2))).length ≤ 1099511627775 from by simp; omega)
          have HSZ := Lib.hid hbl.size
          clear hrow hbl hrl hrl2 hgr hat hz hj
          go_wp2_with (at_builtin; refine row_law clE_len clE_one (by decide) Try.underlying37 infoLight rfl (by decide) HROW.out rfl _ _ rfl rfl ((z1, z2) : Int × Int) rfl rfl rfl HLEN.out HSZ.out ?_)
          intro v' w7 k1 k2 k3
          have HR7 := Lib.hid (show LRow w7 wb.heap.size v' ((List.range (m + 1)).map (ovL y (c1, c2))) from by rw [HM.out]; exact own_rc clE_len (by decide) k1 rfl)
          have HB7 := Lib.hid (show Below wb.heap.size wb w7 from (HBL.out.alloc HBL.out.size _).grown k2 (by have := HSZ.out; simp; omega) (fun k hk => (HROW.out.lt k hk).1))
          clear k1 k2 k3 e0 e1 d7
          go_wp2
          go_roundw
          case rel => exact ⟨m + 1, by omega, by go_num, HR7.out, HB7.out⟩
          case measure => (simp [intOf] <;> omega)
        · obtain rfl : m = 16 := by omega
          clear hrow hbl
          go_wp2
          refine bodyPost_ret (v := .tuple #[.int .i64 (N : Nat), u11]) (by simp [results, Try.results9, go_sem]) rfl ⟨u11, by rw [← HN.out], ?_, ?_⟩
          · exact own_base HROW.out HBW.out.size
          · exact HBW.out.trans (HBL.out.mono HBW.out.size)
end Go.Proofs.Ytlhjjmfbifhgfaa
/- Some of the chapter's answers: the walk. -/
namespace Go.Proofs.Ytlhjjmfbifhgfaa
set_option linter.unusedSimpArgs false
set_option linter.unusedVariables false
open Go.RowKit
set_option maxRecDepth 1000000

/-- A call of over, its answer said by what is known of it. -/
theorem over_lit (W : World) (y : Nat) (hy : y < 16) (c1 c2 : Int) (hc : InU c1 ∧ InU c2) (n : Nat) (hn : ovN y (c1, c2) = n) : Calls Try.prog 9 #[.int .i64 (y : Int), .agg #[.int .u8 c1, .int .u8 c2]] W fun e w' => ∃ ao cap, e = .returned (.tuple #[.int .i64 (n : Int), .slice ao 16 cap]) ∧ LRow w' W.heap.size (.slice ao 16 cap) ((List.range 16).map (ovL y (c1, c2))) ∧ Below W.heap.size W w' := by
  refine (over_any W y hy (c1, c2) hc).mono ?_
  rintro e w' ⟨v, rfl, hr, hb⟩
  obtain ⟨_, ao, cap, hv, _⟩ := own_rat (d := ((0, 0) : Int × Int)) clE_len hr
  rw [show ((List.range 16).map (ovL y (c1, c2))).length = 16 from by simp] at hv
  subst hv
  exact ⟨ao, cap, by rw [hn], hr, hb⟩
theorem ov_at {w : World} {base : Nat} {ao : Option Addr} {cap y : Nat} {c : Int × Int} (h : LRow w base (.slice ao 16 cap) ((List.range 16).map (ovL y c))) : ∃ g, ao = some ⟨g, 0, none⟩ ∧ g < w.heap.size ∧ ∀ k, k < 16 → w.cell? ⟨g, k * 2, none⟩ = some (.int .u8 (ovL y c k).1) ∧ w.cell? ⟨g, k * 2 + 1, none⟩ = some (.int .u8 (ovL y c k).2) := by
  have hl : ((List.range 16).map (ovL y c)).length = 16 := by simp
  have hcap : 16 ≤ cap := by
    obtain ⟨_, _, c2, he, h2, _⟩ := own_rat (d := ((0, 0) : Int × Int)) clE_len h
    injection he with _ _ he
    rw [← he, hl] at h2
    exact h2
  have h2 : w.ownsRow base 43 2 (.slice ao 16 cap) 16 (rc clE ((List.range 16).map (ovL y c))) := by
    have h3 := h
    unfold LRow at h3
    rw [hl] at h3
    exact h3
  obtain ⟨g, rfl, -, hg⟩ := own_form h2 (by omega)
  refine ⟨g, rfl, hg, fun k hk => ?_⟩
  have hat := own_at clE_len ((0, 0) : Int × Int) h (i := k) (by rw [hl]; exact hk)
  rw [show ((List.range 16).map (ovL y c)).getD k (0, 0) = ovL y c k from by
    rw [List.getD_eq_getElem?_getD, List.getElem?_map, List.getElem?_range hk]; rfl] at hat
  exact ⟨hat 0 (by decide), hat 1 (by decide)⟩
theorem eq_self_light (a b : Int) (ha : 0 ≤ a ∧ a ≤ 255) (hb : 0 ≤ b ∧ b ≤ 255) (w : World) : (binOp .eql 43 (.agg #[.int .u8 a, .int .u8 b]) (.agg #[.int .u8 a, .int .u8 b])).run Try.prog w = .ok (.bool true) w := by
  rw [eql_light a b a b ha hb ha hb w, decide_eq_true rfl]
set_option maxHeartbeats 16000000 in
theorem awake_any (W : World) : Calls Try.prog 6 #[] W fun e w' => e = .returned (.bool true) ∧ Below W.heap.size W w' := by
  have H1 := Lib.hid (fun w => over_lit w 12 (by decide) 11 2 (inU_lit (by decide)) 7 ex_torch.1)
  have H2 := Lib.hid (fun w => over_lit w 12 (by decide) 2 0 (inU_lit (by decide)) 4 ex_stone.1)
  have q1 := eq_self_light 15 2 (by decide) (by decide)
  have q2 := eq_self_light 15 1 (by decide) (by decide)
  have q3 := eq_self_light 0 0 (by decide) (by decide)
  have q4 := eq_self_light 14 0 (by decide) (by decide)
  go_enter Try.func6, Try.ntmps6
  go_wp2_with fail
  go_at_call 9
  refine (H1.out W).mono ?_
  rintro e w1 ⟨ao1, cap1, rfl, hr1, hb1⟩
  obtain ⟨g1, rfl, hg1, hc1⟩ := ov_at hr1
  have HB1 := Lib.hid (And.intro hb1 (And.intro hg1 hc1))
  have H2w := Lib.hid (H2.out w1)
  clear hr1 hb1 hg1 hc1 H1 H2
  go_wp2_with fail
  go_at_call 9
  refine H2w.out.mono ?_
  rintro e w2 ⟨ao2, cap2, rfl, hr2, hb2⟩
  obtain ⟨g2, rfl, hg2, hc2⟩ := ov_at hr2
  have hc1 := HB1.out.2.2
  have e1 := hc1 12 (by decide)
  have e2 := hc1 13 (by decide)
  have e3 := hc2 12 (by decide)
  have e4 := hc2 11 (by decide)
  have e5 := hc2 9 (by decide)
  rw [ex_torch.2.1] at e1
  rw [ex_torch.2.2] at e2
  rw [ex_stone.2.1] at e3
  rw [ex_stone.2.2.1] at e4
  rw [ex_stone.2.2.2] at e5
  have a0 : w2.cell? ⟨g1, 24, none⟩ = some (.int .u8 15) := (hb2.cell HB1.out.2.1).trans e1.1
  have a1 : w2.cell? ⟨g1, 25, none⟩ = some (.int .u8 2) := (hb2.cell HB1.out.2.1).trans e1.2
  have a2 : w2.cell? ⟨g1, 26, none⟩ = some (.int .u8 15) := (hb2.cell HB1.out.2.1).trans e2.1
  have a3 : w2.cell? ⟨g1, 27, none⟩ = some (.int .u8 1) := (hb2.cell HB1.out.2.1).trans e2.2
  have b0 : w2.cell? ⟨g2, 24, none⟩ = some (.int .u8 0) := e3.1
  have b1 : w2.cell? ⟨g2, 25, none⟩ = some (.int .u8 0) := e3.2
  have b2 : w2.cell? ⟨g2, 22, none⟩ = some (.int .u8 14) := e4.1
  have b3 : w2.cell? ⟨g2, 23, none⟩ = some (.int .u8 0) := e4.2
  have b4 : w2.cell? ⟨g2, 18, none⟩ = some (.int .u8 14) := e5.1
  have b5 : w2.cell? ⟨g2, 19, none⟩ = some (.int .u8 0) := e5.2
  have HB2 := Lib.hid (HB1.out.1.trans (hb2.mono HB1.out.1.size))
  clear hr2 hb2 hg2 hc2 hc1 e1 e2 e3 e4 e5
  go_wp2
  go_ret
  exact ⟨rfl, HB2.out⟩
end Go.Proofs.Ytlhjjmfbifhgfaa
/- The stage's theorem: the walk. -/
namespace Go.Proofs.Ytlhjjmfbifhgfaa
set_option linter.unusedSimpArgs false
set_option linter.unusedVariables false
open Go.RowKit
set_option maxRecDepth 1000000

theorem madeF_right (a : Pl) (x y z : Int) (cl : List (Int × Int)) : (madeF a x y z cl).lights = rightL (madeF a x y z cl) := rightL_congr (f := madeF0 a x y z cl (madeB a x y z).size) (h := madeF a x y z cl) rfl rfl
theorem madeF_ok (a : Pl) (x y z : Int) (cl : List (Int × Int)) (hin : ∀ c ∈ cl, InU c.1 ∧ InU c.2) : (madeF a x y z cl).Ok := by
  have h1 : (madeF a x y z cl).b.Ok := madeB_ok a x y z
  have h2 : ∀ c ∈ (madeF a x y z cl).cells, InU c.1 ∧ InU c.2 := tileL_in hin _
  exact ⟨h1, tileL_len _ _, by rw [madeF_right, rightL_len], h2, by rw [madeF_right]; exact rightL_in _ h1 h2⟩
def edC3 (e : Int × (Int × Int)) : List Value := [.int .i64 e.1, .int .u8 e.2.1, .int .u8 e.2.2]
set_option maxHeartbeats 16000000 in
theorem keeps_walk (W : World) (a : Pl) (x y z : Int) (v : Value) (cl : List (Int × Int)) (hv : RAt clE 2 ((0, 0) : Int × Int) W v cl) (hin : ∀ c ∈ cl, InU c.1 ∧ InU c.2) (hlen : cl.length ≤ maxLen)
    (ao : Option Addr) (len cap : Nat) (es : List (Int × (Int × Int))) (hel : es.length = len) (hml : len ≤ maxLen) (he : RAt edC3 3 ((0, 0, 0) : Int × (Int × Int)) W (.slice ao len cap) es) (hei : ∀ e ∈ es, InU e.2.1 ∧ InU e.2.2) :
    Calls Try.prog 3 #[.agg #[.int .i64 a.1, .int .i64 a.2.1, .int .i64 a.2.2, .int .i64 x, .int .i64 y, .int .i64 z, v], .slice ao len cap] W fun e w' => e = .returned (.bool true) ∧ Below W.heap.size W w' := by
  obtain ⟨W1, hW1⟩ : ∃ W1, W1 = W.alloc (.cells #[.int .i64 a.1, .int .i64 a.2.1, .int .i64 a.2.2, .int .i64 x, .int .i64 y, .int .i64 z, v] 26) := ⟨_, rfl⟩
  have hB1 : Below W.heap.size W W1 := by rw [hW1]; exact (Below.refl _ _).alloc (Nat.le_refl _) _
  have hb := Blk.new W 26 #[.int .i64 a.1, .int .i64 a.2.1, .int .i64 a.2.2, .int .i64 x, .int .i64 y, .int .i64 z, v]
  rw [← hW1] at hb
  have HH := Lib.hid (hole_any W1 a x y z v cl (hv.below hB1) hin hlen)
  have HMK := Lib.hid (And.intro (madeF_ok a x y z cl hin) (madeF_right a x y z cl))
  obtain ⟨f0, hf0⟩ : ∃ f0, f0 = madeF a x y z cl := ⟨_, rfl⟩
  rw [← hf0] at HH HMK
  have HAW := Lib.hid (awake_any)
  have HB1 := Lib.hid hB1
  have HW1 := Lib.hid hW1
  have HE := Lib.hid (And.intro he (And.intro hei hel))
  obtain ⟨a1, a2, a3⟩ := a
  simp only at hb HH hW1 HW1 ⊢
  have c0 : W1.cell? ⟨W.heap.size, 0, none⟩ = some (.int .i64 a1) := hb.cell 0
  have c1 : W1.cell? ⟨W.heap.size, 1, none⟩ = some (.int .i64 a2) := hb.cell 1
  have c2 : W1.cell? ⟨W.heap.size, 2, none⟩ = some (.int .i64 a3) := hb.cell 2
  have c3 : W1.cell? ⟨W.heap.size, 3, none⟩ = some (.int .i64 x) := hb.cell 3
  have c4 : W1.cell? ⟨W.heap.size, 4, none⟩ = some (.int .i64 y) := hb.cell 4
  have c5 : W1.cell? ⟨W.heap.size, 5, none⟩ = some (.int .i64 z) := hb.cell 5
  have c6 : W1.cell? ⟨W.heap.size, 6, none⟩ = some v := hb.cell 6
  rw [hW1] at c0 c1 c2 c3 c4 c5 c6
  have hml2 := hml
  unfold maxLen at hml2
  clear hv hin hlen hB1 hb hW1 hf0 he hei hel hml
  go_enter Try.func3, Try.ntmps3
  by_cases hbig : 40 < len
  · have hbI : (40 : Int) < (len : Int) := by omega
    clear c0 c1 c2 c3 c4 c5 c6
    go_wp2_with fail
    rw [← HW1.out]
    go_at_call 6
    refine (HAW.out W1).mono ?_
    rintro e w2 ⟨rfl, hb2⟩
    have HB2 := Lib.hid (HB1.out.trans (hb2.mono HB1.out.size))
    clear hb2
    go_wp2
    go_ret
    exact ⟨rfl, HB2.out⟩
  · have hbI : ¬ (40 : Int) < (len : Int) := by omega
    go_wp2_with fail
    rw [← HW1.out]
    go_at_call 7
    refine HH.out.mono ?_
    rintro e w2 ⟨g, cv, lv, rfl, hf2, hb2⟩
    have HF2 := Lib.hid (show FieldAt w2 W.heap.size g f0 cv lv nilS nilS from ⟨hf2.blk, own_base hf2.cells HB1.out.size, own_base hf2.lights HB1.out.size, own_base hf2.asked HB1.out.size, own_base hf2.told HB1.out.size, Nat.le_trans HB1.out.size hf2.low, hf2.apart⟩)
    have HB2 := Lib.hid (HB1.out.trans (hb2.mono HB1.out.size))
    clear hf2 hb2 c0 c1 c2 c3 c4 c5 c6 hbI
    go_wp2
    go_loopw [6] (fun s wr => ∃ m : Nat, m ≤ len ∧ s = .int .i64 m ∧ ∃ f av tv, FieldAt wr W.heap.size g f cv lv av tv ∧ f.Ok ∧ f.lights = rightL f ∧ Below W.heap.size W wr) (fun s _ => len - (intOf s).toNat)
    case atStart => exact ⟨0, Nat.zero_le _, rfl, f0, nilS, nilS, HF2.out, HMK.out.1, HMK.out.2, HB2.out⟩
    case round =>
      obtain ⟨m, hm, rfl, f, av, tv, hf, hok, hrl, hbl⟩ := hrel
      have HBL := Lib.hid hbl
      by_cases hmt : m < len
      · have hmI : (m : Int) < (len : Int) := by omega
        have hm0 : (0 : Int) ≤ (m : Int) := by omega
        have hme : m < es.length := by rw [HE.out.2.2]; exact hmt
        obtain ⟨bk, off, hao, hbk, hat⟩ := HE.out.1.some_ hme
        subst hao
        obtain ⟨⟨n, d1, d2⟩, hd⟩ : ∃ e, e = es.getD m (0, 0, 0) := ⟨_, rfl⟩
        rw [← hd] at hat
        have hdm : (n, d1, d2) ∈ es := by
          rw [hd, List.getD_eq_getElem?_getD, List.getElem?_eq_getElem hme]
          exact List.getElem_mem hme
        have HK := Lib.hid (kept_any wr W.heap.size g f cv lv av tv hf hok hrl hbl.size n (d1, d2) (HE.out.2.1 _ hdm))
        have x0 : wr.cell? ⟨bk, off + m * 3, none⟩ = some (.int .i64 n) := (hbl.cell (p := ⟨bk, _, none⟩) hbk).trans (hat 0 (by decide))
        have x1 : wr.cell? ⟨bk, off + m * 3 + 1, none⟩ = some (.int .u8 d1) := (hbl.cell (p := ⟨bk, _, none⟩) hbk).trans (hat 1 (by decide))
        have x2 : wr.cell? ⟨bk, off + m * 3 + 2, none⟩ = some (.int .u8 d2) := (hbl.cell (p := ⟨bk, _, none⟩) hbk).trans (hat 2 (by decide))
        clear hf hok hrl hbl hme hat hd hdm hbk
        go_wp2_with fail
        go_at_call 8
        refine HK.out.mono ?_
        rintro e w3 ⟨rfl, f', av', tv', hf', hok', hrl', hb'⟩
        have HN := Lib.hid (show ∃ f av tv, FieldAt w3 W.heap.size g f cv lv av tv ∧ f.Ok ∧ f.lights = rightL f ∧ Below W.heap.size W w3 from ⟨f', av', tv', hf', hok', hrl', HBL.out.trans hb'⟩)
        clear hf' hok' hrl' hb' x0 x1 x2
        go_wp2
        go_roundw
        case rel => exact ⟨m + 1, by omega, by go_num, HN.out⟩
        case measure => (simp [intOf] <;> omega)
      · have hmn : m = len := by omega
        subst hmn
        clear hf hok hrl hbl
        go_wp2_with fail
        go_at_call 6
        refine (HAW.out wr).mono ?_
        rintro e w3 ⟨rfl, hb3⟩
        have HB3 := Lib.hid (HBL.out.trans (hb3.mono HBL.out.size))
        clear hb3
        go_wp2
        go_ret
        exact ⟨rfl, HB3.out⟩
end Go.Proofs.Ytlhjjmfbifhgfaa
