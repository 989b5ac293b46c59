/- Joined texts of one seat, each under its own heading below. -/
import Derived.Test.YtlhjjmfbifhgfaaFM12
import Derived.Test.YtlhjjmfbifhgfaaFM9
import Derived.StillTailTactics
import Derived.Sort.Grow
/- Places by the program's order: place.Cmp, slices.SortFunc, slices.Clone: the walks. -/
namespace Go.Proofs.Ytlhjjmfbifhgfaa
set_option linter.unusedSimpArgs false
set_option linter.unusedVariables false
open Go.RowKit
def ltS (a b : Pl) : Prop := a.1 < b.1 ∨ a.1 = b.1 ∧ (a.2.2 < b.2.2 ∨ a.2.2 = b.2.2 ∧ a.2.1 < b.2.1)
def cmp1 (a b : Int) : Int := if a < b then -1 else if b < a then 1 else 0
def cmpS (a b : Pl) : Int := if a.1 = b.1 then (if a.2.2 = b.2.2 then cmp1 a.2.1 b.2.1 else cmp1 a.2.2 b.2.2) else cmp1 a.1 b.1
theorem cmpS_lt {a b : Pl} : cmpS a b < 0 ↔ ltS a b := by
  unfold cmpS ltS cmp1
  by_cases h1 : a.1 = b.1
  · by_cases h2 : a.2.2 = b.2.2
    · by_cases h3 : a.2.1 < b.2.1
      · simp [h1, h2, h3]
      · by_cases h4 : b.2.1 < a.2.1 <;> simp [h1, h2, h3, h4]
    · by_cases h3 : a.2.2 < b.2.2
      · simp [h1, h2, h3]
      · by_cases h4 : b.2.2 < a.2.2 <;> simp [h1, h2, h3, h4]
  · by_cases h3 : a.1 < b.1
    · simp [h1, h3]
    · by_cases h4 : b.1 < a.1 <;> simp [h1, h3, h4]
theorem ltS_irrefl (a : Pl) : ¬ ltS a a := by unfold ltS; omega
theorem ltS_trans {a b c : Pl} (h : ltS a b) (k : ltS b c) : ltS a c := by unfold ltS at *; omega
theorem ltS_asymm {a b : Pl} (h : ltS a b) : ¬ ltS b a := by unfold ltS at *; omega
theorem ltS_total {a b : Pl} (h : ¬ ltS a b) (k : ¬ ltS b a) : a = b := by
  unfold ltS at *
  obtain ⟨a1, a2, a3⟩ := a
  obtain ⟨b1, b2, b3⟩ := b
  simp only [Prod.mk.injEq] at *
  omega
theorem cmpS_eq {a b : Pl} : cmpS a b = 0 ↔ a = b := by
  constructor
  · intro h
    have h1 : ¬ ltS a b := fun k => by have := cmpS_lt.2 k; omega
    refine ltS_total h1 fun k => ?_
    have := cmpS_lt.2 k
    unfold cmpS cmp1 at *
    unfold ltS at *
    repeat' split at h
    all_goals omega
  · rintro rfl
    simp [cmpS, cmp1]
instance (a b : Pl) : Decidable (ltS a b) := by unfold ltS; infer_instance

/-! ### lists that rise -/
def Asc (m : List Pl) : Prop := m.Pairwise ltS
theorem asc_unique : ∀ {l m : List Pl}, Asc l → Asc m → (∀ s, s ∈ l ↔ s ∈ m) → l = m := by
  intro l m hl hm h
  have nd : ∀ {l : List Pl}, Asc l → l.Nodup := fun hl => List.nodup_iff_pairwise_ne.2 (hl.imp fun {a b} hab e => by subst e; exact ltS_irrefl _ hab)
  exact List.Perm.eq_of_pairwise (le := ltS) (fun x y _ _ h1 h2 => absurd h2 (ltS_asymm h1)) hl hm ((List.perm_ext_iff_of_nodup (nd hl) (nd hm)).2 h)
open Go.Sort in
section
open Go.Sort
theorem Blk.three {w : World} {p t : Nat} {x y z : Value} (h : Blk w p t #[x, y, z]) : w.cell? ⟨p, 0, none⟩ = some x ∧ w.cell? ⟨p, 1, none⟩ = some y ∧ w.cell? ⟨p, 2, none⟩ = some z ∧ w.frozen? ⟨p, 0, none⟩ = false ∧ w.frozen? ⟨p, 1, none⟩ = false ∧ w.frozen? ⟨p, 2, none⟩ = false :=
  ⟨h.cell 0, h.cell 1, h.cell 2, h.frozen 0, h.frozen 1, h.frozen 2⟩
theorem ret_int {k : IntKind} {a b : Int} (h : a = b) : Ending.returned (.int k a) = .returned (.int k b) := by rw [h]
def orI (a b c : Int) : Int := if a = 0 then (if b = 0 then c else b) else a
set_option maxRecDepth 100000 in
set_option maxHeartbeats 1000000 in
theorem or_any {w : World} {b : Nat} {x y z : Int} (h : Blk w b 3 #[.int .i64 x, .int .i64 y, .int .i64 z]) :
    Calls Try.prog 55 #[.slice (some ⟨b, 0, none⟩) 3 3] w fun e w' => e = .returned (.int .i64 (orI x y z)) ∧ w = w' := by
  have c0 : w.cell? ⟨b, 0, none⟩ = some (.int .i64 x) := h.cell 0
  have c1 : w.cell? ⟨b, 1, none⟩ = some (.int .i64 y) := h.cell 1
  have c2 : w.cell? ⟨b, 2, none⟩ = some (.int .i64 z) := h.cell 2
  clear h
  go_enter Try.func55, Try.ntmps55
  go_wp2
  go_loop [8] (fun s => ∃ k : Nat, k ≤ 3 ∧ s = .int .i64 (k : Nat) ∧ (0 < k → x = 0) ∧ (1 < k → y = 0) ∧ (2 < k → z = 0)) (fun s => 3 - (intOf s).toNat)
  case atStart => exact ⟨0, Nat.zero_le _, rfl, fun h => absurd h (by decide), fun h => absurd h (by decide), fun h => absurd h (by decide)⟩
  case round =>
    obtain ⟨k, hk, rfl, h0, h1, h2⟩ := hrel
    have H := Lib.hid (And.intro h0 (And.intro h1 h2))
    clear h0 h1 h2
    match k, hk with
    | 0, _ =>
      by_cases hx : x = 0
      · have k1 : (x != 0) = false := by simpa using hx
        have HX := Lib.hid hx
        clear hx
        go_wp2
        go_round
        case rel => exact ⟨1, by omega, rfl, fun _ => HX.out, fun h => absurd h (by decide), fun h => absurd h (by decide)⟩
        case measure => simp [intOf]
      · have k1 : (x != 0) = true := by simpa using hx
        have HX := Lib.hid hx
        clear hx
        go_wp2
        go_ret
        exact ⟨ret_int (by rw [orI, if_neg HX.out]), rfl⟩
    | 1, _ =>
      by_cases hx : y = 0
      · have k1 : (y != 0) = false := by simpa using hx
        have HX := Lib.hid hx
        clear hx
        go_wp2
        go_round
        case rel => exact ⟨2, by omega, rfl, fun _ => H.out.1 (by decide), fun _ => HX.out, fun h => absurd h (by decide)⟩
        case measure => simp [intOf]
      · have k1 : (y != 0) = true := by simpa using hx
        have HX := Lib.hid hx
        clear hx
        go_wp2
        go_ret
        exact ⟨ret_int (by rw [orI, if_pos (H.out.1 (by decide)), if_neg HX.out]), rfl⟩
    | 2, _ =>
      by_cases hx : z = 0
      · have k1 : (z != 0) = false := by simpa using hx
        have HX := Lib.hid hx
        clear hx
        go_wp2
        go_round
        case rel => exact ⟨3, by omega, rfl, fun _ => H.out.1 (by decide), fun _ => H.out.2.1 (by decide), fun _ => HX.out⟩
        case measure => simp [intOf]
      · have k1 : (z != 0) = true := by simpa using hx
        have HX := Lib.hid hx
        clear hx
        go_wp2
        go_ret
        exact ⟨ret_int (by rw [orI, if_pos (H.out.1 (by decide)), if_pos (H.out.2.1 (by decide))]), rfl⟩
    | 3, _ =>
      go_wp2
      go_ret
      exact ⟨ret_int (by rw [orI, if_pos (H.out.1 (by decide)), if_pos (H.out.2.1 (by decide)), H.out.2.2 (by decide)]), rfl⟩
theorem or_cmp (a b : Pl) : orI (cmp1 a.1 b.1) (cmp1 a.2.2 b.2.2) (cmp1 a.2.1 b.2.1) = cmpS a b := by
  have hz : ∀ x y : Int, cmp1 x y = 0 ↔ x = y := fun x y => by unfold cmp1; by_cases h1 : x < y <;> by_cases h2 : y < x <;> simp [h1, h2] <;> omega
  unfold orI cmpS
  simp only [hz]
theorem compare_any (w : World) (x y : Int) : Calls Try.prog 56 #[.int .i64 x, .int .i64 y] w fun e w' => e = .returned (.int .i64 (cmp1 x y)) ∧ w = w' := by
  have h := AnyG.cmp_Compare_int Try.cmpT x y w
  change Calls Try.prog 56 _ _ _ at h
  exact h.mono fun _ _ ⟨he, hw⟩ => ⟨he, hw.symm⟩
theorem compare_any' (w : World) (x y : Int) : Calls Try.prog 56 #[.int .i64 x, .int .i64 y] w fun e w' => e = .returned (.int .i64 (cmp1 x y)) ∧ w' = w :=
  (compare_any w x y).mono fun _ _ ⟨he, hw⟩ => ⟨he, hw.symm⟩
set_option maxRecDepth 100000 in
set_option maxHeartbeats 2000000 in
theorem cmpP_any (w : World) (a b : Pl) : Calls Try.prog 39 #[plV a, plV b] w fun e w' => e = .returned (.int .i64 (cmpS a b)) ∧ ∃ q os, w' = grow (w.drewN q) os := by
  obtain ⟨W, hW⟩ : ∃ W : World, W = ((w.alloc (.cells #[.int .i64 a.1, .int .i64 a.2.1, .int .i64 a.2.2] 23)).alloc (.cells #[.int .i64 b.1, .int .i64 b.2.1, .int .i64 b.2.2] 23)).drew := ⟨_, rfl⟩
  have HW := Lib.hid (show ∃ os, W = grow w.drew os from ⟨_, by rw [hW, alloc_eq_grow, alloc_eq_grow, grow_grow]; rfl⟩)
  have hsz : (w.alloc (.cells #[.int .i64 a.1, .int .i64 a.2.1, .int .i64 a.2.2] 23)).heap.size = w.heap.size + 1 := by simp
  have k0 : Blk W w.heap.size 23 #[.int .i64 a.1, .int .i64 a.2.1, .int .i64 a.2.2] := by rw [hW]; exact (Blk.new w _ _).alloc _
  have k1 : Blk W (w.heap.size + 1) 23 #[.int .i64 b.1, .int .i64 b.2.1, .int .i64 b.2.2] := by rw [hW, ← hsz]; exact Blk.new _ _ _
  obtain ⟨c0, c1, c2, -⟩ := k0.three
  obtain ⟨d0, d1, d2, -⟩ := k1.three
  have HW0 := Lib.hid hW
  clear hW hsz k0 k1
  unfold plV plC
  go_enter Try.func39, Try.ntmps39
  go_wp2
  refine wp_region_still_tail 15 (by kernel_rfl) (by kernel_rfl) ?_
  simp only [List.take_succ_cons, List.take_zero, List.drop_succ_cons, List.drop_zero]
  change wpStill _ _ (World.drew _) (fun a' => wpList _ _ _ _ a' (World.drew _)) _ _
  rw [← HW0.out]
  repeat still_step
  still_call (compare_any' _ _ _)
  repeat still_step
  still_call (compare_any' _ _ _)
  repeat still_step
  still_call (compare_any' _ _ _)
  refine wpStill_nil ?_
  have HO := Lib.hid (or_any (Blk.new W 3 #[.int .i64 (cmp1 a.1 b.1), .int .i64 (cmp1 a.2.2 b.2.2), .int .i64 (cmp1 a.2.1 b.2.1)]))
  go_wp2_with (go_at_call 55; (with_reducible refine HO.out.mono ?_); rintro e w' ⟨rfl, rfl⟩)
  go_ret
  obtain ⟨os, rfl⟩ := HW.out
  exact ⟨ret_int (or_cmp a b), 1, _, (alloc_eq_grow _ _).trans (grow_grow _ _ _)⟩
theorem below_of_grow {w w' : World} {q : Nat} {os : Array Obj} (h : w' = grow (w.drewN q) os) : Below w.heap.size w w' := by
  subst h
  exact ⟨rfl, rfl, rfl, by simp [grow], fun i hi => by rw [heap_grow_old _ _ (by simpa using hi)]; rfl⟩
end
section
open Go.Lib Go.Sort Go.Shelf
theorem ltOf_cmpS (a b : Pl) : ltOf cmpS a b = decide (ltS a b) := by
  unfold ltOf
  exact decide_eq_decide.2 cmpS_lt
theorem swoS : SWO (ltOf cmpS) where
  irrefl x := by rw [ltOf_cmpS]; simpa using ltS_irrefl x
  trans x y z h1 h2 := by rw [ltOf_cmpS] at *; simp at *; exact ltS_trans h1 h2
  ntrans x y z h1 h2 := by
    rw [ltOf_cmpS] at *
    simp only [decide_eq_false_iff_not] at *
    intro h
    unfold ltS at *
    omega
theorem cmp_lays (blk off size : Nat) (w : World) : CmpLays Try.prog 39 #[] plE 3 cmpS blk off size w := fun _ _ _ _ x y => cmpP_any _ x y
set_option maxRecDepth 100000 in
set_option maxHeartbeats 1000000 in
/-- slices.SortFunc of an own row of spots. -/
theorem sort_any {w : World} {base : Nat} {v : Value} {l : List Pl} (h : PRow w base v l) (hbase : base ≤ w.heap.size) (hlen : l.length ≤ 4096) (hn : l.Nodup) :
    Calls Try.prog 38 #[v, .func (.func 39) #[] #[]] w fun e w' => e = .returned (.tuple #[]) ∧ w.grownBy w' v.ownBlock ∧ ∃ m, Asc m ∧ (∀ s, s ∈ m ↔ s ∈ l) ∧ PRow w' base v m := by
  rcases h.2 with ⟨rfl, h0⟩ | ⟨g, cap, cur, rfl, hb, hg, r⟩
  · have hc := AnyF.slices_SortFunc_none (P := Try.prog) (ρ := Try.sortT_ren) { Try.sortT with } none 0 (.func (.func 39) #[] #[]) w
    change Calls Try.prog 38 _ _ _ at hc
    refine hc.mono ?_
    rintro e w' ⟨rfl, rfl⟩
    have hl : l = [] := List.eq_nil_of_length_eq_zero h0
    subst hl
    exact ⟨rfl, World.grownBy.refl _ _, [], List.Pairwise.nil, fun _ => Iff.rfl, World.ownsRow_nil _ _ _ _⟩
  · have eg : ∀ args w, (callFunc 39 args).run Try.prog w = .ok (.enter 39 args) w := enters_of Try.func39 (by kernel_rfl) rfl
    have hH := own_holds plE_len (by decide) h rfl
    have hg' : g < w.heap.size := (Array.getElem?_eq_some_iff.1 hg).1
    have hc := AnyQ.slices_SortFunc Try.sortT 3 Try.isAgg23 Try.sizeOf23 plE (fun _ => rfl) (fun x v hv => plE_one x v hv) cmpS swoS 39 #[] g 0 cap l.toArray w eg (cmp_lays g 0 l.toArray.size w) hH hg' (by simp; omega)
    change Calls Try.prog 38 _ _ _ at hc
    have hs : l.toArray.size = l.length := by simp
    rw [hs] at hc
    refine hc.mono ?_
    rintro e w' ⟨rfl, d', n, os, hpi, hsi, rfl⟩
    have hd : d'.size = l.length := by rw [hpi.1, hs]
    obtain ⟨hp, hasc⟩ := sorted_by (R := ltS) (cf := cmpS) (fun x y hne hf => by
      rw [ltOf_cmpS] at hf
      simp only [decide_eq_false_iff_not] at hf
      exact Classical.byContradiction fun h => hne (ltS_total h hf)) (d := l.toArray) (by rw [hs]; exact hpi) (by rw [hs]; exact hsi) hn
    have ho := own_sorted plE_len (by decide) (q := n) (os := os) h d' hd
    refine ⟨rfl, grownBy_sorted (flatK plE 3 d'), d'.toList, hasc, fun s => hp.mem_iff, ?_⟩
    have e : l.length = d'.toList.length := by simp [hd]
    show World.ownsRow _ _ _ _ _ d'.toList.length _
    rw [← e]
    exact ho
end
end Go.Proofs.Ytlhjjmfbifhgfaa
