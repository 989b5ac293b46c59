/- Places and spots: the walks. -/
import Derived.Test.YtokmbnmhdicljaaLay
import Derived.Test.YtokmbnmhdicljaaAnchorPure
import Derived.Test.YtokmbnmhdicljaaKit
import Derived.StillTailTactics
import Derived.Shelf.SlicesG.Cmp
import Derived.Shelf.Lay
import Derived.Shelf.SlGeneric
import Derived.Ground.SlgcProg
import Derived.Sort.Grow
namespace Go.Proofs.Ytokmbnmhdicljaa
open Go.RowKit Go.Sort

/-- A spot's value. -/
abbrev spV (s : Sp) : Value := .agg #[.int .i64 s.1, .int .i64 s.2.1, .int .i64 s.2.2]
theorem ret_bool {a b : Bool} (h : a = b) : Ending.returned (.bool a) = .returned (.bool b) := by rw [h]
set_option maxRecDepth 100000 in
set_option maxHeartbeats 1000000 in
theorem maySpot_any (w : World) (s : Sp) :
    Calls Try.prog 18 #[spV s] w fun e w' => e = .returned (.bool (maySpot s)) ∧ Below w.heap.size w w' := by
  have HB := Lib.hid (show Below w.heap.size w (w.alloc (.cells #[.int .i64 s.1, .int .i64 s.2.1, .int .i64 s.2.2] 23)) from (Below.refl _ _).alloc (Nat.le_refl _) _)
  go_enter Try.func18, Try.ntmps18
  go_wp2
  all_goals
    go_ret
    exact ⟨ret_bool (by rw [Bool.eq_iff_iff]; simp [maySpot]; try omega), HB.out⟩
/-- A place. -/
def mayP (s : Sp) : Bool := decide (-1048576 ≤ s.1 ∧ s.1 < 1048576 ∧ -1048576 ≤ s.2.2 ∧ s.2.2 < 1048576 ∧ 0 ≤ s.2.1 ∧ s.2.1 < 64)
set_option maxRecDepth 100000 in
set_option maxHeartbeats 1000000 in
theorem mayP_any (w : World) (s : Sp) :
    Calls Try.prog 28 #[spV s] w fun e w' => e = .returned (.bool (mayP s)) ∧ Below w.heap.size w w' := by
  have HB := Lib.hid (show Below w.heap.size w (w.alloc (.cells #[.int .i64 s.1, .int .i64 s.2.1, .int .i64 s.2.2] 32)) from (Below.refl _ _).alloc (Nat.le_refl _) _)
  go_enter Try.func28, Try.ntmps28
  go_wp2
  all_goals
    go_ret
    exact ⟨ret_bool (by rw [Bool.eq_iff_iff]; simp [mayP]; try omega), HB.out⟩
/-- A place's spot. -/
def spotOf (s : Sp) : Sp × Bool := if mayP s = true then ((s.1 / 16, s.2.1 / 16, s.2.2 / 16), true) else ((0, 0, 0), false)
theorem Blk.three {w : World} {p t : Nat} {x y z : Value} (h : Blk w p t #[x, y, z]) : w.cell? ⟨p, 0, none⟩ = some x ∧ w.cell? ⟨p, 1, none⟩ = some y ∧ w.cell? ⟨p, 2, none⟩ = some z ∧ w.frozen? ⟨p, 0, none⟩ = false ∧ w.frozen? ⟨p, 1, none⟩ = false ∧ w.frozen? ⟨p, 2, none⟩ = false :=
  ⟨h.cell 0, h.cell 1, h.cell 2, h.frozen 0, h.frozen 1, h.frozen 2⟩
theorem Blk.reset3 {w : World} {p t : Nat} {x y z : Value} (h : Blk w p t #[x, y, z]) (x' y' z' : Value) : Blk (((w.setCell ⟨p, 0, none⟩ x').setCell ⟨p, 1, none⟩ y').setCell ⟨p, 2, none⟩ z') p t #[x', y', z'] := ((h.set_ 0 x').set_ 1 y').set_ 2 z'
theorem below_set3 {B : Nat} {w0 w : World} (h : Below B w0 w) {p : Nat} (hp : B ≤ p) (x y z : Value) : Below B w0 (((w.setCell ⟨p, 0, none⟩ x).setCell ⟨p, 1, none⟩ y).setCell ⟨p, 2, none⟩ z) :=
  ((h.setCell (p := ⟨p, 0, none⟩) hp x).setCell (p := ⟨p, 1, none⟩) hp y).setCell (p := ⟨p, 2, none⟩) hp z
set_option maxRecDepth 100000 in
set_option maxHeartbeats 1000000 in
theorem spot_any (w : World) (s : Sp) :
    Calls Try.prog 20 #[spV s] w fun e w' => e = .returned (.tuple #[spV (spotOf s).1, .bool (spotOf s).2]) ∧ Below w.heap.size w w' := by
  have hb := (show Below w.heap.size w (w.alloc (.cells #[.int .i64 s.1, .int .i64 s.2.1, .int .i64 s.2.2] 32)) from (Below.refl _ _).alloc (Nat.le_refl _) _).alloc (by simp) (.cells #[.int .i64 0, .int .i64 0, .int .i64 0] 23)
  have hsz : (w.alloc (.cells #[.int .i64 s.1, .int .i64 s.2.1, .int .i64 s.2.2] 32)).heap.size = w.heap.size + 1 := by simp
  have HB := Lib.hid hb
  have HK0 := Lib.hid ((Blk.new w 32 #[.int .i64 s.1, .int .i64 s.2.1, .int .i64 s.2.2]).alloc (.cells #[.int .i64 0, .int .i64 0, .int .i64 0] 23))
  have HK1 := Lib.hid (show Blk _ (w.heap.size + 1) _ _ from hsz ▸ Blk.new (w.alloc (.cells #[.int .i64 s.1, .int .i64 s.2.1, .int .i64 s.2.2] 32)) 23 #[.int .i64 0, .int .i64 0, .int .i64 0])
  have HM := Lib.hid (mayP_any ((w.alloc (.cells #[.int .i64 s.1, .int .i64 s.2.1, .int .i64 s.2.2] 32)).alloc (.cells #[.int .i64 0, .int .i64 0, .int .i64 0] 23)) s)
  clear hb hsz
  go_enter Try.func20, Try.ntmps20
  cases hm : mayP s with
  | true =>
    rw [hm] at HM
    have HS := Lib.hid (show spotOf s = ((s.1 / 16, s.2.1 / 16, s.2.2 / 16), true) by simp [spotOf, hm])
    have hbd : -1048576 ≤ s.1 ∧ s.1 < 1048576 ∧ -1048576 ≤ s.2.2 ∧ s.2.2 < 1048576 ∧ 0 ≤ s.2.1 ∧ s.2.1 < 64 := by simpa [mayP] using hm
    obtain ⟨b1, b2, b3, b4, b5, b6⟩ := hbd
    clear hm
    go_wp2_with fail
    go_at_call 28
    refine HM.out.mono ?_
    rintro e w1 ⟨rfl, hb1⟩
    have hk1 := HK1.out.below hb1 HK1.out.lt
    obtain ⟨c0, c1, c2, -, -, -⟩ := (HK0.out.below hb1 HK0.out.lt).three
    obtain ⟨-, -, -, f0, f1, f2⟩ := hk1.three
    obtain ⟨d0, d1, d2, -⟩ := hk1.three
    have HB1 := Lib.hid (HB.out.trans (hb1.mono HB.out.size))
    have KB := Lib.hid hk1
    clear hb1 hk1
    go_wp2
    obtain ⟨q0, q1, q2, -⟩ := (KB.out.reset3 (.int .i64 (s.1 / 16)) (.int .i64 (s.2.1 / 16)) (.int .i64 (s.2.2 / 16))).three
    exact bodyPost_ret (v := .tuple #[spV (s.1 / 16, s.2.1 / 16, s.2.2 / 16), .bool true]) (by simp [results, Try.results20, go_sem, q0, q1, q2]) rfl
      ⟨by rw [HS.out], below_set3 HB1.out (Nat.le_succ _) _ _ _⟩
  | false =>
    rw [hm] at HM
    have HS := Lib.hid (show spotOf s = ((0, 0, 0), false) by simp [spotOf, hm])
    clear hm
    go_wp2_with fail
    go_at_call 28
    refine HM.out.mono ?_
    rintro e w1 ⟨rfl, hb1⟩
    have hk1 := HK1.out.below hb1 HK1.out.lt
    obtain ⟨d0, d1, d2, f0, f1, f2⟩ := hk1.three
    have HB1 := Lib.hid (HB.out.trans (hb1.mono HB.out.size))
    have KB := Lib.hid hk1
    clear hb1 hk1
    go_wp2
    obtain ⟨q0, q1, q2, -⟩ := (KB.out.reset3 (.int .i64 0) (.int .i64 0) (.int .i64 0)).three
    exact bodyPost_ret (v := .tuple #[spV (0, 0, 0), .bool false]) (by simp [results, Try.results20, go_sem, q0, q1, q2]) rfl
      ⟨by rw [HS.out], below_set3 HB1.out (Nat.le_succ _) _ _ _⟩
theorem ret_int {k : IntKind} {a b : Int} (h : a = b) : Ending.returned (.int k a) = .returned (.int k b) := by rw [h]
def orI (a b c : Int) : Int := if a = 0 then (if b = 0 then c else b) else a
set_option maxRecDepth 100000 in
set_option maxHeartbeats 1000000 in
theorem or_any {w : World} {b : Nat} {x y z : Int} (h : Blk w b 3 #[.int .i64 x, .int .i64 y, .int .i64 z]) :
    Calls Try.prog 35 #[.slice (some ⟨b, 0, none⟩) 3 3] w fun e w' => e = .returned (.int .i64 (orI x y z)) ∧ w = w' := by
  have c0 : w.cell? ⟨b, 0, none⟩ = some (.int .i64 x) := h.cell 0
  have c1 : w.cell? ⟨b, 1, none⟩ = some (.int .i64 y) := h.cell 1
  have c2 : w.cell? ⟨b, 2, none⟩ = some (.int .i64 z) := h.cell 2
  clear h
  go_enter Try.func35, Try.ntmps35
  go_wp2
  go_loop [8] (fun s => ∃ k : Nat, k ≤ 3 ∧ s = .int .i64 (k : Nat) ∧ (0 < k → x = 0) ∧ (1 < k → y = 0) ∧ (2 < k → z = 0)) (fun s => 3 - (intOf s).toNat)
  case atStart => exact ⟨0, Nat.zero_le _, rfl, fun h => absurd h (by decide), fun h => absurd h (by decide), fun h => absurd h (by decide)⟩
  case round =>
    obtain ⟨k, hk, rfl, h0, h1, h2⟩ := hrel
    have H := Lib.hid (And.intro h0 (And.intro h1 h2))
    clear h0 h1 h2
    match k, hk with
    | 0, _ =>
      by_cases hx : x = 0
      · have k1 : (x != 0) = false := by simpa using hx
        have HX := Lib.hid hx
        clear hx
        go_wp2
        go_round
        case rel => exact ⟨1, by omega, rfl, fun _ => HX.out, fun h => absurd h (by decide), fun h => absurd h (by decide)⟩
        case measure => simp [intOf]
      · have k1 : (x != 0) = true := by simpa using hx
        have HX := Lib.hid hx
        clear hx
        go_wp2
        go_ret
        exact ⟨ret_int (by rw [orI, if_neg HX.out]), rfl⟩
    | 1, _ =>
      by_cases hx : y = 0
      · have k1 : (y != 0) = false := by simpa using hx
        have HX := Lib.hid hx
        clear hx
        go_wp2
        go_round
        case rel => exact ⟨2, by omega, rfl, fun _ => H.out.1 (by decide), fun _ => HX.out, fun h => absurd h (by decide)⟩
        case measure => simp [intOf]
      · have k1 : (y != 0) = true := by simpa using hx
        have HX := Lib.hid hx
        clear hx
        go_wp2
        go_ret
        exact ⟨ret_int (by rw [orI, if_pos (H.out.1 (by decide)), if_neg HX.out]), rfl⟩
    | 2, _ =>
      by_cases hx : z = 0
      · have k1 : (z != 0) = false := by simpa using hx
        have HX := Lib.hid hx
        clear hx
        go_wp2
        go_round
        case rel => exact ⟨3, by omega, rfl, fun _ => H.out.1 (by decide), fun _ => H.out.2.1 (by decide), fun _ => HX.out⟩
        case measure => simp [intOf]
      · have k1 : (z != 0) = true := by simpa using hx
        have HX := Lib.hid hx
        clear hx
        go_wp2
        go_ret
        exact ⟨ret_int (by rw [orI, if_pos (H.out.1 (by decide)), if_pos (H.out.2.1 (by decide))]), rfl⟩
    | 3, _ =>
      go_wp2
      go_ret
      exact ⟨ret_int (by rw [orI, if_pos (H.out.1 (by decide)), if_pos (H.out.2.1 (by decide)), H.out.2.2 (by decide)]), rfl⟩
theorem or_cmp (a b : Sp) : orI (cmp1 a.1 b.1) (cmp1 a.2.2 b.2.2) (cmp1 a.2.1 b.2.1) = cmpS a b := by
  have hz : ∀ x y : Int, cmp1 x y = 0 ↔ x = y := fun x y => by unfold cmp1; by_cases h1 : x < y <;> by_cases h2 : y < x <;> simp [h1, h2] <;> omega
  unfold orI cmpS
  simp only [hz]
theorem compare_any (w : World) (x y : Int) : Calls Try.prog 36 #[.int .i64 x, .int .i64 y] w fun e w' => e = .returned (.int .i64 (cmp1 x y)) ∧ w = w' := by
  have h := AnyG.cmp_Compare_int Try.cmpT x y w
  change Calls Try.prog 36 _ _ _ at h
  exact h.mono fun _ _ ⟨he, hw⟩ => ⟨he, hw.symm⟩
theorem compare_any' (w : World) (x y : Int) : Calls Try.prog 36 #[.int .i64 x, .int .i64 y] w fun e w' => e = .returned (.int .i64 (cmp1 x y)) ∧ w' = w :=
  (compare_any w x y).mono fun _ _ ⟨he, hw⟩ => ⟨he, hw.symm⟩
set_option maxRecDepth 100000 in
set_option maxHeartbeats 2000000 in
theorem cmpP_any (w : World) (a b : Sp) : Calls Try.prog 27 #[spV a, spV b] w fun e w' => e = .returned (.int .i64 (cmpS a b)) ∧ ∃ q os, w' = grow (w.drewN q) os := by
  obtain ⟨W, hW⟩ : ∃ W : World, W = ((w.alloc (.cells #[.int .i64 a.1, .int .i64 a.2.1, .int .i64 a.2.2] 32)).alloc (.cells #[.int .i64 b.1, .int .i64 b.2.1, .int .i64 b.2.2] 32)).drew := ⟨_, rfl⟩
  have HW := Lib.hid (show ∃ os, W = grow w.drew os from ⟨_, by rw [hW, alloc_eq_grow, alloc_eq_grow, grow_grow]; rfl⟩)
  have hsz : (w.alloc (.cells #[.int .i64 a.1, .int .i64 a.2.1, .int .i64 a.2.2] 32)).heap.size = w.heap.size + 1 := by simp
  have k0 : Blk W w.heap.size 32 #[.int .i64 a.1, .int .i64 a.2.1, .int .i64 a.2.2] := by rw [hW]; exact (Blk.new w _ _).alloc _
  have k1 : Blk W (w.heap.size + 1) 32 #[.int .i64 b.1, .int .i64 b.2.1, .int .i64 b.2.2] := by rw [hW, ← hsz]; exact Blk.new _ _ _
  obtain ⟨c0, c1, c2, -⟩ := k0.three
  obtain ⟨d0, d1, d2, -⟩ := k1.three
  have HW0 := Lib.hid hW
  clear hW hsz k0 k1
  go_enter Try.func27, Try.ntmps27
  go_wp2
  refine wp_region_still_tail 15 (by kernel_rfl) (by kernel_rfl) ?_
  simp only [List.take_succ_cons, List.take_zero, List.drop_succ_cons, List.drop_zero]
  change wpStill _ _ (World.drew _) (fun a' => wpList _ _ _ _ a' (World.drew _)) _ _
  rw [← HW0.out]
  repeat still_step
  still_call (compare_any' _ _ _)
  repeat still_step
  still_call (compare_any' _ _ _)
  repeat still_step
  still_call (compare_any' _ _ _)
  refine wpStill_nil ?_
  have HO := Lib.hid (or_any (Blk.new W 3 #[.int .i64 (cmp1 a.1 b.1), .int .i64 (cmp1 a.2.2 b.2.2), .int .i64 (cmp1 a.2.1 b.2.1)]))
  go_wp2_with (go_at_call 35; (with_reducible refine HO.out.mono ?_); rintro e w' ⟨rfl, rfl⟩)
  go_ret
  obtain ⟨os, rfl⟩ := HW.out
  exact ⟨ret_int (or_cmp a b), 1, _, (alloc_eq_grow _ _).trans (grow_grow _ _ _)⟩
set_option maxRecDepth 100000 in
set_option maxHeartbeats 2000000 in
theorem cmpSpot_any (w : World) (a b : Sp) : Calls Try.prog 19 #[spV a, spV b] w fun e w' => e = .returned (.int .i64 (cmpS a b)) ∧ ∃ q os, w' = grow (w.drewN q) os := by
  have HC := Lib.hid (cmpP_any ((w.alloc (.cells #[.int .i64 a.1, .int .i64 a.2.1, .int .i64 a.2.2] 23)).alloc (.cells #[.int .i64 b.1, .int .i64 b.2.1, .int .i64 b.2.2] 23)) a b)
  go_enter Try.func19, Try.ntmps19
  go_wp2_with fail
  go_at_call 27
  refine HC.out.mono ?_
  rintro e w1 ⟨rfl, q, os, hw⟩
  have HW := Lib.hid hw
  clear hw
  go_wp2
  go_ret
  refine ⟨rfl, q, ?_⟩
  rw [HW.out, alloc_eq_grow, alloc_eq_grow, grow_grow]
  exact ⟨_, grow_grow (w.drewN q) _ os⟩
theorem below_of_grow {w w' : World} {q : Nat} {os : Array Obj} (h : w' = grow (w.drewN q) os) : Below w.heap.size w w' := by
  subst h
  exact ⟨rfl, rfl, rfl, by simp [grow], fun i hi => by rw [heap_grow_old _ _ (by simpa using hi)]; rfl⟩
theorem cmpSpot_below (w : World) (a b : Sp) : Calls Try.prog 19 #[spV a, spV b] w fun e w' => e = .returned (.int .i64 (cmpS a b)) ∧ Below w.heap.size w w' :=
  (cmpSpot_any w a b).mono fun _ _ ⟨he, _, _, hw⟩ => ⟨he, below_of_grow hw⟩
end Go.Proofs.Ytokmbnmhdicljaa
