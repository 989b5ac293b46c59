/- Put, Lift: memory of eight cells; Lift's walks. -/
import Derived.Test.YtokmbnmhdicljaaARef
import Derived.Test.YtokmbnmhdicljaaASpots
namespace Go.Proofs.Ytokmbnmhdicljaa
open Go.RowKit

theorem Blk.eight {w : World} {p t : Nat} {a b c d e f g h : Value} (k : Blk w p t #[a, b, c, d, e, f, g, h]) :
    (w.cell? ⟨p, 0, none⟩ = some a ∧ w.cell? ⟨p, 1, none⟩ = some b ∧ w.cell? ⟨p, 2, none⟩ = some c ∧ w.cell? ⟨p, 3, none⟩ = some d ∧ w.cell? ⟨p, 4, none⟩ = some e ∧ w.cell? ⟨p, 5, none⟩ = some f ∧ w.cell? ⟨p, 6, none⟩ = some g ∧ w.cell? ⟨p, 7, none⟩ = some h) ∧
    (w.frozen? ⟨p, 0, none⟩ = false ∧ w.frozen? ⟨p, 1, none⟩ = false ∧ w.frozen? ⟨p, 2, none⟩ = false ∧ w.frozen? ⟨p, 3, none⟩ = false ∧ w.frozen? ⟨p, 4, none⟩ = false ∧ w.frozen? ⟨p, 5, none⟩ = false ∧ w.frozen? ⟨p, 6, none⟩ = false ∧ w.frozen? ⟨p, 7, none⟩ = false) :=
  ⟨⟨k.cell 0, k.cell 1, k.cell 2, k.cell 3, k.cell 4, k.cell 5, k.cell 6, k.cell 7⟩, k.frozen 0, k.frozen 1, k.frozen 2, k.frozen 3, k.frozen 4, k.frozen 5, k.frozen 6, k.frozen 7⟩
/-- Four cells set. -/
def set4 (w : World) (p o : Nat) (a b c d : Value) : World := (((w.setCell ⟨p, o, none⟩ a).setCell ⟨p, o + 1, none⟩ b).setCell ⟨p, o + 2, none⟩ c).setCell ⟨p, o + 3, none⟩ d
theorem Blk.lo4 {w : World} {p t : Nat} {a b c d e f g h : Value} (k : Blk w p t #[a, b, c, d, e, f, g, h]) (a' b' c' d' : Value) : Blk (set4 w p 0 a' b' c' d') p t #[a', b', c', d', e, f, g, h] := (((k.set_ 0 a').set_ 1 b').set_ 2 c').set_ 3 d'
theorem Blk.hi4 {w : World} {p t : Nat} {a b c d e f g h : Value} (k : Blk w p t #[a, b, c, d, e, f, g, h]) (a' b' c' d' : Value) : Blk (set4 w p 4 a' b' c' d') p t #[a, b, c, d, a', b', c', d'] := (((k.set_ 4 a').set_ 5 b').set_ 6 c').set_ 7 d'
theorem Blk.far4 {w : World} {p q t o : Nat} {cs : Array Value} (k : Blk w p t cs) (h : p ≠ q) (a' b' c' d' : Value) : Blk (set4 w q o a' b' c' d') p t cs := (((k.far (p := ⟨q, _, none⟩) h _).far (p := ⟨q, _, none⟩) h _).far (p := ⟨q, _, none⟩) h _).far (p := ⟨q, _, none⟩) h _
theorem below_set4 {B : Nat} {w0 w : World} (h : Below B w0 w) {p : Nat} (hp : B ≤ p) (o : Nat) (a b c d : Value) : Below B w0 (set4 w p o a b c d) :=
  (((h.setCell (p := ⟨p, _, none⟩) hp a).setCell (p := ⟨p, _, none⟩) hp b).setCell (p := ⟨p, _, none⟩) hp c).setCell (p := ⟨p, _, none⟩) hp d
def zeroA : An := ((0, 0, 0), false)
/-- What Lift answers. -/
def liftA (a b : An) (id : Int) : An × An × Int := if id = 0 then (zeroA, b, 0) else if id = 1 then (a, zeroA, 0) else (zeroA, zeroA, 2)
/-- What Put answers. -/
def putA (a b : An) (id : Int) (p : Sp) : An × An × Int :=
  if id = 0 ∨ id = 1 then (if (spotOf p).2 = true then (if id = 0 then (((spotOf p).1, true), b, 0) else (a, ((spotOf p).1, true), 0)) else (zeroA, zeroA, 10)) else (zeroA, zeroA, 2)
abbrev cA (a b : An) : Array Value := #[.int .i64 a.1.1, .int .i64 a.1.2.1, .int .i64 a.1.2.2, .bool a.2, .int .i64 b.1.1, .int .i64 b.1.2.1, .int .i64 b.1.2.2, .bool b.2]
theorem below_two (w : World) (o1 o2 : Obj) : Below w.heap.size w ((w.alloc o1).alloc o2) := ((Below.refl _ _).alloc (Nat.le_refl _) o1).alloc (by simp) o2
set_option maxRecDepth 100000 in
set_option maxHeartbeats 4000000 in
theorem aLift_any (w : World) (s t : Sp) (o p : Bool) (id : Int) (h1 : -9223372036854775808 ≤ id) (h2 : id ≤ 9223372036854775807) :
    Calls Try.prog 15 #[.agg #[.int .i64 s.1, .int .i64 s.2.1, .int .i64 s.2.2, .bool o, .int .i64 t.1, .int .i64 t.2.1, .int .i64 t.2.2, .bool p], .int .i64 id] w fun e w' =>
      e = .returned (.tuple #[twoV (liftA (s, o) (t, p) id).1 (liftA (s, o) (t, p) id).2.1, .int .i64 (liftA (s, o) (t, p) id).2.2]) ∧ Below w.heap.size w w' := by
  go_enter Try.func15, Try.ntmps15
  by_cases h0 : id < 0
  · have HL := Lib.hid (show liftA (s, o) (t, p) id = (zeroA, zeroA, 2) by unfold liftA; rw [if_neg (by omega), if_neg (by omega)])
    go_wp2
    exact bodyPost_ret (v := .tuple #[twoV zeroA zeroA, .int .i64 2]) (by simp [results, Try.results15, go_sem, zeroA]) rfl ⟨by rw [HL.out], below_two _ _ _⟩
  by_cases h3 : 2 ≤ id
  · have HL := Lib.hid (show liftA (s, o) (t, p) id = (zeroA, zeroA, 2) by unfold liftA; rw [if_neg (by omega), if_neg (by omega)])
    go_wp2
    exact bodyPost_ret (v := .tuple #[twoV zeroA zeroA, .int .i64 2]) (by simp [results, Try.results15, go_sem, zeroA]) rfl ⟨by rw [HL.out], below_two _ _ _⟩
  have h4 : id = 0 ∨ id = 1 := by omega
  clear h0 h1 h2 h3
  rcases h4 with rfl | rfl
  · have HL := Lib.hid (show liftA (s, o) (t, p) 0 = (zeroA, (t, p), 0) from rfl)
    go_wp2
    exact bodyPost_ret (v := .tuple #[twoV zeroA (t, p), .int .i64 0]) (by simp [results, Try.results15, go_sem, zeroA]) rfl ⟨by rw [HL.out], below_two _ _ _⟩
  · have HL := Lib.hid (show liftA (s, o) (t, p) 1 = ((s, o), zeroA, 0) from rfl)
    go_wp2
    exact bodyPost_ret (v := .tuple #[twoV (s, o) zeroA, .int .i64 0]) (by simp [results, Try.results15, go_sem, zeroA]) rfl ⟨by rw [HL.out], below_two _ _ _⟩
set_option maxRecDepth 100000 in
set_option maxHeartbeats 4000000 in
theorem rLift_any (w : World) (s t : Sp) (o p : Bool) (id : Int) (h1 : -9223372036854775808 ≤ id) (h2 : id ≤ 9223372036854775807) :
    Calls Try.prog 16 #[.agg #[.int .i64 s.1, .int .i64 s.2.1, .int .i64 s.2.2, .bool o, .int .i64 t.1, .int .i64 t.2.1, .int .i64 t.2.2, .bool p], .int .i64 id] w fun e w' =>
      e = .returned (.tuple #[twoV (liftA (s, o) (t, p) id).1 (liftA (s, o) (t, p) id).2.1, .int .i64 (liftA (s, o) (t, p) id).2.2]) ∧ Below w.heap.size w w' := by
  go_enter Try.func16, Try.ntmps16
  by_cases h0 : id < 0
  · have HL := Lib.hid (show liftA (s, o) (t, p) id = (zeroA, zeroA, 2) by unfold liftA; rw [if_neg (by omega), if_neg (by omega)])
    have g0 : (id != 0) = true := by simp; omega
    have g1 : (id != 1) = true := by simp; omega
    go_wp2
    exact bodyPost_ret (v := .tuple #[twoV zeroA zeroA, .int .i64 2]) (by simp [results, Try.results16, go_sem, zeroA]) rfl ⟨by rw [HL.out], below_two _ _ _⟩
  by_cases h3 : 2 ≤ id
  · have HL := Lib.hid (show liftA (s, o) (t, p) id = (zeroA, zeroA, 2) by unfold liftA; rw [if_neg (by omega), if_neg (by omega)])
    have g0 : (id != 0) = true := by simp; omega
    have g1 : (id != 1) = true := by simp; omega
    go_wp2
    exact bodyPost_ret (v := .tuple #[twoV zeroA zeroA, .int .i64 2]) (by simp [results, Try.results16, go_sem, zeroA]) rfl ⟨by rw [HL.out], below_two _ _ _⟩
  have h4 : id = 0 ∨ id = 1 := by omega
  clear h0 h1 h2 h3
  rcases h4 with rfl | rfl
  · have HL := Lib.hid (show liftA (s, o) (t, p) 0 = (zeroA, (t, p), 0) from rfl)
    go_wp2
    exact bodyPost_ret (v := .tuple #[twoV zeroA (t, p), .int .i64 0]) (by simp [results, Try.results16, go_sem, zeroA]) rfl ⟨by rw [HL.out], below_two _ _ _⟩
  · have HL := Lib.hid (show liftA (s, o) (t, p) 1 = ((s, o), zeroA, 0) from rfl)
    go_wp2
    exact bodyPost_ret (v := .tuple #[twoV (s, o) zeroA, .int .i64 0]) (by simp [results, Try.results16, go_sem, zeroA]) rfl ⟨by rw [HL.out], below_two _ _ _⟩
end Go.Proofs.Ytokmbnmhdicljaa
