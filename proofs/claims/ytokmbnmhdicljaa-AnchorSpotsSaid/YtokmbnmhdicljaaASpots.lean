/- anchor.Spots: the walk. -/
import Derived.Test.YtokmbnmhdicljaaASort
import Derived.Carry
namespace Go.Proofs.Ytokmbnmhdicljaa
open Go.RowKit

/-- Two anchors' value. -/
abbrev twoV (a b : An) : Value := .agg #[.int .i64 a.1.1, .int .i64 a.1.2.1, .int .i64 a.1.2.2, .bool a.2, .int .i64 b.1.1, .int .i64 b.1.2.1, .int .i64 b.1.2.2, .bool b.2]
abbrev anV (a : An) : Value := .agg #[.int .i64 a.1.1, .int .i64 a.1.2.1, .int .i64 a.1.2.2, .bool a.2]
theorem idx0 (s t : Sp) (o p : Bool) (w : World) : (Instr.index 26 (.agg #[.int .i64 s.1, .int .i64 s.2.1, .int .i64 s.2.2, .bool o, .int .i64 t.1, .int .i64 t.2.1, .int .i64 t.2.2, .bool p]) (.int .i64 0)).run Try.prog w = .ok (.agg #[.int .i64 s.1, .int .i64 s.2.1, .int .i64 s.2.2, .bool o]) w := by kernel_rfl
theorem idx1 (s t : Sp) (o p : Bool) (w : World) : (Instr.index 26 (.agg #[.int .i64 s.1, .int .i64 s.2.1, .int .i64 s.2.2, .bool o, .int .i64 t.1, .int .i64 t.2.1, .int .i64 t.2.2, .bool p]) (.int .i64 1)).run Try.prog w = .ok (.agg #[.int .i64 t.1, .int .i64 t.2.1, .int .i64 t.2.2, .bool p]) w := by kernel_rfl
abbrev Met (w : World) (m : Nat) (L : List (Ent Sp)) (c : Nat) : Prop := MapIs (fun s => spV s) SpOk w m L c
/-- What the loops know: the list, what was met. -/
def Inv (w0 w : World) (m : Nat) (v : Value) (out : List Sp) (S : List Sp) : Prop :=
  (∃ L c, Met w m L c ∧ keysOf L = out ∧ ∀ x ∈ L, x.2.1 = .int .i64 1) ∧ Row w (w0.heap.size + 2) v out ∧ m = w0.heap.size + 1 ∧ Below w0.heap.size w0 w ∧ out.Nodup ∧ out.length ≤ S.length ∧ ∀ s, s ∈ out ↔ maySpot s = true ∧ s ∈ S
theorem Inv.below_ {w0 w w' : World} {m : Nat} {v : Value} {out S : List Sp} (h : Inv w0 w m v out S) (hb : Below w.heap.size w w') : Inv w0 w' m v out S := by
  obtain ⟨⟨L, c, h1, h2⟩, h3, h4, h5, h6⟩ := h
  exact ⟨⟨L, c, h1.below hb h1.inb, h2⟩, own_below h3 hb, h4, h5.trans (hb.mono h5.size), h6⟩
theorem Inv.alloc {w0 w : World} {m : Nat} {v : Value} {out S : List Sp} (h : Inv w0 w m v out S) (o : Obj) : Inv w0 (w.alloc o) m v out S := h.below_ ((Below.refl _ _).alloc (Nat.le_refl _) o)
abbrev anC (s : Sp) (o : Bool) : Array Value := #[.int .i64 s.1, .int .i64 s.2.1, .int .i64 s.2.2, .bool o]
/-- .. and an anchor's copy. -/
def Keep (w0 w : World) (m p : Nat) (a : Sp) (v : Value) (out S : List Sp) : Prop := Inv w0 w m v out S ∧ Blk w p 25 (anC a true)
theorem Inv.keep_ {w0 w : World} {m : Nat} {v : Value} {out S : List Sp} (h : Inv w0 w m v out S) (a : Sp) : Keep w0 (w.alloc (.cells (anC a true) 25)) m w.heap.size a v out S := ⟨h.alloc _, Blk.new w _ _⟩
theorem Keep.anchor {w0 w : World} {m p : Nat} {a : Sp} {v : Value} {out S : List Sp} (h : Keep w0 w m p a v out S) :
    w.cell? ⟨p, 0, none⟩ = some (.int .i64 a.1) ∧ w.cell? ⟨p, 1, none⟩ = some (.int .i64 a.2.1) ∧ w.cell? ⟨p, 2, none⟩ = some (.int .i64 a.2.2) ∧ p < w.heap.size ∧ w.cell? ⟨p, 3, none⟩ = some (.bool true) :=
  ⟨h.2.cell 0, h.2.cell 1, h.2.cell 2, h.2.lt, h.2.cell 3⟩
theorem Keep.below_ {w0 w w' : World} {m p : Nat} {a : Sp} {v : Value} {out S : List Sp} (h : Keep w0 w m p a v out S) (hb : Below w.heap.size w w') : Keep w0 w' m p a v out S := ⟨h.1.below_ hb, h.2.below hb h.2.lt⟩
theorem blk_met {w : World} {p m t : Nat} {cs : Array Value} {L : List (Ent Sp)} {c : Nat} (h : Blk w p t cs) (hm : Met w m L c) : p ≠ m := by
  rintro rfl
  have h1 := hm.block
  unfold Blk at h
  rw [h] at h1
  injection h1 with h1
  cases h1
theorem row_met {w : World} {base m n : Nat} {v : Value} {xs : List Value} {L : List (Ent Sp)} {c e size : Nat} (h : w.ownsRow base e size v n xs) (hm : Met w m L c) : v.ownBlock ≠ some m := by
  rcases h.2 with ⟨rfl, _⟩ | ⟨g, cap, cur, rfl, _, hh, _⟩
  · simp [Value.ownBlock]
  · intro he
    have e : g = m := by simpa [Value.ownBlock] using he
    subst e
    have h1 := hm.block
    rw [hh] at h1
    injection h1 with h1
    cases h1
theorem seen_succ0 {a b : An} (h : a.2 = true) (n : Nat) (s : Sp) : s ∈ seen a b 0 (n + 1) ↔ s = cand a n ∨ s ∈ seen a b 0 n := by
  simp only [seen, h, if_true, List.mem_append, @List.range_succ n, List.map_append, List.map_cons, List.map_nil, List.mem_singleton]
  simp only [show ¬ (1 ≤ 0) by omega, and_false, if_false, List.not_mem_nil, or_false]
  rw [or_comm]
theorem seen_succ1 {a b : An} (h : b.2 = true) (n : Nat) (s : Sp) : s ∈ seen a b 1 (n + 1) ↔ s = cand b n ∨ s ∈ seen a b 1 n := by
  simp only [seen, h, if_true, List.mem_append, @List.range_succ n, List.map_append, List.map_cons, List.map_nil, List.mem_singleton, true_and, Nat.le_refl, show ¬ (1 = 0) by omega, if_false]
  constructor
  · rintro (h | h | h) <;> simp [h]
  · rintro (h | h | h) <;> simp [h]
theorem seen_len0 {a b : An} (h : a.2 = true) (n : Nat) : (seen a b 0 (n + 1)).length = (seen a b 0 n).length + 1 := by
  simp [seen, h]
theorem seen_len1 {a b : An} (h : b.2 = true) (n : Nat) : (seen a b 1 (n + 1)).length = (seen a b 1 n).length + 1 := by
  simp [seen, h]
  omega
theorem seen_small (a b : An) (i n : Nat) (h : n ≤ 36) : (seen a b i n).length ≤ 72 := by
  unfold seen
  rw [List.length_append]
  have h1 : (if a.2 = true then (List.range (if i = 0 then n else 36)).map (cand a) else []).length ≤ 36 := by
    split
    · simp; split <;> omega
    · simp
  have h2 : (if b.2 = true ∧ 1 ≤ i then (List.range (if i = 1 then n else 36)).map (cand b) else []).length ≤ 36 := by
    split
    · simp; split <;> omega
    · simp
  omega
theorem cand_is (s : Sp) (o : Bool) (k y : Nat) (hy : y < 4) : cand (s, o) (4 * k + y) = (wrap64 (wrap64 (s.1 + (k : Int) / 3) - 1), (y : Int), wrap64 (wrap64 (s.2.2 + (k : Int) % 3) - 1)) := by
  unfold cand addw
  rw [IntWalk.i64_left, IntWalk.i64_left, IntWalk.i64_left, IntWalk.i64_left]
  rw [show (4 * k + y) / 12 = k / 3 by omega, show (4 * k + y) % 4 = y by omega, show (4 * k + y) / 4 % 3 = k % 3 by omega]
  rfl
/-- One that may not be a spot, or was met. -/
theorem Keep.skip_ {w0 w w' : World} {m p : Nat} {a : Sp} {v : Value} {out S S' : List Sp} {c : Sp} (h : Keep w0 w m p a v out S) (hb : Below w.heap.size w w') (hS : ∀ s, s ∈ S' ↔ s = c ∨ s ∈ S) (hl : S'.length = S.length + 1)
    (hc : maySpot c = false ∨ c ∈ out) : Keep w0 w' m p a v out S' := by
  obtain ⟨⟨h1, h2, h3, h4, h5, h6, h7⟩, h8⟩ := h.below_ hb
  refine ⟨⟨h1, h2, h3, h4, h5, by omega, fun s => ?_⟩, h8⟩
  rw [h7, hS]
  constructor
  · rintro ⟨e1, e2⟩; exact ⟨e1, .inr e2⟩
  · rintro ⟨e1, rfl | e2⟩
    · rcases hc with hc | hc
      · rw [e1] at hc; cases hc
      · exact (h7 _).1 hc
    · exact ⟨e1, e2⟩
theorem Keep.more {w0 w w1 W3 W4 : World} {m p : Nat} {a : Sp} {v v' : Value} {out S S' : List Sp} {L : List (Ent Sp)} {cc cc' : Nat} {c : Sp} {cs : Array Value}
    (h : Keep w0 w m p a v out S) (hb : Below w.heap.size w w1) (hL : keysOf L = out) (h1 : ∀ x ∈ L, x.2.1 = .int .i64 1) (hmet : Met W3 m (L ++ [(c, .int .i64 1, cc)]) cc') (hg : w1.grownBy W3 (some m))
    (hrow : Row W4 (w0.heap.size + 2) v' (out ++ [c])) (hg4 : (W3.alloc (.cells cs 23)).grownBy W4 v.ownBlock) (hc : c ∉ out) (hm : maySpot c = true) (hS : ∀ s, s ∈ S' ↔ s = c ∨ s ∈ S) (hl : S'.length = S.length + 1) : Keep w0 W4 m p a v' (out ++ [c]) S' := by
  obtain ⟨⟨⟨L0, c0, k1, -⟩, k2, k3, k4, k5, k6, k7⟩, k8⟩ := h.below_ hb
  have hne := row_met k2 k1
  have hlt : ∀ k, v.ownBlock = some k → w0.heap.size ≤ k := fun k hk => by have := (k2.lt k hk).1; omega
  have hb3 : Below w0.heap.size w0 W3 := k4.grown hg k4.size (fun k hk => by injection hk with hk; omega)
  refine ⟨⟨⟨_, _, (hmet.alloc _).grown hg4 hne.symm, ?_, ?_⟩, hrow, k3, (hb3.alloc hb3.size _).grown hg4 (by simp; have := hb3.size; omega) hlt, ?_, ?_, ?_⟩, ?_⟩
  · unfold keysOf at *
    rw [List.map_append, hL]; rfl
  · intro x hx
    rcases List.mem_append.1 hx with hx | hx
    · exact h1 x hx
    · simp at hx; rw [hx]
  · rw [List.nodup_append]
    refine ⟨k5, by simp, fun x hx y hy e => ?_⟩
    simp at hy
    subst hy e
    exact hc hx
  · simp only [List.length_append, List.length_singleton]; omega
  · intro s
    rw [List.mem_append, k7, hS, List.mem_singleton]
    constructor
    · rintro (⟨e1, e2⟩ | rfl)
      · exact ⟨e1, .inr e2⟩
      · exact ⟨hm, .inl rfl⟩
    · rintro ⟨e1, rfl | e2⟩
      · exact .inr rfl
      · exact .inl ⟨e1, e2⟩
  · exact ((k8.grown hg (fun e => by injection e with e; exact blk_met k8 k1 e)).alloc _).grown hg4 (fun e => own_blk_ne k2 k8 (by decide) e.symm)

set_option maxRecDepth 100000 in
set_option maxHeartbeats 8000000 in
theorem spots_false_false (w : World) (s t : Sp) (ha : AnOk (s, false)) (hb : AnOk (t, false)) :
    Calls Try.prog 7 #[.agg #[.int .i64 s.1, .int .i64 s.2.1, .int .i64 s.2.2, .bool false, .int .i64 t.1, .int .i64 t.2.1, .int .i64 t.2.2, .bool false]] w fun e w' => ∃ v, e = .returned v ∧ Below w.heap.size w w' ∧ Row w' w.heap.size v (spotsL (s, false) (t, false)) := by
  have hmm := @run_makeMap Try.prog
  obtain ⟨X, hX⟩ : ∃ X : World, X = w.alloc (.cells #[.int .i64 s.1, .int .i64 s.2.1, .int .i64 s.2.2, .bool false, .int .i64 t.1, .int .i64 t.2.1, .int .i64 t.2.2, .bool false] 26) := ⟨_, rfl⟩
  have hxs : X.heap.size = w.heap.size + 1 := by rw [hX]; simp
  have hbx : Below w.heap.size w X := by rw [hX]; exact (Below.refl _ _).alloc (Nat.le_refl _) _
  have hm0 : Met (X.alloc (.map #[] 0)) (w.heap.size + 1) [] 0 := by rw [← hxs]; exact MapIs.made X
  have HINV := Lib.hid (show Inv w (X.alloc (.map #[] 0)) (w.heap.size + 1) (.slice none 0 0) [] (seen (s, false) (t, false) 0 0) from
    ⟨⟨[], 0, hm0, rfl, fun x hx => by simp at hx⟩, World.ownsRow_nil _ _ _ _, rfl, hbx.alloc (by omega) _, List.nodup_nil, Nat.zero_le _, fun s => by simp [seen]⟩)
  have HX := Lib.hid hX
  clear hX hxs hbx hm0
  go_enter Try.func7, Try.ntmps7
  go_wp2
  go_loopw [4, 12] (fun s_ i wr => ∃ (i' : Nat) (out : List Sp), i' ≤ 2 ∧ i = .int .i64 (i' : Nat) ∧ Inv w wr (w.heap.size + 1) s_ out (seen (s, false) (t, false) i' 0)) (fun _ i _ => 2 - (intOf i).toNat)
  case atStart => exact ⟨0, [], Nat.zero_le _, rfl, by have := HINV.out; rw [HX.out] at this; exact this⟩
  case round =>
    obtain ⟨i, out, hi, rfl, hinv⟩ := hrel
    have HINV := Lib.hid hinv
    clear hinv
    match i, hi with
    | 0, _ =>
      have i0 := idx0 s t false false
      rw [show ((0 : Nat) : Int) = 0 from rfl]
      have HS := Lib.hid (show seen (s, false) (t, false) 1 0 = seen (s, false) (t, false) 0 0 by simp [seen])
      go_wp2
      go_roundw
      case rel =>
        refine ⟨1, out, by omega, rfl, ?_⟩
        rw [HS.out]
        exact HINV.out.alloc _
      case measure => simp [intOf]
    | 1, _ =>
      have i0 := idx1 s t false false
      rw [show ((1 : Nat) : Int) = 1 from rfl]
      have HS := Lib.hid (show seen (s, false) (t, false) 2 0 = seen (s, false) (t, false) 1 0 by simp [seen])
      go_wp2
      go_roundw
      case rel =>
        refine ⟨2, out, by omega, rfl, ?_⟩
        rw [HS.out]
        exact HINV.out.alloc _
      case measure => simp [intOf]
    | 2, _ =>
      rw [show ((2 : Nat) : Int) = 2 from rfl]
      have hsm := seen_small (s, false) (t, false) 2 0 (by omega)
      have HSO := Lib.hid (sort_any HINV.out.2.1 (by have := HINV.out.1; obtain ⟨L, c, h, _⟩ := this; have := h.inb; omega) (by have := HINV.out.2.2.2.2.2.1; omega) HINV.out.2.2.2.2.1)
      clear hsm
      go_wp2_with fail
      go_at_call 21
      refine HSO.out.mono ?_
      rintro e w2 ⟨rfl, hb2, m, hasc, hmem, hrow2⟩
      have HB2 := Lib.hid (HINV.out.2.2.2.1.trans (hb2.mono (Nat.le_add_right _ 2)))
      have hm : m = spotsL (s, false) (t, false) := spots_eq hasc fun s' => (hmem s').trans ((HINV.out.2.2.2.2.2.2 s').trans (seen_all ha hb s'))
      have HR2 := Lib.hid (own_base (hm ▸ hrow2) (Nat.le_add_right w.heap.size 2))
      clear hb2 hasc hmem hrow2 hm
      go_wp2
      go_ret
      exact ⟨_, rfl, HB2.out, HR2.out⟩

set_option maxRecDepth 100000 in
set_option maxHeartbeats 8000000 in
theorem spots_true_false (w : World) (s t : Sp) (ha : AnOk (s, true)) (hb : AnOk (t, false)) :
    Calls Try.prog 7 #[.agg #[.int .i64 s.1, .int .i64 s.2.1, .int .i64 s.2.2, .bool true, .int .i64 t.1, .int .i64 t.2.1, .int .i64 t.2.2, .bool false]] w fun e w' => ∃ v, e = .returned v ∧ Below w.heap.size w w' ∧ Row w' w.heap.size v (spotsL (s, true) (t, false)) := by
  have hmm := @run_makeMap Try.prog
  obtain ⟨X, hX⟩ : ∃ X : World, X = w.alloc (.cells #[.int .i64 s.1, .int .i64 s.2.1, .int .i64 s.2.2, .bool true, .int .i64 t.1, .int .i64 t.2.1, .int .i64 t.2.2, .bool false] 26) := ⟨_, rfl⟩
  have hxs : X.heap.size = w.heap.size + 1 := by rw [hX]; simp
  have hbx : Below w.heap.size w X := by rw [hX]; exact (Below.refl _ _).alloc (Nat.le_refl _) _
  have hm0 : Met (X.alloc (.map #[] 0)) (w.heap.size + 1) [] 0 := by rw [← hxs]; exact MapIs.made X
  have HINV := Lib.hid (show Inv w (X.alloc (.map #[] 0)) (w.heap.size + 1) (.slice none 0 0) [] (seen (s, true) (t, false) 0 0) from
    ⟨⟨[], 0, hm0, rfl, fun x hx => by simp at hx⟩, World.ownsRow_nil _ _ _ _, rfl, hbx.alloc (by omega) _, List.nodup_nil, Nat.zero_le _, fun s => by simp [seen]⟩)
  have HX := Lib.hid hX
  clear hX hxs hbx hm0
  go_enter Try.func7, Try.ntmps7
  go_wp2
  go_loopw [4, 12] (fun s_ i wr => ∃ (i' : Nat) (out : List Sp), i' ≤ 2 ∧ i = .int .i64 (i' : Nat) ∧ Inv w wr (w.heap.size + 1) s_ out (seen (s, true) (t, false) i' 0)) (fun _ i _ => 2 - (intOf i).toNat)
  case atStart => exact ⟨0, [], Nat.zero_le _, rfl, by have := HINV.out; rw [HX.out] at this; exact this⟩
  case round =>
    obtain ⟨i, out, hi, rfl, hinv⟩ := hrel
    have HINV := Lib.hid hinv
    clear hinv
    match i, hi with
    | 0, _ =>
      have i0 := idx0 s t true false
      rw [show ((0 : Nat) : Int) = 0 from rfl]
      obtain ⟨wo, rfl⟩ : ∃ wo : World, wo = wr := ⟨_, rfl⟩
      have HK0 := Lib.hid (HINV.out.keep_ s)
      go_wp2
      go_loopw [4, 7] (fun s_ k wr => ∃ (k' : Nat) (out : List Sp), k' ≤ 9 ∧ k = .int .i64 (k' : Nat) ∧ Keep w wr (w.heap.size + 1) wo.heap.size s s_ out (seen (s, true) (t, false) 0 (4 * k'))) (fun _ k _ => 9 - (intOf k).toNat)
      case atStart => exact ⟨0, out, Nat.zero_le _, rfl, HK0.out⟩
      case round =>
        obtain ⟨k, out, hk, rfl, hkeep⟩ := hrel
        have HKEEP := Lib.hid hkeep
        clear hkeep
        by_cases hk9 : k < 9
        · have l1 : (k : Int) < 9 := by omega
          obtain ⟨wk, rfl⟩ : ∃ wk : World, wk = wr := ⟨_, rfl⟩
          go_wp2
          go_loopw [4, 8] (fun s_ y wr => ∃ (y' : Nat) (out : List Sp), y' ≤ 4 ∧ y = .int .i64 (y' : Nat) ∧ Keep w wr (w.heap.size + 1) wo.heap.size s s_ out (seen (s, true) (t, false) 0 (4 * k + y'))) (fun _ y _ => 4 - (intOf y).toNat)
          case atStart => exact ⟨0, out, Nat.zero_le _, rfl, HKEEP.out⟩
          case round =>
            obtain ⟨y, out, hy, rfl, hkeep⟩ := hrel
            have HKEEP := Lib.hid hkeep
            obtain ⟨x0, x1, x2, x3, -⟩ := hkeep.anchor
            clear hkeep
            by_cases hy4 : y < 4
            · have l2 : (y : Int) < 4 := by omega
              obtain ⟨x', hx'⟩ : ∃ x', x' = wrap64 (wrap64 (s.1 + (k : Int) / 3) - 1) := ⟨_, rfl⟩
              obtain ⟨z', hz'⟩ : ∃ z', z' = wrap64 (wrap64 (s.2.2 + (k : Int) % 3) - 1) := ⟨_, rfl⟩
              have hcand : cand (s, true) (4 * k + y) = (x', (y : Int), z') := by rw [cand_is _ _ _ _ hy4, hx', hz']
              have HSS := Lib.hid (fun s' => seen_succ0 (a := (s, true)) (b := (t, false)) rfl (4 * k + y) s')
              rw [hcand] at HSS
              have HSL := Lib.hid (seen_len0 (a := (s, true)) (b := (t, false)) rfl (4 * k + y))
              have HMS := Lib.hid (maySpot_any (wr.alloc (.cells #[.int .i64 x', .int .i64 (y : Int), .int .i64 z'] 23)) (x', (y : Int), z'))
              have HK9 := Lib.hid (Blk.new wr 23 #[.int .i64 x', .int .i64 (y : Int), .int .i64 z'])
              have hb9 : Below wr.heap.size wr (wr.alloc (.cells #[.int .i64 x', .int .i64 (y : Int), .int .i64 z'] 23)) := (Below.refl _ _).alloc (Nat.le_refl _) _
              have HB9 := Lib.hid hb9
              have hx'' := hx'.symm
              have hz'' := hz'.symm
              clear hx' hz' hcand hb9
              cases hms : maySpot (x', (y : Int), z') with
              | false =>
                rw [hms] at HMS
                have HNO := Lib.hid hms
                clear hms
                go_wp2_with fail
                go_at_call 18
                refine HMS.out.mono ?_
                rintro e w1 ⟨rfl, hb1⟩
                have HB1 := Lib.hid (HB9.out.trans (hb1.mono (Nat.le_of_lt HK9.out.lt)))
                clear hb1
                go_wp2
                go_roundw
                case rel => exact ⟨y + 1, out, by omega, by go_num, HKEEP.out.skip_ HB1.out HSS.out HSL.out (.inl HNO.out)⟩
                case measure => simp [intOf]; omega
              | true =>
                rw [hms] at HMS
                have HYES := Lib.hid hms
                clear hms
                go_wp2_with fail
                go_at_call 18
                refine HMS.out.mono ?_
                rintro e w1 ⟨rfl, hb1⟩
                have HB1 := Lib.hid (HB9.out.trans (hb1.mono (Nat.le_of_lt HK9.out.lt)))
                have hk9' := HK9.out.below hb1 HK9.out.lt
                obtain ⟨d0, d1, d2, -⟩ := hk9'.three
                have HK91 := Lib.hid hk9'
                have hkk := HKEEP.out.below_ HB1.out
                obtain ⟨⟨⟨L, cc, hmet, hL, hone⟩, hrow, -, hbl, -, hlen, -⟩, hblk⟩ := hkk
                have hok := SpOk.of_may HYES.out
                by_cases hc : (x', (y : Int), z') ∈ out
                · have hgm : getM L (x', (y : Int), z') = some (.int .i64 1) := by
                    rw [← hL] at hc
                    obtain ⟨e, he, hes⟩ := List.mem_map.1 hc
                    obtain ⟨j, hj, hje⟩ := List.getElem_of_mem he
                    rw [getM_some hmet.keys (show L[j]? = some e by rw [List.getElem?_eq_getElem hj, hje]) hes, hone e he]
                  have hlk := hmet.lookup keyed_ Try.underlying46 key_spot spV_inj hok false (zero_int w1)
                  rw [hgm] at hlk
                  have HC := Lib.hid hc
                  clear hb1 hk9' hmet hL hone hrow hbl hlen hblk hok hc hgm
                  go_wp2
                  go_roundw
                  case rel => exact ⟨y + 1, out, by omega, by go_num, HKEEP.out.skip_ HB1.out HSS.out HSL.out (.inr HC.out)⟩
                  case measure => simp [intOf]; omega
                · have hcl : (x', (y : Int), z') ∉ keysOf L := by rw [hL]; exact hc
                  have hgm := getM_none.2 hcl
                  have hlk := hmet.lookup keyed_ Try.underlying46 key_spot spV_inj hok false (zero_int w1)
                  rw [hgm] at hlk
                  have hlk2 := hmet.drew.lookup keyed_ Try.underlying46 key_spot spV_inj hok false (zero_int w1.drew)
                  rw [hgm] at hlk2
                  obtain ⟨W2, n, L', c', hent, hmet2, hg2, hx2, rfl, hput, hget⟩ := hmet.drew.entry keyed_ Try.underlying46 key_spot spV_inj hok (zero_int w1.drew)
                  rw [hgm] at hent hget
                  have hlk3 := hmet2.lookup keyed_ Try.underlying46 key_spot spV_inj hok false (zero_int W2)
                  rw [hget] at hlk3
                  obtain ⟨W3, hst, hmet3, hg3⟩ := hmet2.store (P := Try.prog) (t := 46) hx2 (.int .i64 1)
                  rw [hput, putM, if_neg hcl] at hmet3
                  have hg13 : w1.grownBy W3 (some (w.heap.size + 1)) := World.grownBy.trans (only_drew (World.grownBy.refl w1 _)) (World.grownBy.trans hg2 hg3)
                  have hk93 := hk9'.grown hg13 (fun e => by injection e with e; exact blk_met hk9' hmet e)
                  obtain ⟨d0', d1', d2', -⟩ := hk93.three
                  have HROW := Lib.hid (hrow.kept hg13 (.inr (row_met hrow hmet)))
                  have HG := Lib.hid hg13
                  have HMET := Lib.hid hmet3
                  have HL := Lib.hid (And.intro hL hone)
                  have HC := Lib.hid hc
                  have hsm := seen_small (s, true) (t, false) 0 (4 * k + y) (by omega)
                  have HLEN := Lib.hid (show out.length ≤ 1099511627775 by omega)
                  have HSZ := Lib.hid (show w.heap.size + 2 ≤ W3.heap.size by have h1 := hmet3.inb; omega)
                  clear hb1 hk9' hmet hL hone hrow hbl hlen hblk hok hc hgm hcl hmet2 hg2 hx2 hput hget hmet3 hg3 hg13 hk93 hsm
                  go_wp2
                  go_region
                  clear hlk hlk2 hent hlk3 hst
                  go_wp2_with (at_builtin; refine row_law encS_len encS_one (by decide) Try.underlying27 infoSpot rfl (by decide) HROW.out rfl _ _ rfl rfl (x', (y : Int), z') rfl rfl rfl HLEN.out HSZ.out ?_)
                  intro v' w4 hown hg4 hn4
                  have HK4 := Lib.hid (HKEEP.out.more HB1.out HL.out.1 HL.out.2 HMET.out HG.out (own_rc encS_len (by decide) hown rfl) hg4 HC.out HYES.out HSS.out HSL.out)
                  clear hown hg4 hn4
                  go_wp2
                  go_roundw
                  case rel => exact ⟨y + 1, _, by omega, by go_num, HK4.out⟩
                  case measure => simp [intOf]; omega
            · obtain rfl : y = 4 := by omega
              clear hy4
              go_wp2
              go_roundw
              case rel => exact ⟨k + 1, out, by omega, by go_num, by rw [show 4 * (k + 1) = 4 * k + 4 by omega]; exact HKEEP.out⟩
              case measure => simp [intOf]; omega
        · obtain rfl : k = 9 := by omega
          have HS := Lib.hid (show seen (s, true) (t, false) 1 0 = seen (s, true) (t, false) 0 (4 * 9) by simp [seen])
          clear hk9
          go_wp2
          go_roundw
          case rel => exact ⟨1, out, by omega, rfl, by rw [HS.out]; exact HKEEP.out.1⟩
          case measure => simp [intOf]
    | 1, _ =>
      have i0 := idx1 s t true false
      rw [show ((1 : Nat) : Int) = 1 from rfl]
      have HS := Lib.hid (show seen (s, true) (t, false) 2 0 = seen (s, true) (t, false) 1 0 by simp [seen])
      go_wp2
      go_roundw
      case rel =>
        refine ⟨2, out, by omega, rfl, ?_⟩
        rw [HS.out]
        exact HINV.out.alloc _
      case measure => simp [intOf]
    | 2, _ =>
      rw [show ((2 : Nat) : Int) = 2 from rfl]
      have hsm := seen_small (s, true) (t, false) 2 0 (by omega)
      have HSO := Lib.hid (sort_any HINV.out.2.1 (by have := HINV.out.1; obtain ⟨L, c, h, _⟩ := this; have := h.inb; omega) (by have := HINV.out.2.2.2.2.2.1; omega) HINV.out.2.2.2.2.1)
      clear hsm
      go_wp2_with fail
      go_at_call 21
      refine HSO.out.mono ?_
      rintro e w2 ⟨rfl, hb2, m, hasc, hmem, hrow2⟩
      have HB2 := Lib.hid (HINV.out.2.2.2.1.trans (hb2.mono (Nat.le_add_right _ 2)))
      have hm : m = spotsL (s, true) (t, false) := spots_eq hasc fun s' => (hmem s').trans ((HINV.out.2.2.2.2.2.2 s').trans (seen_all ha hb s'))
      have HR2 := Lib.hid (own_base (hm ▸ hrow2) (Nat.le_add_right w.heap.size 2))
      clear hb2 hasc hmem hrow2 hm
      go_wp2
      go_ret
      exact ⟨_, rfl, HB2.out, HR2.out⟩

set_option maxRecDepth 100000 in
set_option maxHeartbeats 8000000 in
theorem spots_false_true (w : World) (s t : Sp) (ha : AnOk (s, false)) (hb : AnOk (t, true)) :
    Calls Try.prog 7 #[.agg #[.int .i64 s.1, .int .i64 s.2.1, .int .i64 s.2.2, .bool false, .int .i64 t.1, .int .i64 t.2.1, .int .i64 t.2.2, .bool true]] w fun e w' => ∃ v, e = .returned v ∧ Below w.heap.size w w' ∧ Row w' w.heap.size v (spotsL (s, false) (t, true)) := by
  have hmm := @run_makeMap Try.prog
  obtain ⟨X, hX⟩ : ∃ X : World, X = w.alloc (.cells #[.int .i64 s.1, .int .i64 s.2.1, .int .i64 s.2.2, .bool false, .int .i64 t.1, .int .i64 t.2.1, .int .i64 t.2.2, .bool true] 26) := ⟨_, rfl⟩
  have hxs : X.heap.size = w.heap.size + 1 := by rw [hX]; simp
  have hbx : Below w.heap.size w X := by rw [hX]; exact (Below.refl _ _).alloc (Nat.le_refl _) _
  have hm0 : Met (X.alloc (.map #[] 0)) (w.heap.size + 1) [] 0 := by rw [← hxs]; exact MapIs.made X
  have HINV := Lib.hid (show Inv w (X.alloc (.map #[] 0)) (w.heap.size + 1) (.slice none 0 0) [] (seen (s, false) (t, true) 0 0) from
    ⟨⟨[], 0, hm0, rfl, fun x hx => by simp at hx⟩, World.ownsRow_nil _ _ _ _, rfl, hbx.alloc (by omega) _, List.nodup_nil, Nat.zero_le _, fun s => by simp [seen]⟩)
  have HX := Lib.hid hX
  clear hX hxs hbx hm0
  go_enter Try.func7, Try.ntmps7
  go_wp2
  go_loopw [4, 12] (fun s_ i wr => ∃ (i' : Nat) (out : List Sp), i' ≤ 2 ∧ i = .int .i64 (i' : Nat) ∧ Inv w wr (w.heap.size + 1) s_ out (seen (s, false) (t, true) i' 0)) (fun _ i _ => 2 - (intOf i).toNat)
  case atStart => exact ⟨0, [], Nat.zero_le _, rfl, by have := HINV.out; rw [HX.out] at this; exact this⟩
  case round =>
    obtain ⟨i, out, hi, rfl, hinv⟩ := hrel
    have HINV := Lib.hid hinv
    clear hinv
    match i, hi with
    | 0, _ =>
      have i0 := idx0 s t false true
      rw [show ((0 : Nat) : Int) = 0 from rfl]
      have HS := Lib.hid (show seen (s, false) (t, true) 1 0 = seen (s, false) (t, true) 0 0 by simp [seen])
      go_wp2
      go_roundw
      case rel =>
        refine ⟨1, out, by omega, rfl, ?_⟩
        rw [HS.out]
        exact HINV.out.alloc _
      case measure => simp [intOf]
    | 1, _ =>
      have i0 := idx1 s t false true
      rw [show ((1 : Nat) : Int) = 1 from rfl]
      obtain ⟨wo, rfl⟩ : ∃ wo : World, wo = wr := ⟨_, rfl⟩
      have HK0 := Lib.hid (HINV.out.keep_ t)
      go_wp2
      go_loopw [4, 7] (fun s_ k wr => ∃ (k' : Nat) (out : List Sp), k' ≤ 9 ∧ k = .int .i64 (k' : Nat) ∧ Keep w wr (w.heap.size + 1) wo.heap.size t s_ out (seen (s, false) (t, true) 1 (4 * k'))) (fun _ k _ => 9 - (intOf k).toNat)
      case atStart => exact ⟨0, out, Nat.zero_le _, rfl, HK0.out⟩
      case round =>
        obtain ⟨k, out, hk, rfl, hkeep⟩ := hrel
        have HKEEP := Lib.hid hkeep
        clear hkeep
        by_cases hk9 : k < 9
        · have l1 : (k : Int) < 9 := by omega
          obtain ⟨wk, rfl⟩ : ∃ wk : World, wk = wr := ⟨_, rfl⟩
          go_wp2
          go_loopw [4, 8] (fun s_ y wr => ∃ (y' : Nat) (out : List Sp), y' ≤ 4 ∧ y = .int .i64 (y' : Nat) ∧ Keep w wr (w.heap.size + 1) wo.heap.size t s_ out (seen (s, false) (t, true) 1 (4 * k + y'))) (fun _ y _ => 4 - (intOf y).toNat)
          case atStart => exact ⟨0, out, Nat.zero_le _, rfl, HKEEP.out⟩
          case round =>
            obtain ⟨y, out, hy, rfl, hkeep⟩ := hrel
            have HKEEP := Lib.hid hkeep
            obtain ⟨x0, x1, x2, x3, -⟩ := hkeep.anchor
            clear hkeep
            by_cases hy4 : y < 4
            · have l2 : (y : Int) < 4 := by omega
              obtain ⟨x', hx'⟩ : ∃ x', x' = wrap64 (wrap64 (t.1 + (k : Int) / 3) - 1) := ⟨_, rfl⟩
              obtain ⟨z', hz'⟩ : ∃ z', z' = wrap64 (wrap64 (t.2.2 + (k : Int) % 3) - 1) := ⟨_, rfl⟩
              have hcand : cand (t, true) (4 * k + y) = (x', (y : Int), z') := by rw [cand_is _ _ _ _ hy4, hx', hz']
              have HSS := Lib.hid (fun s' => seen_succ1 (a := (s, false)) (b := (t, true)) rfl (4 * k + y) s')
              rw [hcand] at HSS
              have HSL := Lib.hid (seen_len1 (a := (s, false)) (b := (t, true)) rfl (4 * k + y))
              have HMS := Lib.hid (maySpot_any (wr.alloc (.cells #[.int .i64 x', .int .i64 (y : Int), .int .i64 z'] 23)) (x', (y : Int), z'))
              have HK9 := Lib.hid (Blk.new wr 23 #[.int .i64 x', .int .i64 (y : Int), .int .i64 z'])
              have hb9 : Below wr.heap.size wr (wr.alloc (.cells #[.int .i64 x', .int .i64 (y : Int), .int .i64 z'] 23)) := (Below.refl _ _).alloc (Nat.le_refl _) _
              have HB9 := Lib.hid hb9
              have hx'' := hx'.symm
              have hz'' := hz'.symm
              clear hx' hz' hcand hb9
              cases hms : maySpot (x', (y : Int), z') with
              | false =>
                rw [hms] at HMS
                have HNO := Lib.hid hms
                clear hms
                go_wp2_with fail
                go_at_call 18
                refine HMS.out.mono ?_
                rintro e w1 ⟨rfl, hb1⟩
                have HB1 := Lib.hid (HB9.out.trans (hb1.mono (Nat.le_of_lt HK9.out.lt)))
                clear hb1
                go_wp2
                go_roundw
                case rel => exact ⟨y + 1, out, by omega, by go_num, HKEEP.out.skip_ HB1.out HSS.out HSL.out (.inl HNO.out)⟩
                case measure => simp [intOf]; omega
              | true =>
                rw [hms] at HMS
                have HYES := Lib.hid hms
                clear hms
                go_wp2_with fail
                go_at_call 18
                refine HMS.out.mono ?_
                rintro e w1 ⟨rfl, hb1⟩
                have HB1 := Lib.hid (HB9.out.trans (hb1.mono (Nat.le_of_lt HK9.out.lt)))
                have hk9' := HK9.out.below hb1 HK9.out.lt
                obtain ⟨d0, d1, d2, -⟩ := hk9'.three
                have HK91 := Lib.hid hk9'
                have hkk := HKEEP.out.below_ HB1.out
                obtain ⟨⟨⟨L, cc, hmet, hL, hone⟩, hrow, -, hbl, -, hlen, -⟩, hblk⟩ := hkk
                have hok := SpOk.of_may HYES.out
                by_cases hc : (x', (y : Int), z') ∈ out
                · have hgm : getM L (x', (y : Int), z') = some (.int .i64 1) := by
                    rw [← hL] at hc
                    obtain ⟨e, he, hes⟩ := List.mem_map.1 hc
                    obtain ⟨j, hj, hje⟩ := List.getElem_of_mem he
                    rw [getM_some hmet.keys (show L[j]? = some e by rw [List.getElem?_eq_getElem hj, hje]) hes, hone e he]
                  have hlk := hmet.lookup keyed_ Try.underlying46 key_spot spV_inj hok false (zero_int w1)
                  rw [hgm] at hlk
                  have HC := Lib.hid hc
                  clear hb1 hk9' hmet hL hone hrow hbl hlen hblk hok hc hgm
                  go_wp2
                  go_roundw
                  case rel => exact ⟨y + 1, out, by omega, by go_num, HKEEP.out.skip_ HB1.out HSS.out HSL.out (.inr HC.out)⟩
                  case measure => simp [intOf]; omega
                · have hcl : (x', (y : Int), z') ∉ keysOf L := by rw [hL]; exact hc
                  have hgm := getM_none.2 hcl
                  have hlk := hmet.lookup keyed_ Try.underlying46 key_spot spV_inj hok false (zero_int w1)
                  rw [hgm] at hlk
                  have hlk2 := hmet.drew.lookup keyed_ Try.underlying46 key_spot spV_inj hok false (zero_int w1.drew)
                  rw [hgm] at hlk2
                  obtain ⟨W2, n, L', c', hent, hmet2, hg2, hx2, rfl, hput, hget⟩ := hmet.drew.entry keyed_ Try.underlying46 key_spot spV_inj hok (zero_int w1.drew)
                  rw [hgm] at hent hget
                  have hlk3 := hmet2.lookup keyed_ Try.underlying46 key_spot spV_inj hok false (zero_int W2)
                  rw [hget] at hlk3
                  obtain ⟨W3, hst, hmet3, hg3⟩ := hmet2.store (P := Try.prog) (t := 46) hx2 (.int .i64 1)
                  rw [hput, putM, if_neg hcl] at hmet3
                  have hg13 : w1.grownBy W3 (some (w.heap.size + 1)) := World.grownBy.trans (only_drew (World.grownBy.refl w1 _)) (World.grownBy.trans hg2 hg3)
                  have hk93 := hk9'.grown hg13 (fun e => by injection e with e; exact blk_met hk9' hmet e)
                  obtain ⟨d0', d1', d2', -⟩ := hk93.three
                  have HROW := Lib.hid (hrow.kept hg13 (.inr (row_met hrow hmet)))
                  have HG := Lib.hid hg13
                  have HMET := Lib.hid hmet3
                  have HL := Lib.hid (And.intro hL hone)
                  have HC := Lib.hid hc
                  have hsm := seen_small (s, false) (t, true) 1 (4 * k + y) (by omega)
                  have HLEN := Lib.hid (show out.length ≤ 1099511627775 by omega)
                  have HSZ := Lib.hid (show w.heap.size + 2 ≤ W3.heap.size by have h1 := hmet3.inb; omega)
                  clear hb1 hk9' hmet hL hone hrow hbl hlen hblk hok hc hgm hcl hmet2 hg2 hx2 hput hget hmet3 hg3 hg13 hk93 hsm
                  go_wp2
                  go_region
                  clear hlk hlk2 hent hlk3 hst
                  go_wp2_with (at_builtin; refine row_law encS_len encS_one (by decide) Try.underlying27 infoSpot rfl (by decide) HROW.out rfl _ _ rfl rfl (x', (y : Int), z') rfl rfl rfl HLEN.out HSZ.out ?_)
                  intro v' w4 hown hg4 hn4
                  have HK4 := Lib.hid (HKEEP.out.more HB1.out HL.out.1 HL.out.2 HMET.out HG.out (own_rc encS_len (by decide) hown rfl) hg4 HC.out HYES.out HSS.out HSL.out)
                  clear hown hg4 hn4
                  go_wp2
                  go_roundw
                  case rel => exact ⟨y + 1, _, by omega, by go_num, HK4.out⟩
                  case measure => simp [intOf]; omega
            · obtain rfl : y = 4 := by omega
              clear hy4
              go_wp2
              go_roundw
              case rel => exact ⟨k + 1, out, by omega, by go_num, by rw [show 4 * (k + 1) = 4 * k + 4 by omega]; exact HKEEP.out⟩
              case measure => simp [intOf]; omega
        · obtain rfl : k = 9 := by omega
          have HS := Lib.hid (show seen (s, false) (t, true) 2 0 = seen (s, false) (t, true) 1 (4 * 9) by simp [seen])
          clear hk9
          go_wp2
          go_roundw
          case rel => exact ⟨2, out, by omega, rfl, by rw [HS.out]; exact HKEEP.out.1⟩
          case measure => simp [intOf]
    | 2, _ =>
      rw [show ((2 : Nat) : Int) = 2 from rfl]
      have hsm := seen_small (s, false) (t, true) 2 0 (by omega)
      have HSO := Lib.hid (sort_any HINV.out.2.1 (by have := HINV.out.1; obtain ⟨L, c, h, _⟩ := this; have := h.inb; omega) (by have := HINV.out.2.2.2.2.2.1; omega) HINV.out.2.2.2.2.1)
      clear hsm
      go_wp2_with fail
      go_at_call 21
      refine HSO.out.mono ?_
      rintro e w2 ⟨rfl, hb2, m, hasc, hmem, hrow2⟩
      have HB2 := Lib.hid (HINV.out.2.2.2.1.trans (hb2.mono (Nat.le_add_right _ 2)))
      have hm : m = spotsL (s, false) (t, true) := spots_eq hasc fun s' => (hmem s').trans ((HINV.out.2.2.2.2.2.2 s').trans (seen_all ha hb s'))
      have HR2 := Lib.hid (own_base (hm ▸ hrow2) (Nat.le_add_right w.heap.size 2))
      clear hb2 hasc hmem hrow2 hm
      go_wp2
      go_ret
      exact ⟨_, rfl, HB2.out, HR2.out⟩

set_option maxRecDepth 100000 in
set_option maxHeartbeats 8000000 in
theorem spots_true_true (w : World) (s t : Sp) (ha : AnOk (s, true)) (hb : AnOk (t, true)) :
    Calls Try.prog 7 #[.agg #[.int .i64 s.1, .int .i64 s.2.1, .int .i64 s.2.2, .bool true, .int .i64 t.1, .int .i64 t.2.1, .int .i64 t.2.2, .bool true]] w fun e w' => ∃ v, e = .returned v ∧ Below w.heap.size w w' ∧ Row w' w.heap.size v (spotsL (s, true) (t, true)) := by
  have hmm := @run_makeMap Try.prog
  obtain ⟨X, hX⟩ : ∃ X : World, X = w.alloc (.cells #[.int .i64 s.1, .int .i64 s.2.1, .int .i64 s.2.2, .bool true, .int .i64 t.1, .int .i64 t.2.1, .int .i64 t.2.2, .bool true] 26) := ⟨_, rfl⟩
  have hxs : X.heap.size = w.heap.size + 1 := by rw [hX]; simp
  have hbx : Below w.heap.size w X := by rw [hX]; exact (Below.refl _ _).alloc (Nat.le_refl _) _
  have hm0 : Met (X.alloc (.map #[] 0)) (w.heap.size + 1) [] 0 := by rw [← hxs]; exact MapIs.made X
  have HINV := Lib.hid (show Inv w (X.alloc (.map #[] 0)) (w.heap.size + 1) (.slice none 0 0) [] (seen (s, true) (t, true) 0 0) from
    ⟨⟨[], 0, hm0, rfl, fun x hx => by simp at hx⟩, World.ownsRow_nil _ _ _ _, rfl, hbx.alloc (by omega) _, List.nodup_nil, Nat.zero_le _, fun s => by simp [seen]⟩)
  have HX := Lib.hid hX
  clear hX hxs hbx hm0
  go_enter Try.func7, Try.ntmps7
  go_wp2
  go_loopw [4, 12] (fun s_ i wr => ∃ (i' : Nat) (out : List Sp), i' ≤ 2 ∧ i = .int .i64 (i' : Nat) ∧ Inv w wr (w.heap.size + 1) s_ out (seen (s, true) (t, true) i' 0)) (fun _ i _ => 2 - (intOf i).toNat)
  case atStart => exact ⟨0, [], Nat.zero_le _, rfl, by have := HINV.out; rw [HX.out] at this; exact this⟩
  case round =>
    obtain ⟨i, out, hi, rfl, hinv⟩ := hrel
    have HINV := Lib.hid hinv
    clear hinv
    match i, hi with
    | 0, _ =>
      have i0 := idx0 s t true true
      rw [show ((0 : Nat) : Int) = 0 from rfl]
      obtain ⟨wo, rfl⟩ : ∃ wo : World, wo = wr := ⟨_, rfl⟩
      have HK0 := Lib.hid (HINV.out.keep_ s)
      go_wp2
      go_loopw [4, 7] (fun s_ k wr => ∃ (k' : Nat) (out : List Sp), k' ≤ 9 ∧ k = .int .i64 (k' : Nat) ∧ Keep w wr (w.heap.size + 1) wo.heap.size s s_ out (seen (s, true) (t, true) 0 (4 * k'))) (fun _ k _ => 9 - (intOf k).toNat)
      case atStart => exact ⟨0, out, Nat.zero_le _, rfl, HK0.out⟩
      case round =>
        obtain ⟨k, out, hk, rfl, hkeep⟩ := hrel
        have HKEEP := Lib.hid hkeep
        clear hkeep
        by_cases hk9 : k < 9
        · have l1 : (k : Int) < 9 := by omega
          obtain ⟨wk, rfl⟩ : ∃ wk : World, wk = wr := ⟨_, rfl⟩
          go_wp2
          go_loopw [4, 8] (fun s_ y wr => ∃ (y' : Nat) (out : List Sp), y' ≤ 4 ∧ y = .int .i64 (y' : Nat) ∧ Keep w wr (w.heap.size + 1) wo.heap.size s s_ out (seen (s, true) (t, true) 0 (4 * k + y'))) (fun _ y _ => 4 - (intOf y).toNat)
          case atStart => exact ⟨0, out, Nat.zero_le _, rfl, HKEEP.out⟩
          case round =>
            obtain ⟨y, out, hy, rfl, hkeep⟩ := hrel
            have HKEEP := Lib.hid hkeep
            obtain ⟨x0, x1, x2, x3, -⟩ := hkeep.anchor
            clear hkeep
            by_cases hy4 : y < 4
            · have l2 : (y : Int) < 4 := by omega
              obtain ⟨x', hx'⟩ : ∃ x', x' = wrap64 (wrap64 (s.1 + (k : Int) / 3) - 1) := ⟨_, rfl⟩
              obtain ⟨z', hz'⟩ : ∃ z', z' = wrap64 (wrap64 (s.2.2 + (k : Int) % 3) - 1) := ⟨_, rfl⟩
              have hcand : cand (s, true) (4 * k + y) = (x', (y : Int), z') := by rw [cand_is _ _ _ _ hy4, hx', hz']
              have HSS := Lib.hid (fun s' => seen_succ0 (a := (s, true)) (b := (t, true)) rfl (4 * k + y) s')
              rw [hcand] at HSS
              have HSL := Lib.hid (seen_len0 (a := (s, true)) (b := (t, true)) rfl (4 * k + y))
              have HMS := Lib.hid (maySpot_any (wr.alloc (.cells #[.int .i64 x', .int .i64 (y : Int), .int .i64 z'] 23)) (x', (y : Int), z'))
              have HK9 := Lib.hid (Blk.new wr 23 #[.int .i64 x', .int .i64 (y : Int), .int .i64 z'])
              have hb9 : Below wr.heap.size wr (wr.alloc (.cells #[.int .i64 x', .int .i64 (y : Int), .int .i64 z'] 23)) := (Below.refl _ _).alloc (Nat.le_refl _) _
              have HB9 := Lib.hid hb9
              have hx'' := hx'.symm
              have hz'' := hz'.symm
              clear hx' hz' hcand hb9
              cases hms : maySpot (x', (y : Int), z') with
              | false =>
                rw [hms] at HMS
                have HNO := Lib.hid hms
                clear hms
                go_wp2_with fail
                go_at_call 18
                refine HMS.out.mono ?_
                rintro e w1 ⟨rfl, hb1⟩
                have HB1 := Lib.hid (HB9.out.trans (hb1.mono (Nat.le_of_lt HK9.out.lt)))
                clear hb1
                go_wp2
                go_roundw
                case rel => exact ⟨y + 1, out, by omega, by go_num, HKEEP.out.skip_ HB1.out HSS.out HSL.out (.inl HNO.out)⟩
                case measure => simp [intOf]; omega
              | true =>
                rw [hms] at HMS
                have HYES := Lib.hid hms
                clear hms
                go_wp2_with fail
                go_at_call 18
                refine HMS.out.mono ?_
                rintro e w1 ⟨rfl, hb1⟩
                have HB1 := Lib.hid (HB9.out.trans (hb1.mono (Nat.le_of_lt HK9.out.lt)))
                have hk9' := HK9.out.below hb1 HK9.out.lt
                obtain ⟨d0, d1, d2, -⟩ := hk9'.three
                have HK91 := Lib.hid hk9'
                have hkk := HKEEP.out.below_ HB1.out
                obtain ⟨⟨⟨L, cc, hmet, hL, hone⟩, hrow, -, hbl, -, hlen, -⟩, hblk⟩ := hkk
                have hok := SpOk.of_may HYES.out
                by_cases hc : (x', (y : Int), z') ∈ out
                · have hgm : getM L (x', (y : Int), z') = some (.int .i64 1) := by
                    rw [← hL] at hc
                    obtain ⟨e, he, hes⟩ := List.mem_map.1 hc
                    obtain ⟨j, hj, hje⟩ := List.getElem_of_mem he
                    rw [getM_some hmet.keys (show L[j]? = some e by rw [List.getElem?_eq_getElem hj, hje]) hes, hone e he]
                  have hlk := hmet.lookup keyed_ Try.underlying46 key_spot spV_inj hok false (zero_int w1)
                  rw [hgm] at hlk
                  have HC := Lib.hid hc
                  clear hb1 hk9' hmet hL hone hrow hbl hlen hblk hok hc hgm
                  go_wp2
                  go_roundw
                  case rel => exact ⟨y + 1, out, by omega, by go_num, HKEEP.out.skip_ HB1.out HSS.out HSL.out (.inr HC.out)⟩
                  case measure => simp [intOf]; omega
                · have hcl : (x', (y : Int), z') ∉ keysOf L := by rw [hL]; exact hc
                  have hgm := getM_none.2 hcl
                  have hlk := hmet.lookup keyed_ Try.underlying46 key_spot spV_inj hok false (zero_int w1)
                  rw [hgm] at hlk
                  have hlk2 := hmet.drew.lookup keyed_ Try.underlying46 key_spot spV_inj hok false (zero_int w1.drew)
                  rw [hgm] at hlk2
                  obtain ⟨W2, n, L', c', hent, hmet2, hg2, hx2, rfl, hput, hget⟩ := hmet.drew.entry keyed_ Try.underlying46 key_spot spV_inj hok (zero_int w1.drew)
                  rw [hgm] at hent hget
                  have hlk3 := hmet2.lookup keyed_ Try.underlying46 key_spot spV_inj hok false (zero_int W2)
                  rw [hget] at hlk3
                  obtain ⟨W3, hst, hmet3, hg3⟩ := hmet2.store (P := Try.prog) (t := 46) hx2 (.int .i64 1)
                  rw [hput, putM, if_neg hcl] at hmet3
                  have hg13 : w1.grownBy W3 (some (w.heap.size + 1)) := World.grownBy.trans (only_drew (World.grownBy.refl w1 _)) (World.grownBy.trans hg2 hg3)
                  have hk93 := hk9'.grown hg13 (fun e => by injection e with e; exact blk_met hk9' hmet e)
                  obtain ⟨d0', d1', d2', -⟩ := hk93.three
                  have HROW := Lib.hid (hrow.kept hg13 (.inr (row_met hrow hmet)))
                  have HG := Lib.hid hg13
                  have HMET := Lib.hid hmet3
                  have HL := Lib.hid (And.intro hL hone)
                  have HC := Lib.hid hc
                  have hsm := seen_small (s, true) (t, true) 0 (4 * k + y) (by omega)
                  have HLEN := Lib.hid (show out.length ≤ 1099511627775 by omega)
                  have HSZ := Lib.hid (show w.heap.size + 2 ≤ W3.heap.size by have h1 := hmet3.inb; omega)
                  clear hb1 hk9' hmet hL hone hrow hbl hlen hblk hok hc hgm hcl hmet2 hg2 hx2 hput hget hmet3 hg3 hg13 hk93 hsm
                  go_wp2
                  go_region
                  clear hlk hlk2 hent hlk3 hst
                  go_wp2_with (at_builtin; refine row_law encS_len encS_one (by decide) Try.underlying27 infoSpot rfl (by decide) HROW.out rfl _ _ rfl rfl (x', (y : Int), z') rfl rfl rfl HLEN.out HSZ.out ?_)
                  intro v' w4 hown hg4 hn4
                  have HK4 := Lib.hid (HKEEP.out.more HB1.out HL.out.1 HL.out.2 HMET.out HG.out (own_rc encS_len (by decide) hown rfl) hg4 HC.out HYES.out HSS.out HSL.out)
                  clear hown hg4 hn4
                  go_wp2
                  go_roundw
                  case rel => exact ⟨y + 1, _, by omega, by go_num, HK4.out⟩
                  case measure => simp [intOf]; omega
            · obtain rfl : y = 4 := by omega
              clear hy4
              go_wp2
              go_roundw
              case rel => exact ⟨k + 1, out, by omega, by go_num, by rw [show 4 * (k + 1) = 4 * k + 4 by omega]; exact HKEEP.out⟩
              case measure => simp [intOf]; omega
        · obtain rfl : k = 9 := by omega
          have HS := Lib.hid (show seen (s, true) (t, true) 1 0 = seen (s, true) (t, true) 0 (4 * 9) by simp [seen])
          clear hk9
          go_wp2
          go_roundw
          case rel => exact ⟨1, out, by omega, rfl, by rw [HS.out]; exact HKEEP.out.1⟩
          case measure => simp [intOf]
    | 1, _ =>
      have i0 := idx1 s t true true
      rw [show ((1 : Nat) : Int) = 1 from rfl]
      obtain ⟨wo, rfl⟩ : ∃ wo : World, wo = wr := ⟨_, rfl⟩
      have HK0 := Lib.hid (HINV.out.keep_ t)
      go_wp2
      go_loopw [4, 7] (fun s_ k wr => ∃ (k' : Nat) (out : List Sp), k' ≤ 9 ∧ k = .int .i64 (k' : Nat) ∧ Keep w wr (w.heap.size + 1) wo.heap.size t s_ out (seen (s, true) (t, true) 1 (4 * k'))) (fun _ k _ => 9 - (intOf k).toNat)
      case atStart => exact ⟨0, out, Nat.zero_le _, rfl, HK0.out⟩
      case round =>
        obtain ⟨k, out, hk, rfl, hkeep⟩ := hrel
        have HKEEP := Lib.hid hkeep
        clear hkeep
        by_cases hk9 : k < 9
        · have l1 : (k : Int) < 9 := by omega
          obtain ⟨wk, rfl⟩ : ∃ wk : World, wk = wr := ⟨_, rfl⟩
          go_wp2
          go_loopw [4, 8] (fun s_ y wr => ∃ (y' : Nat) (out : List Sp), y' ≤ 4 ∧ y = .int .i64 (y' : Nat) ∧ Keep w wr (w.heap.size + 1) wo.heap.size t s_ out (seen (s, true) (t, true) 1 (4 * k + y'))) (fun _ y _ => 4 - (intOf y).toNat)
          case atStart => exact ⟨0, out, Nat.zero_le _, rfl, HKEEP.out⟩
          case round =>
            obtain ⟨y, out, hy, rfl, hkeep⟩ := hrel
            have HKEEP := Lib.hid hkeep
            obtain ⟨x0, x1, x2, x3, -⟩ := hkeep.anchor
            clear hkeep
            by_cases hy4 : y < 4
            · have l2 : (y : Int) < 4 := by omega
              obtain ⟨x', hx'⟩ : ∃ x', x' = wrap64 (wrap64 (t.1 + (k : Int) / 3) - 1) := ⟨_, rfl⟩
              obtain ⟨z', hz'⟩ : ∃ z', z' = wrap64 (wrap64 (t.2.2 + (k : Int) % 3) - 1) := ⟨_, rfl⟩
              have hcand : cand (t, true) (4 * k + y) = (x', (y : Int), z') := by rw [cand_is _ _ _ _ hy4, hx', hz']
              have HSS := Lib.hid (fun s' => seen_succ1 (a := (s, true)) (b := (t, true)) rfl (4 * k + y) s')
              rw [hcand] at HSS
              have HSL := Lib.hid (seen_len1 (a := (s, true)) (b := (t, true)) rfl (4 * k + y))
              have HMS := Lib.hid (maySpot_any (wr.alloc (.cells #[.int .i64 x', .int .i64 (y : Int), .int .i64 z'] 23)) (x', (y : Int), z'))
              have HK9 := Lib.hid (Blk.new wr 23 #[.int .i64 x', .int .i64 (y : Int), .int .i64 z'])
              have hb9 : Below wr.heap.size wr (wr.alloc (.cells #[.int .i64 x', .int .i64 (y : Int), .int .i64 z'] 23)) := (Below.refl _ _).alloc (Nat.le_refl _) _
              have HB9 := Lib.hid hb9
              have hx'' := hx'.symm
              have hz'' := hz'.symm
              clear hx' hz' hcand hb9
              cases hms : maySpot (x', (y : Int), z') with
              | false =>
                rw [hms] at HMS
                have HNO := Lib.hid hms
                clear hms
                go_wp2_with fail
                go_at_call 18
                refine HMS.out.mono ?_
                rintro e w1 ⟨rfl, hb1⟩
                have HB1 := Lib.hid (HB9.out.trans (hb1.mono (Nat.le_of_lt HK9.out.lt)))
                clear hb1
                go_wp2
                go_roundw
                case rel => exact ⟨y + 1, out, by omega, by go_num, HKEEP.out.skip_ HB1.out HSS.out HSL.out (.inl HNO.out)⟩
                case measure => simp [intOf]; omega
              | true =>
                rw [hms] at HMS
                have HYES := Lib.hid hms
                clear hms
                go_wp2_with fail
                go_at_call 18
                refine HMS.out.mono ?_
                rintro e w1 ⟨rfl, hb1⟩
                have HB1 := Lib.hid (HB9.out.trans (hb1.mono (Nat.le_of_lt HK9.out.lt)))
                have hk9' := HK9.out.below hb1 HK9.out.lt
                obtain ⟨d0, d1, d2, -⟩ := hk9'.three
                have HK91 := Lib.hid hk9'
                have hkk := HKEEP.out.below_ HB1.out
                obtain ⟨⟨⟨L, cc, hmet, hL, hone⟩, hrow, -, hbl, -, hlen, -⟩, hblk⟩ := hkk
                have hok := SpOk.of_may HYES.out
                by_cases hc : (x', (y : Int), z') ∈ out
                · have hgm : getM L (x', (y : Int), z') = some (.int .i64 1) := by
                    rw [← hL] at hc
                    obtain ⟨e, he, hes⟩ := List.mem_map.1 hc
                    obtain ⟨j, hj, hje⟩ := List.getElem_of_mem he
                    rw [getM_some hmet.keys (show L[j]? = some e by rw [List.getElem?_eq_getElem hj, hje]) hes, hone e he]
                  have hlk := hmet.lookup keyed_ Try.underlying46 key_spot spV_inj hok false (zero_int w1)
                  rw [hgm] at hlk
                  have HC := Lib.hid hc
                  clear hb1 hk9' hmet hL hone hrow hbl hlen hblk hok hc hgm
                  go_wp2
                  go_roundw
                  case rel => exact ⟨y + 1, out, by omega, by go_num, HKEEP.out.skip_ HB1.out HSS.out HSL.out (.inr HC.out)⟩
                  case measure => simp [intOf]; omega
                · have hcl : (x', (y : Int), z') ∉ keysOf L := by rw [hL]; exact hc
                  have hgm := getM_none.2 hcl
                  have hlk := hmet.lookup keyed_ Try.underlying46 key_spot spV_inj hok false (zero_int w1)
                  rw [hgm] at hlk
                  have hlk2 := hmet.drew.lookup keyed_ Try.underlying46 key_spot spV_inj hok false (zero_int w1.drew)
                  rw [hgm] at hlk2
                  obtain ⟨W2, n, L', c', hent, hmet2, hg2, hx2, rfl, hput, hget⟩ := hmet.drew.entry keyed_ Try.underlying46 key_spot spV_inj hok (zero_int w1.drew)
                  rw [hgm] at hent hget
                  have hlk3 := hmet2.lookup keyed_ Try.underlying46 key_spot spV_inj hok false (zero_int W2)
                  rw [hget] at hlk3
                  obtain ⟨W3, hst, hmet3, hg3⟩ := hmet2.store (P := Try.prog) (t := 46) hx2 (.int .i64 1)
                  rw [hput, putM, if_neg hcl] at hmet3
                  have hg13 : w1.grownBy W3 (some (w.heap.size + 1)) := World.grownBy.trans (only_drew (World.grownBy.refl w1 _)) (World.grownBy.trans hg2 hg3)
                  have hk93 := hk9'.grown hg13 (fun e => by injection e with e; exact blk_met hk9' hmet e)
                  obtain ⟨d0', d1', d2', -⟩ := hk93.three
                  have HROW := Lib.hid (hrow.kept hg13 (.inr (row_met hrow hmet)))
                  have HG := Lib.hid hg13
                  have HMET := Lib.hid hmet3
                  have HL := Lib.hid (And.intro hL hone)
                  have HC := Lib.hid hc
                  have hsm := seen_small (s, true) (t, true) 1 (4 * k + y) (by omega)
                  have HLEN := Lib.hid (show out.length ≤ 1099511627775 by omega)
                  have HSZ := Lib.hid (show w.heap.size + 2 ≤ W3.heap.size by have h1 := hmet3.inb; omega)
                  clear hb1 hk9' hmet hL hone hrow hbl hlen hblk hok hc hgm hcl hmet2 hg2 hx2 hput hget hmet3 hg3 hg13 hk93 hsm
                  go_wp2
                  go_region
                  clear hlk hlk2 hent hlk3 hst
                  go_wp2_with (at_builtin; refine row_law encS_len encS_one (by decide) Try.underlying27 infoSpot rfl (by decide) HROW.out rfl _ _ rfl rfl (x', (y : Int), z') rfl rfl rfl HLEN.out HSZ.out ?_)
                  intro v' w4 hown hg4 hn4
                  have HK4 := Lib.hid (HKEEP.out.more HB1.out HL.out.1 HL.out.2 HMET.out HG.out (own_rc encS_len (by decide) hown rfl) hg4 HC.out HYES.out HSS.out HSL.out)
                  clear hown hg4 hn4
                  go_wp2
                  go_roundw
                  case rel => exact ⟨y + 1, _, by omega, by go_num, HK4.out⟩
                  case measure => simp [intOf]; omega
            · obtain rfl : y = 4 := by omega
              clear hy4
              go_wp2
              go_roundw
              case rel => exact ⟨k + 1, out, by omega, by go_num, by rw [show 4 * (k + 1) = 4 * k + 4 by omega]; exact HKEEP.out⟩
              case measure => simp [intOf]; omega
        · obtain rfl : k = 9 := by omega
          have HS := Lib.hid (show seen (s, true) (t, true) 2 0 = seen (s, true) (t, true) 1 (4 * 9) by simp [seen])
          clear hk9
          go_wp2
          go_roundw
          case rel => exact ⟨2, out, by omega, rfl, by rw [HS.out]; exact HKEEP.out.1⟩
          case measure => simp [intOf]
    | 2, _ =>
      rw [show ((2 : Nat) : Int) = 2 from rfl]
      have hsm := seen_small (s, true) (t, true) 2 0 (by omega)
      have HSO := Lib.hid (sort_any HINV.out.2.1 (by have := HINV.out.1; obtain ⟨L, c, h, _⟩ := this; have := h.inb; omega) (by have := HINV.out.2.2.2.2.2.1; omega) HINV.out.2.2.2.2.1)
      clear hsm
      go_wp2_with fail
      go_at_call 21
      refine HSO.out.mono ?_
      rintro e w2 ⟨rfl, hb2, m, hasc, hmem, hrow2⟩
      have HB2 := Lib.hid (HINV.out.2.2.2.1.trans (hb2.mono (Nat.le_add_right _ 2)))
      have hm : m = spotsL (s, true) (t, true) := spots_eq hasc fun s' => (hmem s').trans ((HINV.out.2.2.2.2.2.2 s').trans (seen_all ha hb s'))
      have HR2 := Lib.hid (own_base (hm ▸ hrow2) (Nat.le_add_right w.heap.size 2))
      clear hb2 hasc hmem hrow2 hm
      go_wp2
      go_ret
      exact ⟨_, rfl, HB2.out, HR2.out⟩

theorem spots_walk (w : World) (a b : An) (ha : AnOk a) (hb : AnOk b) :
    Calls Try.prog 7 #[twoV a b] w fun e w' => ∃ v, e = .returned v ∧ Below w.heap.size w w' ∧ Row w' w.heap.size v (spotsL a b) := by
  obtain ⟨s, o⟩ := a
  obtain ⟨t, p⟩ := b
  cases o <;> cases p
  · exact spots_false_false w s t ha hb
  · exact spots_false_true w s t ha hb
  · exact spots_true_false w s t ha hb
  · exact spots_true_true w s t ha hb
end Go.Proofs.Ytokmbnmhdicljaa
