/- The document's Spots: the walk. -/
import Derived.Test.YtokmbnmhdicljaaASame
import Derived.Test.YtokmbnmhdicljaaALift
import Derived.StillTailTactics
import Derived.Deep.RegionHeld3
namespace Go.Proofs.Ytokmbnmhdicljaa
open Go.RowKit

theorem run_copy_zero {P : Program} (w : World) (dT sT ty elem : TypeId) {k : Nat} (d a : Option Addr) (dLen dCap sLen sCap : Nat) (hu : P.underlying dT = some (.slice elem)) (hs : (P.info? elem).map (·.size) = some k) (hn : Nat.min sLen dLen = 0) :
    (Builtin.copy_ #[dT, sT] ty #[.slice d dLen dCap, .slice a sLen sCap]).run P w = .ok (goInt 0) w := by
  cases hq : P.info? elem with
  | none => simp [hq] at hs
  | some i =>
    have hl : ∀ x, (loadCells x 0).run P w = .ok #[] w := fun x => run_loadCells_list (P := P) w x [] (fun j v h => by simp at h)
    cases d <;> cases a <;> simp [Builtin.copy_, run_underlying hu, Builtin.lenOf, Builtin.firstCells, sizeOf, typeInfo, hq, hn, hl, storeCells]
theorem copy_none {ops : Array Oper} {rest : List Oper} {o : Oper} {a : Act} {Q : Exit → Act → World → Prop} {w : World} (hgd : o.guard = none) (d s : Operand) {t elem : TypeId} {k : Nat}
    (ho : o.op = .call { callee := .builtin .copy, args := #[d, s], argTypes := #[t, t] }) (hu : Try.prog.underlying t = some (.slice elem)) (hsz : (Try.prog.info? elem).map (·.size) = some k)
    {dp sp : Option Addr} {dLen dCap sLen sCap : Nat} (hd : a.eval d = .slice dp dLen dCap) (hs : a.eval s = .slice sp sLen sCap) (hn : Nat.min sLen dLen = 0)
    (h : wpList Try.prog ops Q rest (a.put o.dst (goInt 0)) w) : wpList Try.prog ops Q (o :: rest) a w := by
  refine wpList_plain hgd fun K hK => ?_
  have hrun := run_copy_zero (P := Try.prog) w t t o.type elem dp sp dLen dCap sLen sCap hu hsz hn
  unfold Oper.wp
  simp [execOp, ho, resolve, invoke, builtin, hd, hs, hrun, Result.andThen]
  exact hK _ _ h
theorem in_cand0 {a b : An} (ho : AnOk a) (hon : a.2 = true) {n : Nat} (hn : n < 36) : inS a b (cand a n) = maySpot (cand a n) := by
  unfold inS
  cases hm : maySpot (cand a n) with
  | false => rfl
  | true => rw [cand_near ho hn hm hon]; rfl
theorem in_cand1 {a b : An} (ho : AnOk b) (hon : b.2 = true) {n : Nat} (hn : n < 36) : inS a b (cand b n) = maySpot (cand b n) := by rw [inS_swap, in_cand0 ho hon hn]
theorem infoSize : (Try.prog.info? 23).map (·.size) = some 3 := by kernel_rfl
theorem wrap_in (x : Int) : -9223372036854775808 ≤ IntKind.i64.wrap x ∧ IntKind.i64.wrap x ≤ 9223372036854775807 := by rw [wrap_is]; omega
theorem cand_ok (a : An) (n : Nat) : SpOk (cand a n) := ⟨wrap_in _, by show -9223372036854775808 ≤ ((n % 4 : Nat) : Int) ∧ ((n % 4 : Nat) : Int) ≤ 9223372036854775807; omega, wrap_in _⟩
theorem cmpS_less {a b : Sp} (h : ltS a b) : cmpS a b = -1 := by
  unfold cmpS cmp1
  unfold ltS at h
  repeat' split
  all_goals omega
theorem cmpS_more {a b : Sp} (h : ltS b a) : cmpS a b = 1 := by
  unfold cmpS cmp1
  unfold ltS at h
  repeat' split
  all_goals omega
theorem qCmp_lit (w : World) (a b : Sp) (r : Int) (h : cmpS a b = r) : Calls Try.prog 22 #[spV a, spV b] w fun e w' => e = .returned (.int .i64 r) ∧ Below w.heap.size w w' := h ▸ qCmpSpot_any w a b
set_option maxRecDepth 100000 in
theorem spot_ne {u c : Sp} (h : u ≠ c) (w : World) : (binOp .eql 23 (.agg #[.int .i64 u.1, .int .i64 u.2.1, .int .i64 u.2.2]) (.agg #[.int .i64 c.1, .int .i64 c.2.1, .int .i64 c.2.2])).run Try.prog w = .ok (.bool false) w := by
  have h' : ¬ (u.1 = c.1 ∧ u.2.1 = c.2.1 ∧ u.2.2 = c.2.2) := fun ⟨a, b, d⟩ => h (Prod.ext a (Prod.ext b d))
  by_cases h1 : u.1 = c.1
  · by_cases h2 : u.2.1 = c.2.1
    · have h3 : ¬ u.2.2 = c.2.2 := fun h3 => h' ⟨h1, h2, h3⟩
      go_simp
    · clear h'
      go_simp
  · clear h'
    go_simp
set_option maxRecDepth 100000 in
theorem spot_ne2 {u c : Sp} (h : u ≠ c) (w : World) : (Op.equalIn 10000 23 (.agg #[.int .i64 u.1, .int .i64 u.2.1, .int .i64 u.2.2]) (.agg #[.int .i64 c.1, .int .i64 c.2.1, .int .i64 c.2.2])).run Try.prog w = .ok false w := by
  have h' : ¬ (u.1 = c.1 ∧ u.2.1 = c.2.1 ∧ u.2.2 = c.2.2) := fun ⟨a, b, d⟩ => h (Prod.ext a (Prod.ext b d))
  by_cases h1 : u.1 = c.1
  · by_cases h2 : u.2.1 = c.2.1
    · have h3 : ¬ u.2.2 = c.2.2 := fun h3 => h' ⟨h1, h2, h3⟩
      go_simp
    · clear h'
      go_simp
  · clear h'
    go_simp
/-- What the loops know. -/
def RInv (w0 w : World) (v : Value) (out S : List Sp) (a b : An) : Prop :=
  Row w (w0.heap.size + 1) v out ∧ Below w0.heap.size w0 w ∧ Blk w w0.heap.size 26 (cA a b) ∧ Asc out ∧ out.length ≤ S.length ∧ ∀ s, s ∈ out ↔ maySpot s = true ∧ s ∈ S
theorem RInv.below_ {w0 w w' : World} {v : Value} {out S : List Sp} {a b : An} (h : RInv w0 w v out S a b) (hb : Below w.heap.size w w') : RInv w0 w' v out S a b := by
  obtain ⟨h1, h2, h3, h4⟩ := h
  exact ⟨own_below h1 hb, h2.trans (hb.mono h2.size), h3.below hb h3.lt, h4⟩
theorem RInv.skip_ {w0 w w' : World} {v : Value} {out S S' : List Sp} {a b : An} {c : Sp} (h : RInv w0 w v out S a b) (hb : Below w.heap.size w w') (hS : ∀ s, s ∈ S' ↔ s = c ∨ s ∈ S) (hl : S'.length = S.length + 1)
    (hc : maySpot c = false ∨ c ∈ out) : RInv w0 w' v out S' a b := by
  obtain ⟨h1, h2, h3, h4, h5, h6⟩ := h.below_ hb
  refine ⟨h1, h2, h3, h4, by omega, fun s => ?_⟩
  rw [h6, hS]
  constructor
  · rintro ⟨e1, e2⟩; exact ⟨e1, .inr e2⟩
  · rintro ⟨e1, rfl | e2⟩
    · rcases hc with hc | hc
      · rw [e1] at hc; cases hc
      · exact (h6 _).1 hc
    · exact ⟨e1, e2⟩
theorem RInv.put_ {w0 w w3 w4 : World} {v : Value} {out S S' : List Sp} {a b : An} {c : Sp} {cs : Array Value} {g n cp i o0 o1 o2 : Nat} {x y z : Value} (h : RInv w0 w v out S a b) (hg3 : (w.alloc (.cells cs 23)).grownBy w3 v.ownBlock) (hg4 : w3.grownBy w4 (some g))
    (hrow : Row (((w4.setCell ⟨g, o0, none⟩ x).setCell ⟨g, o1, none⟩ y).setCell ⟨g, o2, none⟩ z) (w0.heap.size + 1) (.slice (some ⟨g, 0, none⟩) n cp) (putIn out i c))
    (hi : i ≤ out.length) (hlo : ∀ k, k < i → ltS (nthS out k) c) (hhi : i < out.length → ltS c (nthS out i)) (hm : maySpot c = true) (hS : ∀ s, s ∈ S' ↔ s = c ∨ s ∈ S) (hl : S'.length = S.length + 1) :
    RInv w0 (((w4.setCell ⟨g, o0, none⟩ x).setCell ⟨g, o1, none⟩ y).setCell ⟨g, o2, none⟩ z) (.slice (some ⟨g, 0, none⟩) n cp) (putIn out i c) S' a b := by
  obtain ⟨h1, h2, h3, h4, h5, h6⟩ := h
  have hg : w0.heap.size + 1 ≤ g := (hrow.lt g rfl).1
  have hlt : ∀ k, v.ownBlock = some k → w0.heap.size < k := fun k hk => by have := (h1.lt k hk).1; omega
  refine ⟨hrow, ?_, ?_, asc_putIn h4 hi hlo hhi, by rw [length_putIn]; omega, fun s => ?_⟩
  · have hb3 := (h2.alloc h2.size (.cells cs 23)).grown hg3 (by simp; have := h2.size; omega) (fun k hk => by have := hlt k hk; omega)
    have hb4 := hb3.grown hg4 hb3.size (fun k hk => by injection hk with hk; omega)
    exact ((hb4.setCell (p := ⟨g, o0, none⟩) (by show _ ≤ g; omega) _).setCell (p := ⟨g, o1, none⟩) (by show _ ≤ g; omega) _).setCell (p := ⟨g, o2, none⟩) (by show _ ≤ g; omega) _
  · have hb3 := (h3.alloc (.cells cs 23)).grown hg3 (fun e => by have := hlt _ e.symm; omega)
    have hb4 := hb3.grown hg4 (fun e => by injection e with e; omega)
    have hne : w0.heap.size ≠ g := by omega
    exact ((hb4.far (p := ⟨g, o0, none⟩) hne _).far (p := ⟨g, o1, none⟩) hne _).far (p := ⟨g, o2, none⟩) hne _
  · rw [mem_putIn, h6, hS]
    constructor
    · rintro (rfl | ⟨e1, e2⟩)
      · exact ⟨hm, .inl rfl⟩
      · exact ⟨e1, .inr e2⟩
    · rintro ⟨e1, rfl | e2⟩
      · exact .inl rfl
      · exact .inr ⟨e1, e2⟩

set_option maxRecDepth 100000 in
set_option maxHeartbeats 8000000 in
theorem rspots_false_false (w : World) (s t : Sp) (ha : AnOk (s, false)) (hb : AnOk (t, false)) :
    Calls Try.prog 8 #[.agg #[.int .i64 s.1, .int .i64 s.2.1, .int .i64 s.2.2, .bool false, .int .i64 t.1, .int .i64 t.2.1, .int .i64 t.2.2, .bool false]] w fun e w' => ∃ v, e = .returned v ∧ Below w.heap.size w w' ∧ Row w' w.heap.size v (spotsL (s, false) (t, false)) := by
  have HINV := Lib.hid (show RInv w (w.alloc (.cells #[.int .i64 s.1, .int .i64 s.2.1, .int .i64 s.2.2, .bool false, .int .i64 t.1, .int .i64 t.2.1, .int .i64 t.2.2, .bool false] 26)) (.slice none 0 0) [] (seen (s, false) (t, false) 0 0) (s, false) (t, false) from
    ⟨World.ownsRow_nil _ _ _ _, (Below.refl _ _).alloc (Nat.le_refl _) _, Blk.new w 26 _, List.Pairwise.nil, Nat.zero_le _, fun s => by simp [seen]⟩)
  go_enter Try.func8, Try.ntmps8
  go_wp2
  go_loopw [3, 4] (fun s_ i wr => ∃ (i' : Nat) (out : List Sp), i' ≤ 2 ∧ i = .int .i64 (i' : Nat) ∧ RInv w wr s_ out (seen (s, false) (t, false) i' 0) (s, false) (t, false)) (fun _ i _ => 2 - (intOf i).toNat)
  case atStart => exact ⟨0, [], Nat.zero_le _, rfl, HINV.out⟩
  case round =>
    obtain ⟨i, out, hi, rfl, hinv⟩ := hrel
    have HINV := Lib.hid hinv
    clear hinv
    match i, hi with
    | 0, _ =>
      rw [show ((0 : Nat) : Int) = 0 from rfl]
      obtain ⟨⟨a0, a1, a2, a3, a4, a5, a6, a7⟩, -⟩ := HINV.out.2.2.1.eight
      have HS := Lib.hid (show seen (s, false) (t, false) 1 0 = seen (s, false) (t, false) 0 0 by simp [seen])
      go_wp2
      go_roundw
      case rel => exact ⟨1, out, by omega, rfl, by rw [HS.out]; exact HINV.out⟩
      case measure => simp [intOf]
    | 1, _ =>
      rw [show ((1 : Nat) : Int) = 1 from rfl]
      obtain ⟨⟨a0, a1, a2, a3, a4, a5, a6, a7⟩, -⟩ := HINV.out.2.2.1.eight
      have HS := Lib.hid (show seen (s, false) (t, false) 2 0 = seen (s, false) (t, false) 1 0 by simp [seen])
      go_wp2
      go_roundw
      case rel => exact ⟨2, out, by omega, rfl, by rw [HS.out]; exact HINV.out⟩
      case measure => simp [intOf]
    | 2, _ =>
      rw [show ((2 : Nat) : Int) = 2 from rfl]
      have HE := Lib.hid (show out = spotsL (s, false) (t, false) from spots_eq HINV.out.2.2.2.1 fun s' => (HINV.out.2.2.2.2.2 s').trans (seen_all ha hb s'))
      go_wp2
      go_ret
      exact ⟨_, rfl, HINV.out.2.1, HE.out ▸ own_base HINV.out.1 (Nat.le_succ _)⟩

set_option maxRecDepth 100000 in
set_option maxHeartbeats 8000000 in
theorem rspots_true_false (w : World) (s t : Sp) (ha : AnOk (s, true)) (hb : AnOk (t, false)) :
    Calls Try.prog 8 #[.agg #[.int .i64 s.1, .int .i64 s.2.1, .int .i64 s.2.2, .bool true, .int .i64 t.1, .int .i64 t.2.1, .int .i64 t.2.2, .bool false]] w fun e w' => ∃ v, e = .returned v ∧ Below w.heap.size w w' ∧ Row w' w.heap.size v (spotsL (s, true) (t, false)) := by
  have HINV := Lib.hid (show RInv w (w.alloc (.cells #[.int .i64 s.1, .int .i64 s.2.1, .int .i64 s.2.2, .bool true, .int .i64 t.1, .int .i64 t.2.1, .int .i64 t.2.2, .bool false] 26)) (.slice none 0 0) [] (seen (s, true) (t, false) 0 0) (s, true) (t, false) from
    ⟨World.ownsRow_nil _ _ _ _, (Below.refl _ _).alloc (Nat.le_refl _) _, Blk.new w 26 _, List.Pairwise.nil, Nat.zero_le _, fun s => by simp [seen]⟩)
  go_enter Try.func8, Try.ntmps8
  go_wp2
  go_loopw [3, 4] (fun s_ i wr => ∃ (i' : Nat) (out : List Sp), i' ≤ 2 ∧ i = .int .i64 (i' : Nat) ∧ RInv w wr s_ out (seen (s, true) (t, false) i' 0) (s, true) (t, false)) (fun _ i _ => 2 - (intOf i).toNat)
  case atStart => exact ⟨0, [], Nat.zero_le _, rfl, HINV.out⟩
  case round =>
    obtain ⟨i, out, hi, rfl, hinv⟩ := hrel
    have HINV := Lib.hid hinv
    clear hinv
    match i, hi with
    | 0, _ =>
      rw [show ((0 : Nat) : Int) = 0 from rfl]
      obtain ⟨⟨a0, a1, a2, a3, a4, a5, a6, a7⟩, -⟩ := HINV.out.2.2.1.eight
      go_wp2
      clear a0 a1 a2 a3 a4 a5 a6 a7
      go_loopw [3, 5] (fun s_ n wr => ∃ (n' : Nat) (out : List Sp), n' ≤ 36 ∧ n = .int .i64 (n' : Nat) ∧ RInv w wr s_ out (seen (s, true) (t, false) 0 n') (s, true) (t, false)) (fun _ n _ => 36 - (intOf n).toNat)
      case atStart => exact ⟨0, out, Nat.zero_le _, rfl, HINV.out⟩
      case round =>
        obtain ⟨n, out, hn, rfl, hkeep⟩ := hrel
        by_cases hn36 : n < 36
        · have l1 : (n : Int) < 36 := by omega
          obtain ⟨⟨a0, a1, a2, a3, a4, a5, a6, a7⟩, -⟩ := hkeep.2.2.1.eight
          have ltl : w.heap.size < wr.heap.size := hkeep.2.2.1.lt
          have q1 : (n : Int).tdiv 12 = (n : Int) / 12 := Int.tdiv_eq_ediv_of_nonneg (by omega)
          have q2 : (n : Int).tmod 4 = (n : Int) % 4 := Int.tmod_eq_emod_of_nonneg (by omega)
          have q3 : (n : Int).tdiv 4 = (n : Int) / 4 := Int.tdiv_eq_ediv_of_nonneg (by omega)
          have q4 : ((n : Int) / 4).tmod 3 = (n : Int) / 4 % 3 := Int.tmod_eq_emod_of_nonneg (by omega)
          have q5 : IntKind.i64.wrap ((n : Int) / 12) = (n : Int) / 12 := IntWalk.i64_in _ (by omega)
          have q6 : IntKind.i64.wrap ((n : Int) / 4) = (n : Int) / 4 := IntWalk.i64_in _ (by omega)
          obtain ⟨c, hc⟩ : ∃ c, c = cand (s, true) n := ⟨_, rfl⟩
          have hx : IntKind.i64.wrap (IntKind.i64.wrap (s.1 + (n : Int) / 12) - 1) = c.1 := by
            rw [hc]
            show _ = addw s.1 ((n / 12 : Nat) : Int)
            rw [show ((n / 12 : Nat) : Int) = (n : Int) / 12 from rfl]
            rfl
          have hy : (n : Int) % 4 = c.2.1 := by rw [hc]; rfl
          have hz : IntKind.i64.wrap (IntKind.i64.wrap (s.2.2 + (n : Int) / 4 % 3) - 1) = c.2.2 := by
            rw [hc]
            show _ = addw s.2.2 ((n / 4 % 3 : Nat) : Int)
            rw [show ((n / 4 % 3 : Nat) : Int) = (n : Int) / 4 % 3 from rfl]
            rfl
          obtain ⟨w9, hw9⟩ : ∃ w9 : World, w9 = (wr.alloc (.cells #[.int .i64 c.1, .int .i64 c.2.1, .int .i64 c.2.2] 23)).drew := ⟨_, rfl⟩
          have HK9 := Lib.hid (show RInv w w9 u3 out (seen (s, true) (t, false) 0 n) (s, true) (t, false) by rw [hw9]; exact hkeep.below_ ((Below.refl _ _).alloc (Nat.le_refl _) _).drew)
          have HSP9 := Lib.hid (show Blk w9 wr.heap.size 23 #[.int .i64 c.1, .int .i64 c.2.1, .int .i64 c.2.2] by rw [hw9]; exact Blk.new wr 23 #[.int .i64 c.1, .int .i64 c.2.1, .int .i64 c.2.2])
          have HBR := Lib.hid (show Below wr.heap.size wr w9 by rw [hw9]; exact ((Below.refl _ _).alloc (Nat.le_refl _) _).drew)
          have HW9 := Lib.hid hw9
          have HNP := Lib.hid (show ∀ q, u3.ownBlock = some q → q < wr.heap.size from fun q hq => (hkeep.1.lt q hq).2)
          clear hw9 hkeep
          have HIN := Lib.hid (rIn_any w9 s t true false c ha hb (hc ▸ cand_ok _ _))
          rw [show inS (s, true) (t, false) c = maySpot c by rw [hc]; exact in_cand0 ha rfl hn36] at HIN
          have HSS := Lib.hid (fun s' => seen_succ0 (a := (s, true)) (b := (t, false)) rfl n s')
          rw [← hc] at HSS
          have HSL := Lib.hid (seen_len0 (a := (s, true)) (b := (t, false)) rfl n)
          clear hc
          go_wp2
          go_region_held3 (fun w' => w'.cell? ⟨w.heap.size, 0, none⟩ = some (.int .i64 s.1) ∧ w'.cell? ⟨w.heap.size, 2, none⟩ = some (.int .i64 s.2.2) ∧ w'.cell? ⟨w.heap.size, 1, none⟩ = some (.int .i64 s.2.1)) (first | go_keep) (first | fail)
          rw [← HW9.out]
          clear q1 q2 q3 q4 q5 q6 hx hy hz a0 a1 a2 a3 a4 a5 a6 a7
          obtain ⟨⟨a0, a1, a2, a3, a4, a5, a6, a7⟩, -⟩ := HK9.out.2.2.1.eight
          obtain ⟨k0, k1, k2, -⟩ := HSP9.out.three
          go_wp2_with fail
          go_at_call 11
          refine HIN.out.mono ?_
          rintro e w1 ⟨rfl, hb1⟩
          have HB1 := Lib.hid hb1
          have HSPT := Lib.hid (HSP9.out.below hb1 HSP9.out.lt)
          clear hb1 a0 a1 a2 a3 a4 a5 a6 a7 k0 k1 k2 ltl
          rcases eq_false_or_true (maySpot c) with hms | hms
          · have HNO := Lib.hid hms
            rw [hms]
            clear hms
            go_wp2
            go_roundw
            case rel => exact ⟨n + 1, out, by omega, by go_num, HK9.out.skip_ HB1.out HSS.out HSL.out (.inl HNO.out)⟩
            case measure => simp [intOf]; omega
          · have HYES := Lib.hid hms
            rw [hms]
            have HKEEP := Lib.hid (HK9.out.below_ HB1.out)
            clear hms
            obtain ⟨ps, hps⟩ : ∃ ps, ps = wr.heap.size := ⟨_, rfl⟩
            rw [← hps] at HSPT HNP ⊢
            clear hps
            obtain ⟨hsat, ao, cp, rfl, hcp1, hcp2⟩ := row_sat HKEEP.out.1
            have HSAT := Lib.hid hsat
            clear hsat
            have hl72 : out.length ≤ 72 := by have h1 := HKEEP.out.2.2.2.2.1; have h2 := seen_small (s, true) (t, false) 0 n (by omega); omega
            go_wp2
            go_loopw [7] (fun at_ wr => ∃ i_ : Nat, i_ ≤ out.length ∧ at_ = .int .i64 (i_ : Nat) ∧ (∀ k, k < i_ → ltS (nthS out k) c) ∧ Below w1.heap.size w1 wr) (fun at_ _ => out.length - (intOf at_).toNat)
            case atStart => exact ⟨0, Nat.zero_le _, rfl, fun k hk => by omega, Below.refl _ _⟩
            case round =>
              obtain ⟨i_, hi_, rfl, hlo, hbl⟩ := hrel
              have HLO := Lib.hid hlo
              have HBL := Lib.hid hbl
              clear hlo
              by_cases hlt : i_ < out.length
              · have l2 : (i_ : Int) < (out.length : Int) := by omega
                obtain ⟨b, off, rfl, hbb, c0, c1, c2⟩ := (HSAT.out.below hbl).some3 hlt
                have hsp := HSPT.out.below hbl HSPT.out.lt
                obtain ⟨k0, k1, k2, -⟩ := hsp.three
                have kl := hsp.lt
                obtain ⟨u, hu⟩ : ∃ u, u = nthS out i_ := ⟨_, rfl⟩
                rw [← hu] at c0 c1 c2
                have C0 := fun (pw : InB wr) => pw.cell c0 hbb
                have C1 := fun (pw : InB wr) => pw.cell c1 hbb
                have C2 := fun (pw : InB wr) => pw.cell c2 hbb
                have K0 := fun (pw : InB wr) => pw.cell k0 kl
                have K1 := fun (pw : InB wr) => pw.cell k1 kl
                have K2 := fun (pw : InB wr) => pw.cell k2 kl
                have HU := Lib.hid hu
                clear hbl hsp c0 c1 c2 k0 k1 k2 hbb kl hu
                by_cases hlt2 : ltS u c
                · have HCM := Lib.hid (fun w => qCmp_lit w u c (-1) (cmpS_less hlt2))
                  have HLT := Lib.hid hlt2
                  clear hlt2
                  go_wp2
                  refine wp_region_quiet_below (by kernel_rfl) (by kernel_rfl) ?_
                  repeat (go_big_quiet_step ((go_at_call 22; exact calls_below (HCM.out _))))
                  refine wpQuiet_nil ?_
                  intro _ hw'
                  obtain ⟨⟨wq, hbq⟩, hw''⟩ := hw'
                  subst hw''
                  have HBQ := Lib.hid (HBL.out.trans (hbq.mono HBL.out.size))
                  clear C0 C1 C2 K0 K1 K2 hbq
                  go_wp2
                  go_roundw
                  case rel =>
                    refine ⟨i_ + 1, by omega, by go_num, fun k hk => ?_, HBQ.out⟩
                    rcases Nat.lt_or_ge k i_ with hl | hl
                    · exact HLO.out k hl
                    · obtain rfl : k = i_ := by omega
                      rw [← HU.out]; exact HLT.out
                  case measure => simp [intOf]; omega
                · by_cases he : u = c
                  · subst he
                    have HCM := Lib.hid (fun w => qCmp_lit w u u 0 (cmpS_eq.2 rfl))
                    have HMEM := Lib.hid (show u ∈ out by rw [HU.out]; exact nthS_mem hlt)
                    clear hlt2
                    go_wp2
                    refine wp_region_quiet_below (by kernel_rfl) (by kernel_rfl) ?_
                    repeat (go_big_quiet_step ((go_at_call 22; exact calls_below (HCM.out _))))
                    refine wpQuiet_nil ?_
                    intro w2 hw'
                    obtain ⟨⟨wq, hbq⟩, hw''⟩ := hw'
                    subst hw''
                    have d0 : w2.cell? ⟨b, off + i_ * 3, none⟩ = some (.int .i64 u.1) := C0 ⟨w2, hbq⟩
                    have d1 : w2.cell? ⟨b, off + i_ * 3 + 1, none⟩ = some (.int .i64 u.2.1) := C1 ⟨w2, hbq⟩
                    have d2 : w2.cell? ⟨b, off + i_ * 3 + 2, none⟩ = some (.int .i64 u.2.2) := C2 ⟨w2, hbq⟩
                    have k0 : w2.cell? ⟨ps, 0, none⟩ = some (.int .i64 u.1) := K0 ⟨w2, hbq⟩
                    have k1 : w2.cell? ⟨ps, 1, none⟩ = some (.int .i64 u.2.1) := K1 ⟨w2, hbq⟩
                    have k2 : w2.cell? ⟨ps, 2, none⟩ = some (.int .i64 u.2.2) := K2 ⟨w2, hbq⟩
                    have HBQ := Lib.hid (HBL.out.trans (hbq.mono HBL.out.size))
                    clear C0 C1 C2 K0 K1 K2 hbq
                    go_wp2
                    go_quiet (fail)
                    clear d0 d1 d2 k0 k1 k2
                    go_wp2
                    go_roundw
                    case rel => exact ⟨n + 1, out, by omega, by go_num, HK9.out.skip_ (below_drewN (HB1.out.trans (HBQ.out.mono HB1.out.size)) _) HSS.out HSL.out (.inr HMEM.out)⟩
                    case measure => simp [intOf]; omega
                  · have hgt : ltS c u := Classical.byContradiction fun h => he (ltS_total hlt2 h)
                    have HCM := Lib.hid (fun w => qCmp_lit w u c 1 (cmpS_more hgt))
                    have HGT := Lib.hid hgt
                    have hn1 := spot_ne he
                    have hn2 := spot_ne2 he
                    clear hgt hlt2 he
                    go_wp2
                    refine wp_region_quiet_below (by kernel_rfl) (by kernel_rfl) ?_
                    repeat (go_big_quiet_step ((go_at_call 22; exact calls_below (HCM.out _))))
                    refine wpQuiet_nil ?_
                    intro w2 hw'
                    obtain ⟨⟨wq, hbq⟩, hw''⟩ := hw'
                    subst hw''
                    have d0 : w2.cell? ⟨b, off + i_ * 3, none⟩ = some (.int .i64 u.1) := C0 ⟨w2, hbq⟩
                    have d1 : w2.cell? ⟨b, off + i_ * 3 + 1, none⟩ = some (.int .i64 u.2.1) := C1 ⟨w2, hbq⟩
                    have d2 : w2.cell? ⟨b, off + i_ * 3 + 2, none⟩ = some (.int .i64 u.2.2) := C2 ⟨w2, hbq⟩
                    have k0 : w2.cell? ⟨ps, 0, none⟩ = some (.int .i64 c.1) := K0 ⟨w2, hbq⟩
                    have k1 : w2.cell? ⟨ps, 1, none⟩ = some (.int .i64 c.2.1) := K1 ⟨w2, hbq⟩
                    have k2 : w2.cell? ⟨ps, 2, none⟩ = some (.int .i64 c.2.2) := K2 ⟨w2, hbq⟩
                    have HBQ := Lib.hid (HBL.out.trans (hbq.mono HBL.out.size))
                    clear C0 C1 C2 K0 K1 K2 hbq
                    go_wp2
                    go_quiet (fail)
                    clear d0 d1 d2 k0 k1 k2 hn1 hn2
                    have hkk := HKEEP.out.below_ (below_drewN HBQ.out nq)
                    have HLEN := Lib.hid (show out.length ≤ 1099511627775 by omega)
                    have HSZ := Lib.hid (show w.heap.size + 1 ≤ (w2.drewN nq).heap.size by have := hkk.2.2.1.lt; omega)
                    have HROW := Lib.hid hkk.1
                    have HKK := Lib.hid hkk
                    have HSPQ := Lib.hid (HSPT.out.below (below_drewN HBQ.out nq) HSPT.out.lt)
                    clear hkk
                    go_wp2_with (at_builtin; refine row_law encS_len encS_one (by decide) Try.underlying27 infoSpot rfl (by decide) HROW.out rfl _ _ rfl rfl (0, 0, 0) rfl rfl rfl HLEN.out HSZ.out ?_)
                    intro v' w3 hown hg3 hn3
                    obtain ⟨-, ao3, cp3, rfl, hc3, hm3⟩ := row_sat (own_rc encS_len (by decide) (l' := out ++ [(0, 0, 0)]) hown rfl)
                    have hL3 : (out ++ [((0, 0, 0) : Sp)]).length = out.length + 1 := by simp
                    rw [hL3] at hc3 ⊢
                    have hown : World.ownsRow w3 (w.heap.size + 1) 23 3 (.slice ao3 (out.length + 1) cp3) (out.length + 1) (rc encS (out ++ [(0, 0, 0)])) := by rw [← hL3]; exact own_rc encS_len (by decide) hown rfl
                    obtain ⟨g, rfl, hgb, hgl⟩ := own_form hown (by omega)
                    have HOWN := Lib.hid (show World.ownsRow w3.drew (w.heap.size + 1) 23 3 _ _ _ from hown.drew)
                    have HG3 := Lib.hid hg3
                    have HSP3 := Lib.hid ((HSPQ.out.alloc (.cells #[.int .i64 0, .int .i64 0, .int .i64 0] 23)).grown hg3 (fun e => by have := HNP.out _ e.symm; omega))
                    have HGP := Lib.hid (show ps ≠ g by
                      have h1 : ps < w2.heap.size := HSPQ.out.lt
                      rcases hn3 with hq | hq
                      · have := HNP.out g (hq ▸ rfl); omega
                      · simp [Value.ownBlock] at hq; omega)
                    have e1 : IntKind.i64.wrap ((i_ : Int) + 1) = (i_ : Int) + 1 := IntWalk.i64_in _ (by omega)
                    have e2 : ((i_ : Int) + 1).toNat = i_ + 1 := by omega
                    have e3 : (0 : Int) ≤ (i_ : Int) + 1 := by omega
                    have e4 : (i_ : Int) + 1 ≤ (out.length : Int) + 1 := by omega
                    have e5 : i_ + 1 ≤ out.length + 1 := by omega
                    have e6 : i_ ≤ out.length + 1 := by omega
                    have e7 : i_ + 1 < cp3 := by omega
                    have e8 : i_ < cp3 := by omega
                    have e9 : (i_ : Int) ≤ (out.length : Int) + 1 := by omega
                    have e10 : ¬ cp3 = i_ + 1 := by omega
                    have e11 : ¬ cp3 = i_ := by omega
                    clear hown hg3 hn3
                    go_wp2
                    refine wp_region_still_tail 7 (by kernel_rfl) (by kernel_rfl) ?_
                    simp only [List.take_succ_cons, List.take_zero, List.drop_succ_cons, List.drop_zero]
                    change wpStill _ _ (World.drew _) (fun a' => wpList _ _ _ _ a' (World.drew _)) _ _
                    repeat still_step
                    refine wpStill_nil ?_
                    refine shift_law encS_len encS_one rfl _ _ rfl Try.underlying27 infoSize HOWN.out hlt rfl rfl ?_ ?_ ?_ ?_ ?_
                    · omega
                    · omega
                    · omega
                    · omega
                    intro w4 hown4 hg4
                    clear e1 e2 e3 e4 e5 e6 e7 e8 e9 e10 e11
                    have hsp4 := HSP3.out.drew.grown hg4 (fun e => HGP.out (by injection e))
                    obtain ⟨m0, m1, m2, -⟩ := hsp4.three
                    have hl4 : (out.take (i_ + 1) ++ out.drop i_).length = out.length + 1 := by simp; omega
                    have g0 : w4.cell? ⟨g, i_ * 3, none⟩ = some (.int .i64 (nthS (out.take (i_ + 1) ++ out.drop i_) i_).1) := hown4.cellAt (i_ * 3) (by omega) |>.trans (rc_at encS_len (0, 0, 0) _ i_ 0 (by omega) (by decide))
                    have g1 : w4.cell? ⟨g, i_ * 3 + 1, none⟩ = some (.int .i64 (nthS (out.take (i_ + 1) ++ out.drop i_) i_).2.1) := hown4.cellAt (i_ * 3 + 1) (by omega) |>.trans (rc_at encS_len (0, 0, 0) _ i_ 1 (by omega) (by decide))
                    have g2 : w4.cell? ⟨g, i_ * 3 + 2, none⟩ = some (.int .i64 (nthS (out.take (i_ + 1) ++ out.drop i_) i_).2.2) := hown4.cellAt (i_ * 3 + 2) (by omega) |>.trans (rc_at encS_len (0, 0, 0) _ i_ 2 (by omega) (by decide))
                    have f0 := World.ownsRow.frozenAt hown4 (i_ * 3)
                    have f1 := World.ownsRow.frozenAt hown4 (i_ * 3 + 1)
                    have f2 := World.ownsRow.frozenAt hown4 (i_ * 3 + 2)
                    have HR4 := Lib.hid (show Row w4 (w.heap.size + 1) (.slice (some ⟨g, 0, none⟩) (out.length + 1) cp3) (out.take (i_ + 1) ++ out.drop i_) by show World.ownsRow _ _ _ _ _ (List.length _) _; rw [hl4]; exact hown4)
                    have HL4 := Lib.hid hl4
                    have HG4 := Lib.hid hg4
                    have l6 : (i_ : Int) < (out.length : Int) + 1 := by omega
                    clear hown4 hg4 hsp4 hl4
                    go_wp2
                    go_roundw
                    case rel =>
                      have hr := row_set3 (i := i_) HR4.out (n := out.length + 1) HL4.out.symm (by rw [HL4.out]; omega) c
                      rw [putIn_set out i_ c hlt] at hr
                      exact ⟨n + 1, putIn out i_ c, by omega, by go_num, HKK.out.put_ HG3.out (World.grownBy.trans (only_drew (World.grownBy.refl w3 (some g))) HG4.out) hr (Nat.le_of_lt hlt) HLO.out (fun _ => HU.out ▸ HGT.out) HYES.out HSS.out HSL.out⟩
                    case measure => simp [intOf]; omega
              · obtain rfl : i_ = out.length := by omega
                clear hlt hi_
                go_wp2
                go_quiet (fail)
                obtain ⟨w2, hw2⟩ : ∃ w2 : World, w2 = wr.drewN nq := ⟨_, rfl⟩
                have HBQ := Lib.hid (show Below w1.heap.size w1 w2 by rw [hw2]; exact below_drewN HBL.out nq)
                rw [← hw2]
                clear hw2 hbl
                go_wp2
                go_quiet (fail)
                have hkk := HKEEP.out.below_ (below_drewN HBQ.out nq)
                have HLEN := Lib.hid (show out.length ≤ 1099511627775 by omega)
                have HSZ := Lib.hid (show w.heap.size + 1 ≤ (w2.drewN nq).heap.size by have := hkk.2.2.1.lt; omega)
                have HROW := Lib.hid hkk.1
                have HKK := Lib.hid hkk
                have HSPQ := Lib.hid (HSPT.out.below (below_drewN HBQ.out nq) HSPT.out.lt)
                clear hkk
                go_wp2_with (at_builtin; refine row_law encS_len encS_one (by decide) Try.underlying27 infoSpot rfl (by decide) HROW.out rfl _ _ rfl rfl (0, 0, 0) rfl rfl rfl HLEN.out HSZ.out ?_)
                intro v' w3 hown hg3 hn3
                obtain ⟨-, ao3, cp3, rfl, hc3, hm3⟩ := row_sat (own_rc encS_len (by decide) (l' := out ++ [(0, 0, 0)]) hown rfl)
                have hL3 : (out ++ [((0, 0, 0) : Sp)]).length = out.length + 1 := by simp
                rw [hL3] at hc3 ⊢
                have hown : World.ownsRow w3 (w.heap.size + 1) 23 3 (.slice ao3 (out.length + 1) cp3) (out.length + 1) (rc encS (out ++ [(0, 0, 0)])) := by rw [← hL3]; exact own_rc encS_len (by decide) hown rfl
                obtain ⟨g, rfl, hgb, hgl⟩ := own_form hown (by omega)
                have HOWN := Lib.hid (show World.ownsRow w3.drew (w.heap.size + 1) 23 3 _ _ _ from hown.drew)
                have HG3 := Lib.hid hg3
                have HSP3 := Lib.hid ((HSPQ.out.alloc (.cells #[.int .i64 0, .int .i64 0, .int .i64 0] 23)).grown hg3 (fun e => by have := HNP.out _ e.symm; omega))
                have HGP := Lib.hid (show ps ≠ g by
                  have h1 : ps < w2.heap.size := HSPQ.out.lt
                  rcases hn3 with hq | hq
                  · have := HNP.out g (hq ▸ rfl); omega
                  · simp [Value.ownBlock] at hq; omega)
                have e1 : IntKind.i64.wrap ((out.length : Int) + 1) = (out.length : Int) + 1 := IntWalk.i64_in _ (by omega)
                have e2 : ((out.length : Int) + 1).toNat = out.length + 1 := by omega
                have e3 : (0 : Int) ≤ (out.length : Int) + 1 := by omega
                have e4 : (out.length : Int) + 1 ≤ (out.length : Int) + 1 := by omega
                have e5 : out.length + 1 ≤ out.length + 1 := by omega
                have e6 : out.length ≤ out.length + 1 := by omega
                have e9 : (out.length : Int) ≤ (out.length : Int) + 1 := by omega
                clear hown hg3 hn3
                go_wp2
                refine wp_region_still_tail 7 (by kernel_rfl) (by kernel_rfl) ?_
                simp only [List.take_succ_cons, List.take_zero, List.drop_succ_cons, List.drop_zero]
                change wpStill _ _ (World.drew _) (fun a' => wpList _ _ _ _ a' (World.drew _)) _ _
                repeat still_step
                refine wpStill_nil ?_
                refine copy_none rfl _ _ rfl Try.underlying27 infoSize rfl rfl ?_ ?_
                · show min _ _ = 0
                  omega
                obtain ⟨w4, hw4⟩ : ∃ w4 : World, w4 = w3.drew := ⟨_, rfl⟩
                have hown4 := HOWN.out
                have hsp4 := HSP3.out.drew
                rw [← hw4] at hown4 hsp4 ⊢
                have HW4 := Lib.hid hw4
                clear e1 e2 e3 e4 e5 e6 e9 hw4
                obtain ⟨m0, m1, m2, -⟩ := hsp4.three
                have hl4 : (out ++ [((0, 0, 0) : Sp)]).length = out.length + 1 := by simp
                have g0 : w4.cell? ⟨g, out.length * 3, none⟩ = some (.int .i64 (nthS (out ++ [((0, 0, 0) : Sp)]) out.length).1) := hown4.cellAt (out.length * 3) (by omega) |>.trans (rc_at encS_len (0, 0, 0) _ out.length 0 (by omega) (by decide))
                have g1 : w4.cell? ⟨g, out.length * 3 + 1, none⟩ = some (.int .i64 (nthS (out ++ [((0, 0, 0) : Sp)]) out.length).2.1) := hown4.cellAt (out.length * 3 + 1) (by omega) |>.trans (rc_at encS_len (0, 0, 0) _ out.length 1 (by omega) (by decide))
                have g2 : w4.cell? ⟨g, out.length * 3 + 2, none⟩ = some (.int .i64 (nthS (out ++ [((0, 0, 0) : Sp)]) out.length).2.2) := hown4.cellAt (out.length * 3 + 2) (by omega) |>.trans (rc_at encS_len (0, 0, 0) _ out.length 2 (by omega) (by decide))
                have f0 := World.ownsRow.frozenAt hown4 (out.length * 3)
                have f1 := World.ownsRow.frozenAt hown4 (out.length * 3 + 1)
                have f2 := World.ownsRow.frozenAt hown4 (out.length * 3 + 2)
                have HR4 := Lib.hid (show Row w4 (w.heap.size + 1) (.slice (some ⟨g, 0, none⟩) (out.length + 1) cp3) (out ++ [((0, 0, 0) : Sp)]) by show World.ownsRow _ _ _ _ _ (List.length _) _; rw [hl4]; exact hown4)
                have HL4 := Lib.hid hl4
                have l6 : (out.length : Int) < (out.length : Int) + 1 := by omega
                clear hown4 hsp4 hl4
                go_wp2
                go_roundw
                case rel =>
                  have hr := row_set3 (i := out.length) HR4.out (n := out.length + 1) HL4.out.symm (by rw [HL4.out]; omega) c
                  rw [putIn_end] at hr
                  exact ⟨n + 1, putIn out out.length c, by omega, by go_num, HKK.out.put_ HG3.out (HW4.out ▸ only_drew (World.grownBy.refl w3 (some g))) hr (Nat.le_refl _) HLO.out (fun h => absurd h (Nat.lt_irrefl _)) HYES.out HSS.out HSL.out⟩
                case measure => simp [intOf]; omega
        · obtain rfl : n = 36 := by omega
          have HS := Lib.hid (show seen (s, true) (t, false) 1 0 = seen (s, true) (t, false) 0 36 by simp [seen])
          have HKP := Lib.hid hkeep
          clear hn36 hkeep
          rw [show ((36 : Nat) : Int) = 36 from rfl]
          go_wp2
          go_roundw
          case rel => exact ⟨1, out, by omega, rfl, by rw [HS.out]; exact HKP.out⟩
          case measure => simp [intOf]
    | 1, _ =>
      rw [show ((1 : Nat) : Int) = 1 from rfl]
      obtain ⟨⟨a0, a1, a2, a3, a4, a5, a6, a7⟩, -⟩ := HINV.out.2.2.1.eight
      have HS := Lib.hid (show seen (s, true) (t, false) 2 0 = seen (s, true) (t, false) 1 0 by simp [seen])
      go_wp2
      go_roundw
      case rel => exact ⟨2, out, by omega, rfl, by rw [HS.out]; exact HINV.out⟩
      case measure => simp [intOf]
    | 2, _ =>
      rw [show ((2 : Nat) : Int) = 2 from rfl]
      have HE := Lib.hid (show out = spotsL (s, true) (t, false) from spots_eq HINV.out.2.2.2.1 fun s' => (HINV.out.2.2.2.2.2 s').trans (seen_all ha hb s'))
      go_wp2
      go_ret
      exact ⟨_, rfl, HINV.out.2.1, HE.out ▸ own_base HINV.out.1 (Nat.le_succ _)⟩

set_option maxRecDepth 100000 in
set_option maxHeartbeats 8000000 in
theorem rspots_false_true (w : World) (s t : Sp) (ha : AnOk (s, false)) (hb : AnOk (t, true)) :
    Calls Try.prog 8 #[.agg #[.int .i64 s.1, .int .i64 s.2.1, .int .i64 s.2.2, .bool false, .int .i64 t.1, .int .i64 t.2.1, .int .i64 t.2.2, .bool true]] w fun e w' => ∃ v, e = .returned v ∧ Below w.heap.size w w' ∧ Row w' w.heap.size v (spotsL (s, false) (t, true)) := by
  have HINV := Lib.hid (show RInv w (w.alloc (.cells #[.int .i64 s.1, .int .i64 s.2.1, .int .i64 s.2.2, .bool false, .int .i64 t.1, .int .i64 t.2.1, .int .i64 t.2.2, .bool true] 26)) (.slice none 0 0) [] (seen (s, false) (t, true) 0 0) (s, false) (t, true) from
    ⟨World.ownsRow_nil _ _ _ _, (Below.refl _ _).alloc (Nat.le_refl _) _, Blk.new w 26 _, List.Pairwise.nil, Nat.zero_le _, fun s => by simp [seen]⟩)
  go_enter Try.func8, Try.ntmps8
  go_wp2
  go_loopw [3, 4] (fun s_ i wr => ∃ (i' : Nat) (out : List Sp), i' ≤ 2 ∧ i = .int .i64 (i' : Nat) ∧ RInv w wr s_ out (seen (s, false) (t, true) i' 0) (s, false) (t, true)) (fun _ i _ => 2 - (intOf i).toNat)
  case atStart => exact ⟨0, [], Nat.zero_le _, rfl, HINV.out⟩
  case round =>
    obtain ⟨i, out, hi, rfl, hinv⟩ := hrel
    have HINV := Lib.hid hinv
    clear hinv
    match i, hi with
    | 0, _ =>
      rw [show ((0 : Nat) : Int) = 0 from rfl]
      obtain ⟨⟨a0, a1, a2, a3, a4, a5, a6, a7⟩, -⟩ := HINV.out.2.2.1.eight
      have HS := Lib.hid (show seen (s, false) (t, true) 1 0 = seen (s, false) (t, true) 0 0 by simp [seen])
      go_wp2
      go_roundw
      case rel => exact ⟨1, out, by omega, rfl, by rw [HS.out]; exact HINV.out⟩
      case measure => simp [intOf]
    | 1, _ =>
      rw [show ((1 : Nat) : Int) = 1 from rfl]
      obtain ⟨⟨a0, a1, a2, a3, a4, a5, a6, a7⟩, -⟩ := HINV.out.2.2.1.eight
      go_wp2
      clear a0 a1 a2 a3 a4 a5 a6 a7
      go_loopw [3, 5] (fun s_ n wr => ∃ (n' : Nat) (out : List Sp), n' ≤ 36 ∧ n = .int .i64 (n' : Nat) ∧ RInv w wr s_ out (seen (s, false) (t, true) 1 n') (s, false) (t, true)) (fun _ n _ => 36 - (intOf n).toNat)
      case atStart => exact ⟨0, out, Nat.zero_le _, rfl, HINV.out⟩
      case round =>
        obtain ⟨n, out, hn, rfl, hkeep⟩ := hrel
        by_cases hn36 : n < 36
        · have l1 : (n : Int) < 36 := by omega
          obtain ⟨⟨a0, a1, a2, a3, a4, a5, a6, a7⟩, -⟩ := hkeep.2.2.1.eight
          have ltl : w.heap.size < wr.heap.size := hkeep.2.2.1.lt
          have q1 : (n : Int).tdiv 12 = (n : Int) / 12 := Int.tdiv_eq_ediv_of_nonneg (by omega)
          have q2 : (n : Int).tmod 4 = (n : Int) % 4 := Int.tmod_eq_emod_of_nonneg (by omega)
          have q3 : (n : Int).tdiv 4 = (n : Int) / 4 := Int.tdiv_eq_ediv_of_nonneg (by omega)
          have q4 : ((n : Int) / 4).tmod 3 = (n : Int) / 4 % 3 := Int.tmod_eq_emod_of_nonneg (by omega)
          have q5 : IntKind.i64.wrap ((n : Int) / 12) = (n : Int) / 12 := IntWalk.i64_in _ (by omega)
          have q6 : IntKind.i64.wrap ((n : Int) / 4) = (n : Int) / 4 := IntWalk.i64_in _ (by omega)
          obtain ⟨c, hc⟩ : ∃ c, c = cand (t, true) n := ⟨_, rfl⟩
          have hx : IntKind.i64.wrap (IntKind.i64.wrap (t.1 + (n : Int) / 12) - 1) = c.1 := by
            rw [hc]
            show _ = addw t.1 ((n / 12 : Nat) : Int)
            rw [show ((n / 12 : Nat) : Int) = (n : Int) / 12 from rfl]
            rfl
          have hy : (n : Int) % 4 = c.2.1 := by rw [hc]; rfl
          have hz : IntKind.i64.wrap (IntKind.i64.wrap (t.2.2 + (n : Int) / 4 % 3) - 1) = c.2.2 := by
            rw [hc]
            show _ = addw t.2.2 ((n / 4 % 3 : Nat) : Int)
            rw [show ((n / 4 % 3 : Nat) : Int) = (n : Int) / 4 % 3 from rfl]
            rfl
          obtain ⟨w9, hw9⟩ : ∃ w9 : World, w9 = (wr.alloc (.cells #[.int .i64 c.1, .int .i64 c.2.1, .int .i64 c.2.2] 23)).drew := ⟨_, rfl⟩
          have HK9 := Lib.hid (show RInv w w9 u3 out (seen (s, false) (t, true) 1 n) (s, false) (t, true) by rw [hw9]; exact hkeep.below_ ((Below.refl _ _).alloc (Nat.le_refl _) _).drew)
          have HSP9 := Lib.hid (show Blk w9 wr.heap.size 23 #[.int .i64 c.1, .int .i64 c.2.1, .int .i64 c.2.2] by rw [hw9]; exact Blk.new wr 23 #[.int .i64 c.1, .int .i64 c.2.1, .int .i64 c.2.2])
          have HBR := Lib.hid (show Below wr.heap.size wr w9 by rw [hw9]; exact ((Below.refl _ _).alloc (Nat.le_refl _) _).drew)
          have HW9 := Lib.hid hw9
          have HNP := Lib.hid (show ∀ q, u3.ownBlock = some q → q < wr.heap.size from fun q hq => (hkeep.1.lt q hq).2)
          clear hw9 hkeep
          have HIN := Lib.hid (rIn_any w9 s t false true c ha hb (hc ▸ cand_ok _ _))
          rw [show inS (s, false) (t, true) c = maySpot c by rw [hc]; exact in_cand1 hb rfl hn36] at HIN
          have HSS := Lib.hid (fun s' => seen_succ1 (a := (s, false)) (b := (t, true)) rfl n s')
          rw [← hc] at HSS
          have HSL := Lib.hid (seen_len1 (a := (s, false)) (b := (t, true)) rfl n)
          clear hc
          go_wp2
          go_region_held3 (fun w' => w'.cell? ⟨w.heap.size, 4, none⟩ = some (.int .i64 t.1) ∧ w'.cell? ⟨w.heap.size, 6, none⟩ = some (.int .i64 t.2.2) ∧ w'.cell? ⟨w.heap.size, 5, none⟩ = some (.int .i64 t.2.1)) (first | go_keep) (first | fail)
          rw [← HW9.out]
          clear q1 q2 q3 q4 q5 q6 hx hy hz a0 a1 a2 a3 a4 a5 a6 a7
          obtain ⟨⟨a0, a1, a2, a3, a4, a5, a6, a7⟩, -⟩ := HK9.out.2.2.1.eight
          obtain ⟨k0, k1, k2, -⟩ := HSP9.out.three
          go_wp2_with fail
          go_at_call 11
          refine HIN.out.mono ?_
          rintro e w1 ⟨rfl, hb1⟩
          have HB1 := Lib.hid hb1
          have HSPT := Lib.hid (HSP9.out.below hb1 HSP9.out.lt)
          clear hb1 a0 a1 a2 a3 a4 a5 a6 a7 k0 k1 k2 ltl
          rcases eq_false_or_true (maySpot c) with hms | hms
          · have HNO := Lib.hid hms
            rw [hms]
            clear hms
            go_wp2
            go_roundw
            case rel => exact ⟨n + 1, out, by omega, by go_num, HK9.out.skip_ HB1.out HSS.out HSL.out (.inl HNO.out)⟩
            case measure => simp [intOf]; omega
          · have HYES := Lib.hid hms
            rw [hms]
            have HKEEP := Lib.hid (HK9.out.below_ HB1.out)
            clear hms
            obtain ⟨ps, hps⟩ : ∃ ps, ps = wr.heap.size := ⟨_, rfl⟩
            rw [← hps] at HSPT HNP ⊢
            clear hps
            obtain ⟨hsat, ao, cp, rfl, hcp1, hcp2⟩ := row_sat HKEEP.out.1
            have HSAT := Lib.hid hsat
            clear hsat
            have hl72 : out.length ≤ 72 := by have h1 := HKEEP.out.2.2.2.2.1; have h2 := seen_small (s, false) (t, true) 1 n (by omega); omega
            go_wp2
            go_loopw [7] (fun at_ wr => ∃ i_ : Nat, i_ ≤ out.length ∧ at_ = .int .i64 (i_ : Nat) ∧ (∀ k, k < i_ → ltS (nthS out k) c) ∧ Below w1.heap.size w1 wr) (fun at_ _ => out.length - (intOf at_).toNat)
            case atStart => exact ⟨0, Nat.zero_le _, rfl, fun k hk => by omega, Below.refl _ _⟩
            case round =>
              obtain ⟨i_, hi_, rfl, hlo, hbl⟩ := hrel
              have HLO := Lib.hid hlo
              have HBL := Lib.hid hbl
              clear hlo
              by_cases hlt : i_ < out.length
              · have l2 : (i_ : Int) < (out.length : Int) := by omega
                obtain ⟨b, off, rfl, hbb, c0, c1, c2⟩ := (HSAT.out.below hbl).some3 hlt
                have hsp := HSPT.out.below hbl HSPT.out.lt
                obtain ⟨k0, k1, k2, -⟩ := hsp.three
                have kl := hsp.lt
                obtain ⟨u, hu⟩ : ∃ u, u = nthS out i_ := ⟨_, rfl⟩
                rw [← hu] at c0 c1 c2
                have C0 := fun (pw : InB wr) => pw.cell c0 hbb
                have C1 := fun (pw : InB wr) => pw.cell c1 hbb
                have C2 := fun (pw : InB wr) => pw.cell c2 hbb
                have K0 := fun (pw : InB wr) => pw.cell k0 kl
                have K1 := fun (pw : InB wr) => pw.cell k1 kl
                have K2 := fun (pw : InB wr) => pw.cell k2 kl
                have HU := Lib.hid hu
                clear hbl hsp c0 c1 c2 k0 k1 k2 hbb kl hu
                by_cases hlt2 : ltS u c
                · have HCM := Lib.hid (fun w => qCmp_lit w u c (-1) (cmpS_less hlt2))
                  have HLT := Lib.hid hlt2
                  clear hlt2
                  go_wp2
                  refine wp_region_quiet_below (by kernel_rfl) (by kernel_rfl) ?_
                  repeat (go_big_quiet_step ((go_at_call 22; exact calls_below (HCM.out _))))
                  refine wpQuiet_nil ?_
                  intro _ hw'
                  obtain ⟨⟨wq, hbq⟩, hw''⟩ := hw'
                  subst hw''
                  have HBQ := Lib.hid (HBL.out.trans (hbq.mono HBL.out.size))
                  clear C0 C1 C2 K0 K1 K2 hbq
                  go_wp2
                  go_roundw
                  case rel =>
                    refine ⟨i_ + 1, by omega, by go_num, fun k hk => ?_, HBQ.out⟩
                    rcases Nat.lt_or_ge k i_ with hl | hl
                    · exact HLO.out k hl
                    · obtain rfl : k = i_ := by omega
                      rw [← HU.out]; exact HLT.out
                  case measure => simp [intOf]; omega
                · by_cases he : u = c
                  · subst he
                    have HCM := Lib.hid (fun w => qCmp_lit w u u 0 (cmpS_eq.2 rfl))
                    have HMEM := Lib.hid (show u ∈ out by rw [HU.out]; exact nthS_mem hlt)
                    clear hlt2
                    go_wp2
                    refine wp_region_quiet_below (by kernel_rfl) (by kernel_rfl) ?_
                    repeat (go_big_quiet_step ((go_at_call 22; exact calls_below (HCM.out _))))
                    refine wpQuiet_nil ?_
                    intro w2 hw'
                    obtain ⟨⟨wq, hbq⟩, hw''⟩ := hw'
                    subst hw''
                    have d0 : w2.cell? ⟨b, off + i_ * 3, none⟩ = some (.int .i64 u.1) := C0 ⟨w2, hbq⟩
                    have d1 : w2.cell? ⟨b, off + i_ * 3 + 1, none⟩ = some (.int .i64 u.2.1) := C1 ⟨w2, hbq⟩
                    have d2 : w2.cell? ⟨b, off + i_ * 3 + 2, none⟩ = some (.int .i64 u.2.2) := C2 ⟨w2, hbq⟩
                    have k0 : w2.cell? ⟨ps, 0, none⟩ = some (.int .i64 u.1) := K0 ⟨w2, hbq⟩
                    have k1 : w2.cell? ⟨ps, 1, none⟩ = some (.int .i64 u.2.1) := K1 ⟨w2, hbq⟩
                    have k2 : w2.cell? ⟨ps, 2, none⟩ = some (.int .i64 u.2.2) := K2 ⟨w2, hbq⟩
                    have HBQ := Lib.hid (HBL.out.trans (hbq.mono HBL.out.size))
                    clear C0 C1 C2 K0 K1 K2 hbq
                    go_wp2
                    go_quiet (fail)
                    clear d0 d1 d2 k0 k1 k2
                    go_wp2
                    go_roundw
                    case rel => exact ⟨n + 1, out, by omega, by go_num, HK9.out.skip_ (below_drewN (HB1.out.trans (HBQ.out.mono HB1.out.size)) _) HSS.out HSL.out (.inr HMEM.out)⟩
                    case measure => simp [intOf]; omega
                  · have hgt : ltS c u := Classical.byContradiction fun h => he (ltS_total hlt2 h)
                    have HCM := Lib.hid (fun w => qCmp_lit w u c 1 (cmpS_more hgt))
                    have HGT := Lib.hid hgt
                    have hn1 := spot_ne he
                    have hn2 := spot_ne2 he
                    clear hgt hlt2 he
                    go_wp2
                    refine wp_region_quiet_below (by kernel_rfl) (by kernel_rfl) ?_
                    repeat (go_big_quiet_step ((go_at_call 22; exact calls_below (HCM.out _))))
                    refine wpQuiet_nil ?_
                    intro w2 hw'
                    obtain ⟨⟨wq, hbq⟩, hw''⟩ := hw'
                    subst hw''
                    have d0 : w2.cell? ⟨b, off + i_ * 3, none⟩ = some (.int .i64 u.1) := C0 ⟨w2, hbq⟩
                    have d1 : w2.cell? ⟨b, off + i_ * 3 + 1, none⟩ = some (.int .i64 u.2.1) := C1 ⟨w2, hbq⟩
                    have d2 : w2.cell? ⟨b, off + i_ * 3 + 2, none⟩ = some (.int .i64 u.2.2) := C2 ⟨w2, hbq⟩
                    have k0 : w2.cell? ⟨ps, 0, none⟩ = some (.int .i64 c.1) := K0 ⟨w2, hbq⟩
                    have k1 : w2.cell? ⟨ps, 1, none⟩ = some (.int .i64 c.2.1) := K1 ⟨w2, hbq⟩
                    have k2 : w2.cell? ⟨ps, 2, none⟩ = some (.int .i64 c.2.2) := K2 ⟨w2, hbq⟩
                    have HBQ := Lib.hid (HBL.out.trans (hbq.mono HBL.out.size))
                    clear C0 C1 C2 K0 K1 K2 hbq
                    go_wp2
                    go_quiet (fail)
                    clear d0 d1 d2 k0 k1 k2 hn1 hn2
                    have hkk := HKEEP.out.below_ (below_drewN HBQ.out nq)
                    have HLEN := Lib.hid (show out.length ≤ 1099511627775 by omega)
                    have HSZ := Lib.hid (show w.heap.size + 1 ≤ (w2.drewN nq).heap.size by have := hkk.2.2.1.lt; omega)
                    have HROW := Lib.hid hkk.1
                    have HKK := Lib.hid hkk
                    have HSPQ := Lib.hid (HSPT.out.below (below_drewN HBQ.out nq) HSPT.out.lt)
                    clear hkk
                    go_wp2_with (at_builtin; refine row_law encS_len encS_one (by decide) Try.underlying27 infoSpot rfl (by decide) HROW.out rfl _ _ rfl rfl (0, 0, 0) rfl rfl rfl HLEN.out HSZ.out ?_)
                    intro v' w3 hown hg3 hn3
                    obtain ⟨-, ao3, cp3, rfl, hc3, hm3⟩ := row_sat (own_rc encS_len (by decide) (l' := out ++ [(0, 0, 0)]) hown rfl)
                    have hL3 : (out ++ [((0, 0, 0) : Sp)]).length = out.length + 1 := by simp
                    rw [hL3] at hc3 ⊢
                    have hown : World.ownsRow w3 (w.heap.size + 1) 23 3 (.slice ao3 (out.length + 1) cp3) (out.length + 1) (rc encS (out ++ [(0, 0, 0)])) := by rw [← hL3]; exact own_rc encS_len (by decide) hown rfl
                    obtain ⟨g, rfl, hgb, hgl⟩ := own_form hown (by omega)
                    have HOWN := Lib.hid (show World.ownsRow w3.drew (w.heap.size + 1) 23 3 _ _ _ from hown.drew)
                    have HG3 := Lib.hid hg3
                    have HSP3 := Lib.hid ((HSPQ.out.alloc (.cells #[.int .i64 0, .int .i64 0, .int .i64 0] 23)).grown hg3 (fun e => by have := HNP.out _ e.symm; omega))
                    have HGP := Lib.hid (show ps ≠ g by
                      have h1 : ps < w2.heap.size := HSPQ.out.lt
                      rcases hn3 with hq | hq
                      · have := HNP.out g (hq ▸ rfl); omega
                      · simp [Value.ownBlock] at hq; omega)
                    have e1 : IntKind.i64.wrap ((i_ : Int) + 1) = (i_ : Int) + 1 := IntWalk.i64_in _ (by omega)
                    have e2 : ((i_ : Int) + 1).toNat = i_ + 1 := by omega
                    have e3 : (0 : Int) ≤ (i_ : Int) + 1 := by omega
                    have e4 : (i_ : Int) + 1 ≤ (out.length : Int) + 1 := by omega
                    have e5 : i_ + 1 ≤ out.length + 1 := by omega
                    have e6 : i_ ≤ out.length + 1 := by omega
                    have e7 : i_ + 1 < cp3 := by omega
                    have e8 : i_ < cp3 := by omega
                    have e9 : (i_ : Int) ≤ (out.length : Int) + 1 := by omega
                    have e10 : ¬ cp3 = i_ + 1 := by omega
                    have e11 : ¬ cp3 = i_ := by omega
                    clear hown hg3 hn3
                    go_wp2
                    refine wp_region_still_tail 7 (by kernel_rfl) (by kernel_rfl) ?_
                    simp only [List.take_succ_cons, List.take_zero, List.drop_succ_cons, List.drop_zero]
                    change wpStill _ _ (World.drew _) (fun a' => wpList _ _ _ _ a' (World.drew _)) _ _
                    repeat still_step
                    refine wpStill_nil ?_
                    refine shift_law encS_len encS_one rfl _ _ rfl Try.underlying27 infoSize HOWN.out hlt rfl rfl ?_ ?_ ?_ ?_ ?_
                    · omega
                    · omega
                    · omega
                    · omega
                    intro w4 hown4 hg4
                    clear e1 e2 e3 e4 e5 e6 e7 e8 e9 e10 e11
                    have hsp4 := HSP3.out.drew.grown hg4 (fun e => HGP.out (by injection e))
                    obtain ⟨m0, m1, m2, -⟩ := hsp4.three
                    have hl4 : (out.take (i_ + 1) ++ out.drop i_).length = out.length + 1 := by simp; omega
                    have g0 : w4.cell? ⟨g, i_ * 3, none⟩ = some (.int .i64 (nthS (out.take (i_ + 1) ++ out.drop i_) i_).1) := hown4.cellAt (i_ * 3) (by omega) |>.trans (rc_at encS_len (0, 0, 0) _ i_ 0 (by omega) (by decide))
                    have g1 : w4.cell? ⟨g, i_ * 3 + 1, none⟩ = some (.int .i64 (nthS (out.take (i_ + 1) ++ out.drop i_) i_).2.1) := hown4.cellAt (i_ * 3 + 1) (by omega) |>.trans (rc_at encS_len (0, 0, 0) _ i_ 1 (by omega) (by decide))
                    have g2 : w4.cell? ⟨g, i_ * 3 + 2, none⟩ = some (.int .i64 (nthS (out.take (i_ + 1) ++ out.drop i_) i_).2.2) := hown4.cellAt (i_ * 3 + 2) (by omega) |>.trans (rc_at encS_len (0, 0, 0) _ i_ 2 (by omega) (by decide))
                    have f0 := World.ownsRow.frozenAt hown4 (i_ * 3)
                    have f1 := World.ownsRow.frozenAt hown4 (i_ * 3 + 1)
                    have f2 := World.ownsRow.frozenAt hown4 (i_ * 3 + 2)
                    have HR4 := Lib.hid (show Row w4 (w.heap.size + 1) (.slice (some ⟨g, 0, none⟩) (out.length + 1) cp3) (out.take (i_ + 1) ++ out.drop i_) by show World.ownsRow _ _ _ _ _ (List.length _) _; rw [hl4]; exact hown4)
                    have HL4 := Lib.hid hl4
                    have HG4 := Lib.hid hg4
                    have l6 : (i_ : Int) < (out.length : Int) + 1 := by omega
                    clear hown4 hg4 hsp4 hl4
                    go_wp2
                    go_roundw
                    case rel =>
                      have hr := row_set3 (i := i_) HR4.out (n := out.length + 1) HL4.out.symm (by rw [HL4.out]; omega) c
                      rw [putIn_set out i_ c hlt] at hr
                      exact ⟨n + 1, putIn out i_ c, by omega, by go_num, HKK.out.put_ HG3.out (World.grownBy.trans (only_drew (World.grownBy.refl w3 (some g))) HG4.out) hr (Nat.le_of_lt hlt) HLO.out (fun _ => HU.out ▸ HGT.out) HYES.out HSS.out HSL.out⟩
                    case measure => simp [intOf]; omega
              · obtain rfl : i_ = out.length := by omega
                clear hlt hi_
                go_wp2
                go_quiet (fail)
                obtain ⟨w2, hw2⟩ : ∃ w2 : World, w2 = wr.drewN nq := ⟨_, rfl⟩
                have HBQ := Lib.hid (show Below w1.heap.size w1 w2 by rw [hw2]; exact below_drewN HBL.out nq)
                rw [← hw2]
                clear hw2 hbl
                go_wp2
                go_quiet (fail)
                have hkk := HKEEP.out.below_ (below_drewN HBQ.out nq)
                have HLEN := Lib.hid (show out.length ≤ 1099511627775 by omega)
                have HSZ := Lib.hid (show w.heap.size + 1 ≤ (w2.drewN nq).heap.size by have := hkk.2.2.1.lt; omega)
                have HROW := Lib.hid hkk.1
                have HKK := Lib.hid hkk
                have HSPQ := Lib.hid (HSPT.out.below (below_drewN HBQ.out nq) HSPT.out.lt)
                clear hkk
                go_wp2_with (at_builtin; refine row_law encS_len encS_one (by decide) Try.underlying27 infoSpot rfl (by decide) HROW.out rfl _ _ rfl rfl (0, 0, 0) rfl rfl rfl HLEN.out HSZ.out ?_)
                intro v' w3 hown hg3 hn3
                obtain ⟨-, ao3, cp3, rfl, hc3, hm3⟩ := row_sat (own_rc encS_len (by decide) (l' := out ++ [(0, 0, 0)]) hown rfl)
                have hL3 : (out ++ [((0, 0, 0) : Sp)]).length = out.length + 1 := by simp
                rw [hL3] at hc3 ⊢
                have hown : World.ownsRow w3 (w.heap.size + 1) 23 3 (.slice ao3 (out.length + 1) cp3) (out.length + 1) (rc encS (out ++ [(0, 0, 0)])) := by rw [← hL3]; exact own_rc encS_len (by decide) hown rfl
                obtain ⟨g, rfl, hgb, hgl⟩ := own_form hown (by omega)
                have HOWN := Lib.hid (show World.ownsRow w3.drew (w.heap.size + 1) 23 3 _ _ _ from hown.drew)
                have HG3 := Lib.hid hg3
                have HSP3 := Lib.hid ((HSPQ.out.alloc (.cells #[.int .i64 0, .int .i64 0, .int .i64 0] 23)).grown hg3 (fun e => by have := HNP.out _ e.symm; omega))
                have HGP := Lib.hid (show ps ≠ g by
                  have h1 : ps < w2.heap.size := HSPQ.out.lt
                  rcases hn3 with hq | hq
                  · have := HNP.out g (hq ▸ rfl); omega
                  · simp [Value.ownBlock] at hq; omega)
                have e1 : IntKind.i64.wrap ((out.length : Int) + 1) = (out.length : Int) + 1 := IntWalk.i64_in _ (by omega)
                have e2 : ((out.length : Int) + 1).toNat = out.length + 1 := by omega
                have e3 : (0 : Int) ≤ (out.length : Int) + 1 := by omega
                have e4 : (out.length : Int) + 1 ≤ (out.length : Int) + 1 := by omega
                have e5 : out.length + 1 ≤ out.length + 1 := by omega
                have e6 : out.length ≤ out.length + 1 := by omega
                have e9 : (out.length : Int) ≤ (out.length : Int) + 1 := by omega
                clear hown hg3 hn3
                go_wp2
                refine wp_region_still_tail 7 (by kernel_rfl) (by kernel_rfl) ?_
                simp only [List.take_succ_cons, List.take_zero, List.drop_succ_cons, List.drop_zero]
                change wpStill _ _ (World.drew _) (fun a' => wpList _ _ _ _ a' (World.drew _)) _ _
                repeat still_step
                refine wpStill_nil ?_
                refine copy_none rfl _ _ rfl Try.underlying27 infoSize rfl rfl ?_ ?_
                · show min _ _ = 0
                  omega
                obtain ⟨w4, hw4⟩ : ∃ w4 : World, w4 = w3.drew := ⟨_, rfl⟩
                have hown4 := HOWN.out
                have hsp4 := HSP3.out.drew
                rw [← hw4] at hown4 hsp4 ⊢
                have HW4 := Lib.hid hw4
                clear e1 e2 e3 e4 e5 e6 e9 hw4
                obtain ⟨m0, m1, m2, -⟩ := hsp4.three
                have hl4 : (out ++ [((0, 0, 0) : Sp)]).length = out.length + 1 := by simp
                have g0 : w4.cell? ⟨g, out.length * 3, none⟩ = some (.int .i64 (nthS (out ++ [((0, 0, 0) : Sp)]) out.length).1) := hown4.cellAt (out.length * 3) (by omega) |>.trans (rc_at encS_len (0, 0, 0) _ out.length 0 (by omega) (by decide))
                have g1 : w4.cell? ⟨g, out.length * 3 + 1, none⟩ = some (.int .i64 (nthS (out ++ [((0, 0, 0) : Sp)]) out.length).2.1) := hown4.cellAt (out.length * 3 + 1) (by omega) |>.trans (rc_at encS_len (0, 0, 0) _ out.length 1 (by omega) (by decide))
                have g2 : w4.cell? ⟨g, out.length * 3 + 2, none⟩ = some (.int .i64 (nthS (out ++ [((0, 0, 0) : Sp)]) out.length).2.2) := hown4.cellAt (out.length * 3 + 2) (by omega) |>.trans (rc_at encS_len (0, 0, 0) _ out.length 2 (by omega) (by decide))
                have f0 := World.ownsRow.frozenAt hown4 (out.length * 3)
                have f1 := World.ownsRow.frozenAt hown4 (out.length * 3 + 1)
                have f2 := World.ownsRow.frozenAt hown4 (out.length * 3 + 2)
                have HR4 := Lib.hid (show Row w4 (w.heap.size + 1) (.slice (some ⟨g, 0, none⟩) (out.length + 1) cp3) (out ++ [((0, 0, 0) : Sp)]) by show World.ownsRow _ _ _ _ _ (List.length _) _; rw [hl4]; exact hown4)
                have HL4 := Lib.hid hl4
                have l6 : (out.length : Int) < (out.length : Int) + 1 := by omega
                clear hown4 hsp4 hl4
                go_wp2
                go_roundw
                case rel =>
                  have hr := row_set3 (i := out.length) HR4.out (n := out.length + 1) HL4.out.symm (by rw [HL4.out]; omega) c
                  rw [putIn_end] at hr
                  exact ⟨n + 1, putIn out out.length c, by omega, by go_num, HKK.out.put_ HG3.out (HW4.out ▸ only_drew (World.grownBy.refl w3 (some g))) hr (Nat.le_refl _) HLO.out (fun h => absurd h (Nat.lt_irrefl _)) HYES.out HSS.out HSL.out⟩
                case measure => simp [intOf]; omega
        · obtain rfl : n = 36 := by omega
          have HS := Lib.hid (show seen (s, false) (t, true) 2 0 = seen (s, false) (t, true) 1 36 by simp [seen])
          have HKP := Lib.hid hkeep
          clear hn36 hkeep
          rw [show ((36 : Nat) : Int) = 36 from rfl]
          go_wp2
          go_roundw
          case rel => exact ⟨2, out, by omega, rfl, by rw [HS.out]; exact HKP.out⟩
          case measure => simp [intOf]
    | 2, _ =>
      rw [show ((2 : Nat) : Int) = 2 from rfl]
      have HE := Lib.hid (show out = spotsL (s, false) (t, true) from spots_eq HINV.out.2.2.2.1 fun s' => (HINV.out.2.2.2.2.2 s').trans (seen_all ha hb s'))
      go_wp2
      go_ret
      exact ⟨_, rfl, HINV.out.2.1, HE.out ▸ own_base HINV.out.1 (Nat.le_succ _)⟩

set_option maxRecDepth 100000 in
set_option maxHeartbeats 8000000 in
theorem rspots_true_true (w : World) (s t : Sp) (ha : AnOk (s, true)) (hb : AnOk (t, true)) :
    Calls Try.prog 8 #[.agg #[.int .i64 s.1, .int .i64 s.2.1, .int .i64 s.2.2, .bool true, .int .i64 t.1, .int .i64 t.2.1, .int .i64 t.2.2, .bool true]] w fun e w' => ∃ v, e = .returned v ∧ Below w.heap.size w w' ∧ Row w' w.heap.size v (spotsL (s, true) (t, true)) := by
  have HINV := Lib.hid (show RInv w (w.alloc (.cells #[.int .i64 s.1, .int .i64 s.2.1, .int .i64 s.2.2, .bool true, .int .i64 t.1, .int .i64 t.2.1, .int .i64 t.2.2, .bool true] 26)) (.slice none 0 0) [] (seen (s, true) (t, true) 0 0) (s, true) (t, true) from
    ⟨World.ownsRow_nil _ _ _ _, (Below.refl _ _).alloc (Nat.le_refl _) _, Blk.new w 26 _, List.Pairwise.nil, Nat.zero_le _, fun s => by simp [seen]⟩)
  go_enter Try.func8, Try.ntmps8
  go_wp2
  go_loopw [3, 4] (fun s_ i wr => ∃ (i' : Nat) (out : List Sp), i' ≤ 2 ∧ i = .int .i64 (i' : Nat) ∧ RInv w wr s_ out (seen (s, true) (t, true) i' 0) (s, true) (t, true)) (fun _ i _ => 2 - (intOf i).toNat)
  case atStart => exact ⟨0, [], Nat.zero_le _, rfl, HINV.out⟩
  case round =>
    obtain ⟨i, out, hi, rfl, hinv⟩ := hrel
    have HINV := Lib.hid hinv
    clear hinv
    match i, hi with
    | 0, _ =>
      rw [show ((0 : Nat) : Int) = 0 from rfl]
      obtain ⟨⟨a0, a1, a2, a3, a4, a5, a6, a7⟩, -⟩ := HINV.out.2.2.1.eight
      go_wp2
      clear a0 a1 a2 a3 a4 a5 a6 a7
      go_loopw [3, 5] (fun s_ n wr => ∃ (n' : Nat) (out : List Sp), n' ≤ 36 ∧ n = .int .i64 (n' : Nat) ∧ RInv w wr s_ out (seen (s, true) (t, true) 0 n') (s, true) (t, true)) (fun _ n _ => 36 - (intOf n).toNat)
      case atStart => exact ⟨0, out, Nat.zero_le _, rfl, HINV.out⟩
      case round =>
        obtain ⟨n, out, hn, rfl, hkeep⟩ := hrel
        by_cases hn36 : n < 36
        · have l1 : (n : Int) < 36 := by omega
          obtain ⟨⟨a0, a1, a2, a3, a4, a5, a6, a7⟩, -⟩ := hkeep.2.2.1.eight
          have ltl : w.heap.size < wr.heap.size := hkeep.2.2.1.lt
          have q1 : (n : Int).tdiv 12 = (n : Int) / 12 := Int.tdiv_eq_ediv_of_nonneg (by omega)
          have q2 : (n : Int).tmod 4 = (n : Int) % 4 := Int.tmod_eq_emod_of_nonneg (by omega)
          have q3 : (n : Int).tdiv 4 = (n : Int) / 4 := Int.tdiv_eq_ediv_of_nonneg (by omega)
          have q4 : ((n : Int) / 4).tmod 3 = (n : Int) / 4 % 3 := Int.tmod_eq_emod_of_nonneg (by omega)
          have q5 : IntKind.i64.wrap ((n : Int) / 12) = (n : Int) / 12 := IntWalk.i64_in _ (by omega)
          have q6 : IntKind.i64.wrap ((n : Int) / 4) = (n : Int) / 4 := IntWalk.i64_in _ (by omega)
          obtain ⟨c, hc⟩ : ∃ c, c = cand (s, true) n := ⟨_, rfl⟩
          have hx : IntKind.i64.wrap (IntKind.i64.wrap (s.1 + (n : Int) / 12) - 1) = c.1 := by
            rw [hc]
            show _ = addw s.1 ((n / 12 : Nat) : Int)
            rw [show ((n / 12 : Nat) : Int) = (n : Int) / 12 from rfl]
            rfl
          have hy : (n : Int) % 4 = c.2.1 := by rw [hc]; rfl
          have hz : IntKind.i64.wrap (IntKind.i64.wrap (s.2.2 + (n : Int) / 4 % 3) - 1) = c.2.2 := by
            rw [hc]
            show _ = addw s.2.2 ((n / 4 % 3 : Nat) : Int)
            rw [show ((n / 4 % 3 : Nat) : Int) = (n : Int) / 4 % 3 from rfl]
            rfl
          obtain ⟨w9, hw9⟩ : ∃ w9 : World, w9 = (wr.alloc (.cells #[.int .i64 c.1, .int .i64 c.2.1, .int .i64 c.2.2] 23)).drew := ⟨_, rfl⟩
          have HK9 := Lib.hid (show RInv w w9 u3 out (seen (s, true) (t, true) 0 n) (s, true) (t, true) by rw [hw9]; exact hkeep.below_ ((Below.refl _ _).alloc (Nat.le_refl _) _).drew)
          have HSP9 := Lib.hid (show Blk w9 wr.heap.size 23 #[.int .i64 c.1, .int .i64 c.2.1, .int .i64 c.2.2] by rw [hw9]; exact Blk.new wr 23 #[.int .i64 c.1, .int .i64 c.2.1, .int .i64 c.2.2])
          have HBR := Lib.hid (show Below wr.heap.size wr w9 by rw [hw9]; exact ((Below.refl _ _).alloc (Nat.le_refl _) _).drew)
          have HW9 := Lib.hid hw9
          have HNP := Lib.hid (show ∀ q, u3.ownBlock = some q → q < wr.heap.size from fun q hq => (hkeep.1.lt q hq).2)
          clear hw9 hkeep
          have HIN := Lib.hid (rIn_any w9 s t true true c ha hb (hc ▸ cand_ok _ _))
          rw [show inS (s, true) (t, true) c = maySpot c by rw [hc]; exact in_cand0 ha rfl hn36] at HIN
          have HSS := Lib.hid (fun s' => seen_succ0 (a := (s, true)) (b := (t, true)) rfl n s')
          rw [← hc] at HSS
          have HSL := Lib.hid (seen_len0 (a := (s, true)) (b := (t, true)) rfl n)
          clear hc
          go_wp2
          go_region_held3 (fun w' => w'.cell? ⟨w.heap.size, 0, none⟩ = some (.int .i64 s.1) ∧ w'.cell? ⟨w.heap.size, 2, none⟩ = some (.int .i64 s.2.2) ∧ w'.cell? ⟨w.heap.size, 1, none⟩ = some (.int .i64 s.2.1)) (first | go_keep) (first | fail)
          rw [← HW9.out]
          clear q1 q2 q3 q4 q5 q6 hx hy hz a0 a1 a2 a3 a4 a5 a6 a7
          obtain ⟨⟨a0, a1, a2, a3, a4, a5, a6, a7⟩, -⟩ := HK9.out.2.2.1.eight
          obtain ⟨k0, k1, k2, -⟩ := HSP9.out.three
          go_wp2_with fail
          go_at_call 11
          refine HIN.out.mono ?_
          rintro e w1 ⟨rfl, hb1⟩
          have HB1 := Lib.hid hb1
          have HSPT := Lib.hid (HSP9.out.below hb1 HSP9.out.lt)
          clear hb1 a0 a1 a2 a3 a4 a5 a6 a7 k0 k1 k2 ltl
          rcases eq_false_or_true (maySpot c) with hms | hms
          · have HNO := Lib.hid hms
            rw [hms]
            clear hms
            go_wp2
            go_roundw
            case rel => exact ⟨n + 1, out, by omega, by go_num, HK9.out.skip_ HB1.out HSS.out HSL.out (.inl HNO.out)⟩
            case measure => simp [intOf]; omega
          · have HYES := Lib.hid hms
            rw [hms]
            have HKEEP := Lib.hid (HK9.out.below_ HB1.out)
            clear hms
            obtain ⟨ps, hps⟩ : ∃ ps, ps = wr.heap.size := ⟨_, rfl⟩
            rw [← hps] at HSPT HNP ⊢
            clear hps
            obtain ⟨hsat, ao, cp, rfl, hcp1, hcp2⟩ := row_sat HKEEP.out.1
            have HSAT := Lib.hid hsat
            clear hsat
            have hl72 : out.length ≤ 72 := by have h1 := HKEEP.out.2.2.2.2.1; have h2 := seen_small (s, true) (t, true) 0 n (by omega); omega
            go_wp2
            go_loopw [7] (fun at_ wr => ∃ i_ : Nat, i_ ≤ out.length ∧ at_ = .int .i64 (i_ : Nat) ∧ (∀ k, k < i_ → ltS (nthS out k) c) ∧ Below w1.heap.size w1 wr) (fun at_ _ => out.length - (intOf at_).toNat)
            case atStart => exact ⟨0, Nat.zero_le _, rfl, fun k hk => by omega, Below.refl _ _⟩
            case round =>
              obtain ⟨i_, hi_, rfl, hlo, hbl⟩ := hrel
              have HLO := Lib.hid hlo
              have HBL := Lib.hid hbl
              clear hlo
              by_cases hlt : i_ < out.length
              · have l2 : (i_ : Int) < (out.length : Int) := by omega
                obtain ⟨b, off, rfl, hbb, c0, c1, c2⟩ := (HSAT.out.below hbl).some3 hlt
                have hsp := HSPT.out.below hbl HSPT.out.lt
                obtain ⟨k0, k1, k2, -⟩ := hsp.three
                have kl := hsp.lt
                obtain ⟨u, hu⟩ : ∃ u, u = nthS out i_ := ⟨_, rfl⟩
                rw [← hu] at c0 c1 c2
                have C0 := fun (pw : InB wr) => pw.cell c0 hbb
                have C1 := fun (pw : InB wr) => pw.cell c1 hbb
                have C2 := fun (pw : InB wr) => pw.cell c2 hbb
                have K0 := fun (pw : InB wr) => pw.cell k0 kl
                have K1 := fun (pw : InB wr) => pw.cell k1 kl
                have K2 := fun (pw : InB wr) => pw.cell k2 kl
                have HU := Lib.hid hu
                clear hbl hsp c0 c1 c2 k0 k1 k2 hbb kl hu
                by_cases hlt2 : ltS u c
                · have HCM := Lib.hid (fun w => qCmp_lit w u c (-1) (cmpS_less hlt2))
                  have HLT := Lib.hid hlt2
                  clear hlt2
                  go_wp2
                  refine wp_region_quiet_below (by kernel_rfl) (by kernel_rfl) ?_
                  repeat (go_big_quiet_step ((go_at_call 22; exact calls_below (HCM.out _))))
                  refine wpQuiet_nil ?_
                  intro _ hw'
                  obtain ⟨⟨wq, hbq⟩, hw''⟩ := hw'
                  subst hw''
                  have HBQ := Lib.hid (HBL.out.trans (hbq.mono HBL.out.size))
                  clear C0 C1 C2 K0 K1 K2 hbq
                  go_wp2
                  go_roundw
                  case rel =>
                    refine ⟨i_ + 1, by omega, by go_num, fun k hk => ?_, HBQ.out⟩
                    rcases Nat.lt_or_ge k i_ with hl | hl
                    · exact HLO.out k hl
                    · obtain rfl : k = i_ := by omega
                      rw [← HU.out]; exact HLT.out
                  case measure => simp [intOf]; omega
                · by_cases he : u = c
                  · subst he
                    have HCM := Lib.hid (fun w => qCmp_lit w u u 0 (cmpS_eq.2 rfl))
                    have HMEM := Lib.hid (show u ∈ out by rw [HU.out]; exact nthS_mem hlt)
                    clear hlt2
                    go_wp2
                    refine wp_region_quiet_below (by kernel_rfl) (by kernel_rfl) ?_
                    repeat (go_big_quiet_step ((go_at_call 22; exact calls_below (HCM.out _))))
                    refine wpQuiet_nil ?_
                    intro w2 hw'
                    obtain ⟨⟨wq, hbq⟩, hw''⟩ := hw'
                    subst hw''
                    have d0 : w2.cell? ⟨b, off + i_ * 3, none⟩ = some (.int .i64 u.1) := C0 ⟨w2, hbq⟩
                    have d1 : w2.cell? ⟨b, off + i_ * 3 + 1, none⟩ = some (.int .i64 u.2.1) := C1 ⟨w2, hbq⟩
                    have d2 : w2.cell? ⟨b, off + i_ * 3 + 2, none⟩ = some (.int .i64 u.2.2) := C2 ⟨w2, hbq⟩
                    have k0 : w2.cell? ⟨ps, 0, none⟩ = some (.int .i64 u.1) := K0 ⟨w2, hbq⟩
                    have k1 : w2.cell? ⟨ps, 1, none⟩ = some (.int .i64 u.2.1) := K1 ⟨w2, hbq⟩
                    have k2 : w2.cell? ⟨ps, 2, none⟩ = some (.int .i64 u.2.2) := K2 ⟨w2, hbq⟩
                    have HBQ := Lib.hid (HBL.out.trans (hbq.mono HBL.out.size))
                    clear C0 C1 C2 K0 K1 K2 hbq
                    go_wp2
                    go_quiet (fail)
                    clear d0 d1 d2 k0 k1 k2
                    go_wp2
                    go_roundw
                    case rel => exact ⟨n + 1, out, by omega, by go_num, HK9.out.skip_ (below_drewN (HB1.out.trans (HBQ.out.mono HB1.out.size)) _) HSS.out HSL.out (.inr HMEM.out)⟩
                    case measure => simp [intOf]; omega
                  · have hgt : ltS c u := Classical.byContradiction fun h => he (ltS_total hlt2 h)
                    have HCM := Lib.hid (fun w => qCmp_lit w u c 1 (cmpS_more hgt))
                    have HGT := Lib.hid hgt
                    have hn1 := spot_ne he
                    have hn2 := spot_ne2 he
                    clear hgt hlt2 he
                    go_wp2
                    refine wp_region_quiet_below (by kernel_rfl) (by kernel_rfl) ?_
                    repeat (go_big_quiet_step ((go_at_call 22; exact calls_below (HCM.out _))))
                    refine wpQuiet_nil ?_
                    intro w2 hw'
                    obtain ⟨⟨wq, hbq⟩, hw''⟩ := hw'
                    subst hw''
                    have d0 : w2.cell? ⟨b, off + i_ * 3, none⟩ = some (.int .i64 u.1) := C0 ⟨w2, hbq⟩
                    have d1 : w2.cell? ⟨b, off + i_ * 3 + 1, none⟩ = some (.int .i64 u.2.1) := C1 ⟨w2, hbq⟩
                    have d2 : w2.cell? ⟨b, off + i_ * 3 + 2, none⟩ = some (.int .i64 u.2.2) := C2 ⟨w2, hbq⟩
                    have k0 : w2.cell? ⟨ps, 0, none⟩ = some (.int .i64 c.1) := K0 ⟨w2, hbq⟩
                    have k1 : w2.cell? ⟨ps, 1, none⟩ = some (.int .i64 c.2.1) := K1 ⟨w2, hbq⟩
                    have k2 : w2.cell? ⟨ps, 2, none⟩ = some (.int .i64 c.2.2) := K2 ⟨w2, hbq⟩
                    have HBQ := Lib.hid (HBL.out.trans (hbq.mono HBL.out.size))
                    clear C0 C1 C2 K0 K1 K2 hbq
                    go_wp2
                    go_quiet (fail)
                    clear d0 d1 d2 k0 k1 k2 hn1 hn2
                    have hkk := HKEEP.out.below_ (below_drewN HBQ.out nq)
                    have HLEN := Lib.hid (show out.length ≤ 1099511627775 by omega)
                    have HSZ := Lib.hid (show w.heap.size + 1 ≤ (w2.drewN nq).heap.size by have := hkk.2.2.1.lt; omega)
                    have HROW := Lib.hid hkk.1
                    have HKK := Lib.hid hkk
                    have HSPQ := Lib.hid (HSPT.out.below (below_drewN HBQ.out nq) HSPT.out.lt)
                    clear hkk
                    go_wp2_with (at_builtin; refine row_law encS_len encS_one (by decide) Try.underlying27 infoSpot rfl (by decide) HROW.out rfl _ _ rfl rfl (0, 0, 0) rfl rfl rfl HLEN.out HSZ.out ?_)
                    intro v' w3 hown hg3 hn3
                    obtain ⟨-, ao3, cp3, rfl, hc3, hm3⟩ := row_sat (own_rc encS_len (by decide) (l' := out ++ [(0, 0, 0)]) hown rfl)
                    have hL3 : (out ++ [((0, 0, 0) : Sp)]).length = out.length + 1 := by simp
                    rw [hL3] at hc3 ⊢
                    have hown : World.ownsRow w3 (w.heap.size + 1) 23 3 (.slice ao3 (out.length + 1) cp3) (out.length + 1) (rc encS (out ++ [(0, 0, 0)])) := by rw [← hL3]; exact own_rc encS_len (by decide) hown rfl
                    obtain ⟨g, rfl, hgb, hgl⟩ := own_form hown (by omega)
                    have HOWN := Lib.hid (show World.ownsRow w3.drew (w.heap.size + 1) 23 3 _ _ _ from hown.drew)
                    have HG3 := Lib.hid hg3
                    have HSP3 := Lib.hid ((HSPQ.out.alloc (.cells #[.int .i64 0, .int .i64 0, .int .i64 0] 23)).grown hg3 (fun e => by have := HNP.out _ e.symm; omega))
                    have HGP := Lib.hid (show ps ≠ g by
                      have h1 : ps < w2.heap.size := HSPQ.out.lt
                      rcases hn3 with hq | hq
                      · have := HNP.out g (hq ▸ rfl); omega
                      · simp [Value.ownBlock] at hq; omega)
                    have e1 : IntKind.i64.wrap ((i_ : Int) + 1) = (i_ : Int) + 1 := IntWalk.i64_in _ (by omega)
                    have e2 : ((i_ : Int) + 1).toNat = i_ + 1 := by omega
                    have e3 : (0 : Int) ≤ (i_ : Int) + 1 := by omega
                    have e4 : (i_ : Int) + 1 ≤ (out.length : Int) + 1 := by omega
                    have e5 : i_ + 1 ≤ out.length + 1 := by omega
                    have e6 : i_ ≤ out.length + 1 := by omega
                    have e7 : i_ + 1 < cp3 := by omega
                    have e8 : i_ < cp3 := by omega
                    have e9 : (i_ : Int) ≤ (out.length : Int) + 1 := by omega
                    have e10 : ¬ cp3 = i_ + 1 := by omega
                    have e11 : ¬ cp3 = i_ := by omega
                    clear hown hg3 hn3
                    go_wp2
                    refine wp_region_still_tail 7 (by kernel_rfl) (by kernel_rfl) ?_
                    simp only [List.take_succ_cons, List.take_zero, List.drop_succ_cons, List.drop_zero]
                    change wpStill _ _ (World.drew _) (fun a' => wpList _ _ _ _ a' (World.drew _)) _ _
                    repeat still_step
                    refine wpStill_nil ?_
                    refine shift_law encS_len encS_one rfl _ _ rfl Try.underlying27 infoSize HOWN.out hlt rfl rfl ?_ ?_ ?_ ?_ ?_
                    · omega
                    · omega
                    · omega
                    · omega
                    intro w4 hown4 hg4
                    clear e1 e2 e3 e4 e5 e6 e7 e8 e9 e10 e11
                    have hsp4 := HSP3.out.drew.grown hg4 (fun e => HGP.out (by injection e))
                    obtain ⟨m0, m1, m2, -⟩ := hsp4.three
                    have hl4 : (out.take (i_ + 1) ++ out.drop i_).length = out.length + 1 := by simp; omega
                    have g0 : w4.cell? ⟨g, i_ * 3, none⟩ = some (.int .i64 (nthS (out.take (i_ + 1) ++ out.drop i_) i_).1) := hown4.cellAt (i_ * 3) (by omega) |>.trans (rc_at encS_len (0, 0, 0) _ i_ 0 (by omega) (by decide))
                    have g1 : w4.cell? ⟨g, i_ * 3 + 1, none⟩ = some (.int .i64 (nthS (out.take (i_ + 1) ++ out.drop i_) i_).2.1) := hown4.cellAt (i_ * 3 + 1) (by omega) |>.trans (rc_at encS_len (0, 0, 0) _ i_ 1 (by omega) (by decide))
                    have g2 : w4.cell? ⟨g, i_ * 3 + 2, none⟩ = some (.int .i64 (nthS (out.take (i_ + 1) ++ out.drop i_) i_).2.2) := hown4.cellAt (i_ * 3 + 2) (by omega) |>.trans (rc_at encS_len (0, 0, 0) _ i_ 2 (by omega) (by decide))
                    have f0 := World.ownsRow.frozenAt hown4 (i_ * 3)
                    have f1 := World.ownsRow.frozenAt hown4 (i_ * 3 + 1)
                    have f2 := World.ownsRow.frozenAt hown4 (i_ * 3 + 2)
                    have HR4 := Lib.hid (show Row w4 (w.heap.size + 1) (.slice (some ⟨g, 0, none⟩) (out.length + 1) cp3) (out.take (i_ + 1) ++ out.drop i_) by show World.ownsRow _ _ _ _ _ (List.length _) _; rw [hl4]; exact hown4)
                    have HL4 := Lib.hid hl4
                    have HG4 := Lib.hid hg4
                    have l6 : (i_ : Int) < (out.length : Int) + 1 := by omega
                    clear hown4 hg4 hsp4 hl4
                    go_wp2
                    go_roundw
                    case rel =>
                      have hr := row_set3 (i := i_) HR4.out (n := out.length + 1) HL4.out.symm (by rw [HL4.out]; omega) c
                      rw [putIn_set out i_ c hlt] at hr
                      exact ⟨n + 1, putIn out i_ c, by omega, by go_num, HKK.out.put_ HG3.out (World.grownBy.trans (only_drew (World.grownBy.refl w3 (some g))) HG4.out) hr (Nat.le_of_lt hlt) HLO.out (fun _ => HU.out ▸ HGT.out) HYES.out HSS.out HSL.out⟩
                    case measure => simp [intOf]; omega
              · obtain rfl : i_ = out.length := by omega
                clear hlt hi_
                go_wp2
                go_quiet (fail)
                obtain ⟨w2, hw2⟩ : ∃ w2 : World, w2 = wr.drewN nq := ⟨_, rfl⟩
                have HBQ := Lib.hid (show Below w1.heap.size w1 w2 by rw [hw2]; exact below_drewN HBL.out nq)
                rw [← hw2]
                clear hw2 hbl
                go_wp2
                go_quiet (fail)
                have hkk := HKEEP.out.below_ (below_drewN HBQ.out nq)
                have HLEN := Lib.hid (show out.length ≤ 1099511627775 by omega)
                have HSZ := Lib.hid (show w.heap.size + 1 ≤ (w2.drewN nq).heap.size by have := hkk.2.2.1.lt; omega)
                have HROW := Lib.hid hkk.1
                have HKK := Lib.hid hkk
                have HSPQ := Lib.hid (HSPT.out.below (below_drewN HBQ.out nq) HSPT.out.lt)
                clear hkk
                go_wp2_with (at_builtin; refine row_law encS_len encS_one (by decide) Try.underlying27 infoSpot rfl (by decide) HROW.out rfl _ _ rfl rfl (0, 0, 0) rfl rfl rfl HLEN.out HSZ.out ?_)
                intro v' w3 hown hg3 hn3
                obtain ⟨-, ao3, cp3, rfl, hc3, hm3⟩ := row_sat (own_rc encS_len (by decide) (l' := out ++ [(0, 0, 0)]) hown rfl)
                have hL3 : (out ++ [((0, 0, 0) : Sp)]).length = out.length + 1 := by simp
                rw [hL3] at hc3 ⊢
                have hown : World.ownsRow w3 (w.heap.size + 1) 23 3 (.slice ao3 (out.length + 1) cp3) (out.length + 1) (rc encS (out ++ [(0, 0, 0)])) := by rw [← hL3]; exact own_rc encS_len (by decide) hown rfl
                obtain ⟨g, rfl, hgb, hgl⟩ := own_form hown (by omega)
                have HOWN := Lib.hid (show World.ownsRow w3.drew (w.heap.size + 1) 23 3 _ _ _ from hown.drew)
                have HG3 := Lib.hid hg3
                have HSP3 := Lib.hid ((HSPQ.out.alloc (.cells #[.int .i64 0, .int .i64 0, .int .i64 0] 23)).grown hg3 (fun e => by have := HNP.out _ e.symm; omega))
                have HGP := Lib.hid (show ps ≠ g by
                  have h1 : ps < w2.heap.size := HSPQ.out.lt
                  rcases hn3 with hq | hq
                  · have := HNP.out g (hq ▸ rfl); omega
                  · simp [Value.ownBlock] at hq; omega)
                have e1 : IntKind.i64.wrap ((out.length : Int) + 1) = (out.length : Int) + 1 := IntWalk.i64_in _ (by omega)
                have e2 : ((out.length : Int) + 1).toNat = out.length + 1 := by omega
                have e3 : (0 : Int) ≤ (out.length : Int) + 1 := by omega
                have e4 : (out.length : Int) + 1 ≤ (out.length : Int) + 1 := by omega
                have e5 : out.length + 1 ≤ out.length + 1 := by omega
                have e6 : out.length ≤ out.length + 1 := by omega
                have e9 : (out.length : Int) ≤ (out.length : Int) + 1 := by omega
                clear hown hg3 hn3
                go_wp2
                refine wp_region_still_tail 7 (by kernel_rfl) (by kernel_rfl) ?_
                simp only [List.take_succ_cons, List.take_zero, List.drop_succ_cons, List.drop_zero]
                change wpStill _ _ (World.drew _) (fun a' => wpList _ _ _ _ a' (World.drew _)) _ _
                repeat still_step
                refine wpStill_nil ?_
                refine copy_none rfl _ _ rfl Try.underlying27 infoSize rfl rfl ?_ ?_
                · show min _ _ = 0
                  omega
                obtain ⟨w4, hw4⟩ : ∃ w4 : World, w4 = w3.drew := ⟨_, rfl⟩
                have hown4 := HOWN.out
                have hsp4 := HSP3.out.drew
                rw [← hw4] at hown4 hsp4 ⊢
                have HW4 := Lib.hid hw4
                clear e1 e2 e3 e4 e5 e6 e9 hw4
                obtain ⟨m0, m1, m2, -⟩ := hsp4.three
                have hl4 : (out ++ [((0, 0, 0) : Sp)]).length = out.length + 1 := by simp
                have g0 : w4.cell? ⟨g, out.length * 3, none⟩ = some (.int .i64 (nthS (out ++ [((0, 0, 0) : Sp)]) out.length).1) := hown4.cellAt (out.length * 3) (by omega) |>.trans (rc_at encS_len (0, 0, 0) _ out.length 0 (by omega) (by decide))
                have g1 : w4.cell? ⟨g, out.length * 3 + 1, none⟩ = some (.int .i64 (nthS (out ++ [((0, 0, 0) : Sp)]) out.length).2.1) := hown4.cellAt (out.length * 3 + 1) (by omega) |>.trans (rc_at encS_len (0, 0, 0) _ out.length 1 (by omega) (by decide))
                have g2 : w4.cell? ⟨g, out.length * 3 + 2, none⟩ = some (.int .i64 (nthS (out ++ [((0, 0, 0) : Sp)]) out.length).2.2) := hown4.cellAt (out.length * 3 + 2) (by omega) |>.trans (rc_at encS_len (0, 0, 0) _ out.length 2 (by omega) (by decide))
                have f0 := World.ownsRow.frozenAt hown4 (out.length * 3)
                have f1 := World.ownsRow.frozenAt hown4 (out.length * 3 + 1)
                have f2 := World.ownsRow.frozenAt hown4 (out.length * 3 + 2)
                have HR4 := Lib.hid (show Row w4 (w.heap.size + 1) (.slice (some ⟨g, 0, none⟩) (out.length + 1) cp3) (out ++ [((0, 0, 0) : Sp)]) by show World.ownsRow _ _ _ _ _ (List.length _) _; rw [hl4]; exact hown4)
                have HL4 := Lib.hid hl4
                have l6 : (out.length : Int) < (out.length : Int) + 1 := by omega
                clear hown4 hsp4 hl4
                go_wp2
                go_roundw
                case rel =>
                  have hr := row_set3 (i := out.length) HR4.out (n := out.length + 1) HL4.out.symm (by rw [HL4.out]; omega) c
                  rw [putIn_end] at hr
                  exact ⟨n + 1, putIn out out.length c, by omega, by go_num, HKK.out.put_ HG3.out (HW4.out ▸ only_drew (World.grownBy.refl w3 (some g))) hr (Nat.le_refl _) HLO.out (fun h => absurd h (Nat.lt_irrefl _)) HYES.out HSS.out HSL.out⟩
                case measure => simp [intOf]; omega
        · obtain rfl : n = 36 := by omega
          have HS := Lib.hid (show seen (s, true) (t, true) 1 0 = seen (s, true) (t, true) 0 36 by simp [seen])
          have HKP := Lib.hid hkeep
          clear hn36 hkeep
          rw [show ((36 : Nat) : Int) = 36 from rfl]
          go_wp2
          go_roundw
          case rel => exact ⟨1, out, by omega, rfl, by rw [HS.out]; exact HKP.out⟩
          case measure => simp [intOf]
    | 1, _ =>
      rw [show ((1 : Nat) : Int) = 1 from rfl]
      obtain ⟨⟨a0, a1, a2, a3, a4, a5, a6, a7⟩, -⟩ := HINV.out.2.2.1.eight
      go_wp2
      clear a0 a1 a2 a3 a4 a5 a6 a7
      go_loopw [3, 5] (fun s_ n wr => ∃ (n' : Nat) (out : List Sp), n' ≤ 36 ∧ n = .int .i64 (n' : Nat) ∧ RInv w wr s_ out (seen (s, true) (t, true) 1 n') (s, true) (t, true)) (fun _ n _ => 36 - (intOf n).toNat)
      case atStart => exact ⟨0, out, Nat.zero_le _, rfl, HINV.out⟩
      case round =>
        obtain ⟨n, out, hn, rfl, hkeep⟩ := hrel
        by_cases hn36 : n < 36
        · have l1 : (n : Int) < 36 := by omega
          obtain ⟨⟨a0, a1, a2, a3, a4, a5, a6, a7⟩, -⟩ := hkeep.2.2.1.eight
          have ltl : w.heap.size < wr.heap.size := hkeep.2.2.1.lt
          have q1 : (n : Int).tdiv 12 = (n : Int) / 12 := Int.tdiv_eq_ediv_of_nonneg (by omega)
          have q2 : (n : Int).tmod 4 = (n : Int) % 4 := Int.tmod_eq_emod_of_nonneg (by omega)
          have q3 : (n : Int).tdiv 4 = (n : Int) / 4 := Int.tdiv_eq_ediv_of_nonneg (by omega)
          have q4 : ((n : Int) / 4).tmod 3 = (n : Int) / 4 % 3 := Int.tmod_eq_emod_of_nonneg (by omega)
          have q5 : IntKind.i64.wrap ((n : Int) / 12) = (n : Int) / 12 := IntWalk.i64_in _ (by omega)
          have q6 : IntKind.i64.wrap ((n : Int) / 4) = (n : Int) / 4 := IntWalk.i64_in _ (by omega)
          obtain ⟨c, hc⟩ : ∃ c, c = cand (t, true) n := ⟨_, rfl⟩
          have hx : IntKind.i64.wrap (IntKind.i64.wrap (t.1 + (n : Int) / 12) - 1) = c.1 := by
            rw [hc]
            show _ = addw t.1 ((n / 12 : Nat) : Int)
            rw [show ((n / 12 : Nat) : Int) = (n : Int) / 12 from rfl]
            rfl
          have hy : (n : Int) % 4 = c.2.1 := by rw [hc]; rfl
          have hz : IntKind.i64.wrap (IntKind.i64.wrap (t.2.2 + (n : Int) / 4 % 3) - 1) = c.2.2 := by
            rw [hc]
            show _ = addw t.2.2 ((n / 4 % 3 : Nat) : Int)
            rw [show ((n / 4 % 3 : Nat) : Int) = (n : Int) / 4 % 3 from rfl]
            rfl
          obtain ⟨w9, hw9⟩ : ∃ w9 : World, w9 = (wr.alloc (.cells #[.int .i64 c.1, .int .i64 c.2.1, .int .i64 c.2.2] 23)).drew := ⟨_, rfl⟩
          have HK9 := Lib.hid (show RInv w w9 u3 out (seen (s, true) (t, true) 1 n) (s, true) (t, true) by rw [hw9]; exact hkeep.below_ ((Below.refl _ _).alloc (Nat.le_refl _) _).drew)
          have HSP9 := Lib.hid (show Blk w9 wr.heap.size 23 #[.int .i64 c.1, .int .i64 c.2.1, .int .i64 c.2.2] by rw [hw9]; exact Blk.new wr 23 #[.int .i64 c.1, .int .i64 c.2.1, .int .i64 c.2.2])
          have HBR := Lib.hid (show Below wr.heap.size wr w9 by rw [hw9]; exact ((Below.refl _ _).alloc (Nat.le_refl _) _).drew)
          have HW9 := Lib.hid hw9
          have HNP := Lib.hid (show ∀ q, u3.ownBlock = some q → q < wr.heap.size from fun q hq => (hkeep.1.lt q hq).2)
          clear hw9 hkeep
          have HIN := Lib.hid (rIn_any w9 s t true true c ha hb (hc ▸ cand_ok _ _))
          rw [show inS (s, true) (t, true) c = maySpot c by rw [hc]; exact in_cand1 hb rfl hn36] at HIN
          have HSS := Lib.hid (fun s' => seen_succ1 (a := (s, true)) (b := (t, true)) rfl n s')
          rw [← hc] at HSS
          have HSL := Lib.hid (seen_len1 (a := (s, true)) (b := (t, true)) rfl n)
          clear hc
          go_wp2
          go_region_held3 (fun w' => w'.cell? ⟨w.heap.size, 4, none⟩ = some (.int .i64 t.1) ∧ w'.cell? ⟨w.heap.size, 6, none⟩ = some (.int .i64 t.2.2) ∧ w'.cell? ⟨w.heap.size, 5, none⟩ = some (.int .i64 t.2.1)) (first | go_keep) (first | fail)
          rw [← HW9.out]
          clear q1 q2 q3 q4 q5 q6 hx hy hz a0 a1 a2 a3 a4 a5 a6 a7
          obtain ⟨⟨a0, a1, a2, a3, a4, a5, a6, a7⟩, -⟩ := HK9.out.2.2.1.eight
          obtain ⟨k0, k1, k2, -⟩ := HSP9.out.three
          go_wp2_with fail
          go_at_call 11
          refine HIN.out.mono ?_
          rintro e w1 ⟨rfl, hb1⟩
          have HB1 := Lib.hid hb1
          have HSPT := Lib.hid (HSP9.out.below hb1 HSP9.out.lt)
          clear hb1 a0 a1 a2 a3 a4 a5 a6 a7 k0 k1 k2 ltl
          rcases eq_false_or_true (maySpot c) with hms | hms
          · have HNO := Lib.hid hms
            rw [hms]
            clear hms
            go_wp2
            go_roundw
            case rel => exact ⟨n + 1, out, by omega, by go_num, HK9.out.skip_ HB1.out HSS.out HSL.out (.inl HNO.out)⟩
            case measure => simp [intOf]; omega
          · have HYES := Lib.hid hms
            rw [hms]
            have HKEEP := Lib.hid (HK9.out.below_ HB1.out)
            clear hms
            obtain ⟨ps, hps⟩ : ∃ ps, ps = wr.heap.size := ⟨_, rfl⟩
            rw [← hps] at HSPT HNP ⊢
            clear hps
            obtain ⟨hsat, ao, cp, rfl, hcp1, hcp2⟩ := row_sat HKEEP.out.1
            have HSAT := Lib.hid hsat
            clear hsat
            have hl72 : out.length ≤ 72 := by have h1 := HKEEP.out.2.2.2.2.1; have h2 := seen_small (s, true) (t, true) 1 n (by omega); omega
            go_wp2
            go_loopw [7] (fun at_ wr => ∃ i_ : Nat, i_ ≤ out.length ∧ at_ = .int .i64 (i_ : Nat) ∧ (∀ k, k < i_ → ltS (nthS out k) c) ∧ Below w1.heap.size w1 wr) (fun at_ _ => out.length - (intOf at_).toNat)
            case atStart => exact ⟨0, Nat.zero_le _, rfl, fun k hk => by omega, Below.refl _ _⟩
            case round =>
              obtain ⟨i_, hi_, rfl, hlo, hbl⟩ := hrel
              have HLO := Lib.hid hlo
              have HBL := Lib.hid hbl
              clear hlo
              by_cases hlt : i_ < out.length
              · have l2 : (i_ : Int) < (out.length : Int) := by omega
                obtain ⟨b, off, rfl, hbb, c0, c1, c2⟩ := (HSAT.out.below hbl).some3 hlt
                have hsp := HSPT.out.below hbl HSPT.out.lt
                obtain ⟨k0, k1, k2, -⟩ := hsp.three
                have kl := hsp.lt
                obtain ⟨u, hu⟩ : ∃ u, u = nthS out i_ := ⟨_, rfl⟩
                rw [← hu] at c0 c1 c2
                have C0 := fun (pw : InB wr) => pw.cell c0 hbb
                have C1 := fun (pw : InB wr) => pw.cell c1 hbb
                have C2 := fun (pw : InB wr) => pw.cell c2 hbb
                have K0 := fun (pw : InB wr) => pw.cell k0 kl
                have K1 := fun (pw : InB wr) => pw.cell k1 kl
                have K2 := fun (pw : InB wr) => pw.cell k2 kl
                have HU := Lib.hid hu
                clear hbl hsp c0 c1 c2 k0 k1 k2 hbb kl hu
                by_cases hlt2 : ltS u c
                · have HCM := Lib.hid (fun w => qCmp_lit w u c (-1) (cmpS_less hlt2))
                  have HLT := Lib.hid hlt2
                  clear hlt2
                  go_wp2
                  refine wp_region_quiet_below (by kernel_rfl) (by kernel_rfl) ?_
                  repeat (go_big_quiet_step ((go_at_call 22; exact calls_below (HCM.out _))))
                  refine wpQuiet_nil ?_
                  intro _ hw'
                  obtain ⟨⟨wq, hbq⟩, hw''⟩ := hw'
                  subst hw''
                  have HBQ := Lib.hid (HBL.out.trans (hbq.mono HBL.out.size))
                  clear C0 C1 C2 K0 K1 K2 hbq
                  go_wp2
                  go_roundw
                  case rel =>
                    refine ⟨i_ + 1, by omega, by go_num, fun k hk => ?_, HBQ.out⟩
                    rcases Nat.lt_or_ge k i_ with hl | hl
                    · exact HLO.out k hl
                    · obtain rfl : k = i_ := by omega
                      rw [← HU.out]; exact HLT.out
                  case measure => simp [intOf]; omega
                · by_cases he : u = c
                  · subst he
                    have HCM := Lib.hid (fun w => qCmp_lit w u u 0 (cmpS_eq.2 rfl))
                    have HMEM := Lib.hid (show u ∈ out by rw [HU.out]; exact nthS_mem hlt)
                    clear hlt2
                    go_wp2
                    refine wp_region_quiet_below (by kernel_rfl) (by kernel_rfl) ?_
                    repeat (go_big_quiet_step ((go_at_call 22; exact calls_below (HCM.out _))))
                    refine wpQuiet_nil ?_
                    intro w2 hw'
                    obtain ⟨⟨wq, hbq⟩, hw''⟩ := hw'
                    subst hw''
                    have d0 : w2.cell? ⟨b, off + i_ * 3, none⟩ = some (.int .i64 u.1) := C0 ⟨w2, hbq⟩
                    have d1 : w2.cell? ⟨b, off + i_ * 3 + 1, none⟩ = some (.int .i64 u.2.1) := C1 ⟨w2, hbq⟩
                    have d2 : w2.cell? ⟨b, off + i_ * 3 + 2, none⟩ = some (.int .i64 u.2.2) := C2 ⟨w2, hbq⟩
                    have k0 : w2.cell? ⟨ps, 0, none⟩ = some (.int .i64 u.1) := K0 ⟨w2, hbq⟩
                    have k1 : w2.cell? ⟨ps, 1, none⟩ = some (.int .i64 u.2.1) := K1 ⟨w2, hbq⟩
                    have k2 : w2.cell? ⟨ps, 2, none⟩ = some (.int .i64 u.2.2) := K2 ⟨w2, hbq⟩
                    have HBQ := Lib.hid (HBL.out.trans (hbq.mono HBL.out.size))
                    clear C0 C1 C2 K0 K1 K2 hbq
                    go_wp2
                    go_quiet (fail)
                    clear d0 d1 d2 k0 k1 k2
                    go_wp2
                    go_roundw
                    case rel => exact ⟨n + 1, out, by omega, by go_num, HK9.out.skip_ (below_drewN (HB1.out.trans (HBQ.out.mono HB1.out.size)) _) HSS.out HSL.out (.inr HMEM.out)⟩
                    case measure => simp [intOf]; omega
                  · have hgt : ltS c u := Classical.byContradiction fun h => he (ltS_total hlt2 h)
                    have HCM := Lib.hid (fun w => qCmp_lit w u c 1 (cmpS_more hgt))
                    have HGT := Lib.hid hgt
                    have hn1 := spot_ne he
                    have hn2 := spot_ne2 he
                    clear hgt hlt2 he
                    go_wp2
                    refine wp_region_quiet_below (by kernel_rfl) (by kernel_rfl) ?_
                    repeat (go_big_quiet_step ((go_at_call 22; exact calls_below (HCM.out _))))
                    refine wpQuiet_nil ?_
                    intro w2 hw'
                    obtain ⟨⟨wq, hbq⟩, hw''⟩ := hw'
                    subst hw''
                    have d0 : w2.cell? ⟨b, off + i_ * 3, none⟩ = some (.int .i64 u.1) := C0 ⟨w2, hbq⟩
                    have d1 : w2.cell? ⟨b, off + i_ * 3 + 1, none⟩ = some (.int .i64 u.2.1) := C1 ⟨w2, hbq⟩
                    have d2 : w2.cell? ⟨b, off + i_ * 3 + 2, none⟩ = some (.int .i64 u.2.2) := C2 ⟨w2, hbq⟩
                    have k0 : w2.cell? ⟨ps, 0, none⟩ = some (.int .i64 c.1) := K0 ⟨w2, hbq⟩
                    have k1 : w2.cell? ⟨ps, 1, none⟩ = some (.int .i64 c.2.1) := K1 ⟨w2, hbq⟩
                    have k2 : w2.cell? ⟨ps, 2, none⟩ = some (.int .i64 c.2.2) := K2 ⟨w2, hbq⟩
                    have HBQ := Lib.hid (HBL.out.trans (hbq.mono HBL.out.size))
                    clear C0 C1 C2 K0 K1 K2 hbq
                    go_wp2
                    go_quiet (fail)
                    clear d0 d1 d2 k0 k1 k2 hn1 hn2
                    have hkk := HKEEP.out.below_ (below_drewN HBQ.out nq)
                    have HLEN := Lib.hid (show out.length ≤ 1099511627775 by omega)
                    have HSZ := Lib.hid (show w.heap.size + 1 ≤ (w2.drewN nq).heap.size by have := hkk.2.2.1.lt; omega)
                    have HROW := Lib.hid hkk.1
                    have HKK := Lib.hid hkk
                    have HSPQ := Lib.hid (HSPT.out.below (below_drewN HBQ.out nq) HSPT.out.lt)
                    clear hkk
                    go_wp2_with (at_builtin; refine row_law encS_len encS_one (by decide) Try.underlying27 infoSpot rfl (by decide) HROW.out rfl _ _ rfl rfl (0, 0, 0) rfl rfl rfl HLEN.out HSZ.out ?_)
                    intro v' w3 hown hg3 hn3
                    obtain ⟨-, ao3, cp3, rfl, hc3, hm3⟩ := row_sat (own_rc encS_len (by decide) (l' := out ++ [(0, 0, 0)]) hown rfl)
                    have hL3 : (out ++ [((0, 0, 0) : Sp)]).length = out.length + 1 := by simp
                    rw [hL3] at hc3 ⊢
                    have hown : World.ownsRow w3 (w.heap.size + 1) 23 3 (.slice ao3 (out.length + 1) cp3) (out.length + 1) (rc encS (out ++ [(0, 0, 0)])) := by rw [← hL3]; exact own_rc encS_len (by decide) hown rfl
                    obtain ⟨g, rfl, hgb, hgl⟩ := own_form hown (by omega)
                    have HOWN := Lib.hid (show World.ownsRow w3.drew (w.heap.size + 1) 23 3 _ _ _ from hown.drew)
                    have HG3 := Lib.hid hg3
                    have HSP3 := Lib.hid ((HSPQ.out.alloc (.cells #[.int .i64 0, .int .i64 0, .int .i64 0] 23)).grown hg3 (fun e => by have := HNP.out _ e.symm; omega))
                    have HGP := Lib.hid (show ps ≠ g by
                      have h1 : ps < w2.heap.size := HSPQ.out.lt
                      rcases hn3 with hq | hq
                      · have := HNP.out g (hq ▸ rfl); omega
                      · simp [Value.ownBlock] at hq; omega)
                    have e1 : IntKind.i64.wrap ((i_ : Int) + 1) = (i_ : Int) + 1 := IntWalk.i64_in _ (by omega)
                    have e2 : ((i_ : Int) + 1).toNat = i_ + 1 := by omega
                    have e3 : (0 : Int) ≤ (i_ : Int) + 1 := by omega
                    have e4 : (i_ : Int) + 1 ≤ (out.length : Int) + 1 := by omega
                    have e5 : i_ + 1 ≤ out.length + 1 := by omega
                    have e6 : i_ ≤ out.length + 1 := by omega
                    have e7 : i_ + 1 < cp3 := by omega
                    have e8 : i_ < cp3 := by omega
                    have e9 : (i_ : Int) ≤ (out.length : Int) + 1 := by omega
                    have e10 : ¬ cp3 = i_ + 1 := by omega
                    have e11 : ¬ cp3 = i_ := by omega
                    clear hown hg3 hn3
                    go_wp2
                    refine wp_region_still_tail 7 (by kernel_rfl) (by kernel_rfl) ?_
                    simp only [List.take_succ_cons, List.take_zero, List.drop_succ_cons, List.drop_zero]
                    change wpStill _ _ (World.drew _) (fun a' => wpList _ _ _ _ a' (World.drew _)) _ _
                    repeat still_step
                    refine wpStill_nil ?_
                    refine shift_law encS_len encS_one rfl _ _ rfl Try.underlying27 infoSize HOWN.out hlt rfl rfl ?_ ?_ ?_ ?_ ?_
                    · omega
                    · omega
                    · omega
                    · omega
                    intro w4 hown4 hg4
                    clear e1 e2 e3 e4 e5 e6 e7 e8 e9 e10 e11
                    have hsp4 := HSP3.out.drew.grown hg4 (fun e => HGP.out (by injection e))
                    obtain ⟨m0, m1, m2, -⟩ := hsp4.three
                    have hl4 : (out.take (i_ + 1) ++ out.drop i_).length = out.length + 1 := by simp; omega
                    have g0 : w4.cell? ⟨g, i_ * 3, none⟩ = some (.int .i64 (nthS (out.take (i_ + 1) ++ out.drop i_) i_).1) := hown4.cellAt (i_ * 3) (by omega) |>.trans (rc_at encS_len (0, 0, 0) _ i_ 0 (by omega) (by decide))
                    have g1 : w4.cell? ⟨g, i_ * 3 + 1, none⟩ = some (.int .i64 (nthS (out.take (i_ + 1) ++ out.drop i_) i_).2.1) := hown4.cellAt (i_ * 3 + 1) (by omega) |>.trans (rc_at encS_len (0, 0, 0) _ i_ 1 (by omega) (by decide))
                    have g2 : w4.cell? ⟨g, i_ * 3 + 2, none⟩ = some (.int .i64 (nthS (out.take (i_ + 1) ++ out.drop i_) i_).2.2) := hown4.cellAt (i_ * 3 + 2) (by omega) |>.trans (rc_at encS_len (0, 0, 0) _ i_ 2 (by omega) (by decide))
                    have f0 := World.ownsRow.frozenAt hown4 (i_ * 3)
                    have f1 := World.ownsRow.frozenAt hown4 (i_ * 3 + 1)
                    have f2 := World.ownsRow.frozenAt hown4 (i_ * 3 + 2)
                    have HR4 := Lib.hid (show Row w4 (w.heap.size + 1) (.slice (some ⟨g, 0, none⟩) (out.length + 1) cp3) (out.take (i_ + 1) ++ out.drop i_) by show World.ownsRow _ _ _ _ _ (List.length _) _; rw [hl4]; exact hown4)
                    have HL4 := Lib.hid hl4
                    have HG4 := Lib.hid hg4
                    have l6 : (i_ : Int) < (out.length : Int) + 1 := by omega
                    clear hown4 hg4 hsp4 hl4
                    go_wp2
                    go_roundw
                    case rel =>
                      have hr := row_set3 (i := i_) HR4.out (n := out.length + 1) HL4.out.symm (by rw [HL4.out]; omega) c
                      rw [putIn_set out i_ c hlt] at hr
                      exact ⟨n + 1, putIn out i_ c, by omega, by go_num, HKK.out.put_ HG3.out (World.grownBy.trans (only_drew (World.grownBy.refl w3 (some g))) HG4.out) hr (Nat.le_of_lt hlt) HLO.out (fun _ => HU.out ▸ HGT.out) HYES.out HSS.out HSL.out⟩
                    case measure => simp [intOf]; omega
              · obtain rfl : i_ = out.length := by omega
                clear hlt hi_
                go_wp2
                go_quiet (fail)
                obtain ⟨w2, hw2⟩ : ∃ w2 : World, w2 = wr.drewN nq := ⟨_, rfl⟩
                have HBQ := Lib.hid (show Below w1.heap.size w1 w2 by rw [hw2]; exact below_drewN HBL.out nq)
                rw [← hw2]
                clear hw2 hbl
                go_wp2
                go_quiet (fail)
                have hkk := HKEEP.out.below_ (below_drewN HBQ.out nq)
                have HLEN := Lib.hid (show out.length ≤ 1099511627775 by omega)
                have HSZ := Lib.hid (show w.heap.size + 1 ≤ (w2.drewN nq).heap.size by have := hkk.2.2.1.lt; omega)
                have HROW := Lib.hid hkk.1
                have HKK := Lib.hid hkk
                have HSPQ := Lib.hid (HSPT.out.below (below_drewN HBQ.out nq) HSPT.out.lt)
                clear hkk
                go_wp2_with (at_builtin; refine row_law encS_len encS_one (by decide) Try.underlying27 infoSpot rfl (by decide) HROW.out rfl _ _ rfl rfl (0, 0, 0) rfl rfl rfl HLEN.out HSZ.out ?_)
                intro v' w3 hown hg3 hn3
                obtain ⟨-, ao3, cp3, rfl, hc3, hm3⟩ := row_sat (own_rc encS_len (by decide) (l' := out ++ [(0, 0, 0)]) hown rfl)
                have hL3 : (out ++ [((0, 0, 0) : Sp)]).length = out.length + 1 := by simp
                rw [hL3] at hc3 ⊢
                have hown : World.ownsRow w3 (w.heap.size + 1) 23 3 (.slice ao3 (out.length + 1) cp3) (out.length + 1) (rc encS (out ++ [(0, 0, 0)])) := by rw [← hL3]; exact own_rc encS_len (by decide) hown rfl
                obtain ⟨g, rfl, hgb, hgl⟩ := own_form hown (by omega)
                have HOWN := Lib.hid (show World.ownsRow w3.drew (w.heap.size + 1) 23 3 _ _ _ from hown.drew)
                have HG3 := Lib.hid hg3
                have HSP3 := Lib.hid ((HSPQ.out.alloc (.cells #[.int .i64 0, .int .i64 0, .int .i64 0] 23)).grown hg3 (fun e => by have := HNP.out _ e.symm; omega))
                have HGP := Lib.hid (show ps ≠ g by
                  have h1 : ps < w2.heap.size := HSPQ.out.lt
                  rcases hn3 with hq | hq
                  · have := HNP.out g (hq ▸ rfl); omega
                  · simp [Value.ownBlock] at hq; omega)
                have e1 : IntKind.i64.wrap ((out.length : Int) + 1) = (out.length : Int) + 1 := IntWalk.i64_in _ (by omega)
                have e2 : ((out.length : Int) + 1).toNat = out.length + 1 := by omega
                have e3 : (0 : Int) ≤ (out.length : Int) + 1 := by omega
                have e4 : (out.length : Int) + 1 ≤ (out.length : Int) + 1 := by omega
                have e5 : out.length + 1 ≤ out.length + 1 := by omega
                have e6 : out.length ≤ out.length + 1 := by omega
                have e9 : (out.length : Int) ≤ (out.length : Int) + 1 := by omega
                clear hown hg3 hn3
                go_wp2
                refine wp_region_still_tail 7 (by kernel_rfl) (by kernel_rfl) ?_
                simp only [List.take_succ_cons, List.take_zero, List.drop_succ_cons, List.drop_zero]
                change wpStill _ _ (World.drew _) (fun a' => wpList _ _ _ _ a' (World.drew _)) _ _
                repeat still_step
                refine wpStill_nil ?_
                refine copy_none rfl _ _ rfl Try.underlying27 infoSize rfl rfl ?_ ?_
                · show min _ _ = 0
                  omega
                obtain ⟨w4, hw4⟩ : ∃ w4 : World, w4 = w3.drew := ⟨_, rfl⟩
                have hown4 := HOWN.out
                have hsp4 := HSP3.out.drew
                rw [← hw4] at hown4 hsp4 ⊢
                have HW4 := Lib.hid hw4
                clear e1 e2 e3 e4 e5 e6 e9 hw4
                obtain ⟨m0, m1, m2, -⟩ := hsp4.three
                have hl4 : (out ++ [((0, 0, 0) : Sp)]).length = out.length + 1 := by simp
                have g0 : w4.cell? ⟨g, out.length * 3, none⟩ = some (.int .i64 (nthS (out ++ [((0, 0, 0) : Sp)]) out.length).1) := hown4.cellAt (out.length * 3) (by omega) |>.trans (rc_at encS_len (0, 0, 0) _ out.length 0 (by omega) (by decide))
                have g1 : w4.cell? ⟨g, out.length * 3 + 1, none⟩ = some (.int .i64 (nthS (out ++ [((0, 0, 0) : Sp)]) out.length).2.1) := hown4.cellAt (out.length * 3 + 1) (by omega) |>.trans (rc_at encS_len (0, 0, 0) _ out.length 1 (by omega) (by decide))
                have g2 : w4.cell? ⟨g, out.length * 3 + 2, none⟩ = some (.int .i64 (nthS (out ++ [((0, 0, 0) : Sp)]) out.length).2.2) := hown4.cellAt (out.length * 3 + 2) (by omega) |>.trans (rc_at encS_len (0, 0, 0) _ out.length 2 (by omega) (by decide))
                have f0 := World.ownsRow.frozenAt hown4 (out.length * 3)
                have f1 := World.ownsRow.frozenAt hown4 (out.length * 3 + 1)
                have f2 := World.ownsRow.frozenAt hown4 (out.length * 3 + 2)
                have HR4 := Lib.hid (show Row w4 (w.heap.size + 1) (.slice (some ⟨g, 0, none⟩) (out.length + 1) cp3) (out ++ [((0, 0, 0) : Sp)]) by show World.ownsRow _ _ _ _ _ (List.length _) _; rw [hl4]; exact hown4)
                have HL4 := Lib.hid hl4
                have l6 : (out.length : Int) < (out.length : Int) + 1 := by omega
                clear hown4 hsp4 hl4
                go_wp2
                go_roundw
                case rel =>
                  have hr := row_set3 (i := out.length) HR4.out (n := out.length + 1) HL4.out.symm (by rw [HL4.out]; omega) c
                  rw [putIn_end] at hr
                  exact ⟨n + 1, putIn out out.length c, by omega, by go_num, HKK.out.put_ HG3.out (HW4.out ▸ only_drew (World.grownBy.refl w3 (some g))) hr (Nat.le_refl _) HLO.out (fun h => absurd h (Nat.lt_irrefl _)) HYES.out HSS.out HSL.out⟩
                case measure => simp [intOf]; omega
        · obtain rfl : n = 36 := by omega
          have HS := Lib.hid (show seen (s, true) (t, true) 2 0 = seen (s, true) (t, true) 1 36 by simp [seen])
          have HKP := Lib.hid hkeep
          clear hn36 hkeep
          rw [show ((36 : Nat) : Int) = 36 from rfl]
          go_wp2
          go_roundw
          case rel => exact ⟨2, out, by omega, rfl, by rw [HS.out]; exact HKP.out⟩
          case measure => simp [intOf]
    | 2, _ =>
      rw [show ((2 : Nat) : Int) = 2 from rfl]
      have HE := Lib.hid (show out = spotsL (s, true) (t, true) from spots_eq HINV.out.2.2.2.1 fun s' => (HINV.out.2.2.2.2.2 s').trans (seen_all ha hb s'))
      go_wp2
      go_ret
      exact ⟨_, rfl, HINV.out.2.1, HE.out ▸ own_base HINV.out.1 (Nat.le_succ _)⟩

theorem rspots_any (w : World) (s t : Sp) (o p : Bool) (ha : AnOk (s, o)) (hb : AnOk (t, p)) :
    Calls Try.prog 8 #[.agg #[.int .i64 s.1, .int .i64 s.2.1, .int .i64 s.2.2, .bool o, .int .i64 t.1, .int .i64 t.2.1, .int .i64 t.2.2, .bool p]] w fun e w' => ∃ v, e = .returned v ∧ Below w.heap.size w w' ∧ Row w' w.heap.size v (spotsL (s, o) (t, p)) := by
  cases o <;> cases p
  · exact rspots_false_false w s t ha hb
  · exact rspots_false_true w s t ha hb
  · exact rspots_true_false w s t ha hb
  · exact rspots_true_true w s t ha hb
end Go.Proofs.Ytokmbnmhdicljaa
