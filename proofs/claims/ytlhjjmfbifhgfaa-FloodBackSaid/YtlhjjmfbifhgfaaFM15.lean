/- Joined texts of one seat, each under its own heading below. -/
import Derived.Test.YtlhjjmfbifhgfaaFM14
import Derived.Maps.RangeRun
/- A range over the map of lights; its copy; the light's inequality: laws for the walk. -/
namespace Go.Proofs.Ytlhjjmfbifhgfaa
set_option linter.unusedSimpArgs false
set_option linter.unusedVariables false
open Go.RowKit Go.ChangeMaps
set_option maxRecDepth 100000

theorem set_same {w : World} {r : Nat} {o : Obj} (h : w.heap[r]? = some o) (o' : Obj) : (setBlock w r o').heap[r]? = some o' := by
  have hl := (Array.getElem?_eq_some_iff.1 h).1
  simp [setBlock, Array.getElem?_setIfInBounds, hl]
theorem set_other {w : World} {r k : Nat} (o' : Obj) (h : k ≠ r) : (setBlock w r o').heap[k]? = w.heap[k]? := by
  have : ¬ r = k := fun e => h e.symm
  simp [setBlock, Array.getElem?_setIfInBounds, this]
/-- An iterator over the map of lights: which keys have come. -/
structure IterAt (W : World) (r gm : Nat) (M : LMap) (c : Nat) (S : List Pl) : Prop where
  map : MapIs plV PlOk W gm (M.map entL) c
  iter : ∃ seen : Array Nat, W.heap[r]? = some (.mapIter (some gm) c seen c) ∧ (∀ x ∈ M, seen.contains x.2.2 = true ↔ x.1 ∈ S) ∧ seen.size = S.length
  nodup : S.Nodup
  sub : ∀ q ∈ S, q ∈ keysL M
section
variable {W W' : World} {r gm : Nat} {M : LMap} {c : Nat} {S : List Pl}
theorem IterAt.inb (h : IterAt W r gm M c S) : r < W.heap.size := by
  obtain ⟨seen, h1, _⟩ := h.iter
  exact (Array.getElem?_eq_some_iff.1 h1).1
theorem IterAt.ne (h : IterAt W r gm M c S) : r ≠ gm := by
  rintro rfl
  obtain ⟨seen, h1, _⟩ := h.iter
  rw [h.map.block] at h1
  cases h1
theorem IterAt.keep (h : IterAt W r gm M c S) (h1 : W'.heap[gm]? = W.heap[gm]?) (h2 : W'.heap[r]? = W.heap[r]?) : IterAt W' r gm M c S := by
  obtain ⟨seen, h3, h4⟩ := h.iter
  exact ⟨h.map.keep h1, ⟨seen, h2.trans h3, h4⟩, h.nodup, h.sub⟩
theorem IterAt.start (h : MapIs plV PlOk W gm (M.map entL) c) (t k e : TypeId) (ht : Try.prog.underlying t = some (.map k e)) :
    (Instr.range t (.map (some gm))).run Try.prog W = .ok (.pointer (some ⟨W.heap.size, 0, none⟩)) (W.alloc (.mapIter (some gm) c #[] c)) ∧ IterAt (W.alloc (.mapIter (some gm) c #[] c)) W.heap.size gm M c [] :=
  ⟨run_range_map W t k e gm _ c ht h.block, h.alloc _, ⟨#[], heap_alloc_new _ _, fun x hx => by simp, rfl⟩, List.nodup_nil, fun q hq => absurd hq List.not_mem_nil⟩
theorem ent_nodup (h : MapIs plV PlOk W gm (M.map entL) c) : (keysL M).Nodup := by rw [← keysL_ent]; exact h.keys
theorem IterAt.size (h : IterAt W r gm M c S) : (W.iterSeen r).size = S.length := by
  obtain ⟨seen, h1, _, h3⟩ := h.iter
  unfold World.iterSeen
  rw [h1]
  exact h3
/-- The next round: nothing is left, or an entry comes that has not come. -/
theorem IterAt.next (h : IterAt W r gm M c S) (ty : TypeId) :
    ((∀ q ∈ keysL M, q ∈ S) ∧ (Instr.next (.pointer (some ⟨r, 0, none⟩)) false ty).run Try.prog W = .ok (.tuple #[.bool false]) W) ∨
    ∃ (q : Pl) (v : Int × Int) (W' : World), lightOf M q = some v ∧ q ∉ S ∧ (Instr.next (.pointer (some ⟨r, 0, none⟩)) false ty).run Try.prog W = .ok (.tuple #[.bool true, plV q, clV v]) W' ∧ (Instr.entry (.pointer (some ⟨r, 0, none⟩))).run Try.prog W' = .ok (.tuple #[plV q, clV v]) W' ∧ W.grownBy W' (some r) ∧ W'.heap.size = W.heap.size ∧ IterAt W' r gm M c (S ++ [q]) := by
  obtain ⟨seen, h1, h2, h2s⟩ := h.iter
  have hb := h.map.block
  have hes : ∀ x : MapEntry, x ∈ ((M.map entL).map (entOf plV)).toArray.toList → ∃ y ∈ M, x = entOf plV (entL y) := fun x hx => by
    simp only [List.map_map, List.mem_map, Function.comp] at hx
    obtain ⟨y, hy, rfl⟩ := hx
    exact ⟨y, hy, rfl⟩
  have hbn : (((M.map entL).map (entOf plV)).toArray.toList.map (·.born)).Nodup := by
    change (((M.map entL).map (entOf plV)).map (·.born)).Nodup
    rw [List.map_map]
    exact h.map.born
  have hkn := ent_nodup h.map
  rcases run_next_at (P := Try.prog) W ty r gm c c seen _ c h1 hb (fun x hx => by
      obtain ⟨y, hy, rfl⟩ := hes x hx
      exact h.map.lt (entL y) (List.mem_map.2 ⟨y, hy, rfl⟩)) (Nat.le_refl _) with ⟨h3, h4⟩ | ⟨e, he, w1, hw1, h4⟩
  · refine .inl ⟨fun q hq => ?_, h4⟩
    obtain ⟨y, hy, rfl⟩ := List.mem_map.1 hq
    exact (h2 y hy).1 (all_seen _ _ h3 (entOf plV (entL y)) (by simp only [List.map_map, List.mem_map, Function.comp]; exact ⟨y, hy, rfl⟩))
  · obtain ⟨hel, hes2⟩ := mem_left he
    obtain ⟨y, hy, rfl⟩ := hes e hel
    have hyS : y.1 ∉ S := fun hS => by
      have := (h2 y hy).2 hS
      rw [show (entOf plV (entL y)).born = y.2.2 from rfl] at hes2
      rw [hes2] at this
      cases this
    have hlo : lightOf M y.1 = some y.2.1 := by
      unfold lightOf
      cases hf : M.find? (fun x => decide (x.1 = y.1)) with
      | none =>
        have := List.find?_eq_none.1 hf y hy
        simp at this
      | some z =>
        have hz := List.mem_of_find?_eq_some hf
        have hz1 : z.1 = y.1 := by simpa using List.find?_some hf
        have : z = y := by
          obtain ⟨i, hi, rfl⟩ := List.getElem_of_mem hz
          obtain ⟨j, hj, rfl⟩ := List.getElem_of_mem hy
          have h5 := List.nodup_iff_pairwise_ne.1 hkn
          rw [List.pairwise_iff_getElem] at h5
          rcases Nat.lt_trichotomy i j with hl | he | hl
          · exact absurd (by simpa [keysL] using hz1) (h5 i j (by simpa [keysL] using hi) (by simpa [keysL] using hj) hl)
          · subst he; rfl
          · exact absurd (by simpa [keysL] using hz1.symm) (h5 j i (by simpa [keysL] using hj) (by simpa [keysL] using hi) hl)
        rw [this]
        rfl
    have hsz : w1.heap.size = W.heap.size := by rcases hw1 with e | e <;> rw [e] <;> rfl
    have hh : ∀ k : Nat, w1.heap[k]? = W.heap[k]? := fun k => by rcases hw1 with e | e <;> rw [e] <;> rfl
    have hb1 : w1.heap[gm]? = some (.map ((M.map entL).map (entOf plV)).toArray c) := (hh gm).trans hb
    have hr1 : w1.heap[r]? = some (.mapIter (some gm) c seen c) := (hh r).trans h1
    have hne := h.ne
    have hbr : (setBlock w1 r (.mapIter (some gm) c (seen.push y.2.2) c)).heap[gm]? = some (.map ((M.map entL).map (entOf plV)).toArray c) := by
      rw [set_other _ (fun e => hne e.symm)]; exact hb1
    have hrr : (setBlock w1 r (.mapIter (some gm) c (seen.push y.2.2) c)).heap[r]? = some (.mapIter (some gm) c (seen.push y.2.2) c) := set_same hr1 _
    refine .inr ⟨y.1, y.2.1, setBlock w1 r (.mapIter (some gm) c (seen.push y.2.2) c), hlo, hyS, h4, ?_, ?_, by simp [setBlock, hsz], ?_⟩
    · exact run_entry_at _ r gm c seen _ c (entOf plV (entL y)) hrr hbr hel hbn
    · refine ⟨?_, ?_, ?_, by simp [setBlock, hsz], fun k hk hne2 => ?_⟩
      · rcases hw1 with e | e <;> rw [e] <;> rfl
      · rcases hw1 with e | e <;> rw [e] <;> rfl
      · rcases hw1 with e | e <;> rw [e] <;> rfl
      · rw [set_other _ (fun e => hne2 (by rw [e]))]; exact hh k
    · refine ⟨⟨hbr, h.map.keys, h.map.ok, h.map.lt, h.map.born⟩, ⟨_, hrr, fun x hx => ?_, by simp [h2s]⟩, ?_, fun q hq => ?_⟩
      · rw [contains_push, Bool.or_eq_true, h2 x hx, List.mem_append, List.mem_singleton]
        refine or_congr_right ?_
        constructor
        · intro e
          have e2 : x.2.2 = y.2.2 := by simpa using e
          have h5 : (M.map (·.2.2)).Nodup := by
            have := h.map.born
            rw [List.map_map] at this
            exact this
          obtain ⟨i, hi, rfl⟩ := List.getElem_of_mem hx
          obtain ⟨j, hj, rfl⟩ := List.getElem_of_mem hy
          have h6 := List.nodup_iff_pairwise_ne.1 h5
          rw [List.pairwise_iff_getElem] at h6
          rcases Nat.lt_trichotomy i j with hl | he | hl
          · exact absurd (by rw [List.getElem_map, List.getElem_map]; exact e2) (h6 i j (by simpa using hi) (by simpa using hj) hl)
          · subst he; rfl
          · exact absurd (by rw [List.getElem_map, List.getElem_map]; exact e2.symm) (h6 j i (by simpa using hj) (by simpa using hi) hl)
        · intro e
          have h5 := List.nodup_iff_pairwise_ne.1 hkn
          rw [List.pairwise_iff_getElem] at h5
          obtain ⟨i, hi, rfl⟩ := List.getElem_of_mem hx
          obtain ⟨j, hj, rfl⟩ := List.getElem_of_mem hy
          rcases Nat.lt_trichotomy i j with hl | he | hl
          · exact absurd (by simpa [keysL] using e) (h5 i j (by simpa [keysL] using hi) (by simpa [keysL] using hj) hl)
          · subst he; simp
          · exact absurd (by simpa [keysL] using e.symm) (h5 j i (by simpa [keysL] using hj) (by simpa [keysL] using hi) hl)
      · rw [List.nodup_append]
        exact ⟨h.nodup, by simp, fun a ha b hb e => by simp at hb; subst hb e; exact hyS ha⟩
      · rcases List.mem_append.1 hq with hq | hq
        · exact h.sub q hq
        · rw [List.mem_singleton.1 hq]; exact List.mem_map.2 ⟨y, hy, rfl⟩
end
/-- maps.Clone of the map of lights. -/
theorem mclone_any {W : World} {gm : Nat} {M : LMap} {c : Nat} (h : MapIs plV PlOk W gm (M.map entL) c) :
    Calls Try.prog 40 #[.map (some gm)] W fun e w' => e = .returned (.map (some W.heap.size)) ∧ ∃ o, w' = W.alloc o ∧ MapIs plV PlOk w' W.heap.size (M.map entL) c := by
  have hc := AnyW.maps_Clone Try.cloneM gm _ c W h.block
  change Calls Try.prog 40 _ _ _ at hc
  refine hc.mono ?_
  rintro e w' ⟨rfl, rfl⟩
  exact ⟨rfl, _, rfl, ⟨heap_alloc_new _ _, h.keys, h.ok, h.lt, h.born⟩⟩
theorem keyLight_ : Try.prog.keyTypeAt 2 43 = true := by kernel_rfl
theorem cellsLight_ : Try.prog.cellsOf 43 = 2 := by kernel_rfl
theorem cellsU8_ : Try.prog.cellsOf 5 = 1 := by kernel_rfl
theorem lits_light (a b : Int) (ha : 0 ≤ a ∧ a ≤ 255) (hb : 0 ≤ b ∧ b ≤ 255) : Try.prog.keyLits 5 43 [.int .u8 a, .int .u8 b] = some [.int .u8 a, .int .u8 b] := by
  have w1 : (Lit.int .u8 a).wf = true := WalkArith.wf_u8 (by omega)
  have w2 : (Lit.int .u8 b).wf = true := WalkArith.wf_u8 (by omega)
  simp [Program.keyLits, Try.underlying43, Try.underlying5, cellsLight_, cellsU8_, w1, w2]
theorem equal_light (a b c d : Int) (ha : 0 ≤ a ∧ a ≤ 255) (hb : 0 ≤ b ∧ b ≤ 255) (hc : 0 ≤ c ∧ c ≤ 255) (hd : 0 ≤ d ∧ d ≤ 255) (w : World) :
    (Op.equalIn 10000 43 (.agg #[.int .u8 a, .int .u8 b]) (.agg #[.int .u8 c, .int .u8 d])).run Try.prog w = .ok (decide ((c, d) = (a, b))) w := by
  have hf : ∀ x y : Int, (Value.agg #[.int .u8 x, .int .u8 y]).formed Try.prog 43 = true := fun x y => by simp [Value.formed, Try.underlying43, cellsLight_]
  obtain ⟨r, hr, hiff⟩ := run_equalIn_deep (10000 - 2) 2 _ keyLight_ w 5 5 _ _ _ _ (hf a b) (hf c d) (lits_light a b ha hb) (lits_light c d hc hd)
  rw [show (10000 : Nat) = 10000 - 2 + 2 from rfl, hr]
  congr 1
  have h2 : r = true ↔ (c, d) = (a, b) := by
    rw [hiff]
    simp only [List.cons.injEq, Lit.int.injEq, Prod.mk.injEq, and_true, true_and]
    exact ⟨fun h => ⟨h.1.symm, h.2.symm⟩, fun h => ⟨h.1.symm, h.2.symm⟩⟩
  cases r <;> simp_all
theorem neq_light (a b c d : Int) (ha : 0 ≤ a ∧ a ≤ 255) (hb : 0 ≤ b ∧ b ≤ 255) (hc : 0 ≤ c ∧ c ≤ 255) (hd : 0 ≤ d ∧ d ≤ 255) (w : World) :
    (binOp .neq 43 (.agg #[.int .u8 a, .int .u8 b]) (.agg #[.int .u8 c, .int .u8 d])).run Try.prog w = .ok (.bool (decide ((c, d) ≠ (a, b)))) w := by
  simp only [binOp]
  rw [show Op.equal 43 (Value.agg #[.int .u8 a, .int .u8 b]) (.agg #[.int .u8 c, .int .u8 d]) = Op.equalIn 10000 43 (.agg #[.int .u8 a, .int .u8 b]) (.agg #[.int .u8 c, .int .u8 d]) from rfl]
  simp [equal_light a b c d ha hb hc hd w, Result.andThen]
end Go.Proofs.Ytlhjjmfbifhgfaa
/- The end of a change: what is another light is told: the walk. (Printed by gentail.py.) -/
namespace Go.Proofs.Ytlhjjmfbifhgfaa
set_option linter.unusedSimpArgs false
set_option linter.unusedVariables false
open Go.RowKit
set_option maxRecDepth 1000000

/-- A part of a body: right behind a sequence's first, left its first. -/
def gnav : Code → List Bool → Code
  | .seq _ y, true :: p => gnav y p
  | .seq x _, false :: p => gnav x p
  | c, _ => c
theorem nil_lit (a : Addr) (w : World) : (nilAhead 253 29 (.pointer (some a)) "Lit").run Try.prog w = .ok (some false) w := by kernel_rfl
def chg (f : Fw) (FS FL : Pl → Nat) (q : Pl) : Bool := decide (lightAt f q ≠ ((FS q : Int), (FL q : Int)))
theorem iter_own_ne {W : World} {r gm base e s n c : Nat} {M : LMap} {S : List Pl} {v : Value} {xs : List Value} (h : W.ownsRow base e s v n xs) (hi : IterAt W r gm M c S) : v.ownBlock ≠ some r := by
  obtain ⟨seen, h3, _⟩ := hi.iter
  intro hk
  rcases h.2 with ⟨h1, _⟩ | ⟨g, cap, cur, h1, _, hg, _⟩
  · rw [h1] at hk; simp [Value.ownBlock] at hk
  · rw [h1] at hk
    have e1 : g = r := by simpa [Value.ownBlock] using hk
    rw [e1, h3] at hg
    cases hg
theorem iter_blk_ne {W : World} {r gm p t c : Nat} {M : LMap} {S : List Pl} {cs : Array Value} (h : Blk W p t cs) (hi : IterAt W r gm M c S) : p ≠ r := by
  obtain ⟨seen, h3, _⟩ := hi.iter
  rintro rfl
  unfold Blk at h
  rw [h3] at h
  cases h
/-- What the first loop holds: the keys that have come, those of another light, the places asked. -/
structure OutAt (W0 W : World) (base g b3 b10 b11 gm r : Nat) (f : Fw) (cv lv av tv : Value) (FS FL : Pl → Nat) (M : LMap) (c : Nat) (A0 : List Pl) (av' v : Value) (S : List Pl) : Prop where
  sets : Sets W0 W base g b3 b10 b11 gm f cv lv av tv M c (A0 ++ S) av'
  it : IterAt W r gm M c S
  row : PRow W W0.heap.size v (S.filter (chg f FS FL))
  apart : ∀ k, v.ownBlock = some k → av'.ownBlock ≠ some k
  r : W0.heap.size ≤ r
section
variable {W0 W W' : World} {base g b3 b10 b11 gm r : Nat} {f : Fw} {cv lv av tv av' av'' v v' : Value} {FS FL : Pl → Nat} {M M'' : LMap} {c c'' : Nat} {A0 l S : List Pl} {q : Pl}
theorem OutAt.under (h : OutAt W0 W base g b3 b10 b11 gm r f cv lv av tv FS FL M c A0 av' v S) (hb : Below W.heap.size W W') : OutAt W0 W' base g b3 b10 b11 gm r f cv lv av tv FS FL M c A0 av' v S :=
  ⟨h.sets.under hb, h.it.keep (hb.block gm h.it.map.inb) (hb.block r h.it.inb), own_below h.row hb, h.apart, h.r⟩
end
section
variable {W0 W W' : World} {base g b3 b10 b11 gm r : Nat} {f : Fw} {cv lv av tv av' av'' v v' : Value} {FS FL : Pl → Nat} {M M'' : LMap} {c c'' : Nat} {A0 l S S1 L : List Pl} {q : Pl}
theorem out_asks (hs : Sets W0 W base g b3 b10 b11 gm f cv lv av tv M c (A0 ++ S) av') (hit : IterAt W r gm M c S1) (hr : PRow W W0.heap.size v L) (hap : ∀ k, v.ownBlock = some k → av'.ownBlock ≠ some k) (k : Asks W W' base g { f with asked := f.asked ++ (A0 ++ S) } cv lv av' tv [q] av'') :
    Sets W0 W' base g b3 b10 b11 gm f cv lv av tv M c (A0 ++ (S ++ [q])) av'' ∧ IterAt W' r gm M c S1 ∧ PRow W' W0.heap.size v L ∧ (∀ k, v.ownBlock = some k → av''.ownBlock ≠ some k) := by
  refine ⟨by rw [← List.append_assoc]; exact hs.asks k, ?_, Asks.row hs.fs.fld k hr hap, apart_new hap (fun i hi => (hr.lt i hi).2) k.new⟩
  have hn : ∀ j, (∃ o, W.heap[j]? = some o ∧ ∀ cs t fr, o ≠ .cells cs t fr) → ¬ QF g av'.ownBlock j := by
    rintro j ⟨o, h1, h2⟩ (e | e)
    · have := hs.fs.fld.blk
      unfold Blk at this
      rw [← e, h1] at this
      exact h2 _ _ _ (Option.some.inj this)
    · rcases hs.fs.fld.asked.2 with ⟨h3, _⟩ | ⟨g', cap, cur, h3, _, hg, _⟩
      · rw [h3] at e; simp [Value.ownBlock] at e
      · rw [h3] at e
        have e1 : j = g' := by simpa [Value.ownBlock] using e
        rw [← e1, h1] at hg
        exact h2 _ _ _ (Option.some.inj hg)
  obtain ⟨seen, h3, _⟩ := hit.iter
  exact hit.keep (k.only.block gm hit.map.inb (hn gm ⟨_, hit.map.block, fun _ _ _ h => by cases h⟩)) (k.only.block r hit.inb (hn r ⟨_, h3, fun _ _ _ h => by cases h⟩))
end
/-- What the last loop holds: j places told. -/
structure TellAt (W0 W : World) (base g b3 gm gt : Nat) (f : Fw) (cv lv av tv : Value) (FS FL : Pl → Nat) (M : LMap) (c : Nat) (A0 S : List Pl) (av' v tv' : Value) (T : List Pl) (L' : List (Int × Int)) (j : Nat) : Prop where
  fld : FieldAt W base g { f with asked := f.asked ++ (A0 ++ S), told := f.told ++ T.take j, lights := L' } cv lv av' tv'
  var : Blk W b3 64 #[.iface 29 (.pointer (some ⟨g, 0, none⟩))]
  map : MapIs plV PlOk W gt (M.map entL) c
  row : PRow W W0.heap.size v T
  tap : ∀ k, v.ownBlock = some k → tv'.ownBlock ≠ some k
  len : L'.length = f.lights.length
  lin : ∀ q, f.b.inside q → L'.getD (f.b.idx q) (0, 0) = if q ∈ T.take j then ((FS q : Int), (FL q : Int)) else f.lights.getD (f.b.idx q) (0, 0)
  lok : ∀ c ∈ L', (0 ≤ c.1 ∧ c.1 ≤ 15) ∧ (0 ≤ c.2 ∧ c.2 ≤ 15)
  only : Only W0 W (fun k => (QF g av.ownBlock k ∨ k = gm) ∨ some k = tv.ownBlock ∨ some k = lv.ownBlock)
  tnew : tv'.ownBlock = tv.ownBlock ∨ ∃ k, tv'.ownBlock = some k ∧ W0.heap.size ≤ k
section
variable {W0 W W' : World} {base g b3 gm gt : Nat} {f : Fw} {cv lv av tv av' tv' tv'' v : Value} {FS FL : Pl → Nat} {M : LMap} {c j : Nat} {A0 S T : List Pl} {L' : List (Int × Int)} {q : Pl}
theorem TellAt.under (h : TellAt W0 W base g b3 gm gt f cv lv av tv FS FL M c A0 S av' v tv' T L' j) (hb : Below W.heap.size W W') : TellAt W0 W' base g b3 gm gt f cv lv av tv FS FL M c A0 S av' v tv' T L' j :=
  ⟨h.fld.under hb, h.var.below hb h.var.lt, h.map.below hb h.map.inb, own_below h.row hb, h.tap, h.len, h.lin, h.lok, h.only.trans (Only.of_below (S := fun _ => False) hb) (fun _ h => h.elim), h.tnew⟩
theorem TellAt.lit (ok : f.Ok) (h : TellAt W0 W base g b3 gm gt f cv lv av tv FS FL M c A0 S av' v tv' T L' j) (hq : f.b.inside q) (hT : T.take (j + 1) = T.take j ++ [q]) (h15 : FS q ≤ 15 ∧ FL q ≤ 15)
    (k : LitAt W W' base g { f with asked := f.asked ++ (A0 ++ S), told := f.told ++ T.take j, lights := L' } cv lv av' tv' q ((FS q : Int), (FL q : Int)) tv'') : TellAt W0 W' base g b3 gm gt f cv lv av tv FS FL M c A0 S av' v tv'' T (L'.set (f.b.idx q) ((FS q : Int), (FL q : Int))) (j + 1) := by
  have hsz := h.only.size
  have hix : f.b.idx q < L'.length := by rw [h.len, ok.lights]; exact f.b.idx_lt hq
  refine ⟨?_, h.var.only k.only ?_, h.map.keep (k.only.block gt h.map.inb ?_), own_only h.row k.only ?_, ?_, by rw [List.length_set]; exact h.len, fun r hr => ?_, fun x hx => ?_, h.only.trans k.only ?_, ?_⟩
  · have h1 := k.fld
    rw [hT, show f.told ++ (T.take j ++ [q]) = f.told ++ T.take j ++ [q] from (List.append_assoc _ _ _).symm]
    exact h1
  · rintro (e | e | e)
    · exact Blk.ne_ h.var h.fld.blk (by decide) e
    · exact own_blk_ne h.fld.told h.var (by decide) e.symm
    · exact own_blk_ne h.fld.lights h.var (by decide) e.symm
  · rintro (e | e | e)
    · exact map_blk_ne h.fld.blk h.map e.symm
    · exact map_own_ne h.fld.told h.map e.symm
    · exact map_own_ne h.fld.lights h.map e.symm
  · rintro i hi (e | e | e)
    · exact own_blk_ne h.row h.fld.blk (by decide) (e ▸ hi)
    · exact h.tap i hi e.symm
    · exact own_own_ne h.row h.fld.lights (by decide) hi e.symm
  · intro i hi e
    rcases k.new with h1 | ⟨m, h1, h2⟩
    · exact h.tap i hi (h1.symm.trans e)
    · have h3 := (h.row.lt i hi).2
      have : m = i := Option.some.inj (h1.symm.trans e)
      omega
  · rw [List.getD_eq_getElem?_getD, List.getElem?_set, hT]
    by_cases e : r = q
    · subst e
      rw [if_pos rfl, if_pos hix, if_pos (by simp)]
      rfl
    · have hne : ¬ f.b.idx q = f.b.idx r := fun h2 => idx_ne hq hr e h2.symm
      rw [if_neg hne, ← List.getD_eq_getElem?_getD, h.lin r hr]
      have : r ∈ T.take j ++ [q] ↔ r ∈ T.take j := by simp [e]
      simp only [this]
  · rcases List.mem_or_eq_of_mem_set hx with h1 | h1
    · exact h.lok x h1
    · rw [h1]
      simp only
      omega
  · rintro i (e | e | e)
    · exact .inl (.inl (.inl (.inl e)))
    · rcases h.tnew with h1 | ⟨m, h1, h2⟩
      · exact .inl (.inr (.inl (e.trans h1)))
      · have : i = m := Option.some.inj (e.trans h1)
        exact .inr (by omega)
    · exact .inl (.inr (.inr e))
  · rcases k.new with h1 | ⟨m, h1, h2⟩
    · rcases h.tnew with h3 | ⟨i, h3, h4⟩
      · exact .inl (h1.trans h3)
      · exact .inr ⟨i, h1.trans h3, h4⟩
    · exact .inr ⟨m, h1, by omega⟩
end
set_option maxHeartbeats 16000000 in
theorem change_tail (W0 wr : World) (base g b3 b10 b11 gm : Nat) (f : Fw) (cv lv av tv : Value) (M00 : LMap) (c00 : Nat) (h0 : FS W0 base g b3 b10 b11 gm f cv lv av tv M00 c00) (ok : f.Ok) (M : LMap) (c : Nat) (A0 : List Pl) (av0 : Value) (hs : Sets W0 wr base g b3 b10 b11 gm f cv lv av tv M c A0 av0)
    (FS FL : Pl → Nat) (hn : ∀ q, nowAt f M q = ((FS q : Int), (FL q : Int))) (hk : ∀ q ∈ keysL M, f.b.inside q) (h15 : ∀ q, FS q ≤ 15 ∧ FL q ≤ 15) (hl : f.asked.length + A0.length ≤ 900000000) (htl : f.told.length ≤ 900000000)
    (u0 u1 u2 u4 u5 u6 u7 u8 u9 u11 u12 u13 u14 u15 u16 u17 u18 u19 u20 u21 u22 u23 u24 u25 u26 u27 u28 u29 u30 u31 u32 u33 u34 u35 u36 u37 u38 u39 u40 u41 u42 u43 u44 u45 u46 u47 u48 u49 u50 u51 u52 u53 u54 u55 u56 u57 u58 u59 u60 u61 u62 u63 u64 u65 u66 u67 u68 u69 u70 u71 u72 u73 u74 u75 u76 u77 u78 u79 u80 u81 u82 u83 u84 u85 u86 u87 u88 u89 u90 u91 u92 u93 u94 u95 u96 u97 u98 u99 u100 u101 u102 u103 u104 u105 u106 u107 u108 u109 u110 u111 u112 u113 u114 u115 u116 u117 u118 u119 u120 u121 u122 u123 u124 u125 u126 u127 u128 u129 u130 u131 u132 u133 u134 u135 u136 u137 u138 u139 u140 u141 u142 u143 u144 u145 u146 u147 u148 u149 u150 u151 : Value) (R : Ending → World → Prop)
    (hR : ∀ w' T A1 L' av'' tv'', FieldAt w' base g { f with asked := f.asked ++ (A0 ++ A1), told := f.told ++ T, lights := L' } cv lv av'' tv'' → Asc T → (∀ q, q ∈ T ↔ f.b.inside q ∧ chg f FS FL q = true) → (∀ q, f.b.inside q → L'.getD (f.b.idx q) (0, 0) = ((FS q : Int), (FL q : Int))) → L'.length = f.lights.length → (∀ x ∈ A1, x ∈ keysL M) → A1.length ≤ 1024 →
      Only W0 w' (fun k => (QF g av.ownBlock k ∨ k = gm) ∨ some k = tv.ownBlock ∨ some k = lv.ownBlock) → R (.returned (.int .i64 (T.length : Nat))) w') :
    Code.wp Try.prog (gnav (Try.f11.body.getD .skip) [true, true, true, true, true, true, true, true, true, true]) (bodyPost Try.prog Try.f11 R) { tmps := #[u0, u1, u2, .pointer (some ⟨b3, 0, none⟩), u4, u5, u6, u7, u8, u9, .pointer (some ⟨b10, 0, none⟩), u11, u12, u13, u14, u15, u16, u17, u18, u19, u20, u21, u22, u23, u24, u25, u26, u27, u28, u29, u30, u31, u32, u33, u34, u35, u36, u37, u38, u39, u40, u41, u42, u43, u44, u45, u46, u47, u48, u49, u50, u51, u52, u53, u54, u55, u56, u57, u58, u59, u60, u61, u62, u63, u64, u65, u66, u67, u68, u69, u70, u71, u72, u73, u74, u75, u76, u77, u78, u79, u80, u81, u82, u83, u84, u85, u86, u87, u88, u89, u90, u91, u92, u93, u94, u95, u96, u97, u98, u99, u100, u101, u102, u103, u104, u105, u106, u107, u108, u109, u110, u111, u112, u113, u114, u115, u116, u117, u118, u119, u120, u121, u122, u123, u124, u125, u126, u127, u128, u129, u130, u131, u132, u133, u134, u135, u136, u137, u138, u139, u140, u141, u142, u143, u144, u145, u146, u147, u148, u149, u150, u151], defers := [] } wr := by
  have H0 := Lib.hid h0
  have HOK := Lib.hid ok
  have HS := Lib.hid hs
  have HN := Lib.hid hn
  have HK := Lib.hid hk
  have HR := Lib.hid hR
  have HL := Lib.hid hl
  have HTL := Lib.hid htl
  have H15 := Lib.hid h15
  have hlv : wr.cell? ⟨b10, 0, none⟩ = some (.map (some gm)) := hs.fs.lvar.cell 0
  have hst := IterAt.start hs.fs.map 67 _ _ Try.underlying67
  have hrun := hst.1
  have HIT := Lib.hid hst.2
  clear h0 ok hs hn hk hR hl htl h15 hst
  refine (show Code.wp Try.prog (Code.seq (Code.region 27 _ false) _) _ _ _ from ?_)
  go_wp2
  have HOUT0 := Lib.hid (show OutAt W0 (wr.alloc (.mapIter (some gm) c #[] c)) base g b3 b10 b11 gm wr.heap.size f cv lv av tv FS FL M c A0 av0 (.slice none 0 0) [] from
    ⟨by rw [List.append_nil]; exact HS.out.under ((Below.refl _ _).alloc (Nat.le_refl _) _), HIT.out, World.ownsRow_nil _ _ _ _, fun k hk => by simp [Value.ownBlock] at hk, HS.out.only.size⟩)
  obtain ⟨ri, hri⟩ : ∃ ri, ri = wr.heap.size := ⟨_, rfl⟩
  rw [← hri] at HOUT0 ⊢
  clear hri
  have hme := m_light ⟨g, 0, none⟩
  go_loopw [20] (fun v wr' => ∃ (S : List Pl) (av' : Value), OutAt W0 wr' base g b3 b10 b11 gm ri f cv lv av tv FS FL M c A0 av' v S) (fun _ wr' => 1100 - (wr'.iterSeen ri).size)
  case atStart => exact ⟨[], av0, HOUT0.out⟩
  case round =>
    obtain ⟨S, av', ho⟩ := hrel
    have HO := Lib.hid ho
    have HSZ := Lib.hid ho.it.size
    have HSB := Lib.hid (nodup_box HOK.out.box ho.it.nodup (fun q hq => HK.out q (ho.it.sub q hq)))
    clear ho
    rcases HO.out.it.next 0 with ⟨hall, hnx⟩ | ⟨q, x, W2, hlo, hqS, hnx, hen, hg2, hs2, hit2⟩
    · have HALL := Lib.hid hall
      clear hall
      have hrow := HO.out.row
      have hfl : (S.filter (chg f FS FL)).length ≤ 1024 := Nat.le_trans (List.length_filter_le _ _) HSB.out
      obtain ⟨_, ao, cap, rfl, hcap, _⟩ := own_rat (d := ((0, 0, 0) : Pl)) plE_len hrow
      obtain ⟨nT, hnT⟩ : ∃ nT, nT = (S.filter (chg f FS FL)).length := ⟨_, rfl⟩
      have HNT := Lib.hid hnT
      rw [← hnT] at hrow hfl hcap HO ⊢
      have HSO := Lib.hid (sort_any hrow HO.out.sets.only.size (by omega) (HO.out.it.nodup.filter _))
      clear hrow hnT
      go_wp2_with fail
      go_at_call 38
      refine HSO.out.mono ?_
      rintro e w3 ⟨rfl, hg3, T, hasc, hmem, hr3⟩
      have HS3 := Lib.hid (HO.out.sets.grown H0.out hg3 (fun k hk => ⟨(HO.out.row.lt k hk).1, HO.out.apart k hk⟩))
      have HR3 := Lib.hid hr3
      have HASC := Lib.hid hasc
      have HMEM := Lib.hid hmem
      have HNT3 := Lib.hid (show nT = T.length by
        have h1 := hr3.1
        obtain ⟨_, _, _, h2, _⟩ := own_rat (d := ((0, 0, 0) : Pl)) plE_len hr3
        injection h2)
      have v10 : w3.cell? ⟨b10, 0, none⟩ = some (.map (some gm)) := HS3.out.fs.lvar.cell 0
      have HMC := Lib.hid (mclone_any HS3.out.fs.map)
      clear hg3 hasc hmem hr3
      go_wp2_with fail
      go_at_call 40
      refine HMC.out.mono ?_
      rintro e w4 ⟨rfl, o, hw4, hm4⟩
      have hal : Below w3.heap.size w3 w4 := by rw [hw4]; exact (Below.refl _ _).alloc (Nat.le_refl _) _
      have hs4 := HS3.out.under hal
      obtain ⟨gt, hgt⟩ : ∃ gt, gt = w3.heap.size := ⟨_, rfl⟩
      rw [← hgt] at hm4 ⊢
      have HT0 := Lib.hid (show TellAt W0 w4 base g b3 gm gt f cv lv av tv FS FL M c A0 S av' (.slice ao nT cap) tv T f.lights 0 from
        ⟨by rw [List.take_zero, List.append_nil]; exact hs4.fs.fld, hs4.fs.var, hm4, own_below HR3.out hal, fun k hk e => by
          have h1 := (HO.out.row.lt k hk).1
          have h2 := (H0.out.fld.told.lt k e).2
          omega, rfl, fun q hq => by simp, HOK.out.lin, hs4.only.mono fun _ h => .inl h, .inl rfl⟩)
      have hml := m_lit ⟨g, 0, none⟩
      have hnl := nil_lit ⟨g, 0, none⟩
      clear hal hs4 hm4 hw4 hgt v10
      go_wp2
      go_loopw [136] (fun i wr => ∃ (j : Nat) (L' : List (Int × Int)) (tv' : Value), j ≤ nT ∧ i = .int .i64 j ∧ TellAt W0 wr base g b3 gm gt f cv lv av tv FS FL M c A0 S av' (.slice ao nT cap) tv' T L' j) (fun i _ => nT - (intOf i).toNat)
      case atStart => exact ⟨0, f.lights, tv, Nat.zero_le _, rfl, HT0.out⟩
      case round =>
        clear HT0
        obtain ⟨j, L', tv', hj, rfl, ht⟩ := hrel
        have HT := Lib.hid ht
        clear ht
        by_cases hjt : j < nT
        · have hjI : (j : Int) < (nT : Int) := by omega
          have hjT : j < T.length := by have := HNT3.out; omega
          have hc0 : 0 < cap := by omega
          have hrow := HT.out.row
          have hrow2 := hrow
          rw [HNT3.out] at hrow2
          obtain ⟨gl, rfl, -, -⟩ := own_form hrow2 hc0
          have hat := own_at plE_len ((0, 0, 0) : Pl) hrow2 hjT
          obtain ⟨q, hq⟩ : ∃ q, q = T.getD j (0, 0, 0) := ⟨_, rfl⟩
          rw [← hq] at hat
          have HTK := Lib.hid (show T.take (j + 1) = T.take j ++ [q] by rw [takeN hjT (0, 0, 0), hq])
          have HQS := Lib.hid (show q ∈ S from (List.mem_filter.1 ((HMEM.out q).1 (hq ▸ getD_mem hjT _))).1)
          have HQK := Lib.hid (HO.out.it.sub q HQS.out)
          have HQI := Lib.hid (HK.out q HQK.out)
          have hlo : lightOf M q = some ((FS q : Int), (FL q : Int)) := by
            have h1 := HN.out q
            unfold nowAt at h1
            cases h2 : lightOf M q with
            | none => exact absurd HQK.out (lightOf_none.1 h2)
            | some x => rw [h2] at h1; exact congrArg some h1
          obtain ⟨W3, hW3⟩ : ∃ W3, W3 = wr.alloc (.cells (plC q) 23) := ⟨_, rfl⟩
          have hB3 : Below wr.heap.size wr W3 := by rw [hW3]; exact (Below.refl _ _).alloc (Nat.le_refl _) _
          have HT3 := Lib.hid ((HT.out.under hB3).under (Below.refl W3.heap.size W3).drew)
          have hP3 : Blk W3 wr.heap.size 23 (plC q) := by rw [hW3]; exact Blk.new _ _ _
          have hlk := HT3.out.map.lookup keyed_ Try.underlying67 key_pl plV_inj (PlOk.of_may (Bx.inside_may HOK.out.box HQI.out)) false (zero_light W3.drew)
          rw [getM_light, hlo] at hlk
          have hfo : Fw.Ok { f with asked := f.asked ++ (A0 ++ S), told := f.told ++ T.take j, lights := L' } := ⟨HOK.out.box, HOK.out.cells, HT.out.len.trans HOK.out.lights, HOK.out.cin, HT.out.lok⟩
          have HWL := Lib.hid (wlit_any W3.drew base g { f with asked := f.asked ++ (A0 ++ S), told := f.told ++ T.take j, lights := L' } cv lv av' tv' HT3.out.fld hfo q ((FS q : Int), (FL q : Int)) HQI.out (by have := HTL.out; simp only [List.length_append, List.length_take] at *; omega))
          have h15q := H15.out q
          have v3 : W3.cell? ⟨b3, 0, none⟩ = some (.iface 29 (.pointer (some ⟨g, 0, none⟩))) := HT3.out.var.cell 0
          have HP3 := Lib.hid hP3
          have HFT := Lib.hid (show tv'.ownBlock ≠ some wr.heap.size from fun e => by have := (HT.out.fld.told.lt _ e).2; omega)
          have HW3 := Lib.hid hW3
          have HH := Lib.hid h15q
          obtain ⟨ys, hys⟩ : ∃ ys, ys = (FS q : Int) := ⟨_, rfl⟩
          obtain ⟨yl, hyl⟩ : ∃ yl, yl = (FL q : Int) := ⟨_, rfl⟩
          have HYS := Lib.hid hys
          have HYL := Lib.hid hyl
          rw [← hys, ← hyl] at hlk HWL
          clear hW3 hB3 hP3 hq hlo hrow hrow2 hfo h15q hys hyl
          obtain ⟨qx, qy, qz⟩ := q
          have e0 : wr.cell? ⟨gl, j * 3, none⟩ = some (.int .i64 qx) := hat 0 (by decide)
          have e1 : wr.cell? ⟨gl, j * 3 + 1, none⟩ = some (.int .i64 qy) := hat 1 (by decide)
          have e2 : wr.cell? ⟨gl, j * 3 + 2, none⟩ = some (.int .i64 qz) := hat 2 (by decide)
          unfold plV plC clV at HWL
          unfold plV plC at hlk
          unfold plC at HW3 HP3
          simp only [Option.map_some, clV] at hlk
          simp only at HWL HW3 HP3
          clear hat
          obtain ⟨a0, a1, a2⟩ := three_of HP3.out
          go_wp2
          rw [← HW3.out]
          go_region_held (fun w' => w'.cell? ⟨wr.heap.size, 0, none⟩ = some (.int .i64 qx) ∧ w'.cell? ⟨wr.heap.size, 1, none⟩ = some (.int .i64 qy) ∧ w'.cell? ⟨wr.heap.size, 2, none⟩ = some (.int .i64 qz) ∧ w'.cell? ⟨b3, 0, none⟩ = some (.iface 29 (.pointer (some ⟨g, 0, none⟩))))
            (first | exact ⟨a0, a1, a2, v3⟩ | assumption | go_keep)
            (first | (go_at_call 101; refine HWL.out.mono ?_; rintro e w4 ⟨rfl, tv4, hl4⟩; rw [HYS.out, HYL.out] at hl4; have HT4 := Lib.hid (HT3.out.lit HOK.out HQI.out HTK.out HH.out hl4); have hp4 := HP3.out.drew.only hl4.only (fun hq => hq.elim (fun e => Blk.ne_ HP3.out HT3.out.fld.blk (by decide) e) (fun hq => hq.elim (fun e => HFT.out e.symm) (fun e => own_blk_ne HT3.out.fld.lights HP3.out.drew (by decide) e.symm))); have S4 := And.intro (show w4.cell? ⟨wr.heap.size, 0, none⟩ = some (.int .i64 qx) from hp4.cell 0) (And.intro (show w4.cell? ⟨wr.heap.size, 1, none⟩ = some (.int .i64 qy) from hp4.cell 1) (And.intro (show w4.cell? ⟨wr.heap.size, 2, none⟩ = some (.int .i64 qz) from hp4.cell 2) (HT4.out.var.cell 0))); clear hl4 hp4))
          all_goals
            clear S4 e0 e1 e2 a0 a1 a2 v3 hlk
            go_wp2
            go_roundw
            case rel => exact ⟨j + 1, _, tv4, by omega, by go_num, HT4.out⟩
            case measure => simp [intOf]; omega
        · have HJE := Lib.hid (show j = T.length by have := HNT3.out; omega)
          have ht := HT.out
          rw [HJE.out] at ht
          have HT9 := Lib.hid ht
          clear ht
          go_wp2
          show R (.returned (.int .i64 (nT : Nat))) wr
          have hTT : T.take T.length = T := List.take_of_length_le (Nat.le_refl _)
          have hmm : ∀ q, q ∈ T ↔ f.b.inside q ∧ chg f FS FL q = true := fun q => by
            rw [HMEM.out, List.mem_filter]
            refine and_congr_left fun hc => ⟨fun h => HK.out q (HO.out.it.sub q h), fun h => HALL.out q ?_⟩
            rw [mem_keysL]
            intro hnone
            have h1 := HN.out q
            unfold nowAt at h1
            rw [hnone] at h1
            exact (of_decide_eq_true hc) h1
          have h1 := HT9.out.fld
          rw [hTT] at h1
          rw [HNT3.out]
          refine HR.out _ T S L' av' tv' h1 HASC.out hmm (fun q hq => ?_) HT9.out.len (fun x hx => HO.out.it.sub x hx) HSB.out HT9.out.only
          rw [HT9.out.lin q hq, hTT]
          by_cases h2 : q ∈ T
          · rw [if_pos h2]
          · rw [if_neg h2]
            have h3 : chg f FS FL q = false := by
              cases h4 : chg f FS FL q with
              | false => rfl
              | true => exact absurd ((hmm q).2 ⟨hq, h4⟩) h2
            have h5 := of_decide_eq_false h3
            simp only [ne_eq, Decidable.not_not] at h5
            unfold lightAt at h5
            rw [if_pos hq] at h5
            exact h5
    · have HLO := Lib.hid hlo
      have HQS := Lib.hid hqS
      have HIT2 := Lib.hid hit2
      have HG2 := Lib.hid hg2
      have hvar := (HO.out.sets.fs.var.grown hg2 (fun e => iter_blk_ne HO.out.sets.fs.var HO.out.it (Option.some.inj e)))
      have HS2 := Lib.hid (HO.out.sets.grown H0.out hg2 (fun k hk => by cases hk; exact ⟨HO.out.r, iter_own_ne HO.out.sets.fs.fld.asked HO.out.it⟩))
      have HR2 := Lib.hid (HO.out.row.kept hg2 (.inr (iter_own_ne HO.out.row HO.out.it)))
      clear hlo hqS hg2 hit2
      obtain ⟨qx, qy, qz⟩ := q
      obtain ⟨x1, x2⟩ := x
      unfold plV clV plC at hnx hen
      simp only at hnx hen
      obtain ⟨W3, hW3⟩ : ∃ W3, W3 = (W2.alloc (.cells #[.int .i64 qx, .int .i64 qy, .int .i64 qz] 23)).alloc (.cells #[.int .u8 x1, .int .u8 x2] 43) := ⟨_, rfl⟩
      have hB3 : Below W2.heap.size W2 W3 := by rw [hW3]; exact ((Below.refl _ _).alloc (Nat.le_refl _) _).alloc (by simp) _
      have HB3 := Lib.hid hB3
      have HP3 := Lib.hid (show Blk W3 wr.heap.size 23 #[.int .i64 qx, .int .i64 qy, .int .i64 qz] by rw [hW3, ← hs2]; exact (Blk.new _ _ _).alloc _)
      have HLT3 := Lib.hid (show Blk W3 (wr.heap.size + 1) 43 #[.int .u8 x1, .int .u8 x2] by
        have := Blk.new (W2.alloc (.cells #[.int .i64 qx, .int .i64 qy, .int .i64 qz] 23)) 43 #[.int .u8 x1, .int .u8 x2]
        rw [show (W2.alloc (.cells #[.int .i64 qx, .int .i64 qy, .int .i64 qz] 23)).heap.size = wr.heap.size + 1 by simp [hs2]] at this
        rw [hW3]; exact this)
      have HW3 := Lib.hid hW3
      have HOUT3 := Lib.hid (HS2.out.under (HB3.out.mono (Nat.le_refl _)))
      have HROW3 := Lib.hid (own_below HR2.out hB3)
      have HIT3 := Lib.hid (HIT2.out.keep (hB3.block gm HIT2.out.map.inb) (hB3.block ri HIT2.out.inb))
      have hsl := HSB.out
      have HWL := Lib.hid (wlight_any W3.drew base g { f with asked := f.asked ++ (A0 ++ S) } cv lv av' tv (HOUT3.out.fs.fld.under (Below.refl W3.heap.size W3).drew) (HOK.out.asks _) (qx, qy, qz) (Bx.inside_may HOK.out.box (HK.out _ (HIT2.out.sub _ (by simp)))) (by have := HL.out; simp only [List.length_append] at *; omega))
      rw [show lightAt { f with asked := f.asked ++ (A0 ++ S) } (qx, qy, qz) = lightAt f (qx, qy, qz) from rfl] at HWL
      have HXN := Lib.hid (show (x1, x2) = ((FS (qx, qy, qz) : Int), (FL (qx, qy, qz) : Int)) by
        have := HN.out (qx, qy, qz)
        unfold nowAt at this
        rw [HLO.out] at this
        exact this)
      have HCH := Lib.hid (show chg f FS FL (qx, qy, qz) = decide (lightAt f (qx, qy, qz) ≠ (x1, x2)) by rw [HXN.out]; rfl)
      have hfar : ∀ k, W2.heap.size ≤ k → ¬ QF g av'.ownBlock k := fun k hk hq => by
        rcases hq with e | e
        · have := HS2.out.fs.fld.blk.lt; omega
        · have := (HS2.out.fs.fld.asked.lt k e.symm).2; omega
      have HF0 := Lib.hid (hfar _ (Nat.le_of_eq hs2))
      have HF1 := Lib.hid (hfar _ (Nat.le_of_lt (by omega : W2.heap.size < wr.heap.size + 1)))
      have v3 : W3.cell? ⟨b3, 0, none⟩ = some (.iface 29 (.pointer (some ⟨g, 0, none⟩))) := (hvar.below hB3 hvar.lt).cell 0
      obtain ⟨⟨y1, y2⟩, hy⟩ : ∃ y, y = lightAt f (qx, qy, qz) := ⟨_, rfl⟩
      have hyi := lightAt_in HOK.out (qx, qy, qz)
      rw [← hy] at HWL HCH hyi
      have hx15 := H15.out (qx, qy, qz)
      have hxe := HXN.out
      simp only [Prod.mk.injEq] at hxe
      obtain ⟨cb, hcb⟩ : ∃ cb, cb = chg f FS FL (qx, qy, qz) := ⟨_, rfl⟩
      have hne : ∀ w, (binOp .neq 43 (.agg #[.int .u8 x1, .int .u8 x2]) (.agg #[.int .u8 y1, .int .u8 y2])).run Try.prog w = .ok (.bool cb) w := fun w => by
        have := neq_light x1 x2 y1 y2 (by omega) (by omega) (by have := hyi.1; simp only at this; omega) (by have := hyi.2; simp only at this; omega) w
        rw [this, hcb, HCH.out]
      have HCB := Lib.hid hcb
      unfold plV plC clV at HWL
      simp only at HWL
      obtain ⟨a0, a1, a2⟩ := three_of HP3.out
      obtain ⟨d0, d1⟩ := two_cells HLT3.out
      clear hW3 hB3 hfar hvar hy hcb hyi hx15 hxe
      go_wp2
      rw [← HW3.out]
      go_region_held (fun w' => w'.cell? ⟨wr.heap.size, 0, none⟩ = some (.int .i64 qx) ∧ w'.cell? ⟨wr.heap.size, 1, none⟩ = some (.int .i64 qy) ∧ w'.cell? ⟨wr.heap.size, 2, none⟩ = some (.int .i64 qz) ∧ w'.cell? ⟨wr.heap.size + 1, 0, none⟩ = some (.int .u8 x1) ∧ w'.cell? ⟨wr.heap.size + 1, 1, none⟩ = some (.int .u8 x2) ∧ w'.cell? ⟨b3, 0, none⟩ = some (.iface 29 (.pointer (some ⟨g, 0, none⟩))))
        (first | exact ⟨a0, a1, a2, d0, d1, v3⟩ | assumption | go_keep)
        (first | (go_at_call 100; refine HWL.out.mono ?_; rintro e w4 ⟨rfl, av4, ha4⟩; have hs4 := HOUT3.out.under (Below.refl W3.heap.size W3).drew; have HS4 := Lib.hid (hs4.asks ha4); have HA4 := Lib.hid ha4; have hp4 := HP3.out.drew.only ha4.only HF0.out; have hl4 := HLT3.out.drew.only ha4.only HF1.out; have HP4 := Lib.hid hp4; have S4 := And.intro (show w4.cell? ⟨wr.heap.size, 0, none⟩ = some (.int .i64 qx) from hp4.cell 0) (And.intro (show w4.cell? ⟨wr.heap.size, 1, none⟩ = some (.int .i64 qy) from hp4.cell 1) (And.intro (show w4.cell? ⟨wr.heap.size, 2, none⟩ = some (.int .i64 qz) from hp4.cell 2) (And.intro (show w4.cell? ⟨wr.heap.size + 1, 0, none⟩ = some (.int .u8 x1) from hl4.cell 0) (And.intro (show w4.cell? ⟨wr.heap.size + 1, 1, none⟩ = some (.int .u8 x2) from hl4.cell 1) (HS4.out.fs.var.cell 0))))); clear hs4 hp4 hl4 ha4))
      obtain ⟨hs5, hit5, hr5, hap5⟩ := out_asks (HOUT3.out.under (Below.refl W3.heap.size W3).drew) (HIT3.out.keep rfl rfl) (own_below HROW3.out (Below.refl W3.heap.size W3).drew) HO.out.apart HA4.out
      have HS5 := Lib.hid hs5
      have HIT5 := Lib.hid hit5
      have HR5 := Lib.hid hr5
      have HAP5 := Lib.hid hap5
      have HMS := Lib.hid (show 1100 - (S ++ [(qx, qy, qz)]).length < 1100 - S.length by rw [List.length_append, List.length_singleton]; omega)
      clear hs5 hit5 hr5 hap5 S4 hnx hen a0 a1 a2 d0 d1 v3
      cases cb with
      | false =>
        have HFI := Lib.hid (show (S ++ [(qx, qy, qz)]).filter (chg f FS FL) = S.filter (chg f FS FL) by rw [List.filter_append, List.filter_cons_of_neg (by rw [← HCB.out]; exact Bool.false_ne_true)]; simp)
        go_wp2
        go_roundw
        case rel => exact ⟨S ++ [(qx, qy, qz)], av4, HS5.out, HIT5.out, by rw [HFI.out]; exact HR5.out, HAP5.out, HO.out.r⟩
        case measure => rw [HIT5.out.size, HSZ.out]; exact HMS.out
      | true =>
        have HFI := Lib.hid (show (S ++ [(qx, qy, qz)]).filter (chg f FS FL) = S.filter (chg f FS FL) ++ [(qx, qy, qz)] by rw [List.filter_append, List.filter_cons_of_pos (by rw [← HCB.out])]; simp)
        obtain ⟨p0, p1, p2⟩ := three_of HP4.out
        have HLEN := Lib.hid (show (S.filter (chg f FS FL)).length ≤ 1099511627775 by have := List.length_filter_le (chg f FS FL) S; omega)
        have HSZ6 := Lib.hid (show W0.heap.size ≤ w4.heap.size from HS5.out.only.size)
        go_wp2_with (at_builtin; refine row_law plE_len plE_one (by decide) Try.underlying46 infoPl rfl (by decide) HR5.out rfl _ _ rfl rfl ((qx, qy, qz) : Pl) rfl rfl rfl HLEN.out HSZ6.out ?_)
        intro v' w7 k1 k2 k3
        have hal : Below w4.heap.size w4 (w4.alloc (.cells #[.int .i64 qx, .int .i64 qy, .int .i64 qz] 23)) := (Below.refl _ _).alloc (Nat.le_refl _) _
        have hit6 := HIT5.out.keep (hal.block gm HIT5.out.map.inb) (hal.block ri HIT5.out.inb)
        have hr6 := own_below HR5.out hal
        have HIT7 := Lib.hid (hit6.keep (k2.block gm hit6.map.inb (fun e => map_own_ne hr6 hit6.map e.symm)) (k2.block ri hit6.inb (fun e => iter_own_ne hr6 hit6 e.symm)))
        have HS7 := Lib.hid ((HS5.out.under hal).grown H0.out k2 (fun k hk => ⟨(hr6.lt k hk).1, HAP5.out k hk⟩))
        have HAP7 := Lib.hid (show ∀ k, v'.ownBlock = some k → av4.ownBlock ≠ some k from fun k hk e => by
          rcases k3 with h1 | h1
          · exact HAP5.out k (h1.symm.trans hk) e
          · have h2 : w4.heap.size + 1 = k := Option.some.inj (h1.symm.trans hk)
            have h3 := (HS5.out.fs.fld.asked.lt k e).2
            omega)
        have HR7 := Lib.hid (own_rc plE_len (by decide) k1 rfl)
        clear k1 k2 k3 hal hit6 hr6 p0 p1 p2
        go_wp2
        go_roundw
        case rel => exact ⟨S ++ [(qx, qy, qz)], av4, HS7.out, HIT7.out, by rw [HFI.out]; exact HR7.out, HAP7.out, HO.out.r⟩
        case measure => rw [HIT7.out.size, HSZ.out]; exact HMS.out
end Go.Proofs.Ytlhjjmfbifhgfaa
/- The skies' waves of a change: the walk. (Printed by gentail.py.) -/
namespace Go.Proofs.Ytlhjjmfbifhgfaa
set_option linter.unusedSimpArgs false
set_option linter.unusedVariables false
open Go.RowKit
set_option maxRecDepth 1000000

def gcond : Code → Code
  | .cond _ x _ => x
  | c => c
/-- Near a changed place, or a place that the sky lights before or behind the change and not both times. -/
def NearC (f : Fw) (p : Pl) (old : Int × Int) (x : Pl) : Prop := farP p x ≤ 15 ∨ ∃ s, f.b.inside s ∧ ¬ (litP f.b (clrF f) s ↔ litP f.b (clrF (f.old p old)) s) ∧ farP s x ≤ 15
/-- What a change's end needs to be told. -/
def EndOk (W0 : World) (base g gm : Nat) (f : Fw) (cv lv av tv : Value) (FS FL : Pl → Nat) (p : Pl) (old : Int × Int) (A0 : List Pl) (R : Ending → World → Prop) : Prop :=
  ∀ w' T A1 L' av'' tv'', FieldAt w' base g { f with asked := f.asked ++ (A0 ++ A1), told := f.told ++ T, lights := L' } cv lv av'' tv'' → Asc T → (∀ q, q ∈ T ↔ f.b.inside q ∧ chg f FS FL q = true) → (∀ q, f.b.inside q → L'.getD (f.b.idx q) (0, 0) = ((FS q : Int), (FL q : Int))) → L'.length = f.lights.length → (∀ x ∈ A1, NearC f p old x) → A1.length ≤ 2000000 →
      Only W0 w' (fun k => (QF g av.ownBlock k ∨ k = gm) ∨ some k = tv.ownBlock ∨ some k = lv.ownBlock) → R (.returned (.int .i64 (T.length : Nat))) w'
theorem side_far {s r x : Pl} {n : Nat} (h : farP s r ≤ n) (hx : x = r ∨ x ∈ sidesP r) : farP s x ≤ n + 1 := by
  rcases hx with rfl | hx
  · omega
  · have := farP_side s r x hx
    omega
theorem wave_start {g b4 : Nat} : True := trivial
section
variable (W0 W : World) (base g b3 b10 b11 gm b13 b14 gs : Nat) (f : Fw) (cv lv av tv : Value) (M00 : LMap) (c00 : Nat) (h0 : FS W0 base g b3 b10 b11 gm f cv lv av tv M00 c00) (ok : f.Ok) (p : Pl) (old : Int × Int) (FL FS FL0 FS0 : Pl → Nat) (h1R : RightOf f FL FS)
include h0 ok h1R
set_option maxHeartbeats 16000000 in
theorem skies_is (M : LMap) (c : Nat) (A0 A1 : List Pl) (av1 : Value) (hs : Sets W0 W base g b3 b10 b11 gm f cv lv av tv M c (A0 ++ A1) av1) (hM : ∀ q, nowAt f M q = ((FS0 q : Int), (FL q : Int))) (hk : ∀ q ∈ keysL M, f.b.inside q ∧ NearC f p old q)
    (Ls : List (Ent Pl)) (cs : Nat) (he : ∀ x ∈ Ls, ∃ k : Int, x.2.1 = .int .i64 k ∧ 1 ≤ k ∧ k ≤ 1000) (hsky : SkyX b13 gs Ls cs W) (hgs : gs ≠ gm)
    (hb14 : Blk W b14 73 (wvC g (.func (.func 33) #[] #[.pointer (some ⟨b13, 0, none⟩)]) (.func (.func 34) #[] #[.pointer (some ⟨b11, 0, none⟩)]) (.func (.func 35) #[] #[.pointer (some ⟨b11, 0, none⟩), .pointer (some ⟨b10, 0, none⟩)])))
    (bv : Nat) (v0 : Value) (l0 : List Pl) (hr : PRow W bv v0 l0) (hin : ∀ q ∈ l0, f.b.inside q) (hlen : l0.length ≤ 1024) (hown : ∀ q ∈ l0, clrAt f q = true → (if q ∈ keysOf Ls then 15 else 0) = skyOwn f.b (clrF f) q)
    (hwp : WaveP (fun q => clrAt f q = true) (skyOwn f.b (clrF f)) FS FS0 l0 l0) (hnear : ∀ s ∈ l0, ∀ x, farP s x ≤ 15 → NearC f p old x) (hA1 : ∀ x ∈ A1, NearC f p old x) (hA1l : A1.length ≤ 100000) (hl : f.asked.length + A0.length ≤ 850000000) (htl : f.told.length ≤ 850000000)
    (u0 u1 u2 u4 u5 u6 u7 u8 u11 u12 u13 u16 u17 u18 u19 u20 u21 u22 u23 u24 u25 u26 u27 u28 u29 u30 u31 u32 u33 u34 u35 u36 u37 u38 u39 u40 u41 u42 u43 u44 u45 u46 u47 u48 u49 u50 u51 u52 u53 u54 u55 u56 u57 u58 u59 u60 u61 u62 u63 u64 u65 u66 u67 u68 u69 u70 u71 u72 u73 u74 u75 u76 u77 u78 u79 u80 u81 u82 u83 u84 u85 u86 u87 u88 u89 u90 u91 u92 u93 u94 u95 u96 u97 u98 u99 u100 u101 u102 u103 u104 u105 u106 u107 u108 u109 u110 u111 u112 u113 u114 u115 u116 u117 u118 u119 u120 u121 u122 u123 u124 u125 u126 u127 u128 u129 u130 u131 u132 u133 u134 u135 u136 u137 u138 u139 u140 u141 u142 u143 u144 u145 u146 u147 u148 u149 u150 u151 : Value) (R : Ending → World → Prop) (hR : EndOk W0 base g gm f cv lv av tv FS FL p old A0 R) (K : Act → World → Prop)
    (hK : ∀ a W, Code.wp Try.prog (gnav (Try.f11.body.getD .skip) [true, true, true, true, true, true, true, true, true, true]) (bodyPost Try.prog Try.f11 R) a W → K a W) :
    Code.wp Try.prog (gnav (gcond (gnav (Try.f11.body.getD .skip) [true, true, true, true, true, true, true, true, true, false, true])) [true, true, true, true, true]) (Exit.then K (bodyPost Try.prog Try.f11 R)) { tmps := #[u0, u1, u2, .pointer (some ⟨b3, 0, none⟩), u4, u5, u6, u7, u8, .bool true, .pointer (some ⟨b10, 0, none⟩), u11, u12, u13, .pointer (some ⟨b14, 0, none⟩), v0, u16, u17, u18, u19, u20, u21, u22, u23, u24, u25, u26, u27, u28, u29, u30, u31, u32, u33, u34, u35, u36, u37, u38, u39, u40, u41, u42, u43, u44, u45, u46, u47, u48, u49, u50, u51, u52, u53, u54, u55, u56, u57, u58, u59, u60, u61, u62, u63, u64, u65, u66, u67, u68, u69, u70, u71, u72, u73, u74, u75, u76, u77, u78, u79, u80, u81, u82, u83, u84, u85, u86, u87, u88, u89, u90, u91, u92, u93, u94, u95, u96, u97, u98, u99, u100, u101, u102, u103, u104, u105, u106, u107, u108, u109, u110, u111, u112, u113, u114, u115, u116, u117, u118, u119, u120, u121, u122, u123, u124, u125, u126, u127, u128, u129, u130, u131, u132, u133, u134, u135, u136, u137, u138, u139, u140, u141, u142, u143, u144, u145, u146, u147, u148, u149, u150, u151], defers := [] } W := by
  have HK := Lib.hid hK
  have hge : ∀ q, 0 ≤ (nowAt f M q).1 := fun q => by rw [hM]; exact Int.natCast_nonneg _
  have h00 : ∀ q, ((nowAt f M q).1).toNat = FS0 q := fun q => by rw [hM]; exact Int.toNat_natCast _
  have HB := Lib.hid (bright_any W W base g b3 b10 b11 gm { f with asked := f.asked ++ (A0 ++ A1) } cv lv av1 tv M c hs.fs (ok.asks _) 33 34 35 b13 (fun x => x.1) (fun x n => (n, x.2)) _ _ (skiesOk base g b3 b10 b11 gm b13 gs { f with asked := f.asked ++ (A0 ++ A1) } cv lv tv (ok.asks _) Ls cs he) half_sky M c [] av1 v0 l0 (Sets.start hs.fs) bv hr
    (fun W' M' c' A av' h => SkyX.keep hs.fs hsky hgs h) hin hlen hge (fun q => (skyOwn f.b (clrF f) q : Int)) (fun q hq hc => by have := hown q hq hc; rw [← this]; split <;> rfl) (fun q => Int.natCast_nonneg _) FS
    (by simp only [Int.toNat_natCast]; exact h1R.sky) (fun q => by rw [show ((nowAt { f with asked := f.asked ++ (A0 ++ A1) } M q).1).toNat = FS0 q from h00 q]; exact hwp.up q)
    (fun q hc hn => by rw [show ((nowAt { f with asked := f.asked ++ (A0 ++ A1) } M q).1).toNat = FS0 q from h00 q, Int.toNat_natCast]; exact hwp.own q hc hn)
    (fun a b hb hc hn => by rw [show ((nowAt { f with asked := f.asked ++ (A0 ++ A1) } M a).1).toNat = FS0 a from h00 a, show ((nowAt { f with asked := f.asked ++ (A0 ++ A1) } M b).1).toNat = FS0 b from h00 b]; exact hwp.edge a b hb hc hn) (by simp only [List.length_append, List.length_nil]; omega))
  have HH := Lib.hid (And.intro h0 (And.intro ok (And.intro hs (And.intro hM (And.intro hk (And.intro hwp (And.intro hnear (And.intro hA1 (And.intro hR h1R)))))))))
  have HL := Lib.hid (And.intro hl (And.intro htl hA1l))
  have H00 := Lib.hid h00
  obtain ⟨d0, d1, d2, d3⟩ := wave_cells hb14
  clear hK h0 ok hs hM hk he hsky hgs hb14 hr hin hlen hown hwp hnear hA1 hA1l hl htl hR h1R hge h00
  unfold wvC at HB
  refine (show Code.wp Try.prog (Code.seq (Code.region 24 _ false) _) _ _ _ from ?_)
  go_wp2_with fail
  go_at_call 31
  refine HB.out.mono ?_
  rintro e w' ⟨M', c', A, av', rfl, hs', hn', hk', hAl, hA⟩
  obtain ⟨h0, ok, hs, hM, hk, hwp, hnear, hA1, hR, h1R⟩ := HH.out
  have hs2 := hs.more hs'
  have hkn : ∀ r, r ∈ l0 ∨ FS0 r < FS r → ∃ s ∈ l0, farP s r ≤ 14 := hwp.near
  have hrn : ∀ r, (r ∈ l0 ∨ ((nowAt f M r).1).toNat < FS r) → ∀ x, (x = r ∨ x ∈ sidesP r) → NearC f p old x := fun r hr x hx => by
    rw [H00.out] at hr
    obtain ⟨s, hs, h2⟩ := hkn r hr
    exact hnear s hs x (side_far h2 hx)
  have hkk : ∀ q ∈ keysL M', f.b.inside q ∧ NearC f p old q := fun q hq => by
    rcases hk' q hq with h | ⟨h1, h2⟩
    · exact hk q h
    · exact ⟨h1, hrn q h2 q (.inl rfl)⟩
  have hAA : ∀ x ∈ A, NearC f p old x := fun x hx => let ⟨r, hr, h⟩ := hA x hx; hrn r hr x h
  have HT := Lib.hid (change_tail W0 w' base g b3 b10 b11 gm f cv lv av tv M00 c00 h0 ok M' c' _ av' hs2 FS FL (fun q => by
      have := hn' q
      rw [show nowAt { f with asked := f.asked ++ (A0 ++ A1) } M q = nowAt f M q from rfl, hM] at this
      exact this) (fun q hq => (hkk q hq).1) (fun q => ⟨h1R.sky.le q, h1R.lamp.le q⟩) (by have := HL.out; simp only [List.length_append, List.length_nil] at *; omega) (by have := HL.out; omega))
  have HE := Lib.hid (show ∀ w' T A2 L' av'' tv'', FieldAt w' base g { f with asked := f.asked ++ ((A0 ++ A1 ++ ([] ++ A)) ++ A2), told := f.told ++ T, lights := L' } cv lv av'' tv'' → Asc T → (∀ q, q ∈ T ↔ f.b.inside q ∧ chg f FS FL q = true) → (∀ q, f.b.inside q → L'.getD (f.b.idx q) (0, 0) = ((FS q : Int), (FL q : Int))) → L'.length = f.lights.length → (∀ x ∈ A2, x ∈ keysL M') → A2.length ≤ 1024 →
      Only W0 w' (fun k => (QF g av.ownBlock k ∨ k = gm) ∨ some k = tv.ownBlock ∨ some k = lv.ownBlock) → R (.returned (.int .i64 (T.length : Nat))) w' from fun w' T A2 L' av'' tv'' q1 q2 q3 q4 q5 q6 q7 q8 => hR w' T (A1 ++ A ++ A2) L' av'' tv'' (by
        have e : A0 ++ A1 ++ ([] ++ A) ++ A2 = A0 ++ (A1 ++ A ++ A2) := by simp [List.append_assoc]
        rw [e] at q1
        exact q1) q2 q3 q4 q5 (fun x hx => by
        rcases List.mem_append.1 hx with hx | hx
        · rcases List.mem_append.1 hx with hx | hx
          · exact hA1 x hx
          · exact hAA x hx
        · exact (hkk x (q6 x hx)).2) (by have := HL.out; simp only [List.length_append]; omega) q8)
  clear h0 ok hs hM hk hwp hnear hA1 hR h1R hs' hs2 hn' hk' hA hkn hrn hkk hAA d0 d1 d2 d3
  go_wp2
  refine HK.out _ _ ?_
  exact HT.out _ _ _ _ _ _ _ _ _ _ _ _ _ _ _ _ _ _ _ _ _ _ _ _ _ _ _ _ _ _ _ _ _ _ _ _ _ _ _ _ _ _ _ _ _ _ _ _ _ _ _ _ _ _ _ _ _ _ _ _ _ _ _ _ _ _ _ _ _ _ _ _ _ _ _ _ _ _ _ _ _ _ _ _ _ _ _ _ _ _ _ _ _ _ _ _ _ _ _ _ _ _ _ _ _ _ _ _ _ _ _ _ _ _ _ _ _ _ _ _ _ _ _ _ _ _ _ _ _ _ _ _ _ _ _ _ _ _ _ _ _ _ _ _ _ _ _ _ _ _ R HE.out
/-- The bright wave behind the dark one. -/
theorem bright_after (Ws w2 : World) (M : LMap) (c : Nat) (A0 A1 : List Pl) (av0 : Value) (hs : Sets W0 Ws base g b3 b10 b11 gm f cv lv av tv M c A0 av0) (hM : ∀ q, nowAt f M q = ((FS0 q : Int), (FL q : Int))) (hk : ∀ q ∈ keysL M, f.b.inside q ∧ NearC f p old q)
    (cs : Nat) (hsky : SkyX b13 gs [] cs Ws) (hgs : gs ≠ gm) (l0 : List Pl)
    (hdn : ∀ D, Dark sidesP FS0 farP l0 D D.length 0 → ∀ q ∈ D, ¬ litP f.b (clrF f) q)
    (hwp : ∀ D, Dark sidesP FS0 farP l0 D D.length 0 → WaveP (fun q => clrAt f q = true) (skyOwn f.b (clrF f)) FS (less FS0 D) l0 D) (hnear : ∀ s ∈ l0, ∀ x, farP s x ≤ 15 → NearC f p old x) (hA1l : A1.length ≤ 100000) (hl : f.asked.length + A0.length ≤ 850000000)
    (v2 : Value) (D : List Pl) (M2 : LMap) (c2 : Nat) (A2 : List Pl) (av2 : Value) (hs2 : Sets Ws w2 base g b3 b10 b11 gm { f with asked := f.asked ++ A0 } cv lv av0 tv M2 c2 (A1 ++ A2) av2) (hr2 : PRow w2 Ws.heap.size v2 D) (hD : Dark sidesP FS0 farP l0 D D.length 0) (hDin : ∀ q ∈ D, f.b.inside q)
    (hn2 : ∀ q, nowAt f M2 q = if q ∈ D then (0, (nowAt f M q).2) else nowAt f M q) (hk2 : ∀ q, q ∈ keysL M2 ↔ q ∈ keysL M ∨ q ∈ D) (hA2l : A2.length ≤ 20000) (hb2 : Blk w2 b14 73 (wvC g (.func (.func 33) #[] #[.pointer (some ⟨b13, 0, none⟩)]) (.func (.func 34) #[] #[.pointer (some ⟨b11, 0, none⟩)]) (.func (.func 35) #[] #[.pointer (some ⟨b11, 0, none⟩), .pointer (some ⟨b10, 0, none⟩)]))) :
    Calls Try.prog 31 #[.agg (wvC g (.func (.func 33) #[] #[.pointer (some ⟨b13, 0, none⟩)]) (.func (.func 34) #[] #[.pointer (some ⟨b11, 0, none⟩)]) (.func (.func 35) #[] #[.pointer (some ⟨b11, 0, none⟩), .pointer (some ⟨b10, 0, none⟩)])), v2] w2 fun e w' =>
      e = .returned (.tuple #[]) ∧ Blk w' b14 73 (wvC g (.func (.func 33) #[] #[.pointer (some ⟨b13, 0, none⟩)]) (.func (.func 34) #[] #[.pointer (some ⟨b11, 0, none⟩)]) (.func (.func 35) #[] #[.pointer (some ⟨b11, 0, none⟩), .pointer (some ⟨b10, 0, none⟩)])) ∧ ∃ M' c' A av', Sets W0 w' base g b3 b10 b11 gm f cv lv av tv M' c' ((A0 ++ (A1 ++ A2)) ++ ([] ++ A)) av' ∧ (∀ q, nowAt f M' q = ((FS q : Int), (FL q : Int))) ∧ (∀ q ∈ keysL M', f.b.inside q ∧ NearC f p old q) ∧ A.length ≤ 400000 ∧ ∀ x ∈ A, NearC f p old x := by
  have _ := h0
  have hs02 := hs.more hs2
  have hwD := hwp D hD
  have hl2 : ∀ q, ((nowAt f M2 q).1).toNat = less FS0 D q := fun q => by
    rw [hn2]
    unfold less
    split
    · rfl
    · rw [hM]; exact Int.toNat_natCast _
  have hge : ∀ q, 0 ≤ (nowAt f M2 q).1 := fun q => by
    rw [hn2]
    split
    · exact Int.le_refl _
    · rw [hM]; exact Int.natCast_nonneg _
  have hFL2 : ∀ q, (nowAt f M2 q).2 = (FL q : Int) := fun q => by
    rw [hn2]
    split <;> rw [hM]
  have hkn : ∀ r, r ∈ D ∨ less FS0 D r < FS r → ∃ s ∈ l0, farP s r ≤ 14 := hwD.near
  have hrn : ∀ r, (r ∈ D ∨ ((nowAt f M2 r).1).toNat < FS r) → ∀ x, (x = r ∨ x ∈ sidesP r) → NearC f p old x := fun r hr x hx => by
    rw [hl2] at hr
    obtain ⟨s, hs, h2⟩ := hkn r hr
    exact hnear s hs x (side_far h2 hx)
  refine (bright_any w2 w2 base g b3 b10 b11 gm { f with asked := f.asked ++ (A0 ++ (A1 ++ A2)) } cv lv av2 tv M2 c2 hs02.fs (ok.asks _) 33 34 35 b13 (fun x => x.1) (fun x n => (n, x.2)) _ _ (skiesOk base g b3 b10 b11 gm b13 gs { f with asked := f.asked ++ (A0 ++ (A1 ++ A2)) } cv lv tv (ok.asks _) [] cs (fun x hx => absurd hx List.not_mem_nil)) half_sky M2 c2 [] av2 v2 D (Sets.start hs02.fs) Ws.heap.size hr2
    (fun W' M' c' A av' h => SkyX.keep hs02.fs (SkyX.keep hs.fs hsky hgs hs2) hgs h) hDin (nodup_box ok.box hD.nodup hDin) hge (fun q => (skyOwn f.b (clrF f) q : Int)) (fun q hq hc => by
      rw [skyOwn_not (hdn D hD q hq)]
      rfl) (fun q => Int.natCast_nonneg _) FS
    (by simp only [Int.toNat_natCast]; exact h1R.sky) (fun q => by rw [show ((nowAt { f with asked := f.asked ++ (A0 ++ (A1 ++ A2)) } M2 q).1).toNat = less FS0 D q from hl2 q]; exact hwD.up q)
    (fun q hc hn => by rw [show ((nowAt { f with asked := f.asked ++ (A0 ++ (A1 ++ A2)) } M2 q).1).toNat = less FS0 D q from hl2 q, Int.toNat_natCast]; exact hwD.own q hc hn)
    (fun a b hb hc hn => by rw [show ((nowAt { f with asked := f.asked ++ (A0 ++ (A1 ++ A2)) } M2 a).1).toNat = less FS0 D a from hl2 a, show ((nowAt { f with asked := f.asked ++ (A0 ++ (A1 ++ A2)) } M2 b).1).toNat = less FS0 D b from hl2 b]; exact hwD.edge a b hb hc hn) (by simp only [List.length_append, List.length_nil]; omega)).mono ?_
  rintro e w' ⟨M', c', A, av', rfl, hs', hn', hk', hAl, hA⟩
  refine ⟨rfl, Sets.blk hs02.fs hs' hb2 (by decide) (wave_apart hs02.fs.fld hb2), M', c', A, av', hs02.more hs', fun q => ?_, fun q hq => ?_, hAl, fun x hx => ?_⟩
  · have := hn' q
    rw [show (nowAt { f with asked := f.asked ++ (A0 ++ (A1 ++ A2)) } M2 q).2 = (FL q : Int) from hFL2 q] at this
    exact this
  · rcases hk' q hq with h | ⟨h1, h2⟩
    · rcases (hk2 q).1 h with h | h
      · exact hk q h
      · exact ⟨hDin q h, hrn q (.inl h) q (.inl rfl)⟩
    · exact ⟨h1, hrn q h2 q (.inl rfl)⟩
  · obtain ⟨r, hr, h⟩ := hA x hx
    exact hrn r hr x h
set_option maxHeartbeats 16000000 in
theorem skies_no (Ws : World) (M : LMap) (c : Nat) (A0 A1 : List Pl) (av0 av1 : Value) (hs : Sets W0 Ws base g b3 b10 b11 gm f cv lv av tv M c A0 av0) (hs1 : Sets Ws W base g b3 b10 b11 gm { f with asked := f.asked ++ A0 } cv lv av0 tv M c A1 av1) (hM : ∀ q, nowAt f M q = ((FS0 q : Int), (FL q : Int))) (hk : ∀ q ∈ keysL M, f.b.inside q ∧ NearC f p old q)
    (cs : Nat) (hsky : SkyX b13 gs [] cs Ws) (hgs : gs ≠ gm)
    (hb14 : Blk Ws b14 73 (wvC g (.func (.func 33) #[] #[.pointer (some ⟨b13, 0, none⟩)]) (.func (.func 34) #[] #[.pointer (some ⟨b11, 0, none⟩)]) (.func (.func 35) #[] #[.pointer (some ⟨b11, 0, none⟩), .pointer (some ⟨b10, 0, none⟩)])))
    (v0 : Value) (l0 : List Pl) (hr : PRow W Ws.heap.size v0 l0) (hap : ∀ k, v0.ownBlock = some k → av1.ownBlock ≠ some k) (hnd : l0.Nodup) (hin : ∀ q ∈ l0, f.b.inside q)
    (hdn : ∀ D, Dark sidesP FS0 farP l0 D D.length 0 → ∀ q ∈ D, ¬ litP f.b (clrF f) q)
    (hwp : ∀ D, Dark sidesP FS0 farP l0 D D.length 0 → WaveP (fun q => clrAt f q = true) (skyOwn f.b (clrF f)) FS (less FS0 D) l0 D) (hnear : ∀ s ∈ l0, ∀ x, farP s x ≤ 15 → NearC f p old x) (hA1 : ∀ x ∈ A1, NearC f p old x) (hA1l : A1.length ≤ 100000) (hl : f.asked.length + A0.length ≤ 850000000) (htl : f.told.length ≤ 850000000)
    (h0in : ∀ q, ¬ f.b.inside q → FS0 q = 0)
    (u0 u1 u2 u4 u5 u6 u7 u8 u11 u12 u13 u16 u17 u18 u19 u20 u21 u22 u23 u24 u25 u26 u27 u28 u29 u30 u31 u32 u33 u34 u35 u36 u37 u38 u39 u40 u41 u42 u43 u44 u45 u46 u47 u48 u49 u50 u51 u52 u53 u54 u55 u56 u57 u58 u59 u60 u61 u62 u63 u64 u65 u66 u67 u68 u69 u70 u71 u72 u73 u74 u75 u76 u77 u78 u79 u80 u81 u82 u83 u84 u85 u86 u87 u88 u89 u90 u91 u92 u93 u94 u95 u96 u97 u98 u99 u100 u101 u102 u103 u104 u105 u106 u107 u108 u109 u110 u111 u112 u113 u114 u115 u116 u117 u118 u119 u120 u121 u122 u123 u124 u125 u126 u127 u128 u129 u130 u131 u132 u133 u134 u135 u136 u137 u138 u139 u140 u141 u142 u143 u144 u145 u146 u147 u148 u149 u150 u151 : Value) (R : Ending → World → Prop) (hR : EndOk W0 base g gm f cv lv av tv FS FL p old A0 R) (K : Act → World → Prop)
    (hK : ∀ a W, Code.wp Try.prog (gnav (Try.f11.body.getD .skip) [true, true, true, true, true, true, true, true, true, true]) (bodyPost Try.prog Try.f11 R) a W → K a W) :
    Code.wp Try.prog (gnav (gcond (gnav (Try.f11.body.getD .skip) [true, true, true, true, true, true, true, true, true, false, true])) [true, true, true, true, true]) (Exit.then K (bodyPost Try.prog Try.f11 R)) { tmps := #[u0, u1, u2, .pointer (some ⟨b3, 0, none⟩), u4, u5, u6, u7, u8, .bool false, .pointer (some ⟨b10, 0, none⟩), u11, u12, u13, .pointer (some ⟨b14, 0, none⟩), v0, u16, u17, u18, u19, u20, u21, u22, u23, u24, u25, u26, u27, u28, u29, u30, u31, u32, u33, u34, u35, u36, u37, u38, u39, u40, u41, u42, u43, u44, u45, u46, u47, u48, u49, u50, u51, u52, u53, u54, u55, u56, u57, u58, u59, u60, u61, u62, u63, u64, u65, u66, u67, u68, u69, u70, u71, u72, u73, u74, u75, u76, u77, u78, u79, u80, u81, u82, u83, u84, u85, u86, u87, u88, u89, u90, u91, u92, u93, u94, u95, u96, u97, u98, u99, u100, u101, u102, u103, u104, u105, u106, u107, u108, u109, u110, u111, u112, u113, u114, u115, u116, u117, u118, u119, u120, u121, u122, u123, u124, u125, u126, u127, u128, u129, u130, u131, u132, u133, u134, u135, u136, u137, u138, u139, u140, u141, u142, u143, u144, u145, u146, u147, u148, u149, u150, u151], defers := [] } W := by
  have HK := Lib.hid hK
  have hge : ∀ q, 0 ≤ (nowAt f M q).1 := fun q => by rw [hM]; exact Int.natCast_nonneg _
  have h00 : ∀ q, ((nowAt f M q).1).toNat = FS0 q := fun q => by rw [hM]; exact Int.toNat_natCast _
  have h00f : (fun q => ((nowAt { f with asked := f.asked ++ A0 } M q).1).toNat) = FS0 := funext h00
  have hfs := hs.fs
  have HDK := Lib.hid (fun hl' : ({ f with asked := f.asked ++ A0 } : Fw).asked.length + A1.length ≤ 900000000 => dark_any Ws W.drew base g b3 b10 b11 gm { f with asked := f.asked ++ A0 } cv lv av0 tv M c hfs (ok.asks _) 33 34 35 b13 (fun x => x.1) (fun x n => (n, x.2)) _ _ (skiesOk base g b3 b10 b11 gm b13 gs { f with asked := f.asked ++ A0 } cv lv tv (ok.asks _) [] cs (fun x hx => absurd hx List.not_mem_nil)) half_sky M c A1 av1 v0 l0 (hs1.under (Below.refl W.heap.size W).drew) (own_below hr (Below.refl W.heap.size W).drew) hap hnd hin (fun q => hge q) (fun q hq => by
    show (nowAt f M q).1 = 0
    rw [hM, h0in q hq]
    rfl) hl')
  have HHL := Lib.hid (show ({ f with asked := f.asked ++ A0 } : Fw).asked.length + A1.length ≤ 900000000 by simp only [List.length_append]; omega)
  have HDK2 := Lib.hid (HDK.out HHL.out)
  rw [h00f] at HDK2
  have HBA := Lib.hid (bright_after W0 base g b3 b10 b11 gm b13 b14 gs f cv lv av tv M00 c00 h0 ok p old FL FS FS0 h1R Ws)
  have HBB := Lib.hid (fun w2 => HBA.out w2 M c A0 A1 av0 hs hM hk cs hsky hgs l0 hdn hwp hnear hA1l hl)
  have HBK := Lib.hid (fun w' M' av' (h : Sets Ws w' base g b3 b10 b11 gm { f with asked := f.asked ++ A0 } cv lv av0 tv M' c (A1 ++ A0) av') => True.intro)
  have HB14 := Lib.hid (fun w' M' c' l av' (h : Sets Ws w' base g b3 b10 b11 gm { f with asked := f.asked ++ A0 } cv lv av0 tv M' c' l av') => Sets.blk hs.fs h hb14 (by decide) (wave_apart hs.fs.fld hb14))
  have hb14w := HB14.out _ _ _ _ _ hs1
  have HA0 := Lib.hid (And.intro hA1 (And.intro hwp hnear))
  have HR := Lib.hid hR
  have HL := Lib.hid (And.intro hl (And.intro htl hA1l))
  have HT0 := Lib.hid (change_tail W0)
  have HTT := Lib.hid (fun w' M' c' AA av' (hs2 : Sets W0 w' base g b3 b10 b11 gm f cv lv av tv M' c' AA av') (hn : ∀ q, nowAt f M' q = ((FS q : Int), (FL q : Int))) (hkk : ∀ q ∈ keysL M', f.b.inside q) (hA : f.asked.length + AA.length ≤ 900000000) => HT0.out w' base g b3 b10 b11 gm f cv lv av tv M00 c00 h0 ok M' c' AA av' hs2 FS FL hn hkk (fun q => ⟨h1R.sky.le q, h1R.lamp.le q⟩) hA (by omega))
  obtain ⟨d0, d1, d2, d3⟩ := wave_cells hb14w
  clear hK h0 ok hs hM hk hsky hgs hb14 hb14w hr hin hap hnd hwp hdn hnear hA1 hA1l hl htl hR h1R hge h00 h00f hs1 hfs HDK h0in HBA HT0 HBK
  unfold wvC at HDK2 HBB
  refine (show Code.wp Try.prog (Code.seq (Code.region 24 _ false) _) _ _ _ from ?_)
  go_wp2
  go_region_held (fun w' => w'.cell? ⟨b14, 0, none⟩ = some (.iface 29 (.pointer (some ⟨g, 0, none⟩))) ∧ w'.cell? ⟨b14, 1, none⟩ = some (.func (.func 33) #[] #[.pointer (some ⟨b13, 0, none⟩)]) ∧ w'.cell? ⟨b14, 2, none⟩ = some (.func (.func 34) #[] #[.pointer (some ⟨b11, 0, none⟩)]) ∧ w'.cell? ⟨b14, 3, none⟩ = some (.func (.func 35) #[] #[.pointer (some ⟨b11, 0, none⟩), .pointer (some ⟨b10, 0, none⟩)]))
    (first | exact ⟨d0, d1, d2, d3⟩ | assumption | go_keep)
    (first | (go_at_call 32; refine HDK2.out.mono ?_; rintro e w2 ⟨v2, D, M2, c2, A2, av2, rfl, hs2, hr2, hap2, hD, hDin, hn2, hk2, hA2l, hA2⟩; have HBR := Lib.hid (HBB.out w2 v2 D M2 c2 A2 av2 hs2 hr2 hD hDin hn2 hk2 hA2l (HB14.out _ _ _ _ _ hs2)); have HDD := Lib.hid hD; have HA2L := Lib.hid hA2l; have HA2 := Lib.hid hA2; have S4 := wave_cells (HB14.out _ _ _ _ _ hs2); clear hs2 hr2 hap2 hD hDin hn2 hk2 hA2l hA2) | (go_at_call 31; refine HBR.out.mono ?_; rintro e w3 ⟨rfl, hb3, M', c', A, av', hs3, hn3, hk3, hAl3, hA3⟩; have HS3 := Lib.hid hs3; have HN3 := Lib.hid hn3; have HK3 := Lib.hid hk3; have HAL3 := Lib.hid hAl3; have HA3 := Lib.hid hA3; have S5 := wave_cells hb3; clear hs3 hn3 hk3 hAl3 hA3 hb3))
  refine HK.out _ _ ?_
  refine HTT.out w3 M' c' _ av' HS3.out HN3.out (fun q hq => (HK3.out q hq).1) (by have := HL.out; have := HA2L.out; have := HAL3.out; simp only [List.length_append, List.length_nil] at *; omega) _ _ _ _ _ _ _ _ _ _ _ _ _ _ _ _ _ _ _ _ _ _ _ _ _ _ _ _ _ _ _ _ _ _ _ _ _ _ _ _ _ _ _ _ _ _ _ _ _ _ _ _ _ _ _ _ _ _ _ _ _ _ _ _ _ _ _ _ _ _ _ _ _ _ _ _ _ _ _ _ _ _ _ _ _ _ _ _ _ _ _ _ _ _ _ _ _ _ _ _ _ _ _ _ _ _ _ _ _ _ _ _ _ _ _ _ _ _ _ _ _ _ _ _ _ _ _ _ _ _ _ _ _ _ _ _ _ _ _ _ _ _ _ _ _ _ _ _ _ _ R ?_
  intro w' T A3 L' av'' tv'' q1 q2 q3 q4 q5 q6 q7 q8
  refine HR.out w' T (A1 ++ A2 ++ A ++ A3) L' av'' tv'' ?_ q2 q3 q4 q5 (fun x hx => ?_) ?_ q8
  · have e : A0 ++ (A1 ++ A2) ++ ([] ++ A) ++ A3 = A0 ++ (A1 ++ A2 ++ A ++ A3) := by simp [List.append_assoc]
    rw [e] at q1
    exact q1
  · rcases List.mem_append.1 hx with hx | hx
    · rcases List.mem_append.1 hx with hx | hx
      · rcases List.mem_append.1 hx with hx | hx
        · exact HA0.out.1 x hx
        · obtain ⟨r, hr, h⟩ := HA2.out x hx
          obtain ⟨s, hs, h2⟩ := (HA0.out.2.1 D HDD.out).near r (.inl hr)
          exact HA0.out.2.2 s hs x (side_far h2 h)
      · exact HA3.out x hx
    · exact (HK3.out x (q6 x hx)).2
  · have := HL.out
    have := HA2L.out
    have := HAL3.out
    simp only [List.length_append]
    omega
end
end Go.Proofs.Ytlhjjmfbifhgfaa
/- A change where the sky above is open: the column below: the walk. (Printed by gentail.py.) -/
namespace Go.Proofs.Ytlhjjmfbifhgfaa
set_option linter.unusedSimpArgs false
set_option linter.unusedVariables false
open Go.RowKit
set_option maxRecDepth 1000000

section
variable {f : Fw} {p : Pl} {old : Int × Int} {m : Nat}
theorem col_in (hp : f.b.inside p) (hcol : ColAt f.b (clrF f) p m) : ∀ q ∈ colP p m, f.b.inside q := fun q hq => by
  obtain ⟨j, hj, rfl⟩ := colP_mem.1 hq
  rcases Nat.eq_zero_or_pos j with rfl | h
  · rw [downP_zero]; exact hp
  · exact (hcol.clear j h hj).1
theorem down_ne (p : Pl) {j : Nat} (h : 1 ≤ j) : downP p j ≠ p := fun e => by have := congrArg (fun x : Pl => x.2.1) e; simp only [downP] at this; omega
theorem col_changed (ok : f.Ok) (hp : f.b.inside p) (ho : openUp f p) (hcol : ColAt f.b (clrF f) p m) (hne : clearC old.1 old.2 ≠ clrAt f p) : ∀ s ∈ colP p m, f.b.inside s ∧ ¬ (litP f.b (clrF f) s ↔ litP f.b (clrF (f.old p old)) s) := fun s hs => by
  refine ⟨col_in hp hcol s hs, ?_⟩
  have ho2 := (open_old (old := old) ok hp).2 ho
  cases hb : clrAt f p with
  | true =>
    have hw : clearC old.1 old.2 = false := by
      cases hc : clearC old.1 old.2 with
      | false => rfl
      | true => exact absurd (hc.trans hb.symm) hne
    have h1 : litP f.b (clrF f) s := col_lit hcol hp ho.1 (by rw [clrF_at hp]; exact hb) ho.2 s hs
    have h2 : ¬ litP f.b (clrF (f.old p old)) s := col_dark hp (by rw [old_clrF ok hp, if_pos rfl]; exact hw) s hs
    exact fun h => h2 (h.1 h1)
  | false =>
    have hw : clearC old.1 old.2 = true := by
      cases hc : clearC old.1 old.2 with
      | true => rfl
      | false => exact absurd (hc.trans hb.symm) hne
    have h1 : ¬ litP f.b (clrF f) s := col_dark hp (by rw [clrF_at hp]; exact hb) s hs
    have hcol2 : ColAt f.b (clrF (f.old p old)) p m := ⟨hcol.pos, fun j h1 h2 => by
      obtain ⟨h3, h4⟩ := hcol.clear j h1 h2
      exact ⟨h3, by rw [old_clrF ok hp, if_neg (idx_ne hp h3 (down_ne p h1))]; exact h4⟩⟩
    have h2 : litP f.b (clrF (f.old p old)) s := col_lit hcol2 hp ho2.1 (by rw [old_clrF ok hp, if_pos rfl]; exact hw) ho2.2 s hs
    exact fun h => h1 (h.2 h2)
theorem col_near (ok : f.Ok) (hp : f.b.inside p) (ho : openUp f p) (hcol : ColAt f.b (clrF f) p m) (hne : clearC old.1 old.2 ≠ clrAt f p) : ∀ s ∈ colP p m, ∀ x, farP s x ≤ 15 → NearC f p old x := fun s hs x hx =>
  let ⟨h1, h2⟩ := col_changed ok hp ho hcol hne s hs
  .inr ⟨s, h1, h2, hx⟩
theorem down_near {x : Pl} (hx : ∃ j, 1 ≤ j ∧ j ≤ m ∧ x = downP p j) : ∃ s ∈ colP p m, farP s x ≤ 15 := by
  obtain ⟨j, h1, h2, rfl⟩ := hx
  refine ⟨downP p (j - 1), colP_mem.2 ⟨j - 1, by omega, rfl⟩, ?_⟩
  simp only [farP, downP]
  omega
theorem col_len (ok : f.Ok) (hp : f.b.inside p) (hcol : ColAt f.b (clrF f) p m) : m ≤ 1024 := by
  have h1 := nodup_box ok.box (colP_nodup p m) (col_in hp hcol)
  rwa [colP_len] at h1
end
theorem prow_form {w : World} {base : Nat} {ao : Option Addr} {n c : Nat} {L : List Pl} (h : PRow w base (.slice ao n c) L) (hc : 0 < c) : ∃ g, ao = some ⟨g, 0, none⟩ := by
  rcases h.2 with ⟨h1, h2⟩ | ⟨g, cap, cur, r1, hb, _⟩
  · injection h1 with _ h3 h4
    omega
  · injection r1 with h1 _ _
    exact ⟨g, h1⟩
section
variable (W0 Ws W : World) (base g b3 b4 b10 b11 gm b13 b14 gs : Nat) (f : Fw) (cv lv av tv : Value) (M00 : LMap) (c00 : Nat) (h0 : FS W0 base g b3 b10 b11 gm f cv lv av tv M00 c00) (ok : f.Ok) (p : Pl) (hp : f.b.inside p) (old : Int × Int) (FL FS FL0 FS0 : Pl → Nat) (h0R : RightOf (f.old p old) FL0 FS0) (h1R : RightOf f FL FS)
include h0 ok hp h0R h1R
set_option maxHeartbeats 16000000 in
theorem open_no (M : LMap) (c : Nat) (A0 A1 : List Pl) (av0 av1 : Value) (hs : Sets W0 Ws base g b3 b10 b11 gm f cv lv av tv M c A0 av0) (hs1 : Sets Ws W base g b3 b10 b11 gm { f with asked := f.asked ++ A0 } cv lv av0 tv M c A1 av1) (hM : ∀ q, nowAt f M q = ((FS0 q : Int), (FL q : Int))) (hk : ∀ q ∈ keysL M, f.b.inside q ∧ NearC f p old q)
    (hb4 : Blk W b4 23 (plC p)) (cs : Nat) (hsky : SkyX b13 gs [] cs Ws) (hgs : gs ≠ gm)
    (hb14 : Blk Ws b14 73 (wvC g (.func (.func 33) #[] #[.pointer (some ⟨b13, 0, none⟩)]) (.func (.func 34) #[] #[.pointer (some ⟨b11, 0, none⟩)]) (.func (.func 35) #[] #[.pointer (some ⟨b11, 0, none⟩), .pointer (some ⟨b10, 0, none⟩)])))
    (ho : openUp f p) (hbw : clearC old.1 old.2 = true) (hbi : clrAt f p = false) (hA1 : ∀ x ∈ A1, NearC f p old x) (hA1l : A1.length ≤ 10) (hl : f.asked.length + A0.length ≤ 850000000) (htl : f.told.length ≤ 850000000) (h0in : ∀ q, ¬ f.b.inside q → FS0 q = 0)
    (u0 u1 u2 u5 u6 u7 u8 u11 u12 u15 u16 u17 u18 u19 u20 u21 u22 u23 u24 u25 u26 u27 u28 u29 u30 u31 u32 u33 u34 u35 u36 u37 u38 u39 u40 u41 u42 u43 u44 u45 u46 u47 u48 u49 u50 u51 u52 u53 u54 u55 u56 u57 u58 u59 u60 u61 u62 u63 u64 u65 u66 u67 u68 u69 u70 u71 u72 u73 u74 u75 u76 u77 u78 u79 u80 u81 u82 u83 u84 u85 u86 u87 u88 u89 u90 u91 u92 u93 u94 u95 u96 u97 u98 u99 u100 u101 u102 u103 u104 u105 u106 u107 u108 u109 u110 u111 u112 u113 u114 u115 u116 u117 u118 u119 u120 u121 u122 u123 u124 u125 u126 u127 u128 u129 u130 u131 u132 u133 u134 u135 u136 u137 u138 u139 u140 u141 u142 u143 u144 u145 u146 u147 u148 u149 u150 u151 : Value) (R : Ending → World → Prop) (hR : EndOk W0 base g gm f cv lv av tv FS FL p old A0 R) (K K2 : Act → World → Prop)
    (hK : ∀ a W, Code.wp Try.prog (gnav (Try.f11.body.getD .skip) [true, true, true, true, true, true, true, true, true, true]) (bodyPost Try.prog Try.f11 R) a W → K a W)
    (hK2 : ∀ a W, Code.wp Try.prog (gnav (gcond (gnav (Try.f11.body.getD .skip) [true, true, true, true, true, true, true, true, true, false, true])) [true, true, true, true, true]) (Exit.then K (bodyPost Try.prog Try.f11 R)) a W → K2 a W) :
    Code.wp Try.prog (gcond (gnav (gcond (gnav (Try.f11.body.getD .skip) [true, true, true, true, true, true, true, true, true, false, true])) [true, true, true, true, false, true])) (Exit.then K2 (Exit.then K (bodyPost Try.prog Try.f11 R))) { tmps := #[u0, u1, u2, .pointer (some ⟨b3, 0, none⟩), .pointer (some ⟨b4, 0, none⟩), u5, u6, u7, u8, .bool false, .pointer (some ⟨b10, 0, none⟩), u11, u12, .pointer (some ⟨b13, 0, none⟩), .pointer (some ⟨b14, 0, none⟩), u15, u16, u17, u18, u19, u20, u21, u22, u23, u24, u25, u26, u27, u28, u29, u30, u31, u32, u33, u34, u35, u36, u37, u38, u39, u40, u41, u42, u43, u44, u45, u46, u47, u48, u49, u50, u51, u52, u53, u54, u55, u56, u57, u58, u59, u60, u61, u62, u63, u64, u65, u66, u67, u68, u69, u70, u71, u72, u73, u74, u75, u76, u77, u78, u79, u80, u81, u82, u83, u84, u85, u86, u87, u88, u89, u90, u91, u92, u93, u94, u95, u96, u97, u98, u99, u100, u101, u102, u103, u104, u105, u106, u107, u108, u109, u110, u111, u112, u113, u114, u115, u116, u117, u118, u119, u120, u121, u122, u123, u124, u125, u126, u127, u128, u129, u130, u131, u132, u133, u134, u135, u136, u137, u138, u139, u140, u141, u142, u143, u144, u145, u146, u147, u148, u149, u150, u151], defers := [] } W := by
  have HK2 := Lib.hid hK2
  have HC := Lib.hid (column_any W base g { f with asked := f.asked ++ A0 ++ A1 } cv lv av1 tv hs1.fs.fld ((ok.asks A0).asks A1) p hp (by simp only [List.length_append]; omega))
  have HS1 := Lib.hid hs1
  have v3 : W.cell? ⟨b3, 0, none⟩ = some (.iface 29 (.pointer (some ⟨g, 0, none⟩))) := hs1.fs.var.cell 0
  have HIN := Lib.hid (show ∀ m, ColAt f.b (clrF f) p m → m ≤ 1024 from fun m h => col_len ok hp h)
  have hne : clearC old.1 old.2 ≠ clrAt f p := by rw [hbw, hbi]; decide
  have HEND := Lib.hid (fun w' m A2 av2 v (hcol : ColAt f.b (clrF f) p m) (hlast : ¬ clearAt f.b (clrF f) (downP p m)) (hs2 : Sets Ws w' base g b3 b10 b11 gm { f with asked := f.asked ++ A0 } cv lv av0 tv M c (A1 ++ A2) av2) (hr : PRow w' Ws.heap.size v (colP p m)) (hap : ∀ k, v.ownBlock = some k → av2.ownBlock ≠ some k) (hA2 : ∀ x ∈ A2, ∃ j, 1 ≤ j ∧ j ≤ m ∧ x = downP p j) (hA2l : A2.length ≤ 100) =>
    have hu : (openUp f p ∧ colP p m = colP p m ∧ ColAt f.b (clrF f) p m ∧ ¬ clearAt f.b (clrF f) (downP p m)) := ⟨ho, rfl, hcol, hlast⟩
    have hpc : p ∈ colP p m := colP_mem.2 ⟨0, hcol.pos, (downP_zero p).symm⟩
    skies_no W0 w' base g b3 b10 b11 gm b13 b14 gs f cv lv av tv M00 c00 h0 ok p old FL FS FS0 h1R Ws M c A0 (A1 ++ A2) av0 av2 hs hs2 hM hk cs hsky hgs hb14 v (colP p m) hr hap (colP_nodup p m) (col_in hp hcol)
      (fun D hD => dark_none ok hp h0R hbi (colP p m) hpc (.inl hu) hD) (fun D hD => skies_dark ok hp h0R h1R (colP p m) hpc (.inl hu) hD) (col_near ok hp ho hcol hne)
      (fun x hx => (List.mem_append.1 hx).elim (hA1 x) (fun h => let ⟨s, hs, h2⟩ := down_near (hA2 x h); col_near ok hp ho hcol hne s hs x h2)) (by rw [List.length_append]; omega) hl htl h0in)
  have HR := Lib.hid hR
  have HKK := Lib.hid hK
  have HSZ := Lib.hid (show Ws.heap.size ≤ W.heap.size from hs1.only.size)
  obtain ⟨a0, a1, a2⟩ := three_cells hb4
  clear h0 ok hp h0R h1R hs hs1 hM hk hb4 hsky hgs hb14 ho hbw hbi hA1 hA1l hl htl h0in hR hK hK2 hne
  obtain ⟨px, py, pz⟩ := p
  unfold plV plC at HC
  simp only at HC a0 a1 a2
  refine (show Code.wp Try.prog (Code.seq (Code.region 17 _ false) _) _ _ _ from ?_)
  go_wp2_with fail
  go_at_call 37
  refine HC.out.mono ?_
  rintro e w5 ⟨v, m, A2, av2, rfl, hr, hcol, hlast, hq, hA2l, hA2, hap⟩
  have hm := HIN.out m hcol
  have HE2 := Lib.hid (fun w' (hb : Below w5.heap.size w5 w') => HEND.out w' m A2 av2 v hcol hlast ((HS1.out.asks hq).under hb) (own_below (own_base hr (by have := HSZ.out; omega)) hb) hap hA2 hA2l)
  obtain ⟨_, ao, cap, rfl, hcap, _⟩ := own_rat (d := ((0, 0, 0) : Pl)) plE_len hr
  have HROW := Lib.hid hr
  rw [colP_len] at hcap HROW HE2 ⊢
  clear hr hcol hlast hq hA2l hA2 hap HEND HC a0 a1 a2 v3
  go_wp2
  go_loopw [93] (fun i wr => ∃ j : Nat, j ≤ m ∧ i = .int .i64 j ∧ Below w5.heap.size w5 wr) (fun i _ => m - (intOf i).toNat)
  case atStart => exact ⟨0, Nat.zero_le _, rfl, Below.refl _ _⟩
  case round =>
    obtain ⟨j, hj, rfl, hb⟩ := hrel
    have HB := Lib.hid hb
    clear hb
    by_cases hjt : j < m
    · have hjI : (j : Int) < (m : Int) := by omega
      have hjT : j < (colP (px, py, pz) m).length := by rw [colP_len]; exact hjt
      have hc0 : 0 < cap := by omega
      obtain ⟨gl, rfl⟩ := prow_form HROW.out hc0
      have hrow : PRow wr (W.heap.size + 1) (.slice (some ⟨gl, 0, none⟩) m cap) (colP (px, py, pz) m) := own_below HROW.out HB.out
      have hat := own_at plE_len ((0, 0, 0) : Pl) (n := m) hrow hjT
      obtain ⟨q, hq⟩ : ∃ q, q = (colP (px, py, pz) m).getD j (0, 0, 0) := ⟨_, rfl⟩
      rw [← hq] at hat
      have HB2 := Lib.hid (HB.out.alloc HB.out.size (.cells (plC q) 23))
      clear hq hrow
      obtain ⟨qx, qy, qz⟩ := q
      have e0 : wr.cell? ⟨gl, j * 3, none⟩ = some (.int .i64 qx) := hat 0 (by decide)
      have e1 : wr.cell? ⟨gl, j * 3 + 1, none⟩ = some (.int .i64 qy) := hat 1 (by decide)
      have e2 : wr.cell? ⟨gl, j * 3 + 2, none⟩ = some (.int .i64 qz) := hat 2 (by decide)
      unfold plC at HB2
      simp only at HB2
      clear hat
      go_wp2
      go_roundw
      case rel => exact ⟨j + 1, by omega, by go_num, HB2.out⟩
      case measure => simp [intOf]; omega
    · obtain rfl : j = m := by omega
      have HE3 := Lib.hid (HE2.out wr HB.out)
      clear HE2
      go_wp2
      refine HK2.out _ _ ?_
      exact HE3.out _ _ _ _ _ _ _ _ _ _ _ _ _ _ _ _ _ _ _ _ _ _ _ _ _ _ _ _ _ _ _ _ _ _ _ _ _ _ _ _ _ _ _ _ _ _ _ _ _ _ _ _ _ _ _ _ _ _ _ _ _ _ _ _ _ _ _ _ _ _ _ _ _ _ _ _ _ _ _ _ _ _ _ _ _ _ _ _ _ _ _ _ _ _ _ _ _ _ _ _ _ _ _ _ _ _ _ _ _ _ _ _ _ _ _ _ _ _ _ _ _ _ _ _ _ _ _ _ _ _ _ _ _ _ _ _ _ _ _ _ _ _ _ _ _ _ _ R HR.out K HKK.out
set_option maxHeartbeats 16000000 in
theorem open_is (M : LMap) (c : Nat) (A0 A1 : List Pl) (av1 : Value) (hs1 : Sets W0 W base g b3 b10 b11 gm f cv lv av tv M c (A0 ++ A1) av1) (hM : ∀ q, nowAt f M q = ((FS0 q : Int), (FL q : Int))) (hk : ∀ q ∈ keysL M, f.b.inside q ∧ NearC f p old q)
    (hb4 : Blk W b4 23 (plC p)) (hsky : SkyX b13 gs [] 0 W) (hgs : gs ≠ gm) (hgsn : W0.heap.size ≤ gs) (hb13n : W0.heap.size ≤ b13)
    (hb14 : Blk W b14 73 (wvC g (.func (.func 33) #[] #[.pointer (some ⟨b13, 0, none⟩)]) (.func (.func 34) #[] #[.pointer (some ⟨b11, 0, none⟩)]) (.func (.func 35) #[] #[.pointer (some ⟨b11, 0, none⟩), .pointer (some ⟨b10, 0, none⟩)])))
    (ho : openUp f p) (hbw : clearC old.1 old.2 = false) (hbi : clrAt f p = true) (hA1 : ∀ x ∈ A1, NearC f p old x) (hA1l : A1.length ≤ 10) (hl : f.asked.length + A0.length ≤ 850000000) (htl : f.told.length ≤ 850000000)
    (u0 u1 u2 u5 u6 u7 u8 u11 u12 u15 u16 u17 u18 u19 u20 u21 u22 u23 u24 u25 u26 u27 u28 u29 u30 u31 u32 u33 u34 u35 u36 u37 u38 u39 u40 u41 u42 u43 u44 u45 u46 u47 u48 u49 u50 u51 u52 u53 u54 u55 u56 u57 u58 u59 u60 u61 u62 u63 u64 u65 u66 u67 u68 u69 u70 u71 u72 u73 u74 u75 u76 u77 u78 u79 u80 u81 u82 u83 u84 u85 u86 u87 u88 u89 u90 u91 u92 u93 u94 u95 u96 u97 u98 u99 u100 u101 u102 u103 u104 u105 u106 u107 u108 u109 u110 u111 u112 u113 u114 u115 u116 u117 u118 u119 u120 u121 u122 u123 u124 u125 u126 u127 u128 u129 u130 u131 u132 u133 u134 u135 u136 u137 u138 u139 u140 u141 u142 u143 u144 u145 u146 u147 u148 u149 u150 u151 : Value) (R : Ending → World → Prop) (hR : EndOk W0 base g gm f cv lv av tv FS FL p old A0 R) (K K2 : Act → World → Prop)
    (hK : ∀ a W, Code.wp Try.prog (gnav (Try.f11.body.getD .skip) [true, true, true, true, true, true, true, true, true, true]) (bodyPost Try.prog Try.f11 R) a W → K a W)
    (hK2 : ∀ a W, Code.wp Try.prog (gnav (gcond (gnav (Try.f11.body.getD .skip) [true, true, true, true, true, true, true, true, true, false, true])) [true, true, true, true, true]) (Exit.then K (bodyPost Try.prog Try.f11 R)) a W → K2 a W) :
    Code.wp Try.prog (gcond (gnav (gcond (gnav (Try.f11.body.getD .skip) [true, true, true, true, true, true, true, true, true, false, true])) [true, true, true, true, false, true])) (Exit.then K2 (Exit.then K (bodyPost Try.prog Try.f11 R))) { tmps := #[u0, u1, u2, .pointer (some ⟨b3, 0, none⟩), .pointer (some ⟨b4, 0, none⟩), u5, u6, u7, u8, .bool true, .pointer (some ⟨b10, 0, none⟩), u11, u12, .pointer (some ⟨b13, 0, none⟩), .pointer (some ⟨b14, 0, none⟩), u15, u16, u17, u18, u19, u20, u21, u22, u23, u24, u25, u26, u27, u28, u29, u30, u31, u32, u33, u34, u35, u36, u37, u38, u39, u40, u41, u42, u43, u44, u45, u46, u47, u48, u49, u50, u51, u52, u53, u54, u55, u56, u57, u58, u59, u60, u61, u62, u63, u64, u65, u66, u67, u68, u69, u70, u71, u72, u73, u74, u75, u76, u77, u78, u79, u80, u81, u82, u83, u84, u85, u86, u87, u88, u89, u90, u91, u92, u93, u94, u95, u96, u97, u98, u99, u100, u101, u102, u103, u104, u105, u106, u107, u108, u109, u110, u111, u112, u113, u114, u115, u116, u117, u118, u119, u120, u121, u122, u123, u124, u125, u126, u127, u128, u129, u130, u131, u132, u133, u134, u135, u136, u137, u138, u139, u140, u141, u142, u143, u144, u145, u146, u147, u148, u149, u150, u151], defers := [] } W := by
  have HK2 := Lib.hid hK2
  have HC := Lib.hid (column_any W base g { f with asked := f.asked ++ (A0 ++ A1) } cv lv av1 tv hs1.fs.fld (ok.asks (A0 ++ A1)) p hp (by simp only [List.length_append]; omega))
  have HS1 := Lib.hid hs1
  have v3 : W.cell? ⟨b3, 0, none⟩ = some (.iface 29 (.pointer (some ⟨g, 0, none⟩))) := hs1.fs.var.cell 0
  have HIN := Lib.hid (show ∀ m, ColAt f.b (clrF f) p m → m ≤ 1024 from fun m h => col_len ok hp h)
  have HNOD := Lib.hid (show ∀ m, (colP p m).Nodup from fun m => colP_nodup p m)
  have HMAY := Lib.hid (show ∀ m, ColAt f.b (clrF f) p m → ∀ q ∈ colP p m, mayP q = true from fun m h q hq => Bx.inside_may ok.box (col_in hp h q hq))
  have hne : clearC old.1 old.2 ≠ clrAt f p := by rw [hbw, hbi]; decide
  have HEND := Lib.hid (fun w' m A2 av2 v bv Ls cs (hcol : ColAt f.b (clrF f) p m) (hlast : ¬ clearAt f.b (clrF f) (downP p m)) (hs2 : Sets W0 w' base g b3 b10 b11 gm f cv lv av tv M c (A0 ++ (A1 ++ A2)) av2) (he : ∀ x ∈ Ls, ∃ k : Int, x.2.1 = .int .i64 k ∧ 1 ≤ k ∧ k ≤ 1000) (hkeys : keysOf Ls = colP p m) (hsk : SkyX b13 gs Ls cs w') (hb : Blk w' b14 73 _) (hr : PRow w' bv v (colP p m)) (hA2 : ∀ x ∈ A2, ∃ j, 1 ≤ j ∧ j ≤ m ∧ x = downP p j) (hA2l : A2.length ≤ 100) =>
    have hu : (openUp f p ∧ colP p m = colP p m ∧ ColAt f.b (clrF f) p m ∧ ¬ clearAt f.b (clrF f) (downP p m)) := ⟨ho, rfl, hcol, hlast⟩
    have hpc : p ∈ colP p m := colP_mem.2 ⟨0, hcol.pos, (downP_zero p).symm⟩
    skies_is W0 w' base g b3 b10 b11 gm b13 b14 gs f cv lv av tv M00 c00 h0 ok p old FL FS FS0 h1R M c A0 (A1 ++ A2) av2 hs2 hM hk Ls cs he hsk hgs hb bv v (colP p m) hr (col_in hp hcol) (by rw [colP_len]; exact col_len ok hp hcol)
      (fun q hq hc => by rw [hkeys, if_pos hq, skyOwn_lit (col_lit hcol hp ho.1 (by rw [clrF_at hp]; exact hbi) ho.2 q hq)])
      (skies_clear ok hp h0R h1R hbw (colP p m) hpc (.inl hu) (fun q hq hqp => by
        obtain ⟨j, hj, rfl⟩ := colP_mem.1 hq
        have hj1 : 1 ≤ j := by
          rcases Nat.eq_zero_or_pos j with rfl | h
          · exact absurd (downP_zero p) hqp
          · exact h
        exact (clear_at f _).2 (hcol.clear j hj1 hj)) (fun q hq hno => absurd ho hno)) (col_near ok hp ho hcol hne)
      (fun x hx => (List.mem_append.1 hx).elim (hA1 x) (fun h => let ⟨s, hs, h2⟩ := down_near (hA2 x h); col_near ok hp ho hcol hne s hs x h2)) (by rw [List.length_append]; omega) hl htl)
  have HR := Lib.hid hR
  have HKK := Lib.hid hK
  have H0 := Lib.hid h0
  have HGS := Lib.hid hgsn
  have HSKY := Lib.hid hsky
  have HB14 := Lib.hid hb14
  obtain ⟨a0, a1, a2⟩ := three_cells hb4
  clear h0 ok hp h0R h1R hs1 hM hk hb4 hsky hgs hb14 ho hbw hbi hA1 hA1l hl htl hR hK hK2 hne hgsn hb13n
  obtain ⟨px, py, pz⟩ := p
  unfold plV plC at HC
  simp only at HC a0 a1 a2
  refine (show Code.wp Try.prog (Code.seq (Code.region 17 _ false) _) _ _ _ from ?_)
  go_wp2_with fail
  go_at_call 37
  refine HC.out.mono ?_
  rintro e w5 ⟨v, m, A2, av2, rfl, hr, hcol, hlast, hq, hA2l, hA2, hap⟩
  have hm := HIN.out m hcol
  have hs5 := HS1.out.asks hq
  have HSKY5 := Lib.hid (show SkyX b13 gs [] 0 w5 from ⟨Asks.blk HS1.out.fs.fld hq HSKY.out.1 (by decide) (fun e => own_blk_ne HS1.out.fs.fld.asked HSKY.out.1 (by decide) e), HSKY.out.2.keep (hq.only.block gs HSKY.out.2.inb (by
    rintro (e | e)
    · exact map_blk_ne HS1.out.fs.fld.blk HSKY.out.2 e.symm
    · exact map_own_ne HS1.out.fs.fld.asked HSKY.out.2 e.symm))⟩)
  have HB145 := Lib.hid (Asks.blk HS1.out.fs.fld hq HB14.out (by decide) (wave_apart HS1.out.fs.fld HB14.out))
  have HS5 := Lib.hid hs5
  have HE2 := Lib.hid (fun w' v bv Ls cs => HEND.out w' m A2 av2 v bv Ls cs hcol hlast)
  have HA2 := Lib.hid (And.intro hA2 hA2l)
  have HMY := Lib.hid (HMAY.out m hcol)
  obtain ⟨_, ao, cap, rfl, hcap, _⟩ := own_rat (d := ((0, 0, 0) : Pl)) plE_len hr
  have HROW := Lib.hid hr
  rw [colP_len] at hcap HROW ⊢
  clear hr hcol hlast hq hA2l hA2 hap HEND HC a0 a1 a2 v3 hs5 HMAY HIN
  go_wp2
  go_loopw [93] (fun i wr => ∃ (j : Nat) (Ls : List (Ent Pl)) (cs : Nat), j ≤ m ∧ i = .int .i64 j ∧ Sets W0 wr base g b3 b10 b11 gm f cv lv av tv M c (A0 ++ (A1 ++ A2)) av2 ∧ SkyX b13 gs Ls cs wr ∧ Blk wr b14 73 (wvC g (.func (.func 33) #[] #[.pointer (some ⟨b13, 0, none⟩)]) (.func (.func 34) #[] #[.pointer (some ⟨b11, 0, none⟩)]) (.func (.func 35) #[] #[.pointer (some ⟨b11, 0, none⟩), .pointer (some ⟨b10, 0, none⟩)])) ∧ PRow wr (W.heap.size + 1) (.slice ao m cap) (colP (px, py, pz) m) ∧ keysOf Ls = (colP (px, py, pz) m).take j ∧ (∀ x ∈ Ls, x.2.1 = .int .i64 1)) (fun i _ => m - (intOf i).toNat)
  case atStart => exact ⟨0, [], 0, Nat.zero_le _, rfl, by rw [← List.append_assoc]; exact HS5.out, HSKY5.out, HB145.out, HROW.out, rfl, fun x hx => absurd hx List.not_mem_nil⟩
  case round =>
    clear HS5 HSKY5 HB145 HROW
    obtain ⟨j, Ls, cs, hj, rfl, hs, hsk, hb14, hrow, hkeys, hone⟩ := hrel
    have HS := Lib.hid hs
    have HSK := Lib.hid hsk
    have HB := Lib.hid hb14
    have HROW := Lib.hid hrow
    have HKY := Lib.hid hkeys
    have HONE := Lib.hid hone
    clear hs hsk hb14 hrow hkeys hone
    by_cases hjt : j < m
    · have hjI : (j : Int) < (m : Int) := by omega
      have hjT : j < (colP (px, py, pz) m).length := by rw [colP_len]; exact hjt
      have hc0 : 0 < cap := by omega
      obtain ⟨gl, rfl⟩ := prow_form HROW.out hc0
      have hat := own_at plE_len ((0, 0, 0) : Pl) (n := m) HROW.out hjT
      obtain ⟨q, hq⟩ : ∃ q, q = (colP (px, py, pz) m).getD j (0, 0, 0) := ⟨_, rfl⟩
      rw [← hq] at hat
      have HTK := Lib.hid (show (colP (px, py, pz) m).take (j + 1) = (colP (px, py, pz) m).take j ++ [q] by rw [takeN hjT (0, 0, 0), hq])
      have hqm : q ∈ colP (px, py, pz) m := hq ▸ getD_mem hjT _
      have hqok := PlOk.of_may (HMY.out q hqm)
      have hqn : q ∉ keysOf Ls := by
        rw [HKY.out]
        intro h
        have h1 := HNOD.out m
        rw [← List.take_append_drop j (colP (px, py, pz) m), List.nodup_append] at h1
        exact h1.2.2 q h q (by rw [List.drop_eq_getElem_cons hjT, hq, getD_at hjT]; exact List.mem_cons_self ..) rfl
      obtain ⟨W2, hW2⟩ : ∃ W2, W2 = wr.alloc (.cells (plC q) 23) := ⟨_, rfl⟩
      have hB2 : Below wr.heap.size wr W2 := by rw [hW2]; exact (Below.refl _ _).alloc (Nat.le_refl _) _
      have hP2 : Blk W2 wr.heap.size 23 (plC q) := by rw [hW2]; exact Blk.new _ _ _
      have hm2 := HSK.out.2.below hB2 HSK.out.2.inb
      have hb13 := HSK.out.1.below hB2 HSK.out.1.lt
      have hgm := getM_none.2 hqn
      have hlk := hm2.drew.lookup keyed_ Try.underlying76 key_pl plV_inj hqok false (zero_int W2.drew)
      rw [hgm] at hlk
      obtain ⟨W3, n, L', c', hent, hm3, hg3, hx3, rfl, hput, hget⟩ := hm2.drew.entry keyed_ Try.underlying76 key_pl plV_inj hqok (zero_int W2.drew)
      rw [hgm] at hent hget
      have hlk3 := hm3.lookup keyed_ Try.underlying76 key_pl plV_inj hqok false (zero_int W3)
      rw [hget] at hlk3
      obtain ⟨W4, hst, hm4, hg4⟩ := hm3.store (P := Try.prog) (t := 76) hx3 (.int .i64 1)
      rw [hput, putM, if_neg hqn] at hm4
      have hg24 : W2.grownBy W4 (some gs) := World.grownBy.trans (World.grownBy.trans (show W2.grownBy W2.drew (some gs) from ⟨rfl, rfl, rfl, Nat.le_refl _, fun _ _ _ => rfl⟩) hg3) hg4
      have hs2 := HS.out.under hB2
      have HS4 := Lib.hid (hs2.grown H0.out hg24 (fun k hk => by cases hk; exact ⟨HGS.out, map_own_ne hs2.fs.fld.asked hm2⟩))
      have hp3 := hP2.drew.grown hg3 (fun e => map_blk_ne hP2 hm2 (Option.some.inj e))
      have hp4 := hP2.grown hg24 (fun e => map_blk_ne hP2 hm2 (Option.some.inj e))
      have hb3 := hb13.drew.grown hg3 (fun e => map_blk_ne hb13 hm2 (Option.some.inj e))
      have hb4 := hb13.grown hg24 (fun e => map_blk_ne hb13 hm2 (Option.some.inj e))
      have HSK4 := Lib.hid (show SkyX b13 gs (Ls ++ [(q, .int .i64 1, cs)]) _ W4 from ⟨hb4, hm4⟩)
      have hb142 := HB.out.below hB2 HB.out.lt
      have HB4 := Lib.hid (hb142.grown hg24 (fun e => map_blk_ne hb142 hm2 (Option.some.inj e)))
      have hrow2 := own_below HROW.out hB2
      have HROW4 := Lib.hid (hrow2.kept hg24 (.inr (map_own_ne hrow2 hm2)))
      have HKY4 := Lib.hid (show keysOf (Ls ++ [(q, Value.int .i64 1, cs)]) = (colP (px, py, pz) m).take (j + 1) by rw [HTK.out, ← HKY.out]; simp [keysOf])
      have HONE4 := Lib.hid (show ∀ x ∈ Ls ++ [(q, Value.int .i64 1, cs)], x.2.1 = .int .i64 1 from fun x hx => by
        rcases List.mem_append.1 hx with h | h
        · exact HONE.out x h
        · rw [List.mem_singleton.1 h])
      have HW2 := Lib.hid hW2
      have v13 : W2.cell? ⟨b13, 0, none⟩ = some (.map (some gs)) := hb13.cell 0
      obtain ⟨qx, qy, qz⟩ := q
      have e0 : wr.cell? ⟨gl, j * 3, none⟩ = some (.int .i64 qx) := hat 0 (by decide)
      have e1 : wr.cell? ⟨gl, j * 3 + 1, none⟩ = some (.int .i64 qy) := hat 1 (by decide)
      have e2 : wr.cell? ⟨gl, j * 3 + 2, none⟩ = some (.int .i64 qz) := hat 2 (by decide)
      unfold plC at hP2 hp3 hp4 HW2
      simp only at hP2 hp3 hp4 HW2
      unfold plV plC at hlk hent hlk3
      simp only at hlk hent hlk3
      obtain ⟨a0, a1, a2⟩ := three_of hP2
      have S3 := And.intro (show W3.cell? ⟨wr.heap.size, 0, none⟩ = some (.int .i64 qx) from hp3.cell 0) (And.intro (show W3.cell? ⟨wr.heap.size, 1, none⟩ = some (.int .i64 qy) from hp3.cell 1) (And.intro (show W3.cell? ⟨wr.heap.size, 2, none⟩ = some (.int .i64 qz) from hp3.cell 2) (show W3.cell? ⟨b13, 0, none⟩ = some (.map (some gs)) from hb3.cell 0)))
      have S4 := And.intro (show W4.cell? ⟨wr.heap.size, 0, none⟩ = some (.int .i64 qx) from hp4.cell 0) (And.intro (show W4.cell? ⟨wr.heap.size, 1, none⟩ = some (.int .i64 qy) from hp4.cell 1) (And.intro (show W4.cell? ⟨wr.heap.size, 2, none⟩ = some (.int .i64 qz) from hp4.cell 2) (show W4.cell? ⟨b13, 0, none⟩ = some (.map (some gs)) from hb4.cell 0)))
      have hw1 : IntKind.i64.wrap 1 = 1 := by decide
      clear hat hq hqm hqok hqn hW2 hB2 hP2 hm2 hb13 hgm hm3 hg3 hx3 hput hget hm4 hg4 hg24 hs2 hp3 hp4 hb3 hb4 hb142 hrow2
      go_wp2
      rw [← HW2.out]
      go_region_held (fun w' => w'.cell? ⟨wr.heap.size, 0, none⟩ = some (.int .i64 qx) ∧ w'.cell? ⟨wr.heap.size, 1, none⟩ = some (.int .i64 qy) ∧ w'.cell? ⟨wr.heap.size, 2, none⟩ = some (.int .i64 qz) ∧ w'.cell? ⟨b13, 0, none⟩ = some (.map (some gs)))
        (first | exact ⟨a0, a1, a2, v13⟩ | assumption | go_keep) (fail)
      all_goals
        clear S3 S4 hlk hent hlk3 hst a0 a1 a2 v13 e0 e1 e2
        go_wp2
        go_roundw
        case rel => exact ⟨j + 1, _, _, by omega, by go_num, HS4.out, HSK4.out, HB4.out, HROW4.out, HKY4.out, HONE4.out⟩
        case measure => simp [intOf]; omega
    · obtain rfl : j = m := by omega
      have hky := HKY.out
      rw [List.take_of_length_le (by rw [colP_len]; exact Nat.le_refl _)] at hky
      have HE3 := Lib.hid (HE2.out wr (.slice ao j cap) (W.heap.size + 1) Ls cs HS.out (fun x hx => ⟨1, HONE.out x hx, by decide, by decide⟩) hky HSK.out HB.out HROW.out HA2.out.1 HA2.out.2)
      clear HE2 hky
      go_wp2
      refine HK2.out _ _ ?_
      exact HE3.out _ _ _ _ _ _ _ _ _ _ _ _ _ _ _ _ _ _ _ _ _ _ _ _ _ _ _ _ _ _ _ _ _ _ _ _ _ _ _ _ _ _ _ _ _ _ _ _ _ _ _ _ _ _ _ _ _ _ _ _ _ _ _ _ _ _ _ _ _ _ _ _ _ _ _ _ _ _ _ _ _ _ _ _ _ _ _ _ _ _ _ _ _ _ _ _ _ _ _ _ _ _ _ _ _ _ _ _ _ _ _ _ _ _ _ _ _ _ _ _ _ _ _ _ _ _ _ _ _ _ _ _ _ _ _ _ _ _ _ _ _ _ _ _ _ _ _ R HR.out K HKK.out
end
end Go.Proofs.Ytlhjjmfbifhgfaa
