/- Joined texts of one seat, each under its own heading below. -/
import Derived.Test.YtlhjjmfbifhgfaaFM7
import Derived.Test.YtlhjjmfbifhgfaaFM8
import Derived.DeepKeys4
import Derived.Deep.RegionHeld
import Derived.Test.YtlhjjmfbifhgfaaFM1
/- Places as keys of maps; the lights that the flood holds: its memory. -/
namespace Go.Proofs.Ytlhjjmfbifhgfaa
set_option linter.unusedSimpArgs false
set_option linter.unusedVariables false
open Go.RowKit
set_option maxRecDepth 100000

def PlOk (s : Pl) : Prop := (-9223372036854775808 ≤ s.1 ∧ s.1 ≤ 9223372036854775807) ∧ (-9223372036854775808 ≤ s.2.1 ∧ s.2.1 ≤ 9223372036854775807) ∧ (-9223372036854775808 ≤ s.2.2 ∧ s.2.2 ≤ 9223372036854775807)
theorem PlOk.of_may {s : Pl} (h : mayP s = true) : PlOk s := by
  rw [mayP_iff] at h
  unfold PlOk
  omega
theorem laidOut_ : laidOutB Try.prog = true := by kernel_rfl
theorem wide_ : (match Try.prog.underlying 23 with | some (.array _ _) | some (.struct _) => true | _ => false) = true := by rw [Try.underlying23]
theorem keyed_ : Maps.Keyed Try.prog 23 := Maps.Keyed.of_law (deep_law_laid laidOut_ (m := 3) (by omega) (of_decide_eq_true (by kernel_rfl)) (by kernel_rfl) wide_)
theorem types_ : ∃ m, Try.prog.types.size + 1 = m + 2 := ⟨Try.prog.types.size - 1, by have : 1 ≤ Try.prog.types.size := of_decide_eq_true (by kernel_rfl); omega⟩
theorem cells_ : Try.prog.cellsOf 23 = 3 := by kernel_rfl
theorem cellsInt_ : Try.prog.cellsOf 3 = 1 := by kernel_rfl
theorem keyType_ : Try.prog.keyType 23 = true := by kernel_rfl
theorem key_pl (s : Pl) (h : PlOk s) : ∃ l, keyOf Try.prog 23 (plV s) = some l := by
  obtain ⟨m, hm⟩ := types_
  obtain ⟨⟨a1, a2⟩, ⟨b1, b2⟩, c1, c2⟩ := h
  have w1 : (Lit.int .i64 s.1).wf = true := WalkArith.wf_i64 (by omega)
  have w2 : (Lit.int .i64 s.2.1).wf = true := WalkArith.wf_i64 (by omega)
  have w3 : (Lit.int .i64 s.2.2).wf = true := WalkArith.wf_i64 (by omega)
  have hf : (plV s).formed Try.prog 23 = true := by simp [plV, plC, Value.formed, Try.underlying23, cells_]
  unfold keyOf
  rw [Try.underlying23]
  simp only [keyType_, hf, Bool.and_self, if_true, hm]
  simp [plV, plC, Program.keyLits, Try.underlying23, Try.underlying3, cells_, cellsInt_, Value.cells, w1, w2, w3]
theorem plV_inj (a b : Pl) (h : plV a = plV b) : a = b := by
  simp only [plV, plC, Value.agg.injEq] at h
  injection h with h
  simp at h
  exact Prod.ext h.1 (Prod.ext h.2.1 h.2.2)
theorem zero_light (w : World) : (zeroValue 43).run Try.prog w = .ok (.agg #[.int .u8 0, .int .u8 0]) w := by kernel_rfl
theorem zero_int (w : World) : (zeroValue 3).run Try.prog w = .ok (.int .i64 0) w := by kernel_rfl
theorem zero_u8 (w : World) : (zeroValue 5).run Try.prog w = .ok (.int .u8 0) w := by kernel_rfl
theorem m_cell (a : Addr) (w : World) : (method 253 29 (.pointer (some a)) "Cell").run Try.prog w = .ok (13, .pointer (some a)) w := by kernel_rfl
theorem m_light (a : Addr) (w : World) : (method 253 29 (.pointer (some a)) "Light").run Try.prog w = .ok (100, .pointer (some a)) w := by kernel_rfl
theorem m_lit (a : Addr) (w : World) : (method 253 29 (.pointer (some a)) "Lit").run Try.prog w = .ok (101, .pointer (some a)) w := by kernel_rfl
/-- The lights that a map holds. -/
abbrev LMap := List (Pl × (Int × Int) × Nat)
def entL (x : Pl × (Int × Int) × Nat) : Ent Pl := (x.1, clV x.2.1, x.2.2)
def lightOf (M : LMap) (q : Pl) : Option (Int × Int) := (M.find? fun x => decide (x.1 = q)).map (·.2.1)
theorem getM_light (M : LMap) (q : Pl) : getM (M.map entL) q = (lightOf M q).map clV := by
  unfold getM lightOf
  induction M with
  | nil => rfl
  | cons x M ih =>
    simp only [List.map_cons, List.find?_cons]
    by_cases h : x.1 = q
    · simp [entL, h]
    · simp only [entL, h, decide_false] at ih ⊢
      exact ih
/-- What the flood holds: the field behind its variable; the map of lights behind its; the closure that asks it. -/
structure FS (W : World) (base g b3 b10 b11 gm : Nat) (f : Fw) (cv lv av tv : Value) (M : LMap) (c : Nat) : Prop where
  fld : FieldAt W base g f cv lv av tv
  var : Blk W b3 64 #[.iface 29 (.pointer (some ⟨g, 0, none⟩))]
  lvar : Blk W b10 67 #[.map (some gm)]
  fvar : Blk W b11 69 #[.func (.func 27) #[] #[.pointer (some ⟨b10, 0, none⟩), .pointer (some ⟨b3, 0, none⟩)]]
  map : MapIs plV PlOk W gm (M.map entL) c
/-- The light that a place has by now. -/
def nowAt (f : Fw) (M : LMap) (q : Pl) : Int × Int := (lightOf M q).getD (lightAt f q)
/-- Nothing but one place was asked, at most once. -/
def JustOne (q : Pl) (n : Nat) (l : List Pl) : Prop := (∀ x ∈ l, x = q) ∧ l.length ≤ n
theorem JustOne.nil (q : Pl) (n : Nat) : JustOne q n [] := ⟨fun x hx => absurd hx List.not_mem_nil, Nat.zero_le _⟩
theorem JustOne.one (q : Pl) : JustOne q 1 [q] := ⟨fun x hx => by simpa using hx, Nat.le_refl _⟩
theorem Asks.nil {W W' : World} {base g : Nat} {f : Fw} {cv lv av tv : Value} (h : FieldAt W base g f cv lv av tv) (hb : Below W.heap.size W W') : Asks W W' base g f cv lv av tv [] av :=
  ⟨by have := h.under hb; simpa using this, Only.of_below hb, .inl rfl⟩
theorem Asks.from_ {W W1 W' : World} {base g : Nat} {f : Fw} {cv lv av tv av' : Value} {l : List Pl} (h : Asks W1 W' base g f cv lv av tv l av') (hb : Below W.heap.size W W1) : Asks W W' base g f cv lv av tv l av' :=
  ⟨h.fld, (Only.of_below (S := QF g av.ownBlock) hb).trans h.only (fun _ h => .inl h), h.new.imp id fun ⟨k, h1, h2⟩ => ⟨k, h1, Nat.le_trans hb.size h2⟩⟩
theorem lightAt_in {f : Fw} (ok : f.Ok) (q : Pl) : (0 ≤ (lightAt f q).1 ∧ (lightAt f q).1 ≤ 15) ∧ (0 ≤ (lightAt f q).2 ∧ (lightAt f q).2 ≤ 15) := by
  unfold lightAt
  split
  · rename_i h
    have hl : f.b.idx q < f.lights.length := by rw [ok.lights]; exact f.b.idx_lt h
    rw [List.getD_eq_getElem?_getD, List.getElem?_eq_getElem hl]
    exact ok.lin _ (List.getElem_mem hl)
  · decide
set_option maxRecDepth 100000 in
set_option maxHeartbeats 4000000 in
theorem light_any (W : World) (base g b3 b10 b11 gm : Nat) (f : Fw) (cv lv av tv : Value) (M : LMap) (c : Nat) (h : FS W base g b3 b10 b11 gm f cv lv av tv M c) (ok : f.Ok) (q : Pl) (hm : mayP q = true) (hl : f.asked.length ≤ 1000000000) :
    Calls Try.prog 27 #[plV q, .pointer (some ⟨b10, 0, none⟩), .pointer (some ⟨b3, 0, none⟩)] W fun e w' => e = .returned (clV (nowAt f M q)) ∧ ∃ av' l, JustOne q 1 l ∧ Asks W w' base g f cv lv av tv l av' := by
  have HF := Lib.hid h.fld
  obtain ⟨W1, hW⟩ : ∃ W1, W1 = (W.alloc (.cells (plC q) 23)).alloc (.cells #[.int .u8 0, .int .u8 0] 43) := ⟨_, rfl⟩
  have hP := (Blk.new W 23 (plC q)).alloc (.cells #[.int .u8 0, .int .u8 0] 43)
  have hR := Blk.new (W.alloc (.cells (plC q) 23)) 43 #[.int .u8 0, .int .u8 0]
  rw [show (W.alloc (.cells (plC q) 23)).heap.size = W.heap.size + 1 from by simp] at hR
  have hB : Below W.heap.size W W1 := by rw [hW]; exact ((Below.refl _ _).alloc (Nat.le_refl _) _).alloc (by simp) _
  rw [← hW] at hP hR
  have hlv : W1.cell? ⟨b10, 0, none⟩ = some (.map (some gm)) := (h.lvar.below hB h.lvar.lt).cell 0
  have hvr : W1.cell? ⟨b3, 0, none⟩ = some (.iface 29 (.pointer (some ⟨g, 0, none⟩))) := (h.var.below hB h.var.lt).cell 0
  have hmap := h.map.below hB h.map.inb
  have hlk := hmap.lookup keyed_ Try.underlying67 key_pl plV_inj (PlOk.of_may hm) true (zero_light W1)
  rw [getM_light] at hlk
  have hvr2 : (W1.alloc (.cells #[.int .u8 0, .int .u8 0] 43)).cell? ⟨b3, 0, none⟩ = some (.iface 29 (.pointer (some ⟨g, 0, none⟩))) := ((h.var.below hB h.var.lt).alloc _).cell 0
  have hpl2 := three_cells (hP.alloc (.cells #[.int .u8 0, .int .u8 0] 43))
  have hB2 := hB.alloc hB.size (.cells #[.int .u8 0, .int .u8 0] 43)
  have HWL := Lib.hid (wlight_any (W1.alloc (.cells #[.int .u8 0, .int .u8 0] 43)) base g f cv lv av tv (h.fld.under hB2) ok q hm hl)
  have HR2 := Lib.hid (hR.alloc (.cells #[.int .u8 0, .int .u8 0] 43))
  have HIN := Lib.hid (lightAt_in ok q)
  have HB2 := Lib.hid hB2
  have HFW1 := Lib.hid (h.fld.under hB)
  have HVR := Lib.hid (h.var.below hB h.var.lt)
  have HP := Lib.hid hP
  have HR := Lib.hid hR
  have HB := Lib.hid hB
  have HOK := Lib.hid ok
  have HM := Lib.hid hm
  have HL := Lib.hid hl
  obtain ⟨px, py, pz⟩ := q
  unfold plV plC at *
  simp only at hpl2
  obtain ⟨b0, b1, b2⟩ := hpl2
  obtain ⟨a0, a1, a2⟩ := three_cells hP
  have HW := Lib.hid hW
  rw [hW] at hlv hvr hlk a0 a1 a2 hvr2 b0 b1 b2
  clear hW hP hR hB hB2 hmap h ok hm hl
  simp only at hlk ⊢
  cases hlo : lightOf M (px, py, pz) with
  | some x =>
    rw [hlo] at hlk
    have HX := Lib.hid (show nowAt f M (px, py, pz) = x by unfold nowAt; rw [hlo]; rfl)
    simp only [Option.map_some, clV, if_true] at hlk
    clear hlo
    go_enter Try.func27, Try.ntmps27
    clear hvr2 b0 b1 b2
    go_wp2
    refine bodyPost_ret (v := clV x) (by simp [results, Try.results27, go_sem, clV]) rfl ⟨?_, av, [], JustOne.nil _ _, Asks.nil HF.out ?_⟩
    · rw [HX.out]
    · exact (((Below.refl _ _).alloc (Nat.le_refl _) _).alloc (by simp) _).alloc (by simp; omega) _
  | none =>
    rw [hlo] at hlk
    have HX := Lib.hid (show nowAt f M (px, py, pz) = lightAt f (px, py, pz) by unfold nowAt; rw [hlo]; rfl)
    simp only [Option.map_none, if_true] at hlk
    clear hlo
    have hme := m_light ⟨g, 0, none⟩
    go_enter Try.func27, Try.ntmps27
    go_wp2_with fail
    rw [← HW.out]
    go_at_call 100
    refine HWL.out.mono ?_
    rintro e w2 ⟨rfl, av', has⟩
    have HAS := Lib.hid has
    have hnot : ¬ QF g av.ownBlock (W.heap.size + 1) := by
      rintro (h | h)
      · have := HF.out.blk.lt; omega
      · have := (HF.out.asked.lt _ h.symm).2; omega
    have HR3 := Lib.hid ((HR2.out.only has.only hnot).alloc (.cells #[.int .u8 (lightAt f (px, py, pz)).1, .int .u8 (lightAt f (px, py, pz)).2] 43))
    obtain ⟨⟨n1, n2⟩, n3, n4⟩ := HIN.out
    have HAS3 := Lib.hid ((has.from_ HB2.out).under ((Below.refl _ _).alloc (Nat.le_refl _) (.cells #[.int .u8 (lightAt f (px, py, pz)).1, .int .u8 (lightAt f (px, py, pz)).2] 43)))
    have HNV := Lib.hid (show av'.ownBlock ≠ some (W.heap.size + 1) from fun e => by
      rcases has.new with h | ⟨k, h1, h2⟩
      · exact hnot (.inr (h.symm.trans e).symm)
      · have h3 : k = W.heap.size + 1 := Option.some.inj (h1.symm.trans e)
        rw [HW.out] at h2
        simp at h2
        omega)
    clear has hnot hvr hlv hlk a0 a1 a2 b0 b1 b2 hvr2
    unfold clV
    generalize lightAt f (px, py, pz) = x at *
    obtain ⟨r0, r1⟩ := two_cells HR3.out
    obtain ⟨f0, f1⟩ := two_free HR3.out
    go_wp2
    have m1 : min x.1 15 = x.1 := by omega
    have m2 : min x.2 15 = x.2 := by omega
    rw [m1, m2]
    obtain ⟨g0, g1⟩ := two_set HR3.out (.int .u8 x.1) (.int .u8 x.2)
    refine bodyPost_ret (v := .agg #[.int .u8 x.1, .int .u8 x.2]) (by simp [results, Try.results27, go_sem, g0, g1]) rfl ⟨?_, av', [(px, py, pz)], JustOne.one _, (HAS3.out.set HF.out (p := ⟨W.heap.size + 1, 0, none⟩) (Nat.le_succ _) HNV.out _).set HF.out (p := ⟨W.heap.size + 1, 1, none⟩) (Nat.le_succ _) HNV.out _⟩
    rw [HX.out]
    rfl
end Go.Proofs.Ytlhjjmfbifhgfaa
/- The closures of the two waves: what a place has of its own, what it has by now: the walks. -/
namespace Go.Proofs.Ytlhjjmfbifhgfaa
set_option linter.unusedSimpArgs false
set_option linter.unusedVariables false
open Go.RowKit
set_option maxRecDepth 100000

theorem map_blk_ne {W : World} {p m : Nat} {t : TypeId} {cs : Array Value} {M : List (Ent Pl)} {c : Nat} {kv : Pl → Value} {ok : Pl → Prop} (h : Blk W p t cs) (hm : MapIs kv ok W m M c) : p ≠ m := by
  rintro rfl
  have h1 := hm.block
  unfold Blk at h
  rw [h1] at h
  cases h
theorem map_own_ne {W : World} {base e s n m : Nat} {v : Value} {xs : List Value} {M : List (Ent Pl)} {c : Nat} {kv : Pl → Value} {ok : Pl → Prop} (h : W.ownsRow base e s v n xs) (hm : MapIs kv ok W m M c) : v.ownBlock ≠ some m := by
  intro hk
  rcases h.2 with ⟨h1, _⟩ | ⟨g, cap, cur, h1, _, hg, _⟩
  · rw [h1] at hk; simp [Value.ownBlock] at hk
  · rw [h1] at hk
    have e1 : g = m := by simpa [Value.ownBlock] using hk
    rw [e1, hm.block] at hg
    cases hg
section
variable {W W' : World} {base g b3 b10 b11 gm : Nat} {f : Fw} {cv lv av tv av' : Value} {M : LMap} {c : Nat} {l : List Pl}
theorem FS.under (h : FS W base g b3 b10 b11 gm f cv lv av tv M c) (hb : Below W.heap.size W W') : FS W' base g b3 b10 b11 gm f cv lv av tv M c :=
  ⟨h.fld.under hb, h.var.below hb h.var.lt, h.lvar.below hb h.lvar.lt, h.fvar.below hb h.fvar.lt, h.map.below hb h.map.inb⟩
theorem FS.alloc (h : FS W base g b3 b10 b11 gm f cv lv av tv M c) (o : Obj) : FS (W.alloc o) base g b3 b10 b11 gm f cv lv av tv M c := h.under ((Below.refl _ _).alloc (Nat.le_refl _) o)
/-- A block of another kind is not among those that a call that asks may write. -/
theorem FS.apart (h : FS W base g b3 b10 b11 gm f cv lv av tv M c) {p : Nat} {t : TypeId} {cs : Array Value} (hp : Blk W p t cs) (h1 : t ≠ 48) (h2 : t ≠ 23) : ¬ QF g av.ownBlock p := by
  rintro (e | e)
  · exact Blk.ne_ hp h.fld.blk h1 e
  · exact own_blk_ne h.fld.asked hp (Ne.symm h2) e.symm
theorem FS.asks (h : FS W base g b3 b10 b11 gm f cv lv av tv M c) (ha : Asks W W' base g f cv lv av tv l av') : FS W' base g b3 b10 b11 gm { f with asked := f.asked ++ l } cv lv av' tv M c := by
  refine ⟨ha.fld, h.var.only ha.only (h.apart h.var (by decide) (by decide)), h.lvar.only ha.only (h.apart h.lvar (by decide) (by decide)), h.fvar.only ha.only (h.apart h.fvar (by decide) (by decide)), h.map.keep (ha.only.block gm h.map.inb ?_)⟩
  rintro (e | e)
  · exact map_blk_ne h.fld.blk h.map e.symm
  · exact map_own_ne h.fld.asked h.map e.symm
end
theorem field_sky (a b : Int) (w : World) : (Instr.field 43 (.agg #[.int .u8 a, .int .u8 b]) 0).run Try.prog w = .ok (.int .u8 a) w := by kernel_rfl
theorem field_lamp (a b : Int) (w : World) : (Instr.field 43 (.agg #[.int .u8 a, .int .u8 b]) 1).run Try.prog w = .ok (.int .u8 b) w := by kernel_rfl
set_option maxHeartbeats 2000000 in
theorem atL_any (W : World) (base g b3 b10 b11 gm : Nat) (f : Fw) (cv lv av tv : Value) (M : LMap) (c : Nat) (h : FS W base g b3 b10 b11 gm f cv lv av tv M c) (ok : f.Ok) (q : Pl) (hm : mayP q = true) (hl : f.asked.length ≤ 1000000000) :
    Calls Try.prog 29 #[plV q, .pointer (some ⟨b11, 0, none⟩)] W fun e w' => e = .returned (.int .u8 (nowAt f M q).2) ∧ ∃ av' l, JustOne q 1 l ∧ Asks W w' base g f cv lv av tv l av' := by
  have HL := Lib.hid (light_any _ base g b3 b10 b11 gm f cv lv av tv M c (h.alloc (.cells (plC q) 23)) ok q hm hl)
  have hv : (W.alloc (.cells (plC q) 23)).cell? ⟨b11, 0, none⟩ = some (.func (.func 27) #[] #[.pointer (some ⟨b10, 0, none⟩), .pointer (some ⟨b3, 0, none⟩)]) := (h.alloc _).fvar.cell 0
  have HB := Lib.hid ((Below.refl W.heap.size W).alloc (Nat.le_refl _) (.cells (plC q) 23))
  have hfl := field_lamp
  generalize hJ : (fun l => JustOne q 1 l) = J
  have hJ2 : ∀ l, JustOne q 1 l = J l := fun l => congrFun hJ l
  simp only [hJ2] at HL ⊢
  generalize nowAt f M q = x at HL ⊢
  unfold plV plC at *
  unfold clV at HL
  clear h hJ hJ2 hm hl ok
  obtain ⟨px, py, pz⟩ := q
  simp only at HL hv HB ⊢
  go_enter Try.func29, Try.ntmps29
  go_wp2_with fail
  go_at_call 27
  refine HL.out.mono ?_
  rintro e w1 ⟨rfl, av', l, hj, ha⟩
  have HA := Lib.hid (ha.from_ HB.out)
  have HJ := Lib.hid hj
  clear ha hj hv
  go_wp2
  go_ret
  exact ⟨rfl, av', l, HJ.out, HA.out⟩
set_option maxHeartbeats 2000000 in
theorem atS_any (W : World) (base g b3 b10 b11 gm : Nat) (f : Fw) (cv lv av tv : Value) (M : LMap) (c : Nat) (h : FS W base g b3 b10 b11 gm f cv lv av tv M c) (ok : f.Ok) (q : Pl) (hm : mayP q = true) (hl : f.asked.length ≤ 1000000000) :
    Calls Try.prog 34 #[plV q, .pointer (some ⟨b11, 0, none⟩)] W fun e w' => e = .returned (.int .u8 (nowAt f M q).1) ∧ ∃ av' l, JustOne q 1 l ∧ Asks W w' base g f cv lv av tv l av' := by
  have HL := Lib.hid (light_any _ base g b3 b10 b11 gm f cv lv av tv M c (h.alloc (.cells (plC q) 23)) ok q hm hl)
  have hv : (W.alloc (.cells (plC q) 23)).cell? ⟨b11, 0, none⟩ = some (.func (.func 27) #[] #[.pointer (some ⟨b10, 0, none⟩), .pointer (some ⟨b3, 0, none⟩)]) := (h.alloc _).fvar.cell 0
  have HB := Lib.hid ((Below.refl W.heap.size W).alloc (Nat.le_refl _) (.cells (plC q) 23))
  have hfl := field_sky
  generalize hJ : (fun l => JustOne q 1 l) = J
  have hJ2 : ∀ l, JustOne q 1 l = J l := fun l => congrFun hJ l
  simp only [hJ2] at HL ⊢
  generalize nowAt f M q = x at HL ⊢
  unfold plV plC at *
  unfold clV at HL
  clear h hJ hJ2 hm hl ok
  obtain ⟨px, py, pz⟩ := q
  simp only at HL hv HB ⊢
  go_enter Try.func34, Try.ntmps34
  go_wp2_with fail
  go_at_call 27
  refine HL.out.mono ?_
  rintro e w1 ⟨rfl, av', l, hj, ha⟩
  have HA := Lib.hid (ha.from_ HB.out)
  have HJ := Lib.hid hj
  clear ha hj hv
  go_wp2
  go_ret
  exact ⟨rfl, av', l, HJ.out, HA.out⟩
set_option maxHeartbeats 2000000 in
theorem ownL_any (W : World) (base g b3 b10 b11 gm : Nat) (f : Fw) (cv lv av tv : Value) (M : LMap) (c : Nat) (h : FS W base g b3 b10 b11 gm f cv lv av tv M c) (ok : f.Ok) (q : Pl) (hm : mayP q = true) (hl : f.asked.length ≤ 1000000000) (hin : InU (cellAt f q).1 ∧ InU (cellAt f q).2) :
    Calls Try.prog 28 #[plV q, .pointer (some ⟨b3, 0, none⟩)] W fun e w' => e = .returned (.int .u8 (lampC (cellAt f q).1 (cellAt f q).2)) ∧ ∃ av', Asks W w' base g f cv lv av tv [q] av' := by
  have HC := Lib.hid (wcell_any _ base g f cv lv av tv (h.alloc (.cells (plC q) 23)).fld ok q hm hl)
  have HK := Lib.hid (fun w => klamp_any w (cellAt f q).1 (cellAt f q).2 hin.1 hin.2)
  have hv : (W.alloc (.cells (plC q) 23)).cell? ⟨b3, 0, none⟩ = some (.iface 29 (.pointer (some ⟨g, 0, none⟩))) := (h.alloc _).var.cell 0
  have HB := Lib.hid ((Below.refl W.heap.size W).alloc (Nat.le_refl _) (.cells (plC q) 23))
  have hme := m_cell ⟨g, 0, none⟩
  generalize cellAt f q = x at HC HK ⊢
  unfold plV plC at *
  unfold clV at HC
  clear h hm hl ok
  obtain ⟨px, py, pz⟩ := q
  simp only at HC hv HB ⊢
  go_enter Try.func28, Try.ntmps28
  go_wp2_with fail
  go_at_call 13
  refine HC.out.mono ?_
  rintro e w1 ⟨rfl, av', ha⟩
  have HA := Lib.hid (ha.from_ HB.out)
  clear ha hv
  go_wp2_with fail
  go_at_call 26
  refine (HK.out _).mono ?_
  rintro e w2 ⟨rfl, hb⟩
  have HA2 := Lib.hid (HA.out.under hb)
  clear hb
  go_wp2
  go_ret
  exact ⟨rfl, av', HA2.out⟩
end Go.Proofs.Ytlhjjmfbifhgfaa
/- A light put into the map of lights: plain laws. -/
namespace Go.Proofs.Ytlhjjmfbifhgfaa
set_option linter.unusedSimpArgs false
set_option linter.unusedVariables false
open Go.RowKit

def keysL (M : LMap) : List Pl := M.map (·.1)
def putL (M : LMap) (q : Pl) (v : Int × Int) (c : Nat) : LMap := if q ∈ keysL M then M.map (fun x => if x.1 = q then (x.1, v, x.2.2) else x) else M ++ [(q, v, c)]
theorem keysL_ent (M : LMap) : keysOf (M.map entL) = keysL M := by
  unfold keysOf keysL
  rw [List.map_map]
  rfl
theorem putL_ent (M : LMap) (q : Pl) (v : Int × Int) (c : Nat) : (putL M q v c).map entL = putM (M.map entL) q (clV v) c := by
  unfold putL putM
  rw [keysL_ent]
  split
  · unfold setM
    rw [List.map_map, List.map_map]
    refine List.map_congr_left fun x _ => ?_
    simp only [Function.comp]
    by_cases h : x.1 = q <;> simp [h, entL]
  · simp [entL]
theorem lightOf_none {M : LMap} {q : Pl} : lightOf M q = none ↔ q ∉ keysL M := by
  unfold lightOf keysL
  rw [Option.map_eq_none_iff, List.find?_eq_none]
  simp only [decide_eq_true_eq, List.mem_map, not_exists, not_and]
theorem lightOf_append (M N : LMap) (q : Pl) : lightOf (M ++ N) q = (lightOf M q).or (lightOf N q) := by
  unfold lightOf
  rw [List.find?_append]
  cases M.find? (fun x => decide (x.1 = q)) <;> rfl
theorem lightOf_put (M : LMap) (q : Pl) (v : Int × Int) (c : Nat) (r : Pl) : lightOf (putL M q v c) r = if r = q then some v else lightOf M r := by
  unfold putL
  by_cases hm : q ∈ keysL M
  · rw [if_pos hm]
    have key : ∀ N : LMap, lightOf (N.map fun x => if x.1 = q then (x.1, v, x.2.2) else x) r = if r = q ∧ q ∈ keysL N then some v else lightOf N r := by
      intro N
      induction N with
      | nil => simp [lightOf, keysL]
      | cons x N ih =>
        unfold lightOf keysL at ih ⊢
        simp only [List.map_cons, List.find?_cons, List.mem_cons]
        by_cases hx : x.1 = q
        · by_cases hr : r = q
          · subst hr; simp [hx]
          · have hxr : x.1 ≠ r := fun e => hr (e.symm.trans hx)
            simp only [hx, if_true, if_pos trivial]
            have : ¬ q = r := fun e => hr e.symm
            simp only [this, decide_false, hr, false_and, if_false] at ih ⊢
            exact ih
        · have hq : ¬ q = x.1 := fun e => hx e.symm
          simp only [hx, if_false, hq, false_or] at ih ⊢
          by_cases hxr : x.1 = r
          · have : ¬ r = q := fun e => hx (hxr.trans e)
            simp [hxr, this]
          · simp only [hxr, decide_false] at ih ⊢
            exact ih
    rw [key M]
    by_cases hr : r = q
    · rw [if_pos ⟨hr, hm⟩, if_pos hr]
    · rw [if_neg (fun h => hr h.1), if_neg hr]
  · rw [if_neg hm, lightOf_append]
    by_cases hr : r = q
    · subst hr
      rw [lightOf_none.2 hm, if_pos rfl]
      simp [lightOf]
    · rw [if_neg hr]
      have : lightOf [(q, v, c)] r = none := by
        rw [lightOf_none]
        simp [keysL, hr]
      rw [this]
      cases lightOf M r <;> rfl
theorem mem_keysL {M : LMap} {r : Pl} : r ∈ keysL M ↔ lightOf M r ≠ none := by rw [Ne, lightOf_none, Decidable.not_not]
theorem keysL_put (M : LMap) (q : Pl) (v : Int × Int) (c : Nat) (r : Pl) : r ∈ keysL (putL M q v c) ↔ r ∈ keysL M ∨ r = q := by
  rw [mem_keysL, lightOf_put]
  by_cases hr : r = q
  · simp [hr]
  · rw [if_neg hr, ← mem_keysL]; simp [hr]
theorem nowAt_put (f : Fw) (M : LMap) (q : Pl) (v : Int × Int) (c : Nat) (r : Pl) : nowAt f (putL M q v c) r = if r = q then v else nowAt f M r := by
  unfold nowAt
  rw [lightOf_put]
  split <;> rfl
end Go.Proofs.Ytlhjjmfbifhgfaa
/- The closures that set a light: the walks. -/
namespace Go.Proofs.Ytlhjjmfbifhgfaa
set_option linter.unusedSimpArgs false
set_option linter.unusedVariables false
open Go.RowKit
set_option maxRecDepth 100000

/-- What a call that sets a light leaves. -/
structure Sets (W W' : World) (base g b3 b10 b11 gm : Nat) (f : Fw) (cv lv av tv : Value) (M' : LMap) (c' : Nat) (l : List Pl) (av' : Value) : Prop where
  fs : FS W' base g b3 b10 b11 gm { f with asked := f.asked ++ l } cv lv av' tv M' c'
  only : Only W W' (fun k => QF g av.ownBlock k ∨ k = gm)
  new : av'.ownBlock = av.ownBlock ∨ ∃ k, av'.ownBlock = some k ∧ W.heap.size ≤ k
theorem FS.put {W W' : World} {base g b3 b10 b11 gm : Nat} {f : Fw} {cv lv av tv : Value} {M : LMap} {c : Nat} (h : FS W base g b3 b10 b11 gm f cv lv av tv M c) {q : Pl} {v : Int × Int} (hm : MapIs plV PlOk W' gm (putM (M.map entL) q (clV v) c) (putC (M.map entL) q c)) (hg : W.grownBy W' (some gm)) :
    FS W' base g b3 b10 b11 gm f cv lv av tv (putL M q v c) (putC (M.map entL) q c) := by
  have hk : ∀ {p t : Nat} {cs : Array Value}, Blk W p t cs → Blk W' p t cs := fun hb => hb.grown hg (fun e => map_blk_ne hb h.map (Option.some.inj e))
  have hr : ∀ {e s n : Nat} {v : Value} {xs : List Value}, W.ownsRow base e s v n xs → W'.ownsRow base e s v n xs := fun hr => hr.kept hg (by
    have := map_own_ne hr h.map
    exact .inr this)
  exact ⟨⟨hk h.fld.blk, hr h.fld.cells, hr h.fld.lights, hr h.fld.asked, hr h.fld.told, h.fld.low, h.fld.apart⟩, hk h.var, hk h.lvar, hk h.fvar, by rw [putL_ent]; exact hm⟩
set_option maxHeartbeats 4000000 in
theorem setL_any (W : World) (base g b3 b10 b11 gm : Nat) (f : Fw) (cv lv av tv : Value) (M : LMap) (c : Nat) (h : FS W base g b3 b10 b11 gm f cv lv av tv M c) (ok : f.Ok) (q : Pl) (n : Int) (hm : mayP q = true) (hl : f.asked.length ≤ 1000000000) :
    Calls Try.prog 30 #[plV q, .int .u8 n, .pointer (some ⟨b11, 0, none⟩), .pointer (some ⟨b10, 0, none⟩)] W fun e w' => e = .returned (.tuple #[]) ∧ ∃ av' l, JustOne q 1 l ∧ Sets W w' base g b3 b10 b11 gm f cv lv av tv (putL M q ((nowAt f M q).1, n) c) (putC (M.map entL) q c) l av' := by
  obtain ⟨W1, hW⟩ : ∃ W1, W1 = W.alloc (.cells (plC q) 23) := ⟨_, rfl⟩
  have h1 : FS W1 base g b3 b10 b11 gm f cv lv av tv M c := by rw [hW]; exact h.alloc _
  have hB : Below W.heap.size W W1 := by rw [hW]; exact (Below.refl _ _).alloc (Nat.le_refl _) _
  have hP : Blk W1 W.heap.size 23 (plC q) := by rw [hW]; exact Blk.new _ _ _
  have hLt : W.heap.size < W1.heap.size := hP.lt
  have HL := Lib.hid (fun W' (h' : FS W' base g b3 b10 b11 gm f cv lv av tv M c) => light_any W' base g b3 b10 b11 gm f cv lv av tv M c h' ok q hm hl)
  have HF1 := Lib.hid h1
  have hv10 : W1.cell? ⟨b10, 0, none⟩ = some (.map (some gm)) := h1.lvar.cell 0
  have hv11 : W1.cell? ⟨b11, 0, none⟩ = some (.func (.func 27) #[] #[.pointer (some ⟨b10, 0, none⟩), .pointer (some ⟨b3, 0, none⟩)]) := h1.fvar.cell 0
  have HPA := Lib.hid (show ∀ k, W.heap.size ≤ k → ¬ QF g av.ownBlock k from fun k hk hq => by
    rcases hq with e | e
    · have := h.fld.blk.lt; omega
    · have := (h.fld.asked.lt k e.symm).2; omega)
  have HP := Lib.hid hP
  have HOK := Lib.hid (PlOk.of_may hm)
  have HB := Lib.hid hB
  have hfs := field_sky
  unfold clV at HL
  obtain ⟨⟨x1, x2⟩, hx⟩ : ∃ x, x = nowAt f M q := ⟨_, rfl⟩
  rw [← hx] at HL ⊢
  have HW := Lib.hid hW
  obtain ⟨a0, a1, a2⟩ := three_cells hP
  clear hW h1 hB hP h ok hm hl hx
  unfold plV plC at *
  obtain ⟨px, py, pz⟩ := q
  simp only at HL HW a0 a1 a2 HP ⊢
  go_enter Try.func30, Try.ntmps30
  go_wp2
  rw [← HW.out]
  go_region_held (fun w' => w'.cell? ⟨W.heap.size, 0, none⟩ = some (.int .i64 px) ∧ w'.cell? ⟨W.heap.size, 1, none⟩ = some (.int .i64 py) ∧ w'.cell? ⟨W.heap.size, 2, none⟩ = some (.int .i64 pz) ∧ w'.cell? ⟨b10, 0, none⟩ = some (.map (some gm)) ∧ w'.cell? ⟨b11, 0, none⟩ = some (.func (.func 27) #[] #[.pointer (some ⟨b10, 0, none⟩), .pointer (some ⟨b3, 0, none⟩)]))
    (first | exact ⟨a0, a1, a2, hv10, hv11⟩ | assumption | go_keep)
    (first | (go_at_call 27; refine (HL.out _ (HF1.out.under (Below.refl _ _).drew)).mono ?_; rintro e w2 ⟨rfl, av', l, hj, ha⟩; have hs2 := (HF1.out.under (Below.refl _ _).drew).asks ha; have hp2 := HP.out.drew.only ha.only (HPA.out _ (Nat.le_refl _)); obtain ⟨W3, hup, hm3, hg3⟩ := hs2.map.update keyed_ Try.underlying67 key_pl plV_inj HOK.out (clV (x1, n)); have HS3 := Lib.hid (hs2.put (v := (x1, n)) hm3 hg3); have HA := Lib.hid ha; have HJ := Lib.hid hj; have HG3 := Lib.hid hg3; have hp3 := hp2.grown hg3 (fun e => map_blk_ne hp2 hs2.map (Option.some.inj e)); have S2 := And.intro (show w2.cell? ⟨W.heap.size, 0, none⟩ = some (.int .i64 px) from hp2.cell 0) (And.intro (show w2.cell? ⟨W.heap.size, 1, none⟩ = some (.int .i64 py) from hp2.cell 1) (And.intro (show w2.cell? ⟨W.heap.size, 2, none⟩ = some (.int .i64 pz) from hp2.cell 2) (And.intro (show w2.cell? ⟨b10, 0, none⟩ = some (.map (some gm)) from hs2.lvar.cell 0) (show w2.cell? ⟨b11, 0, none⟩ = some (.func (.func 27) #[] #[.pointer (some ⟨b10, 0, none⟩), .pointer (some ⟨b3, 0, none⟩)]) from hs2.fvar.cell 0)))); have S3 := And.intro (show W3.cell? ⟨W.heap.size, 0, none⟩ = some (.int .i64 px) from hp3.cell 0) (And.intro (show W3.cell? ⟨W.heap.size, 1, none⟩ = some (.int .i64 py) from hp3.cell 1) (And.intro (show W3.cell? ⟨W.heap.size, 2, none⟩ = some (.int .i64 pz) from hp3.cell 2) (And.intro (show W3.cell? ⟨b10, 0, none⟩ = some (.map (some gm)) from HS3.out.lvar.cell 0) (show W3.cell? ⟨b11, 0, none⟩ = some (.func (.func 27) #[] #[.pointer (some ⟨b10, 0, none⟩), .pointer (some ⟨b3, 0, none⟩)]) from HS3.out.fvar.cell 0)))); have hup := (show (Instr.mapUpdate 67 (.map (some gm)) (.agg #[.int .i64 px, .int .i64 py, .int .i64 pz]) (.agg #[.int .u8 x1, .int .u8 n])).run Try.prog w2 = .ok () W3 from hup); clear hs2 hp2 hm3 hg3 ha hj hp3))
  go_end0
  refine ⟨rfl, av', l, HJ.out, HS3.out, ?_, HA.out.new.imp id fun ⟨k, h1, h2⟩ => ⟨k, h1, ?_⟩⟩
  · exact ((Only.of_below (S := fun k => QF g av.ownBlock k ∨ k = gm) HB.out).drew.trans (HA.out.only.mono (fun _ h => .inl h)) (fun _ h => .inl h)).grown HG3.out (fun k hk => .inl (.inr (Option.some.inj hk).symm))
  · have h3 : W1.heap.size ≤ k := h2
    omega
set_option maxHeartbeats 4000000 in
theorem setS_any (W : World) (base g b3 b10 b11 gm : Nat) (f : Fw) (cv lv av tv : Value) (M : LMap) (c : Nat) (h : FS W base g b3 b10 b11 gm f cv lv av tv M c) (ok : f.Ok) (q : Pl) (n : Int) (hm : mayP q = true) (hl : f.asked.length ≤ 1000000000) :
    Calls Try.prog 35 #[plV q, .int .u8 n, .pointer (some ⟨b11, 0, none⟩), .pointer (some ⟨b10, 0, none⟩)] W fun e w' => e = .returned (.tuple #[]) ∧ ∃ av' l, JustOne q 1 l ∧ Sets W w' base g b3 b10 b11 gm f cv lv av tv (putL M q (n, (nowAt f M q).2) c) (putC (M.map entL) q c) l av' := by
  obtain ⟨W1, hW⟩ : ∃ W1, W1 = W.alloc (.cells (plC q) 23) := ⟨_, rfl⟩
  have h1 : FS W1 base g b3 b10 b11 gm f cv lv av tv M c := by rw [hW]; exact h.alloc _
  have hB : Below W.heap.size W W1 := by rw [hW]; exact (Below.refl _ _).alloc (Nat.le_refl _) _
  have hP : Blk W1 W.heap.size 23 (plC q) := by rw [hW]; exact Blk.new _ _ _
  have hLt : W.heap.size < W1.heap.size := hP.lt
  have HL := Lib.hid (fun W' (h' : FS W' base g b3 b10 b11 gm f cv lv av tv M c) => light_any W' base g b3 b10 b11 gm f cv lv av tv M c h' ok q hm hl)
  have HF1 := Lib.hid h1
  have hv10 : W1.cell? ⟨b10, 0, none⟩ = some (.map (some gm)) := h1.lvar.cell 0
  have hv11 : W1.cell? ⟨b11, 0, none⟩ = some (.func (.func 27) #[] #[.pointer (some ⟨b10, 0, none⟩), .pointer (some ⟨b3, 0, none⟩)]) := h1.fvar.cell 0
  have HPA := Lib.hid (show ∀ k, W.heap.size ≤ k → ¬ QF g av.ownBlock k from fun k hk hq => by
    rcases hq with e | e
    · have := h.fld.blk.lt; omega
    · have := (h.fld.asked.lt k e.symm).2; omega)
  have HP := Lib.hid hP
  have HOK := Lib.hid (PlOk.of_may hm)
  have HB := Lib.hid hB
  have hfs := field_lamp
  unfold clV at HL
  obtain ⟨⟨x1, x2⟩, hx⟩ : ∃ x, x = nowAt f M q := ⟨_, rfl⟩
  rw [← hx] at HL ⊢
  have HW := Lib.hid hW
  obtain ⟨a0, a1, a2⟩ := three_cells hP
  clear hW h1 hB hP h ok hm hl hx
  unfold plV plC at *
  obtain ⟨px, py, pz⟩ := q
  simp only at HL HW a0 a1 a2 HP ⊢
  go_enter Try.func35, Try.ntmps35
  go_wp2
  rw [← HW.out]
  go_region_held (fun w' => w'.cell? ⟨W.heap.size, 0, none⟩ = some (.int .i64 px) ∧ w'.cell? ⟨W.heap.size, 1, none⟩ = some (.int .i64 py) ∧ w'.cell? ⟨W.heap.size, 2, none⟩ = some (.int .i64 pz) ∧ w'.cell? ⟨b10, 0, none⟩ = some (.map (some gm)) ∧ w'.cell? ⟨b11, 0, none⟩ = some (.func (.func 27) #[] #[.pointer (some ⟨b10, 0, none⟩), .pointer (some ⟨b3, 0, none⟩)]))
    (first | exact ⟨a0, a1, a2, hv10, hv11⟩ | assumption | go_keep)
    (first | (go_at_call 27; refine (HL.out _ (HF1.out.under (Below.refl _ _).drew)).mono ?_; rintro e w2 ⟨rfl, av', l, hj, ha⟩; have hs2 := (HF1.out.under (Below.refl _ _).drew).asks ha; have hp2 := HP.out.drew.only ha.only (HPA.out _ (Nat.le_refl _)); obtain ⟨W3, hup, hm3, hg3⟩ := hs2.map.update keyed_ Try.underlying67 key_pl plV_inj HOK.out (clV (n, x2)); have HS3 := Lib.hid (hs2.put (v := (n, x2)) hm3 hg3); have HA := Lib.hid ha; have HJ := Lib.hid hj; have HG3 := Lib.hid hg3; have hp3 := hp2.grown hg3 (fun e => map_blk_ne hp2 hs2.map (Option.some.inj e)); have S2 := And.intro (show w2.cell? ⟨W.heap.size, 0, none⟩ = some (.int .i64 px) from hp2.cell 0) (And.intro (show w2.cell? ⟨W.heap.size, 1, none⟩ = some (.int .i64 py) from hp2.cell 1) (And.intro (show w2.cell? ⟨W.heap.size, 2, none⟩ = some (.int .i64 pz) from hp2.cell 2) (And.intro (show w2.cell? ⟨b10, 0, none⟩ = some (.map (some gm)) from hs2.lvar.cell 0) (show w2.cell? ⟨b11, 0, none⟩ = some (.func (.func 27) #[] #[.pointer (some ⟨b10, 0, none⟩), .pointer (some ⟨b3, 0, none⟩)]) from hs2.fvar.cell 0)))); have S3 := And.intro (show W3.cell? ⟨W.heap.size, 0, none⟩ = some (.int .i64 px) from hp3.cell 0) (And.intro (show W3.cell? ⟨W.heap.size, 1, none⟩ = some (.int .i64 py) from hp3.cell 1) (And.intro (show W3.cell? ⟨W.heap.size, 2, none⟩ = some (.int .i64 pz) from hp3.cell 2) (And.intro (show W3.cell? ⟨b10, 0, none⟩ = some (.map (some gm)) from HS3.out.lvar.cell 0) (show W3.cell? ⟨b11, 0, none⟩ = some (.func (.func 27) #[] #[.pointer (some ⟨b10, 0, none⟩), .pointer (some ⟨b3, 0, none⟩)]) from HS3.out.fvar.cell 0)))); have hup := (show (Instr.mapUpdate 67 (.map (some gm)) (.agg #[.int .i64 px, .int .i64 py, .int .i64 pz]) (.agg #[.int .u8 n, .int .u8 x2])).run Try.prog w2 = .ok () W3 from hup); clear hs2 hp2 hm3 hg3 ha hj hp3))
  go_end0
  refine ⟨rfl, av', l, HJ.out, HS3.out, ?_, HA.out.new.imp id fun ⟨k, h1, h2⟩ => ⟨k, h1, ?_⟩⟩
  · exact ((Only.of_below (S := fun k => QF g av.ownBlock k ∨ k = gm) HB.out).drew.trans (HA.out.only.mono (fun _ h => .inl h)) (fun _ h => .inl h)).grown HG3.out (fun k hk => .inl (.inr (Option.some.inj hk).symm))
  · have h3 : W1.heap.size ≤ k := h2
    omega
end Go.Proofs.Ytlhjjmfbifhgfaa
/- What a place has of the sky's own: the walk. -/
namespace Go.Proofs.Ytlhjjmfbifhgfaa
set_option linter.unusedSimpArgs false
set_option linter.unusedVariables false
open Go.RowKit
set_option maxRecDepth 100000

set_option maxHeartbeats 2000000 in
theorem ownS_any (W : World) (b13 gs : Nat) (Ls : List (Ent Pl)) (c : Nat) (hb : Blk W b13 76 #[.map (some gs)]) (hs : MapIs plV PlOk W gs Ls c) (he : ∀ x ∈ Ls, ∃ k : Int, x.2.1 = .int .i64 k ∧ 1 ≤ k ∧ k ≤ 1000) (q : Pl) (hm : mayP q = true) :
    Calls Try.prog 33 #[plV q, .pointer (some ⟨b13, 0, none⟩)] W fun e w' => e = .returned (.int .u8 (if q ∈ keysOf Ls then 15 else 0)) ∧ Below W.heap.size W w' := by
  have HB := Lib.hid ((Below.refl W.heap.size W).alloc (Nat.le_refl _) (.cells (plC q) 23))
  have hlk := (hs.alloc (.cells (plC q) 23)).lookup keyed_ Try.underlying76 key_pl plV_inj (PlOk.of_may hm) false (zero_int _)
  have hv : (W.alloc (.cells (plC q) 23)).cell? ⟨b13, 0, none⟩ = some (.map (some gs)) := (hb.alloc _).cell 0
  cases hg : getM Ls q with
  | none =>
    rw [hg] at hlk
    rw [if_neg (getM_none.1 hg)]
    clear hb hs he hg hm
    unfold plV plC at *
    obtain ⟨px, py, pz⟩ := q
    simp only at hlk hv HB ⊢
    go_enter Try.func33, Try.ntmps33
    go_wp2
    go_ret
    exact ⟨rfl, HB.out⟩
  | some v =>
    have hk : q ∈ keysOf Ls := by
      rcases Classical.em (q ∈ keysOf Ls) with h | h
      · exact h
      · rw [getM_none.2 h] at hg; cases hg
    obtain ⟨k, rfl, hk1, hk2⟩ : ∃ k : Int, v = .int .i64 k ∧ 1 ≤ k ∧ k ≤ 1000 := by
      unfold getM at hg
      obtain ⟨x, hx, rfl⟩ := Option.map_eq_some_iff.1 hg
      exact he x (List.mem_of_find?_eq_some hx)
    rw [hg] at hlk
    rw [if_pos hk]
    have hk3 : decide ((0 : Int) < k) = true := decide_eq_true (by omega)
    clear hb hs he hg hm hk
    unfold plV plC at *
    obtain ⟨px, py, pz⟩ := q
    simp only at hlk hv HB ⊢
    go_enter Try.func33, Try.ntmps33
    go_wp2
    go_ret
    exact ⟨rfl, HB.out⟩
end Go.Proofs.Ytlhjjmfbifhgfaa
/- The column below a place: the walk. -/
namespace Go.Proofs.Ytlhjjmfbifhgfaa
set_option linter.unusedSimpArgs false
set_option linter.unusedVariables false
open Go.RowKit
set_option maxRecDepth 100000

/-- Is an index's cell clear? -/
def clrF (f : Fw) (i : Nat) : Bool := clearC (f.cells.getD i (0, 0)).1 (f.cells.getD i (0, 0)).2
theorem clear_at (f : Fw) (q : Pl) : clearC (cellAt f q).1 (cellAt f q).2 = true ↔ clearAt f.b (clrF f) q := by
  unfold cellAt clearAt clrF
  by_cases h : f.b.inside q
  · rw [if_pos h]; exact ⟨fun h2 => ⟨h, h2⟩, fun h2 => h2.2⟩
  · rw [if_neg h]
    constructor
    · intro h2; exact absurd h2 (by decide)
    · intro h2; exact absurd h2.1 h
theorem cellAt_in {f : Fw} (ok : f.Ok) (q : Pl) : InU (cellAt f q).1 ∧ InU (cellAt f q).2 := by
  unfold cellAt
  split
  · rename_i h
    have hl : f.b.idx q < f.cells.length := by rw [ok.cells]; exact f.b.idx_lt h
    rw [List.getD_eq_getElem?_getD, List.getElem?_eq_getElem hl]
    exact ok.cin _ (List.getElem_mem hl)
  · exact ⟨by unfold InU; decide, by unfold InU; decide⟩
theorem Fw.Ok.asks {f : Fw} (ok : f.Ok) (l : List Pl) : Fw.Ok { f with asked := f.asked ++ l } := ⟨ok.box, ok.cells, ok.lights, ok.cin, ok.lin⟩
theorem Asks.more {W W' W'' : World} {base g : Nat} {f : Fw} {cv lv av tv av' av'' : Value} {l m : List Pl} (h : Asks W W' base g f cv lv av tv l av') (k : Asks W' W'' base g { f with asked := f.asked ++ l } cv lv av' tv m av'') : Asks W W'' base g f cv lv av tv (l ++ m) av'' := by
  have hs := h.only.size
  refine ⟨by have := k.fld; simpa [List.append_assoc] using this, h.only.trans k.only fun i hi => ?_, ?_⟩
  · rcases hi with e | e
    · exact .inl (.inl e)
    · rcases h.new with h1 | ⟨j, h1, h2⟩
      · exact .inl (.inr (e.trans h1))
      · have : i = j := Option.some.inj (e.trans h1)
        exact .inr (by omega)
  · rcases k.new with h1 | ⟨j, h1, h2⟩
    · rcases h.new with h3 | ⟨i, h3, h4⟩
      · exact .inl (h1.trans h3)
      · exact .inr ⟨i, h1.trans h3, h4⟩
    · exact .inr ⟨j, h1, by omega⟩
theorem Asks.grown {W W' W'' : World} {base g : Nat} {f : Fw} {cv lv av tv av' : Value} {l : List Pl} (h : Asks W W' base g f cv lv av tv l av') (h0 : FieldAt W base g f cv lv av tv) {row : Option Nat} (hg : W'.grownBy W'' row) (hr : ∀ k, row = some k → W.heap.size ≤ k ∧ av'.ownBlock ≠ some k) : Asks W W'' base g f cv lv av tv l av' := by
  have hk : ∀ {e s n : Nat} {v : Value} {xs ys : List Value} {s' n' : Nat}, W.ownsRow base e s v n xs → W'.ownsRow base e s' v n' ys → W''.ownsRow base e s' v n' ys := fun {e s n v xs ys s' n'} h1 h2 =>
    h2.kept hg (by
      cases hv : v.ownBlock with
      | none => exact .inl rfl
      | some k => exact .inr fun e => by have h3 := (hr k e.symm).1; have h4 := (h1.lt k hv).2; omega)
  refine ⟨⟨h.fld.blk.grown hg (fun e => by have h3 := (hr g e.symm).1; have h4 := h0.blk.lt; omega), hk h0.cells h.fld.cells, hk h0.lights h.fld.lights, h.fld.asked.kept hg ?_, hk h0.told h.fld.told, h.fld.low, h.fld.apart⟩, h.only.grown hg (fun k hk => .inr (hr k hk).1), h.new⟩
  cases hv : av'.ownBlock with
  | none => exact .inl rfl
  | some k => exact .inr fun e => (hr k e.symm).2 hv
/-- What column's loop holds: the places so far, those asked. -/
structure ColumnAt (W wr : World) (base g : Nat) (f : Fw) (cv lv av tv : Value) (p : Pl) (v : Value) (m : Nat) (A : List Pl) (av' : Value) : Prop where
  box : Blk wr W.heap.size 23 (plC (downP p (m - 1)))
  row : PRow wr (W.heap.size + 1) v (colP p m)
  col : ColAt f.b (clrF f) p m
  fld : Asks W wr base g f cv lv av tv A av'
  few : A.length ≤ m
  near : ∀ x ∈ A, ∃ j, 1 ≤ j ∧ j ≤ m ∧ x = downP p j
  apart : ∀ k, v.ownBlock = some k → av'.ownBlock ≠ some k
  nbox : av'.ownBlock ≠ some W.heap.size
theorem colP_len (p : Pl) (m : Nat) : (colP p m).length = m := by simp [colP]
theorem colP_succ (p : Pl) (m : Nat) : colP p (m + 1) = colP p m ++ [downP p m] := by simp [colP, List.range_succ]
def vLen : Value → Nat | .slice _ n _ => n | _ => 0
theorem down_down (p : Pl) (m : Nat) (h : 1 ≤ m) : moveP (downP p (m - 1)) 5 = downP p m := by
  simp only [moveP, downP]
  rw [show p.2.1 - ((m - 1 : Nat) : Int) - 1 = p.2.1 - (m : Int) from by omega]
set_option maxHeartbeats 8000000 in
theorem column_any (W : World) (base g : Nat) (f : Fw) (cv lv av tv : Value) (h : FieldAt W base g f cv lv av tv) (ok : f.Ok) (p : Pl) (hp : f.b.inside p) (hl : f.asked.length ≤ 900000000) :
    Calls Try.prog 37 #[.iface 29 (.pointer (some ⟨g, 0, none⟩)), plV p] W fun e w' => ∃ v m A av', e = .returned v ∧ PRow w' (W.heap.size + 1) v (colP p m) ∧ ColAt f.b (clrF f) p m ∧ ¬ clearAt f.b (clrF f) (downP p m) ∧ Asks W w' base g f cv lv av tv A av' ∧ A.length ≤ 100 ∧ (∀ x ∈ A, ∃ j, 1 ≤ j ∧ j ≤ m ∧ x = downP p j) ∧ (∀ k, v.ownBlock = some k → av'.ownBlock ≠ some k) := by
  have HPI := Lib.hid hp
  have HMay := Lib.hid (Bx.inside_may ok.box hp)
  have HS := Lib.hid (fun w q => pstep_any w q 5 (by decide))
  have HC := Lib.hid (fun w (l : List Pl) av' (h' : FieldAt w base g { f with asked := f.asked ++ l } cv lv av' tv) (hl2 : (f.asked ++ l).length ≤ 1000000000) q (hm : mayP q = true) => wcell_any w base g { f with asked := f.asked ++ l } cv lv av' tv h' (ok.asks l) q hm hl2)
  have HK := Lib.hid (fun w q => fclear_any w (cellAt f q).1 (cellAt f q).2 (cellAt_in ok q).1 (cellAt_in ok q).2)
  have HF := Lib.hid h
  have HOK := Lib.hid ok
  have HL := Lib.hid hl
  have hme := m_cell ⟨g, 0, none⟩
  obtain ⟨W1, hW⟩ : ∃ W1, W1 = (W.alloc (.cells (plC p) 23)).alloc (.cells (plC p) 23) := ⟨_, rfl⟩
  have HST := Lib.hid (show ColumnAt W W1 base g f cv lv av tv p (.slice (some ⟨W.heap.size + 1, 0, none⟩) 1 1) 1 [] av from by
    have hnb : ∀ k, W.heap.size ≤ k → av.ownBlock ≠ some k := fun k hk e => absurd (h.asked.lt k e).2 (by omega)
    have hb2 := Blk.new (W.alloc (.cells (plC p) 23)) 23 (plC p)
    rw [show (W.alloc (.cells (plC p) 23)).heap.size = W.heap.size + 1 from by simp] at hb2
    rw [hW]
    refine ⟨?_, ⟨rfl, .inr ⟨W.heap.size + 1, 1, plC p, rfl, Nat.le_refl _, hb2, Nat.le_refl _, by decide, rfl, ?_⟩⟩, ⟨Nat.le_refl _, fun j h1 h2 => by omega⟩, Asks.nil h (((Below.refl _ _).alloc (Nat.le_refl _) _).alloc (by simp) _), Nat.zero_le _, fun x hx => absurd hx List.not_mem_nil, fun k hk => ?_, hnb _ (Nat.le_refl _)⟩
    · have := (Blk.new W 23 (plC p)).alloc (.cells (plC p) 23)
      rwa [show downP p (1 - 1) = p from downP_zero p]
    · rw [show colP p 1 = [p] from by simp [colP, downP_zero], rc_single]
      rfl
    · have : W.heap.size + 1 = k := by simpa [Value.ownBlock] using hk
      exact hnb k (by omega))
  unfold plV
  unfold plC at hW
  have HW := Lib.hid hW
  clear hW h ok hl hp
  obtain ⟨px, py, pz⟩ := p
  simp only at HW
  unfold plC
  simp only
  go_enter Try.func37, Try.ntmps37
  go_wp2
  rw [← HW.out]
  go_loopw [5] (fun v wr => ∃ m A av', m ≤ 64 ∧ ColumnAt W wr base g f cv lv av tv (px, py, pz) v m A av') (fun v _ => 70 - vLen v)
  case atStart => exact ⟨1, [], av, by omega, HST.out⟩
  case round =>
    obtain ⟨m, A, av', hm, hc⟩ := hrel
    have HCO := Lib.hid hc
    have hm1 := hc.col.pos
    obtain ⟨⟨qx, qy, qz⟩, hq⟩ : ∃ q, q = downP (px, py, pz) (m - 1) := ⟨_, rfl⟩
    have HQ := Lib.hid hq
    have hbx := hc.box
    rw [← hq] at hbx
    obtain ⟨a0, a1, a2⟩ := three_cells (show Blk wr W.heap.size 23 #[.int .i64 qx, .int .i64 qy, .int .i64 qz] from hbx)
    have HBX := Lib.hid hbx
    have HS1 := Lib.hid (HS.out wr (qx, qy, qz))
    unfold stepV plV plC at HS1
    have HMQ := Lib.hid (show mayP (qx, qy, qz) = true from by
      rw [hq]
      rcases Nat.lt_or_ge 1 m with h | h
      · exact Bx.inside_may HOK.out.box (hc.col.clear (m - 1) (by omega) (by omega)).1
      · rw [show m - 1 = 0 by omega, downP_zero]; exact HMay.out)
    have HDD := Lib.hid (show moveP (qx, qy, qz) 5 = downP (px, py, pz) m by rw [hq]; exact down_down _ _ hm1)
    clear hc hq hbx
    cases hs : stepP (qx, qy, qz) 5 with
    | none =>
      rw [hs] at HS1
      have HN := Lib.hid hs
      simp only at HS1
      clear hs
      go_wp2_with fail
      go_at_call 36
      refine HS1.out.mono ?_
      rintro e w2 ⟨rfl, hb⟩
      have HB2 := Lib.hid (hb.alloc hb.size (.cells #[.int .i64 0, .int .i64 0, .int .i64 0] 23))
      clear hb a0 a1 a2
      go_wp2
      go_ret
      refine ⟨_, m, A, av', rfl, own_below HCO.out.row HB2.out, HCO.out.col, ?_, HCO.out.fld.under HB2.out, Nat.le_trans HCO.out.few (by omega), HCO.out.near, HCO.out.apart⟩
      intro hcl
      have h1 := HN.out
      unfold stepP at h1
      rw [HMQ.out, HDD.out, Bx.inside_may HOK.out.box hcl.1] at h1
      simp at h1
    | some r =>
      obtain ⟨hs1, hs2, hs3⟩ := stepP_some hs
      rw [HDD.out] at hs3
      rw [hs] at HS1
      have HR := Lib.hid hs3
      have HMR := Lib.hid hs2
      clear hs hs1 hs3
      obtain ⟨rx, ry, rz⟩ := r
      simp only at HS1
      go_wp2_with fail
      go_at_call 36
      refine HS1.out.mono ?_
      rintro e w2 ⟨rfl, hb⟩
      have HB2 := Lib.hid (hb.alloc hb.size (.cells #[.int .i64 rx, .int .i64 ry, .int .i64 rz] 23))
      have hfa := HCO.out.few
      have HC1 := Lib.hid (HC.out _ A av' (HCO.out.fld.fld.under HB2.out) (by have := HL.out; rw [List.length_append]; omega) (rx, ry, rz) hs2)
      have HP2 := Lib.hid (show Blk (w2.alloc (.cells #[.int .i64 rx, .int .i64 ry, .int .i64 rz] 23)) w2.heap.size 23 #[.int .i64 rx, .int .i64 ry, .int .i64 rz] from Blk.new _ _ _)
      have hw2 : wr.heap.size ≤ w2.heap.size := hb.size
      have HBX2 := Lib.hid (HBX.out.below HB2.out HBX.out.lt)
      unfold plV plC clV at HC1
      clear hb a0 a1 a2 hs2
      go_wp2_with fail
      go_at_call 13
      refine HC1.out.mono ?_
      rintro e w3 ⟨rfl, av'', ha⟩
      have hrow2 := own_below HCO.out.row HB2.out
      have hnq : ∀ k, Value.ownBlock _ = some k → ¬ QF g av'.ownBlock k := fun k hk hq => by
        rcases hq with e | e
        · exact own_blk_ne hrow2 (HCO.out.fld.fld.under HB2.out).blk (by decide) (e ▸ hk)
        · exact HCO.out.apart k hk e.symm
      have HROW3 := Lib.hid (own_only hrow2 ha.only hnq)
      have HAS3 := Lib.hid ((HCO.out.fld.under HB2.out).more ha)
      have HAP3 := Lib.hid (show ∀ k, Value.ownBlock _ = some k → av''.ownBlock ≠ some k from fun k hk e => by
        rcases ha.new with h1 | ⟨j, h1, h2⟩
        · exact HCO.out.apart k hk (h1.symm.trans e)
        · have h3 := (hrow2.lt k hk).2
          have : j = k := Option.some.inj (h1.symm.trans e)
          omega)
      have hbq : ¬ QF g av'.ownBlock W.heap.size := fun hq => by
        rcases hq with e | e
        · have := HF.out.blk.lt; omega
        · exact HCO.out.nbox e.symm
      have HBX3 := Lib.hid (HBX2.out.only ha.only hbq)
      have HNB3 := Lib.hid (show av''.ownBlock ≠ some W.heap.size from fun e => by
        rcases ha.new with h1 | ⟨j, h1, h2⟩
        · exact HCO.out.nbox (h1.symm.trans e)
        · have h3 := HBX2.out.lt
          have : j = W.heap.size := Option.some.inj (h1.symm.trans e)
          omega)
      have hpq : ¬ QF g av'.ownBlock w2.heap.size := fun hq => by
        rcases hq with e | e
        · have h1 := HCO.out.fld.fld.blk.lt; omega
        · have h1 := (HCO.out.fld.fld.asked.lt _ e.symm).2; omega
      have HP3 := Lib.hid (HP2.out.only ha.only hpq)
      clear ha hrow2 hnq hbq hpq
      have HCL := Lib.hid (clear_at f (rx, ry, rz))
      have HK3 := Lib.hid (HK.out w3 (rx, ry, rz))
      generalize hcv : clearC (cellAt f (rx, ry, rz)).1 (cellAt f (rx, ry, rz)).2 = cv0 at HCL HK3
      cases cv0 with
      | false =>
        go_wp2_with fail
        go_at_call 25
        refine HK3.out.mono ?_
        rintro e w4 ⟨rfl, hb⟩
        have HB4 := Lib.hid hb
        clear hb
        go_wp2
        go_ret
        refine ⟨_, m, _, av'', rfl, own_below HROW3.out HB4.out, HCO.out.col, ?_, HAS3.out.under HB4.out, ?_, ?_, HAP3.out⟩
        · rw [← HR.out]
          exact fun h => absurd (HCL.out.2 h) (by simp)
        · rw [List.length_append, List.length_singleton]; omega
        · intro x hx
          rcases List.mem_append.1 hx with hx | hx
          · exact HCO.out.near x hx
          · simp only [List.mem_singleton] at hx
            exact ⟨m, hm1, Nat.le_refl _, by rw [hx, HR.out]⟩
      | true =>
        have hcl := (clear_at f (rx, ry, rz)).1 hcv
        have HDN := Lib.hid (show downP (px, py, pz) m = (rx, ry, rz) from HR.out.symm)
        have hm64 : m + 1 ≤ 64 := by
          have h1 := hcl.1
          have h2 := HPI.out
          have h3 := HDN.out
          have h4 := HOK.out.box
          have h5 := h4.ly
          have h6 := h4.hy
          unfold Bx.inside at h1 h2
          simp only [downP, Prod.mk.injEq] at h3
          simp only at h1 h2
          omega
        have HCLR := Lib.hid hcl
        clear hcl hcv
        go_wp2_with fail
        go_at_call 25
        refine HK3.out.mono ?_
        rintro e w4 ⟨rfl, hb⟩
        have HROW4 := Lib.hid (own_below HROW3.out hb)
        have HAS4 := Lib.hid (HAS3.out.under hb)
        have HBX4 := Lib.hid (HBX3.out.below hb HBX3.out.lt)
        have HP4 := Lib.hid (HP3.out.below hb HP3.out.lt)
        obtain ⟨a0, a1, a2⟩ := three_cells HP4.out
        have hz4 := HBX4.out.lt
        have HLEN := Lib.hid (show (colP (px, py, pz) m).length ≤ 1099511627775 by rw [colP_len]; omega)
        have HSZ := Lib.hid (show W.heap.size + 1 ≤ w4.heap.size from hz4)
        clear hb hz4
        go_wp2_with (at_builtin; refine row_law plE_len plE_one (by decide) Try.underlying46 infoPl rfl (by decide) HROW4.out rfl _ _ rfl rfl ((rx, ry, rz) : Pl) rfl rfl rfl HLEN.out HSZ.out ?_)
        intro v' w5 k1 k2 k3
        have hx : ∀ k, Value.ownBlock _ = some k → W.heap.size + 1 ≤ k ∧ k < wr.heap.size := fun k hk => HCO.out.row.lt k hk
        have HBX5 := Lib.hid ((HBX4.out.alloc (.cells #[.int .i64 rx, .int .i64 ry, .int .i64 rz] 23)).grown k2 (fun e => by have := (hx _ e.symm).1; omega))
        have HP5 := Lib.hid ((HP4.out.alloc (.cells #[.int .i64 rx, .int .i64 ry, .int .i64 rz] 23)).grown k2 (fun e => by have := (hx _ e.symm).2; omega))
        have HAS5 := Lib.hid ((HAS4.out.under ((Below.refl _ _).alloc (Nat.le_refl _) (.cells #[.int .i64 rx, .int .i64 ry, .int .i64 rz] 23))).grown HF.out k2 (fun k hk => ⟨by have := (hx k hk).1; omega, HAP3.out k hk⟩))
        have HAP5 := Lib.hid (show ∀ k, v'.ownBlock = some k → av''.ownBlock ≠ some k from fun k hk e => by
          rcases k3 with h1 | h1
          · exact HAP3.out k (h1.symm.trans hk) e
          · have h2 : w4.heap.size + 1 = k := Option.some.inj (h1.symm.trans hk)
            have h3 := (HAS4.out.fld.asked.lt k e).2
            omega)
        have HROW5 := Lib.hid k1
        obtain ⟨b0, b1, b2⟩ := three_cells HP5.out
        obtain ⟨c0, c1, c2⟩ := three_cells (show Blk w5 W.heap.size 23 #[.int .i64 qx, .int .i64 qy, .int .i64 qz] from HBX5.out)
        obtain ⟨f0, f1, f2⟩ := three_free (show Blk w5 W.heap.size 23 #[.int .i64 qx, .int .i64 qy, .int .i64 qz] from HBX5.out)
        clear k1 k2 k3 a0 a1 a2
        go_wp2
        have hrow6 : PRow w5 (W.heap.size + 1) v' (colP (px, py, pz) (m + 1)) := by
          rw [colP_succ, HDN.out]
          exact own_rc plE_len (by decide) HROW5.out rfl
        have ho6 := (((Only.refl w5 (fun k => k = W.heap.size)).setCell (p := ⟨W.heap.size, 0, none⟩) (.inl rfl) (.int .i64 rx)).setCell (p := ⟨W.heap.size, 1, none⟩) (.inl rfl) (.int .i64 ry)).setCell (p := ⟨W.heap.size, 2, none⟩) (.inl rfl) (.int .i64 rz)
        refine ⟨⟨m + 1, A ++ [(rx, ry, rz)], av'', hm64, ?_, ?_, ⟨by omega, fun j h1 h2 => ?_⟩, ((HAS5.out.set HF.out (p := ⟨W.heap.size, 0, none⟩) (Nat.le_refl _) HNB3.out _).set HF.out (p := ⟨W.heap.size, 1, none⟩) (Nat.le_refl _) HNB3.out _).set HF.out (p := ⟨W.heap.size, 2, none⟩) (Nat.le_refl _) HNB3.out _, ?_, ?_, HAP5.out, HNB3.out⟩, ?_⟩
        · rw [Nat.add_sub_cancel, HDN.out]
          exact three_blk (show Blk w5 W.heap.size 23 #[.int .i64 qx, .int .i64 qy, .int .i64 qz] from HBX5.out) _ _ _
        · exact own_only hrow6 ho6 (fun k hk e => by have := (hrow6.lt k hk).1; omega)
        · rcases Nat.lt_or_ge j m with h3 | h3
          · exact HCO.out.col.clear j h1 h3
          · rw [show j = m by omega, HDN.out]; exact HCLR.out
        · rw [List.length_append, List.length_singleton]; omega
        · intro x hx
          rcases List.mem_append.1 hx with hx | hx
          · obtain ⟨j, h1, h2, h3⟩ := HCO.out.near x hx
            exact ⟨j, h1, by omega, h3⟩
          · simp only [List.mem_singleton] at hx
            exact ⟨m, hm1, by omega, by rw [hx, HDN.out]⟩
        · obtain ⟨_, ao1, c1', e1, _⟩ := own_rat (d := ((0, 0, 0) : Pl)) plE_len hrow6
          obtain ⟨_, ao2, c2', e2, _⟩ := own_rat (d := ((0, 0, 0) : Pl)) plE_len HCO.out.row
          rw [e1, e2]
          simp only [vLen, colP_len]
          omega
end Go.Proofs.Ytlhjjmfbifhgfaa
/- The field's Lit: a place told, its light set: the walk. -/
namespace Go.Proofs.Ytlhjjmfbifhgfaa
set_option linter.unusedSimpArgs false
set_option linter.unusedVariables false
open Go.RowKit
set_option maxRecDepth 100000

/-- A store into a row of the call's own. -/
theorem own_put {w : World} {base e size n c g : Nat} {xs : List Value} (h : w.ownsRow base e size (.slice (some ⟨g, 0, none⟩) n c) n xs) (j : Nat) (u : Value) : (w.setCell ⟨g, j, none⟩ u).ownsRow base e size (.slice (some ⟨g, 0, none⟩) n c) n (xs.set j u) := by
  obtain ⟨h1, h2⟩ := h
  rcases h2 with ⟨h2, _⟩ | ⟨g', cap, cur, h2, h3, h4, h5, h6, h7, h8⟩
  · cases h2
  · injection h2 with e1 e2 e3
    injection e1 with e1
    injection e1 with e1
    subst e1 e3
    refine ⟨by rw [List.length_set]; exact h1, .inr ⟨g, c, cur.setIfInBounds j u, rfl, h3, Blk.set_ h4 j u, h5, h6, by rw [Array.size_setIfInBounds]; exact h7, ?_⟩⟩
    rw [Array.toList_setIfInBounds, List.take_set, h8]
theorem own_free {w : World} {base e size n m c g : Nat} {xs : List Value} (h : w.ownsRow base e size (.slice (some ⟨g, 0, none⟩) m c) n xs) (j : Nat) : w.frozen? ⟨g, j, none⟩ = false := by
  rcases h.2 with ⟨h2, _⟩ | ⟨g', cap, cur, h2, h3, h4, _⟩
  · cases h2
  · injection h2 with e1 e2 e3
    injection e1 with e1
    injection e1 with e1
    subst e1
    exact Blk.frozen h4 j
theorem rc_set2 (x : Int × Int) : ∀ (L : List (Int × Int)) (i : Nat), rc clE (L.set i x) = ((rc clE L).set (i * 2) (.int .u8 x.1)).set (i * 2 + 1) (.int .u8 x.2)
  | [], i => by simp [rc]
  | y :: L, 0 => by simp [rc, clE]
  | y :: L, i + 1 => by
    rw [List.set_cons_succ, rc_cons, rc_cons, rc_set2 x L i]
    simp only [clE, List.cons_append, List.nil_append]
    rw [show (i + 1) * 2 = i * 2 + 1 + 1 from by omega]
    simp only [List.set_cons_succ]
/-- What a call of Lit leaves. -/
structure LitAt (W W' : World) (base g : Nat) (f : Fw) (cv lv av tv : Value) (p : Pl) (c : Int × Int) (tv' : Value) : Prop where
  fld : FieldAt W' base g { f with told := f.told ++ [p], lights := f.lights.set (f.b.idx p) c } cv lv av tv'
  only : Only W W' (fun k => k = g ∨ some k = tv.ownBlock ∨ some k = lv.ownBlock)
  new : tv'.ownBlock = tv.ownBlock ∨ ∃ k, tv'.ownBlock = some k ∧ W.heap.size ≤ k
theorem ne_row {v v' : Value} (h : ∀ k, v.ownBlock = some k → v'.ownBlock ≠ some k) : v.ownBlock = none ∨ v.ownBlock ≠ v'.ownBlock := by
  cases hv : v.ownBlock with
  | none => exact .inl rfl
  | some k => exact .inr fun e => h k hv e.symm
theorem told_more {W w2 : World} {base g : Nat} {f : Fw} {cv lv av tv v' : Value} (h : FieldAt W base g f cv lv av tv) (hg : W.grownBy w2 tv.ownBlock) {p : Pl} (h1 : PRow w2 base v' (f.told ++ [p]))
    (n : Nat) (hn : ∀ k, av.ownBlock = some k → k < n) (h3 : v'.ownBlock = tv.ownBlock ∨ ∃ k, v'.ownBlock = some k ∧ n ≤ k) : FieldAt (w2.setCell ⟨g, 9, none⟩ v') base g { f with told := f.told ++ [p] } cv lv av v' := by
  have hb : Blk w2 g 48 (fwC f cv lv av tv) := h.blk.grown hg (fun e => own_blk_ne h.told h.blk (by decide) e.symm)
  have ho : Only w2 (w2.setCell ⟨g, 9, none⟩ v') (fun k => k = g) := (Only.refl w2 (fun k => k = g)).setCell (p := ⟨g, 9, none⟩) (.inl rfl) v'
  have hr : ∀ {e s n : Nat} {v : Value} {xs : List Value}, w2.ownsRow base e s v n xs → e ≠ 48 → (w2.setCell ⟨g, 9, none⟩ v').ownsRow base e s v n xs := fun h2 h4 => own_only h2 ho fun k hk e => own_blk_ne h2 hb h4 (e ▸ hk)
  refine ⟨hb.set_ 9 v', hr (h.cells.kept hg (ne_row fun k hk => own_own_ne h.cells h.told (by decide) hk)) (by decide), hr (h.lights.kept hg (ne_row fun k hk => own_own_ne h.lights h.told (by decide) hk)) (by decide), hr (h.asked.kept hg (ne_row h.apart)) (by decide), hr h1 (by decide), h.low, fun k hk hk' => ?_⟩
  rcases h3 with h3 | ⟨j, hj, h3⟩
  · exact h.apart k hk (h3.symm.trans hk')
  · have := hn k hk
    have : j = k := Option.some.inj (hj.symm.trans hk')
    omega
theorem lights_set {W : World} {base g : Nat} {f : Fw} {cv av tv : Value} {gl n cl : Nat} (h : FieldAt W base g f cv (.slice (some ⟨gl, 0, none⟩) n cl) av tv) (he : n = f.lights.length) (i : Nat) (c : Int × Int) :
    FieldAt ((W.setCell ⟨gl, i * 2, none⟩ (.int .u8 c.1)).setCell ⟨gl, i * 2 + 1, none⟩ (.int .u8 c.2)) base g { f with lights := f.lights.set i c } cv (.slice (some ⟨gl, 0, none⟩) n cl) av tv := by
  subst he
  have ho : Only W ((W.setCell ⟨gl, i * 2, none⟩ (.int .u8 c.1)).setCell ⟨gl, i * 2 + 1, none⟩ (.int .u8 c.2)) (fun k => k = gl) := ((Only.refl W (fun k => k = gl)).setCell (p := ⟨gl, i * 2, none⟩) (.inl rfl) _).setCell (p := ⟨gl, i * 2 + 1, none⟩) (.inl rfl) _
  have hgl : (Value.slice (some ⟨gl, 0, none⟩) f.lights.length cl).ownBlock = some gl := rfl
  have hne : g ≠ gl := fun e => own_blk_ne h.lights h.blk (by decide) (e ▸ hgl)
  have hr : ∀ {e s n : Nat} {v : Value} {xs : List Value}, W.ownsRow base e s v n xs → 43 ≠ e → ((W.setCell ⟨gl, i * 2, none⟩ (.int .u8 c.1)).setCell ⟨gl, i * 2 + 1, none⟩ (.int .u8 c.2)).ownsRow base e s v n xs := fun h2 h4 => own_only h2 ho fun k hk e => own_own_ne h.lights h2 h4 hgl (e ▸ hk)
  refine ⟨h.blk.only ho (fun e => hne e), hr h.cells (by decide), ?_, hr h.asked (by decide), hr h.told (by decide), h.low, h.apart⟩
  have := own_put (own_put h.lights (i * 2) (.int .u8 c.1)) (i * 2 + 1) (.int .u8 c.2)
  rw [← rc_set2] at this
  show World.ownsRow _ base 43 2 _ (f.lights.set i c).length (rc clE (f.lights.set i c))
  rw [List.length_set]
  exact this
set_option maxHeartbeats 4000000 in
theorem wlit_any (W : World) (base g : Nat) (f : Fw) (cv lv av tv : Value) (h : FieldAt W base g f cv lv av tv) (ok : f.Ok) (p : Pl) (c : Int × Int) (hp : f.b.inside p) (hl : f.told.length ≤ 1000000000) :
    Calls Try.prog 101 #[.pointer (some ⟨g, 0, none⟩), plV p, clV c] W fun e w' => e = .returned (.tuple #[]) ∧ ∃ tv', LitAt W w' base g f cv lv av tv p c tv' := by
  have hm := Bx.inside_may ok.box hp
  have HF := Lib.hid h
  have HLEN := Lib.hid hl
  have HOK := Lib.hid ok
  have HIN := Lib.hid hp
  obtain ⟨px, py, pz⟩ := p
  obtain ⟨x1, x2⟩ := c
  have HIX := Lib.hid (fun W' tv' (l : List Pl) hb => windex_any W' g { f with told := l } cv lv av tv' hb ok.box (px, py, pz) hm)
  unfold plV plC at HIX ⊢
  unfold clV
  simp only at HIX ⊢
  obtain ⟨W1, hW⟩ : ∃ W1, W1 = (W.alloc (.cells #[.int .i64 px, .int .i64 py, .int .i64 pz] 23)).alloc (.cells #[.int .u8 x1, .int .u8 x2] 43) := ⟨_, rfl⟩
  have hP := (Blk.new W 23 #[.int .i64 px, .int .i64 py, .int .i64 pz]).alloc (.cells #[.int .u8 x1, .int .u8 x2] 43)
  have hR := Blk.new (W.alloc (.cells #[.int .i64 px, .int .i64 py, .int .i64 pz] 23)) 43 #[.int .u8 x1, .int .u8 x2]
  rw [show (W.alloc (.cells #[.int .i64 px, .int .i64 py, .int .i64 pz] 23)).heap.size = W.heap.size + 1 from by simp] at hR
  have hK := (h.blk.alloc (.cells #[.int .i64 px, .int .i64 py, .int .i64 pz] 23)).alloc (.cells #[.int .u8 x1, .int .u8 x2] 43)
  have hA := (h.told.alloc (.cells #[.int .i64 px, .int .i64 py, .int .i64 pz] 23)).alloc (.cells #[.int .u8 x1, .int .u8 x2] 43)
  have hF1 := (h.under (((Below.refl _ _).alloc (Nat.le_refl _) (.cells #[.int .i64 px, .int .i64 py, .int .i64 pz] 23)).alloc (by simp) (.cells #[.int .u8 x1, .int .u8 x2] 43)))
  have hO : Only W W1 (fun k => k = g ∨ some k = tv.ownBlock ∨ some k = lv.ownBlock) := by rw [hW]; exact ((Only.refl W _).alloc _).alloc _
  have hsz : W1.heap.size = W.heap.size + 2 := by rw [hW]; simp
  have hlow := h.low
  have hglt := h.blk.lt
  rw [← hW] at hP hK hA hR hF1
  have hb1 : base ≤ W1.heap.size := by omega
  have d9 := hK.cell 9
  simp only [fwC, List.getElem?_toArray, List.getElem?_cons_zero, List.getElem?_cons_succ] at d9
  have d9' := fun o => (hK.alloc o).cell 9
  simp only [fwC, List.getElem?_toArray, List.getElem?_cons_zero, List.getElem?_cons_succ] at d9'
  obtain ⟨a0, a1, a2⟩ := three_cells hP
  have HP := Lib.hid hP
  have HR := Lib.hid hR
  have HK := Lib.hid hK
  have HA := Lib.hid hA
  have HO := Lib.hid hO
  have HF1 := Lib.hid hF1
  have HW := Lib.hid hW
  have HSZ := Lib.hid hsz
  have HGL := Lib.hid hglt
  have HNA := Lib.hid (show ∀ k, W.heap.size ≤ k → some k ≠ tv.ownBlock from fun k hk e => absurd (h.told.lt k e.symm).2 (by omega))
  clear hW hP hK hA h hsz hR hO hl ok hm hglt hp hF1
  go_enter Try.func101, Try.ntmps101
  go_wp2
  rw [← HW.out]
  go_region_law (refine pl_step HA.out.drew rfl _ _ rfl rfl ((px, py, pz) : Pl) rfl (by have := HLEN.out; omega) (show base ≤ W1.heap.size from hb1) (fun ao n c w2 h1 h2 h3 => ?_); have q2 := (HK.out.drew.alloc _).grown h2 (fun e => by
      have h4 := own_blk_ne HA.out HK.out (by decide)
      exact h4 e.symm); have k0 := q2.frozen 9; have k1 := (show w2.cell? ⟨g, 9, none⟩ = some tv from q2.cell 9))
  all_goals
    have HFT := Lib.hid (told_more (p := (px, py, pz)) (HF1.out.under ((Below.refl _ _).drew.alloc (Nat.le_refl _) (.cells #[.int .i64 px, .int .i64 py, .int .i64 pz] 23))) h2 h1 W1.heap.size (fun k hk => (HF1.out.asked.lt k hk).2) h3)
    have HO3 := Lib.hid (((HO.out.drew.alloc (.cells #[.int .i64 px, .int .i64 py, .int .i64 pz] 23)).grown h2 (fun k hk => .inl (.inr (.inl hk.symm)))).setCell (p := ⟨g, 9, none⟩) (.inl (.inl rfl)) (.slice ao n c))
    have HP3 := Lib.hid (((HP.out.drew.alloc _).grown h2 (HNA.out _ (Nat.le_refl _))).other (p := ⟨g, 9, none⟩) (by have := HGL.out; simp; omega) (.slice ao n c))
    have HR3 := Lib.hid (((HR.out.drew.alloc _).grown h2 (HNA.out _ (Nat.le_succ _))).other (p := ⟨g, 9, none⟩) (by have := HGL.out; simp; omega) (.slice ao n c))
    have HNW := Lib.hid (show (Value.slice ao n c).ownBlock = tv.ownBlock ∨ ∃ k, (Value.slice ao n c).ownBlock = some k ∧ W.heap.size ≤ k from h3.imp id fun ⟨k, hk, hk2⟩ => ⟨k, hk, by have := HSZ.out; have h5 : W1.heap.size ≤ k := hk2; omega⟩)
    clear h1 h2 h3 q2 k0 k1 d9 d9' a0 a1 a2
    generalize w2.setCell ⟨g, 9, none⟩ (.slice ao n c) = W3 at HFT HO3 HP3 HR3 ⊢
    obtain ⟨a0, a1, a2⟩ := three_cells HP3.out
    have HIX3 := Lib.hid (HIX.out W3 _ _ HFT.out.blk)
    unfold indexV at HIX3
    rw [if_pos HIN.out] at HIX3
    have HLT := Lib.hid (show f.b.idx (px, py, pz) < f.lights.length by rw [HOK.out.lights]; exact f.b.idx_lt HIN.out)
    go_wp2_with fail
    go_at_call 16
    refine HIX3.out.mono ?_
    rintro e w4 ⟨rfl, hb⟩
    have HF4 := Lib.hid (HFT.out.under hb)
    have HR4 := Lib.hid (HR3.out.below hb HR3.out.lt)
    have HO4 := Lib.hid (HO3.out.trans (Only.of_below (S := fun _ => False) hb) (fun _ h => h.elim))
    clear hb a0 a1 a2
    have hlr := HF4.out.lights
    obtain ⟨_, aol, cl, hlv, hcl, _⟩ := own_rat (d := ((0, 0) : Int × Int)) clE_len hlr
    have hn := HLT.out
    subst hlv
    have hcl2 : f.lights.length ≤ cl := hcl
    have hc0 : 0 < cl := by omega
    obtain ⟨gl, rfl, -, -⟩ := own_form hlr hc0
    have z0 := own_free hlr (f.b.idx (px, py, pz) * 2)
    have z1 := own_free hlr (f.b.idx (px, py, pz) * 2 + 1)
    have hat := own_at clE_len ((0, 0) : Int × Int) hlr hn
    have e0 : w4.cell? ⟨gl, f.b.idx (px, py, pz) * 2, none⟩ = some (.int .u8 (f.lights.getD (f.b.idx (px, py, pz)) (0, 0)).1) := hat 0 (by decide)
    have e1 : w4.cell? ⟨gl, f.b.idx (px, py, pz) * 2 + 1, none⟩ = some (.int .u8 (f.lights.getD (f.b.idx (px, py, pz)) (0, 0)).2) := hat 1 (by decide)
    have d7 : w4.cell? ⟨g, 7, none⟩ = some (.slice (some ⟨gl, 0, none⟩) f.lights.length cl) := HF4.out.blk.cell 7
    obtain ⟨r0, r1⟩ := two_cells HR4.out
    clear hat hlr hcl hcl2
    have hd := lights_set HF4.out rfl (f.b.idx (px, py, pz)) ((x1, x2) : Int × Int)
    have HD := Lib.hid hd
    clear hd
    generalize hix : f.b.idx (px, py, pz) = ix at e0 e1 z0 z1 hn HD HIX3 HLT ⊢
    have hnI : (ix : Int) < (f.lights.length : Int) := by omega
    clear HF HIX HK HF1 HIX3
    go_wp2_with fail
    go_region_law (fail)
    all_goals
      go_end0
      refine ⟨rfl, .slice ao n c, ?_, ?_, HNW.out⟩
      · show FieldAt _ base g { f with told := f.told ++ [(px, py, pz)], lights := f.lights.set (f.b.idx (px, py, pz)) (x1, x2) } _ _ _ _
        rw [hix]
        exact HD.out.under (Below.refl _ _).drew
      · exact ((HO4.out.setCell (p := ⟨gl, ix * 2, none⟩) (.inl (.inr (.inr rfl))) _).setCell (p := ⟨gl, ix * 2 + 1, none⟩) (.inl (.inr (.inr rfl))) _).drew
end Go.Proofs.Ytlhjjmfbifhgfaa
/- What the waves' calls leave: put together. -/
namespace Go.Proofs.Ytlhjjmfbifhgfaa
set_option linter.unusedSimpArgs false
set_option linter.unusedVariables false
open Go.RowKit

section
variable {W W' W'' : World} {base g b3 b10 b11 gm : Nat} {f : Fw} {cv lv av tv av' av'' : Value} {M M' M'' : LMap} {c c' c'' : Nat} {l m A : List Pl}
/-- A row of the call's own, or of an older one, that a later world's writing passes by. -/
theorem row_far {base e s s' n n' : Nat} {v : Value} {xs ys : List Value} {S : Nat → Prop} (h0 : W.ownsRow base e s v n xs) (h : W'.ownsRow base e s' v n' ys) (ho : Only W' W'' S) (hS : ∀ k, S k → W.heap.size ≤ k) : W''.ownsRow base e s' v n' ys :=
  own_only h ho fun k hk hs => by have h1 := (h0.lt k hk).2; have h2 := hS k hs; omega
theorem blk_far {p t : Nat} {cs ds : Array Value} {S : Nat → Prop} (h0 : Blk W p t cs) (h : Blk W' p t ds) (ho : Only W' W'' S) (hS : ∀ k, S k → W.heap.size ≤ k) : Blk W'' p t ds :=
  h.only ho fun hs => by have h1 := h0.lt; have h2 := hS p hs; omega
theorem FS.far {f' : Fw} (h0 : FS W base g b3 b10 b11 gm f cv lv av tv M c) (h : FS W' base g b3 b10 b11 gm f' cv lv av' tv M' c') {S : Nat → Prop} (ho : Only W' W'' S) (hS : ∀ k, S k → W.heap.size ≤ k ∧ av'.ownBlock ≠ some k) : FS W'' base g b3 b10 b11 gm f' cv lv av' tv M' c' := by
  have hS1 : ∀ k, S k → W.heap.size ≤ k := fun k hk => (hS k hk).1
  refine ⟨⟨?_, row_far h0.fld.cells h.fld.cells ho hS1, row_far h0.fld.lights h.fld.lights ho hS1, own_only h.fld.asked ho fun k hk hs => (hS k hs).2 hk, row_far h0.fld.told h.fld.told ho hS1, h.fld.low, h.fld.apart⟩, blk_far h0.var h.var ho hS1, blk_far h0.lvar h.lvar ho hS1, blk_far h0.fvar h.fvar ho hS1, ?_⟩
  · exact h.fld.blk.only ho fun hs => by have h1 := h0.fld.blk.lt; have h2 := hS1 g hs; omega
  · exact h.map.keep (ho.block gm h.map.inb fun hs => by have h1 := h0.map.inb; have h2 := hS1 gm hs; omega)
theorem Sets.start (h : FS W base g b3 b10 b11 gm f cv lv av tv M c) : Sets W W base g b3 b10 b11 gm f cv lv av tv M c [] av :=
  ⟨by simpa using h, Only.refl _ _, .inl rfl⟩
theorem Sets.under (h : Sets W W' base g b3 b10 b11 gm f cv lv av tv M' c' l av') (hb : Below W'.heap.size W' W'') : Sets W W'' base g b3 b10 b11 gm f cv lv av tv M' c' l av' :=
  ⟨h.fs.under hb, h.only.trans (Only.of_below (S := fun _ => False) hb) (fun _ h => h.elim), h.new⟩
theorem Sets.far (h0 : FS W base g b3 b10 b11 gm f cv lv av tv M c) (h : Sets W W' base g b3 b10 b11 gm f cv lv av tv M' c' l av') {S : Nat → Prop} (ho : Only W' W'' S) (hS : ∀ k, S k → W.heap.size ≤ k ∧ av'.ownBlock ≠ some k) : Sets W W'' base g b3 b10 b11 gm f cv lv av tv M' c' l av' :=
  ⟨h0.far h.fs ho hS, h.only.trans ho (fun k hk => .inr (hS k hk).1), h.new⟩
theorem Sets.set (h0 : FS W base g b3 b10 b11 gm f cv lv av tv M c) (h : Sets W W' base g b3 b10 b11 gm f cv lv av tv M' c' l av') {p : Addr} (hp : W.heap.size ≤ p.block) (hv : av'.ownBlock ≠ some p.block) (u : Value) : Sets W (W'.setCell p u) base g b3 b10 b11 gm f cv lv av tv M' c' l av' :=
  h.far h0 ((Only.refl W' (fun k => k = p.block)).setCell (p := p) (.inl rfl) u) (fun k hk => hk ▸ ⟨hp, hv⟩)
theorem Sets.grown (h0 : FS W base g b3 b10 b11 gm f cv lv av tv M c) (h : Sets W W' base g b3 b10 b11 gm f cv lv av tv M' c' l av') {row : Option Nat} (hg : W'.grownBy W'' row) (hr : ∀ k, row = some k → W.heap.size ≤ k ∧ av'.ownBlock ≠ some k) : Sets W W'' base g b3 b10 b11 gm f cv lv av tv M' c' l av' :=
  h.far h0 ((Only.refl W' (fun k => row = some k)).grown hg (fun k hk => .inl hk)) hr
theorem QF_new (hn : av'.ownBlock = av.ownBlock ∨ ∃ k, av'.ownBlock = some k ∧ W.heap.size ≤ k) {k : Nat} (h : QF g av'.ownBlock k) : QF g av.ownBlock k ∨ W.heap.size ≤ k := by
  rcases h with e | e
  · exact .inl (.inl e)
  · rcases hn with h1 | ⟨j, h1, h2⟩
    · exact .inl (.inr (e.trans h1))
    · have : k = j := Option.some.inj (e.trans h1)
      exact .inr (by omega)
theorem new_new (hs : W.heap.size ≤ W'.heap.size) (h : av'.ownBlock = av.ownBlock ∨ ∃ k, av'.ownBlock = some k ∧ W.heap.size ≤ k) (k : av''.ownBlock = av'.ownBlock ∨ ∃ k, av''.ownBlock = some k ∧ W'.heap.size ≤ k) : av''.ownBlock = av.ownBlock ∨ ∃ k, av''.ownBlock = some k ∧ W.heap.size ≤ k := by
  rcases k with h1 | ⟨j, h1, h2⟩
  · rcases h with h3 | ⟨i, h3, h4⟩
    · exact .inl (h1.trans h3)
    · exact .inr ⟨i, h1.trans h3, h4⟩
  · exact .inr ⟨j, h1, by omega⟩
theorem Sets.more (h : Sets W W' base g b3 b10 b11 gm f cv lv av tv M' c' l av') (k : Sets W' W'' base g b3 b10 b11 gm { f with asked := f.asked ++ l } cv lv av' tv M'' c'' m av'') : Sets W W'' base g b3 b10 b11 gm f cv lv av tv M'' c'' (l ++ m) av'' :=
  ⟨by have := k.fs; simpa [List.append_assoc] using this, h.only.trans k.only (fun i hi => hi.elim (fun hq => (QF_new h.new hq).imp .inl id) (fun e => .inl (.inr e))), new_new h.only.size h.new k.new⟩
theorem Sets.asks (h : Sets W W' base g b3 b10 b11 gm f cv lv av tv M' c' l av') (k : Asks W' W'' base g { f with asked := f.asked ++ l } cv lv av' tv m av'') : Sets W W'' base g b3 b10 b11 gm f cv lv av tv M' c' (l ++ m) av'' :=
  h.more ⟨h.fs.asks k, k.only.mono fun _ h => .inl h, k.new⟩
/-- A row of places in new memory stays apart from that of the places asked. -/
theorem apart_new {v : Value} (ha : ∀ k, v.ownBlock = some k → av.ownBlock ≠ some k) (hv : ∀ k, v.ownBlock = some k → k < W.heap.size) (hn : av'.ownBlock = av.ownBlock ∨ ∃ k, av'.ownBlock = some k ∧ W.heap.size ≤ k) : ∀ k, v.ownBlock = some k → av'.ownBlock ≠ some k := fun k hk e => by
  rcases hn with h1 | ⟨j, h1, h2⟩
  · exact ha k hk (h1.symm.trans e)
  · have h3 := hv k hk
    have : j = k := Option.some.inj (h1.symm.trans e)
    omega
/-- What a call that sets a light may write passes a row of places by. -/
theorem Sets.row {b : Nat} {v : Value} {L : List Pl} (h0 : FS W base g b3 b10 b11 gm f cv lv av tv M c) (h : Sets W W' base g b3 b10 b11 gm f cv lv av tv M' c' l av') (hr : PRow W b v L) (ha : ∀ k, v.ownBlock = some k → av.ownBlock ≠ some k) : PRow W' b v L :=
  own_only hr h.only fun k hk hs => by
    rcases hs with (e | e) | e
    · exact own_blk_ne hr h0.fld.blk (by decide) (e ▸ hk)
    · exact ha k hk e.symm
    · exact map_own_ne hr h0.map (e ▸ hk)
theorem Sets.blk {p t : Nat} {cs : Array Value} (h0 : FS W base g b3 b10 b11 gm f cv lv av tv M c) (h : Sets W W' base g b3 b10 b11 gm f cv lv av tv M' c' l av') (hb : Blk W p t cs) (h1 : t ≠ 48) (h2 : av.ownBlock ≠ some p) : Blk W' p t cs :=
  hb.only h.only fun hs => by
    rcases hs with (e | e) | e
    · exact Blk.ne_ hb h0.fld.blk h1 e
    · exact h2 e.symm
    · exact map_blk_ne hb h0.map e
end
end Go.Proofs.Ytlhjjmfbifhgfaa
/- The places that are clear, of a list: IndexFunc, DeleteFunc and bright's predicate: the walks. -/
namespace Go.Proofs.Ytlhjjmfbifhgfaa
set_option linter.unusedSimpArgs false
set_option linter.unusedVariables false
open Go.RowKit
set_option maxRecDepth 100000

def clrAt (f : Fw) (q : Pl) : Bool := clearC (cellAt f q).1 (cellAt f q).2
/-- A wave behind its variable. -/
def wvC (g : Nat) (o a s : Value) : Array Value := #[.iface 29 (.pointer (some ⟨g, 0, none⟩)), o, a, s]
set_option maxHeartbeats 2000000 in
theorem bright1_any (W : World) (base g b2 : Nat) (f : Fw) (cv lv av tv o a s : Value) (h : FieldAt W base g f cv lv av tv) (ok : f.Ok) (hv : Blk W b2 73 (wvC g o a s)) (q : Pl) (hm : mayP q = true) (hl : f.asked.length ≤ 1000000000) :
    Calls Try.prog 51 #[plV q, .pointer (some ⟨b2, 0, none⟩)] W fun e w' => e = .returned (.bool (!clrAt f q)) ∧ ∃ av', Asks W w' base g f cv lv av tv [q] av' := by
  have HB := Lib.hid ((Below.refl W.heap.size W).alloc (Nat.le_refl _) (.cells (plC q) 23))
  have HC := Lib.hid (wcell_any _ base g f cv lv av tv (h.under HB.out) ok q hm hl)
  have HK := Lib.hid (fun w => fclear_any w (cellAt f q).1 (cellAt f q).2 (cellAt_in ok q).1 (cellAt_in ok q).2)
  have hv2 : (W.alloc (.cells (plC q) 23)).cell? ⟨b2, 0, none⟩ = some (.iface 29 (.pointer (some ⟨g, 0, none⟩))) := (hv.alloc _).cell 0
  have hme := m_cell ⟨g, 0, none⟩
  unfold clrAt
  generalize cellAt f q = x at HC HK ⊢
  unfold plV plC at *
  unfold clV at HC
  clear h hm hl ok hv
  obtain ⟨px, py, pz⟩ := q
  simp only at HC hv2 HB ⊢
  go_enter Try.func51, Try.ntmps51
  go_wp2_with fail
  go_at_call 13
  refine HC.out.mono ?_
  rintro e w1 ⟨rfl, av', ha⟩
  have HA := Lib.hid (ha.from_ HB.out)
  clear ha hv2
  go_wp2_with fail
  go_at_call 25
  refine (HK.out _).mono ?_
  rintro e w2 ⟨rfl, hb⟩
  have HA2 := Lib.hid (HA.out.under hb)
  clear hb
  go_wp2
  go_ret
  exact ⟨rfl, av', HA2.out⟩
/-- Asking passes by a row of places of the call's own. -/
theorem Asks.row {W W' : World} {base g b : Nat} {f : Fw} {cv lv av tv av' v : Value} {A L : List Pl} (h0 : FieldAt W base g f cv lv av tv) (h : Asks W W' base g f cv lv av tv A av') (hr : PRow W b v L) (ha : ∀ k, v.ownBlock = some k → av.ownBlock ≠ some k) : PRow W' b v L :=
  own_only hr h.only fun k hk hs => by
    rcases hs with e | e
    · exact own_blk_ne hr h0.blk (by decide) (e ▸ hk)
    · exact ha k hk e.symm
theorem Asks.blk {W W' : World} {base g : Nat} {f : Fw} {cv lv av tv av' : Value} {A : List Pl} {p t : Nat} {cs : Array Value} (h0 : FieldAt W base g f cv lv av tv) (h : Asks W W' base g f cv lv av tv A av') (hb : Blk W p t cs) (h1 : t ≠ 48) (h2 : av.ownBlock ≠ some p) : Blk W' p t cs :=
  hb.only h.only fun hs => by
    rcases hs with e | e
    · exact Blk.ne_ hb h0.blk h1 e
    · exact h2 e.symm
theorem wave_apart {W : World} {base g b2 : Nat} {f : Fw} {cv lv av tv : Value} {cs : Array Value} (h : FieldAt W base g f cv lv av tv) (hv : Blk W b2 73 cs) : av.ownBlock ≠ some b2 := fun e => own_blk_ne h.asked hv (by decide) e
def offAt (f : Fw) (l : List Pl) : Nat := l.findIdx fun q => !clrAt f q
theorem takeN {l : List Pl} {i : Nat} (h : i < l.length) (d : Pl) : l.take (i + 1) = l.take i ++ [l.getD i d] := by
  rw [List.take_succ_eq_append_getElem h, List.getD_eq_getElem?_getD, List.getElem?_eq_getElem h]
  rfl
theorem getD_mem {l : List Pl} {i : Nat} (h : i < l.length) (d : Pl) : l.getD i d ∈ l := by
  rw [List.getD_eq_getElem?_getD, List.getElem?_eq_getElem h]
  exact List.getElem_mem h
def idxV (f : Fw) (l : List Pl) : Int := if offAt f l < l.length then (offAt f l : Int) else -1
theorem getD_at {l : List Pl} {j : Nat} (hlt : j < l.length) (d : Pl) : l.getD j d = l[j] := by rw [List.getD_eq_getElem?_getD, List.getElem?_eq_getElem hlt]; rfl
theorem off_gt {f : Fw} {l : List Pl} {j : Nat} (hj : j ≤ offAt f l) (hlt : j < l.length) (h : clrAt f (l.getD j (0, 0, 0)) = true) : j + 1 ≤ offAt f l := by
  rcases Nat.lt_or_ge j (offAt f l) with h1 | h1
  · exact h1
  · exfalso
    have he : offAt f l = j := Nat.le_antisymm h1 hj
    have h2 := List.findIdx_getElem (xs := l) (p := fun q => !clrAt f q) (w := by show offAt f l < _; omega)
    rw [getD_at hlt] at h
    have h3 : l[List.findIdx (fun q => !clrAt f q) l]'(by show offAt f l < _; omega) = l[j] := by congr 1
    rw [h3, h] at h2
    cases h2
theorem off_eq {f : Fw} {l : List Pl} {j : Nat} (hj : j ≤ offAt f l) (hlt : j < l.length) (h : clrAt f (l.getD j (0, 0, 0)) = false) : offAt f l = j := by
  refine Nat.le_antisymm ?_ hj
  rcases Nat.lt_or_ge j (offAt f l) with h1 | h1
  · have h2 := List.not_of_lt_findIdx (show j < List.findIdx (fun q => !clrAt f q) l from h1)
    rw [getD_at hlt] at h
    rw [h] at h2
    simp at h2
  · exact h1
set_option maxHeartbeats 4000000 in
theorem index_any (W : World) (base g b2 b : Nat) (f : Fw) (cv lv av tv o a s v : Value) (l : List Pl) (h : FieldAt W base g f cv lv av tv) (ok : f.Ok) (hw : Blk W b2 73 (wvC g o a s)) (hr : PRow W b v l) (hap : ∀ k, v.ownBlock = some k → av.ownBlock ≠ some k) (hm : ∀ q ∈ l, mayP q = true) (hl : f.asked.length + l.length ≤ 1000000000) :
    Calls Try.prog 63 #[v, .func (.func 51) #[] #[.pointer (some ⟨b2, 0, none⟩)]] W fun e w' => e = .returned (.int .i64 (idxV f l)) ∧ ∃ av', Asks W w' base g f cv lv av tv (l.take (offAt f l + 1)) av' := by
  have HB1 := Lib.hid (fun W' av' (A : List Pl) (h' : FieldAt W' base g { f with asked := f.asked ++ A } cv lv av' tv) (hv' : Blk W' b2 73 (wvC g o a s)) q (hm' : mayP q = true) (hl' : (f.asked ++ A).length ≤ 1000000000) => bright1_any W' base g b2 _ cv lv av' tv o a s h' (ok.asks A) hv' q hm' hl')
  have HF := Lib.hid h
  have HW := Lib.hid hw
  have HR := Lib.hid hr
  have HAP := Lib.hid hap
  have HM := Lib.hid hm
  have HL := Lib.hid hl
  obtain ⟨_, ao, c, rfl, hc, _⟩ := own_rat (d := ((0, 0, 0) : Pl)) plE_len hr
  have HAS := Lib.hid (Asks.nil h (Below.refl _ _))
  clear h hw hr hap hm hl ok
  have hlen : l.length ≤ 1000000000 := by have := HL.out; omega
  go_enter Try.func63, Try.ntmps63
  go_wp2
  go_loopw [8] (fun i wr => ∃ (j : Nat) (av' : Value), j ≤ offAt f l ∧ j ≤ l.length ∧ i = .int .i64 j ∧ Asks W wr base g f cv lv av tv (l.take j) av') (fun i _ => l.length - (intOf i).toNat)
  case atStart => exact ⟨0, av, Nat.zero_le _, Nat.zero_le _, rfl, HAS.out⟩
  case round =>
    obtain ⟨j, av', hj, hjl, rfl, ha⟩ := hrel
    have HA := Lib.hid ha
    clear ha
    by_cases hlt : j < l.length
    · have hltI : (j : Int) < (l.length : Int) := by omega
      have hc0 : 0 < c := by omega
      have hr2 := Asks.row HF.out HA.out HR.out HAP.out
      obtain ⟨gl, rfl, -, -⟩ := own_form hr2 hc0
      have hat := own_at plE_len ((0, 0, 0) : Pl) hr2 hlt
      obtain ⟨q, hq⟩ : ∃ q, q = l.getD j (0, 0, 0) := ⟨_, rfl⟩
      rw [← hq] at hat
      have HQ := Lib.hid hq
      have hmq : mayP q = true := HM.out q (hq ▸ getD_mem hlt _)
      have HBJ := Lib.hid (HB1.out wr av' _ HA.out.fld (Asks.blk HF.out HA.out HW.out (by decide) (wave_apart HF.out HW.out)) q hmq (by rw [List.length_append, List.length_take]; have := HL.out; omega))
      have HTK := Lib.hid (takeN hlt (0, 0, 0))
      obtain ⟨qx, qy, qz⟩ := q
      have e0 : wr.cell? ⟨gl, j * 3, none⟩ = some (.int .i64 qx) := hat 0 (by decide)
      have e1 : wr.cell? ⟨gl, j * 3 + 1, none⟩ = some (.int .i64 qy) := hat 1 (by decide)
      have e2 : wr.cell? ⟨gl, j * 3 + 2, none⟩ = some (.int .i64 qz) := hat 2 (by decide)
      clear hat hq hr2 hmq
      unfold plV plC at HBJ
      simp only at HBJ
      have HCL := Lib.hid (show clrAt { f with asked := f.asked ++ l.take j } (qx, qy, qz) = clrAt f (l.getD j (0, 0, 0)) by rw [← HQ.out]; rfl)
      generalize clrAt { f with asked := f.asked ++ l.take j } (qx, qy, qz) = cb at HBJ HCL
      cases cb with
      | true =>
        have HJ := Lib.hid (off_gt hj hlt HCL.out.symm)
        go_wp2_with fail
        go_at_call 51
        refine HBJ.out.mono ?_
        rintro e w2 ⟨rfl, av'', ha⟩
        have HA2 := Lib.hid (HA.out.more ha)
        clear ha e0 e1 e2
        go_wp2
        go_roundw
        case rel => exact ⟨j + 1, av'', HJ.out, hlt, by go_num, by rw [HTK.out, ← HQ.out]; exact HA2.out⟩
        case measure => simp [intOf]; omega
      | false =>
        have HJ := Lib.hid (off_eq hj hlt HCL.out.symm)
        go_wp2_with fail
        go_at_call 51
        refine HBJ.out.mono ?_
        rintro e w2 ⟨rfl, av'', ha⟩
        have HA2 := Lib.hid (HA.out.more ha)
        clear ha e0 e1 e2
        go_wp2
        go_ret
        refine ⟨?_, av'', ?_⟩
        · rw [show idxV f l = (j : Int) by unfold idxV; rw [HJ.out, if_pos hlt]]
          rfl
        · rw [HJ.out, HTK.out, ← HQ.out]; exact HA2.out
    · have hltI : ¬ (j : Int) < (l.length : Int) := by omega
      have HJ := Lib.hid (show offAt f l = l.length by
        unfold offAt at *
        have := List.findIdx_le_length (xs := l) (p := fun q => !clrAt f q)
        omega)
      go_wp2
      go_ret
      refine ⟨?_, av', ?_⟩
      · rw [show idxV f l = -1 by unfold idxV; rw [HJ.out, if_neg (Nat.lt_irrefl _)]]
        rfl
      · rw [HJ.out, List.take_of_length_le (Nat.le_succ _)]
        have := HA.out
        rwa [show j = l.length by omega, List.take_of_length_le (Nat.le_refl _)] at this
end Go.Proofs.Ytlhjjmfbifhgfaa
