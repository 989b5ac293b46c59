/- Joined texts of one seat, each under its own heading below. -/
import Derived.Test.YtlhjjmfbifhgfaaFM6
import Derived.Deep.RegionLaw
/- The field's Cell and Light: the walks. -/
namespace Go.Proofs.Ytlhjjmfbifhgfaa
set_option linter.unusedSimpArgs false
set_option linter.unusedVariables false
open Go.RowKit

/-- append(places, p), in a region that draws. -/
theorem pl_step {ops : Array Oper} {o : Oper} {a : Act} {K : Act → World → Prop} {Q : Exit → Act → World → Prop} {E : Prop} {W : World} {base : Nat} {v : Value} {l : List Pl}
    (hown : PRow W base v l) (hgd : o.guard = none) (s x : Operand)
    (ho : o.op = .call { callee := .builtin .append, args := #[s, x], argTypes := #[46, 46] }) (hs : a.eval s = v) (t : Pl)
    (hx : a.eval x = .slice (some ⟨W.heap.size, 0, none⟩) 1 1) (hlen : l.length ≤ 1099511627776) (hbase : base ≤ W.heap.size)
    (h : ∀ ao n c w', PRow w' base (.slice ao n c) (l ++ [t]) → (W.alloc (.cells (plC t) 23)).grownBy w' v.ownBlock → ((Value.slice ao n c).ownBlock = v.ownBlock ∨ ∃ k, (Value.slice ao n c).ownBlock = some k ∧ W.heap.size ≤ k) → K (a.put o.dst (.slice ao n c)) w') :
    if Region.wanted o (yielded ops a.tmps) = true then Oper.wp Try.prog o a (W.alloc (.cells (plC t) 23)) K Q else E := by
  obtain ⟨i0, hi, hz0, hz1, hz2⟩ := info_parts infoPl
  refine step_append_any _ hgd s x 46 ho base 23 i0 (.agg #[.int .i64 0, .int .i64 0, .int .i64 0]) 3 24 Try.underlying46 hi hz0 hz1 hz2 rfl (by decide) v l.length _ hs (hown.alloc _) (W.heap.size + 1) _ 1 1 (plE t) hx ⟨rfl, fun _ => ⟨_, rfl, Nat.lt_succ_self _, fun j u hu => ?_⟩⟩
    (plE_one t) (by unfold maxLen; omega) (by omega) (by simp; omega) (fun v' w' h1 h2 h3 => ?_)
  · have ha : (⟨W.heap.size, 0, none⟩ : Addr).add j = ⟨W.heap.size, j, none⟩ := by unfold Addr.add; split <;> simp_all
    rw [ha, (Blk.new W 23 (plC t)).cell j, ← hu]
    unfold plE
    rw [Array.getElem?_toList]
  · have hr : PRow w' base v' (l ++ [t]) := by
      show World.ownsRow w' base 23 3 v' (l ++ [t]).length (rc plE (l ++ [t]))
      rw [rc_append, rc_single, List.length_append]
      exact h1
    obtain ⟨_, ao, c, rfl, _⟩ := own_rat (d := (0, 0, 0)) plE_len hr
    refine h ao _ c w' hr h2 ?_
    rcases h3 with h3 | h3
    · exact .inl h3
    · exact .inr ⟨_, h3, by simp⟩
theorem own_own_ne {w : World} {base base' s s' n n' : Nat} {e e' : TypeId} {v v' : Value} {xs xs' : List Value} (h : w.ownsRow base e s v n xs) (h' : w.ownsRow base' e' s' v' n' xs') (hne : e ≠ e') {k : Nat} (hk : v.ownBlock = some k) : v'.ownBlock ≠ some k := by
  intro hk'
  rcases h.2 with ⟨h1, _⟩ | ⟨g, cap, cur, h1, _, hg, _⟩
  · rw [h1] at hk; simp [Value.ownBlock] at hk
  rcases h'.2 with ⟨h2, _⟩ | ⟨g', cap', cur', h2, _, hg', _⟩
  · rw [h2] at hk'; simp [Value.ownBlock] at hk'
  rw [h1] at hk
  rw [h2] at hk'
  have e1 : g = k := by simpa [Value.ownBlock] using hk
  have e2 : g' = k := by simpa [Value.ownBlock] using hk'
  rw [e1] at hg
  rw [e2, hg] at hg'
  have h3 := Option.some.inj hg'
  injection h3 with h4 h5 h6
  exact hne h5
/-- What a call that asks leaves: one place more among those asked. -/
structure Asks (W W' : World) (base g : Nat) (f : Fw) (cv lv av tv : Value) (l : List Pl) (av' : Value) : Prop where
  fld : FieldAt W' base g { f with asked := f.asked ++ l } cv lv av' tv
  only : Only W W' (QF g av.ownBlock)
  new : av'.ownBlock = av.ownBlock ∨ ∃ k, av'.ownBlock = some k ∧ W.heap.size ≤ k
section
variable {W W1 w2 W' W'' : World} {base g : Nat} {f : Fw} {cv lv av tv v' : Value} {l : List Pl}
theorem FieldAt.only (h : FieldAt W base g f cv lv av tv) {S : Nat → Prop} (ho : Only W W' S) (hS : ∀ k, S k → W.heap.size ≤ k) : FieldAt W' base g f cv lv av tv :=
  have hb : Below W.heap.size W W' := ho.below hS (Nat.le_refl _)
  ⟨h.blk.below hb h.blk.lt, own_below h.cells hb, own_below h.lights hb, own_below h.asked hb, own_below h.told hb, h.low, h.apart⟩
theorem FieldAt.under (h : FieldAt W base g f cv lv av tv) (hb : Below W.heap.size W W') : FieldAt W' base g f cv lv av tv :=
  ⟨h.blk.below hb h.blk.lt, own_below h.cells hb, own_below h.lights hb, own_below h.asked hb, own_below h.told hb, h.low, h.apart⟩
theorem Asks.under (h : Asks W W' base g f cv lv av tv l v') (hb : Below W'.heap.size W' W'') : Asks W W'' base g f cv lv av tv l v' :=
  ⟨h.fld.under hb, h.only.trans (Only.of_below (S := fun _ => False) hb) (fun _ h => h.elim), h.new⟩
/-- A store into a block that is new since the call began. -/
theorem Asks.set (h : Asks W W' base g f cv lv av tv l v') (h0 : FieldAt W base g f cv lv av tv) {p : Addr} (hp : W.heap.size ≤ p.block) (hv : v'.ownBlock ≠ some p.block) (u : Value) : Asks W (W'.setCell p u) base g f cv lv av tv l v' := by
  have hgl := h0.blk.lt
  have ho : Only W' (W'.setCell p u) (fun k => k = p.block) := (Only.refl W' (fun k => k = p.block)).setCell (p := p) (.inl rfl) u
  have hr : ∀ {e s n : Nat} {v : Value} {xs ys : List Value} {s' n' : Nat}, W.ownsRow base e s v n xs → W'.ownsRow base e s' v n' ys → (W'.setCell p u).ownsRow base e s' v n' ys := fun h1 h2 =>
    own_only h2 ho fun k hk e => by have := (h1.lt k hk).2; omega
  exact ⟨⟨h.fld.blk.far (by omega) u, hr h0.cells h.fld.cells, hr h0.lights h.fld.lights, own_only h.fld.asked ho fun k hk e => hv (e ▸ hk), hr h0.told h.fld.told, h.fld.low, h.fld.apart⟩, h.only.setCell (.inr hp) u, h.new⟩
theorem asked_more (h : FieldAt W base g f cv lv av tv) (ho : Only W w2 (QF g av.ownBlock)) (hbk : Blk w2 g 48 (fwC f cv lv av tv)) {p : Pl} (h1 : PRow w2 base v' (f.asked ++ [p]))
    (h3 : v'.ownBlock = av.ownBlock ∨ ∃ k, v'.ownBlock = some k ∧ W.heap.size ≤ k) : Asks W (w2.setCell ⟨g, 8, none⟩ v') base g f cv lv av tv [p] v' := by
  have ho2 : Only W (w2.setCell ⟨g, 8, none⟩ v') (QF g av.ownBlock) := ho.setCell (.inl (.inl rfl)) v'
  have hg : ∀ {e s n : Nat} {v : Value} {xs : List Value}, W.ownsRow base e s v n xs → e ≠ 48 → e ≠ 23 → ∀ k, v.ownBlock = some k → ¬ QF g av.ownBlock k := by
    intro e s n v xs hr h1 h2 k hk hq
    rcases hq with e | hq
    · exact own_blk_ne hr h.blk h1 (e ▸ hk)
    · exact own_own_ne hr h.asked h2 hk hq.symm
  refine ⟨⟨hbk.set_ 8 v', own_only h.cells ho2 (hg h.cells (by decide) (by decide)), own_only h.lights ho2 (hg h.lights (by decide) (by decide)), ?_, own_only h.told ho2 (fun k hk hq => ?_), h.low, fun k hk hk' => ?_⟩, ho2, h3⟩
  · exact own_only h1 ((Only.refl w2 (fun k => k = g)).setCell (p := ⟨g, 8, none⟩) (.inl rfl) v') (fun k hk' e => own_blk_ne h1 hbk (by decide) (e ▸ hk'))
  · rcases hq with e | hq
    · exact own_blk_ne h.told h.blk (by decide) (e ▸ hk)
    · exact h.apart k hq.symm hk
  · rcases h3 with h3 | ⟨j, hj, h3⟩
    · exact h.apart k (h3.symm.trans hk) hk'
    · have := (h.told.lt k hk').2
      have : j = k := Option.some.inj (hj.symm.trans hk)
      omega
end
def cellAt (f : Fw) (p : Pl) : Int × Int := if f.b.inside p then f.cells.getD (f.b.idx p) (0, 0) else (1, 0)
def clV (c : Int × Int) : Value := .agg #[.int .u8 c.1, .int .u8 c.2]
theorem two_set {w : World} {g : Nat} {t : TypeId} {x0 x1 : Value} (h : Blk w g t #[x0, x1]) (v0 v1 : Value) :
    ((w.setCell ⟨g, 0, none⟩ v0).setCell ⟨g, 1, none⟩ v1).cell? ⟨g, 0, none⟩ = some v0 ∧ ((w.setCell ⟨g, 0, none⟩ v0).setCell ⟨g, 1, none⟩ v1).cell? ⟨g, 1, none⟩ = some v1 := by
  have b0 : Blk (w.setCell ⟨g, 0, none⟩ v0) g t #[v0, x1] := h.set_ 0 v0
  exact two_cells (b0.set_ 1 v1)
theorem two_free {w : World} {g : Nat} {t : TypeId} {a b : Value} (h : Blk w g t #[a, b]) : w.frozen? ⟨g, 0, none⟩ = false ∧ w.frozen? ⟨g, 1, none⟩ = false := ⟨h.frozen 0, h.frozen 1⟩
set_option maxRecDepth 100000 in
set_option maxHeartbeats 4000000 in
theorem wcell_any (W : World) (base g : Nat) (f : Fw) (cv lv av tv : Value) (h : FieldAt W base g f cv lv av tv) (ok : f.Ok) (p : Pl) (hm : mayP p = true) (hl : f.asked.length ≤ 1000000000) :
    Calls Try.prog 13 #[.pointer (some ⟨g, 0, none⟩), plV p] W fun e w' => e = .returned (clV (cellAt f p)) ∧ ∃ av', Asks W w' base g f cv lv av tv [p] av' := by
  have HF := Lib.hid h
  have HLEN := Lib.hid hl
  have HOK := Lib.hid ok
  have HM := Lib.hid hm
  obtain ⟨px, py, pz⟩ := p
  have HIX := Lib.hid (fun W' av' (l : List Pl) hb => windex_any W' g { f with asked := l } cv lv av' tv hb ok.box (px, py, pz) hm)
  have HQM := Lib.hid (fun W' => (by have := qmay_any W' (px, py, pz); rwa [hm] at this : Calls Try.prog 41 #[plV (px, py, pz)] W' fun e w' => e = .returned (.bool true) ∧ Below W'.heap.size W' w'))
  unfold plV plC at HIX HQM ⊢
  simp only at HIX HQM ⊢
  obtain ⟨W1, hW⟩ : ∃ W1, W1 = (W.alloc (.cells #[.int .i64 px, .int .i64 py, .int .i64 pz] 23)).alloc (.cells #[.int .u8 0, .int .u8 0] 33) := ⟨_, rfl⟩
  have hP := (Blk.new W 23 #[.int .i64 px, .int .i64 py, .int .i64 pz]).alloc (.cells #[.int .u8 0, .int .u8 0] 33)
  have hR := Blk.new (W.alloc (.cells #[.int .i64 px, .int .i64 py, .int .i64 pz] 23)) 33 #[.int .u8 0, .int .u8 0]
  rw [show (W.alloc (.cells #[.int .i64 px, .int .i64 py, .int .i64 pz] 23)).heap.size = W.heap.size + 1 from by simp] at hR
  have hK := (h.blk.alloc (.cells #[.int .i64 px, .int .i64 py, .int .i64 pz] 23)).alloc (.cells #[.int .u8 0, .int .u8 0] 33)
  have hA := (h.asked.alloc (.cells #[.int .i64 px, .int .i64 py, .int .i64 pz] 23)).alloc (.cells #[.int .u8 0, .int .u8 0] 33)
  have hO : Only W W1 (QF g av.ownBlock) := by rw [hW]; exact ((Only.refl W _).alloc _).alloc _
  have hsz : W1.heap.size = W.heap.size + 2 := by rw [hW]; simp
  have hlow := h.low
  have hglt := h.blk.lt
  rw [← hW] at hP hK hA hR
  have hb1 : base ≤ W1.heap.size := by omega
  have d8 := hK.cell 8
  simp only [fwC, List.getElem?_toArray, List.getElem?_cons_zero, List.getElem?_cons_succ] at d8
  have d8' := fun o => (hK.alloc o).cell 8
  simp only [fwC, List.getElem?_toArray, List.getElem?_cons_zero, List.getElem?_cons_succ] at d8'
  obtain ⟨a0, a1, a2⟩ := three_cells hP
  have HP := Lib.hid hP
  have HR := Lib.hid hR
  have HK := Lib.hid hK
  have HA := Lib.hid hA
  have HO := Lib.hid hO
  have HW := Lib.hid hW
  have HSZ := Lib.hid hsz
  have HGL := Lib.hid hglt
  have HNA := Lib.hid (show ∀ k, W.heap.size ≤ k → some k ≠ av.ownBlock from fun k hk e => absurd (h.asked.lt k e.symm).2 (by omega))
  clear hW hP hK hA h hsz hR hO hl ok hm hglt
  go_enter Try.func13, Try.ntmps13
  go_wp2
  rw [← HW.out]
  go_region_law (refine pl_step HA.out.drew rfl _ _ rfl rfl ((px, py, pz) : Pl) rfl (by have := HLEN.out; omega) (show base ≤ W1.heap.size from hb1) (fun ao n c w2 h1 h2 h3 => ?_); have q2 := (HK.out.drew.alloc _).grown h2 (fun e => by
      have h4 := own_blk_ne HA.out HK.out (by decide)
      exact h4 e.symm); have k0 := q2.frozen 8; have k1 := (show w2.cell? ⟨g, 8, none⟩ = some av from q2.cell 8))
  all_goals
    have HAS := Lib.hid (asked_more (p := (px, py, pz)) HF.out ((HO.out.drew.alloc _).grown h2 (fun k hk => .inl (.inr hk.symm))) q2 h1 (h3.imp id fun ⟨k, hk, hk2⟩ => ⟨k, hk, by have := HSZ.out; have h5 : W1.heap.size ≤ k := hk2; omega⟩))
    have HP3 := Lib.hid (((HP.out.drew.alloc _).grown h2 (HNA.out _ (Nat.le_refl _))).other (p := ⟨g, 8, none⟩) (by have := HGL.out; simp; omega) (.slice ao n c))
    have HR3 := Lib.hid (((HR.out.drew.alloc _).grown h2 (HNA.out _ (Nat.le_succ _))).other (p := ⟨g, 8, none⟩) (by have := HGL.out; simp; omega) (.slice ao n c))
    have HNV := Lib.hid (show ∀ k, W.heap.size ≤ k → k < W.heap.size + 2 → (Value.slice ao n c).ownBlock ≠ some k from fun k hk1 hk2 e => by
      rcases h3 with h3 | ⟨j, hj, h3⟩
      · exact HNA.out k hk1 (e.symm.trans h3)
      · have h5 : W1.heap.size ≤ j := h3
        have h6 := HSZ.out
        have : j = k := Option.some.inj (hj.symm.trans e)
        omega)
    clear h1 h2 h3 q2 k0 k1 d8 d8' a0 a1 a2
    generalize w2.setCell ⟨g, 8, none⟩ (.slice ao n c) = W3 at HAS HP3 HR3 ⊢
    obtain ⟨a0, a1, a2⟩ := three_cells HP3.out
    have HIX3 := Lib.hid (HIX.out W3 _ _ HAS.out.fld.blk)
    unfold indexV at HIX3
    by_cases hin : f.b.inside (px, py, pz)
    · have HX := Lib.hid (show cellAt f (px, py, pz) = f.cells.getD (f.b.idx (px, py, pz)) (0, 0) from if_pos hin)
      have HLT := Lib.hid (show f.b.idx (px, py, pz) < f.cells.length by rw [HOK.out.cells]; exact f.b.idx_lt hin)
      rw [if_pos hin] at HIX3
      clear hin
      go_wp2_with fail
      go_at_call 16
      refine HIX3.out.mono ?_
      rintro e w4 ⟨rfl, hb⟩
      have HAS4 := Lib.hid (HAS.out.under hb)
      have HR4 := Lib.hid (HR3.out.below hb HR3.out.lt)
      clear hb a0 a1 a2
      have hcr := HAS4.out.fld.cells
      obtain ⟨_, aoc, cc, hcv, hcc, _⟩ := own_rat (d := ((0, 0) : Int × Int)) clE_len hcr
      have hn := HLT.out
      subst hcv
      have hcc2 : f.cells.length ≤ cc := hcc
      have hc0 : 0 < cc := by omega
      obtain ⟨gc, rfl, -, -⟩ := own_form hcr hc0
      have hat := own_at clE_len ((0, 0) : Int × Int) hcr hn
      have e0 : w4.cell? ⟨gc, f.b.idx (px, py, pz) * 2, none⟩ = some (.int .u8 (f.cells.getD (f.b.idx (px, py, pz)) (0, 0)).1) := hat 0 (by decide)
      have e1 : w4.cell? ⟨gc, f.b.idx (px, py, pz) * 2 + 1, none⟩ = some (.int .u8 (f.cells.getD (f.b.idx (px, py, pz)) (0, 0)).2) := hat 1 (by decide)
      have d6 : w4.cell? ⟨g, 6, none⟩ = some (.slice (some ⟨gc, 0, none⟩) f.cells.length cc) := HAS4.out.fld.blk.cell 6
      obtain ⟨r0, r1⟩ := two_cells HR4.out
      obtain ⟨f0, f1⟩ := two_free HR4.out
      clear hat hcr hcc hcc2
      generalize f.b.idx (px, py, pz) = ix at e0 e1 hn HX HIX3 ⊢
      generalize f.cells.getD ix (0, 0) = x at e0 e1 HX
      have hnI : (ix : Int) < (f.cells.length : Int) := by omega
      go_wp2
      obtain ⟨g0, g1⟩ := two_set HR4.out (.int .u8 x.1) (.int .u8 x.2)
      refine bodyPost_ret (v := .agg #[.int .u8 x.1, .int .u8 x.2]) (by simp [results, Try.results13, go_sem, g0, g1]) rfl ⟨?_, _, (HAS4.out.set HF.out (p := ⟨W.heap.size + 1, 0, none⟩) (Nat.le_succ _) (HNV.out _ (Nat.le_succ _) (Nat.lt_succ_self _)) _).set HF.out (p := ⟨W.heap.size + 1, 1, none⟩) (Nat.le_succ _) (HNV.out _ (Nat.le_succ _) (Nat.lt_succ_self _)) _⟩
      rw [HX.out]
      rfl
    · have HX := Lib.hid (show cellAt f (px, py, pz) = (1, 0) from if_neg hin)
      rw [if_neg hin] at HIX3
      clear hin
      go_wp2_with fail
      go_at_call 16
      refine HIX3.out.mono ?_
      rintro e w4 ⟨rfl, hb⟩
      have HAS4 := Lib.hid (HAS.out.under hb)
      have HR4 := Lib.hid (HR3.out.below hb HR3.out.lt)
      have HP4 := Lib.hid (HP3.out.below hb HP3.out.lt)
      clear hb a0 a1 a2
      obtain ⟨a0, a1, a2⟩ := three_cells HP4.out
      go_wp2_with fail
      go_at_call 41
      refine (HQM.out _).mono ?_
      rintro e w5 ⟨rfl, hb⟩
      have HAS5 := Lib.hid (HAS4.out.under hb)
      have HR5 := Lib.hid (HR4.out.below hb HR4.out.lt)
      clear hb a0 a1 a2
      obtain ⟨r0, r1⟩ := two_cells HR5.out
      obtain ⟨f0, f1⟩ := two_free HR5.out
      go_wp2
      obtain ⟨g0, g1⟩ := two_set HR5.out (.int .u8 1) (.int .u8 0)
      refine bodyPost_ret (v := .agg #[.int .u8 1, .int .u8 0]) (by simp [results, Try.results13, go_sem, g0, g1]) rfl ⟨?_, _, (HAS5.out.set HF.out (p := ⟨W.heap.size + 1, 0, none⟩) (Nat.le_succ _) (HNV.out _ (Nat.le_succ _) (Nat.lt_succ_self _)) _).set HF.out (p := ⟨W.heap.size + 1, 1, none⟩) (Nat.le_succ _) (HNV.out _ (Nat.le_succ _) (Nat.lt_succ_self _)) _⟩
      rw [HX.out]
      rfl
end Go.Proofs.Ytlhjjmfbifhgfaa
/- The field's Light: the walk. -/
namespace Go.Proofs.Ytlhjjmfbifhgfaa
set_option linter.unusedSimpArgs false
set_option linter.unusedVariables false
open Go.RowKit

def lightAt (f : Fw) (p : Pl) : Int × Int := if f.b.inside p then f.lights.getD (f.b.idx p) (0, 0) else (0, 0)
set_option maxRecDepth 100000 in
set_option maxHeartbeats 4000000 in
theorem wlight_any (W : World) (base g : Nat) (f : Fw) (cv lv av tv : Value) (h : FieldAt W base g f cv lv av tv) (ok : f.Ok) (p : Pl) (hm : mayP p = true) (hl : f.asked.length ≤ 1000000000) :
    Calls Try.prog 100 #[.pointer (some ⟨g, 0, none⟩), plV p] W fun e w' => e = .returned (clV (lightAt f p)) ∧ ∃ av', Asks W w' base g f cv lv av tv [p] av' := by
  have HF := Lib.hid h
  have HLEN := Lib.hid hl
  have HOK := Lib.hid ok
  have HM := Lib.hid hm
  obtain ⟨px, py, pz⟩ := p
  have HIX := Lib.hid (fun W' av' (l : List Pl) hb => windex_any W' g { f with asked := l } cv lv av' tv hb ok.box (px, py, pz) hm)
  unfold plV plC at HIX ⊢
  simp only at HIX ⊢
  obtain ⟨W1, hW⟩ : ∃ W1, W1 = (W.alloc (.cells #[.int .i64 px, .int .i64 py, .int .i64 pz] 23)).alloc (.cells #[.int .u8 0, .int .u8 0] 43) := ⟨_, rfl⟩
  have hP := (Blk.new W 23 #[.int .i64 px, .int .i64 py, .int .i64 pz]).alloc (.cells #[.int .u8 0, .int .u8 0] 43)
  have hR := Blk.new (W.alloc (.cells #[.int .i64 px, .int .i64 py, .int .i64 pz] 23)) 43 #[.int .u8 0, .int .u8 0]
  rw [show (W.alloc (.cells #[.int .i64 px, .int .i64 py, .int .i64 pz] 23)).heap.size = W.heap.size + 1 from by simp] at hR
  have hK := (h.blk.alloc (.cells #[.int .i64 px, .int .i64 py, .int .i64 pz] 23)).alloc (.cells #[.int .u8 0, .int .u8 0] 43)
  have hA := (h.asked.alloc (.cells #[.int .i64 px, .int .i64 py, .int .i64 pz] 23)).alloc (.cells #[.int .u8 0, .int .u8 0] 43)
  have hO : Only W W1 (QF g av.ownBlock) := by rw [hW]; exact ((Only.refl W _).alloc _).alloc _
  have hsz : W1.heap.size = W.heap.size + 2 := by rw [hW]; simp
  have hlow := h.low
  have hglt := h.blk.lt
  rw [← hW] at hP hK hA hR
  have hb1 : base ≤ W1.heap.size := by omega
  have d8 := hK.cell 8
  simp only [fwC, List.getElem?_toArray, List.getElem?_cons_zero, List.getElem?_cons_succ] at d8
  have d8' := fun o => (hK.alloc o).cell 8
  simp only [fwC, List.getElem?_toArray, List.getElem?_cons_zero, List.getElem?_cons_succ] at d8'
  obtain ⟨a0, a1, a2⟩ := three_cells hP
  have HP := Lib.hid hP
  have HR := Lib.hid hR
  have HK := Lib.hid hK
  have HA := Lib.hid hA
  have HO := Lib.hid hO
  have HW := Lib.hid hW
  have HSZ := Lib.hid hsz
  have HGL := Lib.hid hglt
  have HNA := Lib.hid (show ∀ k, W.heap.size ≤ k → some k ≠ av.ownBlock from fun k hk e => absurd (h.asked.lt k e.symm).2 (by omega))
  clear hW hP hK hA h hsz hR hO hl ok hm hglt
  go_enter Try.func100, Try.ntmps100
  go_wp2
  rw [← HW.out]
  go_region_law (refine pl_step HA.out.drew rfl _ _ rfl rfl ((px, py, pz) : Pl) rfl (by have := HLEN.out; omega) (show base ≤ W1.heap.size from hb1) (fun ao n c w2 h1 h2 h3 => ?_); have q2 := (HK.out.drew.alloc _).grown h2 (fun e => by
      have h4 := own_blk_ne HA.out HK.out (by decide)
      exact h4 e.symm); have k0 := q2.frozen 8; have k1 := (show w2.cell? ⟨g, 8, none⟩ = some av from q2.cell 8))
  all_goals
    have HAS := Lib.hid (asked_more (p := (px, py, pz)) HF.out ((HO.out.drew.alloc _).grown h2 (fun k hk => .inl (.inr hk.symm))) q2 h1 (h3.imp id fun ⟨k, hk, hk2⟩ => ⟨k, hk, by have := HSZ.out; have h5 : W1.heap.size ≤ k := hk2; omega⟩))
    have HP3 := Lib.hid (((HP.out.drew.alloc _).grown h2 (HNA.out _ (Nat.le_refl _))).other (p := ⟨g, 8, none⟩) (by have := HGL.out; simp; omega) (.slice ao n c))
    have HR3 := Lib.hid (((HR.out.drew.alloc _).grown h2 (HNA.out _ (Nat.le_succ _))).other (p := ⟨g, 8, none⟩) (by have := HGL.out; simp; omega) (.slice ao n c))
    have HNV := Lib.hid (show ∀ k, W.heap.size ≤ k → k < W.heap.size + 2 → (Value.slice ao n c).ownBlock ≠ some k from fun k hk1 hk2 e => by
      rcases h3 with h3 | ⟨j, hj, h3⟩
      · exact HNA.out k hk1 (e.symm.trans h3)
      · have h5 : W1.heap.size ≤ j := h3
        have h6 := HSZ.out
        have : j = k := Option.some.inj (hj.symm.trans e)
        omega)
    clear h1 h2 h3 q2 k0 k1 d8 d8' a0 a1 a2
    generalize w2.setCell ⟨g, 8, none⟩ (.slice ao n c) = W3 at HAS HP3 HR3 ⊢
    obtain ⟨a0, a1, a2⟩ := three_cells HP3.out
    have HIX3 := Lib.hid (HIX.out W3 _ _ HAS.out.fld.blk)
    unfold indexV at HIX3
    by_cases hin : f.b.inside (px, py, pz)
    · have HX := Lib.hid (show lightAt f (px, py, pz) = f.lights.getD (f.b.idx (px, py, pz)) (0, 0) from if_pos hin)
      have HLT := Lib.hid (show f.b.idx (px, py, pz) < f.lights.length by rw [HOK.out.lights]; exact f.b.idx_lt hin)
      rw [if_pos hin] at HIX3
      clear hin
      go_wp2_with fail
      go_at_call 16
      refine HIX3.out.mono ?_
      rintro e w4 ⟨rfl, hb⟩
      have HAS4 := Lib.hid (HAS.out.under hb)
      have HR4 := Lib.hid (HR3.out.below hb HR3.out.lt)
      clear hb a0 a1 a2
      have hcr := HAS4.out.fld.lights
      obtain ⟨_, aoc, cc, hcv, hcc, _⟩ := own_rat (d := ((0, 0) : Int × Int)) clE_len hcr
      have hn := HLT.out
      subst hcv
      have hcc2 : f.lights.length ≤ cc := hcc
      have hc0 : 0 < cc := by omega
      obtain ⟨gc, rfl, -, -⟩ := own_form hcr hc0
      have hat := own_at clE_len ((0, 0) : Int × Int) hcr hn
      have e0 : w4.cell? ⟨gc, f.b.idx (px, py, pz) * 2, none⟩ = some (.int .u8 (f.lights.getD (f.b.idx (px, py, pz)) (0, 0)).1) := hat 0 (by decide)
      have e1 : w4.cell? ⟨gc, f.b.idx (px, py, pz) * 2 + 1, none⟩ = some (.int .u8 (f.lights.getD (f.b.idx (px, py, pz)) (0, 0)).2) := hat 1 (by decide)
      have d6 : w4.cell? ⟨g, 7, none⟩ = some (.slice (some ⟨gc, 0, none⟩) f.lights.length cc) := HAS4.out.fld.blk.cell 7
      obtain ⟨r0, r1⟩ := two_cells HR4.out
      obtain ⟨f0, f1⟩ := two_free HR4.out
      clear hat hcr hcc hcc2
      generalize f.b.idx (px, py, pz) = ix at e0 e1 hn HX HIX3 ⊢
      generalize f.lights.getD ix (0, 0) = x at e0 e1 HX
      have hnI : (ix : Int) < (f.lights.length : Int) := by omega
      go_wp2
      obtain ⟨g0, g1⟩ := two_set HR4.out (.int .u8 x.1) (.int .u8 x.2)
      refine bodyPost_ret (v := .agg #[.int .u8 x.1, .int .u8 x.2]) (by simp [results, Try.results100, go_sem, g0, g1]) rfl ⟨?_, _, (HAS4.out.set HF.out (p := ⟨W.heap.size + 1, 0, none⟩) (Nat.le_succ _) (HNV.out _ (Nat.le_succ _) (Nat.lt_succ_self _)) _).set HF.out (p := ⟨W.heap.size + 1, 1, none⟩) (Nat.le_succ _) (HNV.out _ (Nat.le_succ _) (Nat.lt_succ_self _)) _⟩
      rw [HX.out]
      rfl
    · have HX := Lib.hid (show lightAt f (px, py, pz) = (0, 0) from if_neg hin)
      rw [if_neg hin] at HIX3
      clear hin
      go_wp2_with fail
      go_at_call 16
      refine HIX3.out.mono ?_
      rintro e w4 ⟨rfl, hb⟩
      have HAS4 := Lib.hid (HAS.out.under hb)
      have HR4 := Lib.hid (HR3.out.below hb HR3.out.lt)
      have HP4 := Lib.hid (HP3.out.below hb HP3.out.lt)
      clear hb a0 a1 a2
      obtain ⟨r0, r1⟩ := two_cells HR4.out
      obtain ⟨f0, f1⟩ := two_free HR4.out
      go_wp2
      obtain ⟨g0, g1⟩ := two_set HR4.out (.int .u8 0) (.int .u8 0)
      refine bodyPost_ret (v := .agg #[.int .u8 0, .int .u8 0]) (by simp [results, Try.results100, go_sem, g0, g1]) rfl ⟨?_, _, (HAS4.out.set HF.out (p := ⟨W.heap.size + 1, 0, none⟩) (Nat.le_succ _) (HNV.out _ (Nat.le_succ _) (Nat.lt_succ_self _)) _).set HF.out (p := ⟨W.heap.size + 1, 1, none⟩) (Nat.le_succ _) (HNV.out _ (Nat.le_succ _) (Nat.lt_succ_self _)) _⟩
      rw [HX.out]
      rfl
end Go.Proofs.Ytlhjjmfbifhgfaa
