/- Joined texts of one seat, each under its own heading below. -/
import Derived.Test.YtlhjjmfbifhgfaaFM9
import Derived.Lib.SliceRun
/- slices.DeleteFunc at a row of places and bright's predicate: the walk. -/
namespace Go.Proofs.Ytlhjjmfbifhgfaa
set_option linter.unusedSimpArgs false
set_option linter.unusedVariables false
open Go.RowKit
set_option maxRecDepth 100000

theorem off_filter {f : Fw} : ∀ {l : List Pl}, offAt f l < l.length → (l.take (offAt f l + 1)).filter (clrAt f) = l.take (offAt f l)
  | [], h => absurd h (Nat.not_lt_zero _)
  | x :: l, h => by
    unfold offAt at *
    rw [List.findIdx_cons] at h ⊢
    cases hx : clrAt f x with
    | false => simp [hx]
    | true =>
      rw [hx] at h
      simp only [Bool.not_true, cond_false, List.length_cons] at h ⊢
      have ih := off_filter (f := f) (l := l) (by unfold offAt; omega)
      unfold offAt at ih
      rw [List.take_succ_cons, List.take_succ_cons, List.filter_cons_of_pos (by rw [hx]), ih]
theorem off_all {f : Fw} {l : List Pl} (h : ¬ offAt f l < l.length) : l.filter (clrAt f) = l := by
  rw [List.filter_eq_self]
  intro q hq
  unfold offAt at h
  rw [List.findIdx_lt_length] at h
  have := fun h2 => h ⟨q, hq, h2⟩
  cases hc : clrAt f q with
  | true => rfl
  | false => exact absurd (by rw [hc]; rfl) this
theorem rc_set3 (x : Pl) : ∀ (L : List Pl) (i : Nat), rc plE (L.set i x) = (((rc plE L).set (i * 3) (.int .i64 x.1)).set (i * 3 + 1) (.int .i64 x.2.1)).set (i * 3 + 2) (.int .i64 x.2.2)
  | [], i => by simp [rc]
  | y :: L, 0 => by simp [rc, plE, plC]
  | y :: L, i + 1 => by
    rw [List.set_cons_succ, rc_cons, rc_cons, rc_set3 x L i]
    simp only [plE, plC, List.cons_append, List.nil_append]
    rw [show (i + 1) * 3 = i * 3 + 1 + 1 + 1 from by omega]
    simp only [List.set_cons_succ]
theorem row_set {W : World} {b gl n c : Nat} {L : List Pl} (h : PRow W b (.slice (some ⟨gl, 0, none⟩) n c) L) (hn : n = L.length) (i : Nat) (x : Pl) :
    PRow (((W.setCell ⟨gl, i * 3, none⟩ (.int .i64 x.1)).setCell ⟨gl, i * 3 + 1, none⟩ (.int .i64 x.2.1)).setCell ⟨gl, i * 3 + 2, none⟩ (.int .i64 x.2.2)) b (.slice (some ⟨gl, 0, none⟩) n c) (L.set i x) := by
  subst hn
  show World.ownsRow _ b 23 3 _ (L.set i x).length (rc plE (L.set i x))
  rw [rc_set3, List.length_set]
  exact own_put (own_put (own_put h _ _) _ _) _ _
theorem own_take {w : World} {base e size g n c : Nat} {xs : List Value} (h : w.ownsRow base e size (.slice (some ⟨g, 0, none⟩) n c) n xs) {m : Nat} (hm : m ≤ n) : w.ownsRow base e size (.slice (some ⟨g, 0, none⟩) m c) m (xs.take (m * size)) := by
  obtain ⟨h1, h2⟩ := h
  rcases h2 with ⟨h2, _⟩ | ⟨g', cap, cur, h2, h3, h4, h5, h6, h7, h8⟩
  · cases h2
  · injection h2 with e1 e2 e3
    injection e1 with e1
    injection e1 with e1
    subst e1 e3
    have hmn : m * size ≤ n * size := Nat.mul_le_mul_right _ hm
    refine ⟨by rw [List.length_take, h1]; omega, .inr ⟨g, c, cur, rfl, h3, h4, by omega, h6, h7, ?_⟩⟩
    rw [← h8, List.take_take]
    congr 1
    omega
theorem own_past {w : World} {base e size g n c : Nat} {xs : List Value} (h : w.ownsRow base e size (.slice (some ⟨g, 0, none⟩) n c) n xs) {j : Nat} (hj : n * size ≤ j) (u : Value) : (w.setCell ⟨g, j, none⟩ u).ownsRow base e size (.slice (some ⟨g, 0, none⟩) n c) n xs := by
  have h2 := own_put h j u
  rwa [List.set_eq_of_length_le (by rw [h.1]; omega)] at h2
theorem own_pasts {base e size g n c : Nat} {xs : List Value} : ∀ (vs : List Value) (o : Nat) (w : World), w.ownsRow base e size (.slice (some ⟨g, 0, none⟩) n c) n xs → n * size ≤ o → (w.setCells g o vs).ownsRow base e size (.slice (some ⟨g, 0, none⟩) n c) n xs
  | [], _, _, h, _ => h
  | v :: vs, o, w, h, ho => own_pasts vs (o + 1) _ (own_past h ho v) (by omega)
theorem only_cells {w w' : World} {S : Nat → Prop} {g : Nat} : ∀ (vs : List Value) (o : Nat) (w' : World), Only w w' S → (S g ∨ w.heap.size ≤ g) → Only w (w'.setCells g o vs) S
  | [], _, _, h, _ => h
  | v :: vs, o, w', h, hs => only_cells (w' := w') vs (o + 1) _ (h.setCell (p := ⟨g, o, none⟩) hs v) hs
theorem prow_take {W : World} {b gl n c : Nat} {L : List Pl} (h : PRow W b (.slice (some ⟨gl, 0, none⟩) n c) L) (hn : n = L.length) {m : Nat} (hm : m ≤ n) : PRow W b (.slice (some ⟨gl, 0, none⟩) m c) (L.take m) := by
  subst hn
  have h2 := own_take h hm
  have h3 : (rc plE L).take (m * 3) = rc plE (L.take m) := by
    clear h h2
    induction L generalizing m with
    | nil => simp [rc]
    | cons x L ih =>
      cases m with
      | zero => simp [rc]
      | succ m =>
        rw [List.take_succ_cons, rc_cons, rc_cons, ← ih (by simpa using hm)]
        simp [plE, plC, show (m + 1) * 3 = m * 3 + 1 + 1 + 1 from by omega, List.take_succ_cons]
  rw [h3] at h2
  show World.ownsRow _ b 23 3 _ (L.take m).length _
  rwa [List.length_take, Nat.min_eq_left hm]
theorem zero_place (w : World) : (zeroValue 23).run Try.prog w = .ok (.agg #[.int .i64 0, .int .i64 0, .int .i64 0]) w := by kernel_rfl
theorem clear_run (w : World) (ty b o n c : Nat) (hn : 0 < n) (hc : ∀ j, j < n * 3 → (w.cell? ⟨b, o + j, none⟩).isSome = true) (hf : ∀ j, w.frozen? ⟨b, j, none⟩ = false) :
    (Builtin.clear_ #[46] ty #[.slice (some ⟨b, o, none⟩) n c]).run Try.prog w = .ok (.tuple #[]) (w.setCells b o (List.replicate (n * 3) (.int .i64 0))) := by
  have hzc : (Builtin.zeroCells (Value.agg #[.int .i64 0, .int .i64 0, .int .i64 0]).cells n).toList = List.replicate (n * 3) (.int .i64 0) := by
    simp only [Value.cells, Builtin.zeroCells]
    apply List.ext_getElem
    · simp [Nat.mul_comm]
    · intro i h1 h2
      simp
      have : i % 3 = 0 ∨ i % 3 = 1 ∨ i % 3 = 2 := by omega
      rcases this with h | h | h <;> simp [h]
  have hst := run_storeCells_cells (P := Try.prog) b o (List.replicate (n * 3) (.int .i64 0)) 0 w (by simpa using hc) (by intro j _; exact hf _) (by intro v hv'; rw [List.eq_of_mem_replicate hv']; rfl)
  simp only [Nat.add_zero] at hst
  obtain ⟨m, rfl⟩ : ∃ m, n = m + 1 := ⟨n - 1, by omega⟩
  simp only [Builtin.clear_]
  simp [run_underlying Try.underlying46, zero_place, hzc, hst]
/-- What DeleteFunc's loop holds. -/
structure DelAt (W0 wr : World) (base g b3 b10 b11 gm b gl c2 : Nat) (f : Fw) (cv lv av tv : Value) (M' : LMap) (c' : Nat) (A l : List Pl) (i j : Nat) (L : List Pl) (av' : Value) : Prop where
  lt : i < j
  le : j ≤ l.length
  sets : Sets W0 wr base g b3 b10 b11 gm f cv lv av tv M' c' (A ++ l.take j) av'
  len : L.length = l.length
  row : PRow wr b (.slice (some ⟨gl, 0, none⟩) l.length c2) L
  front : L.take i = (l.take j).filter (clrAt f)
  back : L.drop j = l.drop j
  apart : av'.ownBlock ≠ some gl
theorem take_set_succ {L : List Pl} {i : Nat} (h : i < L.length) (x : Pl) : (L.set i x).take (i + 1) = L.take i ++ [x] := by
  rw [List.take_succ_eq_append_getElem (by rwa [List.length_set]), List.take_set_of_le (Nat.le_refl _)]
  simp
theorem drop_get {L l : List Pl} {j : Nat} (h : L.drop j = l.drop j) (d : Pl) : L.getD j d = l.getD j d := by
  have h2 := congrArg (fun x : List Pl => x.getD 0 d) h
  simpa [List.getD_eq_getElem?_getD] using h2
theorem filter_take_succ {f : Fw} {l : List Pl} {j : Nat} (h : j < l.length) : (l.take (j + 1)).filter (clrAt f) = (l.take j).filter (clrAt f) ++ if clrAt f (l.getD j (0, 0, 0)) then [l.getD j (0, 0, 0)] else [] := by
  rw [takeN h (0, 0, 0), List.filter_append]
  congr 1
  generalize l.getD j (0, 0, 0) = x
  cases hc : clrAt f x <;> simp [hc]
set_option maxHeartbeats 8000000 in
theorem del_any (W0 W : World) (base g b2 b3 b10 b11 gm b : Nat) (f : Fw) (cv lv av tv av1 o a s v : Value) (M M' : LMap) (c c' : Nat) (A l : List Pl) (h0 : FS W0 base g b3 b10 b11 gm f cv lv av tv M c) (hs : Sets W0 W base g b3 b10 b11 gm f cv lv av tv M' c' A av1) (ok : f.Ok)
    (hw : Blk W b2 73 (wvC g o a s)) (hr : PRow W b v l) (hb : W0.heap.size ≤ b) (hap : ∀ k, v.ownBlock = some k → av1.ownBlock ≠ some k) (hm : ∀ q ∈ l, mayP q = true) (hl : f.asked.length + A.length + l.length ≤ 1000000000) :
    Calls Try.prog 49 #[v, .func (.func 51) #[] #[.pointer (some ⟨b2, 0, none⟩)]] W fun e w' => ∃ v' av', e = .returned v' ∧ Sets W0 w' base g b3 b10 b11 gm f cv lv av tv M' c' (A ++ l) av' ∧ PRow w' b v' (l.filter (clrAt f)) ∧ Blk w' b2 73 (wvC g o a s) ∧ (∀ k, v'.ownBlock = some k → av'.ownBlock ≠ some k) := by
  have hi := index_any W base g b2 b { f with asked := f.asked ++ A } cv lv av1 tv o a s v l hs.fs.fld (ok.asks A) hw hr hap hm (by rw [List.length_append]; omega)
  have ho : offAt { f with asked := f.asked ++ A } l = offAt f l := rfl
  unfold idxV at hi
  rw [ho] at hi
  obtain ⟨_, ao, c2, rfl, hc2, _⟩ := own_rat (d := ((0, 0, 0) : Pl)) plE_len hr
  have H0 := Lib.hid h0
  have HS := Lib.hid hs
  have HW := Lib.hid hw
  have HR := Lib.hid hr
  have HAP := Lib.hid hap
  have HM := Lib.hid hm
  have HL := Lib.hid hl
  have HOK := Lib.hid ok
  have HBB := Lib.hid hb
  by_cases hlt : offAt f l < l.length
  · rw [if_pos hlt] at hi
    have HI := Lib.hid hi
    have HLT := Lib.hid hlt
    have hc0 : 0 < c2 := by omega
    obtain ⟨gl, rfl, -, -⟩ := own_form hr hc0
    have HB1 := Lib.hid (fun W' av' (B : List Pl) (h' : FieldAt W' base g { f with asked := f.asked ++ B } cv lv av' tv) (hv' : Blk W' b2 73 (wvC g o a s)) q (hm' : mayP q = true) (hl' : (f.asked ++ B).length ≤ 1000000000) => bright1_any W' base g b2 _ cv lv av' tv o a s h' (ok.asks B) hv' q hm' hl')
    have hlen : l.length ≤ 1000000000 := by omega
    have hgl : W0.heap.size ≤ gl := by have := (hr.lt gl rfl).1; omega
    clear h0 hs hw hr hap hm hl ok hb hi hlt ho
    go_enter Try.func49, Try.ntmps49
    go_wp2_with fail
    go_at_call 63
    refine HI.out.mono ?_
    rintro e w2 ⟨rfl, av2, ha⟩
    have HST := Lib.hid (show DelAt W0 w2 base g b3 b10 b11 gm b gl c2 f cv lv av tv M' c' A l (offAt f l) (offAt f l + 1) l av2 from
      ⟨Nat.lt_succ_self _, HLT.out, HS.out.asks ha, rfl, ha.row HS.out.fs.fld HR.out HAP.out, (off_filter HLT.out).symm, rfl, apart_new HAP.out (fun k hk => (HR.out.lt k hk).2) ha.new gl rfl⟩)
    have HW2 := Lib.hid (ha.blk HS.out.fs.fld HW.out (by decide) (wave_apart HS.out.fs.fld HW.out))
    clear ha
    have hlt := HLT.out
    have hltI : ¬ ((offAt f l : Int) = -1) := by omega
    go_wp2
    go_loopw [5, 6] (fun vi vj wr => ∃ (i j : Nat) (L : List Pl) (av' : Value), vi = .int .i64 i ∧ vj = .int .i64 j ∧ DelAt W0 wr base g b3 b10 b11 gm b gl c2 f cv lv av tv M' c' A l i j L av' ∧ Blk wr b2 73 (wvC g o a s)) (fun _ vj _ => l.length - (intOf vj).toNat)
    case atStart => exact ⟨offAt f l, offAt f l + 1, l, av2, rfl, by go_num, HST.out, HW2.out⟩
    case round =>
      obtain ⟨i, j, L, av', rfl, rfl, hd, hbw⟩ := hrel
      have HD := Lib.hid hd
      have HBW := Lib.hid hbw
      have hij := hd.lt
      have hjl := hd.le
      by_cases hlt2 : j < l.length
      · have hltI2 : (j : Int) < (l.length : Int) := by omega
        have hr2 := hd.row
        rw [← hd.len] at hr2
        have hat := own_at plE_len ((0, 0, 0) : Pl) hr2 (show j < L.length by rw [hd.len]; exact hlt2)
        obtain ⟨q, hq⟩ : ∃ q, q = l.getD j (0, 0, 0) := ⟨_, rfl⟩
        rw [drop_get hd.back, ← hq] at hat
        have HQ := Lib.hid hq
        have hmq : mayP q = true := HM.out q (hq ▸ getD_mem hlt2 _)
        have HTK := Lib.hid (takeN hlt2 (0, 0, 0))
        have HFT := Lib.hid (filter_take_succ (f := f) hlt2)
        have HBJ := Lib.hid (fun W' (h' : Sets W0 W' base g b3 b10 b11 gm f cv lv av tv M' c' (A ++ l.take j) av') (hv' : Blk W' b2 73 (wvC g o a s)) => HB1.out W' av' _ h'.fs.fld hv' q hmq (by rw [List.length_append, List.length_append, List.length_take]; have := HL.out; omega))
        obtain ⟨qx, qy, qz⟩ := q
        have e0 : wr.cell? ⟨gl, j * 3, none⟩ = some (.int .i64 qx) := hat 0 (by decide)
        have e1 : wr.cell? ⟨gl, j * 3 + 1, none⟩ = some (.int .i64 qy) := hat 1 (by decide)
        have e2 : wr.cell? ⟨gl, j * 3 + 2, none⟩ = some (.int .i64 qz) := hat 2 (by decide)
        have HP2 := Lib.hid (Blk.new wr 23 #[.int .i64 qx, .int .i64 qy, .int .i64 qz])
        have HB2 := Lib.hid ((Below.refl wr.heap.size wr).alloc (Nat.le_refl _) (.cells #[.int .i64 qx, .int .i64 qy, .int .i64 qz] 23))
        have HBK := Lib.hid (HBJ.out _ (hd.sets.under HB2.out) (hbw.below HB2.out hbw.lt))
        have HCL := Lib.hid (show clrAt { f with asked := f.asked ++ (A ++ l.take j) } (qx, qy, qz) = clrAt f (l.getD j (0, 0, 0)) by rw [← HQ.out]; rfl)
        clear hat hq hr2 hmq hd hbw
        unfold plV plC at HBK
        simp only at HBK
        generalize clrAt { f with asked := f.asked ++ (A ++ l.take j) } (qx, qy, qz) = cb at HBK HCL
        go_wp2_with fail
        go_at_call 51
        refine HBK.out.mono ?_
        rintro e w4 ⟨rfl, av'', ha⟩
        have h1 := HD.out.sets.under HB2.out
        have hra : ∀ k, (Value.slice (some ⟨gl, 0, none⟩) l.length c2).ownBlock = some k → av'.ownBlock ≠ some k := fun k hk e => HD.out.apart (by rw [e]; exact hk.symm)
        have HS4 := Lib.hid (h1.asks ha)
        have HR4 := Lib.hid (ha.row h1.fs.fld (own_below HD.out.row HB2.out) hra)
        have HW4 := Lib.hid (ha.blk h1.fs.fld (HBW.out.below HB2.out HBW.out.lt) (by decide) (wave_apart h1.fs.fld (HBW.out.below HB2.out HBW.out.lt)))
        have HP4 := Lib.hid (ha.blk h1.fs.fld HP2.out (by decide) (fun e => by have := (HD.out.sets.fs.fld.asked.lt _ e).2; omega))
        have HAP4 := Lib.hid (apart_new hra (fun k hk => ((own_below HD.out.row HB2.out).lt k hk).2) ha.new gl rfl)
        clear ha h1 hra e0 e1 e2
        have hil : i < L.length := by rw [HD.out.len]; omega
        cases cb with
        | false =>
          go_wp2
          refine ⟨⟨_, _, _, _, _, _, _, _, _, _, _, _, _, _, _, _, _, _, _, _, _, _, _, ⟨i, j + 1, L, av'', rfl, by go_num, ⟨by omega, hlt2, ?_, HD.out.len, HR4.out, ?_, ?_, HAP4.out⟩, HW4.out⟩, rfl⟩, ?_⟩
          · rw [HTK.out, ← HQ.out, ← List.append_assoc]; exact HS4.out
          · rw [HFT.out, ← HCL.out, HD.out.front]; simp
          · rw [← List.drop_drop, HD.out.back, List.drop_drop]
          · simp [intOf]; omega
        | true =>
          obtain ⟨a0, a1, a2⟩ := three_cells HP4.out
          have hr5 := HR4.out
          rw [← HD.out.len] at hr5
          have hat := own_at plE_len ((0, 0, 0) : Pl) hr5 hil
          have z0 := own_free hr5 (i * 3)
          have z1 := own_free hr5 (i * 3 + 1)
          have z2 := own_free hr5 (i * 3 + 2)
          obtain ⟨⟨rx, ry, rz⟩, hrq⟩ : ∃ r, r = L.getD i (0, 0, 0) := ⟨_, rfl⟩
          rw [← hrq] at hat
          have e0 : w4.cell? ⟨gl, i * 3, none⟩ = some (.int .i64 rx) := hat 0 (by decide)
          have e1 : w4.cell? ⟨gl, i * 3 + 1, none⟩ = some (.int .i64 ry) := hat 1 (by decide)
          have e2 : w4.cell? ⟨gl, i * 3 + 2, none⟩ = some (.int .i64 rz) := hat 2 (by decide)
          have hilI : (i : Int) < (l.length : Int) := by omega
          clear hat hrq hr5
          go_wp2
          · have ho : Only w4 (((w4.setCell ⟨gl, i * 3, none⟩ (.int .i64 qx)).setCell ⟨gl, i * 3 + 1, none⟩ (.int .i64 qy)).setCell ⟨gl, i * 3 + 2, none⟩ (.int .i64 qz)) (fun k => k = gl) := (((Only.refl w4 (fun k => k = gl)).setCell (p := ⟨gl, i * 3, none⟩) (.inl rfl) _).setCell (p := ⟨gl, i * 3 + 1, none⟩) (.inl rfl) _).setCell (p := ⟨gl, i * 3 + 2, none⟩) (.inl rfl) _
            refine ⟨⟨_, _, _, _, _, _, _, _, _, _, _, _, _, _, _, _, _, _, _, _, _, _, _, ⟨i + 1, j + 1, L.set i (qx, qy, qz), av'', by go_num, by go_num, ⟨by omega, hlt2, ?_, by rw [List.length_set]; exact HD.out.len, row_set HR4.out HD.out.len.symm i (qx, qy, qz), ?_, ?_, HAP4.out⟩, HW4.out.only ho (fun e => own_blk_ne HR4.out HW4.out (by decide) (by rw [e]; rfl))⟩, rfl⟩, ?_⟩
            · rw [HTK.out, ← HQ.out, ← List.append_assoc]
              exact HS4.out.far H0.out ho (fun k hk => hk ▸ ⟨hgl, HAP4.out⟩)
            · rw [HFT.out, ← HCL.out, take_set_succ hil, HD.out.front, ← HQ.out]; rfl
            · rw [List.drop_set_of_lt (by omega), ← List.drop_drop, HD.out.back, List.drop_drop]
            · simp [intOf]; omega
      · have hltI2 : ¬ (j : Int) < (l.length : Int) := by omega
        have hjE : j = l.length := by omega
        have hle1 : (i : Int) ≤ (l.length : Int) := by omega
        have hle2 : (l.length : Int) ≤ (c2 : Int) := by omega
        have hcl := fun ty => clear_run wr ty gl (i * 3) (l.length - i) (c2 - i) (by omega) (fun k hk => by
          have h1 := hd.row
          rw [← hd.len] at h1
          have h2 := World.ownsRow.cellAt h1 (i * 3 + k) (by rw [hd.len]; omega)
          rw [h2, List.getElem?_eq_getElem (by have := h1.1; rw [this, hd.len]; omega)]
          rfl) (own_free hd.row)
        clear hd hbw
        go_wp2
        go_ret
        have ho : Only wr (wr.setCells gl (i * 3) (List.replicate ((l.length - i) * 3) (.int .i64 0))) (fun k => k = gl) := only_cells (w' := wr) _ _ _ (Only.refl wr (fun k => k = gl)) (.inl rfl)
        have hr6 := prow_take HD.out.row HD.out.len.symm (show i ≤ l.length by omega)
        rw [HD.out.front, hjE, List.take_of_length_le (Nat.le_refl _)] at hr6
        have hfl : (l.filter (clrAt f)).length = i := by
          have := congrArg List.length HD.out.front
          rw [List.length_take, hjE, List.take_of_length_le (Nat.le_refl _), HD.out.len] at this
          omega
        have hr7 : World.ownsRow wr b 23 3 (.slice (some ⟨gl, 0, none⟩) i c2) i (rc plE (l.filter (clrAt f))) := by
          have h8 : World.ownsRow wr b 23 3 (.slice (some ⟨gl, 0, none⟩) i c2) (l.filter (clrAt f)).length (rc plE (l.filter (clrAt f))) := hr6
          rwa [hfl] at h8
        have hr8 := own_pasts (List.replicate ((l.length - i) * 3) (.int .i64 0)) (i * 3) wr hr7 (Nat.le_refl _)
        refine ⟨_, rfl, av', ?_, ?_, HBW.out.only ho (fun e => own_blk_ne HD.out.row HBW.out (by decide) (by rw [e]; rfl)), fun k hk e => HD.out.apart (by rw [e]; exact hk.symm)⟩
        · have h9 := HD.out.sets.far H0.out ho (fun k hk => hk ▸ ⟨hgl, HD.out.apart⟩)
          rwa [hjE, List.take_of_length_le (Nat.le_refl _)] at h9
        · show World.ownsRow _ b 23 3 _ (l.filter (clrAt f)).length _
          rw [hfl]
          exact hr8
  · rw [if_neg hlt, List.take_of_length_le (by unfold offAt at *; omega)] at hi
    have HI := Lib.hid hi
    have HALL := Lib.hid (off_all hlt)
    clear h0 hs hw hr hap hm hl ok hb hi hlt ho
    go_enter Try.func49, Try.ntmps49
    go_wp2_with fail
    go_at_call 63
    refine HI.out.mono ?_
    rintro e w2 ⟨rfl, av2, ha⟩
    have HA := Lib.hid (HS.out.asks ha)
    have HR2 := Lib.hid (ha.row HS.out.fs.fld HR.out HAP.out)
    have HW2 := Lib.hid (ha.blk HS.out.fs.fld HW.out (by decide) (wave_apart HS.out.fs.fld HW.out))
    have HAP2 := Lib.hid (apart_new HAP.out (fun k hk => (HR.out.lt k hk).2) ha.new)
    clear ha
    go_wp2
    go_ret
    exact ⟨_, av2, rfl, HA.out, by rw [HALL.out]; exact HR2.out, HW2.out, HAP2.out⟩
end Go.Proofs.Ytlhjjmfbifhgfaa
/- A wave: what its closures answer; what its walks hold in memory: plain laws. -/
namespace Go.Proofs.Ytlhjjmfbifhgfaa
set_option linter.unusedSimpArgs false
set_option linter.unusedVariables false
open Go.RowKit

/-- One half of a light: how it is read, how it is put. -/
structure Half (sel : Int × Int → Int) (put : Int × Int → Int → Int × Int) : Prop where
  get : ∀ x n, sel (put x n) = n
  twice : ∀ x m n, put (put x m) n = put x n
  same : ∀ x, put x (sel x) = x
theorem half_lamp : Half (fun x => x.2) (fun x n => (x.1, n)) := ⟨fun _ _ => rfl, fun _ _ _ => rfl, fun _ => rfl⟩
theorem half_sky : Half (fun x => x.1) (fun x n => (n, x.2)) := ⟨fun _ _ => rfl, fun _ _ _ => rfl, fun _ => rfl⟩
/-- What a wave's closures answer. -/
structure WaveOk (base g b3 b10 b11 gm : Nat) (f : Fw) (cv lv tv : Value) (nO nA nS bo : Nat) (sel : Int × Int → Int) (put : Int × Int → Int → Int × Int) (own : Pl → Int) (X : World → Prop) : Prop where
  eO : ∀ args w, (callFunc nO args).run Try.prog w = .ok (.enter nO args) w
  eA : ∀ args w, (callFunc nA args).run Try.prog w = .ok (.enter nA args) w
  eS : ∀ args w, (callFunc nS args).run Try.prog w = .ok (.enter nS args) w
  at_ : ∀ W A av M c, FS W base g b3 b10 b11 gm { f with asked := f.asked ++ A } cv lv av tv M c → ∀ q, mayP q = true → (f.asked ++ A).length ≤ 1000000000 →
    Calls Try.prog nA #[plV q, .pointer (some ⟨b11, 0, none⟩)] W fun e w' => e = .returned (.int .u8 (sel (nowAt f M q))) ∧ ∃ av' l, JustOne q 1 l ∧ Asks W w' base g { f with asked := f.asked ++ A } cv lv av tv l av'
  set_ : ∀ W A av M c, FS W base g b3 b10 b11 gm { f with asked := f.asked ++ A } cv lv av tv M c → ∀ q n, mayP q = true → (f.asked ++ A).length ≤ 1000000000 →
    Calls Try.prog nS #[plV q, .int .u8 n, .pointer (some ⟨b11, 0, none⟩), .pointer (some ⟨b10, 0, none⟩)] W fun e w' => e = .returned (.tuple #[]) ∧ ∃ av' l, JustOne q 1 l ∧ Sets W w' base g b3 b10 b11 gm { f with asked := f.asked ++ A } cv lv av tv (putL M q (put (nowAt f M q) n) c) (putC (M.map entL) q c) l av'
  own_ : ∀ W A av M c, FS W base g b3 b10 b11 gm { f with asked := f.asked ++ A } cv lv av tv M c → X W → ∀ q, mayP q = true → (f.asked ++ A).length ≤ 1000000000 →
    Calls Try.prog nO #[plV q, .pointer (some ⟨bo, 0, none⟩)] W fun e w' => e = .returned (.int .u8 (own q)) ∧ ∃ av' l, JustOne q 1 l ∧ Asks W w' base g { f with asked := f.asked ++ A } cv lv av tv l av'
/-- What a walk holds over a wave, told relative to the world where it began: what was set and asked; its row of places; the wave behind its variable. -/
structure BSt (W0 W : World) (base g b3 b10 b11 gm b2 : Nat) (f : Fw) (cv lv av tv : Value) (ws : Array Value) (M : LMap) (c : Nat) (A : List Pl) (av' v : Value) (L : List Pl) : Prop where
  sets : Sets W0 W base g b3 b10 b11 gm f cv lv av tv M c A av'
  row : PRow W W0.heap.size v L
  apart : ∀ k, v.ownBlock = some k → av'.ownBlock ≠ some k
  box : Blk W b2 73 ws
  b2 : W0.heap.size ≤ b2
section
variable {W0 W W' W'' : World} {base g b3 b10 b11 gm b2 gh : Nat} {f : Fw} {cv lv av tv av' av'' v v' : Value} {ws : Array Value} {M M' M'' : LMap} {c c' c'' ch : Nat} {A l L : List Pl} {H : List (Ent Pl)}
theorem BSt.under (h : BSt W0 W base g b3 b10 b11 gm b2 f cv lv av tv ws M c A av' v L) (hb : Below W.heap.size W W') : BSt W0 W' base g b3 b10 b11 gm b2 f cv lv av tv ws M c A av' v L :=
  ⟨h.sets.under hb, own_below h.row hb, h.apart, h.box.below hb h.box.lt, h.b2⟩
theorem BSt.asks (h : BSt W0 W base g b3 b10 b11 gm b2 f cv lv av tv ws M c A av' v L) (k : Asks W W' base g { f with asked := f.asked ++ A } cv lv av' tv l av'') : BSt W0 W' base g b3 b10 b11 gm b2 f cv lv av tv ws M c (A ++ l) av'' v L :=
  ⟨h.sets.asks k, Asks.row h.sets.fs.fld k h.row h.apart, apart_new h.apart (fun i hi => (h.row.lt i hi).2) k.new, Asks.blk h.sets.fs.fld k h.box (by decide) (wave_apart h.sets.fs.fld h.box), h.b2⟩
theorem BSt.set (h : BSt W0 W base g b3 b10 b11 gm b2 f cv lv av tv ws M c A av' v L) (k : Sets W W' base g b3 b10 b11 gm { f with asked := f.asked ++ A } cv lv av' tv M' c' l av'') : BSt W0 W' base g b3 b10 b11 gm b2 f cv lv av tv ws M' c' (A ++ l) av'' v L :=
  ⟨h.sets.more k, Sets.row h.sets.fs k h.row h.apart, apart_new h.apart (fun i hi => (h.row.lt i hi).2) k.new, Sets.blk h.sets.fs k h.box (by decide) (wave_apart h.sets.fs.fld h.box), h.b2⟩
theorem BSt.push (h0 : FS W0 base g b3 b10 b11 gm f cv lv av tv M'' c'') (h : BSt W0 W base g b3 b10 b11 gm b2 f cv lv av tv ws M c A av' v L) (hg : W.grownBy W' v.ownBlock) (hr : PRow W' W0.heap.size v' l) {n : Nat} (hn : v'.ownBlock = v.ownBlock ∨ ∃ k, v'.ownBlock = some k ∧ n ≤ k) (hn2 : ∀ k, av'.ownBlock = some k → k < n) : BSt W0 W' base g b3 b10 b11 gm b2 f cv lv av tv ws M c A av' v' l := by
  refine ⟨h.sets.grown h0 hg (fun k hk => ⟨(h.row.lt k hk).1, h.apart k hk⟩), hr, fun k hk e => ?_, h.box.grown hg (fun e => own_blk_ne h.row h.box (by decide) e.symm), h.b2⟩
  rcases hn with h1 | ⟨j, h1, h2⟩
  · exact h.apart k (h1.symm.trans hk) e
  · have h3 := hn2 k e
    have : j = k := Option.some.inj (h1.symm.trans hk)
    omega
/-- A map of the walk's own is written. -/
theorem BSt.had (h0 : FS W0 base g b3 b10 b11 gm f cv lv av tv M'' c'') (h : BSt W0 W base g b3 b10 b11 gm b2 f cv lv av tv ws M c A av' v L) (hm : MapIs plV PlOk W gh H ch) (hgh : W0.heap.size ≤ gh) (hg : W.grownBy W' (some gh)) : BSt W0 W' base g b3 b10 b11 gm b2 f cv lv av tv ws M c A av' v L := by
  have hne : av'.ownBlock ≠ some gh := map_own_ne h.sets.fs.fld.asked hm
  refine ⟨h.sets.grown h0 hg (fun k hk => by cases hk; exact ⟨hgh, hne⟩), h.row.kept hg (.inr (map_own_ne h.row hm)), h.apart, h.box.grown hg (fun e => map_blk_ne h.box hm (Option.some.inj e)), h.b2⟩
theorem had_asks (h : BSt W0 W base g b3 b10 b11 gm b2 f cv lv av tv ws M c A av' v L) (hm : MapIs plV PlOk W gh H ch) (k : Asks W W' base g { f with asked := f.asked ++ A } cv lv av' tv l av'') : MapIs plV PlOk W' gh H ch :=
  hm.keep (k.only.block gh hm.inb (by
    rintro (e | e)
    · exact map_blk_ne h.sets.fs.fld.blk hm e.symm
    · exact map_own_ne h.sets.fs.fld.asked hm e.symm))
theorem had_set (h0 : FS W0 base g b3 b10 b11 gm f cv lv av tv M'' c'') (h : BSt W0 W base g b3 b10 b11 gm b2 f cv lv av tv ws M c A av' v L) (hm : MapIs plV PlOk W gh H ch) (hgh : W0.heap.size ≤ gh) (k : Sets W W' base g b3 b10 b11 gm { f with asked := f.asked ++ A } cv lv av' tv M' c' l av'') : MapIs plV PlOk W' gh H ch :=
  hm.keep (k.only.block gh hm.inb (by
    rintro ((e | e) | e)
    · exact map_blk_ne h.sets.fs.fld.blk hm e.symm
    · exact map_own_ne h.sets.fs.fld.asked hm e.symm
    · have := h0.map.inb; omega))
/-- A block that is newer than all that the calls may write. -/
theorem new_far (h : BSt W0 W base g b3 b10 b11 gm b2 f cv lv av tv ws M c A av' v L) {p : Nat} (hp : W.heap.size ≤ p) : ¬ QF g av'.ownBlock p := by
  rintro (e | e)
  · have := h.sets.fs.fld.blk.lt; omega
  · have := (h.sets.fs.fld.asked.lt p e.symm).2; omega
theorem new_far2 (h : BSt W0 W base g b3 b10 b11 gm b2 f cv lv av tv ws M c A av' v L) {p : Nat} (hp : W.heap.size ≤ p) : ¬ (QF g av'.ownBlock p ∨ p = gm) := by
  rintro (e | e)
  · exact new_far h hp e
  · have := h.sets.fs.map.inb; omega
end
/-- Is a place one of a list's, or a side of one? -/
def NearL (L : List Pl) (x : Pl) : Prop := ∃ r ∈ L, x = r ∨ x ∈ sidesP r
theorem NearL.mono {L L' : List Pl} {x : Pl} (h : NearL L x) (hs : ∀ r ∈ L, r ∈ L') : NearL L' x := let ⟨r, hr, hx⟩ := h; ⟨r, hs r hr, hx⟩
theorem NearL.one {L : List Pl} {q : Pl} {n : Nat} {l : List Pl} (h : JustOne q n l) (hq : NearL L q) : ∀ x ∈ l, NearL L x := fun x hx => by rw [h.1 x hx]; exact hq
theorem near_app {L l m : List Pl} (h : ∀ x ∈ l, NearL L x) (k : ∀ x ∈ m, NearL L x) : ∀ x ∈ l ++ m, NearL L x := fun x hx => (List.mem_append.1 hx).elim (h x) (k x)
end Go.Proofs.Ytlhjjmfbifhgfaa
/- The dark wave's state, beside its walk: plain laws. -/
namespace Go.Proofs.Ytlhjjmfbifhgfaa
set_option linter.unusedSimpArgs false
set_option linter.unusedVariables false
open Go.RowKit

theorem getM_append {M N : List (Ent Pl)} (q : Pl) : getM (M ++ N) q = (getM M q).or (getM N q) := by
  unfold getM
  rw [List.find?_append]
  cases M.find? (fun x => decide (x.1 = q)) <;> rfl
theorem getM_put (M : List (Ent Pl)) (q : Pl) (v : Value) (c : Nat) (r : Pl) : getM (putM M q v c) r = if r = q then some v else getM M r := by
  unfold putM
  by_cases hm : q ∈ keysOf M
  · rw [if_pos hm]
    have key : ∀ N : List (Ent Pl), getM (setM N q v) r = if r = q ∧ q ∈ keysOf N then some v else getM N r := by
      intro N
      induction N with
      | nil => simp [getM, keysOf, setM]
      | cons x N ih =>
        unfold getM keysOf setM at ih ⊢
        simp only [List.map_cons, List.find?_cons, List.mem_cons]
        by_cases hx : x.1 = q
        · by_cases hr : r = q
          · subst hr; simp [hx]
          · have hxr : x.1 ≠ r := fun e => hr (e.symm.trans hx)
            simp only [hx, if_true, if_pos trivial]
            have : ¬ q = r := fun e => hr e.symm
            simp only [this, decide_false, hr, false_and, if_false] at ih ⊢
            exact ih
        · have hq : ¬ q = x.1 := fun e => hx e.symm
          simp only [hx, if_false, hq, false_or] at ih ⊢
          by_cases hxr : x.1 = r
          · have : ¬ r = q := fun e => hx (hxr.trans e)
            simp [hxr, this]
          · simp only [hxr, decide_false] at ih ⊢
            exact ih
    rw [key M]
    by_cases hr : r = q
    · rw [if_pos ⟨hr, hm⟩, if_pos hr]
    · rw [if_neg (fun h => hr h.1), if_neg hr]
  · rw [if_neg hm, getM_append]
    by_cases hr : r = q
    · subst hr
      rw [getM_none.2 hm, if_pos rfl]
      simp [getM]
    · rw [if_neg hr]
      have : getM [(q, v, c)] r = none := by
        rw [getM_none]
        simp [keysOf, hr]
      rw [this]
      cases getM M r <;> rfl
theorem nodup_sub {α : Type} [DecidableEq α] : ∀ {l m : List α}, l.Nodup → (∀ x ∈ l, x ∈ m) → l.length ≤ m.length
  | [], _, _, _ => Nat.zero_le _
  | x :: l, m, hn, hs => by
    rw [List.nodup_cons] at hn
    have h1 : x ∈ m := hs x (List.mem_cons_self ..)
    have h2 := nodup_sub (l := l) (m := m.erase x) hn.2 fun y hy => (List.mem_erase_of_ne (fun e : y = x => hn.1 (by rw [← e]; exact hy))).2 (hs y (List.mem_cons_of_mem _ hy))
    rw [List.length_erase_of_mem h1] at h2
    have h3 : 0 < m.length := List.length_pos_of_mem h1
    simp only [List.length_cons]
    omega
theorem nodup_box {b : Bx} (ok : b.Ok) {l : List Pl} (hn : l.Nodup) (hi : ∀ q ∈ l, b.inside q) : l.length ≤ 1024 := by
  have h1 := nodup_sub (m := b.all) hn fun x hx => b.all_mem.2 (hi x hx)
  have h2 : b.all.length = b.size := by simp [Bx.all]
  have h3 := Bx.size_le ok
  omega
/-- What the dark wave holds: its memory; what a place had; what it has by now. -/
structure ZSt (W0 W : World) (base g b3 b10 b11 gm b2 gh : Nat) (f : Fw) (cv lv av tv : Value) (ws : Array Value) (sel : Int × Int → Int) (put : Int × Int → Int → Int × Int) (M0 M : LMap) (c : Nat) (A : List Pl) (av' v : Value) (L : List Pl) (H : List (Ent Pl)) (ch : Nat) (Zh Z : List Pl) : Prop where
  st : BSt W0 W base g b3 b10 b11 gm b2 f cv lv av tv ws M c A av' v L
  had : MapIs plV PlOk W gh H ch
  gh : W0.heap.size ≤ gh
  hget : ∀ q ∈ Zh, getM H q = some (.int .u8 (sel (nowAt f M0 q)))
  now : ∀ q, nowAt f M q = if q ∈ Z then put (nowAt f M0 q) 0 else nowAt f M0 q
  keys : ∀ q, q ∈ keysL M ↔ q ∈ keysL M0 ∨ q ∈ Z
section
variable {W0 W W' W'' : World} {base g b3 b10 b11 gm b2 gh : Nat} {f : Fw} {cv lv av tv av' av'' v v' : Value} {ws : Array Value} {sel : Int × Int → Int} {put : Int × Int → Int → Int × Int} {M0 M M' M'' : LMap} {c c' c'' ch ch' : Nat} {A l L : List Pl} {H : List (Ent Pl)} {Zh Z : List Pl}
theorem ZSt.under (h : ZSt W0 W base g b3 b10 b11 gm b2 gh f cv lv av tv ws sel put M0 M c A av' v L H ch Zh Z) (hb : Below W.heap.size W W') : ZSt W0 W' base g b3 b10 b11 gm b2 gh f cv lv av tv ws sel put M0 M c A av' v L H ch Zh Z :=
  ⟨h.st.under hb, h.had.below hb h.had.inb, h.gh, h.hget, h.now, h.keys⟩
theorem ZSt.asks (h : ZSt W0 W base g b3 b10 b11 gm b2 gh f cv lv av tv ws sel put M0 M c A av' v L H ch Zh Z) (k : Asks W W' base g { f with asked := f.asked ++ A } cv lv av' tv l av'') : ZSt W0 W' base g b3 b10 b11 gm b2 gh f cv lv av tv ws sel put M0 M c (A ++ l) av'' v L H ch Zh Z :=
  ⟨h.st.asks k, had_asks h.st h.had k, h.gh, h.hget, h.now, h.keys⟩
theorem ZSt.put_ (h0 : FS W0 base g b3 b10 b11 gm f cv lv av tv M'' c'') (h : ZSt W0 W base g b3 b10 b11 gm b2 gh f cv lv av tv ws sel put M0 M c A av' v L H ch Zh Z) {q : Pl} (hm : MapIs plV PlOk W' gh (putM H q (.int .u8 (sel (nowAt f M0 q))) ch) ch') (hg : W.grownBy W' (some gh)) :
    ZSt W0 W' base g b3 b10 b11 gm b2 gh f cv lv av tv ws sel put M0 M c A av' v L (putM H q (.int .u8 (sel (nowAt f M0 q))) ch) ch' (Zh ++ [q]) Z := by
  refine ⟨h.st.had h0 h.had h.gh hg, hm, h.gh, fun r hr => ?_, h.now, h.keys⟩
  rw [getM_put]
  by_cases e : r = q
  · rw [if_pos e, e]
  · rw [if_neg e]
    exact h.hget r ((List.mem_append.1 hr).resolve_right (by simpa using e))
theorem ZSt.set (hf : Half sel put) (h0 : FS W0 base g b3 b10 b11 gm f cv lv av tv M'' c'') (h : ZSt W0 W base g b3 b10 b11 gm b2 gh f cv lv av tv ws sel put M0 M c A av' v L H ch Zh Z) {q : Pl} (k : Sets W W' base g b3 b10 b11 gm { f with asked := f.asked ++ A } cv lv av' tv (putL M q (put (nowAt f M q) 0) c) c' l av'') :
    ZSt W0 W' base g b3 b10 b11 gm b2 gh f cv lv av tv ws sel put M0 (putL M q (put (nowAt f M q) 0) c) c' (A ++ l) av'' v L H ch Zh (Z ++ [q]) := by
  refine ⟨h.st.set k, had_set h0 h.st h.had h.gh k, h.gh, h.hget, fun r => ?_, fun r => ?_⟩
  · rw [nowAt_put]
    by_cases e : r = q
    · subst e
      rw [if_pos rfl, if_pos (by simp), h.now]
      split
      · rw [hf.twice]
      · rfl
    · rw [if_neg e, h.now]
      have : r ∈ Z ++ [q] ↔ r ∈ Z := by simp [e]
      simp only [this]
  · rw [keysL_put, h.keys]
    simp only [List.mem_append, List.mem_singleton, or_assoc]
theorem ZSt.push (h0 : FS W0 base g b3 b10 b11 gm f cv lv av tv M'' c'') (h : ZSt W0 W base g b3 b10 b11 gm b2 gh f cv lv av tv ws sel put M0 M c A av' v L H ch Zh Z) (hg : W.grownBy W' v.ownBlock) (hr : PRow W' W0.heap.size v' l) {n : Nat} (hn : v'.ownBlock = v.ownBlock ∨ ∃ k, v'.ownBlock = some k ∧ n ≤ k) (hn2 : ∀ k, av'.ownBlock = some k → k < n) :
    ZSt W0 W' base g b3 b10 b11 gm b2 gh f cv lv av tv ws sel put M0 M c A av' v' l H ch Zh Z :=
  ⟨h.st.push h0 hg hr hn hn2, h.had.grown hg (fun e => map_own_ne h.st.row h.had e.symm), h.gh, h.hget, h.now, h.keys⟩
end
/-- A place's sides, a row of the walk's own. -/
structure SideAt (W : World) (n : Nat) (sv : Value) (r : Pl) (av v : Value) : Prop where
  row : PRow W n sv (sidesP r)
  asked : ∀ k, sv.ownBlock = some k → av.ownBlock ≠ some k
  list : ∀ k, sv.ownBlock = some k → v.ownBlock ≠ some k
section
variable {W0 W W' : World} {base g b3 b10 b11 gm b2 gh n : Nat} {f : Fw} {cv lv av tv av' av'' v v' sv : Value} {ws : Array Value} {M M' : LMap} {c c' ch : Nat} {A l L : List Pl} {r : Pl} {H : List (Ent Pl)}
theorem SideAt.under (h : SideAt W n sv r av v) (hb : Below W.heap.size W W') : SideAt W' n sv r av v := ⟨own_below h.row hb, h.asked, h.list⟩
theorem SideAt.asks (h : SideAt W n sv r av' v) (h0 : FieldAt W base g f cv lv av' tv) (k : Asks W W' base g f cv lv av' tv l av'') : SideAt W' n sv r av'' v :=
  ⟨Asks.row h0 k h.row h.asked, apart_new h.asked (fun i hi => (h.row.lt i hi).2) k.new, h.list⟩
theorem SideAt.set (h : SideAt W n sv r av' v) (h0 : FS W base g b3 b10 b11 gm f cv lv av' tv M c) (k : Sets W W' base g b3 b10 b11 gm f cv lv av' tv M' c' l av'') : SideAt W' n sv r av'' v :=
  ⟨Sets.row h0 k h.row h.asked, apart_new h.asked (fun i hi => (h.row.lt i hi).2) k.new, h.list⟩
theorem SideAt.had (h : SideAt W n sv r av v) (hm : MapIs plV PlOk W gh H ch) (hg : W.grownBy W' (some gh)) : SideAt W' n sv r av v :=
  ⟨h.row.kept hg (.inr (map_own_ne h.row hm)), h.asked, h.list⟩
theorem SideAt.push (h : SideAt W n sv r av v) (hg : W.grownBy W' v.ownBlock) {m : Nat} (hn : v'.ownBlock = v.ownBlock ∨ ∃ k, v'.ownBlock = some k ∧ m ≤ k) (hm : ∀ k, sv.ownBlock = some k → k < m) : SideAt W' n sv r av v' :=
  ⟨h.row.kept hg (ne_row h.list), h.asked, fun k hk e => by
    rcases hn with h1 | ⟨j, h1, h2⟩
    · exact h.list k hk (h1.symm.trans e)
    · have h3 := hm k hk
      have : j = k := Option.some.inj (h1.symm.trans e)
      omega⟩
end
/-- The dark wave, i places gone through and k sides of the next one. -/
structure DarkSt (W0 W : World) (base g b3 b10 b11 gm b2 gh : Nat) (f : Fw) (cv lv av tv : Value) (ws : Array Value) (sel : Int × Int → Int) (put : Int × Int → Int → Int × Int) (M0 M : LMap) (c : Nat) (A0 A : List Pl) (av' v : Value) (L : List Pl) (H : List (Ent Pl)) (ch : Nat) (l0 : List Pl) (i k : Nat) : Prop where
  z : ZSt W0 W base g b3 b10 b11 gm b2 gh f cv lv av tv ws sel put M0 M c (A0 ++ A) av' v L H ch L L
  dark : Dark sidesP (fun q => (sel (nowAt f M0 q)).toNat) farP l0 L i k
  inb : ∀ q ∈ L, f.b.inside q
  few : A.length ≤ 2 * l0.length + 12 * i + 2 * k
  near : ∀ x ∈ A, NearL L x
section
variable {W0 W W' : World} {base g b3 b10 b11 gm b2 gh : Nat} {f : Fw} {cv lv av tv av' av'' v v' : Value} {ws : Array Value} {sel : Int × Int → Int} {put : Int × Int → Int → Int × Int} {M0 M M' : LMap} {c c' ch ch' : Nat} {A0 A l m L : List Pl} {H H' : List (Ent Pl)} {l0 : List Pl} {i k : Nat} {q r : Pl}
theorem side_near (hr : L[i]? = some r) (hq : (sidesP r)[k]? = some q) : NearL L q := ⟨r, List.mem_of_getElem? hr, .inr (List.mem_of_getElem? hq)⟩
theorem DarkSt.skip (h : DarkSt W0 W base g b3 b10 b11 gm b2 gh f cv lv av tv ws sel put M0 M c A0 A av' v L H ch l0 i k) (hz : ZSt W0 W' base g b3 b10 b11 gm b2 gh f cv lv av tv ws sel put M0 M c (A0 ++ A ++ l) av'' v L H ch L L) (hr : L[i]? = some r) (hq : (sidesP r)[k]? = some q) (hs : q ∈ L ∨ sel (nowAt f M0 q) ≤ 0 ∨ sel (nowAt f M0 r) ≤ sel (nowAt f M0 q)) (hj : JustOne q 1 l) :
    DarkSt W0 W' base g b3 b10 b11 gm b2 gh f cv lv av tv ws sel put M0 M c A0 (A ++ l) av'' v L H ch l0 i (k + 1) := by
  refine ⟨by rw [← List.append_assoc]; exact hz, h.dark.skip hr hq ?_, h.inb, ?_, near_app h.near (NearL.one hj (side_near hr hq))⟩
  · rcases hs with hs | hs | hs
    · exact .inl hs
    · exact .inr (.inl (by omega))
    · exact .inr (.inr (by omega))
  · have h1 := hj.2
    have h3 := h.few
    simp only [List.length_append]
    omega
theorem DarkSt.more (h : DarkSt W0 W base g b3 b10 b11 gm b2 gh f cv lv av tv ws sel put M0 M c A0 A av' v L H ch l0 i k) (hz : ZSt W0 W' base g b3 b10 b11 gm b2 gh f cv lv av tv ws sel put M0 M' c' (A0 ++ A ++ l ++ m) av'' v' (L ++ [q]) H' ch' (L ++ [q]) (L ++ [q])) (hr : L[i]? = some r) (hq : (sidesP r)[k]? = some q) (hn : q ∉ L) (h0 : 0 < sel (nowAt f M0 q)) (h1 : sel (nowAt f M0 q) < sel (nowAt f M0 r)) (hi : f.b.inside q) (hj : JustOne q 1 l) (hk : JustOne q 1 m) :
    DarkSt W0 W' base g b3 b10 b11 gm b2 gh f cv lv av tv ws sel put M0 M' c' A0 (A ++ l ++ m) av'' v' (L ++ [q]) H' ch' l0 i (k + 1) := by
  have hs : ∀ x ∈ L, x ∈ L ++ [q] := fun x hx => List.mem_append_left _ hx
  refine ⟨by rw [← List.append_assoc, ← List.append_assoc]; exact hz, h.dark.more farP_side hr hq hn (by omega) (by omega), fun x hx => ?_, ?_, fun x hx => ?_⟩
  · rcases List.mem_append.1 hx with hx | hx
    · exact h.inb x hx
    · rw [List.mem_singleton.1 hx]; exact hi
  · have h1 := hj.2
    have h2 := hk.2
    have h3 := h.few
    simp only [List.length_append]
    omega
  · exact near_app (near_app (fun x hx => (h.near x hx).mono hs) (fun x hx => (NearL.one hj (side_near hr hq) x hx).mono hs)) (fun x hx => (NearL.one hk (side_near hr hq) x hx).mono hs) x hx
theorem DarkSt.next (h : DarkSt W0 W base g b3 b10 b11 gm b2 gh f cv lv av tv ws sel put M0 M c A0 A av' v L H ch l0 i k) (hr : L[i]? = some r) (hk : k = (sidesP r).length) : DarkSt W0 W base g b3 b10 b11 gm b2 gh f cv lv av tv ws sel put M0 M c A0 A av' v L H ch l0 (i + 1) 0 := by
  have h1 := sidesTo_len r 6
  have h2 : (sidesP r).length ≤ 6 := h1
  refine ⟨h.z, h.dark.next hr hk, h.inb, ?_, h.near⟩
  have := h.few
  omega
theorem DarkSt.of (h : DarkSt W0 W base g b3 b10 b11 gm b2 gh f cv lv av tv ws sel put M0 M c A0 A av' v L H ch l0 i k) (hz : ZSt W0 W' base g b3 b10 b11 gm b2 gh f cv lv av tv ws sel put M0 M c (A0 ++ A) av' v L H ch L L) : DarkSt W0 W' base g b3 b10 b11 gm b2 gh f cv lv av tv ws sel put M0 M c A0 A av' v L H ch l0 i k :=
  ⟨hz, h.dark, h.inb, h.few, h.near⟩
theorem ZSt.sel_now (hf : Half sel put) (h : ZSt W0 W base g b3 b10 b11 gm b2 gh f cv lv av tv ws sel put M0 M c A av' v L H ch l l) (q : Pl) : sel (nowAt f M q) = if q ∈ l then 0 else sel (nowAt f M0 q) := by
  rw [h.now]
  split
  · rw [hf.get]
  · rfl
end
end Go.Proofs.Ytlhjjmfbifhgfaa
