/- The document's Get: the walk's loops. -/
import Derived.Test.YtjbhkmpabajeoaaDoorLFGetT
namespace Go.Proofs.YtjbhkmpabajeoaaDoor
set_option linter.unusedSimpArgs false
set_option linter.unusedVariables false
open Go.RowKit

theorem infoInt : (Tryd.prog.info? 3).map (fun i => (i.zero, i.size, i.bytes)) = some (some (.int .i64 0), 1, 8) := by kernel_rfl
def firstN (ws : List Bs) (j : Nat) : List Value := ((ws.drop 1).take j).map fun t => iv (numV t)
def sLen : Value → Nat | .slice _ n _ => n | _ => 0
theorem own_slice {w : World} {base n : Nat} {e : TypeId} {v : Value} {xs : List Value} (h : w.ownsRow base e 1 v n xs) : ∃ ao c, v = .slice ao n c := by
  obtain ⟨_, ⟨rfl, rfl⟩ | ⟨g, c, cur, rfl, _⟩⟩ := h
  · exact ⟨none, 0, rfl⟩
  · exact ⟨_, _, rfl⟩
def fillN (ws : List Bs) (j q : Nat) : List Value := firstN ws j ++ List.replicate q (iv 0)
def fillW (ws : List Bs) (q : Nat) : List Value := ws.map sv ++ List.replicate q (sv [])
theorem fillN_succ (ws : List Bs) (j q : Nat) : fillN ws j (q + 1) = fillN ws j q ++ [iv 0] := by unfold fillN; rw [List.replicate_succ', List.append_assoc]
theorem fillW_succ (ws : List Bs) (q : Nat) : fillW ws (q + 1) = fillW ws q ++ [sv []] := by unfold fillW; rw [List.replicate_succ', List.append_assoc]
theorem fillN_at {ws : List Bs} {j q i : Nat} (hj : j + 1 = ws.length) (hi : i < j + q) : (fillN ws j q)[i]? = some (iv (numsOf ws i)) := by
  have hlen : (firstN ws j).length = j := by unfold firstN; simp; omega
  unfold fillN
  by_cases h : i < j
  · rw [List.getElem?_append_left (by rw [hlen]; exact h)]
    unfold firstN numsOf
    rw [List.getElem?_map, List.getElem?_take_of_lt h, List.getD_eq_getElem?_getD, List.getElem?_map]
    have h2 : i < (ws.drop 1).length := by simp; omega
    rw [List.getElem?_eq_getElem h2]
    rfl
  · rw [List.getElem?_append_right (by rw [hlen]; omega), hlen, List.getElem?_replicate, if_pos (by omega)]
    unfold numsOf
    rw [List.getD_eq_getElem?_getD, List.getElem?_map, List.getElem?_eq_none (by simp; omega)]
    rfl
theorem fillW_at {ws : List Bs} {q i : Nat} (hi : i < ws.length + q) : (fillW ws q)[i]? = some (sv (ws.getD i [])) := by
  unfold fillW
  by_cases h : i < ws.length
  · rw [List.getElem?_append_left (by simpa using h), List.getElem?_map, List.getD_eq_getElem?_getD, List.getElem?_eq_getElem h]
    rfl
  · rw [List.getElem?_append_right (by simpa using h), List.length_map, List.getElem?_replicate, if_pos (by omega), List.getD_eq_getElem?_getD, List.getElem?_eq_none (by omega)]
    rfl
/-- A row that holds something, its cells. -/
theorem own_row {w : World} {base n : Nat} {e : TypeId} {v : Value} {xs : List Value} (h : w.ownsRow base e 1 v n xs) (hn : 0 < n) : ∃ g c, v = .slice (some ⟨g, 0, none⟩) n c ∧ base ≤ g ∧ g < w.heap.size ∧ ∀ (j : Nat) x, xs[j]? = some x → w.cell? ⟨g, j, none⟩ = some x := by
  have h0 := h
  obtain ⟨_, ⟨_, hz⟩ | ⟨g, c, cur, rfl, hb, hg, _⟩⟩ := h
  · omega
  · refine ⟨g, c, rfl, hb, ?_, fun j x hx => ?_⟩
    · rcases Nat.lt_or_ge g w.heap.size with hlt | hge
      · exact hlt
      · rw [Array.getElem?_eq_none hge] at hg; cases hg
    · have := h0.cells (g := g) rfl j x hx
      by_cases hj : j = 0
      · subst hj; simpa [Addr.add] using this
      · simpa [Addr.add, hj] using this
set_option maxRecDepth 100000 in
set_option maxHeartbeats 4000000 in
theorem fget_short (w : World) (s : Bs) (hs : s.length ≤ 1024) : Calls Tryd.prog 15 #[.string (str s)] w fun e w' => e = .returned (getV s) ∧ Below w.heap.size w w' := by
  obtain ⟨i0, hi, hz0, hz1, hz2⟩ := info_parts infoStr
  obtain ⟨j0, hj, hy0, hy1, hy2⟩ := info_parts infoInt
  have HWo := Lib.hid (fun W => fwords_any W s hs)
  have HNu := Lib.hid (fun W (t : Bs) (ht : t.length ≤ 1024) => fnumber_any W t ht)
  have hlen : decide (1024 < (s.length : Int)) = false := decide_eq_false (by omega)
  go_enter Tryd.func15, Tryd.ntmps15
  go_wp2_with fail
  go_at_call 32
  refine (HWo.out _).mono ?_
  rintro e w1 ⟨v, rfl, ho, hb⟩
  have HO := Lib.hid ho
  have HB1 := Lib.hid (((Below.refl w.heap.size w).alloc (Nat.le_refl _) (.cells (opC OpR.zero) 27)).trans (hb.mono (by simp)))
  have HK1 := Lib.hid ((Blk.new w 27 (opC OpR.zero)).below hb (Blk.new w 27 (opC OpR.zero)).lt)
  clear ho hb
  obtain ⟨ws, hws⟩ : ∃ ws, ws = words s := ⟨_, rfl⟩
  have hcnt := words_count s
  have hne : 0 < (words s).length := List.length_pos_iff.2 (words_ne s)
  have HSH := Lib.hid (words_short s)
  rw [← hws] at HO hcnt hne HSH
  obtain ⟨N, hN⟩ : ∃ N, N = ws.length := ⟨_, rfl⟩
  rw [← hN] at HO hcnt hne
  obtain ⟨gv, cv, rfl, hgb, hgl, hcell⟩ := own_row HO.out hne
  have HC := Lib.hid hcell
  have HNL := Lib.hid hN
  have HWS := Lib.hid hws
  clear hcell hN hws
  go_wp2_with fail
  go_loopw [5, 6] (fun n i wr => ∃ j : Nat, j + 1 ≤ N ∧ i = .int .i64 ((j : Int) + 1) ∧ wr.ownsRow w1.heap.size 3 1 n j (firstN ws j) ∧ Below w1.heap.size w1 wr) (fun _ i _ => N + 1 - (intOf i).toNat)
  case atStart => exact ⟨0, hne, rfl, World.ownsRow_nil _ _ _ _, Below.refl _ _⟩
  case round =>
    obtain ⟨j, hj1, rfl, ho, hb⟩ := hrel
    have HO1 := Lib.hid ho
    have HBr := Lib.hid hb
    clear ho hb
    by_cases hlt : j + 1 < N
    · have hj2 : j + 1 < ws.length := by rw [← HNL.out]; exact hlt
      have hw1 : wr.cell? ⟨gv, j + 1, none⟩ = some (.string (str ws[j + 1])) := by
        rw [HBr.out.cell hgl]
        exact HC.out (j + 1) _ (by rw [List.getElem?_map, List.getElem?_eq_getElem hj2]; rfl)
      have hsl := HSH.out ws[j + 1] (List.getElem_mem hj2)
      have hNu := HNu.out wr ws[j + 1] (by omega)
      have HT := Lib.hid (show firstN ws (j + 1) = firstN ws j ++ [iv (numV ws[j + 1])] from by
        unfold firstN
        rw [show [iv (numV ws[j + 1])] = [ws[j + 1]].map (fun t => iv (numV t)) from rfl, ← List.map_append]
        congr 1
        rw [List.take_succ_eq_append_getElem (by rw [List.length_drop]; omega)]
        congr 2
        rw [List.getElem_drop]
        congr 1
        omega)
      generalize ws[j + 1] = t at hw1 hsl hNu HT
      have HNuj := Lib.hid hNu
      have hltI : (j : Int) + 1 < (N : Int) := by omega
      clear hNu hsl hj2
      go_wp2_with fail
      go_at_call 33
      refine HNuj.out.mono ?_
      rintro e w2 ⟨⟨b, rfl⟩, hb2⟩
      have HO2 := Lib.hid (own_below HO1.out hb2)
      have HB2 := Lib.hid (HBr.out.trans (hb2.mono HBr.out.size))
      have hz := HB2.out.size
      clear hb2
      go_wp2_with (at_builtin; refine wpList_append_any _ rfl _ _ 64 rfl w1.heap.size 3 j0 (.int .i64 0) 1 8 Tryd.underlying64 hj hy0 hy1 hy2 rfl (by decide) _ j _ rfl (HO2.out.alloc _) (w2.heap.size + 1) _ 1 1 [iv (numV t)] rfl ?c1 ?c2 ?c3 ?c4 ?c5 ?_)
      case c1 =>
        refine ⟨rfl, fun _ => ⟨_, rfl, Nat.lt_succ_self _, fun q u hu => ?_⟩⟩
        match q, hu with
        | 0, hu => simp at hu; subst hu; simp [Addr.add, iv]
      case c2 => intro u hu; simp at hu; subst hu; rfl
      case c3 => unfold maxLen; omega
      case c4 => omega
      case c5 => simp; omega
      intro v' w' k1 k2 k3
      have HB3 := Lib.hid ((HB2.out.alloc hz _).grown k2 (by simp; omega) (fun k hk => (HO2.out.lt k hk).1))
      have K1 := Lib.hid k1
      clear k1 k2 k3
      go_wp2
      refine ⟨⟨j + 1, by omega, by push_cast; rfl, ?_, HB3.out⟩, by simp only [intOf]; omega⟩
      rw [HT.out]
      exact K1.out
    · have hj3 : j + 1 = N := by omega
      have hltI : decide ((j : Int) + 1 < (N : Int)) = false := decide_eq_false (by omega)
      have hlow : w.heap.size + 1 ≤ w1.heap.size := by have := (HK1.out.lt); omega
      have HL := Lib.hid (show wr.ownsRow (w.heap.size + 1) 9 1 (.slice (some ⟨gv, 0, none⟩) N cv) N (ws.map sv) from by
        have h1 := HO.out
        rw [show (w.alloc (.cells #[.int .i64 0, .int .i64 0, .int .i64 0, .int .i64 0, .int .i64 0, .int .i64 0, .int .i64 0, .int .u8 0, .int .u8 0, .int .i64 0] 27)).heap.size = w.heap.size + 1 from by simp] at h1
        rw [HWS.out] at *
        exact own_below h1 HBr.out)
      have HN1 := Lib.hid (own_base HO1.out hlow)
      have HB2 := Lib.hid (HB1.out.trans (HBr.out.mono (by omega)))
      have HKr := Lib.hid (HK1.out.below HBr.out (by omega))
      have HNE := Lib.hid (show ∀ k, Value.ownBlock _ = some k → (Value.slice (some ⟨gv, 0, none⟩) N cv).ownBlock ≠ some k from fun k hk e => by
        have h1 := (HO1.out.lt k hk).1
        have h2 : gv = k := Option.some.inj e
        omega)
      go_wp2
      go_loopw [4, 5] (fun l n wr => ∃ q : Nat, q ≤ 9 ∧ (q = 0 ∨ j + q ≤ 9) ∧ wr.ownsRow (w.heap.size + 1) 9 1 l (N + q) (fillW ws q) ∧ wr.ownsRow (w.heap.size + 1) 3 1 n (j + q) (fillN ws j q) ∧ (∀ k, n.ownBlock = some k → l.ownBlock ≠ some k) ∧ Below w.heap.size w wr ∧ Blk wr w.heap.size 27 (opC OpR.zero)) (fun _ n _ => 9 - sLen n)
      case atStart => exact ⟨0, Nat.zero_le _, .inl rfl, by simpa [fillW] using HL.out, by simpa [fillN] using HN1.out, HNE.out, HB2.out, HKr.out⟩
      case round =>
        obtain ⟨q, hq, hq2, hl, hn, hd, hb, hk⟩ := hrel
        obtain ⟨an, cn, rfl⟩ := own_slice hn
        obtain ⟨al, cl, rfl⟩ := own_slice hl
        have HLr := Lib.hid hl
        have HNr := Lib.hid hn
        have HDr := Lib.hid hd
        have HBr2 := Lib.hid hb
        have HKr2 := Lib.hid hk
        have hz := hb.size
        have hlt2 := hk.lt
        clear hl hn hd hb hk
        by_cases hlt : j + q < 9
        · have hd1 : decide (((j + q : Nat) : Int) < 9) = true := decide_eq_true (by omega)
          go_wp2_with (at_builtin; refine wpList_append_any _ rfl _ _ 64 rfl (w.heap.size + 1) 3 j0 (.int .i64 0) 1 8 Tryd.underlying64 hj hy0 hy1 hy2 rfl (by decide) _ (j + q) _ rfl (HNr.out.alloc _) (wr.heap.size + 1) _ 1 1 [iv 0] rfl ?c1 ?c2 ?c3 ?c4 ?c5 ?_)
          case c1 =>
            refine ⟨rfl, fun _ => ⟨_, rfl, Nat.lt_succ_self _, fun x u hu => ?_⟩⟩
            match x, hu with
            | 0, hu => simp at hu; subst hu; simp [Addr.add, iv]
          case c2 => intro u hu; simp at hu; subst hu; rfl
          case c3 => unfold maxLen; omega
          case c4 => omega
          case c5 => simp; omega
          intro v1 wa k1 k2 k3
          obtain ⟨a1, e1, rfl⟩ := own_slice k1
          have HN2 := Lib.hid k1
          have HL2 := Lib.hid ((HLr.out.alloc (.cells #[.int .i64 0] 3)).kept k2 (by
            cases hq : (Value.slice al (N + q) cl).ownBlock with
            | none => exact .inl rfl
            | some x => exact .inr fun h => HDr.out x h.symm hq))
          have HD2 := Lib.hid (show ∀ k, (Value.slice a1 (j + q + 1) e1).ownBlock = some k → (Value.slice al (N + q) cl).ownBlock ≠ some k from fun k hk e => by
            rcases k3 with h | h
            · exact HDr.out k (h.symm.trans hk) e
            · have h1 := (HLr.out.lt k e).2
              have : wr.heap.size + 1 = k := Option.some.inj (h.symm.trans hk)
              omega)
          have HB3 := Lib.hid ((HBr2.out.alloc hz (.cells #[.int .i64 0] 3)).grown k2 (by simp; omega) (fun k hk => by have := (HNr.out.lt k hk).1; omega))
          have HK3 := Lib.hid ((HKr2.out.alloc (.cells #[.int .i64 0] 3)).grown k2 (fun h => by have := (HNr.out.lt _ h.symm).1; omega))
          have hz2' := HB3.out.size
          have hlt3 := HK3.out.lt
          clear k1 k2 k3
          go_wp2_with (at_builtin; refine wpList_append_any _ rfl _ _ 48 rfl (w.heap.size + 1) 9 i0 (.string ByteArray.empty) 1 16 Tryd.underlying48 hi hz0 hz1 hz2 rfl (by decide) _ (N + q) _ rfl (HL2.out.alloc _) (wa.heap.size + 1) _ 1 1 [sv []] rfl ?c1 ?c2 ?c3 ?c4 ?c5 ?_)
          case c1 =>
            refine ⟨rfl, fun _ => ⟨_, rfl, Nat.lt_succ_self _, fun x u hu => ?_⟩⟩
            match x, hu with
            | 0, hu => simp at hu; subst hu; simp [Addr.add, sv]
          case c2 => intro u hu; simp at hu; subst hu; rfl
          case c3 => unfold maxLen; omega
          case c4 => omega
          case c5 => simp; omega
          intro v2 wb k1 k2 k3
          obtain ⟨a2, e2, rfl⟩ := own_slice k1
          have HL3 := Lib.hid k1
          have HN3 := Lib.hid ((HN2.out.alloc (.cells #[.string ⟨#[]⟩] 9)).kept k2 (by
            cases hq : (Value.slice a1 (j + q + 1) e1).ownBlock with
            | none => exact .inl rfl
            | some x => exact .inr fun h => HD2.out x hq h.symm))
          have HD3 := Lib.hid (show ∀ k, (Value.slice a1 (j + q + 1) e1).ownBlock = some k → (Value.slice a2 (N + q + 1) e2).ownBlock ≠ some k from fun k hk e => by
            rcases k3 with h | h
            · exact HD2.out k hk (h.symm.trans e)
            · have h1 := (HN2.out.lt k hk).2
              have : wa.heap.size + 1 = k := Option.some.inj (h.symm.trans e)
              omega)
          have HB4 := Lib.hid ((HB3.out.alloc hz2' (.cells #[.string ⟨#[]⟩] 9)).grown k2 (by simp; omega) (fun k hk => by have := (HL2.out.lt k hk).1; omega))
          have HK4 := Lib.hid ((HK3.out.alloc (.cells #[.string ⟨#[]⟩] 9)).grown k2 (fun h => by have := (HL2.out.lt _ h.symm).1; omega))
          clear k1 k2 k3
          go_wp2
          refine ⟨⟨q + 1, by omega, .inr (by omega), ?_, ?_, HD3.out, HB4.out, HK4.out⟩, by simp only [sLen]; omega⟩
          · rw [fillW_succ]; exact HL3.out
          · rw [fillN_succ]; exact HN3.out
        · have hd1 : decide (((j + q : Nat) : Int) < 9) = false := decide_eq_false (by omega)
          obtain ⟨gn, cn', hvn, hbn, hgn, hcn⟩ := own_row HNr.out (by omega)
          obtain ⟨gl, cl', hvl, hbl, hgl', hcl⟩ := own_row HLr.out (by omega)
          cases hvn
          cases hvl
          clear HDr HLr HNr
          have HG := Lib.hid (show GetAt w wr gn gl (numsOf ws) (fun i => ws.getD i []) from ⟨fun i hi => hcn i _ (fillN_at (by rw [← HNL.out]; omega) (by omega)), fun i hi => hcl i _ (fillW_at (by rw [← HNL.out]; omega)), hgn, hgl', HKr2.out, HBr2.out⟩)
          clear hcn hcl HKr2 HBr2
          rw [HWS.out] at HG
          go_wp2
          rename_i K13 hK13
          exact fget_tail w wr s hs gn gl (N + q) (j + q) cn cl (by omega) (by omega) HG.out _ _ _ _ _ _ _ _ _ _ _ _ _ _ _ _ _ _ _ _ _ _ _ _ _ _ _ _ _ _ _ _ _ _ _ _ _ _ _ _ _ _ _ _ _ _ _ _ _ _ _ _ _ _ _ _ _ _ _ _ _ _ _ _ _ _ _ _ _ _ _ _ _ _ _ _ _ _ _ _ _ _ _ _ _ _ _ _ _ _ _ _ _ _ _ _ _ _ _ _ _ _ _ _ _ _ _ _ _ _ _ _ _ _ _ _ _ _ _ _ _ _ _ _ _ _ _ _ _ _ _ _ _ _ _ _ _ _ _ _ _ _ _ _ _ _ _ _ _ _ _ _ _ _ _ _ _ _ _ _ _ _ _ _ _ _ _ _ _ _ _ _ _ _ hK13
end Go.Proofs.YtjbhkmpabajeoaaDoor
