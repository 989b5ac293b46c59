/- A line's operation: Get's walk. -/
import Derived.Test.YtjbhkmpabajeoaaDoorLGetF
namespace Go.Proofs.YtjbhkmpabajeoaaDoor
set_option linter.unusedSimpArgs false
set_option linter.unusedVariables false
open Go.RowKit

/-- What Get answers. -/
def getV (s : Bs) : Value := if 1024 < s.length then .tuple #[opV OpR.zero, .int .i64 3] else match getP s with | some o => .tuple #[opV o, .int .i64 0] | none => .tuple #[opV OpR.zero, .int .i64 30]
theorem words_short : ∀ (s : Bs), ∀ w ∈ words s, w.length ≤ s.length
  | [], w, h => by simp [words] at h; subst h; simp
  | c :: s, w, h => by
    have ih := words_short s
    by_cases hc : c = 32
    · subst hc
      rw [words_blank] at h
      rcases List.mem_cons.1 h with rfl | h
      · simp
      · have := ih w h; simp; omega
    · obtain ⟨v, r, h1, h2⟩ := words_letter c s hc
      rw [h2] at h
      rw [h1] at ih
      rcases List.mem_cons.1 h with rfl | h
      · have := ih v List.mem_cons_self; simp; omega
      · have := ih w (List.mem_cons_of_mem _ h); simp; omega
theorem words_count : ∀ (s : Bs), (words s).length ≤ s.length + 1
  | [] => by simp [words]
  | c :: s => by
    have ih := words_count s
    by_cases hc : c = 32
    · subst hc; rw [words_blank]; simp; omega
    · obtain ⟨v, r, h1, h2⟩ := words_letter c s hc
      rw [h2]
      rw [h1] at ih
      simp at ih ⊢
      omega
set_option maxRecDepth 100000 in
set_option maxHeartbeats 4000000 in
theorem get_long (w : World) (s : ByteArray) (h : 1024 < s.size) (h2 : s.size ≤ 9223372036854775807) : Calls Tryd.prog 14 #[.string s] w fun e w' => e = .returned (getV s.data.toList) ∧ Below w.heap.size w w' := by
  have HG := Lib.hid (show getV s.data.toList = .tuple #[opV OpR.zero, .int .i64 3] by unfold getV; rw [if_pos (by simpa using h)])
  generalize getV s.data.toList = res at HG ⊢
  have hi : (1024 : Int) < (s.size : Int) := by omega
  go_enter_defers Tryd.func14, Tryd.ntmps14
  go_wp2
  refine ⟨.tuple #[opV OpR.zero, .int .i64 3], by simp [results, Tryd.results14, go_sem, opV, opC, OpR.zero], ?_⟩
  exact ⟨by rw [HG.out], ((Below.refl _ _).alloc (Nat.le_refl _) _).alloc (by simp) _⟩
theorem get_start (w : World) (ws : List Bs) (hw : ∀ s ∈ ws, s.length ≤ 1024) (hc : ws.length ≤ 1000000) (n : Nat) (hn : n = ws.length) :
    ∃ W, W = (((w.alloc (.cells (opC OpR.zero) 27)).alloc (.cells #[.int .i64 0] 28)).alloc (.cells (ws.map sv).toArray 9)).alloc (.cells #[.slice (some ⟨w.heap.size + 1 + 1, 0, none⟩) n n] 60) ∧
      ReaderAt W (w.heap.size + 1 + 1 + 1) ws ∧ Blk W w.heap.size 27 (opC OpR.zero) ∧ Blk W (w.heap.size + 1) 28 #[.int .i64 0] ∧ Below w.heap.size w W := by
  subst hn
  obtain ⟨w0, h0⟩ : ∃ w0, w0 = w.alloc (.cells (opC OpR.zero) 27) := ⟨_, rfl⟩
  obtain ⟨w1, h1⟩ : ∃ w1, w1 = w0.alloc (.cells #[.int .i64 0] 28) := ⟨_, rfl⟩
  obtain ⟨w2, h2⟩ : ∃ w2, w2 = w1.alloc (.cells (ws.map sv).toArray 9) := ⟨_, rfl⟩
  obtain ⟨w3, h3⟩ : ∃ w3, w3 = w2.alloc (.cells #[.slice (some ⟨w.heap.size + 1 + 1, 0, none⟩) ws.length ws.length] 60) := ⟨_, rfl⟩
  have s0 : w0.heap.size = w.heap.size + 1 := by rw [h0]; simp
  have s1 : w1.heap.size = w.heap.size + 1 + 1 := by rw [h1]; simp [s0]
  have s2 : w2.heap.size = w.heap.size + 1 + 1 + 1 := by rw [h2]; simp [s1]
  have b0 : Blk w3 w.heap.size 27 (opC OpR.zero) := by rw [h3, h2, h1, h0]; exact (((Blk.new _ _ _).alloc _).alloc _).alloc _
  have b1 : Blk w3 (w.heap.size + 1) 28 #[.int .i64 0] := by
    have := Blk.new w0 28 #[.int .i64 0]
    rw [← h1, s0] at this
    rw [h3, h2]
    exact (this.alloc _).alloc _
  have b2 : Blk w3 (w.heap.size + 1 + 1) 9 (ws.map sv).toArray := by
    have := Blk.new w1 9 (ws.map sv).toArray
    rw [← h2, s1] at this
    rw [h3]
    exact this.alloc _
  have b3 : Blk w3 (w.heap.size + 1 + 1 + 1) 60 #[.slice (some ⟨w.heap.size + 1 + 1, 0, none⟩) ws.length ws.length] := by rw [h3, ← s2]; exact Blk.new _ _ _
  have hb : Below w.heap.size w w3 := by
    have k0 : Below w.heap.size w w0 := by rw [h0]; exact (Below.refl _ _).alloc (Nat.le_refl _) _
    have k1 : Below w.heap.size w w1 := by rw [h1]; exact k0.alloc k0.size _
    have k2 : Below w.heap.size w w2 := by rw [h2]; exact k1.alloc k1.size _
    rw [h3]; exact k2.alloc k2.size _
  refine ⟨w3, by rw [h3, h2, h1, h0], ⟨_, _, b3, Nat.le_refl _, hc, ⟨by simp, fun _ => ⟨_, rfl, by simp, fun j u hu => ?_⟩⟩, hw⟩, b0, b1, hb⟩
  have ha : (⟨w.heap.size + 1 + 1, 0, none⟩ : Addr).add j = ⟨w.heap.size + 1 + 1, j, none⟩ := by unfold Addr.add; split <;> simp_all
  rw [ha, b2.cell j, ← hu]
  simp
theorem get_results {W : World} {g b : Nat} {o : OpR} {n : Int} (h1 : Blk W g 27 (opC o)) (h2 : Blk W b 28 #[.int .i64 n]) (tmps : Array Value) (t2 : tmps[2]? = some (.pointer (some ⟨g, 0, none⟩))) (t3 : tmps[3]? = some (.pointer (some ⟨b, 0, none⟩))) :
    (results Tryd.f14 tmps).run Tryd.prog W = .ok (.tuple #[opV o, .int .i64 n]) W := by
  obtain ⟨⟨c0, c1, c2, c3, c4, c5, c6, c7, c8, c9⟩, -⟩ := h1.op
  have d0 := h2.cell 0
  simp only [List.getElem?_toArray, List.getElem?_cons_zero] at d0
  simp [results, Tryd.results14, go_sem, t2, t3, c0, c1, c2, c3, c4, c5, c6, c7, c8, c9, d0, opV, opC]
set_option maxRecDepth 100000 in
set_option maxHeartbeats 4000000 in
theorem get_short (w : World) (s : ByteArray) (h : s.size ≤ 1024) (he : Env w) : Calls Tryd.prog 14 #[.string s] w fun e w' => e = .returned (getV s.data.toList) ∧ Below w.heap.size w w' := by
  have HG := Lib.hid (show getV s.data.toList = match getP s.data.toList with | some o => .tuple #[opV o, .int .i64 0] | none => .tuple #[opV OpR.zero, .int .i64 30] by unfold getV; rw [if_neg (by simpa using h)])
  have HGP := Lib.hid (show getP s.data.toList = match words s.data.toList with | [] => none | w :: r => (kindW w).bind fun i => readP (opK ((i : Int) + 1)) (rowOf ((i : Int) + 1)).2 r from rfl)
  have HWS := Lib.hid (words_short s.data.toList)
  have hwn := words_ne s.data.toList
  have HWC := Lib.hid (words_count s.data.toList)
  have HSP := Lib.hid (fun W => split_any W s h)
  have HSL := Lib.hid (show s.data.toList.length ≤ 1024 by simpa using h)
  generalize getV s.data.toList = res at HG ⊢
  generalize getP s.data.toList = gp at HG HGP
  have HE := Lib.hid he
  have hi : (s.size : Int) ≤ 1024 := by omega
  cases hwd : words s.data.toList with
  | nil => exact absurd hwd hwn
  | cons first rest =>
    rw [hwd] at HGP HWS HWC HSP
    have HGP2 := Lib.hid (show gp = (kindW first).bind fun i => readP (opK ((i : Int) + 1)) (rowOf ((i : Int) + 1)).2 rest from HGP.out)
    obtain ⟨n, hn⟩ : ∃ n, n = (first :: rest).length := ⟨_, rfl⟩
    obtain ⟨W, hW, hrd, hb0, hb1, hbl⟩ := get_start w (first :: rest) (fun s hs => Nat.le_trans (HWS.out s hs) HSL.out) (by have := HWC.out; have := HSL.out; omega) n hn
    rw [← hn] at HSP
    have hcells : ((first :: rest).map fun l => Value.string (str l)).toArray = ((first :: rest).map sv).toArray := rfl
    rw [hcells] at HSP
    generalize ((first :: rest).map sv).toArray = wcs at HSP hW
    have HEW := Lib.hid ((he.alloc (.cells (opC OpR.zero) 27)).alloc (.cells #[.int .i64 0] 28))
    simp only [opC, OpR.zero] at hW HEW
    have HWW := Lib.hid (word_some W _ first rest hrd)
    have HB0 := Lib.hid hb0
    have HB1 := Lib.hid hb1
    have HBL := Lib.hid hbl
    have hd0 : decide (1024 < (s.size : Int)) = false := by simpa using hi
    have HENV := Lib.hid he
    clear he hwn hwd HGP hn hrd hb0 hb1 hbl hcells h
    have hmf : ∀ (fn : Fn) (first cap : Array Value) (w : World), (Instr.makeFunc fn first cap).run Tryd.prog w = .ok (.func fn first cap) w := fun _ _ _ _ => rfl
    go_enter_defers Tryd.func14, Tryd.ntmps14
    go_wp2_with fail
    go_at_call 29
    refine (HSP.out _ HEW.out).mono ?_
    rintro e w2 ⟨rfl, rfl⟩
    go_wp2_with fail
    rw [← hW]
    go_at_call 30
    refine HWW.out.mono ?_
    rintro e w5 ⟨rfl, hr5, ho5⟩
    have HR5 := Lib.hid hr5
    have HB05 := Lib.hid (HB0.out.only ho5 (by omega))
    have HB15 := Lib.hid (HB1.out.only ho5 (by omega))
    have HBL5 := Lib.hid (HBL.out.trans (ho5.below (fun k hk => by subst hk; omega) (by have := HB0.out.lt; omega)))
    clear hW hr5 ho5
    go_wp2_with fail
    go_loopw [6] (fun x wr => ∃ i : Nat, i ≤ 11 ∧ x = .int .i64 ((i : Int) + 1) ∧ (∀ j, j < i → (rowL.getD j ([], [])).1 ≠ first) ∧ wr = w5) (fun x _ => 13 - (intOf x).toNat)
    case atStart => exact ⟨0, by omega, rfl, fun j hj => by omega, rfl⟩
    case round =>
      obtain ⟨i, hi11, rfl, hne, rfl⟩ := hrel
      have HNE := Lib.hid hne
      clear hne
      by_cases hlt : i < 11
      · have HROW := Lib.hid (row_fin wr i hlt)
        have HENV5 := HENV.out.next HBL5.out
        have HRD := read_any wr _ rest (opK ((i : Int) + 1)) (rowT ((i : Int) + 1)) HR5.out HENV5 (by have := HENV.out.size; omega) (rowT_ok _).1 (rowT_ok _).2
        have hrT : rowT ((i : Int) + 1) = (rowL.getD i ([], [])).2 := by unfold rowT; rw [row_at hlt]
        rw [hrT] at HRD
        unfold opK at HRD
        rcases Bool.eq_false_or_eq_true ((rowL.getD i ([], [])).1 == first) with heq | heq
        · have e1 : (rowL.getD i ([], [])).1 = first := by simpa using heq
          have hkw : kindW first = some i := by
            unfold kindW
            rw [List.findIdx?_eq_some_iff_getElem]
            have hl : i < rowL.length := by simpa [rowL] using hlt
            have hg : ∀ j (hj : j < rowL.length), rowL.getD j ([], []) = rowL[j] := fun j hj => by rw [List.getD_eq_getElem?_getD, List.getElem?_eq_getElem hj]; rfl
            refine ⟨hl, by rw [← hg i hl, e1]; simp, fun j hj => ?_⟩
            have := HNE.out j hj
            rw [hg j (by omega)] at this
            simpa using this
          have hgp : gp = readP (opK ((i : Int) + 1)) (rowL.getD i ([], [])).2 rest := by rw [HGP2.out, hkw, Option.bind_some, row_at hlt]
          unfold opK at hgp
          rw [← hgp] at HRD
          have HEQ := Lib.hid e1
          generalize rowL.getD i ([], []) = row at HROW HRD heq
          obtain ⟨rw_, rp⟩ := row
          simp only at HROW HRD heq
          have HRDD := Lib.hid HRD
          clear e1 hkw hgp hrT HRD HENV5
          cases gp with
          | none =>
            go_wp2_with (go_at_call 20; (with_reducible refine HROW.out.mono ?_); rintro e w6 ⟨rfl, rfl⟩)
            go_at_call 31
            refine HRDD.out.mono ?_
            rintro e w6 ⟨ho, rfl⟩
            have HB06 := HB05.out.only ho (by omega)
            have HB16 := HB15.out.only ho (by omega)
            have HBL6 := HBL5.out.trans (ho.below (fun k hk => by subst hk; omega) (by have := HB05.out.lt; omega))
            refine leaves_cons (f := 28) (args := #[.pointer (some ⟨w.heap.size, 0, none⟩), .pointer (some ⟨w.heap.size + 1, 0, none⟩)]) (by simp) (by simp [go_sem]) ?_
            refine (catch_panicking w.heap.size (w.heap.size + 1) OpR.zero 0 84 (.agg #[]) [] w6 HB06 HB16 (by omega)).mono ?_
            rintro e u' w'' ⟨rfl, rfl, rfl⟩
            refine ⟨_, get_results ((setTen_blk HB06).far (by simp) _) ((setTen_far HB16 (by omega)).set_ 0 _) _ rfl rfl, ?_, ?_⟩
            · rw [HG.out]
            · exact (setTen_below HBL6 (Nat.le_refl _)).setCell (by simp) _
          | some o =>
            unfold ReadOut opV opC at HRDD
            simp only at HRDD
            go_wp2_with (go_at_call 20; (with_reducible refine HROW.out.mono ?_); rintro e w6 ⟨rfl, rfl⟩)
            go_at_call 31
            refine HRDD.out.mono ?_
            rintro e w6 ⟨ho, rfl⟩
            have HB06 := Lib.hid (HB05.out.only ho (by omega))
            have HB16 := Lib.hid (HB15.out.only ho (by omega))
            have HBL6 := Lib.hid (HBL5.out.trans (ho.below (fun k hk => by subst hk; omega) (by have := HB05.out.lt; omega)))
            clear ho
            obtain ⟨⟨c0, c1, c2, c3, c4, c5, c6, c7, c8, c9⟩, f0, f1, f2, f3, f4, f5, f6, f7, f8, f9⟩ := HB06.out.op
            have hb7 := setTen_far (o := o) HB16.out (show w.heap.size + 1 ≠ w.heap.size by omega)
            have d0 := hb7.cell 0
            have e0 := hb7.frozen 0
            simp only [List.getElem?_toArray, List.getElem?_cons_zero, setTen] at d0 e0
            clear hb7
            go_wp2_with fail
            refine leaves_cons (f := 28) (args := #[.pointer (some ⟨w.heap.size, 0, none⟩), .pointer (some ⟨w.heap.size + 1, 0, none⟩)]) (by simp) (by simp [go_sem]) ?_
            refine (catch_idle w.heap.size (w.heap.size + 1) _).mono ?_
            rintro e u' w'' ⟨rfl, rfl, rfl⟩
            refine ⟨_, get_results ((setTen_blk HB06.out).far (by simp) _) ((setTen_far HB16.out (by omega)).set_ 0 _) _ rfl rfl, ?_, ?_⟩
            · rw [HG.out]
            · exact (setTen_below HBL6.out (Nat.le_refl _)).setCell (by simp) _
        · have HNQ := Lib.hid (show (rowL.getD i ([], [])).1 ≠ first by simpa using heq)
          generalize rowL.getD i ([], []) = row at HROW heq
          obtain ⟨rw_, rp⟩ := row
          simp only at HROW heq
          clear HRD hrT HENV5
          go_wp2_with (go_at_call 20; (with_reducible refine HROW.out.mono ?_); rintro e w6 ⟨rfl, rfl⟩)
          go_roundw
          case rel =>
            refine ⟨i + 1, by omega, by go_num, fun j hj => ?_, trivial⟩
            rcases Nat.lt_or_ge j i with h | h
            · exact HNE.out j h
            · obtain rfl : j = i := by omega
              exact HNQ.out
          case measure => simp [intOf]; omega
      · obtain rfl : i = 11 := by omega
        have hkw : kindW first = none := by
          unfold kindW
          rw [List.findIdx?_eq_none_iff]
          intro x hx
          obtain ⟨j, hj, rfl⟩ := List.getElem_of_mem hx
          have := HNE.out j (by simpa [rowL] using hj)
          rw [List.getD_eq_getElem?_getD, List.getElem?_eq_getElem hj] at this
          simpa using this
        have hgp : gp = none := by rw [HGP2.out, hkw]; rfl
        obtain ⟨⟨c0, c1, c2, c3, c4, c5, c6, c7, c8, c9⟩, f0, f1, f2, f3, f4, f5, f6, f7, f8, f9⟩ := HB05.out.op
        have hb7 := setTen_far (o := OpR.zero) HB15.out (show w.heap.size + 1 ≠ w.heap.size by omega)
        have d0 := hb7.cell 0
        have e0 := hb7.frozen 0
        simp only [List.getElem?_toArray, List.getElem?_cons_zero, setTen, OpR.zero] at d0 e0
        have HGPN := Lib.hid hgp
        clear hb7 hkw hgp
        go_wp2_with fail
        refine leaves_cons (f := 28) (args := #[.pointer (some ⟨w.heap.size, 0, none⟩), .pointer (some ⟨w.heap.size + 1, 0, none⟩)]) (by simp) (by simp [go_sem]) ?_
        refine (catch_idle w.heap.size (w.heap.size + 1) _).mono ?_
        rintro e u' w'' ⟨rfl, rfl, rfl⟩
        refine ⟨_, get_results ((setTen_blk (o := OpR.zero) HB05.out).far (by simp) _) ((setTen_far HB15.out (by omega)).set_ 0 _) _ rfl rfl, ?_, ?_⟩
        · rw [HG.out, HGPN.out]
        · exact (setTen_below (o := OpR.zero) HBL5.out (Nat.le_refl _)).setCell (by simp) _
theorem get_walk (w : World) (s : ByteArray) (h : s.size ≤ 9223372036854775807) (he : Env w) : Calls Tryd.prog 14 #[.string s] w fun e w' => e = .returned (getV s.data.toList) ∧ Below w.heap.size w w' := by
  by_cases h2 : s.size ≤ 1024
  · exact get_short w s h2 he
  · exact get_long w s (by omega) h
end Go.Proofs.YtjbhkmpabajeoaaDoor
