/- A reader's places, cells and directions: the walks. -/
import Derived.Test.YtjbhkmpabajeoaaDoorLNumber
namespace Go.Proofs.YtjbhkmpabajeoaaDoor
set_option linter.unusedSimpArgs false
set_option linter.unusedVariables false
open Go.RowKit

abbrev plV (p : Int × Int × Int) : Value := .agg #[.int .i64 p.1, .int .i64 p.2.1, .int .i64 p.2.2]
abbrev ceV (p : Int × Int) : Value := .agg #[.int .u8 p.1, .int .u8 p.2]
theorem Only.alloc_before {w w' : World} {g : Nat} {o : Obj} (h : Only (w.alloc o) w' (fun k => k = g)) : Only w w' (fun k => k = g) := ((Only.refl w (fun k => k = g)).alloc o).trans' h
theorem ReaderAt.far {w : World} {g : Nat} {l : List Bs} (h : ReaderAt w g l) {p : Addr} (hp : g < p.block) (v : Value) : ReaderAt (w.setCell p v) g l := by
  obtain ⟨A, c, h1, h2, h3, h4, h5⟩ := h
  exact ⟨A, c, h1.far (Nat.ne_of_lt hp) v, h2, h3, h4.setCell (Nat.le_of_lt hp) v, h5⟩
set_option maxRecDepth 100000 in
set_option maxHeartbeats 2000000 in
theorem place_any (w : World) (g : Nat) (l : List Bs) (h : ReaderAt w g l) (he : Env w) (hg : 8 ≤ g) : Calls Tryd.prog 47 #[.pointer (some ⟨g, 0, none⟩)] w (Took (take3 l) plV g w) := by
  have HR0 := Lib.hid (h.alloc (.cells #[.int .i64 0, .int .i64 0, .int .i64 0] 23))
  have HE0 := Lib.hid (he.alloc (.cells #[.int .i64 0, .int .i64 0, .int .i64 0] 23))
  have HK0 := Lib.hid (Blk.new w 23 #[.int .i64 0, .int .i64 0, .int .i64 0])
  have hne : w.heap.size ≠ g := Nat.ne_of_gt h.lt
  have HLT := Lib.hid h.lt
  have H1 := number_any _ g l HR0.out HE0.out hg
  have HT := Lib.hid (show take3 l = (takeN l).bind fun x => (takeN x.2).bind fun y => (takeN y.2).map fun z => ((x.1, y.1, z.1), z.2) from rfl)
  generalize take3 l = res at HT ⊢
  clear h he
  rcases h1 : takeN l with _ | ⟨x, r1⟩
  · rw [h1] at H1 HT
    have HH := Lib.hid H1
    clear H1 h1
    go_enter Tryd.func47, Tryd.ntmps47
    go_wp2_with fail
    go_at_call 50
    refine HH.out.mono ?_
    rintro e w1 ⟨ho, rfl⟩
    have HO := Lib.hid ho
    clear ho
    go_wp2
    rw [show res = none from HT.out]
    exact ⟨rfl, HO.out.alloc_before, rfl⟩
  rw [h1] at H1 HT
  have HH1 := Lib.hid H1
  clear H1 h1
  rcases h2 : takeN r1 with _ | ⟨y, r2⟩
  · have HT2 := Lib.hid (show res = none by rw [HT.out]; simp [h2])
    have HX := Lib.hid h2
    clear h2
    go_enter Tryd.func47, Tryd.ntmps47
    go_wp2_with fail
    go_at_call 50
    refine HH1.out.mono ?_
    rintro e w1 ⟨ho, rfl, hr⟩
    have HO := Lib.hid ho
    have H2 := number_any w1 g r1 hr (HE0.out.reader ho hg) hg
    rw [HX.out] at H2
    have HH := Lib.hid H2
    clear ho hr H2
    go_wp2_with fail
    go_at_call 50
    refine HH.out.mono ?_
    rintro e w2 ⟨ho, rfl⟩
    have HO2 := Lib.hid ho
    clear ho
    go_wp2
    rw [HT2.out]
    exact ⟨rfl, (HO.out.trans' HO2.out).alloc_before, rfl⟩
  have HX2 := Lib.hid h2
  have HT2 := Lib.hid (show res = (takeN r2).map fun z => ((x, y, z.1), z.2) by rw [HT.out]; simp [h2])
  clear h2
  rcases h3 : takeN r2 with _ | ⟨z, r3⟩
  · have HX3 := Lib.hid h3
    have HT3 := Lib.hid (show res = none by rw [HT2.out, h3]; rfl)
    clear h3
    go_enter Tryd.func47, Tryd.ntmps47
    go_wp2_with fail
    go_at_call 50
    refine HH1.out.mono ?_
    rintro e w1 ⟨ho, rfl, hr⟩
    have HO := Lib.hid ho
    have HE1 := Lib.hid (HE0.out.reader ho hg)
    have H2 := number_any w1 g r1 hr HE1.out hg
    rw [HX2.out] at H2
    have HH := Lib.hid H2
    clear ho hr H2
    go_wp2_with fail
    go_at_call 50
    refine HH.out.mono ?_
    rintro e w2 ⟨ho, rfl, hr⟩
    have HO2 := Lib.hid ho
    have H3 := number_any w2 g r2 hr (HE1.out.reader ho hg) hg
    rw [HX3.out] at H3
    have HH3 := Lib.hid H3
    clear ho hr H3
    go_wp2_with fail
    go_at_call 50
    refine HH3.out.mono ?_
    rintro e w3 ⟨ho, rfl⟩
    have HO3 := Lib.hid ho
    clear ho
    go_wp2
    rw [HT3.out]
    exact ⟨rfl, ((HO.out.trans' HO2.out).trans' HO3.out).alloc_before, rfl⟩
  · have HX3 := Lib.hid h3
    have HT3 := Lib.hid (show res = some ((x, y, z), r3) by rw [HT2.out, h3]; rfl)
    clear h3
    go_enter Tryd.func47, Tryd.ntmps47
    go_wp2_with fail
    go_at_call 50
    refine HH1.out.mono ?_
    rintro e w1 ⟨ho, rfl, hr⟩
    have HO := Lib.hid ho
    have HE1 := Lib.hid (HE0.out.reader ho hg)
    have H2 := number_any w1 g r1 hr HE1.out hg
    rw [HX2.out] at H2
    have HH := Lib.hid H2
    clear ho hr H2
    go_wp2_with fail
    go_at_call 50
    refine HH.out.mono ?_
    rintro e w2 ⟨ho, rfl, hr⟩
    have HO2 := Lib.hid (HO.out.trans' ho)
    have H3 := number_any w2 g r2 hr (HE1.out.reader ho hg) hg
    rw [HX3.out] at H3
    have HH3 := Lib.hid H3
    clear ho hr H3
    go_wp2_with fail
    go_at_call 50
    refine HH3.out.mono ?_
    rintro e w3 ⟨ho, rfl, hr⟩
    have HO3 := Lib.hid (HO2.out.trans' ho)
    have HR3 := Lib.hid hr
    have hk := HK0.out.only HO3.out hne
    have c0 := hk.cell 0
    have c1 := hk.cell 1
    have c2 := hk.cell 2
    have f0 := hk.frozen 0
    have f1 := hk.frozen 1
    have f2 := hk.frozen 2
    simp only [List.getElem?_toArray, List.getElem?_cons_zero, List.getElem?_cons_succ] at c0 c1 c2
    have HK3 := Lib.hid hk
    clear ho hr hk
    go_wp2
    have hk := ((HK3.out.set_ 0 (.int .i64 x)).set_ 1 (.int .i64 y)).set_ 2 (.int .i64 z)
    have g0 := hk.cell 0
    have g1 := hk.cell 1
    have g2 := hk.cell 2
    refine bodyPost_ret (v := plV (x, y, z)) (by simp [results, Tryd.results47, go_sem, g0, g1, g2]) rfl ?_
    rw [HT3.out]
    exact ⟨((HO3.out.alloc_before.setCell (.inr (Nat.le_refl _)) _).setCell (.inr (Nat.le_refl _)) _).setCell (.inr (Nat.le_refl _)) _, rfl, ((HR3.out.far HLT.out _).far HLT.out _).far HLT.out _⟩
set_option maxRecDepth 100000 in
set_option maxHeartbeats 2000000 in
theorem dir_any (w : World) (g : Nat) (l : List Bs) (h : ReaderAt w g l) : Calls Tryd.prog 49 #[.pointer (some ⟨g, 0, none⟩)] w (Took (takeD l) (fun v => .int .i64 v) g w) := by
  cases l with
  | nil =>
    have HW := Lib.hid (word_none w g h)
    unfold wrongP at HW
    clear h
    go_enter Tryd.func49, Tryd.ntmps49
    go_wp2_with (go_at_call 30; (with_reducible refine HW.out.mono ?_); rintro e w1 ⟨rfl, rfl⟩)
    exact ⟨rfl, Only.refl _ _, rfl⟩
  | cons s r =>
    have HW := Lib.hid (word_some w g s r h)
    have HD := Lib.hid dirs_any
    have HT := Lib.hid (show takeD (s :: r) = (dirOf s).map fun (d : Nat) => ((d : Int), r) from rfl)
    generalize takeD (s :: r) = res at HT ⊢
    clear h
    go_enter Tryd.func49, Tryd.ntmps49
    go_wp2_with fail
    go_at_call 30
    refine HW.out.mono ?_
    rintro e w1 ⟨rfl, hr, ho⟩
    have HO := Lib.hid (ho.alloc (.cells dirCells 9))
    have HR := Lib.hid (hr.alloc (.cells dirCells 9))
    have HK := Lib.hid (Blk.new w1 9 dirCells)
    clear hr ho
    go_wp2_with (go_at_call 24; (with_reducible refine (HD.out _).mono ?_); rintro e w2 ⟨rfl, rfl⟩)
    go_loopw [10] (fun k wr => ∃ i : Nat, i ≤ 6 ∧ k = .int .i64 i ∧ (∀ j, j < i → dirs.getD j [] ≠ s) ∧ wr = w1.alloc (.cells dirCells 9)) (fun k _ => 7 - (intOf k).toNat)
    case atStart => exact ⟨0, by omega, rfl, fun j hj => by omega, rfl⟩
    case round =>
      obtain ⟨i, hi, rfl, hne, rfl⟩ := hrel
      have HNE := Lib.hid hne
      clear hne
      by_cases hlt : i < 6
      · have e0 := dirCells_at ⟨i, hlt⟩
        simp only at e0
        have c0 := HK.out.cell i
        rw [e0] at c0
        rcases Bool.eq_false_or_eq_true (s == dirs.getD i []) with hs | hs
        · have HE := Lib.hid (show dirs.getD i [] = s by simpa using (beq_iff_eq.1 hs).symm)
          generalize dirs.getD i [] = x at c0 hs
          clear e0
          go_wp2
          go_ret
          rw [show res = some ((i : Int), r) by rw [HT.out]; unfold dirOf; rw [findIdx_step HNE.out (by simpa [dirs] using hlt) HE.out]; rfl]
          exact ⟨HO.out, rfl, HR.out⟩
        · have HE := Lib.hid (show dirs.getD i [] ≠ s by intro e; rw [e] at hs; simp at hs)
          generalize dirs.getD i [] = x at c0 hs
          clear e0
          go_wp2
          go_roundw
          case rel =>
            refine ⟨i + 1, by omega, by go_num, fun j hj => ?_, trivial⟩
            rcases Nat.lt_or_ge j i with h | h
            · exact HNE.out j h
            · obtain rfl : j = i := by omega
              exact HE.out
          case measure => simp [intOf]; omega
      · obtain rfl : i = 6 := by omega
        go_wp2
        rw [show res = none by rw [HT.out]; unfold dirOf; rw [findIdx_end (fun j hj => HNE.out j (by simpa [dirs] using hj))]; rfl]
        exact ⟨rfl, HO.out, rfl⟩
end Go.Proofs.YtjbhkmpabajeoaaDoor
