/- A reader's cell: the walk. -/
import Derived.Test.YtjbhkmpabajeoaaDoorLPlace
namespace Go.Proofs.YtjbhkmpabajeoaaDoor
set_option linter.unusedSimpArgs false
set_option linter.unusedVariables false
open Go.RowKit

theorem blk_two (w : World) : Blk (w.alloc (.cells #[.int .u8 0, .int .u8 0] 25)) w.heap.size 25 #[.int .u8 0, .int .u8 0] := Blk.new _ _ _
set_option maxRecDepth 100000 in
set_option maxHeartbeats 2000000 in
theorem cell_any (w : World) (g : Nat) (l : List Bs) (h : ReaderAt w g l) (he : Env w) (hg : 8 ≤ g) : Calls Tryd.prog 48 #[.pointer (some ⟨g, 0, none⟩)] w (Took (takeC l) ceV g w) := by
  have HR0 := Lib.hid (h.alloc (.cells #[.int .u8 0, .int .u8 0] 25))
  have HE0 := Lib.hid (he.alloc (.cells #[.int .u8 0, .int .u8 0] 25))
  have HK0 := Lib.hid (blk_two w)
  have HLT := Lib.hid h.lt
  have hne : w.heap.size ≠ g := Nat.ne_of_gt h.lt
  clear h he
  cases l with
  | nil =>
    have HW := Lib.hid (word_none _ g HR0.out)
    unfold wrongP at HW
    go_enter Tryd.func48, Tryd.ntmps48
    go_wp2_with (go_at_call 30; (with_reducible refine HW.out.mono ?_); rintro e w1 ⟨rfl, rfl⟩)
    exact ⟨rfl, (Only.refl _ _).alloc _, rfl⟩
  | cons s r =>
    have HW := Lib.hid (word_some _ g s r HR0.out)
    have HKO := Lib.hid (fun W => kof_any W s)
    have HT := Lib.hid (show takeC (s :: r) = (takeN r).bind fun x => match kindOf s with | none => none | some k => if x.1 < 0 ∨ 255 < x.1 then none else some (((k : Int), x.1), x.2) from rfl)
    generalize takeC (s :: r) = res at HT ⊢
    obtain ⟨kk, is, hki⟩ : ∃ (kk : Int) (is : Bool), kindV s = .tuple #[.int .u8 kk, .bool is] := by
      unfold kindV
      cases kindOf s with
      | none => exact ⟨_, _, rfl⟩
      | some i => exact ⟨_, _, rfl⟩
    have HKI := Lib.hid hki
    rw [hki] at HKO
    clear hki
    rcases hn : takeN r with _ | ⟨x, r1⟩
    · have HX := Lib.hid hn
      have HT1 := Lib.hid (show res = none by rw [HT.out, hn]; rfl)
      clear hn
      go_enter Tryd.func48, Tryd.ntmps48
      go_wp2_with fail
      go_at_call 30
      refine HW.out.mono ?_
      rintro e w1 ⟨rfl, hr, ho⟩
      have HO := Lib.hid ho
      have HE1 := Lib.hid (HE0.out.reader ho hg)
      have HR := Lib.hid hr
      clear hr ho
      go_wp2_with fail
      go_at_call 58
      refine (HKO.out _).mono ?_
      rintro e w2 ⟨rfl, hb⟩
      have HO2 := Lib.hid (HO.out.more hb)
      have H1 := number_any _ g r (HR.out.below hb) (HE1.out.next hb) hg
      rw [HX.out] at H1
      have HH := Lib.hid H1
      clear hb H1
      go_wp2_with fail
      go_at_call 50
      refine HH.out.mono ?_
      rintro e w3 ⟨ho, rfl⟩
      have HO3 := Lib.hid (HO2.out.trans' ho)
      clear ho
      go_wp2
      rw [HT1.out]
      exact ⟨rfl, HO3.out.alloc_before, rfl⟩
    · have HX := Lib.hid hn
      have HT1 := Lib.hid (show res = match kindOf s with | none => none | some k => if x < 0 ∨ 255 < x then none else some (((k : Int), x), r1) by rw [HT.out, hn]; rfl)
      clear hn
      rcases Bool.eq_false_or_eq_true is with his | his
      · have hkk : kindOf s = some kk.toNat ∧ 0 ≤ kk ∧ kk ≤ 14 := by
          have h := HKI.out
          unfold kindV at h
          cases hc : kindOf s with
          | none => rw [hc] at h; simp at h; rw [his] at h; simp at h
          | some j =>
            have hj := (kindOf_some hc).1
            rw [hc] at h
            simp at h
            exact ⟨by congr 1; omega, by omega, by omega⟩
        have hk1 : 0 ≤ kk := hkk.2.1
        have hk2 : kk ≤ 14 := hkk.2.2
        have HKK := Lib.hid hkk.1
        clear hkk
        subst his
        by_cases h0 : x < 0
        · have HT2 := Lib.hid (show res = none by rw [HT1.out, HKK.out]; simp [h0])
          go_enter Tryd.func48, Tryd.ntmps48
          go_wp2_with fail
          go_at_call 30
          refine HW.out.mono ?_
          rintro e w1 ⟨rfl, hr, ho⟩
          have HO := Lib.hid ho
          have HE1 := Lib.hid (HE0.out.reader ho hg)
          have HR := Lib.hid hr
          clear hr ho
          go_wp2_with fail
          go_at_call 58
          refine (HKO.out _).mono ?_
          rintro e w2 ⟨rfl, hb⟩
          have HO2 := Lib.hid (HO.out.more hb)
          have H1 := number_any _ g r (HR.out.below hb) (HE1.out.next hb) hg
          rw [HX.out] at H1
          have HH := Lib.hid H1
          clear hb H1
          go_wp2_with fail
          go_at_call 50
          refine HH.out.mono ?_
          rintro e w3 ⟨ho, rfl, hr⟩
          have HO3 := Lib.hid (HO2.out.trans' ho)
          have HR3 := Lib.hid hr
          clear ho hr
          go_wp2
          rw [HT2.out]
          exact ⟨rfl, HO3.out.alloc_before, rfl⟩
        by_cases h5 : 255 < x
        · have HT2 := Lib.hid (show res = none by rw [HT1.out, HKK.out]; simp [h5])
          go_enter Tryd.func48, Tryd.ntmps48
          go_wp2_with fail
          go_at_call 30
          refine HW.out.mono ?_
          rintro e w1 ⟨rfl, hr, ho⟩
          have HO := Lib.hid ho
          have HE1 := Lib.hid (HE0.out.reader ho hg)
          have HR := Lib.hid hr
          clear hr ho
          go_wp2_with fail
          go_at_call 58
          refine (HKO.out _).mono ?_
          rintro e w2 ⟨rfl, hb⟩
          have HO2 := Lib.hid (HO.out.more hb)
          have H1 := number_any _ g r (HR.out.below hb) (HE1.out.next hb) hg
          rw [HX.out] at H1
          have HH := Lib.hid H1
          clear hb H1
          go_wp2_with fail
          go_at_call 50
          refine HH.out.mono ?_
          rintro e w3 ⟨ho, rfl, hr⟩
          have HO3 := Lib.hid (HO2.out.trans' ho)
          have HR3 := Lib.hid hr
          clear ho hr
          go_wp2
          rw [HT2.out]
          exact ⟨rfl, HO3.out.alloc_before, rfl⟩
        · have HT2 := Lib.hid (show res = some ((kk, x), r1) by rw [HT1.out, HKK.out]; simp only []; rw [if_neg (by omega)]; simp; omega)
          have g5 : 0 ≤ x := by omega
          have g6 : x ≤ 255 := by omega
          go_enter Tryd.func48, Tryd.ntmps48
          go_wp2_with fail
          go_at_call 30
          refine HW.out.mono ?_
          rintro e w1 ⟨rfl, hr, ho⟩
          have HO := Lib.hid ho
          have HE1 := Lib.hid (HE0.out.reader ho hg)
          have HR := Lib.hid hr
          clear hr ho
          go_wp2_with fail
          go_at_call 58
          refine (HKO.out _).mono ?_
          rintro e w2 ⟨rfl, hb⟩
          have HO2 := Lib.hid (HO.out.more hb)
          have H1 := number_any _ g r (HR.out.below hb) (HE1.out.next hb) hg
          rw [HX.out] at H1
          have HH := Lib.hid H1
          clear hb H1
          go_wp2_with fail
          go_at_call 50
          refine HH.out.mono ?_
          rintro e w3 ⟨ho, rfl, hr⟩
          have HO3 := Lib.hid (HO2.out.trans' ho)
          have HR3 := Lib.hid hr
          clear ho hr
          have hk := HK0.out.only HO3.out hne
          have c0 := hk.cell 0
          have c1 := hk.cell 1
          have f0 := hk.frozen 0
          have f1 := hk.frozen 1
          simp only [List.getElem?_toArray, List.getElem?_cons_zero, List.getElem?_cons_succ] at c0 c1
          have HK3 := Lib.hid hk
          clear hk
          go_wp2
          have hk := (HK3.out.set_ 0 (.int .u8 kk)).set_ 1 (.int .u8 x)
          have g0 := hk.cell 0
          have g1 := hk.cell 1
          refine bodyPost_ret (v := ceV (kk, x)) (by simp [results, Tryd.results48, go_sem, g0, g1]) rfl ?_
          rw [HT2.out]
          exact ⟨(HO3.out.alloc_before.setCell (.inr (Nat.le_refl _)) _).setCell (.inr (Nat.le_refl _)) _, rfl, (HR3.out.far HLT.out _).far HLT.out _⟩
      · have hkk : kindOf s = none := by
          have h := HKI.out
          unfold kindV at h
          cases hc : kindOf s with
          | none => rfl
          | some j => rw [hc] at h; simp at h; rw [his] at h; simp at h
        have HT2 := Lib.hid (show res = none by rw [HT1.out, hkk])
        clear hkk
        subst his
        go_enter Tryd.func48, Tryd.ntmps48
        go_wp2_with fail
        go_at_call 30
        refine HW.out.mono ?_
        rintro e w1 ⟨rfl, hr, ho⟩
        have HO := Lib.hid ho
        have HE1 := Lib.hid (HE0.out.reader ho hg)
        have HR := Lib.hid hr
        clear hr ho
        go_wp2_with fail
        go_at_call 58
        refine (HKO.out _).mono ?_
        rintro e w2 ⟨rfl, hb⟩
        have HO2 := Lib.hid (HO.out.more hb)
        have H1 := number_any _ g r (HR.out.below hb) (HE1.out.next hb) hg
        rw [HX.out] at H1
        have HH := Lib.hid H1
        clear hb H1
        go_wp2_with fail
        go_at_call 50
        refine HH.out.mono ?_
        rintro e w3 ⟨ho, rfl, hr⟩
        have HO3 := Lib.hid (HO2.out.trans' ho)
        have HR3 := Lib.hid hr
        clear ho hr
        go_wp2
        rw [HT2.out]
        exact ⟨rfl, HO3.out.alloc_before, rfl⟩
end Go.Proofs.YtjbhkmpabajeoaaDoor
