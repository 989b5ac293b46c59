/- The document's queue: Put: the walk. -/
import Derived.Test.YtlccplpniidjfaaQRefPut
namespace Go.Proofs.Ytlccplpniidjfaa
open Go.RowKit

theorem own_some {w : World} {base : Nat} {ao : Option Addr} {n c : Nat} {e : TypeId} {size : Nat} {xs : List Value} (h : w.ownsRow base e size (.slice ao n c) n xs) (hc : 0 < c) : ∃ g, ao = some ⟨g, 0, none⟩ := by
  rcases h.2 with ⟨h1, h2⟩ | ⟨g, cap, cur, r1, _⟩
  · injection h1 with _ h3 h4
    omega
  · injection r1 with h1 _ _
    exact ⟨g, h1⟩
theorem addr_add (b n : Nat) : (⟨b, 0, none⟩ : Addr).add n = ⟨b, n, none⟩ := by
  unfold Addr.add
  simp
  omega
theorem own_tc {w : World} {base n : Nat} {v : Value} {xs : List Value} {l' : List Tk} (h : w.ownsRow base 24 2 v n xs) (hx : xs = tcells l') : w.ownsRow base 24 2 v l'.length (tcells l') := by
  have h1 := h.1
  rw [hx, tcells_length] at h1
  have e : n = l'.length := by omega
  rw [← hx, ← e]
  exact h
set_option maxRecDepth 1000000 in
set_option maxHeartbeats 4000000 in
theorem fput_any {w : World} {base p : Nat} {m : List Tk} {rv : Option Nat} (h : RQ w base p m rv) (hbs : base ≤ w.heap.size) (t : Tk) :
    Calls Try.prog 23 #[.pointer (some ⟨p, 0, none⟩), .agg #[.int .i64 t.1, .int .i64 t.2]] w fun e w' =>
      e = .returned (.tuple #[.bool (putR m t).1, .int .i64 (putR m t).2.1]) ∧ ∃ rv', RQ w' base p (putR m t).2.2 rv' ∧ Only w w' (fun k => k = p) ∧ RNew2 w rv rv' := by
  have HQ := Lib.hid h
  have hsm := h.small
  obtain ⟨v, hb, hown, -, hbp, hm, hmay⟩ := h
  obtain ⟨htk, ao, c, rfl⟩ := own_ticks hown
  have HTK := Lib.hid htk
  obtain ⟨hcap1, hcap2⟩ := own_cap hown
  have HOW := Lib.hid hown
  have HR := Lib.hid (Reads.of_own hown)
  have HB := Lib.hid hb
  have HMM := Lib.hid (And.intro hm hmay)
  have hpl := hb.lt
  clear hown hb hm hmay htk
  have hw0 : Below w.heap.size w (w.alloc (.cells #[.int .i64 t.1, .int .i64 t.2] 24)) := (Below.refl _ _).alloc (Nat.le_refl _) _
  have HW0 := Lib.hid hw0
  have hsz : w.heap.size < (w.alloc (.cells #[.int .i64 t.1, .int .i64 t.2] 24)).heap.size := by simp
  have HSZ := Lib.hid hsz
  have HK := Lib.hid (Blk.new w 24 #[.int .i64 t.1, .int .i64 t.2])
  have HM := Lib.hid (fmay_any2 (w.alloc (.cells #[.int .i64 t.1, .int .i64 t.2] 24)) t)
  clear hw0 hsz
  go_enter Try.func23, Try.ntmps23
  go_wp2_with fail
  go_at_call 33
  refine HM.out.mono ?_
  rintro e w1 ⟨rfl, hb1⟩
  have hbl1 := HW0.out.trans (hb1.mono (Nat.le_of_lt HSZ.out))
  have hk1 := HK.out.below hb1 HSZ.out
  have hq1 := HQ.out.below hbl1
  have HBL1 := Lib.hid hbl1
  have HP := Lib.hid (fplace_any hq1 t.1)
  have HQ1 := Lib.hid hq1
  have HK1 := Lib.hid hk1
  cases hmt : mayT t with
  | false =>
    have HE := Lib.hid (show putR m t = (false, 2, m) by simp [putR, hmt])
    clear hmt hb1 hbl1 hk1 hq1
    go_wp2
    go_ret2
    refine ⟨by rw [HE.out]; rfl, rv, ?_, Only.of_below HBL1.out, RNew2.refl _ _⟩
    rw [HE.out]; exact HQ1.out
  | true =>
    have HMT := Lib.hid hmt
    obtain ⟨k0, k1, -, -⟩ := hk1.tick
    clear hmt hb1 hbl1 hk1 hq1
    go_wp2_with fail
    go_at_call 34
    refine HP.out.mono ?_
    rintro e w2 ⟨⟨i, hp, rfl⟩, n, rfl⟩
    have hil := hp.1
    have hf := hp.find HQ1.out.rising
    have HPM := Lib.hid hp.putM
    obtain ⟨k0, k1, -, -⟩ := HK1.out.tick
    have e0 : w1.cell? ⟨p, 0, none⟩ = some (.slice ao m.length c) := (HBL1.out.cell (p := ⟨p, 0, none⟩) hpl).trans (by rw [HB.out.cell 0]; rfl)
    cases hc : isAt m t.1 i with
    | true =>
      rw [hc, if_pos rfl] at hf
      obtain ⟨hi, -⟩ := isAt_iff.1 hc
      obtain ⟨b, hao⟩ := own_some HOW.out (by omega)
      subst hao
      obtain ⟨-, c1, c2⟩ := (HTK.out.below HBL1.out).at_ hi
      rw [Nat.zero_add] at c1 c2
      by_cases hd : (nth m i).2 ≤ t.2
      · have gd : decide ((nth m i).2 ≤ t.2) = true := by simpa using hd
        have HE := Lib.hid (show putR m t = (false, 0, m) by simp [putR, HMT.out, hf, hd])
        have l1 : (i : Int) < (m.length : Int) := by omega
        clear hp hf hc hd hi hil
        go_wp2
        go_quiet (fail)
        go_wp2
        go_ret2
        refine ⟨by rw [HE.out]; rfl, rv, ?_, (Only.of_below (below_drewN (below_drewN HBL1.out _) _)), RNew2.refl _ _⟩
        rw [HE.out]; exact (HQ1.out.drewN n).drewN _
      · have gd : decide ((nth m i).2 ≤ t.2) = false := by simpa using hd
        have HE := Lib.hid (show putR m t = (true, 0, Ytlccplpniidjfaa.putM m t) by simp [putR, HMT.out, hf, hd])
        rw [hc, if_pos rfl] at HPM
        have l7 : (i : Int) < (m.length : Int) := by omega
        clear hp hf hc hd
        have hil2 := hil
        have HR1 := Lib.hid (((HR.out.below HBL1.out).take (k := i) hil))
        rw [tcells_take m i hil] at HR1
        have l1 : (i : Int) ≤ (c : Int) := by omega
        have l2 : (c : Int) ≤ 9223372036854775807 := by unfold maxLen at hcap2; omega
        have l4 : (m.length : Int) ≤ (c : Int) := by omega
        have l6 : (i : Int) ≤ (m.length : Int) := by omega
        go_wp2
        go_quiet (fail)
        go_wp2_with (at_builtin; refine ticks_law (l := []) (World.ownsRow_nil _ (w.heap.size + 1) _ _) rfl _ _ rfl rfl rfl (by exact HR1.out) (by rw [List.length_take]; omega) (by rw [List.length_take]; simp; omega) (HK1.out.lt) ?_)
        intro v1 w2 hown2 hg2 hn2
        have hb2 : Below w.heap.size w w2 := (below_drewN HBL1.out (n + nq)).grown hg2 HBL1.out.size (fun g hg => by cases hg)
        have hk2 := (HK1.out.drewN (n + nq)).grown hg2 (by simp [Value.ownBlock])
        obtain ⟨k0, k1, -, -⟩ := hk2.tick
        have HO2 := Lib.hid (show w2.ownsRow (w.heap.size + 1) 24 2 v1 (m.take i).length (tcells (m.take i)) by rw [List.length_take, Nat.min_eq_left hil2]; simpa using hown2)
        have HB2 := Lib.hid hb2
        have HK2 := Lib.hid hk2
        clear hown2 hg2 hn2 hb2 hk2
        go_wp2_with (at_builtin; refine tick_law HO2.out rfl _ _ rfl rfl t rfl (by rw [List.length_take]; omega) HK2.out.lt ?_)
        intro v2 w3 hown3 hg3
        have hb3 : Below w.heap.size w w3 := (HB2.out.alloc HB2.out.size (.cells #[.int .i64 t.1, .int .i64 t.2] 24)).grown hg3 (by simp; have := HB2.out.size; omega) (fun g hg => Nat.le_of_succ_le (HO2.out.lt g hg).1)
        have hs3 : w.heap.size < w3.heap.size := by have h1 := hg3.size; have h2 := HK2.out.lt; simp at h1; omega
        have HB3 := Lib.hid hb3
        have HO3 := Lib.hid (show w3.ownsRow (w.heap.size + 1) 24 2 v2 (m.take i ++ [t]).length (tcells (m.take i ++ [t])) by rw [List.length_append, List.length_take, Nat.min_eq_left hil2]; simpa using hown3)
        have HS3 := Lib.hid hs3
        have hbk3 := HB.out.below hb3 hpl
        have HBK := Lib.hid HB.out
        have e1 : w3.cell? ⟨p, 0, none⟩ = some (.slice (some ⟨b, 0, none⟩) m.length c) := by rw [hbk3.cell 0]; rfl
        clear hown3 hg3 hb3 hs3 hbk3
        by_cases hcc : c = i + 1
        · have hlen : m.length = (i + 1) := by omega
          subst hcc
          have g1 : (i : Int) + 1 ≤ 4097 := by omega
          have HR2 := Lib.hid (show Reads w3 w.heap.size 2 (some ⟨b, 0, none⟩) 0 (tcells (m.drop (i + 1))) by
            rw [List.drop_of_length_le (by omega)]; exact ⟨rfl, fun h => absurd h (by omega)⟩)
          rw [hlen] at e1
          have HLEN := Lib.hid hlen
          clear l1 l2 l4 l6 hlen hsm hcap1 hil hil2
          go_wp2_with (at_builtin; refine ticks_law HO3.out rfl _ _ rfl rfl rfl HR2.out (by rw [List.length_drop, HLEN.out]; omega) (by rw [List.length_append, List.length_take, List.length_drop, HLEN.out]; simp; omega) HS3.out ?_)
          intro v3 w4 hown4 hg4 hn4
          have hb4 : Below w.heap.size w w4 := HB3.out.grown hg4 HB3.out.size (fun g hg => Nat.le_of_succ_le (HO3.out.lt g hg).1)
          have hbb := HBK.out.below hb4 hpl
          have hown5 := own_tc (l' := (m.take i ++ t :: m.drop (i + 1))) hown4 (by simp)
          obtain ⟨-, ao2, cc, hv4⟩ := own_ticks hown5
          obtain ⟨K, hK⟩ : ∃ K, K = (m.take i ++ t :: m.drop (i + 1)).length := ⟨_, rfl⟩
          rw [← hK] at hown5 hv4
          have HKL := Lib.hid hK
          clear hK
          subst hv4
          have f4 := hbb.frozen 0
          have d4 := hbb.cell 0
          have HB4 := Lib.hid hb4
          have HO4 := Lib.hid (own_base hown5 (Nat.le_succ _))
          have HBB := Lib.hid hbb
          clear hb4 hbb hown4 hown5 hg4 hn4
          go_wp2
          go_ret2
          refine ⟨by rw [HE.out]; rfl, _, rq_store HB4.out HBB.out HO4.out (by rw [HE.out]; exact HPM.out) HKL.out hbs hbp hpl (by rw [HE.out]; exact putM_rising HMM.out.1) (fun x hx => by
            rw [HE.out] at hx
            rcases mem_putM hx with rfl | hx
            · exact HMT.out
            · exact HMM.out.2 x hx)⟩
        · have hcc' : ((c : Int) == (((i + 1) : Nat) : Int)) = false := by rw [beq_eq_false_iff_ne]; omega


          have hr2 := (HR.out.below HB3.out).cut (k := (i + 1)) (cap := c) (by omega) (by omega)
          rw [tcells_drop m (i + 1) (by omega), if_neg hcc] at hr2
          have HR2 := Lib.hid (show Reads w3 w.heap.size 2 (some ⟨b, (i + 1) * 2, none⟩) (m.length - (i + 1)) (tcells (m.drop (i + 1))) by simpa [addr_add] using hr2)
          have l5 : (((i + 1) : Nat) : Int) ≤ (m.length : Int) := by omega
          clear hr2
          go_wp2_with (at_builtin; refine ticks_law HO3.out rfl _ _ rfl rfl rfl HR2.out (by rw [List.length_drop]) (by rw [List.length_append, List.length_take, List.length_drop]; simp; omega) HS3.out ?_)
          intro v3 w4 hown4 hg4 hn4
          have hb4 : Below w.heap.size w w4 := HB3.out.grown hg4 HB3.out.size (fun g hg => Nat.le_of_succ_le (HO3.out.lt g hg).1)
          have hbb := HBK.out.below hb4 hpl
          have hown5 := own_tc (l' := (m.take i ++ t :: m.drop (i + 1))) hown4 (by simp)
          obtain ⟨-, ao2, cc, hv4⟩ := own_ticks hown5
          obtain ⟨K, hK⟩ : ∃ K, K = (m.take i ++ t :: m.drop (i + 1)).length := ⟨_, rfl⟩
          rw [← hK] at hown5 hv4
          have HKL := Lib.hid hK
          clear hK
          subst hv4
          have f4 := hbb.frozen 0
          have d4 := hbb.cell 0
          have HB4 := Lib.hid hb4
          have HO4 := Lib.hid (own_base hown5 (Nat.le_succ _))
          have HBB := Lib.hid hbb
          clear hb4 hbb hown4 hown5 hg4 hn4
          go_wp2
          go_ret2
          refine ⟨by rw [HE.out]; rfl, _, rq_store HB4.out HBB.out HO4.out (by rw [HE.out]; exact HPM.out) HKL.out hbs hbp hpl (by rw [HE.out]; exact putM_rising HMM.out.1) (fun x hx => by
            rw [HE.out] at hx
            rcases mem_putM hx with rfl | hx
            · exact HMT.out
            · exact HMM.out.2 x hx)⟩
    | false =>
      rw [hc, if_neg (by simp)] at hf
      have HE := Lib.hid (show putR m t = (true, 0, Ytlccplpniidjfaa.putM m t) by simp [putR, HMT.out, hf])
      rw [hc, if_neg (by simp)] at HPM
      clear hp hf hc
      have hil2 := hil
      have HR1 := Lib.hid (((HR.out.below HBL1.out).take (k := i) hil))
      rw [tcells_take m i hil] at HR1
      have l1 : (i : Int) ≤ (c : Int) := by omega
      have l2 : (c : Int) ≤ 9223372036854775807 := by unfold maxLen at hcap2; omega
      have l4 : (m.length : Int) ≤ (c : Int) := by omega
      have l6 : (i : Int) ≤ (m.length : Int) := by omega
      go_wp2
      go_quiet (fail)
      go_wp2_with (at_builtin; refine ticks_law (l := []) (World.ownsRow_nil _ (w.heap.size + 1) _ _) rfl _ _ rfl rfl rfl (by exact HR1.out) (by rw [List.length_take]; omega) (by rw [List.length_take]; simp; omega) (HK1.out.lt) ?_)
      intro v1 w2 hown2 hg2 hn2
      have hb2 : Below w.heap.size w w2 := (below_drewN HBL1.out (n + nq)).grown hg2 HBL1.out.size (fun g hg => by cases hg)
      have hk2 := (HK1.out.drewN (n + nq)).grown hg2 (by simp [Value.ownBlock])
      obtain ⟨k0, k1, -, -⟩ := hk2.tick
      have HO2 := Lib.hid (show w2.ownsRow (w.heap.size + 1) 24 2 v1 (m.take i).length (tcells (m.take i)) by rw [List.length_take, Nat.min_eq_left hil2]; simpa using hown2)
      have HB2 := Lib.hid hb2
      have HK2 := Lib.hid hk2
      clear hown2 hg2 hn2 hb2 hk2
      go_wp2_with (at_builtin; refine tick_law HO2.out rfl _ _ rfl rfl t rfl (by rw [List.length_take]; omega) HK2.out.lt ?_)
      intro v2 w3 hown3 hg3
      have hb3 : Below w.heap.size w w3 := (HB2.out.alloc HB2.out.size (.cells #[.int .i64 t.1, .int .i64 t.2] 24)).grown hg3 (by simp; have := HB2.out.size; omega) (fun g hg => Nat.le_of_succ_le (HO2.out.lt g hg).1)
      have hs3 : w.heap.size < w3.heap.size := by have h1 := hg3.size; have h2 := HK2.out.lt; simp at h1; omega
      have HB3 := Lib.hid hb3
      have HO3 := Lib.hid (show w3.ownsRow (w.heap.size + 1) 24 2 v2 (m.take i ++ [t]).length (tcells (m.take i ++ [t])) by rw [List.length_append, List.length_take, Nat.min_eq_left hil2]; simpa using hown3)
      have HS3 := Lib.hid hs3
      have hbk3 := HB.out.below hb3 hpl
      have HBK := Lib.hid HB.out
      have e1 : w3.cell? ⟨p, 0, none⟩ = some (.slice ao m.length c) := by rw [hbk3.cell 0]; rfl
      clear hown3 hg3 hb3 hs3 hbk3
      by_cases hcc : c = i
      · have hlen : m.length = c := by omega
        subst hcc
        have g1 : (c : Int) + 1 ≤ 4097 := by omega
        have HR2 := Lib.hid (show Reads w3 w.heap.size 2 ao 0 (tcells (m.drop c)) by
          rw [List.drop_of_length_le (by omega)]; exact ⟨rfl, fun h => absurd h (by omega)⟩)
        rw [hlen] at e1
        have HLEN := Lib.hid hlen
        clear l1 l2 l4 l6 hlen hsm hcap1 hil hil2
        go_wp2_with (at_builtin; refine ticks_law HO3.out rfl _ _ rfl rfl rfl HR2.out (by rw [List.length_drop, HLEN.out]; omega) (by rw [List.length_append, List.length_take, List.length_drop, HLEN.out]; simp; omega) HS3.out ?_)
        intro v3 w4 hown4 hg4 hn4
        have hb4 : Below w.heap.size w w4 := HB3.out.grown hg4 HB3.out.size (fun g hg => Nat.le_of_succ_le (HO3.out.lt g hg).1)
        have hbb := HBK.out.below hb4 hpl
        have hown5 := own_tc (l' := (m.take c ++ t :: m.drop c)) hown4 (by simp)
        obtain ⟨-, ao2, cc, hv4⟩ := own_ticks hown5
        obtain ⟨K, hK⟩ : ∃ K, K = (m.take c ++ t :: m.drop c).length := ⟨_, rfl⟩
        rw [← hK] at hown5 hv4
        have HKL := Lib.hid hK
        clear hK
        subst hv4
        have f4 := hbb.frozen 0
        have d4 := hbb.cell 0
        have HB4 := Lib.hid hb4
        have HO4 := Lib.hid (own_base hown5 (Nat.le_succ _))
        have HBB := Lib.hid hbb
        clear hb4 hbb hown4 hown5 hg4 hn4
        go_wp2
        go_ret2
        refine ⟨by rw [HE.out]; rfl, _, rq_store HB4.out HBB.out HO4.out (by rw [HE.out]; exact HPM.out) HKL.out hbs hbp hpl (by rw [HE.out]; exact putM_rising HMM.out.1) (fun x hx => by
          rw [HE.out] at hx
          rcases mem_putM hx with rfl | hx
          · exact HMT.out
          · exact HMM.out.2 x hx)⟩
      · have hcc' : ((c : Int) == ((i : Nat) : Int)) = false := by rw [beq_eq_false_iff_ne]; omega
        obtain ⟨b, hao⟩ := own_some HOW.out (by omega)
        subst hao
        have hr2 := (HR.out.below HB3.out).cut (k := i) (cap := c) (by omega) (by omega)
        rw [tcells_drop m i (by omega), if_neg hcc] at hr2
        have HR2 := Lib.hid (show Reads w3 w.heap.size 2 (some ⟨b, i * 2, none⟩) (m.length - i) (tcells (m.drop i)) by simpa [addr_add] using hr2)
        have l5 : ((i : Nat) : Int) ≤ (m.length : Int) := by omega
        clear hr2
        go_wp2_with (at_builtin; refine ticks_law HO3.out rfl _ _ rfl rfl rfl HR2.out (by rw [List.length_drop]) (by rw [List.length_append, List.length_take, List.length_drop]; simp; omega) HS3.out ?_)
        intro v3 w4 hown4 hg4 hn4
        have hb4 : Below w.heap.size w w4 := HB3.out.grown hg4 HB3.out.size (fun g hg => Nat.le_of_succ_le (HO3.out.lt g hg).1)
        have hbb := HBK.out.below hb4 hpl
        have hown5 := own_tc (l' := (m.take i ++ t :: m.drop i)) hown4 (by simp)
        obtain ⟨-, ao2, cc, hv4⟩ := own_ticks hown5
        obtain ⟨K, hK⟩ : ∃ K, K = (m.take i ++ t :: m.drop i).length := ⟨_, rfl⟩
        rw [← hK] at hown5 hv4
        have HKL := Lib.hid hK
        clear hK
        subst hv4
        have f4 := hbb.frozen 0
        have d4 := hbb.cell 0
        have HB4 := Lib.hid hb4
        have HO4 := Lib.hid (own_base hown5 (Nat.le_succ _))
        have HBB := Lib.hid hbb
        clear hb4 hbb hown4 hown5 hg4 hn4
        go_wp2
        go_ret2
        refine ⟨by rw [HE.out]; rfl, _, rq_store HB4.out HBB.out HO4.out (by rw [HE.out]; exact HPM.out) HKL.out hbs hbp hpl (by rw [HE.out]; exact putM_rising HMM.out.1) (fun x hx => by
          rw [HE.out] at hx
          rcases mem_putM hx with rfl | hx
          · exact HMT.out
          · exact HMM.out.2 x hx)⟩
end Go.Proofs.Ytlccplpniidjfaa
