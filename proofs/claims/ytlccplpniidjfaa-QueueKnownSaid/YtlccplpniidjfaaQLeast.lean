/- QueueLeast: an index is due when the earliest tick that was put for it is due, in whatever order they were put: the walk. -/
import Derived.Test.YtlccplpniidjfaaQLeastPure
namespace Go.Proofs.Ytlccplpniidjfaa
open Go.RowKit

/-- append(ticks, t) onto a row of the call's own. -/
theorem tick_law {ops : Array Oper} {rest : List Oper} {o : Oper} {a : Act} {Q : Exit → Act → World → Prop} {W : World} {base : Nat} {v : Value} {l : List Tk}
    (hown : W.ownsRow base 24 2 v l.length (tcells l)) (hgd : o.guard = none) (s x : Operand)
    (ho : o.op = .call { callee := .builtin .append, args := #[s, x], argTypes := #[22, 22] }) (hs : a.eval s = v) (t : Tk)
    (hx : a.eval x = .slice (some ⟨W.heap.size, 0, none⟩) 1 1) (hlen : l.length ≤ 1099511627776) (hbase : base ≤ W.heap.size)
    (h : ∀ v' w', w'.ownsRow base 24 2 v' (l ++ [t]).length (tcells (l ++ [t])) → (W.alloc (.cells #[.int .i64 t.1, .int .i64 t.2] 24)).grownBy w' v.ownBlock → wpList Try.prog ops Q rest (a.put o.dst v') w') :
    wpList Try.prog ops Q (o :: rest) a (W.alloc (.cells #[.int .i64 t.1, .int .i64 t.2] 24)) := by
  obtain ⟨i0, hi, hz0, hz1, hz2⟩ := info_parts infoTick
  refine wpList_append_any _ hgd s x 22 ho base 24 i0 (.agg #[.int .i64 0, .int .i64 0]) 2 16 Try.underlying22 hi hz0 hz1 hz2 rfl (by decide) v l.length _ hs (hown.alloc _) (W.heap.size + 1) _ 1 1 [.int .i64 t.1, .int .i64 t.2] hx ⟨rfl, fun _ => ⟨_, rfl, Nat.lt_succ_self _, fun j u hu => ?_⟩⟩
    (fun u hu => by simp at hu; rcases hu with rfl | rfl <;> rfl) (by unfold maxLen; omega) (by omega) (by simp; omega) (fun v' w' h1 h2 _ => h v' w' (by rw [tcells_append, List.length_append]; exact h1) h2)
  match j, hu with
  | 0, hu => simp at hu; subst hu; simp [Addr.add]
  | 1, hu => simp at hu; subst hu; simp [Addr.add]
theorem own_ticks {w : World} {base : Nat} {v : Value} {l : List Tk} (h : w.ownsRow base 24 2 v l.length (tcells l)) : TicksAt w v l ∧ ∃ ao c, v = .slice ao l.length c := by
  rcases h.2 with ⟨rfl, h0⟩ | ⟨g, cap, cur, rfl, hb, hg, r⟩
  · exact ⟨⟨none, 0, by rw [h0], fun i hi => by omega⟩, none, 0, by rw [h0]⟩
  · refine ⟨⟨some ⟨g, 0, none⟩, cap, rfl, fun i hi => ?_⟩, _, _, rfl⟩
    obtain ⟨c1, c2, _, _⟩ := row_at h hi
    exact ⟨g, 0, rfl, (h.lt g rfl).2, by rw [Nat.zero_add]; exact c1, by rw [Nat.zero_add]; exact c2⟩
theorem TicksAt.at_ {w : World} {b off n c : Nat} {ts : List Tk} (h : TicksAt w (.slice (some ⟨b, off, none⟩) n c) ts) {i : Nat} (hi : i < ts.length) :
    b < w.heap.size ∧ w.cell? ⟨b, off + i * 2, none⟩ = some (.int .i64 (nth ts i).1) ∧ w.cell? ⟨b, off + i * 2 + 1, none⟩ = some (.int .i64 (nth ts i).2) := by
  obtain ⟨ao, cap, he, h⟩ := h
  injection he with h1 h2 h3
  subst h1
  obtain ⟨b', off', h3, h4, h5, h6⟩ := h i hi
  injection h3 with h3
  injection h3 with e1 e2
  subst e1 e2
  exact ⟨h4, h5, h6⟩
theorem TicksAt.some_ {w : World} {ao : Option Addr} {n c : Nat} {ts : List Tk} (h : TicksAt w (.slice ao n c) ts) {i : Nat} (hi : i < ts.length) :
    ∃ b off, ao = some ⟨b, off, none⟩ ∧ b < w.heap.size ∧ w.cell? ⟨b, off + i * 2, none⟩ = some (.int .i64 (nth ts i).1) ∧ w.cell? ⟨b, off + i * 2 + 1, none⟩ = some (.int .i64 (nth ts i).2) := by
  obtain ⟨ao', cap, he, h⟩ := h
  injection he with h1 h2 h3
  subst h1
  exact h i hi
set_option maxRecDepth 100000 in
set_option maxHeartbeats 1000000 in
theorem lmay_any (w : World) (a d : Int) :
    Calls Try.prog 10 #[.agg #[.int .i64 a, .int .i64 d]] w fun e w' => e = .returned (.bool (mayT (a, d))) ∧ Below w.heap.size w w' := by
  have HB := Lib.hid (show Below w.heap.size w (w.alloc (.cells #[.int .i64 a, .int .i64 d] 24)) from (Below.refl _ _).alloc (Nat.le_refl _) _)
  by_cases h1 : 0 ≤ a
  · have g1 : decide (0 ≤ a) = true := by simpa using h1
    by_cases h2 : a < 4096
    · have g2 : decide (a < 4096) = true := by simpa using h2
      by_cases h3 : 1 ≤ d
      · have g3 : decide (1 ≤ d) = true := by simpa using h3
        have HM := Lib.hid (show mayT (a, d) = decide (d ≤ 2199023255552) by simp [mayT, h1, h2, h3])
        clear h1 h2 h3
        go_enter Try.func10, Try.ntmps10
        go_wp2
        go_ret
        exact ⟨by rw [HM.out]; rfl, HB.out⟩
      · have g3 : decide (1 ≤ d) = false := by simpa using h3
        have HM := Lib.hid (show mayT (a, d) = false by simp [mayT, h3])
        clear h1 h2 h3
        go_enter Try.func10, Try.ntmps10
        go_wp2
        go_ret
        exact ⟨by rw [HM.out]; rfl, HB.out⟩
    · have g2 : decide (a < 4096) = false := by simpa using h2
      have HM := Lib.hid (show mayT (a, d) = false by simp [mayT, h2])
      clear h1 h2
      go_enter Try.func10, Try.ntmps10
      go_wp2
      go_ret
      exact ⟨by rw [HM.out]; rfl, HB.out⟩
  · have g1 : decide (0 ≤ a) = false := by simpa using h1
    have HM := Lib.hid (show mayT (a, d) = false by simp [mayT, h1])
    clear h1
    go_enter Try.func10, Try.ntmps10
    go_wp2
    go_ret
    exact ⟨by rw [HM.out]; rfl, HB.out⟩
theorem may_any2 (w : World) (t : Tk) : Calls Try.prog 10 #[.agg #[.int .i64 t.1, .int .i64 t.2]] w fun e w' => e = .returned (.bool (mayT t)) ∧ Below w.heap.size w w' := lmay_any w t.1 t.2
theorem due_val {w : World} {base g : Nat} {r : Option Nat} {ts : List Tk} (h : QQ w base g (putAll ts []) r) (a : Int) :
    Calls Try.prog 12 #[.pointer (some ⟨g, 0, none⟩), .int .i64 a] w fun e w' => e = .returned (.tuple #[.int .i64 (leastR a ts), .bool (decide (0 < leastR a ts))]) ∧ w = w' := by
  refine (due_q h a).mono ?_
  rintro e w' ⟨he, hw⟩
  refine ⟨?_, hw⟩
  have hd := least_due ts a
  have hb := leastR_bound a ts
  unfold dueM at hd
  have h1 : ((findM (putAll ts []) a).map (·.2) |>.getD 0) = leastR a ts := by
    rw [hd]
    split
    · rename_i h0; rw [h0]; rfl
    · rfl
  have h2 : (findM (putAll ts []) a).isSome = decide (0 < leastR a ts) := by
    have : ((findM (putAll ts []) a).map (·.2)).isSome = (findM (putAll ts []) a).isSome := by simp
    rw [← this, hd]
    split
    · rename_i h0; rw [h0]; rfl
    · simp; omega
  rw [he, h1, h2]

set_option maxRecDepth 100000 in
set_option maxHeartbeats 4000000 in
theorem least_walk (w : World) (ao : Option Addr) (n c : Nat) (ts : List Tk) (at_ : Int) (hv : TicksAt w (.slice ao n c) ts) (hnc : n ≤ c) (hn : n * 16 ≤ 140737488351232) (hc : c ≤ maxLen) :
    Calls Try.prog 3 #[.slice ao n c, .int .i64 at_] w fun e w' => e = .returned (.bool true) ∧ Below w.heap.size w w' := by
  obtain ⟨k, hk⟩ : ∃ k, k = min n 200 := ⟨_, rfl⟩
  have hmn : ∀ W, (Builtin.min_ #[3, 3] 3 #[.int .i64 (n : Int), .int .i64 200]).run Try.prog W = .ok (.int .i64 (k : Int)) W := fun W => by rw [hk]; exact min_law n 200 W
  have hkn : k ≤ n := by omega
  have hk2 : k ≤ 200 := by omega
  have hnl : n = ts.length := by obtain ⟨_, _, he, _⟩ := hv; injection he
  have hv2 := hv.take hkn
  have hl2 : (ts.take k).length = k := by simp; omega
  generalize ts.take k = us at hv2 hl2
  have HV := Lib.hid hv2
  have HL := Lib.hid hl2
  have g1 : (k : Int) ≤ (c : Int) := by omega
  have g2 : (c : Int) ≤ 9223372036854775807 := by unfold maxLen at hc; omega
  clear hv hk hnl hc hv2 hl2
  go_enter Try.func3, Try.ntmps3
  go_wp2
  clear hmn
  go_loopw [5, 6, 7] (fun v s6 s7 wr => ∃ i : Int, -1 ≤ i ∧ i < k ∧ s7 = .int .i64 i ∧ s6 = .int .i64 (leastR at_ (us.drop (i + 1).toNat)) ∧
      wr.ownsRow w.heap.size 24 2 v (us.drop (i + 1).toNat).reverse.length (tcells (us.drop (i + 1).toNat).reverse) ∧ Below w.heap.size w wr) (fun _ _ s7 _ => (intOf s7 + 1).toNat)
  case atStart =>
    refine ⟨(k : Int) - 1, by omega, by omega, rfl, ?_, ?_, Below.refl _ _⟩
    · rw [show ((k : Int) - 1 + 1).toNat = k by omega, List.drop_of_length_le (by rw [HL.out]; exact Nat.le_refl _)]; rfl
    · rw [show ((k : Int) - 1 + 1).toNat = k by omega, List.drop_of_length_le (by rw [HL.out]; exact Nat.le_refl _)]; exact World.ownsRow_nil _ _ _ _
  case round =>
    obtain ⟨i, hi1, hi2, rfl, rfl, hown, hbl⟩ := hrel
    by_cases h0 : 0 ≤ i
    · obtain ⟨p, rfl⟩ : ∃ p : Nat, i = p := ⟨i.toNat, by omega⟩
      have e1 : ((p : Int) + 1).toNat = p + 1 := by omega
      have e2 : ((p : Int) - 1 + 1).toNat = p := by omega
      have hpl : p < us.length := by rw [HL.out]; omega
      rw [e1] at hown ⊢
      have hlb := leastR_bound at_ (us.drop (p + 1))
      have HDR := Lib.hid (show (us.drop p).reverse = (us.drop (p + 1)).reverse ++ [nth us p] by rw [List.drop_eq_getElem_cons hpl, List.reverse_cons, nth_get hpl])
      have hlen : (us.drop (p + 1)).reverse.length ≤ 1099511627776 := by have := HL.out; simp; omega
      obtain ⟨L, hL⟩ : ∃ L, L = leastR at_ (us.drop (p + 1)) := ⟨_, rfl⟩
      rw [← hL] at hlb ⊢
      have HLL := Lib.hid hL.symm
      obtain ⟨b, off, hao, hb, c1, c2⟩ := (HV.out.below hbl).some_ hpl
      subst hao
      have HO := Lib.hid hown
      have HBL := Lib.hid hbl
      have l1 : (p : Int) < (k : Int) := hi2
      clear hL hown hbl e1 h0 hi1
      cases hm_ : mayT (nth us p) with
      | false =>
        have HM := Lib.hid hm_
        have HC := Lib.hid (show ¬ (mayT (nth us p) = true ∧ (nth us p).1 = at_ ∧ (L = 0 ∨ (nth us p).2 < L)) by rw [hm_]; simp)
        clear hm_
        go_wp2_with (at_builtin; refine tick_law HO.out rfl _ _ rfl rfl (nth us p) rfl hlen HBL.out.size ?_)
        intro v2 w2 hown2 hg2
        have hb2 : Below w.heap.size w w2 := (HBL.out.alloc HBL.out.size _).grown hg2 (Nat.le_trans HBL.out.size (by simp)) (fun g hg => (HO.out.lt g hg).1)
        obtain ⟨-, c1, c2⟩ := (HV.out.below hb2).at_ hpl
        have HB2 := Lib.hid hb2
        have HO2 := Lib.hid hown2
        clear hown2 hg2 hb2
        go_wp2_with fail
        go_at_call 10
        refine (may_any2 _ _).mono ?_
        rintro e w3 ⟨rfl, hb3⟩
        have hb4 := HB2.out.trans (hb3.mono HB2.out.size)
        obtain ⟨-, c1, c2⟩ := (HV.out.below hb4).at_ hpl
        have HB4 := Lib.hid hb4
        have HO4 := Lib.hid (own_only (S := fun _ => False) HO2.out (Only.of_below hb3) (fun _ _ h => h))
        clear hb4 hb3
        rw [HM.out]
        go_wp2
        go_roundw
        case rel =>
          refine ⟨(p : Int) - 1, by omega, by omega, rfl, ?_, ?_, HB4.out⟩
          · rw [e2, leastR_drop at_ us p hpl, HLL.out]; unfold leastStep; rw [if_neg (HC.out)]
          · rw [e2, HDR.out, show ((us.drop (p + 1)).reverse ++ [nth us p]).length = us.length - (p + 1) + 1 by simp]; exact HO4.out
        case measure => (simp [intOf] <;> omega)
      | true =>
        have HM := Lib.hid hm_
        by_cases ha : (nth us p).1 = at_
        · have ga : ((nth us p).1 == at_) = true := by simpa using ha
          by_cases hz : L = 0
          · have gz : (L == 0) = true := by simpa using hz
            have HC := Lib.hid (show (mayT (nth us p) = true ∧ (nth us p).1 = at_ ∧ (L = 0 ∨ (nth us p).2 < L)) from ⟨hm_, ha, .inl hz⟩)
            clear ha hz
            clear hm_
            go_wp2_with (at_builtin; refine tick_law HO.out rfl _ _ rfl rfl (nth us p) rfl hlen HBL.out.size ?_)
            intro v2 w2 hown2 hg2
            have hb2 : Below w.heap.size w w2 := (HBL.out.alloc HBL.out.size _).grown hg2 (Nat.le_trans HBL.out.size (by simp)) (fun g hg => (HO.out.lt g hg).1)
            obtain ⟨-, c1, c2⟩ := (HV.out.below hb2).at_ hpl
            have HB2 := Lib.hid hb2
            have HO2 := Lib.hid hown2
            clear hown2 hg2 hb2
            go_wp2_with fail
            go_at_call 10
            refine (may_any2 _ _).mono ?_
            rintro e w3 ⟨rfl, hb3⟩
            have hb4 := HB2.out.trans (hb3.mono HB2.out.size)
            obtain ⟨-, c1, c2⟩ := (HV.out.below hb4).at_ hpl
            have HB4 := Lib.hid hb4
            have HO4 := Lib.hid (own_only (S := fun _ => False) HO2.out (Only.of_below hb3) (fun _ _ h => h))
            clear hb4 hb3
            rw [HM.out]
            go_wp2
            go_roundw
            case rel =>
              refine ⟨(p : Int) - 1, by omega, by omega, rfl, ?_, ?_, HB4.out⟩
              · rw [e2, leastR_drop at_ us p hpl, HLL.out]; unfold leastStep; rw [if_pos (HC.out)]
              · rw [e2, HDR.out, show ((us.drop (p + 1)).reverse ++ [nth us p]).length = us.length - (p + 1) + 1 by simp]; exact HO4.out
            case measure => (simp [intOf] <;> omega)
          · have gz : (L == 0) = false := by simpa using hz
            by_cases hd : (nth us p).2 < L
            · have gd : decide ((nth us p).2 < L) = true := by simpa using hd
              have HC := Lib.hid (show (mayT (nth us p) = true ∧ (nth us p).1 = at_ ∧ (L = 0 ∨ (nth us p).2 < L)) from ⟨hm_, ha, .inr hd⟩)
              clear ha hz hd
              clear hm_
              go_wp2_with (at_builtin; refine tick_law HO.out rfl _ _ rfl rfl (nth us p) rfl hlen HBL.out.size ?_)
              intro v2 w2 hown2 hg2
              have hb2 : Below w.heap.size w w2 := (HBL.out.alloc HBL.out.size _).grown hg2 (Nat.le_trans HBL.out.size (by simp)) (fun g hg => (HO.out.lt g hg).1)
              obtain ⟨-, c1, c2⟩ := (HV.out.below hb2).at_ hpl
              have HB2 := Lib.hid hb2
              have HO2 := Lib.hid hown2
              clear hown2 hg2 hb2
              go_wp2_with fail
              go_at_call 10
              refine (may_any2 _ _).mono ?_
              rintro e w3 ⟨rfl, hb3⟩
              have hb4 := HB2.out.trans (hb3.mono HB2.out.size)
              obtain ⟨-, c1, c2⟩ := (HV.out.below hb4).at_ hpl
              have HB4 := Lib.hid hb4
              have HO4 := Lib.hid (own_only (S := fun _ => False) HO2.out (Only.of_below hb3) (fun _ _ h => h))
              clear hb4 hb3
              rw [HM.out]
              go_wp2
              go_roundw
              case rel =>
                refine ⟨(p : Int) - 1, by omega, by omega, rfl, ?_, ?_, HB4.out⟩
                · rw [e2, leastR_drop at_ us p hpl, HLL.out]; unfold leastStep; rw [if_pos (HC.out)]
                · rw [e2, HDR.out, show ((us.drop (p + 1)).reverse ++ [nth us p]).length = us.length - (p + 1) + 1 by simp]; exact HO4.out
              case measure => (simp [intOf] <;> omega)
            · have gd : decide ((nth us p).2 < L) = false := by simpa using hd
              have HC := Lib.hid (show ¬ (mayT (nth us p) = true ∧ (nth us p).1 = at_ ∧ (L = 0 ∨ (nth us p).2 < L)) from fun h => h.2.2.elim hz hd)
              clear ha hz hd
              clear hm_
              go_wp2_with (at_builtin; refine tick_law HO.out rfl _ _ rfl rfl (nth us p) rfl hlen HBL.out.size ?_)
              intro v2 w2 hown2 hg2
              have hb2 : Below w.heap.size w w2 := (HBL.out.alloc HBL.out.size _).grown hg2 (Nat.le_trans HBL.out.size (by simp)) (fun g hg => (HO.out.lt g hg).1)
              obtain ⟨-, c1, c2⟩ := (HV.out.below hb2).at_ hpl
              have HB2 := Lib.hid hb2
              have HO2 := Lib.hid hown2
              clear hown2 hg2 hb2
              go_wp2_with fail
              go_at_call 10
              refine (may_any2 _ _).mono ?_
              rintro e w3 ⟨rfl, hb3⟩
              have hb4 := HB2.out.trans (hb3.mono HB2.out.size)
              obtain ⟨-, c1, c2⟩ := (HV.out.below hb4).at_ hpl
              have HB4 := Lib.hid hb4
              have HO4 := Lib.hid (own_only (S := fun _ => False) HO2.out (Only.of_below hb3) (fun _ _ h => h))
              clear hb4 hb3
              rw [HM.out]
              go_wp2
              go_roundw
              case rel =>
                refine ⟨(p : Int) - 1, by omega, by omega, rfl, ?_, ?_, HB4.out⟩
                · rw [e2, leastR_drop at_ us p hpl, HLL.out]; unfold leastStep; rw [if_neg (HC.out)]
                · rw [e2, HDR.out, show ((us.drop (p + 1)).reverse ++ [nth us p]).length = us.length - (p + 1) + 1 by simp]; exact HO4.out
              case measure => (simp [intOf] <;> omega)
        · have ga : ((nth us p).1 == at_) = false := by simpa using ha
          have HC := Lib.hid (show ¬ (mayT (nth us p) = true ∧ (nth us p).1 = at_ ∧ (L = 0 ∨ (nth us p).2 < L)) from fun h => ha h.2.1)
          clear ha
          clear hm_
          go_wp2_with (at_builtin; refine tick_law HO.out rfl _ _ rfl rfl (nth us p) rfl hlen HBL.out.size ?_)
          intro v2 w2 hown2 hg2
          have hb2 : Below w.heap.size w w2 := (HBL.out.alloc HBL.out.size _).grown hg2 (Nat.le_trans HBL.out.size (by simp)) (fun g hg => (HO.out.lt g hg).1)
          obtain ⟨-, c1, c2⟩ := (HV.out.below hb2).at_ hpl
          have HB2 := Lib.hid hb2
          have HO2 := Lib.hid hown2
          clear hown2 hg2 hb2
          go_wp2_with fail
          go_at_call 10
          refine (may_any2 _ _).mono ?_
          rintro e w3 ⟨rfl, hb3⟩
          have hb4 := HB2.out.trans (hb3.mono HB2.out.size)
          obtain ⟨-, c1, c2⟩ := (HV.out.below hb4).at_ hpl
          have HB4 := Lib.hid hb4
          have HO4 := Lib.hid (own_only (S := fun _ => False) HO2.out (Only.of_below hb3) (fun _ _ h => h))
          clear hb4 hb3
          rw [HM.out]
          go_wp2
          go_roundw
          case rel =>
            refine ⟨(p : Int) - 1, by omega, by omega, rfl, ?_, ?_, HB4.out⟩
            · rw [e2, leastR_drop at_ us p hpl, HLL.out]; unfold leastStep; rw [if_neg (HC.out)]
            · rw [e2, HDR.out, show ((us.drop (p + 1)).reverse ++ [nth us p]).length = us.length - (p + 1) + 1 by simp]; exact HO4.out
          case measure => (simp [intOf] <;> omega)
    · obtain rfl : i = -1 := by omega
      rw [show ((-1 : Int) + 1).toNat = 0 from rfl, List.drop_zero] at hown ⊢
      have hlb := leastR_bound at_ us
      obtain ⟨htk, ao2, c2, hv2⟩ := own_ticks hown
      rw [List.length_reverse, HL.out] at hv2
      subst hv2
      have hbl0 := hbl
      have HP1 := Lib.hid (lput_any wr ao k c us (HV.out.below hbl) (by omega))
      have HP2 := Lib.hid (fun (w1 : World) (hb1 : Below wr.heap.size wr w1) => lput_any w1 ao2 _ c2 us.reverse (htk.below hb1) (by omega))
      have HBL := Lib.hid hbl
      clear hown htk hbl hbl0
      go_wp2_with fail
      go_at_call 11
      refine HP1.out.mono ?_
      rintro e w1 ⟨hb1, rfl, r1, hq1⟩
      have HP2' := Lib.hid (HP2.out w1 hb1)
      go_wp2_with fail
      go_at_call 11
      refine HP2'.out.mono ?_
      rintro e w2 ⟨hb2, rfl, r2, hq2⟩
      rw [putAll_reverse] at hq2
      have hq1' := hq1.below hb2
      have HD1 := Lib.hid (due_val hq1' at_)
      have HD2 := Lib.hid (due_val hq2 at_)
      have HN1 := Lib.hid (qlen_q hq1')
      have HN2 := Lib.hid (qlen_q hq2)
      have HB3 := Lib.hid ((HBL.out.trans (hb1.mono HBL.out.size)).trans (hb2.mono (Nat.le_trans HBL.out.size hb1.size)))
      have HW := Lib.hid (works_any w2)
      generalize leastR at_ us = L at *
      clear hq1 hq1' hq2 hb1 hb2
      by_cases hz : 0 < L
      · have gz : decide (0 < L) = true := by simpa using hz
        rw [gz] at HD1 HD2
        clear hz
        go_wp2_with (first | (go_at_call 12; first | ((with_reducible refine HD1.out.mono ?_); rintro e w' ⟨rfl, rfl⟩) | ((with_reducible refine HD2.out.mono ?_); rintro e w' ⟨rfl, rfl⟩)) | (go_at_call 13; first | ((with_reducible refine HN1.out.mono ?_); rintro e w' ⟨rfl, rfl⟩) | ((with_reducible refine HN2.out.mono ?_); rintro e w' ⟨rfl, rfl⟩)) | (go_at_call 14; (with_reducible refine HW.out.mono ?_); rintro e w3 ⟨rfl, hb3⟩))
        go_ret
        exact ⟨rfl, HB3.out.trans (hb3.mono HB3.out.size)⟩
      · have gz : decide (0 < L) = false := by simpa using hz
        rw [gz] at HD1 HD2
        clear hz
        go_wp2_with (first | (go_at_call 12; first | ((with_reducible refine HD1.out.mono ?_); rintro e w' ⟨rfl, rfl⟩) | ((with_reducible refine HD2.out.mono ?_); rintro e w' ⟨rfl, rfl⟩)) | (go_at_call 13; first | ((with_reducible refine HN1.out.mono ?_); rintro e w' ⟨rfl, rfl⟩) | ((with_reducible refine HN2.out.mono ?_); rintro e w' ⟨rfl, rfl⟩)) | (go_at_call 14; (with_reducible refine HW.out.mono ?_); rintro e w3 ⟨rfl, hb3⟩))
        go_ret
        exact ⟨rfl, HB3.out.trans (hb3.mono HB3.out.size)⟩
end Go.Proofs.Ytlccplpniidjfaa
