/- The document's Number: the walk. -/
import Derived.Test.YtjbhkmpabajeoaaDoorLFNum
namespace Go.Proofs.YtjbhkmpabajeoaaDoor
set_option linter.unusedSimpArgs false
set_option linter.unusedVariables false
open Go.RowKit

theorem numLoop_in : ∀ (l : Bs) (n m : Int), InI n → numLoop n l = some m → InI m
  | [], n, m, h, e => by simp only [numLoop, Option.some.injEq] at e; subst e; exact h
  | c :: l, n, m, h, e => by
    simp only [numLoop] at e
    split at e
    · exact numLoop_in l _ m (by unfold numStep InI; rw [IntKind.wrap_i64]; omega) e
    · cases e
set_option maxRecDepth 100000 in
set_option maxHeartbeats 2000000 in
theorem fnumber_any (w : World) (s : Bs) (hs : s.length ≤ 1024) : Calls Tryd.prog 33 #[.string (str s)] w fun e w' => (∃ b, e = .returned (.tuple #[.int .i64 (numV s), .bool b])) ∧ Below w.heap.size w w' := by
  have hsz : (str s).size = s.length := rfl
  have HD := Lib.hid digits_any
  have hcase : (s.length = 0 ∧ signed s = 0) ∨ (∃ h0 : 0 < (str s).size, (((((str s)[0]'h0).toNat : Int)) == 45) = true ∧ signed s = 1) ∨ (∃ h0 : 0 < (str s).size, (((((str s)[0]'h0).toNat : Int)) == 45) = false ∧ signed s = 0) := by
    cases s with
    | nil => exact .inl ⟨rfl, rfl⟩
    | cons c l =>
      have h0 : 0 < (str (c :: l)).size := Nat.succ_pos _
      by_cases hc : c = 45
      · subst hc
        exact .inr (.inl ⟨h0, rfl, rfl⟩)
      · refine .inr (.inr ⟨h0, ?_, by simp [signed, hc]⟩)
        have : ¬ ((c.toNat : Int) = 45) := by
          intro h
          have h4 : c.toNat = 45 := by omega
          exact hc (UInt8.toNat_inj.1 h4)
        exact beq_eq_false_iff_ne.2 this
  rcases hcase with ⟨hl, hsg⟩ | ⟨h0, hc, hsg⟩ | ⟨h0, hc, hsg⟩
  · have e0 : s.length = 0 := hl
    have e : numV s = 0 := by unfold numV; rw [hsg, if_pos (.inl hl)]
    rw [e]
    obtain rfl := List.length_eq_zero_iff.1 hl
    go_enter Tryd.func33, Tryd.ntmps33
    go_wp2
    refine bodyPost_ret (v := .tuple #[.int .i64 0, .bool false]) (by simp [results, Tryd.results33, go_sem]) rfl ⟨⟨_, rfl⟩, Below.refl _ _⟩
  · have h01 : 0 < s.length := h0
    by_cases hb : s.length = signed s ∨ signed s + 19 < s.length
    · have e : numV s = 0 := by unfold numV; rw [if_pos hb]
      rw [e]
      rw [hsg] at hb
      rcases hb with hb | hb
      · have z1 : ((s.length : Int) == 1) = true := beq_iff_eq.2 (by omega)
        go_enter Tryd.func33, Tryd.ntmps33
        go_wp2
        refine bodyPost_ret (v := .tuple #[.int .i64 0, .bool false]) (by simp [results, Tryd.results33, go_sem]) rfl ⟨⟨_, rfl⟩, Below.refl _ _⟩
      · have z1 : ((s.length : Int) == 1) = false := beq_eq_false_iff_ne.2 (by omega)
        have z2 : decide (20 < (s.length : Int)) = true := decide_eq_true (by omega)
        go_enter Tryd.func33, Tryd.ntmps33
        go_wp2
        refine bodyPost_ret (v := .tuple #[.int .i64 0, .bool false]) (by simp [results, Tryd.results33, go_sem]) rfl ⟨⟨_, rfl⟩, Below.refl _ _⟩
    · have z1 : ((s.length : Int) == 1) = false := beq_eq_false_iff_ne.2 (by omega)
      have z2 : decide (20 < (s.length : Int)) = false := decide_eq_false (by omega)
      have HSG := Lib.hid hsg
      have HBB := Lib.hid hb
      have hsl : signed s ≤ s.length := by omega
      clear hb hsg
      go_enter Tryd.func33, Tryd.ntmps33
      go_wp2
      go_loopw [4, 6] (fun n i wr => ∃ (m : Int) (k : Nat), n = .int .i64 m ∧ i = .int .i64 k ∧ signed s ≤ k ∧ k ≤ s.length ∧ InI m ∧ numLoop 0 (s.drop (signed s)) = numLoop m (s.drop k) ∧ wr = w) (fun _ i _ => s.length + 1 - (intOf i).toNat)
      case atStart => exact ⟨0, signed s, rfl, by rw [HSG.out]; rfl, Nat.le_refl _, hsl, by unfold InI; omega, rfl, rfl⟩
      case round =>
        obtain ⟨m, k, rfl, rfl, hk0, hk, hm, hnl, rfl⟩ := hrel
        have HNL := Lib.hid hnl
        have HM := Lib.hid hm
        clear hnl hm
        by_cases hlt : k < s.length
        · have hk2 : k < (str s).size := hlt
          have hd : s.drop k = s[k] :: s.drop (k + 1) := List.drop_eq_getElem_cons hlt
          have HD1 := Lib.hid hd
          clear hd
          cases hdg : digB s[k] with
          | true =>
            have h8 := of_decide_eq_true hdg
            have q1 : decide ((((str s)[k]'hk2).toNat : Int) < 48) = false := by
              have : (s[k].toNat : Int) ≥ 48 := by omega
              exact decide_eq_false (by have e : (((str s)[k]'hk2).toNat : Int) = (s[k].toNat : Int) := rfl; omega)
            have q2 : decide (57 < (((str s)[k]'hk2).toNat : Int)) = false := by
              exact decide_eq_false (by have e : (((str s)[k]'hk2).toNat : Int) = (s[k].toNat : Int) := rfl; omega)
            have hst : wrap64 (wrap64 (10 * m) - ((((str s)[k]'hk2).toNat : Int) - 48) % 256) = numStep m s[k] := by
              have e : (((str s)[k]'hk2).toNat : Int) = (s[k].toNat : Int) := rfl
              unfold numStep
              rw [IntWalk.i64_left, IntWalk.i64_left, e, Int.emod_eq_of_lt (by omega) (by omega)]
            have HST := Lib.hid hst
            clear hst h8
            go_wp2
            refine ⟨⟨numStep m s[k], k + 1, by rw [HST.out], rfl, by omega, by omega, by unfold numStep InI; rw [IntKind.wrap_i64]; omega, by rw [HNL.out, HD1.out]; simp [numLoop, hdg], trivial⟩, by simp only [intOf]; omega⟩
          | false =>
            have h8 : ¬ (48 ≤ s[k].toNat ∧ s[k].toNat ≤ 57) := of_decide_eq_false hdg
            have e : numV s = 0 := by
              unfold numV
              rw [if_neg HBB.out, HNL.out, HD1.out]
              simp [numLoop, hdg]
            have q : decide ((((str s)[k]'hk2).toNat : Int) < 48) = true ∨ (decide ((((str s)[k]'hk2).toNat : Int) < 48) = false ∧ decide (57 < (((str s)[k]'hk2).toNat : Int)) = true) := by
              have e : (((str s)[k]'hk2).toNat : Int) = (s[k].toNat : Int) := rfl
              by_cases h : (((str s)[k]'hk2).toNat : Int) < 48
              · exact .inl (decide_eq_true h)
              · exact .inr ⟨decide_eq_false h, decide_eq_true (by omega)⟩
            clear h8
            rcases q with q | ⟨q, q'⟩
            all_goals
              go_wp2
              refine bodyPost_ret (v := .tuple #[.int .i64 0, .bool false]) (by simp [results, Tryd.results33, go_sem]) rfl ⟨⟨_, by rw [e]⟩, Below.refl _ _⟩
        · have hk1 : k = s.length := by omega
          subst hk1
          have e : numV s = m := by
            unfold numV
            rw [if_neg HBB.out, HNL.out, List.drop_length]
            simp [numLoop, HSG.out]
          have HN := Lib.hid e
          clear e
          go_wp2_with fail
          go_at_call 39
          refine (HD.out _ _ (HM.out)).mono ?_
          rintro e w1 ⟨rfl, hb⟩
          go_wp2
          refine bodyPost_ret (v := .tuple #[.int .i64 (m), .bool (Lib.itoa (m) == s)]) (by simp [results, Tryd.results33, go_sem]) rfl ⟨⟨_, by rw [HN.out]⟩, hb⟩
  · have h01 : 0 < s.length := h0
    by_cases hb : s.length = signed s ∨ signed s + 19 < s.length
    · have e : numV s = 0 := by unfold numV; rw [if_pos hb]
      rw [e]
      rw [hsg] at hb
      rcases hb with hb | hb
      · exact absurd hb (by omega)
      · have z1 : ((s.length : Int) == 0) = false := beq_eq_false_iff_ne.2 (by omega)
        have z2 : decide (19 < (s.length : Int)) = true := decide_eq_true (by omega)
        go_enter Tryd.func33, Tryd.ntmps33
        go_wp2
        refine bodyPost_ret (v := .tuple #[.int .i64 0, .bool false]) (by simp [results, Tryd.results33, go_sem]) rfl ⟨⟨_, rfl⟩, Below.refl _ _⟩
    · have z1 : ((s.length : Int) == 0) = false := beq_eq_false_iff_ne.2 (by omega)
      have z2 : decide (19 < (s.length : Int)) = false := decide_eq_false (by omega)
      have HSG := Lib.hid hsg
      have HBB := Lib.hid hb
      have hsl : signed s ≤ s.length := by omega
      clear hb hsg
      go_enter Tryd.func33, Tryd.ntmps33
      go_wp2
      go_loopw [4, 6] (fun n i wr => ∃ (m : Int) (k : Nat), n = .int .i64 m ∧ i = .int .i64 k ∧ signed s ≤ k ∧ k ≤ s.length ∧ InI m ∧ numLoop 0 (s.drop (signed s)) = numLoop m (s.drop k) ∧ wr = w) (fun _ i _ => s.length + 1 - (intOf i).toNat)
      case atStart => exact ⟨0, signed s, rfl, by rw [HSG.out]; rfl, Nat.le_refl _, hsl, by unfold InI; omega, rfl, rfl⟩
      case round =>
        obtain ⟨m, k, rfl, rfl, hk0, hk, hm, hnl, rfl⟩ := hrel
        have HNL := Lib.hid hnl
        have HM := Lib.hid hm
        clear hnl hm
        by_cases hlt : k < s.length
        · have hk2 : k < (str s).size := hlt
          have hd : s.drop k = s[k] :: s.drop (k + 1) := List.drop_eq_getElem_cons hlt
          have HD1 := Lib.hid hd
          clear hd
          cases hdg : digB s[k] with
          | true =>
            have h8 := of_decide_eq_true hdg
            have q1 : decide ((((str s)[k]'hk2).toNat : Int) < 48) = false := by
              have : (s[k].toNat : Int) ≥ 48 := by omega
              exact decide_eq_false (by have e : (((str s)[k]'hk2).toNat : Int) = (s[k].toNat : Int) := rfl; omega)
            have q2 : decide (57 < (((str s)[k]'hk2).toNat : Int)) = false := by
              exact decide_eq_false (by have e : (((str s)[k]'hk2).toNat : Int) = (s[k].toNat : Int) := rfl; omega)
            have hst : wrap64 (wrap64 (10 * m) - ((((str s)[k]'hk2).toNat : Int) - 48) % 256) = numStep m s[k] := by
              have e : (((str s)[k]'hk2).toNat : Int) = (s[k].toNat : Int) := rfl
              unfold numStep
              rw [IntWalk.i64_left, IntWalk.i64_left, e, Int.emod_eq_of_lt (by omega) (by omega)]
            have HST := Lib.hid hst
            clear hst h8
            go_wp2
            refine ⟨⟨numStep m s[k], k + 1, by rw [HST.out], rfl, by omega, by omega, by unfold numStep InI; rw [IntKind.wrap_i64]; omega, by rw [HNL.out, HD1.out]; simp [numLoop, hdg], trivial⟩, by simp only [intOf]; omega⟩
          | false =>
            have h8 : ¬ (48 ≤ s[k].toNat ∧ s[k].toNat ≤ 57) := of_decide_eq_false hdg
            have e : numV s = 0 := by
              unfold numV
              rw [if_neg HBB.out, HNL.out, HD1.out]
              simp [numLoop, hdg]
            have q : decide ((((str s)[k]'hk2).toNat : Int) < 48) = true ∨ (decide ((((str s)[k]'hk2).toNat : Int) < 48) = false ∧ decide (57 < (((str s)[k]'hk2).toNat : Int)) = true) := by
              have e : (((str s)[k]'hk2).toNat : Int) = (s[k].toNat : Int) := rfl
              by_cases h : (((str s)[k]'hk2).toNat : Int) < 48
              · exact .inl (decide_eq_true h)
              · exact .inr ⟨decide_eq_false h, decide_eq_true (by omega)⟩
            clear h8
            rcases q with q | ⟨q, q'⟩
            all_goals
              go_wp2
              refine bodyPost_ret (v := .tuple #[.int .i64 0, .bool false]) (by simp [results, Tryd.results33, go_sem]) rfl ⟨⟨_, by rw [e]⟩, Below.refl _ _⟩
        · have hk1 : k = s.length := by omega
          subst hk1
          have e : numV s = IntKind.i64.wrap (-m) := by
            unfold numV
            rw [if_neg HBB.out, HNL.out, List.drop_length]
            simp [numLoop, HSG.out]
          have HN := Lib.hid e
          clear e
          go_wp2_with fail
          go_at_call 39
          refine (HD.out _ _ (by rw [← IntWalk.i64_left]; unfold InI; rw [IntKind.wrap_i64]; omega)).mono ?_
          rintro e w1 ⟨rfl, hb⟩
          go_wp2
          refine bodyPost_ret (v := .tuple #[.int .i64 (wrap64 (-m)), .bool (Lib.itoa (wrap64 (-m)) == s)]) (by simp [results, Tryd.results33, go_sem]) rfl ⟨⟨_, by rw [HN.out]; rw [IntWalk.i64_left]⟩, hb⟩
end Go.Proofs.YtjbhkmpabajeoaaDoor
