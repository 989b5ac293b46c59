/- The document's Words: the walk. -/
import Derived.Test.YtjbhkmpabajeoaaDoorLFPut2
import Derived.Test.YtjbhkmpabajeoaaDoorLNums
namespace Go.Proofs.YtjbhkmpabajeoaaDoor
set_option linter.unusedSimpArgs false
set_option linter.unusedVariables false
open Go.RowKit

/-- What the loop holds ahead of place k: W is done, the next word begins at f. -/
def WInv (s : Bs) (W : List Bs) (f k : Nat) : Prop :=
  W.length ≤ k ∧ ((f ≤ k ∧ k ≤ s.length ∧ words s = W ++ words (s.drop f) ∧ noB ((s.drop f).take (k - f))) ∨ (k = s.length + 1 ∧ words s = W))
theorem WInv.start (s : Bs) : WInv s [] 0 0 := ⟨Nat.le_refl _, .inl ⟨Nat.le_refl _, Nat.zero_le _, by simp, by simp [noB_nil]⟩⟩
theorem WInv.last {s : Bs} {W : List Bs} {f : Nat} (h : WInv s W f s.length) : f ≤ s.length ∧ WInv s (W ++ [s.drop f]) (s.length + 1) (s.length + 1) := by
  obtain ⟨h0, ⟨h1, h2, h3, h4⟩ | ⟨h1, _⟩⟩ := h
  · refine ⟨h1, ?_, .inr ⟨rfl, ?_⟩⟩
    · rw [List.length_append]; simp; omega
    · rw [List.take_of_length_le (by simp)] at h4
      rw [h3, words_one _ h4]
  · omega
theorem WInv.blank {s : Bs} {W : List Bs} {f k : Nat} (h : WInv s W f k) (hk : k < s.length) (hb : s[k] = 32) : f ≤ k ∧ WInv s (W ++ [(s.drop f).take (k - f)]) (k + 1) (k + 1) := by
  obtain ⟨h0, ⟨h1, h2, h3, h4⟩ | ⟨h1, _⟩⟩ := h
  · refine ⟨h1, ?_, .inl ⟨Nat.le_refl _, by omega, ?_, by simp [noB_nil]⟩⟩
    · rw [List.length_append]; simp; omega
    · have e : s.drop f = (s.drop f).take (k - f) ++ 32 :: s.drop (k + 1) := by
        have e1 : (s.drop f).drop (k - f) = s.drop k := by rw [List.drop_drop]; congr 1; omega
        have e2 : s.drop k = 32 :: s.drop (k + 1) := by rw [List.drop_eq_getElem_cons hk, hb]
        rw [← e2, ← e1, List.take_append_drop]
      have e3 : words (s.drop f) = (s.drop f).take (k - f) :: words (s.drop (k + 1)) := by
        conv => lhs; rw [e]
        exact words_append _ _ h4
      rw [h3, e3]
      simp
  · omega
theorem WInv.letter {s : Bs} {W : List Bs} {f k : Nat} (h : WInv s W f k) (hk : k < s.length) (hb : s[k] ≠ 32) : WInv s W f (k + 1) := by
  obtain ⟨h0, ⟨h1, h2, h3, h4⟩ | ⟨h1, _⟩⟩ := h
  · refine ⟨by omega, .inl ⟨by omega, by omega, h3, ?_⟩⟩
    have hlt : k - f < (s.drop f).length := by rw [List.length_drop]; omega
    rw [show k + 1 - f = k - f + 1 by omega, List.take_succ_eq_append_getElem hlt]
    intro c hc
    rcases List.mem_append.1 hc with hc | hc
    · exact h4 c hc
    · simp only [List.mem_singleton] at hc
      rw [hc]
      simp only [List.getElem_drop]
      have e : f + (k - f) = k := by omega
      simp only [e]
      exact hb
  · omega
theorem WInv.done {s : Bs} {W : List Bs} {f : Nat} (h : WInv s W f (s.length + 1)) : words s = W := by
  obtain ⟨h0, ⟨h1, h2, _⟩ | ⟨_, h1⟩⟩ := h
  · omega
  · exact h1
theorem ext_str (s : Bs) (f k : Nat) : (str s).extract f k = str ((s.drop f).take (k - f)) := by
  apply ByteArray.ext
  apply Array.ext'
  simp [str, ByteArray.data_extract, List.extract_eq_take_drop]
set_option maxRecDepth 100000 in
set_option maxHeartbeats 2000000 in
theorem fwords_any (w : World) (s : Bs) (hs : s.length ≤ 1024) : Calls Tryd.prog 32 #[.string (str s)] w fun e w' => ∃ v, e = .returned v ∧ w'.ownsRow w.heap.size 9 1 v (words s).length ((words s).map sv) ∧ Below w.heap.size w w' := by
  obtain ⟨i0, hi, hz0, hz1, hz2⟩ := info_parts infoStr
  go_enter Tryd.func32, Tryd.ntmps32
  go_wp2
  go_loopw [3, 4, 5] (fun v f i wr => ∃ (W : List Bs) (fn k : Nat), f = .int .i64 fn ∧ i = .int .i64 k ∧ k ≤ s.length + 1 ∧ WInv s W fn k ∧ wr.ownsRow w.heap.size 9 1 v W.length (W.map sv) ∧ Below w.heap.size w wr) (fun _ _ i _ => s.length + 2 - (intOf i).toNat)
  case atStart => exact ⟨[], 0, 0, rfl, rfl, Nat.zero_le _, WInv.start s, World.ownsRow_nil _ _ _ _, Below.refl _ _⟩
  case round =>
    obtain ⟨W, fn, k, rfl, rfl, hk, hi_, ho_, hb_⟩ := hrel
    have HI := Lib.hid hi_
    have HO := Lib.hid ho_
    have HB := Lib.hid hb_
    clear hi_ ho_ hb_
    have hsz : (str s).size = s.length := rfl
    have hb0 := HB.out.size
    by_cases h1 : k ≤ s.length
    · by_cases h2 : k = s.length
      · subst h2
        obtain ⟨hf, hI⟩ := HI.out.last
        have HI2 := Lib.hid hI
        clear hI
        go_wp2_with (at_builtin; refine wpList_append_any _ rfl _ _ 48 rfl w.heap.size 9 i0 (.string ByteArray.empty) 1 16 Tryd.underlying48 hi hz0 hz1 hz2 rfl (by decide) _ W.length _ rfl (HO.out.alloc _) (wr.heap.size + 1) _ 1 1 [sv (s.drop fn)] rfl ?c1 ?c2 ?c3 ?c4 ?c5 ?_)
        case c1 =>
          refine ⟨rfl, fun _ => ⟨_, rfl, Nat.lt_succ_self _, fun j u hu => ?_⟩⟩
          match j, hu with
          | 0, hu =>
            simp at hu
            subst hu
            have hx : (str s).extract fn s.length = str (s.drop fn) := by rw [ext_str, List.take_of_length_le (by simp)]
            rw [hx]
            simp [Addr.add, sv]
        case c2 => intro u hu; simp at hu; subst hu; rfl
        case c3 => have := HI.out.1; unfold maxLen; omega
        case c4 => have := HI.out.1; omega
        case c5 => simp; omega
        intro v' w' k1 k2 k3
        have HB2 := Lib.hid ((HB.out.alloc hb0 _).grown k2 (by simp; omega) (fun k hk => (HO.out.lt k hk).1))
        have K1 := Lib.hid k1
        clear k1 k2 k3
        go_wp2
        refine ⟨⟨W ++ [s.drop fn], s.length + 1, s.length + 1, rfl, rfl, by omega, HI2.out, ?_, HB2.out⟩, by simp only [intOf]; omega⟩
        rw [List.length_append, List.map_append]
        exact K1.out
      · have hk1 : k < s.length := by omega
        have hk2 : k < (str s).size := hk1
        have e0 : ((k : Int) == (s.length : Int)) = false := by simp; omega
        cases hc : (((((str s)[k]'hk2).toNat : Int)) == 32) with
        | true =>
          have hb1 : s[k] = 32 := by
            have h3 : (s[k]).toNat = 32 := by
              have := beq_iff_eq.1 hc
              have h4 : ((s[k].toNat : Nat) : Int) = 32 := this
              omega
            exact UInt8.toNat_inj.1 h3
          obtain ⟨hf, hI⟩ := HI.out.blank hk1 hb1
          have HI2 := Lib.hid hI
          clear hI hb1
          go_wp2_with (at_builtin; refine wpList_append_any _ rfl _ _ 48 rfl w.heap.size 9 i0 (.string ByteArray.empty) 1 16 Tryd.underlying48 hi hz0 hz1 hz2 rfl (by decide) _ W.length _ rfl (HO.out.alloc _) (wr.heap.size + 1) _ 1 1 [sv ((s.drop fn).take (k - fn))] rfl ?c1 ?c2 ?c3 ?c4 ?c5 ?_)
          case c1 =>
            refine ⟨rfl, fun _ => ⟨_, rfl, Nat.lt_succ_self _, fun j u hu => ?_⟩⟩
            match j, hu with
            | 0, hu =>
              simp at hu
              subst hu
              have hx : (str s).extract fn k = str ((s.drop fn).take (k - fn)) := by exact ext_str s fn k
              rw [hx]
              simp [Addr.add, sv]
          case c2 => intro u hu; simp at hu; subst hu; rfl
          case c3 => have := HI.out.1; unfold maxLen; omega
          case c4 => have := HI.out.1; omega
          case c5 => simp; omega
          intro v' w' k1 k2 k3
          have HB2 := Lib.hid ((HB.out.alloc hb0 _).grown k2 (by simp; omega) (fun k hk => (HO.out.lt k hk).1))
          have K1 := Lib.hid k1
          clear k1 k2 k3
          go_wp2
          refine ⟨⟨W ++ [(s.drop fn).take (k - fn)], k + 1, k + 1, rfl, rfl, by omega, HI2.out, ?_, HB2.out⟩, by simp only [intOf]; omega⟩
          rw [List.length_append, List.map_append]
          exact K1.out
        | false =>
          have hb1 : s[k] ≠ 32 := by
            intro h3
            have h4 : ((s[k].toNat : Nat) : Int) = 32 := by rw [h3]; rfl
            have h5 : (((((str s)[k]'hk2).toNat : Int)) == 32) = true := beq_iff_eq.2 h4
            rw [hc] at h5
            cases h5
          have HI2 := Lib.hid (HI.out.letter hk1 hb1)
          clear hb1
          go_wp2
          exact ⟨⟨W, fn, k + 1, rfl, rfl, by omega, HI2.out, HO.out, HB.out⟩, by simp only [intOf]; omega⟩
    · have hk1 : k = s.length + 1 := by omega
      subst hk1
      have e0 : ¬ ((s.length : Int) + 1 ≤ (s.length : Int)) := by omega
      go_wp2
      have hd := HI.out.done
      go_ret
      exact ⟨_, rfl, by rw [hd]; exact HO.out, HB.out⟩
end Go.Proofs.YtjbhkmpabajeoaaDoor
