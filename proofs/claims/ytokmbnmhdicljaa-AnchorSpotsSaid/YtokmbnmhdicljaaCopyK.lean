/- copy within an own row of elements of k cells: all from one place on, one place further. -/
import Derived.Test.YtokmbnmhdicljaaRowK
import Derived.Laws.CopyOwn
namespace Go.Proofs.Ytokmbnmhdicljaa
open Go.RowKit

theorem run_copy_k {P : Program} (w : World) (dT sT ty elem : TypeId) (k g o dLen dCap : Nat) (a : Addr) (sLen sCap : Nat) (cur : Array Value) (t : TypeId) (cs : List Value)
    (hu : P.underlying dT = some (.slice elem)) (hs : (P.info? elem).map (·.size) = some k)
    (hg : w.heap[g]? = some (.cells cur t (0, 0))) (hn : cs.length = Nat.min sLen dLen * k)
    (hsrc : ∀ j v, cs[j]? = some v → w.cell? (a.add j) = some v) (hfit : o + cs.length ≤ cur.size) (h1 : ∀ v ∈ cs, v.oneCell' = true) :
    (Builtin.copy_ #[dT, sT] ty #[.slice (some ⟨g, o, none⟩) dLen dCap, .slice (some a) sLen sCap]).run P w =
      .ok (goInt (Nat.min sLen dLen)) (w.setRow g (cur.toList.take o ++ cs ++ cur.toList.drop (o + cs.length)).toArray) := by
  have hl := run_loadCells_list (P := P) w a cs hsrc
  have hst := run_storeCells_at P g o t cs 0 cur w hg (by simpa using hfit) h1
  cases hq : P.info? elem with
  | none => simp [hq] at hs
  | some i =>
    have hi : i.size = k := by simpa [hq] using hs
    simp [Builtin.copy_, run_underlying hu, Builtin.lenOf, Builtin.firstCells, sizeOf, typeInfo, hq, hi, ← hn, hl, hst]
theorem splice_shift {α : Type} (l : List α) (x : α) (i : Nat) (hi : i < l.length) : (l ++ [x]).take (i + 1) ++ ((l ++ [x]).drop i).take (l.length - i) = l.take (i + 1) ++ l.drop i := by
  rw [List.take_append_of_le_length (by omega), List.drop_append_of_le_length (by omega), show List.take (l.length - i) (l.drop i ++ [x]) = l.drop i from List.take_left' (by simp)]
section
variable {α : Type} {enc : α → List Value} {k : Nat} (hk : ∀ x, (enc x).length = k) (h1 : ∀ x, ∀ u ∈ enc x, u.oneCell' = true)
include hk h1
/-- copy(out[i+1:], out[i:]), out of n + 1 elements, i < n. -/
theorem shift_law {ops : Array Oper} {rest : List Oper} {o : Oper} {a : Act} {Q : Exit → Act → World → Prop} {W : World} {base g c i : Nat} {l : List α} {x : α} {t e : TypeId} (hgd : o.guard = none) (d s : Operand)
    (ho : o.op = .call { callee := .builtin .copy, args := #[d, s], argTypes := #[t, t] }) (ht : Try.prog.underlying t = some (.slice e)) (hs : (Try.prog.info? e).map (·.size) = some k)
    (hown : W.ownsRow base e k (.slice (some ⟨g, 0, none⟩) (l.length + 1) c) (l.length + 1) (rc enc (l ++ [x]))) (hi : i < l.length)
    {o1 dl dc o2 sl sc : Nat} (hd : a.eval d = .slice (some ⟨g, o1, none⟩) dl dc) (hsv : a.eval s = .slice (some ⟨g, o2, none⟩) sl sc) (e1 : o1 = (i + 1) * k) (e2 : dl = l.length - i) (e3 : o2 = i * k) (e4 : sl = l.length + 1 - i)
    (h : ∀ w', w'.ownsRow base e k (.slice (some ⟨g, 0, none⟩) (l.length + 1) c) (l.length + 1) (rc enc (l.take (i + 1) ++ l.drop i)) → W.grownBy w' (some g) → wpList Try.prog ops Q rest (a.put o.dst (goInt (l.length - i : Nat))) w') :
    wpList Try.prog ops Q (o :: rest) a W := by
  subst e1 e2 e3 e4
  have hmin : Nat.min (l.length + 1 - i) (l.length - i) = l.length - i := by
    show min _ _ = _
    omega
  have hlen : (rc enc (l ++ [x])).length = (l.length + 1) * k := by rw [rc_length hk]; simp
  rcases hown.2 with ⟨h', _⟩ | ⟨g', cap', cur, h', hb, hg, hc1, hc2, hc3, htake⟩
  · simp at h'
  · injection h' with e1 e2 e3
    injection e1 with e1
    injection e1 with e1
    subst e1 e3
    obtain ⟨CS, hCS⟩ : ∃ CS, CS = rc enc (((l ++ [x]).drop i).take (l.length - i)) := ⟨_, rfl⟩
    have hcs : CS.length = (l.length - i) * k := by
      rw [hCS, rc_length hk]
      congr 1
      simp
      omega
    have hCD : CS = ((rc enc (l ++ [x])).drop (i * k)).take ((l.length - i) * k) := by
      rw [rc_drop hk _ _ (by simp; omega), rc_take hk _ _ (by simp; omega), hCS]
    have hdrop : ∀ j v, CS[j]? = some v → W.cell? ((⟨g, i * k, none⟩ : Addr).add j) = some v := by
      intro j v hv
      have hj : j < (l.length - i) * k := by rw [← hcs]; exact (List.getElem?_eq_some_iff.1 hv).1
      have ha : (⟨g, i * k, none⟩ : Addr).add j = ⟨g, i * k + j, none⟩ := by unfold Addr.add; split <;> simp_all
      rw [hCD, List.getElem?_take_of_lt hj, List.getElem?_drop] at hv
      have hl : i * k + j < (l.length + 1) * k := by rw [← hlen]; exact (List.getElem?_eq_some_iff.1 hv).1
      rw [ha, hown.cellAt (i * k + j) hl, hv]
    have hfit : (i + 1) * k + CS.length ≤ cur.size := by
      rw [hcs, hc3, ← Nat.add_mul]
      exact Nat.mul_le_mul_right k (by omega)
    have hrun := run_copy_k (P := Try.prog) W t t o.type e k g ((i + 1) * k) (l.length - i) dc ⟨g, i * k, none⟩ (l.length + 1 - i) sc cur e CS ht hs hg (by rw [hcs, hmin]) hdrop hfit (fun v hv => rc_one h1 _ v (hCS ▸ hv))
    rw [hmin] at hrun
    obtain ⟨C', hC'⟩ : ∃ C', C' = (cur.toList.take ((i + 1) * k) ++ CS ++ cur.toList.drop ((i + 1) * k + CS.length)).toArray := ⟨_, rfl⟩
    rw [← hC'] at hrun
    refine wpList_plain hgd fun K hK => ?_
    unfold Oper.wp
    simp [execOp, ho, resolve, invoke, builtin, hd, hsv, hrun, Result.andThen]
    refine hK _ _ (h _ ⟨?_, .inr ⟨g, _, _, rfl, hb, setRow_heap W g cur _ e _ hg, hc1, hc2, ?_, ?_⟩⟩ ⟨rfl, rfl, rfl, by simp [World.setRow], fun q _ hne => setRow_other W g q _ (fun hq => hne (by rw [hq]))⟩)
    · rw [rc_length hk]
      congr 1
      simp; omega
    · rw [hC']
      simp only [List.size_toArray, List.length_append, List.length_take, List.length_drop, Array.length_toList]
      rw [← hc3]
      omega
    · have hsum : (i + 1) * k + (l.length - i) * k = (l.length + 1) * k := by rw [← Nat.add_mul]; congr 1; omega
      have hp : cur.toList.take ((i + 1) * k) = rc enc ((l ++ [x]).take (i + 1)) := by
        rw [← rc_take hk _ _ (by simp; omega), ← htake, List.take_take, Nat.min_eq_left (by omega)]
      rw [← splice_shift l x i hi, rc_append, ← hp, ← hCS, hC']
      exact List.take_left' (by rw [List.length_append, hcs, List.length_take, Array.length_toList, Nat.min_eq_left (by omega)]; exact hsum)
end
end Go.Proofs.Ytokmbnmhdicljaa
