/- The document's queue: Drop, Put: the walks. -/
import Derived.Test.YtlccplpniidjfaaQRef2
namespace Go.Proofs.Ytlccplpniidjfaa
open Go.RowKit

theorem own_base {w : World} {base base' : Nat} {e : TypeId} {size n : Nat} {v : Value} {xs : List Value} (h : w.ownsRow base e size v n xs) (hb : base' ≤ base) : w.ownsRow base' e size v n xs := by
  obtain ⟨h1, h2⟩ := h
  refine ⟨h1, ?_⟩
  rcases h2 with h2 | ⟨g, cap, cur, r1, r2, r3⟩
  · exact .inl h2
  · exact .inr ⟨g, cap, cur, r1, Nat.le_trans hb r2, r3⟩
theorem own_cap {w : World} {base : Nat} {ao : Option Addr} {n c : Nat} {e : TypeId} {size : Nat} {xs : List Value} (h : w.ownsRow base e size (.slice ao n c) n xs) : n ≤ c ∧ c ≤ maxLen := by
  rcases h.2 with ⟨h1, h2⟩ | ⟨g, cap, cur, r1, _, _, r4, r5, _⟩
  · injection h1 with _ h3 h4
    subst h3 h4
    exact ⟨Nat.le_refl _, Nat.zero_le _⟩
  · injection r1 with _ _ h4
    subst h4
    exact ⟨r4, r5⟩
theorem Reads.take {w : World} {B size : Nat} {A : Option Addr} {n : Nat} {xs : List Value} (h : Reads w B size A n xs) {k : Nat} (hk : k ≤ n) : Reads w B size A k (xs.take (k * size)) := by
  refine ⟨by rw [List.length_take, h.1]; exact Nat.min_eq_left (Nat.mul_le_mul_right _ hk), fun h0 => ?_⟩
  obtain ⟨ad, h1, h2, h3⟩ := h.2 (by omega)
  refine ⟨ad, h1, h2, fun j u hu => h3 j u ?_⟩
  have hj := (List.getElem?_eq_some_iff.1 hu).1
  rw [List.getElem?_take_of_lt (by simp at hj; omega)] at hu
  exact hu
theorem tcells_take (m : List Tk) (k : Nat) (hk : k ≤ m.length) : (tcells m).take (k * 2) = tcells (m.take k) := by
  have h := tcells_append (m.take k) (m.drop k)
  rw [List.take_append_drop] at h
  rw [h, List.take_left' (by rw [tcells_length, List.length_take, Nat.min_eq_left hk])]
theorem tcells_drop (m : List Tk) (k : Nat) (hk : k ≤ m.length) : (tcells m).drop (k * 2) = tcells (m.drop k) := by
  have h := tcells_append (m.take k) (m.drop k)
  rw [List.take_append_drop] at h
  rw [h, List.drop_left' (by rw [tcells_length, List.length_take, Nat.min_eq_left hk])]
def RNew2 (w : World) (r r' : Option Nat) : Prop := r' = r ∨ ∀ k, r' = some k → w.heap.size ≤ k
theorem RNew2.refl (w : World) (r : Option Nat) : RNew2 w r r := .inl rfl
/-- append(ticks, others...) onto a row of the call's own. -/
theorem ticks_law {ops : Array Oper} {rest : List Oper} {o : Oper} {a : Act} {Q : Exit → Act → World → Prop} {W : World} {base : Nat} {v : Value} {l us : List Tk} {B : Nat} {ao : Option Addr} {n c : Nat}
    (hown : W.ownsRow base 24 2 v l.length (tcells l)) (hgd : o.guard = none) (s x : Operand)
    (ho : o.op = .call { callee := .builtin .append, args := #[s, x], argTypes := #[22, 22] }) (hs : a.eval s = v)
    (hx : a.eval x = .slice ao n c) (hr : Reads W B 2 ao n (tcells us)) (hn : n = us.length) (hlen : l.length + us.length ≤ 1099511627776) (hbase : base ≤ W.heap.size)
    (h : ∀ v' w', w'.ownsRow base 24 2 v' (l ++ us).length (tcells (l ++ us)) → W.grownBy w' v.ownBlock → (v'.ownBlock = v.ownBlock ∨ v'.ownBlock = some W.heap.size) → wpList Try.prog ops Q rest (a.put o.dst v') w') :
    wpList Try.prog ops Q (o :: rest) a W := by
  obtain ⟨i0, hi, hz0, hz1, hz2⟩ := info_parts infoTick
  subst hn
  exact wpList_append_any _ hgd s x 22 ho base 24 i0 (.agg #[.int .i64 0, .int .i64 0]) 2 16 Try.underlying22 hi hz0 hz1 hz2 rfl (by decide) v l.length _ hs hown B ao us.length c (tcells us) hx hr (tcells_one us) (by unfold maxLen; omega) (by omega) hbase
    (fun v' w' h1 h2 h3 => h v' w' (by rw [tcells_append, List.length_append]; exact h1) h2 h3)

/-- A new row is stored. -/
theorem rq_store {w w2 : World} {base p : Nat} {m' l : List Tk} {v2 u : Value} {n : Nat} {rv : Option Nat} (hb2 : Below w.heap.size w w2) (hbb : Blk w2 p 57 #[u]) (ho : w2.ownsRow w.heap.size 24 2 v2 n (tcells l))
    (he : m' = l) (hn : n = l.length) (hbs : base ≤ w.heap.size) (hbp : base ≤ p) (hpl : p < w.heap.size) (hr : Rising m') (hm : ∀ t ∈ m', mayT t = true) :
    RQ (w2.setCell ⟨p, 0, none⟩ v2) base p m' v2.ownBlock ∧ Only w (w2.setCell ⟨p, 0, none⟩ v2) (fun k => k = p) ∧ RNew2 w rv v2.ownBlock := by
  subst he hn
  have ho' := own_only ho (((Only.refl w2 (fun k => k = p)).setCell (p := ⟨p, 0, none⟩) (.inl rfl) v2)) (fun k hk e => by have := (ho.lt k hk).1; have e : k = p := e; omega)
  refine ⟨⟨v2, hbb.set_ 0 v2, own_base ho' hbs, rfl, hbp, hr, hm⟩, ?_, .inr fun k hk => (ho.lt k hk).1⟩
  exact Only.setCell (S := fun k => k = p) (Only.of_below hb2) (p := ⟨p, 0, none⟩) (.inl rfl) v2

set_option maxRecDepth 1000000 in
set_option maxHeartbeats 2000000 in
theorem fdrop_any {w : World} {base p : Nat} {m : List Tk} {rv : Option Nat} (h : RQ w base p m rv) (hbs : base ≤ w.heap.size) (a : Int) :
    Calls Try.prog 24 #[.pointer (some ⟨p, 0, none⟩), .int .i64 a] w fun e w' =>
      e = .returned (.bool (findM m a).isSome) ∧ ∃ rv', RQ w' base p (Ytlccplpniidjfaa.rest m a) rv' ∧ Only w w' (fun k => k = p) ∧ RNew2 w rv rv' := by
  have HP := Lib.hid (fplace_any h a)
  have HQ := Lib.hid h
  have hsm := h.small
  obtain ⟨v, hb, hown, hrv, hbp, hm, hmay⟩ := h
  obtain ⟨htk, ao, c, rfl⟩ := own_ticks hown
  have hcap := own_cap hown
  have HR := Lib.hid (Reads.of_own hown)
  have HB := Lib.hid hb
  have HM := Lib.hid (And.intro hm hmay)
  have c0 : w.cell? ⟨p, 0, none⟩ = some (.slice ao m.length c) := by rw [hb.cell 0]; rfl
  have f0 := hb.frozen 0
  have hpl := hb.lt
  have HTK := Lib.hid htk
  clear htk hown hb hm hmay
  go_enter Try.func24, Try.ntmps24
  go_wp2_with fail
  go_at_call 34
  refine HP.out.mono ?_
  rintro e w1 ⟨⟨i, hp, rfl⟩, n, rfl⟩
  have hf := hp.find HM.out.1
  cases hc : isAt m a i with
  | false =>
    rw [hc, if_neg (by simp)] at hf
    have HF := Lib.hid hf
    have HRE := Lib.hid (rest_none (m := m) (a := a) (findM_none hf))
    clear hf hp hc
    go_wp2
    go_ret
    refine ⟨by rw [HF.out]; rfl, rv, ?_, (Only.refl w _).drewN n, RNew2.refl _ _⟩
    rw [HRE.out]; exact HQ.out.drewN n
  | true =>
    rw [hc, if_pos rfl] at hf
    obtain ⟨hi, -⟩ := isAt_iff.1 hc
    have HRE := Lib.hid (hp.rest HM.out.1 hc)
    have HF := Lib.hid hf
    have hcap1 := hcap.1
    have l1 : (i : Int) ≤ (c : Int) := by omega
    have l2 : (c : Int) ≤ 9223372036854775807 := by have := hcap.2; unfold maxLen at this; omega
    have l3 : (i : Int) + 1 ≤ (m.length : Int) := by omega
    have l4 : (m.length : Int) ≤ (c : Int) := by omega
    clear hf hp hc hcap
    have HR1 := Lib.hid ((HR.out.drewN n).take (k := i) (by omega))
    rw [tcells_take m i (by omega)] at HR1
    go_wp2_with (at_builtin; refine ticks_law (l := []) (World.ownsRow_nil _ w.heap.size _ _) rfl _ _ rfl rfl rfl HR1.out (by simp; omega) (by simp; omega) (Nat.le_refl _) ?_)
    intro v1 w1 hown1 hg1 hn1
    have hb1 : Below w.heap.size w w1 := (below_drewN (Below.refl _ w) n).grown hg1 (Nat.le_refl _) (fun g hg => by cases hg)
    have c1 : w1.cell? ⟨p, 0, none⟩ = some (.slice ao m.length c) := (hb1.cell (p := ⟨p, 0, none⟩) hpl).trans c0
    have f1 : w1.frozen? ⟨p, 0, none⟩ = false := (hb1.frozen (p := ⟨p, 0, none⟩) hpl).trans f0
    obtain ⟨b, off, hao, hbb, -, -⟩ := HTK.out.some_ hi
    subst hao
    by_cases hcc : c = i + 1
    · have hlen : m.length = i + 1 := by omega
      subst hcc
      have g1 : (i : Int) + 1 ≤ 4096 := by omega
      have HR2 := Lib.hid (show Reads w1 w.heap.size 2 (some ⟨b, off, none⟩) 0 (tcells (m.drop (i + 1))) by
        rw [List.drop_of_length_le (by omega)]; exact ⟨rfl, fun h => absurd h (by omega)⟩)
      have HO1 := Lib.hid (show w1.ownsRow w.heap.size 24 2 v1 (m.take i).length (tcells (m.take i)) by rw [List.length_take]; exact hown1)
      have HB1 := Lib.hid hb1
      rw [hlen] at c1
      have HLEN := Lib.hid hlen
      clear hown1 hg1 hn1 hb1 l1 l2 l3 l4 hcap1 hlen hi hsm
      go_wp2_with (at_builtin; refine ticks_law (l := m.take i) HO1.out rfl _ _ rfl rfl rfl HR2.out (by rw [List.length_drop, HLEN.out]; omega) (by rw [List.length_take, List.length_drop, HLEN.out]; omega) HB1.out.size ?_)
      intro v2 w2 hown2 hg2 hn2
      have hb2 : Below w.heap.size w w2 := HB1.out.grown hg2 HB1.out.size (fun g hg => (HO1.out.lt g hg).1)
      have hbb := HB.out.below hb2 hpl
      obtain ⟨-, ao2, c2, hv2⟩ := own_ticks (l := m.take i ++ m.drop (i + 1)) (by rw [List.length_append, List.length_take, List.length_drop]; simpa using hown2)
      rw [List.length_append, List.length_take, List.length_drop] at hv2
      subst hv2
      have f2 := hbb.frozen 0
      have d2 := hbb.cell 0
      have HB2 := Lib.hid hb2
      have HO2 := Lib.hid hown2
      have HBB := Lib.hid hbb
      clear hb2 hbb hown2 hg2 hn2
      go_wp2
      go_ret
      refine ⟨by rw [HF.out]; rfl, _, rq_store HB2.out HBB.out HO2.out HRE.out (by rw [List.length_append, List.length_take, List.length_drop]) hbs hbp hpl (HM.out.1.rest a) (fun t ht => HM.out.2 t (mem_rest.1 ht).1)⟩
    · have hcc' : ((c : Int) == (i : Int) + 1) = false := by rw [beq_eq_false_iff_ne]; omega
      have hr2 := (HR.out.below hb1).cut (k := i + 1) (cap := c) (by omega) (by omega)
      rw [tcells_drop m (i + 1) (by omega), if_neg hcc] at hr2
      have HR2 := Lib.hid (show Reads w1 w.heap.size 2 (some ⟨b, off + (i + 1) * 2, none⟩) (m.length - (i + 1)) (tcells (m.drop (i + 1))) from hr2)
      clear hr2
      have HO1 := Lib.hid (show w1.ownsRow w.heap.size 24 2 v1 (m.take i).length (tcells (m.take i)) by rw [List.length_take]; exact hown1)
      have HB1 := Lib.hid hb1
      clear hown1 hg1 hn1 hb1
      go_wp2_with (at_builtin; refine ticks_law (l := m.take i) HO1.out rfl _ _ rfl rfl rfl HR2.out (by rw [List.length_drop]) (by rw [List.length_take, List.length_drop]; omega) HB1.out.size ?_)
      intro v2 w2 hown2 hg2 hn2
      have hb2 : Below w.heap.size w w2 := HB1.out.grown hg2 HB1.out.size (fun g hg => (HO1.out.lt g hg).1)
      have hbb := HB.out.below hb2 hpl
      obtain ⟨-, ao2, c2, hv2⟩ := own_ticks (l := m.take i ++ m.drop (i + 1)) (by rw [List.length_append, List.length_take, List.length_drop]; simpa using hown2)
      rw [List.length_append, List.length_take, List.length_drop] at hv2
      subst hv2
      have f2 := hbb.frozen 0
      have d2 := hbb.cell 0
      have HB2 := Lib.hid hb2
      have HO2 := Lib.hid hown2
      have HBB := Lib.hid hbb
      clear hb2 hbb hown2 hg2 hn2
      go_wp2
      go_ret
      refine ⟨by rw [HF.out]; rfl, _, rq_store HB2.out HBB.out HO2.out HRE.out (by rw [List.length_append, List.length_take, List.length_drop]) hbs hbp hpl (HM.out.1.rest a) (fun t ht => HM.out.2 t (mem_rest.1 ht).1)⟩
end Go.Proofs.Ytlccplpniidjfaa
