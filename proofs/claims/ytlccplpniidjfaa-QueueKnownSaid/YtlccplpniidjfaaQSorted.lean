/- QueueSorted: taken one by one ticks come by when they are due, then by index, each index once, and each that was put is among them: the walk. -/
import Derived.Test.YtlccplpniidjfaaQLeast
namespace Go.Proofs.Ytlccplpniidjfaa
open Go.RowKit

/-- What was taken so far, o, and what is left, m, of m0. -/
def Srt (m0 o m : List Tk) : Prop := (o ++ m).Perm m0 ∧ o.Pairwise (fun a b => lessT a b = true) ∧ ∀ x ∈ o, ∀ y ∈ m, lessT x y = true
theorem Srt.start (m0 : List Tk) : Srt m0 [] m0 := ⟨by simp, List.Pairwise.nil, fun x hx => by simp at hx⟩
theorem min_lt {m : List Tk} {t y : Tk} (ht : IsMin m t) (hy : y ∈ rest m t.1) : lessT t y = true := by
  obtain ⟨h1, h2⟩ := mem_rest.1 hy
  have h3 := ht.2 y h1
  rw [lessT_false] at h3
  rw [lessT_iff]
  omega
theorem nodup_keys {m : List Tk} (hm : Rising m) : (m.map fun t => t.1).Nodup := by
  rw [List.nodup_iff_pairwise_ne]
  exact (List.pairwise_map.2 (hm.imp (fun h => Int.ne_of_lt h)))
theorem Srt.step {m0 o m : List Tk} {t : Tk} (h : Srt m0 o m) (hm : Rising m) (ht : IsMin m t) : Srt m0 (o ++ [t]) (rest m t.1) := by
  obtain ⟨h1, h2, h3⟩ := h
  refine ⟨?_, ?_, ?_⟩
  · rw [List.append_assoc]
    exact ((perm_rest (nodup_keys hm) ht.1).symm.append_left o).trans h1
  · rw [List.pairwise_append]
    refine ⟨h2, by simp, fun x hx y hy => ?_⟩
    rw [List.mem_singleton] at hy
    subst hy
    exact h3 x hx y ht.1
  · intro x hx y hy
    rcases List.mem_append.1 hx with hx | hx
    · exact h3 x hx y (mem_rest.1 hy).1
    · rw [List.mem_singleton] at hx
      subst hx
      exact min_lt ht hy
theorem Srt.less {m0 o m : List Tk} (h : Srt m0 o m) {i j : Nat} (hij : i < j) (hj : j < o.length) : lessT (nth o i) (nth o j) = true := by
  rw [nth_get (Nat.lt_trans hij hj), nth_get hj]
  exact List.pairwise_iff_getElem.1 h.2.1 i j (Nat.lt_trans hij hj) hj hij
theorem Srt.keys {m0 o : List Tk} (h : Srt m0 o []) (hm : Rising m0) {i j : Nat} (hij : i < j) (hj : j < o.length) : (nth o i).1 ≠ (nth o j).1 := by
  have hp : o.Perm m0 := by simpa using h.1
  have hn : (o.map fun t => t.1).Nodup := ((hp.map _).nodup_iff).2 (nodup_keys hm)
  rw [List.nodup_iff_pairwise_ne, List.pairwise_iff_getElem] at hn
  have := hn i j (by simp; omega) (by simpa using hj) hij
  rw [nth_get (Nat.lt_trans hij hj), nth_get hj]
  simpa using this

/-- Found so far. -/
def hitT (t x : Tk) : Bool := x.1 == t.1 && decide (x.2 ≤ t.2)
def foundT (t : Tk) (o : List Tk) : Bool := !mayT t || o.any (hitT t)
theorem found_zero (t : Tk) (o : List Tk) : foundT t (o.take 0) = !mayT t := by simp [foundT]
theorem found_succ (t : Tk) {o : List Tk} {i : Nat} (hi : i < o.length) : foundT t (o.take (i + 1)) = (foundT t (o.take i) || hitT t (nth o i)) := by
  unfold foundT
  rw [List.take_succ_eq_append_getElem hi, nth_get hi]
  simp [Bool.or_assoc, List.any_append, -List.take_append_getElem]
theorem found_all {ts o : List Tk} (h : o.Perm (putAll ts [])) {t : Tk} (ht : t ∈ ts) : foundT t o = true := by
  unfold foundT
  cases hm : mayT t with
  | false => rfl
  | true =>
    have hl := putAll_least ts t.1
    cases hd : dueM (putAll ts []) t.1 with
    | none => rw [hd] at hl; exact absurd rfl (hl.2 t ht hm)
    | some d =>
      have hin := (dueM_some hl.1).1 hd
      rw [hd] at hl
      have hle := hl.2.2 t ht hm rfl
      have : (t.1, d) ∈ o := h.mem_iff.2 hin
      simp only [Bool.not_true, Bool.false_or, List.any_eq_true]
      exact ⟨_, this, by simp [hitT]; exact hle⟩
theorem QQ.may {w : World} {base g : Nat} {m : List Tk} {r : Option Nat} (h : QQ w base g m r) : ∀ t ∈ m, mayT t = true := by obtain ⟨_, _, _, _, _, h⟩ := h; exact h
theorem len_zero {w : World} {base g : Nat} {r : Option Nat} (h : QQ w base g [] r) :
    Calls Try.prog 13 #[.pointer (some ⟨g, 0, none⟩)] w fun e w' => e = .returned (.int .i64 0) ∧ w = w' := qlen_q h

theorem tick_law2 {ops : Array Oper} {rest : List Oper} {o : Oper} {a : Act} {Q : Exit → Act → World → Prop} {W : World} {base : Nat} {v : Value} {l : List Tk}
    (hown : W.ownsRow base 24 2 v l.length (tcells l)) (hgd : o.guard = none) (s x : Operand)
    (ho : o.op = .call { callee := .builtin .append, args := #[s, x], argTypes := #[22, 22] }) (hs : a.eval s = v) (t : Tk) {b : Nat}
    (hx : a.eval x = .slice (some ⟨b, 0, none⟩) 1 1) (hb : b = W.heap.size) (hlen : l.length ≤ 1099511627776) (hbase : base ≤ W.heap.size)
    (h : ∀ v' w', w'.ownsRow base 24 2 v' (l ++ [t]).length (tcells (l ++ [t])) → (W.alloc (.cells #[.int .i64 t.1, .int .i64 t.2] 24)).grownBy w' v.ownBlock → wpList Try.prog ops Q rest (a.put o.dst v') w') :
    wpList Try.prog ops Q (o :: rest) a (W.alloc (.cells #[.int .i64 t.1, .int .i64 t.2] 24)) := by
  subst hb
  exact tick_law hown hgd s x ho hs t hx hlen hbase h

theorem TicksAt.drewN {w : World} {v : Value} {ts : List Tk} (h : TicksAt w v ts) (n : Nat) : TicksAt (w.drewN n) v ts := h
set_option maxRecDepth 1000000 in
set_option maxHeartbeats 8000000 in
theorem sorted_walk (w : World) (ao : Option Addr) (n c : Nat) (ts : List Tk) (hv : TicksAt w (.slice ao n c) ts) (hnc : n ≤ c) (hn : n * 16 ≤ 140737488351232) (hc : c ≤ maxLen) :
    Calls Try.prog 4 #[.slice ao n c] w fun e w' => e = .returned (.bool true) ∧ Below w.heap.size w w' := by
  obtain ⟨k, hk⟩ : ∃ k, k = min n 200 := ⟨_, rfl⟩
  have hmn : ∀ W, (Builtin.min_ #[3, 3] 3 #[.int .i64 (n : Int), .int .i64 200]).run Try.prog W = .ok (.int .i64 (k : Int)) W := fun W => by rw [hk]; exact min_law n 200 W
  have hkn : k ≤ n := by omega
  have hk2 : k ≤ 200 := by omega
  have hlen := putAll_length (ts.take k) []
  have hnl : n = ts.length := by obtain ⟨_, _, he, _⟩ := hv; injection he
  have hv2 := hv.take hkn
  have hl2 : (ts.take k).length = k := by simp; omega
  generalize ts.take k = us at hv2 hl2 hlen
  obtain ⟨m0, hm0⟩ : ∃ m0, m0 = putAll us [] := ⟨_, rfl⟩
  have HPUT := Lib.hid (lput_any w ao k c _ hv2 (by omega))
  rw [← hm0] at HPUT hlen
  have HM0 := Lib.hid hm0
  have HLEN := Lib.hid (show m0.length ≤ 200 by simp at hlen; omega)
  have HV := Lib.hid hv2
  have HL := Lib.hid hl2
  have g1 : (k : Int) ≤ (c : Int) := by omega
  have g2 : (c : Int) ≤ 9223372036854775807 := by unfold maxLen at hc; omega
  clear hv hk hlen hnl hc hv2 hl2 hm0
  go_enter Try.func4, Try.ntmps4
  go_wp2_with (go_at_call 11; (with_reducible refine HPUT.out.mono ?_); rintro e w1 ⟨hb1, rfl, r, hq⟩)
  clear hmn HPUT
  have HR0 := Lib.hid hq.rising
  have HB1 := Lib.hid hb1
  have HQLT := Lib.hid (fun x hx => (hq.lt x hx).2)
  go_loopw [4, 5] (fun v s wr => ∃ (o m : List Tk), Srt m0 o m ∧ s = .int .i64 (o.length : Nat) ∧ QQ wr w.heap.size w.heap.size m r ∧
      wr.ownsRow w1.heap.size 24 2 v o.length (tcells o) ∧ w1.heap.size ≤ wr.heap.size ∧ Below w.heap.size w wr) (fun _ s _ => 201 - (intOf s).toNat)
  case atStart => exact ⟨[], m0, Srt.start m0, rfl, hq, World.ownsRow_nil _ _ _ _, Nat.le_refl _, hb1⟩
  case round =>
    obtain ⟨o, m, hs, rfl, hq, hown, hsz, hbl⟩ := hrel
    have hol : o.length + m.length ≤ 200 := by have := hs.1.length_eq; rw [List.length_append] at this; have := HLEN.out; omega
    have g3 : (o.length : Int) < 201 := by omega
    have HS := Lib.hid hs
    have HQ := Lib.hid hq
    have HO := Lib.hid hown
    have HBL := Lib.hid hbl
    have HSZ := Lib.hid hsz
    have HOL := Lib.hid hol
    by_cases h0 : m = []
    · subst h0
      have HT := Lib.hid (take_none hq 2199023255552 (.inl rfl))
      clear hq hbl hb1 hs hown hsz hol
      go_wp2_with (go_at_call 15; (with_reducible refine HT.out.mono ?_); rintro e w2 ⟨rfl, hq2, ho2⟩)
      have hbl2 := only_below HBL.out HQ.out ho2
      have hq3 := hq2.below ((Below.refl _ _).alloc (Nat.le_refl _) (.cells #[.int .i64 0, .int .i64 0] 24))
      have hbl3 := hbl2.alloc hbl2.size (.cells #[.int .i64 0, .int .i64 0] 24)
      have hown2 := (own_only HO.out ho2 (fun x hx hq => absurd (HQLT.out x hq) (Nat.not_lt.2 (HO.out.lt x hx).1))).alloc (.cells #[.int .i64 0, .int .i64 0] 24)
      obtain ⟨htk, ao2, c2, hv2⟩ := own_ticks hown2
      subst hv2
      have HTK := Lib.hid htk
      have HQ3 := Lib.hid hq3
      have HBL3 := Lib.hid hbl3
      clear hq2 ho2 hbl2 hq3 hbl3 hown2 htk HT HO HQ HBL
      go_wp2
      go_loopw [8] (fun s wr => ∃ i : Nat, i ≤ o.length ∧ s = .int .i64 (i : Nat) ∧ QQ wr w.heap.size w.heap.size [] r ∧ TicksAt wr (.slice ao2 o.length c2) o ∧ Below w.heap.size w wr) (fun s _ => o.length - (intOf s).toNat)
      case atStart => exact ⟨0, Nat.zero_le _, rfl, HQ3.out, HTK.out, HBL3.out⟩
      case round =>
        obtain ⟨i, hi, rfl, hq4, htk4, hbl4⟩ := hrel
        have HQ4 := Lib.hid hq4
        have HTK4 := Lib.hid htk4
        have HBL4 := Lib.hid hbl4
        clear hq4 hbl4
        by_cases hlt : i < o.length
        · have l1 : (i : Int) < (o.length : Int) := by omega
          cases i with
          | zero =>
            clear htk4
            go_wp2
            go_quiet (fail)
            go_wp2
            go_loopw [9] (fun s wr => ∃ q : Nat, q ≤ 0 ∧ s = .int .i64 (q : Nat) ∧ QQ wr w.heap.size w.heap.size [] r ∧ TicksAt wr (.slice ao2 o.length c2) o ∧ Below w.heap.size w wr) (fun s _ => 0 - (intOf s).toNat)
            case atStart => exact ⟨0, Nat.zero_le _, rfl, HQ4.out.drewN _, HTK4.out.drewN _, below_drewN HBL4.out _⟩
            case round =>
              obtain ⟨q, hql, rfl, hq5, htk5, hbl5⟩ := hrel
              have HQ5 := Lib.hid hq5
              have HTK5 := Lib.hid htk5
              have HBL5 := Lib.hid hbl5
              clear hq5 hbl5
              by_cases hl : q < 0
              · exact absurd hl (Nat.not_lt_zero _)
              · obtain rfl : q = 0 := by omega
                clear htk5
                go_wp2
                go_roundw
                case rel => exact ⟨1, by omega, by go_num, HQ5.out, HTK5.out, HBL5.out⟩
                case measure => (simp [intOf] <;> omega)
          | succ p =>
            obtain ⟨b, off, hao, hb, c1, c2'⟩ := htk4.some_ hlt
            subst hao
            obtain ⟨-, d1, d2⟩ := htk4.at_ (i := p) (by omega)
            have hlp : (p : Int) < (o.length : Int) := by omega
            clear htk4
            rcases lessT_iff.1 (HS.out.less (show p < p + 1 by omega) hlt) with hd | ⟨hd, ha⟩
            · have k1 : decide ((nth o (p + 1)).2 < (nth o p).2) = false := by simp; omega
              have k2 : ((nth o (p + 1)).2 == (nth o p).2) = false := by simp; omega
              clear hd
              go_wp2
              go_quiet (fail)
              go_wp2
              go_loopw [9] (fun s wr => ∃ q : Nat, q ≤ (p + 1) ∧ s = .int .i64 (q : Nat) ∧ QQ wr w.heap.size w.heap.size [] r ∧ TicksAt wr (.slice (some ⟨b, off, none⟩) o.length c2) o ∧ Below w.heap.size w wr) (fun s _ => (p + 1) - (intOf s).toNat)
              case atStart => exact ⟨0, Nat.zero_le _, rfl, HQ4.out.drewN _, HTK4.out.drewN _, below_drewN HBL4.out _⟩
              case round =>
                obtain ⟨q, hql, rfl, hq5, htk5, hbl5⟩ := hrel
                have HQ5 := Lib.hid hq5
                have HTK5 := Lib.hid htk5
                have HBL5 := Lib.hid hbl5
                clear hq5 hbl5
                by_cases hl : q < (p + 1)
                · obtain ⟨hb, c1, -⟩ := htk5.at_ (i := p + 1) hlt
                  obtain ⟨-, d1, -⟩ := htk5.at_ (i := q) (Nat.lt_trans hl hlt)
                  have k1 : ((nth o q).1 == (nth o ((p + 1))).1) = false := by simpa using HS.out.keys HR0.out hl hlt
                  have l2 : (q : Int) < (((p + 1) : Nat) : Int) := by omega
                  have l3 : (((p + 1) : Nat) : Int) < (o.length : Int) := by omega
                  have l4 : (q : Int) < (o.length : Int) := by omega
                  clear htk5
                  go_wp2
                  go_quiet (fail)
                  go_wp2
                  go_roundw
                  case rel => exact ⟨q + 1, by omega, by go_num, HQ5.out.drewN _, HTK5.out.drewN _, below_drewN HBL5.out _⟩
                  case measure => (simp [intOf] <;> omega)
                · obtain rfl : q = (p + 1) := by omega
                  clear htk5
                  go_wp2
                  go_roundw
                  case rel => exact ⟨p + 1 + 1, by omega, by go_num, HQ5.out, HTK5.out, HBL5.out⟩
                  case measure => (simp [intOf] <;> omega)
            · have k1 : decide ((nth o (p + 1)).2 < (nth o p).2) = false := by simp; omega
              have k2 : ((nth o (p + 1)).2 == (nth o p).2) = true := by simp; omega
              have k3 : decide ((nth o (p + 1)).1 ≤ (nth o p).1) = false := by simp; omega
              clear hd ha
              go_wp2
              go_quiet (fail)
              go_wp2
              go_loopw [9] (fun s wr => ∃ q : Nat, q ≤ (p + 1) ∧ s = .int .i64 (q : Nat) ∧ QQ wr w.heap.size w.heap.size [] r ∧ TicksAt wr (.slice (some ⟨b, off, none⟩) o.length c2) o ∧ Below w.heap.size w wr) (fun s _ => (p + 1) - (intOf s).toNat)
              case atStart => exact ⟨0, Nat.zero_le _, rfl, HQ4.out.drewN _, HTK4.out.drewN _, below_drewN HBL4.out _⟩
              case round =>
                obtain ⟨q, hql, rfl, hq5, htk5, hbl5⟩ := hrel
                have HQ5 := Lib.hid hq5
                have HTK5 := Lib.hid htk5
                have HBL5 := Lib.hid hbl5
                clear hq5 hbl5
                by_cases hl : q < (p + 1)
                · obtain ⟨hb, c1, -⟩ := htk5.at_ (i := p + 1) hlt
                  obtain ⟨-, d1, -⟩ := htk5.at_ (i := q) (Nat.lt_trans hl hlt)
                  have k1 : ((nth o q).1 == (nth o ((p + 1))).1) = false := by simpa using HS.out.keys HR0.out hl hlt
                  have l2 : (q : Int) < (((p + 1) : Nat) : Int) := by omega
                  have l3 : (((p + 1) : Nat) : Int) < (o.length : Int) := by omega
                  have l4 : (q : Int) < (o.length : Int) := by omega
                  clear htk5
                  go_wp2
                  go_quiet (fail)
                  go_wp2
                  go_roundw
                  case rel => exact ⟨q + 1, by omega, by go_num, HQ5.out.drewN _, HTK5.out.drewN _, below_drewN HBL5.out _⟩
                  case measure => (simp [intOf] <;> omega)
                · obtain rfl : q = (p + 1) := by omega
                  clear htk5
                  go_wp2
                  go_roundw
                  case rel => exact ⟨p + 1 + 1, by omega, by go_num, HQ5.out, HTK5.out, HBL5.out⟩
                  case measure => (simp [intOf] <;> omega)
        · obtain rfl : i = o.length := by omega
          clear htk4 hlt
          go_wp2
          go_loopw [10] (fun s wr => ∃ i : Nat, i ≤ k ∧ s = .int .i64 (i : Nat) ∧ QQ wr w.heap.size w.heap.size [] r ∧ TicksAt wr (.slice ao2 o.length c2) o ∧ Below w.heap.size w wr) (fun s _ => k - (intOf s).toNat)
          case atStart => exact ⟨0, Nat.zero_le _, rfl, HQ4.out, HTK4.out, HBL4.out⟩
          case round =>
            obtain ⟨i, hi, rfl, hq5, htk5, hbl5⟩ := hrel
            have HQ5 := Lib.hid hq5
            have HTK5 := Lib.hid htk5
            have HBL5 := Lib.hid hbl5
            clear hq5 htk5
            by_cases hlt : i < k
            · have hil : i < us.length := by rw [HL.out]; exact hlt
              have l1 : (i : Int) < (k : Int) := by omega
              obtain ⟨b, off, hao, hb, c1, c2'⟩ := (HV.out.below hbl5).some_ hil
              subst hao
              clear hbl5
              have HALL := Lib.hid (found_all (ts := us) (o := o) (by rw [← HM0.out]; simpa using HS.out.1) (nth_mem hil))
              go_wp2_with fail
              go_at_call 10
              refine (may_any2 _ _).mono ?_
              rintro e w3 ⟨rfl, hb3⟩
              have HQ7 := Lib.hid (HQ5.out.below hb3)
              have HTK7 := Lib.hid (HTK5.out.below hb3)
              have HBL7 := Lib.hid (HBL5.out.trans (hb3.mono HBL5.out.size))
              clear hb3 hb c1 c2'
              go_wp2
              go_loopw [11, 12] (fun f s wr => ∃ q : Nat, q ≤ o.length ∧ s = .int .i64 (q : Nat) ∧ f = .bool (foundT (nth us i) (o.take q)) ∧ QQ wr w.heap.size w.heap.size [] r ∧ TicksAt wr (.slice ao2 o.length c2) o ∧ Below w.heap.size w wr) (fun _ s _ => o.length - (intOf s).toNat)
              case atStart => exact ⟨0, Nat.zero_le _, rfl, by rw [found_zero], HQ7.out, HTK7.out, HBL7.out⟩
              case round =>
                obtain ⟨q, hql, rfl, rfl, hq6, htk6, hbl6⟩ := hrel
                have HQ6 := Lib.hid hq6
                have HTK6 := Lib.hid htk6
                have HBL6 := Lib.hid hbl6
                clear hq6
                by_cases hl : q < o.length
                · obtain ⟨b2, off2, hao, hb2, d1, d2⟩ := htk6.some_ hl
                  subst hao
                  obtain ⟨-, c1, c2'⟩ := (HV.out.below hbl6).at_ hil
                  have l2 : (q : Int) < (o.length : Int) := by omega
                  have HF := Lib.hid (found_succ (nth us i) hl)
                  clear htk6 hbl6
                  obtain ⟨x, hx⟩ : ∃ x, x = foundT (nth us i) (o.take q) := ⟨_, rfl⟩
                  rw [← hx]
                  have HX := Lib.hid hx.symm
                  clear hx
                  by_cases ha : (nth o q).1 = (nth us i).1
                  · have ga : ((nth o q).1 == (nth us i).1) = true := by simpa using ha
                    clear ha
                    by_cases hd : (nth o q).2 ≤ (nth us i).2
                    · have gd : decide ((nth o q).2 ≤ (nth us i).2) = true := by simpa using hd
                      clear hd
                      cases x with
                      | true =>
                        go_wp2
                        go_quiet (fail)
                        go_wp2
                        go_roundw
                        case rel => exact ⟨q + 1, by omega, by go_num, by rw [HF.out, HX.out]; simp [hitT, ga, gd], HQ6.out.drewN _, HTK6.out.drewN _, below_drewN HBL6.out _⟩
                        case measure => (simp [intOf] <;> omega)
                      | false =>
                        go_wp2
                        go_quiet (fail)
                        go_wp2
                        go_roundw
                        case rel => exact ⟨q + 1, by omega, by go_num, by rw [HF.out, HX.out]; simp [hitT, ga, gd], HQ6.out.drewN _, HTK6.out.drewN _, below_drewN HBL6.out _⟩
                        case measure => (simp [intOf] <;> omega)
                    · have gd : decide ((nth o q).2 ≤ (nth us i).2) = false := by simpa using hd
                      clear hd
                      cases x with
                      | true =>
                        go_wp2
                        go_quiet (fail)
                        go_wp2
                        go_roundw
                        case rel => exact ⟨q + 1, by omega, by go_num, by rw [HF.out, HX.out]; simp [hitT, ga, gd], HQ6.out.drewN _, HTK6.out.drewN _, below_drewN HBL6.out _⟩
                        case measure => (simp [intOf] <;> omega)
                      | false =>
                        go_wp2
                        go_quiet (fail)
                        go_wp2
                        go_roundw
                        case rel => exact ⟨q + 1, by omega, by go_num, by rw [HF.out, HX.out]; simp [hitT, ga, gd], HQ6.out.drewN _, HTK6.out.drewN _, below_drewN HBL6.out _⟩
                        case measure => (simp [intOf] <;> omega)
                  · have ga : ((nth o q).1 == (nth us i).1) = false := by simpa using ha
                    clear ha
                    cases x with
                    | true =>
                      go_wp2
                      go_quiet (fail)
                      go_wp2
                      go_roundw
                      case rel => exact ⟨q + 1, by omega, by go_num, by rw [HF.out, HX.out]; simp [hitT, ga], HQ6.out.drewN _, HTK6.out.drewN _, below_drewN HBL6.out _⟩
                      case measure => (simp [intOf] <;> omega)
                    | false =>
                      go_wp2
                      go_quiet (fail)
                      go_wp2
                      go_roundw
                      case rel => exact ⟨q + 1, by omega, by go_num, by rw [HF.out, HX.out]; simp [hitT, ga], HQ6.out.drewN _, HTK6.out.drewN _, below_drewN HBL6.out _⟩
                      case measure => (simp [intOf] <;> omega)
                · obtain rfl : q = o.length := by omega
                  rw [List.take_length, HALL.out]
                  clear htk6 hbl6 hl
                  go_wp2
                  go_roundw
                  case rel => exact ⟨i + 1, by omega, by go_num, HQ6.out, HTK6.out, HBL6.out⟩
                  case measure => (simp [intOf] <;> omega)
            · obtain rfl : i = k := by omega
              clear hlt hbl5
              have HN := Lib.hid (len_zero HQ5.out)
              have HW := Lib.hid works_any
              go_wp2_with (first | (go_at_call 13; (with_reducible refine HN.out.mono ?_); rintro e w' ⟨rfl, rfl⟩) | (go_at_call 14; (with_reducible refine (HW.out _).mono ?_); rintro e w4 ⟨rfl, hb4⟩))
              go_ret
              exact ⟨rfl, HBL5.out.trans (hb4.mono HBL5.out.size)⟩
    · obtain ⟨t, ht⟩ := exists_min h0
      have htm := hq.may t ht.1
      have hd : t.2 ≤ 2199023255552 := (mayT_iff.1 htm).2.2.2
      have HT := Lib.hid (take_some hq 2199023255552 ht hd)
      have HST := Lib.hid (hs.step hq.rising ht)
      have HT_ := Lib.hid ht.1
      clear hq hbl hb1 hs hown hsz ht htm hd h0
      go_wp2_with fail
      go_at_call 15
      refine HT.out.mono ?_
      rintro e w2 ⟨rfl, hq2, ho2⟩
      have hbl2 := only_below HBL.out HQ.out ho2
      have HO2 := Lib.hid ((own_only HO.out ho2 (fun x hx hq => absurd (HQLT.out x hq) (Nat.not_lt.2 (HO.out.lt x hx).1))).alloc (.cells #[.int .i64 t.1, .int .i64 t.2] 24))
      have hsz2 : w1.heap.size ≤ w2.heap.size := Nat.le_trans HSZ.out ho2.size
      have HQ2 := Lib.hid hq2
      have HBL2 := Lib.hid hbl2
      have HSZ2 := Lib.hid hsz2
      clear hq2 ho2 hbl2 hsz2 HT
      go_wp2_with (at_builtin; refine tick_law2 HO2.out rfl _ _ rfl rfl t rfl (by simp) (by have := HOL.out; omega) (by simp; have := HSZ2.out; omega) ?_)
      intro v3 w3 hown3 hg3
      have hb3 : Below w.heap.size w w3 := ((HBL2.out.alloc HBL2.out.size (.cells #[.int .i64 t.1, .int .i64 t.2] 24)).alloc (by simp; have := HBL2.out.size; omega) (.cells #[.int .i64 t.1, .int .i64 t.2] 24)).grown hg3 (by simp; have := HBL2.out.size; omega) (fun g hg => Nat.le_trans HB1.out.size (HO2.out.lt g hg).1)
      have hq3 := HQ2.out.only ((((Only.refl w2 (fun k => w1.heap.size ≤ k)).alloc (.cells #[.int .i64 t.1, .int .i64 t.2] 24)).alloc (.cells #[.int .i64 t.1, .int .i64 t.2] 24)).grown hg3 (fun g hg => .inl (HO2.out.lt g hg).1)) (fun x hx => by have := HQLT.out x hx; omega)
      have hs3 : w1.heap.size ≤ w3.heap.size := by have h1 := hg3.size; have h2 := HSZ2.out; simp at h1; omega
      have HQ3 := Lib.hid hq3
      have HB3 := Lib.hid hb3
      have HS3 := Lib.hid hs3
      have HO3 := Lib.hid hown3
      have HRL := Lib.hid (rest_length HQ.out.rising HT_.out)
      clear hq3 hb3 hs3 hown3 hg3
      go_wp2
      go_roundw
      case rel => exact ⟨o ++ [t], rest m t.1, HST.out, by simp, HQ3.out, by rw [show (o ++ [t]).length = o.length + 1 by simp]; exact HO3.out, HS3.out, HB3.out⟩
      case measure => (simp [intOf] <;> omega)
end Go.Proofs.Ytlccplpniidjfaa
