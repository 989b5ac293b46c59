/- CrcThree: the walk. -/
import Derived.Test.YtanbidicopjoaaaDoorSums
import Derived.RegionTactic
import Derived.BigQuiet
import Derived.Deep.AppendLies
import Derived.Deep.RegionLaw
import Derived.Deep.RegionHeld3
namespace Go.Proofs.YtanbidicopjoaaaDoor
open Go.RowKit

theorem u8x {a b : Int} (ha : 0 ≤ a ∧ a < 256) (hb : 0 ≤ b ∧ b < 256) : bits .xor .u8 a b = ((a.toNat ^^^ b.toNat : Nat) : Int) := u8_xor a b ha.1 ha.2 hb.1 hb.2

theorem xor3_take (a b c : List Int) (k : Nat) (ha : k < a.length) (hb : k < b.length) (hc : k < c.length) :
    xor3 (a.take (k + 1)) (b.take (k + 1)) (c.take (k + 1)) = xor3 (a.take k) (b.take k) (c.take k) ++ [((((a.getD k 0).toNat ^^^ (b.getD k 0).toNat) ^^^ (c.getD k 0).toNat : Nat) : Int)] := by
  induction k generalizing a b c with
  | zero =>
    match a, b, c, ha, hb, hc with
    | x :: a, y :: b, z :: c, _, _, _ => simp [xor3]
  | succ k ih =>
    match a, b, c, ha, hb, hc with
    | x :: a, y :: b, z :: c, ha, hb, hc =>
      simp only [List.length_cons, Nat.add_lt_add_iff_right] at ha hb hc
      have := ih a b c ha hb hc
      simp only [List.take_succ_cons, xor3, List.getD_cons_succ, List.cons_append] at this ⊢
      rw [this]

theorem push_byte {w' : World} {base : Nat} {v : Value} {xs : List Int} {y : Int} {n : Nat} (h : w'.ownsRow base 5 1 v n (xs.map (Value.int .u8) ++ [.int .u8 y])) (hn : n = xs.length + 1) (hl : n ≤ 140737488355328) : OwnBytes w' base v (xs ++ [y]) := by
  subst hn
  refine ⟨?_, ?_⟩
  · rw [List.length_append, List.map_append]; exact h
  · rw [List.length_append]; unfold maxLen; simp; omega
theorem OwnBytes.drew {w : World} {base : Nat} {v : Value} {zs : List Int} (h : OwnBytes w base v zs) : OwnBytes w.drew base v zs := h
theorem push_step {ops : Array Oper} {o : Oper} {a : Act} {K : Act → World → Prop} {Q : Exit → Act → World → Prop} {E : Prop} {W : World} {base : Nat} {v : Value} {xs : List Int} (hown : OwnBytes W base v xs) (hgd : o.guard = none) (s x : Operand)
    (ho : o.op = .call { callee := .builtin .append, args := #[s, x], argTypes := #[22, 22] }) (hs : a.eval s = v) (y : Int)
    (hx : a.eval x = .slice (some ⟨W.heap.size, 0, none⟩) 1 1) (hlen : xs.length + 1 ≤ 140737488355328) (hbase : base ≤ W.heap.size)
    (h : ∀ v' w', OwnBytes w' base v' (xs ++ [y]) → (W.alloc (.cells #[.int .u8 y] 5)).grownBy w' v.ownBlock → K (a.put o.dst v') w') :
    if Region.wanted o (yielded ops a.tmps) = true then Oper.wp Tryd.prog o a (W.alloc (.cells #[.int .u8 y] 5)) K Q else E := by
  obtain ⟨i0, hi, hz0, hz1, hz2⟩ := info_parts info5
  refine step_append_any _ hgd s x 22 ho base 5 i0 (.int .u8 0) 1 1 Tryd.underlying22 hi hz0 hz1 hz2 rfl (by decide) v xs.length _ hs (hown.1.alloc _) (W.heap.size + 1) _ 1 1 [.int .u8 y] hx ⟨rfl, fun _ => ⟨_, rfl, Nat.lt_succ_self _, fun j u hu => ?_⟩⟩
    (fun u hu => by simp at hu; subst hu; rfl) (by unfold maxLen; omega) (by omega) (by simp; omega) (fun v' w' h1 h2 _ => h v' w' (push_byte h1 rfl hlen) h2)
  match j, hu with
  | 0, hu => simp at hu; subst hu; simp [Addr.add]

theorem xor3_bytes : ∀ (a b c : List Int), Bytes a → Bytes b → Bytes c → Bytes (xor3 a b c)
  | x :: a, y :: b, z :: c, ha, hb, hc => by
    intro u hu
    simp only [xor3, List.mem_cons] at hu
    rcases hu with rfl | hu
    · have h1 := ha x List.mem_cons_self
      have h2 := hb y List.mem_cons_self
      have h3 := hc z List.mem_cons_self
      have := Nat.xor_lt_two_pow (n := 8) (x := x.toNat) (y := y.toNat) (by omega) (by omega)
      have := Nat.xor_lt_two_pow (n := 8) (x := x.toNat ^^^ y.toNat) (y := z.toNat) this (by omega)
      omega
    · exact xor3_bytes a b c (fun z hz => ha z (List.mem_cons_of_mem _ hz)) (fun z hz => hb z (List.mem_cons_of_mem _ hz)) (fun z hz => hc z (List.mem_cons_of_mem _ hz)) u hu
  | [], _, _, _, _, _ => by intro u hu; simp [xor3] at hu
  | _ :: _, [], _, _, _, _ => by intro u hu; simp [xor3] at hu
  | _ :: _, _ :: _, [], _, _, _ => by intro u hu; simp [xor3] at hu
theorem IntsAt.at_ {w : World} {k : IntKind} {ao : Option Addr} {n cap : Nat} {zs : List Int} (h : IntsAt w k (.slice ao n cap) zs) {j : Nat} (hj : j < zs.length) :
    ∃ a, ao = some a ∧ w.cell? (a.add j) = some (.int k (zs.getD j 0)) := by
  obtain ⟨ao', cap', he, hn, h0, hc⟩ := h
  injection he with h1 h2 h3
  subst h1
  cases ao with
  | none => have := h0 rfl; omega
  | some a => exact ⟨a, rfl, hc a rfl j hj⟩

set_option maxRecDepth 100000 in
set_option maxHeartbeats 1000000 in
theorem three_walk (w : World) (hw : 0 < w.heap.size) (hT : TabAt w) (A B C : Option Addr) (na ca nb cb nc cc : Nat) (xs ys zs : List Int)
    (hx : IntsAt w .u8 (.slice A na ca) xs) (hy : IntsAt w .u8 (.slice B nb cb) ys) (hz : IntsAt w .u8 (.slice C nc cc) zs)
    (hxb : Bytes xs) (hyb : Bytes ys) (hzb : Bytes zs) (hxn : xs.length ≤ 140737488351232) (hxc : xs.length ≤ ca) (hyc : ys.length ≤ cb) (hzc : zs.length ≤ cc) (hcm : ca ≤ maxLen ∧ cb ≤ maxLen ∧ cc ≤ maxLen) :
    Calls Tryd.prog 4 #[.slice A na ca, .slice B nb cb, .slice C nc cc] w fun e w' => e = .returned (.bool true) ∧ Below w.heap.size w w' := by
  obtain ⟨i0, hi, hz0, hz1, hz2⟩ := info_parts info5
  obtain ⟨rfl, hrx⟩ := hx.reads
  obtain ⟨rfl, hry⟩ := hy.reads
  obtain ⟨rfl, hrz⟩ := hz.reads
  obtain ⟨n, h1, h2, h3, hmn⟩ : ∃ n : Nat, n ≤ xs.length ∧ n ≤ ys.length ∧ n ≤ zs.length ∧
      ∀ W, (Builtin.min_ #[3, 3, 3] 3 #[.int .i64 xs.length, .int .i64 ys.length, .int .i64 zs.length]).run Tryd.prog W = .ok (.int .i64 (n : Int)) W := by
    refine ⟨min (min xs.length ys.length) zs.length, by omega, by omega, by omega, fun W => ?_⟩
    simp [Builtin.min_, Builtin.min2]
    omega
  go_enter Tryd.func4, Tryd.ntmps4
  go_wp2
  clear hmn
  go_loopw [8, 9] (fun v i wr => ∃ k : Nat, k ≤ n ∧ i = .int .i64 k ∧ OwnBytes wr w.heap.size v (xor3 (xs.take k) (ys.take k) (zs.take k)) ∧ Below w.heap.size w wr) (fun _ i _ => n - (intOf i).toNat)
  case atStart => exact ⟨0, Nat.zero_le _, rfl, ⟨World.ownsRow_nil _ _ _ _, Nat.zero_le _⟩, Below.refl _ _⟩
  case round =>
    obtain ⟨k, hk, rfl, ⟨hown, hm⟩, hbl⟩ := hrel
    have hsz := hbl.size
    by_cases hlt : k < n
    · obtain ⟨a, rfl, ca⟩ := (hx.below hbl).at_ (show k < xs.length by omega)
      obtain ⟨b, rfl, cb⟩ := (hy.below hbl).at_ (show k < ys.length by omega)
      obtain ⟨c, rfl, cc⟩ := (hz.below hbl).at_ (show k < zs.length by omega)
      have bx := getD_byte hxb (show k < xs.length by omega)
      have by' := getD_byte hyb (show k < ys.length by omega)
      have bz := getD_byte hzb (show k < zs.length by omega)
      have HS := Lib.hid (xor3_take xs ys zs k (by omega) (by omega) (by omega))
      have HL := Lib.hid (xor3_length (xs.take k) (ys.take k) (zs.take k) (by simp; omega) (by simp; omega))
      generalize xs.getD k 0 = x at ca bx HS
      generalize ys.getD k 0 = y at cb by' HS
      generalize zs.getD k 0 = z at cc bz HS
      have e1 := u8x bx by'
      have e2 := u8x (a := ((x.toNat ^^^ y.toNat : Nat) : Int)) (b := z) ⟨by omega, by have := Nat.xor_lt_two_pow (n := 8) (x := x.toNat) (y := y.toNat) (by omega) (by omega); omega⟩ bz
      simp only [Int.toNat_natCast] at e2
      have l1 : (k : Int) < (xs.length : Int) := by omega
      have l2 : (k : Int) < (ys.length : Int) := by omega
      have l3 : (k : Int) < (zs.length : Int) := by omega
      have hO := OwnBytes.drew ⟨hown, hm⟩
      clear hx hy hz hrx hry hrz
      go_wp2
      go_region_law (refine push_step hO rfl _ _ rfl rfl _ rfl (by rw [HL.out]; simp; omega) hsz (fun v' w1 hown' hg => ?_))
      all_goals
        go_wp2
        go_roundw
        case rel =>
          refine ⟨k + 1, by omega, by go_num, ?_, (hbl.drew.alloc hsz _).grown hg (Nat.le_trans hsz (by simp)) (fun g hg' => (hown.lt g hg').1)⟩
          rw [HS.out]; exact hown'
        case measure => simp [intOf]; omega
    · obtain rfl : k = n := by omega
      have hX : OwnBytes wr w.heap.size _ (xor3 (xs.take k) (ys.take k) (zs.take k)) := ⟨hown, hm⟩
      have l1 : (xs.take k).length = k := by simp; omega
      have l2 : (ys.take k).length = k := by simp; omega
      have l3 : (zs.take k).length = k := by simp; omega
      have hT1 := hT.below hbl hw
      have tk : ∀ {B : Option Addr} {c : Nat} {us : List Int} , IntsAt w .u8 (.slice B us.length c) us → k ≤ us.length → us.length ≤ c → ∀ m, IntsAt (wr.drewN m) .u8 (.slice B k c) (us.take k) := by
        intro B c us h hk hc m
        obtain ⟨ao', cap', he, hn, h0, hcell⟩ := h.below hbl
        injection he with e1 e2 e3
        subst e1 e3
        have hl : (us.take k).length = k := by simp; omega
        refine ⟨B, c, by rw [hl], by rw [hl]; omega, fun hB => by have := h0 hB; omega, fun a ha j hj => ?_⟩
        rw [hl] at hj
        have := hcell a ha j (by omega)
        rw [show (us.take k).getD j 0 = us.getD j 0 by simp [List.getD, hj]]
        exact this
      have bX : Bytes (xor3 (xs.take k) (ys.take k) (zs.take k)) := xor3_bytes _ _ _ (fun z hz => hxb z (List.mem_of_mem_take hz)) (fun z hz => hyb z (List.mem_of_mem_take hz)) (fun z hz => hzb z (List.mem_of_mem_take hz))
      have c0 := fun m => sum_any _ (wr.drewN m) _ hX.ints bX hT1
      have c1 := fun m => sum_any _ (wr.drewN m) _ (tk hx h1 hxc m) (fun z hz => hxb z (List.mem_of_mem_take hz)) hT1
      have c2 := fun m => sum_any _ (wr.drewN m) _ (tk hy h2 hyc m) (fun z hz => hyb z (List.mem_of_mem_take hz)) hT1
      have c3 := fun m => sum_any _ (wr.drewN m) _ (tk hz h3 hzc m) (fun z hz => hzb z (List.mem_of_mem_take hz)) hT1
      have c4 := fun m => awake_any (wr.drewN m) hT1
      have p1 : crcMore 0 (xs.take k) < 4294967296 := crcMore_lt (by decide) (fun z hz => hxb z (List.mem_of_mem_take hz))
      have p2 : crcMore 0 (ys.take k) < 4294967296 := crcMore_lt (by decide) (fun z hz => hyb z (List.mem_of_mem_take hz))
      have p3 : crcMore 0 (zs.take k) < 4294967296 := crcMore_lt (by decide) (fun z hz => hzb z (List.mem_of_mem_take hz))
      rw [crcMore_three _ _ _ (by rw [l1, l2]) (by rw [l2, l3])] at c0
      generalize crcMore 0 (xs.take k) = p at c0 c1 p1
      generalize crcMore 0 (ys.take k) = q at c0 c2 p2
      generalize crcMore 0 (zs.take k) = r at c0 c3 p3
      have e1 := bits_xor p q p1 p2
      have e2 := bits_xor (p ^^^ q) r (xor_lt32 p1 p2) p3
      have C0 := Lib.hid c0
      have C1 := Lib.hid c1
      have C2 := Lib.hid c2
      have C3 := Lib.hid c3
      have C4 := Lib.hid c4
      have g1 : (k : Int) ≤ (ca : Int) := by omega
      have g2 : (k : Int) ≤ (cb : Int) := by omega
      have g3 : (k : Int) ≤ (cc : Int) := by omega
      obtain ⟨hcm1, hcm2, hcm3⟩ := hcm
      unfold maxLen at hcm1 hcm2 hcm3
      clear c0 c1 c2 c3 c4 tk hT1 hT hx hy hz hrx hry hrz p1 p2 p3 l1 l2 l3 hX hown bX
      go_wp2
      go_quiet (first | (go_at_call 9; first | exact quiet_left (C0.out _) | exact quiet_left (C1.out _) | exact quiet_left (C2.out _) | exact quiet_left (C3.out _)) | (go_at_call 8; exact quiet_left (C4.out _)))
      go_wp2
      go_ret
      exact ⟨rfl, below_drewN hbl _⟩
end Go.Proofs.YtanbidicopjoaaaDoor
