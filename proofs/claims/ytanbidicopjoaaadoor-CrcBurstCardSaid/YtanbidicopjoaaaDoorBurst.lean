/- CrcBurst: the walk. -/
import Derived.Test.YtanbidicopjoaaaDoorSums
import Derived.BigQuiet
import Derived.Deep.QuietTactic
namespace Go.Proofs.YtanbidicopjoaaaDoor
open Go.RowKit

theorem str_of_toList {a b : ByteArray} (h : a.toList = b.toList) : a = b := by
  rw [ByteArray.toList_eq, ByteArray.toList_eq] at h
  have := Array.toList_inj.1 h
  cases a; cases b; simp_all
theorem turned_lt (row k p : Nat) (hp : p < 8) : row / 2 ^ k % 2 * 2 ^ p < 256 := by
  have h1 : row / 2 ^ k % 2 < 2 := Nat.mod_lt _ (by decide)
  have h2 : 2 ^ p ≤ 2 ^ 7 := Nat.pow_le_pow_right (by decide) (by omega)
  have : row / 2 ^ k % 2 * 2 ^ p ≤ 1 * 2 ^ 7 := Nat.mul_le_mul (by omega) h2
  omega
theorem burst_val (row k p : Nat) (z : Int) (hz : 0 ≤ z ∧ z < 256) (hrow : row < 4294967296) (hp : p < 8) :
    bits .xor .u8 z (bits .and .u32 ((row : Int) / 2 ^ k) 1 % 256 * 2 ^ p % 256) = ((z.toNat ^^^ row / 2 ^ k % 2 * 2 ^ p : Nat) : Int) := by
  have hd : row / 2 ^ k < 4294967296 := Nat.lt_of_le_of_lt (Nat.div_le_self _ _) hrow
  have e0 : ((row : Int) / 2 ^ k) = ((row / 2 ^ k : Nat) : Int) := by
    rw [Int.natCast_ediv, Int.natCast_pow]; rfl
  have e1 : bits .and .u32 ((row / 2 ^ k : Nat) : Int) 1 = ((row / 2 ^ k % 2 : Nat) : Int) := by
    rw [show (1 : Int) = ((1 : Nat) : Int) from rfl, u32_and_nat _ 1 hd (by decide), nat_mask1]
  have hy := turned_lt row k p hp
  have h1 : row / 2 ^ k % 2 < 2 := Nat.mod_lt _ (by decide)
  have e2 : (((row / 2 ^ k % 2 : Nat) : Int) % 256 * 2 ^ p % 256) = ((row / 2 ^ k % 2 * 2 ^ p : Nat) : Int) := by
    have e3 : ((row / 2 ^ k % 2 : Nat) : Int) % 256 = ((row / 2 ^ k % 2 : Nat) : Int) := Int.emod_eq_of_lt (by omega) (by omega)
    have e4 : ((row / 2 ^ k % 2 * 2 ^ p : Nat) : Int) = ((row / 2 ^ k % 2 : Nat) : Int) * 2 ^ p := by rw [Int.natCast_mul, Int.natCast_pow]; rfl
    rw [e3, ← e4]
    exact Int.emod_eq_of_lt (by omega) (by omega)
  rw [e0, e1, e2, u8_xor z _ hz.1 hz.2 (by omega) (by omega), Int.toNat_natCast]
theorem burst_num (row k bit j p N : Nat) (h : 8 * j + p = bit + k) :
    (N ^^^ 2 ^ bit * (row % 2 ^ k)) ^^^ 2 ^ (8 * j) * (row / 2 ^ k % 2 * 2 ^ p) = N ^^^ 2 ^ bit * (row % 2 ^ (k + 1)) := by
  have e1 : 2 ^ (8 * j) * (row / 2 ^ k % 2 * 2 ^ p) = 2 ^ bit * (2 ^ k * (row / 2 ^ k % 2)) := by
    rw [Nat.mul_comm (row / 2 ^ k % 2), ← Nat.mul_assoc, ← Nat.pow_add, h, Nat.pow_add, Nat.mul_assoc]
  have e2 : row % 2 ^ (k + 1) = row % 2 ^ k ^^^ 2 ^ k * (row / 2 ^ k % 2) := by
    rw [Nat.xor_comm, ← mul_xor_low k _ _ (Nat.mod_lt _ (Nat.two_pow_pos k)), Nat.mod_pow_succ, Nat.add_comm]
  rw [e1, e2, mul_xor, Nat.xor_assoc]

set_option maxRecDepth 100000 in
set_option maxHeartbeats 2000000 in
theorem burst_in (w : World) (hw : 0 < w.heap.size) (hT : TabAt w) (A : Option Addr) (n c : Nat) (xs : List Int) (hx : IntsAt w .u8 (.slice A n c) xs) (hxb : Bytes xs) (hn : xs.length ≤ 140737488351232)
    (bit row : Nat) (hbit : bit < 8 * xs.length) (hrow : row < 4294967296) :
    Calls Tryd.prog 3 #[.slice A n c, .int .i64 bit, .int .u32 row] w fun e w' => e = .returned (.bool true) ∧ Below w.heap.size w w' := by
  have HX := Lib.hid hx
  obtain ⟨rfl, _⟩ := hx.reads
  have HXB := Lib.hid hxb
  clear hx hxb
  have h1 : Below w.heap.size w (w.alloc (.cells #[] 5)) := (Below.refl _ _).alloc (Nat.le_refl _) _
  have g0 : ((xs.length : Int) == 0) = false := by
    rw [beq_eq_false_iff_ne]; omega
  have g1 : decide ((bit : Int) < 0) = false := by simp
  have g2 : decide (8 * (xs.length : Int) ≤ (bit : Int)) = false := by simp; omega
  go_enter Tryd.func3, Tryd.ntmps3
  go_wp2_with (at_builtin; refine copy_law rfl _ _ rfl w.heap.size (.slice (some ⟨w.heap.size, 0, none⟩) 0 0) [] rfl (World.ownsRow_lit w #[] 0 (Nat.le_refl _) (by decide) rfl) A _ c xs rfl (HX.out.below h1) (by simp; omega) (by simp) ?_)
  intro v1 w1 hown hg
  have hb1 : Below w.heap.size w w1 := h1.grown hg (by simp) (fun k hk => by simp [Value.ownBlock] at hk; omega)
  clear hg h1
  obtain ⟨g, cap, rfl, hge⟩ : ∃ g cap, v1 = .slice (some ⟨g, 0, none⟩) xs.length cap ∧ w.heap.size ≤ g := by
    rcases hown.1.2 with ⟨_, h0⟩ | ⟨g, cap, _, hv, hg, _⟩
    · omega
    · exact ⟨g, cap, hv, hg⟩
  have HO := Lib.hid hown
  clear hown g0 g1 g2
  go_wp2
  go_loopw [8] (fun i wr => ∃ k : Nat, ∃ bs : List Int, k ≤ 32 ∧ i = .int .i64 k ∧ bs.length = xs.length ∧ Bytes bs ∧ OwnBytes wr w.heap.size (.slice (some ⟨g, 0, none⟩) xs.length cap) bs ∧
      numL bs = numL xs ^^^ 2 ^ bit * (row % 2 ^ k) ∧ Below w.heap.size w wr) (fun i _ => 32 - (intOf i).toNat)
  case atStart => exact ⟨0, xs, Nat.zero_le _, rfl, rfl, HXB.out, HO.out, by simp [Nat.mod_one], hb1⟩
  case round =>
    obtain ⟨k, bs, hk, rfl, hlen, hbs, hown, hnum, hbl⟩ := hrel
    have ho : wr.ownsRow w.heap.size 5 1 (.slice (some ⟨g, 0, none⟩) xs.length cap) xs.length (bs.map (Value.int .u8)) := by
      have := hown.1
      rw [hlen] at this
      exact this
    have HLEN := Lib.hid hlen
    have HNUM := Lib.hid hnum
    clear hlen hnum
    by_cases hgo : k < 32 ∧ bit + k < 8 * xs.length
    · obtain ⟨h32, hin⟩ := hgo
      have hj : (bit + k) / 8 < bs.length := by rw [HLEN.out]; omega
      have hbj := getD_byte hbs hj
      have hcell := ho.cellAt ((bit + k) / 8) (by omega)
      rw [List.getElem?_map, List.getElem?_eq_getElem hj, Option.map_some, ← getD_in _ 0 hj] at hcell
      have hfr := ho.frozenAt ((bit + k) / 8)
      go_wp2
      go_roundw
      case rel =>
        have hp : (bit + k) % 8 < 8 := Nat.mod_lt _ (by decide)
        have hz' : 0 ≤ bs[(bit + k) / 8] ∧ bs[(bit + k) / 8] < 256 := by rw [getD_in _ _ hj] at hbj; exact hbj
        have ev := burst_val row k ((bit + k) % 8) (bs[(bit + k) / 8]) hz' hrow hp
        have hst := ho.stored ((bit + k) / 8) (.int .u8 ((bs[(bit + k) / 8].toNat ^^^ row / 2 ^ k % 2 * 2 ^ ((bit + k) % 8) : Nat) : Int))
        refine ⟨k + 1, bs.set ((bit + k) / 8) ((bs[(bit + k) / 8].toNat ^^^ row / 2 ^ k % 2 * 2 ^ ((bit + k) % 8) : Nat) : Int), by omega, by go_num, by rw [List.length_set]; exact HLEN.out, ?_, ?_, ?_, ?_⟩
        · intro z hz
          rcases List.mem_or_eq_of_mem_set hz with h | h
          · exact hbs z h
          · have := Nat.xor_lt_two_pow (n := 8) (x := bs[(bit + k) / 8].toNat) (y := row / 2 ^ k % 2 * 2 ^ ((bit + k) % 8)) (by omega) (turned_lt row k _ hp)
            omega
        · rw [ev]
          refine ⟨?_, by rw [List.length_set, HLEN.out]; unfold maxLen; omega⟩
          rw [List.length_set, HLEN.out, List.map_set]
          exact hst.1
        · have hs := numL_set bs ((bit + k) / 8) (row / 2 ^ k % 2 * 2 ^ ((bit + k) % 8)) hj
          rw [getD_in _ _ hj] at hs
          rw [hs, HNUM.out]
          exact burst_num row k bit _ _ _ (by omega)
        · exact hbl.setCell (by exact hge) _
      case measure => simp [intOf]; omega
    · have hR : row % 2 ^ k < 4294967296 := Nat.lt_of_le_of_lt (Nat.mod_le _ _) hrow
      have hiff := crcMore_burst HXB.out hbs HLEN.out (by omega) hR HNUM.out
      have hT1 := hT.below hbl hw
      have i1 := HX.out.below hbl
      have i2 := hown.ints
      have c1 := fun m => sum_any _ (wr.drewN m) xs i1 HXB.out hT1
      have c2 := fun m => sum_any _ (wr.drewN m) bs i2 hbs hT1
      have c3 := fun m => awake_any (wr.drewN m) hT1
      have k1 := fun m => run_conv (w := wr.drewN m) i1
      have k2 := fun m => run_conv (w := wr.drewN m) i2
      have C1 := Lib.hid c1
      have C2 := Lib.hid c2
      have C3 := Lib.hid c3
      have K1 := Lib.hid k1
      have K2 := Lib.hid k2
      have K1' := Lib.hid (run_conv i1)
      have K2' := Lib.hid (run_conv i2)
      have hd : (decide ((k : Int) < 32) = false) ∨ (decide ((k : Int) < 32) = true ∧ decide ((bit : Int) + (k : Int) < 8 * (xs.length : Int)) = false) := by
        by_cases h : k < 32
        · right; constructor
          · simp; omega
          · simp; omega
        · left; simp; omega
      have HIFF := Lib.hid hiff
      have HBS := Lib.hid hbs
      clear c1 c2 c3 k1 k2 hiff hT1 hT i1 i2 hown ho hbs hgo hR
      rcases hd with hd | ⟨hd, hd'⟩
      all_goals
        go_wp2
        by_cases he : bs = xs
        · subst he
          have kk := K1.out
          have kk0 := K1'.out
          have kk2 := K2.out
          have kk3 := K2'.out
          go_quiet (first | (go_at_call 9; first | exact quiet_left (C1.out _) | exact quiet_left (C2.out _)) | (go_at_call 8; exact quiet_left (C3.out _)))
          go_wp2
          go_ret
          exact ⟨rfl, below_drewN hbl _⟩
        · have n1 : (((crcMore 0 xs : Nat) : Int) == ((crcMore 0 bs : Nat) : Int)) = false := by
            rw [beq_eq_false_iff_ne]
            intro h
            exact he ((HIFF.out.1 (by omega)).symm)
          have n2 : ((strOfNums xs).toList == (strOfNums bs).toList) = false := by
            rw [beq_eq_false_iff_ne]
            intro h
            exact he (strOfNums_inj HXB.out HBS.out (str_of_toList h)).symm
          have kk := K1.out
          have kk0 := K1'.out
          have kk2 := K2.out
          have kk3 := K2'.out
          clear he
          go_quiet (first | (go_at_call 9; first | exact quiet_left (C1.out _) | exact quiet_left (C2.out _)) | (go_at_call 8; exact quiet_left (C3.out _)))
          go_wp2
          go_ret
          exact ⟨rfl, below_drewN hbl _⟩

set_option maxRecDepth 100000 in
set_option maxHeartbeats 1000000 in
theorem burst_out (w : World) (hT : TabAt w) (A : Option Addr) (n c : Nat) (hn : n ≤ 140737488351232) (bit : Int) (row : Int) (hb : -9223372036854775808 ≤ bit ∧ bit < 9223372036854775808)
    (hout : n = 0 ∨ bit < 0 ∨ 8 * (n : Int) ≤ bit) :
    Calls Tryd.prog 3 #[.slice A n c, .int .i64 bit, .int .u32 row] w fun e w' => e = .returned (.bool true) ∧ Below w.heap.size w w' := by
  have C := Lib.hid (awake_any w hT)
  clear hT
  by_cases h0 : n = 0
  · subst h0
    go_enter Tryd.func3, Tryd.ntmps3
    go_wp2_with (go_at_call 8; refine C.out.mono ?_; rintro e w' ⟨rfl, rfl⟩)
    go_ret
    exact ⟨rfl, Below.refl _ _⟩
  · have g0 : ((n : Int) == 0) = false := by rw [beq_eq_false_iff_ne]; omega
    by_cases h1 : bit < 0
    · have g1 : decide (bit < 0) = true := by simpa using h1
      clear h0 h1 hout
      go_enter Tryd.func3, Tryd.ntmps3
      go_wp2_with (go_at_call 8; refine C.out.mono ?_; rintro e w' ⟨rfl, rfl⟩)
      go_ret
      exact ⟨rfl, Below.refl _ _⟩
    · have g1 : decide (bit < 0) = false := by simpa using h1
      have g2 : decide (8 * (n : Int) ≤ bit) = true := by simp; omega
      clear h0 h1 hout
      go_enter Tryd.func3, Tryd.ntmps3
      go_wp2_with (go_at_call 8; refine C.out.mono ?_; rintro e w' ⟨rfl, rfl⟩)
      go_ret
      exact ⟨rfl, Below.refl _ _⟩

theorem burst_walk (w : World) (hw : 0 < w.heap.size) (hT : TabAt w) (A : Option Addr) (n c : Nat) (xs : List Int) (hx : IntsAt w .u8 (.slice A n c) xs) (hxb : Bytes xs) (hn : xs.length ≤ 140737488351232)
    (bit row : Int) (hb : -9223372036854775808 ≤ bit ∧ bit < 9223372036854775808) (hr : 0 ≤ row ∧ row < 4294967296) :
    Calls Tryd.prog 3 #[.slice A n c, .int .i64 bit, .int .u32 row] w fun e w' => e = .returned (.bool true) ∧ Below w.heap.size w w' := by
  have hl := hx.reads.1
  by_cases hin : 0 ≤ bit ∧ bit < 8 * (n : Int)
  · obtain ⟨b, rfl⟩ : ∃ b : Nat, bit = b := ⟨bit.toNat, by omega⟩
    obtain ⟨r, rfl⟩ : ∃ r : Nat, row = r := ⟨row.toNat, by omega⟩
    exact burst_in w hw hT A n c xs hx hxb hn b r (by omega) (by omega)
  · exact burst_out w hT A n c (by omega) bit row hb (by omega)
end Go.Proofs.YtanbidicopjoaaaDoor
