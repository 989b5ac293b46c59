/- The contracts of the functions that the sums' laws call: what each returns, and that it leaves the world as it was. -/
import Derived.Test.YtanbidicopjoaaaDoorMath
import Derived.Test.YtanbidicopjoaaaDoorKit
namespace Go.Proofs.YtanbidicopjoaaaDoor
open Go.RowKit

/-- A slice value that reads as these numbers. -/
def IntsAt (w : World) (k : IntKind) (v : Value) (zs : List Int) : Prop :=
  ∃ ao cap, v = .slice ao zs.length cap ∧ zs.length ≤ maxLen ∧ (ao = none → zs.length = 0) ∧
    (∀ a, ao = some a → ∀ i, i < zs.length → w.cell? (a.add i) = some (.int k (zs.getD i 0)))
/-- Bytes. -/
def Bytes (zs : List Int) : Prop := ∀ z ∈ zs, 0 ≤ z ∧ z < 256
/-- The table is there. -/
def TabAt (w : World) : Prop := ∀ k, k < 16 → w.cell? ⟨0, k, none⟩ = some (.int .u32 (half k))

theorem getD_byte {zs : List Int} (h : Bytes zs) {k : Nat} (hk : k < zs.length) : 0 ≤ zs.getD k 0 ∧ zs.getD k 0 < 256 := by
  rw [getD_in _ _ hk]; exact h _ (List.getElem_mem hk)
theorem bits_xor (a b : Nat) (ha : a < 4294967296) (hb : b < 4294967296) : bits .xor .u32 (a : Int) (b : Int) = ((a ^^^ b : Nat) : Int) := u32_xor_nat a b ha hb
theorem bits_low (a : Nat) (ha : a < 4294967296) : bits .and .u32 (a : Int) 15 = ((a % 16 : Nat) : Int) := by
  rw [show (15 : Int) = ((15 : Nat) : Int) from rfl, u32_and_nat a 15 ha (by decide), nat_mask4]
theorem bits_not (a : Nat) (ha : a < 4294967296) : bits .xor .u32 (IntKind.u32.max) (a : Int) = ((4294967295 ^^^ a : Nat) : Int) := by
  have : IntKind.u32.max = ((4294967295 : Nat) : Int) := by decide
  rw [this]; exact u32_xor_nat _ _ (by decide) ha

set_option maxHeartbeats 1000000 in
theorem over_some (s : Nat) (hs : s < 4294967296) (b : Addr) (cap : Nat) (w : World) (zs : List Int) (hn : zs.length ≤ maxLen) 
   (hb : Bytes zs) (hc : ∀ i, i < zs.length → w.cell? (b.add i) = some (.int .u8 (zs.getD i 0))) (hT : TabAt w) :
    Calls Tryd.prog 15 #[.int .u32 s, .slice (some b) zs.length cap] w fun e w' => e = .returned (.int .u32 (crcMore s zs)) ∧ w = w' := by
  unfold maxLen at hn
  have h0 := bits_not s hs
  have hs' : 4294967295 ^^^ s < 4294967296 := xor_lt32 (by decide) hs
  obtain ⟨n, hnl⟩ : ∃ n, n = zs.length := ⟨_, rfl⟩
  rw [← hnl]
  have HN : Hid (n = zs.length) := hnl
  have hn' : n ≤ 9223372036854775807 := by omega
  clear hnl hn
  go_enter Tryd.func15, Tryd.ntmps15
  go_wp2
  clear h0
  go_loop [5, 6] (fun s' i => ∃ k : Nat, k ≤ n ∧ i = .int .i64 k ∧ s' = .int .u32 (crcRun (4294967295 ^^^ s) (zs.take k))) (fun _ i => n - (intOf i).toNat)
  case atStart => exact ⟨0, Nat.zero_le _, rfl, rfl⟩
  case round =>
    obtain ⟨k, hk, rfl, rfl⟩ := hrel
    have hx : crcRun (4294967295 ^^^ s) (zs.take k) < 4294967296 := crcRun_lt (fun z hz => hb z (List.mem_of_mem_take hz)) hs'
    by_cases hlt : k < n
    · have hlt' : k < zs.length := by rw [← HN.out]; exact hlt
      have hcell := hc k hlt'
      have hz := getD_byte hb hlt'
      have HS : Hid (crcRun (4294967295 ^^^ s) (zs.take (k + 1)) = byteStep (crcRun (4294967295 ^^^ s) (zs.take k)) (zs.getD k 0)) := crcRun_take _ _ _ hlt'
      obtain ⟨z, hzz⟩ : ∃ z, z = zs.getD k 0 := ⟨_, rfl⟩
      rw [← hzz] at hcell hz HS
      obtain ⟨b', rfl⟩ : ∃ b' : Nat, z = b' := ⟨z.toNat, by omega⟩
      clear hzz
      obtain ⟨x, hxx⟩ : ∃ x, x = crcRun (4294967295 ^^^ s) (zs.take k) := ⟨_, rfl⟩
      rw [← hxx] at hx HS
      rw [← hxx]
      clear hxx
      have e1 := bits_xor x b' hx (by omega)
      have hy : x ^^^ b' < 4294967296 := xor_lt32 hx (by omega)
      obtain ⟨y, hyy⟩ : ∃ y, y = x ^^^ b' := ⟨_, rfl⟩
      rw [← hyy] at e1 hy
      have HY : Hid (y = x ^^^ b') := hyy
      clear hyy
      have e2 := bits_low y hy
      have e3 : bits .xor .u32 ((y : Int) / 16) ((half (y % 16) : Nat) : Int) = ((nib y : Nat) : Int) := bits_xor (y / 16) _ (by omega) (half_lt _)
      have t1 := hT (y % 16) (by omega)
      have hq : nib y < 4294967296 := nib_lt hy
      obtain ⟨q, hqq⟩ : ∃ q, q = nib y := ⟨_, rfl⟩
      rw [← hqq] at e3 hq
      have HQ : Hid (q = nib y) := hqq
      clear hqq
      have e4 := bits_low q hq
      have e5 : bits .xor .u32 ((q : Int) / 16) ((half (q % 16) : Nat) : Int) = ((nib q : Nat) : Int) := bits_xor (q / 16) _ (by omega) (half_lt _)
      have t2 := hT (q % 16) (by omega)
      have hzn : (b' : Int) < 256 := hz.2
      clear hc hb hT hz hlt' hk
      go_wp2
      go_round
      case rel =>
        refine ⟨k + 1, by omega, by go_num, ?_⟩
        rw [HS.out]
        unfold byteStep
        rw [HQ.out, HY.out]
        simp
      case measure => simp [intOf]; omega
    · have hkn : k = n := by omega
      have h1 := bits_not _ hx
      have HE : Hid (zs.take k = zs) := by rw [hkn, HN.out]; exact List.take_length
      clear hc hb hT hk hkn
      go_wp2
      go_ret
      refine ⟨?_, rfl⟩
      rw [HE.out]
      rfl


theorem ret_int {k : IntKind} {a b : Int} (h : a = b) : Ending.returned (.int k a) = .returned (.int k b) := by rw [h]
def numsOf (s : ByteArray) : List Int := s.data.toList.map fun b => (b.toNat : Int)
theorem numsOf_length (s : ByteArray) : (numsOf s).length = s.size := by unfold numsOf; rw [List.length_map, Array.length_toList]; rfl
theorem numsOf_bytes (s : ByteArray) : Bytes (numsOf s) := by
  intro z hz
  simp only [numsOf, List.mem_map] at hz
  obtain ⟨b, _, rfl⟩ := hz
  have := b.toNat_lt
  omega
theorem numsOf_getD (s : ByteArray) (k : Nat) (h : k < s.size) : (numsOf s).getD k 0 = ((s[k].toNat : Nat) : Int) := by
  rw [getD_in _ _ (by rw [numsOf_length]; exact h)]
  simp [numsOf]
  rfl

set_option maxHeartbeats 1000000 in
theorem overs_any (s : Nat) (hs : s < 4294967296) (t : ByteArray) (w : World) (hn : t.size ≤ maxLen) (hT : TabAt w) :
    Calls Tryd.prog 16 #[.int .u32 s, .string t] w fun e w' => e = .returned (.int .u32 (crcMore s (numsOf t))) ∧ w = w' := by
  unfold maxLen at hn
  have h0 := bits_not s hs
  have hs' : 4294967295 ^^^ s < 4294967296 := xor_lt32 (by decide) hs
  have hl := numsOf_length t
  have HL : Hid ((numsOf t).length = t.size) := hl
  have hb := numsOf_bytes t
  clear hl
  go_enter Tryd.func16, Tryd.ntmps16
  go_wp2
  clear h0
  go_loop [5, 6] (fun s' i => ∃ k : Nat, k ≤ t.size ∧ i = .int .i64 k ∧ s' = .int .u32 (crcRun (4294967295 ^^^ s) ((numsOf t).take k))) (fun _ i => t.size - (intOf i).toNat)
  case atStart => exact ⟨0, Nat.zero_le _, rfl, rfl⟩
  case round =>
    obtain ⟨k, hk, rfl, rfl⟩ := hrel
    have hx : crcRun (4294967295 ^^^ s) ((numsOf t).take k) < 4294967296 := crcRun_lt (fun z hz => hb z (List.mem_of_mem_take hz)) hs'
    by_cases hlt : k < t.size
    · have hlt' : k < (numsOf t).length := by rw [HL.out]; exact hlt
      have HS : Hid (crcRun (4294967295 ^^^ s) ((numsOf t).take (k + 1)) = byteStep (crcRun (4294967295 ^^^ s) ((numsOf t).take k)) ((t[k].toNat : Nat) : Int)) := by
        have := crcRun_take (4294967295 ^^^ s) _ _ hlt'
        rw [numsOf_getD t k hlt] at this
        exact this
      have hz := t[k].toNat_lt
      obtain ⟨x, hxx⟩ : ∃ x, x = crcRun (4294967295 ^^^ s) ((numsOf t).take k) := ⟨_, rfl⟩
      rw [← hxx] at hx HS
      rw [← hxx]
      clear hxx
      have e1 := bits_xor x t[k].toNat hx (by omega)
      have hy : x ^^^ t[k].toNat < 4294967296 := xor_lt32 hx (by omega)
      obtain ⟨y, hyy⟩ : ∃ y, y = x ^^^ t[k].toNat := ⟨_, rfl⟩
      rw [← hyy] at e1 hy
      have HY : Hid (y = x ^^^ t[k].toNat) := hyy
      clear hyy
      have e2 := bits_low y hy
      have e3 : bits .xor .u32 ((y : Int) / 16) ((half (y % 16) : Nat) : Int) = ((nib y : Nat) : Int) := bits_xor (y / 16) _ (by omega) (half_lt _)
      have t1 := hT (y % 16) (by omega)
      have hq : nib y < 4294967296 := nib_lt hy
      obtain ⟨q, hqq⟩ : ∃ q, q = nib y := ⟨_, rfl⟩
      rw [← hqq] at e3 hq
      have HQ : Hid (q = nib y) := hqq
      clear hqq
      have e4 := bits_low q hq
      have e5 : bits .xor .u32 ((q : Int) / 16) ((half (q % 16) : Nat) : Int) = ((nib q : Nat) : Int) := bits_xor (q / 16) _ (by omega) (half_lt _)
      have t2 := hT (q % 16) (by omega)
      clear hb hT hlt' hk
      go_wp2
      go_round
      case rel =>
        refine ⟨k + 1, by omega, by go_num, ?_⟩
        rw [HS.out]
        unfold byteStep
        rw [HQ.out, HY.out]
        simp
      case measure => simp [intOf]; omega
    · have hkn : k = t.size := by omega
      have h1 := bits_not _ hx
      have HE : Hid ((numsOf t).take k = numsOf t) := by rw [hkn, ← HL.out]; exact List.take_length
      clear hb hT hk hkn
      go_wp2
      go_ret
      refine ⟨?_, rfl⟩
      rw [HE.out]
      rfl

/-- What 'over' asks of a slice of bytes. -/
theorem over_any (s : Nat) (hs : s < 4294967296) (v : Value) (w : World) (zs : List Int) (hv : IntsAt w .u8 v zs) (hb : Bytes zs) (hT : TabAt w) :
    Calls Tryd.prog 15 #[.int .u32 s, v] w fun e w' => e = .returned (.int .u32 (crcMore s zs)) ∧ w = w' := by
  obtain ⟨ao, cap, rfl, hn, h0, hc⟩ := hv
  cases ao with
  | some b => exact over_some s hs b cap w zs hn hb (hc b rfl) hT
  | none =>
    obtain rfl : zs = [] := List.eq_nil_of_length_eq_zero (h0 rfl)
    have h0 := bits_not s hs
    have hs' : 4294967295 ^^^ s < 4294967296 := xor_lt32 (by decide) hs
    have h1 := bits_not _ hs'
    show Calls Tryd.prog 15 #[.int .u32 s, .slice none 0 cap] w _
    clear hc hb hT
    go_enter Tryd.func15, Tryd.ntmps15
    go_wp2
    refine wp_loop_rounds 1 ?_
    rw [rounds_succ]
    go_wp2
    go_ret
    exact ⟨rfl, rfl⟩

theorem sum_any (v : Value) (w : World) (zs : List Int) (hv : IntsAt w .u8 v zs) (hb : Bytes zs) (hT : TabAt w) :
    Calls Tryd.prog 9 #[v] w fun e w' => e = .returned (.int .u32 (crcMore 0 zs)) ∧ w = w' := by
  have HC := Lib.hid (over_any 0 (by decide) v w zs hv hb hT)
  clear hv hb hT
  go_enter Tryd.func9, Tryd.ntmps9
  go_wp2_with (go_at_call 15; refine HC.out.mono ?_; rintro e w' ⟨rfl, rfl⟩)
  go_ret
  exact ⟨rfl, rfl⟩

theorem more_any (s : Nat) (hs : s < 4294967296) (v : Value) (w : World) (zs : List Int) (hv : IntsAt w .u8 v zs) (hb : Bytes zs) (hT : TabAt w) :
    Calls Tryd.prog 11 #[.int .u32 s, v] w fun e w' => e = .returned (.int .u32 (crcMore s zs)) ∧ w = w' := by
  have HC := Lib.hid (over_any s hs v w zs hv hb hT)
  clear hv hb hT
  go_enter Tryd.func11, Tryd.ntmps11
  go_wp2_with (go_at_call 15; refine HC.out.mono ?_; rintro e w' ⟨rfl, rfl⟩)
  go_ret
  exact ⟨rfl, rfl⟩

theorem text_any (t : ByteArray) (w : World) (hn : t.size ≤ maxLen) (hT : TabAt w) :
    Calls Tryd.prog 13 #[.string t] w fun e w' => e = .returned (.int .u32 (crcMore 0 (numsOf t))) ∧ w = w' := by
  have HC := Lib.hid (overs_any 0 (by decide) t w hn hT)
  clear hn hT
  go_enter Tryd.func13, Tryd.ntmps13
  go_wp2_with (go_at_call 16; refine HC.out.mono ?_; rintro e w' ⟨rfl, rfl⟩)
  go_ret
  exact ⟨rfl, rfl⟩
theorem ints_nil (w : World) : IntsAt w .u8 (.slice none 0 0) [] := ⟨none, 0, rfl, Nat.zero_le _, fun _ => rfl, fun a h => by cases h⟩
theorem awake_any (w : World) (hT : TabAt w) :
    Calls Tryd.prog 8 #[] w fun e w' => e = .returned (.bool true) ∧ w = w' := by
  have h1 : crcMore 0 (numsOf ⟨#[49, 50, 51, 52, 53, 54, 55, 56, 57]⟩) = 3808858755 := by decide +kernel
  have hc := text_any ⟨#[49, 50, 51, 52, 53, 54, 55, 56, 57]⟩ w (by decide) hT
  rw [h1] at hc
  have HC := Lib.hid hc
  have hd := sum_any _ w [] (ints_nil w) (fun z h => by cases h) hT
  rw [show crcMore 0 [] = 0 from by decide] at hd
  have HD := Lib.hid hd
  clear hT h1 hc hd
  go_enter Tryd.func8, Tryd.ntmps8
  go_wp2_with (first | (go_at_call 13; refine HC.out.mono ?_; rintro e w' ⟨rfl, rfl⟩) | (go_at_call 9; refine HD.out.mono ?_; rintro e w' ⟨rfl, rfl⟩))
  go_ret
  exact ⟨rfl, rfl⟩

theorem bit_odd' {v : Nat} (hv : v < 4294967296) (h : v % 2 = 1) : bits .xor .u32 ((v : Int) / 2) 2197175160 = ((bitStep v : Nat) : Int) := by
  rw [bit_odd h]; exact bits_xor (v / 2) 2197175160 (by omega) (by decide)

set_option maxRecDepth 100000 in
set_option maxHeartbeats 1000000 in
theorem ref_some (s : Nat) (hs : s < 4294967296) (b : Addr) (cap : Nat) (w : World) (zs : List Int) (hn : zs.length ≤ maxLen)
   (hb : Bytes zs) (hc : ∀ i, i < zs.length → w.cell? (b.add i) = some (.int .u8 (zs.getD i 0))) :
    Calls Tryd.prog 12 #[.int .u32 s, .slice (some b) zs.length cap] w fun e w' => e = .returned (.int .u32 ((4294967295 - refRun (4294967295 - s) zs : Nat) : Int)) ∧ w = w' := by
  unfold maxLen at hn
  have hs' : 4294967295 - s < 4294967296 := by omega
  obtain ⟨n, hnl⟩ : ∃ n, n = zs.length := ⟨_, rfl⟩
  rw [← hnl]
  have HN : Hid (n = zs.length) := hnl
  have hn' : n ≤ 9223372036854775807 := by omega
  clear hnl hn
  go_enter Tryd.func12, Tryd.ntmps12
  go_wp2
  go_loop [5, 6] (fun s' i => ∃ k : Nat, k ≤ n ∧ i = .int .i64 k ∧ s' = .int .u32 (refRun (4294967295 - s) (zs.take k))) (fun _ i => n - (intOf i).toNat)
  case atStart => exact ⟨0, Nat.zero_le _, rfl, by simp [refRun]; omega⟩
  case round =>
    obtain ⟨k, hk, rfl, rfl⟩ := hrel
    have hx : refRun (4294967295 - s) (zs.take k) < 4294967296 := refRun_lt (fun z hz => hb z (List.mem_of_mem_take hz)) hs'
    by_cases hlt : k < n
    · have hlt' : k < zs.length := by rw [← HN.out]; exact hlt
      have hcell := hc k hlt'
      have hz := getD_byte hb hlt'
      have HS : Hid (refRun (4294967295 - s) (zs.take (k + 1)) = refStep (refRun (4294967295 - s) (zs.take k)) (zs.getD k 0)) := refRun_take _ _ _ hlt'
      obtain ⟨z, hzz⟩ : ∃ z, z = zs.getD k 0 := ⟨_, rfl⟩
      rw [← hzz] at hcell hz HS
      obtain ⟨b', rfl⟩ : ∃ b' : Nat, z = b' := ⟨z.toNat, by omega⟩
      clear hzz
      obtain ⟨x, hxx⟩ : ∃ x, x = refRun (4294967295 - s) (zs.take k) := ⟨_, rfl⟩
      rw [← hxx] at hx HS
      rw [← hxx]
      clear hxx
      have e1 := bits_xor x b' hx (by omega)
      have hy : x ^^^ b' < 4294967296 := xor_lt32 hx (by omega)
      obtain ⟨y, hyy⟩ : ∃ y, y = x ^^^ b' := ⟨_, rfl⟩
      rw [← hyy] at e1 hy
      have HY : Hid (y = x ^^^ b') := hyy
      clear hyy
      have hzn : (b' : Int) < 256 := hz.2
      clear hc hb hz hlt' hk
      go_wp2
      clear e1 hcell
      go_loop [5, 7, 8] (fun s' j _ => ∃ m : Nat, m ≤ 8 ∧ j = .int .i64 m ∧ s' = .int .u32 (bitRunL m y)) (fun _ j _ => 8 - (intOf j).toNat)
      case atStart => exact ⟨0, Nat.zero_le _, rfl, rfl⟩
      case round =>
        obtain ⟨m, hm, rfl, rfl⟩ := hrel
        have hw := bitRunL_lt m hy
        have HB : Hid (bitRunL (m + 1) y = bitStep (bitRunL m y)) := rfl
        obtain ⟨v, hvv⟩ : ∃ v, v = bitRunL m y := ⟨_, rfl⟩
        rw [← hvv] at hw HB
        rw [← hvv]
        have HVV : Hid (v = bitRunL m y) := hvv
        clear hvv
        by_cases hm8 : m < 8
        · by_cases hodd : v % 2 = 1
          · have ho : (((v : Int) % 2) == 1) = true := by simp; omega
            have e2 := bit_odd' hw hodd
            clear hodd
            go_wp2
            go_round
            case rel => exact ⟨m + 1, by omega, by go_num, by rw [HB.out]⟩
            case measure => simp [intOf]; omega
          · have ho : (((v : Int) % 2) == 1) = false := by simp; omega
            have HE := Lib.hid (bit_even hodd)
            clear hodd
            go_wp2
            go_round
            case rel => exact ⟨m + 1, by omega, by go_num, by rw [HB.out, HE.out]; go_num⟩
            case measure => simp [intOf]; omega
        · have hm' : m = 8 := by omega
          subst hm'
          have HZ : Hid (bitRunL 8 y = refStep x (b' : Int)) := by rw [HY.out]; rfl
          have HV : Hid (v = refStep x (b' : Int)) := HVV.out.trans HZ.out
          go_wp2
          go_round
          case rel => exact ⟨k + 1, by omega, by go_num, by rw [HS.out, HV.out]⟩
          case measure => simp [intOf]; omega
    · have hkn : k = n := by omega
      have HE : Hid (zs.take k = zs) := by rw [hkn, HN.out]; exact List.take_length
      clear hc hb hk hkn
      go_wp2
      go_ret
      refine ⟨?_, rfl⟩
      rw [HE.out] at hx ⊢
      exact ret_int (by omega)
theorem ref_any (s : Nat) (hs : s < 4294967296) (v : Value) (w : World) (zs : List Int) (hv : IntsAt w .u8 v zs) (hb : Bytes zs) :
    Calls Tryd.prog 12 #[.int .u32 s, v] w fun e w' => e = .returned (.int .u32 ((4294967295 - refRun (4294967295 - s) zs : Nat) : Int)) ∧ w = w' := by
  obtain ⟨ao, cap, rfl, hn, h0, hc⟩ := hv
  cases ao with
  | some b => exact ref_some s hs b cap w zs hn hb (hc b rfl)
  | none =>
    obtain rfl : zs = [] := List.eq_nil_of_length_eq_zero (h0 rfl)
    show Calls Tryd.prog 12 #[.int .u32 s, .slice none 0 cap] w _
    clear hc hb
    go_enter Tryd.func12, Tryd.ntmps12
    go_wp2
    refine wp_loop_rounds 1 ?_
    rw [rounds_succ]
    go_wp2
    go_ret
    refine ⟨?_, rfl⟩
    unfold refRun
    simp
    omega

theorem refsum_any (v : Value) (w : World) (zs : List Int) (hv : IntsAt w .u8 v zs) (hb : Bytes zs) :
    Calls Tryd.prog 10 #[v] w fun e w' => e = .returned (.int .u32 ((4294967295 - refRun (4294967295 - 0) zs : Nat) : Int)) ∧ w = w' := by
  have HC := Lib.hid (ref_any 0 (by decide) v w zs hv hb)
  clear hv hb
  go_enter Tryd.func10, Tryd.ntmps10
  go_wp2_with (go_at_call 12; refine HC.out.mono ?_; rintro e w' ⟨rfl, rfl⟩)
  go_ret
  exact ⟨rfl, rfl⟩

/-- The document's sums, said by the program's. -/
theorem refm_any (s : Nat) (hs : s < 4294967296) (v : Value) (w : World) (zs : List Int) (hv : IntsAt w .u8 v zs) (hb : Bytes zs) :
    Calls Tryd.prog 12 #[.int .u32 s, v] w fun e w' => e = .returned (.int .u32 (crcMore s zs)) ∧ w = w' := by
  rw [crcMore_ref hs hb]; exact ref_any s hs v w zs hv hb
theorem refs_any (v : Value) (w : World) (zs : List Int) (hv : IntsAt w .u8 v zs) (hb : Bytes zs) :
    Calls Tryd.prog 10 #[v] w fun e w' => e = .returned (.int .u32 (crcMore 0 zs)) ∧ w = w' := by
  rw [crcMore_ref (by decide) hb]; exact refsum_any v w zs hv hb

theorem info5 : (Tryd.prog.info? 5).map (fun i => (i.zero, i.size, i.bytes)) = some (some (.int .u8 0), 1, 1) := by kernel_rfl

/-- A row of bytes of the call's own. -/
def OwnBytes (w : World) (base : Nat) (v : Value) (zs : List Int) : Prop := w.ownsRow base 5 1 v zs.length (zs.map (Value.int .u8)) ∧ zs.length ≤ maxLen

theorem OwnBytes.ints {w : World} {base : Nat} {v : Value} {zs : List Int} (h : OwnBytes w base v zs) : IntsAt w .u8 v zs := by
  obtain ⟨ho, hm⟩ := h
  rcases ho.2 with ⟨rfl, hz⟩ | ⟨g, cap, cur, rfl, hb, hg, r⟩
  · exact ⟨none, 0, by rw [hz], by omega, fun _ => hz, fun a h => by cases h⟩
  · refine ⟨some ⟨g, 0, none⟩, cap, rfl, by omega, (fun h => by cases h), fun a ha i hi => ?_⟩
    obtain rfl := Option.some.inj ha
    have hc := ho.cells (g := g) rfl i (.int .u8 (zs.getD i 0)) (by rw [List.getElem?_map, getD_in _ _ hi, List.getElem?_eq_getElem hi]; rfl)
    exact hc
theorem TabAt.below {w w' : World} {B : Nat} (h : TabAt w) (hb : Below B w w') (h0 : 0 < B) : TabAt w' := fun k hk => (hb.cell (p := ⟨0, k, none⟩) h0).trans (h k hk)

theorem lt_of_cell {w : World} {a : Addr} {v : Value} (h : w.cell? a = some v) : a.block < w.heap.size := by
  rcases Nat.lt_or_ge a.block w.heap.size with h' | h'
  · exact h'
  · simp [World.cell?, Array.getElem?_eq_none h'] at h
theorem IntsAt.below {w w' : World} {k : IntKind} {v : Value} {zs : List Int} (h : IntsAt w k v zs) (hb : Below w.heap.size w w') : IntsAt w' k v zs := by
  obtain ⟨ao, cap, rfl, hn, h0, hc⟩ := h
  refine ⟨ao, cap, rfl, hn, h0, fun a ha i hi => ?_⟩
  have := hc a ha i hi
  rw [hb.cell (lt_of_cell this)]; exact this
theorem IntsAt.reads {w : World} {k : IntKind} {ao : Option Addr} {n cap : Nat} {zs : List Int} (h : IntsAt w k (.slice ao n cap) zs) : n = zs.length ∧ Reads w w.heap.size 1 ao n (zs.map (Value.int k)) := by
  obtain ⟨ao', cap', he, hn, h0, hc⟩ := h
  injection he with h1 h2 h3
  subst h1 h2 h3
  refine ⟨rfl, by simp, fun hpos => ?_⟩
  cases ao with
  | none => have := h0 rfl; omega
  | some a =>
    have hcell := hc a rfl
    refine ⟨a, rfl, ?_, fun j u hu => ?_⟩
    · have := lt_of_cell (hcell 0 hpos)
      rwa [block_of_add] at this
    · have hj : j < zs.length := by
        rcases Nat.lt_or_ge j zs.length with h | h
        · exact h
        · rw [List.getElem?_eq_none (by simpa using h)] at hu; cases hu
      rw [List.getElem?_map, List.getElem?_eq_getElem hj] at hu
      have := hcell j hj
      rw [getD_in _ _ hj] at this
      rw [this]; exact hu

theorem run_conv {w : World} {v : Value} {zs : List Int} (h : IntsAt w .u8 v zs) : (convert 22 9 v).run Tryd.prog w = .ok (.string (strOfNums zs)) w := by
  obtain ⟨ao, cap, rfl, hn, h0, hc⟩ := h
  cases ao with
  | none =>
    obtain rfl : zs = [] := List.eq_nil_of_length_eq_zero (h0 rfl)
    exact run_convert_bytes_nil w 22 5 Tryd.underlying22 Tryd.underlying5 _ _ 9 Tryd.underlying9
  | some a =>
    have hl : (loadCells a zs.length).run Tryd.prog w = .ok (zs.map (Value.int .u8)).toArray w := by
      have := run_loadCells_list (P := Tryd.prog) w a (zs.map (Value.int .u8)) (fun j v hj => by
        have hjl : j < zs.length := by
          rcases Nat.lt_or_ge j zs.length with h | h
          · exact h
          · rw [List.getElem?_eq_none (by simpa using h)] at hj; cases hj
        rw [hc a rfl j hjl, getD_in _ _ hjl]
        rw [List.getElem?_map, List.getElem?_eq_getElem hjl] at hj
        exact hj)
      simpa using this
    rw [run_convert_bytes_string w 22 9 5 _ zs.length cap Tryd.underlying22 Tryd.underlying5 Tryd.underlying9, run_bytesToString w _ zs.length cap zs hl, foldl_push_bytes]
    simp [strOfNums, ByteArray.empty, ByteArray.emptyWithCapacity]
    rfl
theorem numsOf_str {zs : List Int} (h : Bytes zs) : numsOf (strOfNums zs) = zs := by
  unfold numsOf
  rw [strOfNums_data, List.map_map]
  conv => rhs; rw [← List.map_id zs]
  apply List.map_congr_left
  intro z hz
  have := h z hz
  simp only [Function.comp, id, UInt8.toNat_ofNat']
  omega
theorem strOfNums_inj {a b : List Int} (ha : Bytes a) (hb : Bytes b) (h : strOfNums a = strOfNums b) : a = b := by
  rw [← numsOf_str ha, h, numsOf_str hb]
end Go.Proofs.YtanbidicopjoaaaDoor
