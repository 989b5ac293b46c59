/- CrcKnown: the examples of the chapter of the sums hold. No condition. -/
import Derived.Test.YtanbidicopjoaaaDoorWalks
import Derived.Lib.SlBytesConst
namespace Go.Proofs.YtanbidicopjoaaaDoor
open Go.RowKit

theorem info5 : (Tryd.prog.info? 5).map (fun i => (i.zero, i.size, i.bytes)) = some (some (.int .u8 0), 1, 1) := by kernel_rfl

/-- A row of bytes of the call's own. -/
def OwnBytes (w : World) (base : Nat) (v : Value) (zs : List Int) : Prop := w.ownsRow base 5 1 v zs.length (zs.map (Value.int .u8)) ∧ zs.length ≤ maxLen

theorem OwnBytes.ints {w : World} {base : Nat} {v : Value} {zs : List Int} (h : OwnBytes w base v zs) : IntsAt w .u8 v zs := by
  obtain ⟨ho, hm⟩ := h
  rcases ho.2 with ⟨rfl, hz⟩ | ⟨g, cap, cur, rfl, hb, hg, r⟩
  · exact ⟨none, 0, by rw [hz], by omega, fun _ => hz, fun a h => by cases h⟩
  · refine ⟨some ⟨g, 0, none⟩, cap, rfl, by omega, (fun h => by cases h), fun a ha i hi => ?_⟩
    obtain rfl := Option.some.inj ha
    have hc := ho.cells (g := g) rfl i (.int .u8 (zs.getD i 0)) (by rw [List.getElem?_map, getD_in _ _ hi, List.getElem?_eq_getElem hi]; rfl)
    exact hc
theorem TabAt.below {w w' : World} {B : Nat} (h : TabAt w) (hb : Below B w w') (h0 : 0 < B) : TabAt w' := fun k hk => (hb.cell (p := ⟨0, k, none⟩) h0).trans (h k hk)

def fillL (n : Nat) (f s : Int) : List Int := (List.range n).map fun (i : Nat) => (f + s * (i : Int)) % 256
theorem fillL_length (n : Nat) (f s : Int) : (fillL n f s).length = n := by simp [fillL]
theorem fillL_bytes (n : Nat) (f s : Int) : Bytes (fillL n f s) := by
  intro z hz
  simp only [fillL, List.mem_map] at hz
  obtain ⟨i, _, rfl⟩ := hz
  omega
theorem fillL_succ (n : Nat) (f s : Int) : fillL (n + 1) f s = fillL n f s ++ [(f + s * (n : Int)) % 256] := by
  simp [fillL, List.range_succ]

set_option maxRecDepth 100000 in
set_option maxHeartbeats 1000000 in
theorem filled_any (n : Nat) (f s : Int) (w : World) (hn : n ≤ 32) :
    Calls Tryd.prog 14 #[.int .i64 n, .int .u8 f, .int .u8 s] w fun e w' => ∃ v, e = .returned v ∧ OwnBytes w' w.heap.size v (fillL n f s) ∧ Below w.heap.size w w' := by
  obtain ⟨i0, hi, hz0, hz1, hz2⟩ := info_parts info5
  go_enter Tryd.func14, Tryd.ntmps14
  go_wp2
  go_loopw [7, 8] (fun v i wr => ∃ k : Nat, k ≤ n ∧ i = .int .i64 k ∧ OwnBytes wr w.heap.size v (fillL k f s) ∧ Below w.heap.size w wr) (fun _ i _ => n - (intOf i).toNat)
  case atStart => exact ⟨0, Nat.zero_le _, rfl, ⟨World.ownsRow_nil _ _ _ _, Nat.zero_le _⟩, Below.refl _ _⟩
  case round =>
    obtain ⟨k, hk, rfl, ⟨hown, hm⟩, hbl⟩ := hrel
    have hsz := hbl.size
    have HL := Lib.hid (fillL_length k f s)
    have HS := Lib.hid (fillL_succ k f s)
    by_cases hlt : k < n
    · go_wp2_with (at_builtin; refine wpList_append_own _ rfl _ _ 22 rfl w.heap.size 5 i0 (.int .u8 0) 1 1 Tryd.underlying22 hi hz0 hz1 hz2 rfl (by decide) _ _ _ rfl (hown.alloc _) ⟨wr.heap.size, 0, none⟩ 1 1 [.int .u8 ((f + s * (k : Int)) % 256)] rfl rfl ?c1 ?c2 ?c3 ?c4 ?c5 ?_)
      case c1 =>
        intro j u hj
        match j, hj with
        | 0, hj => simp at hj; subst hj; simp [Addr.add]
      case c2 => intro u hu; simp at hu; subst hu; rfl
      case c3 => unfold maxLen; rw [HL.out]; omega
      case c4 => rw [HL.out]; omega
      case c5 => simp; omega
      · intro v' w1 hown' hgrow _
        go_wp2
        go_roundw
        case rel =>
          refine ⟨k + 1, by omega, by go_num, ⟨?_, ?_⟩, (hbl.alloc (by omega) _).grown hgrow (by simp; omega) (fun g hg => (hown.lt g hg).1)⟩
          · rw [HS.out, List.map_append, List.length_append]; exact hown'
          · rw [fillL_length]; unfold maxLen; omega
        case measure => simp [intOf]; omega
    · have hkn : k = n := by omega
      subst hkn
      go_wp2
      go_ret
      exact ⟨_, rfl, ⟨hown, hm⟩, hbl⟩

theorem addr_add (b k : Nat) : (⟨b, 0, none⟩ : Addr).add k = ⟨b, k, none⟩ := by
  unfold Addr.add; split <;> simp_all
set_option maxRecDepth 100000 in
set_option maxHeartbeats 1000000 in
theorem known_walk (w : World) (hw : 0 < w.heap.size) (hT : TabAt w) :
    Calls Tryd.prog 6 #[] w fun e w' => e = .returned (.bool true) ∧ Below w.heap.size w w' := by
  have a1 : crcMore 0 (fillL 32 0 0) = 2324772522 := by decide +kernel
  have a2 : crcMore 0 (fillL 32 255 0) = 1655221059 := by decide +kernel
  have a3 : crcMore 0 (fillL 32 0 1) = 1188919630 := by decide +kernel
  have a4 : crcMore (crcMore 0 (numsOf ⟨#[49, 50, 51, 52, 53]⟩)) [54, 55, 56, 57] = 3808858755 := by decide +kernel
  go_enter Tryd.func6, Tryd.ntmps6
  go_wp2_with (go_at_call 8; refine (awake_any _ hT).mono ?_; rintro e w' ⟨rfl, rfl⟩)
  go_at_call 14
  refine (filled_any 32 0 0 _ (by decide)).mono ?_
  rintro e w1 ⟨v1, rfl, hv1, hb1⟩
  have hT1 := hT.below hb1 hw
  have hw1 : 0 < w1.heap.size := Nat.lt_of_lt_of_le hw hb1.size
  have c1 := sum_any v1 w1 _ hv1.ints (fillL_bytes _ _ _) hT1
  rw [a1] at c1
  go_wp2_with (go_at_call 9; refine c1.mono ?_; rintro e w' ⟨rfl, rfl⟩)
  clear c1
  go_at_call 14
  refine (filled_any 32 255 0 _ (by decide)).mono ?_
  rintro e w2 ⟨v2, rfl, hv2, hb2⟩
  have hT2 := hT1.below hb2 hw1
  have hw2 : 0 < w2.heap.size := Nat.lt_of_lt_of_le hw1 hb2.size
  have c1 := sum_any v2 w2 _ hv2.ints (fillL_bytes _ _ _) hT2
  rw [a2] at c1
  go_wp2_with (go_at_call 9; refine c1.mono ?_; rintro e w' ⟨rfl, rfl⟩)
  clear c1
  go_at_call 14
  refine (filled_any 32 0 1 _ (by decide)).mono ?_
  rintro e w3 ⟨v3, rfl, hv3, hb3⟩
  have hT3 := hT2.below hb3 hw2
  have hw3 : 0 < w3.heap.size := Nat.lt_of_lt_of_le hw2 hb3.size
  have c1 := sum_any v3 w3 _ hv3.ints (fillL_bytes _ _ _) hT3
  rw [a3] at c1
  have c2 := text_any ⟨#[49, 50, 51, 52, 53]⟩ w3 (by decide) hT3
  have hlt : crcMore 0 (numsOf ⟨#[49, 50, 51, 52, 53]⟩) < 4294967296 := crcMore_lt (by decide) (numsOf_bytes _)
  generalize crcMore 0 (numsOf ⟨#[49, 50, 51, 52, 53]⟩) = t5 at c2 a4 hlt
  have c3 := more_any t5 hlt (.slice (some ⟨w3.heap.size, 0, none⟩) 4 4) (w3.alloc (.cells #[.int .u8 54, .int .u8 55, .int .u8 56,   .int .u8 57] 5 (4, 5))) [54, 55, 56, 57]
    ⟨some ⟨w3.heap.size, 0, none⟩, 4, rfl, by decide, (fun h => by cases h), fun a ha i hi => by
      obtain rfl := Option.some.inj ha
      rw [addr_add, World.cell?_alloc_mark]
      match i, hi with
      | 0, _ => rfl
      | 1, _ => rfl
      | 2, _ => rfl
      | 3, _ => rfl⟩ (by intro z hz; simp at hz; omega) (hT3.below ((Below.refl _ _).alloc (Nat.le_refl _) _) hw3)
  rw [a4] at c3
  have kc := Lib.run_convert_bytes_const (P := Tryd.prog) w3 22 5 #[.int .u8 54, .int .u8 55, .int .u8 56, .int .u8 57] 4 4 Tryd.underlying22 Tryd.underlying5
  go_wp2_with (first | (go_at_call 9; refine c1.mono ?_; rintro e w' ⟨rfl, rfl⟩) | (go_at_call 13; refine c2.mono ?_; rintro e w' ⟨rfl, rfl⟩) | (go_at_call 11; refine c3.mono ?_; rintro e w' ⟨rfl, rfl⟩))
  go_ret
  refine ⟨rfl, ?_⟩
  exact hb1.trans ((hb2.mono hb1.size).trans ((hb3.mono (Nat.le_trans hb1.size hb2.size)).trans ((Below.refl _ _).alloc (Nat.le_trans hb1.size (Nat.le_trans hb2.size hb3.size)) _)))
end Go.Proofs.YtanbidicopjoaaaDoor
