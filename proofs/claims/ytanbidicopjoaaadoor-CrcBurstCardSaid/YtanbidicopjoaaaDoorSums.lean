/- CrcSums: the sum of any bytes, from any sum on, is the document's, and the bytes stay. No condition. -/
import Derived.Test.YtanbidicopjoaaaDoorWalks
namespace Go.Proofs.YtanbidicopjoaaaDoor
open Go.RowKit

/-- A copy of a row of bytes. -/
theorem copy_law {ops : Array Oper} {rest : List Oper} {o : Oper} {a : Act} {w : World} {Q : Exit → Act → World → Prop} (hgd : o.guard = none) (s x : Operand)
    (ho : o.op = .call { callee := .builtin .append, args := #[s, x], argTypes := #[22, 22] }) (base : Nat) (v : Value) (xs : List Int) (hs : a.eval s = v) (hown : w.ownsRow base 5 1 v xs.length (xs.map (Value.int .u8)))
    (A : Option Addr) (m c : Nat) (zs : List Int) (hx : a.eval x = .slice A m c) (hv : IntsAt w .u8 (.slice A m c) zs) (hsz : xs.length + zs.length ≤ 140737488355328) (hbase : base ≤ w.heap.size)
    (h : ∀ v' w', OwnBytes w' base v' (xs ++ zs) → w.grownBy w' v.ownBlock → wpList Tryd.prog ops Q rest (a.put o.dst v') w') : wpList Tryd.prog ops Q (o :: rest) a w := by
  obtain ⟨i0, hi, hz0, hz1, hz2⟩ := info_parts info5
  obtain ⟨rfl, hr⟩ := hv.reads
  refine wpList_append_any w hgd s x 22 ho base 5 i0 (.int .u8 0) 1 1 Tryd.underlying22 hi hz0 hz1 hz2 rfl (by decide) v xs.length _ hs hown w.heap.size A _ c _ hx hr (fun u hu => ?_) ?_ ?_ hbase fun v' w' h1 h2 _ => h v' w' ⟨?_, ?_⟩ h2
  · simp only [List.mem_map] at hu
    obtain ⟨z, _, rfl⟩ := hu
    rfl
  · unfold maxLen; omega
  · omega
  · rw [List.length_append, List.map_append]; exact h1
  · rw [List.length_append]; unfold maxLen; omega

set_option maxRecDepth 100000 in
set_option maxHeartbeats 1000000 in
theorem sums_walk (w : World) (hw : 0 < w.heap.size) (hT : TabAt w) (A : Option Addr) (n c : Nat) (zs : List Int) (hv : IntsAt w .u8 (.slice A n c) zs) (hb : Bytes zs) (hn : zs.length ≤ 140737488351232) (s : Nat) (hs : s < 4294967296) :
    Calls Tryd.prog 5 #[.slice A n c, .int .u32 s] w fun e w' => e = .returned (.bool true) ∧ Below w.heap.size w w' := by
  have HV := Lib.hid hv
  have HB := Lib.hid hb
  clear hv hb
  have h1 : Below w.heap.size w (w.alloc (.cells #[] 5)) := (Below.refl _ _).alloc (Nat.le_refl _) _
  go_enter Tryd.func5, Tryd.ntmps5
  go_wp2_with (at_builtin; refine copy_law rfl _ _ rfl w.heap.size (.slice (some ⟨w.heap.size, 0, none⟩) 0 0) [] rfl (World.ownsRow_lit w #[] 0 (Nat.le_refl _) (by decide) rfl) A n c zs rfl (HV.out.below h1) (by simp; omega) (by simp) ?_)
  intro v1 w1 hown hg
  have hb1 : Below w.heap.size w w1 := h1.grown hg (by simp) (fun k hk => by simp [Value.ownBlock] at hk; omega)
  clear hg h1
  have hT1 := hT.below hb1 hw
  have hv1 := HV.out.below hb1
  have hi1 := hown.ints
  have c1 := Lib.hid (sum_any v1 w1 zs hi1 HB.out hT1)
  have c2 := Lib.hid (refs_any _ w1 zs hv1 HB.out)
  have c3 := Lib.hid (more_any s hs v1 w1 zs hi1 HB.out hT1)
  have c4 := Lib.hid (refm_any s hs _ w1 zs hv1 HB.out)
  have c5 := Lib.hid (text_any (strOfNums zs) w1 (by rw [strOfNums_size]; unfold maxLen; omega) hT1)
  have c6 := Lib.hid (awake_any w1 hT1)
  rw [numsOf_str HB.out] at c5
  have k1 := run_conv hv1
  have k2 := run_conv hi1
  have e0 : ∀ a : Nat, ((a : Int) != (a : Int)) = false := by simp
  clear hv1 hi1 hT hT1
  go_wp2_with (first | (go_at_call 9; refine c1.out.mono ?_; rintro e w' ⟨rfl, rfl⟩) | (go_at_call 10; refine c2.out.mono ?_; rintro e w' ⟨rfl, rfl⟩) | (go_at_call 11; refine c3.out.mono ?_; rintro e w' ⟨rfl, rfl⟩) | (go_at_call 12; refine c4.out.mono ?_; rintro e w' ⟨rfl, rfl⟩) | (go_at_call 13; refine c5.out.mono ?_; rintro e w' ⟨rfl, rfl⟩) | (go_at_call 8; refine c6.out.mono ?_; rintro e w' ⟨rfl, rfl⟩))

  go_ret
  exact ⟨rfl, hb1⟩
end Go.Proofs.YtanbidicopjoaaaDoor
