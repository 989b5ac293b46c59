/- CrcParts: the walk. -/
import Derived.Test.YtanbidicopjoaaaDoorSums
namespace Go.Proofs.YtanbidicopjoaaaDoor
open Go.RowKit

set_option maxRecDepth 100000 in
set_option maxHeartbeats 1000000 in
theorem parts_walk (w : World) (hw : 0 < w.heap.size) (hT : TabAt w) (A B : Option Addr) (na ca nb cb : Nat) (xs ys : List Int)
    (hx : IntsAt w .u8 (.slice A na ca) xs) (hy : IntsAt w .u8 (.slice B nb cb) ys) (hxb : Bytes xs) (hyb : Bytes ys) (hn : xs.length + ys.length ≤ 1048576) :
    Calls Tryd.prog 7 #[.slice A na ca, .slice B nb cb] w fun e w' => e = .returned (.bool true) ∧ Below w.heap.size w w' := by
  have HX := Lib.hid hx
  have HY := Lib.hid hy
  have HXB := Lib.hid hxb
  have HYB := Lib.hid hyb
  clear hx hy hxb hyb
  go_enter Tryd.func7, Tryd.ntmps7
  go_wp2_with (at_builtin; refine copy_law rfl _ _ rfl w.heap.size (.slice none 0 0) [] rfl (World.ownsRow_nil _ _ _ _) A na ca xs rfl HX.out (by simp; omega) (Nat.le_refl _) ?_)
  intro v1 w1 hown hg
  have hb1 : Below w.heap.size w w1 := (Below.refl _ _).grown hg (Nat.le_refl _) (fun k hk => by simp [Value.ownBlock] at hk)
  clear hg
  have HO := Lib.hid hown
  clear hown
  go_wp2_with (at_builtin; refine copy_law rfl _ _ rfl w.heap.size v1 xs rfl HO.out.1 B nb cb ys rfl (HY.out.below hb1) (by omega) hb1.size ?_)
  intro v2 w2 hown hg
  have hb2 : Below w.heap.size w w2 := hb1.grown hg hb1.size (fun g hg' => (HO.out.1.lt g hg').1)
  clear hg
  have HO2 := Lib.hid hown
  clear hown
  have hT2 := hT.below hb2 hw
  have q1 : crcMore 0 xs < 4294967296 := crcMore_lt (by decide) HXB.out
  have bapp : Bytes (xs ++ ys) := fun z hz => (List.mem_append.1 hz).elim (HXB.out z) (HYB.out z)
  have c1 := sum_any _ w2 _ (HX.out.below hb2) HXB.out hT2
  have c2 := more_any (crcMore 0 xs) q1 _ w2 _ (HY.out.below hb2) HYB.out hT2
  have c3 := sum_any _ w2 _ HO2.out.ints bapp hT2
  have c4 := more_any (crcMore 0 xs) q1 _ w2 _ (ints_nil w2) (fun z h => by cases h) hT2
  rw [crcMore_append] at c2
  rw [crcMore_nil] at c4
  have C1 := Lib.hid c1
  have C2 := Lib.hid c2
  have C3 := Lib.hid c3
  have C4 := Lib.hid c4
  have C6 := Lib.hid (awake_any w2 hT2)
  clear c1 c2 c3 c4 hT hT2 bapp q1
  go_wp2_with (first | (go_at_call 9; first | (refine C1.out.mono ?_; rintro e w' ⟨rfl, rfl⟩) | (refine C3.out.mono ?_; rintro e w' ⟨rfl, rfl⟩)) | (go_at_call 11; first | (refine C2.out.mono ?_; rintro e w' ⟨rfl, rfl⟩) | (refine C4.out.mono ?_; rintro e w' ⟨rfl, rfl⟩)) | (go_at_call 8; refine C6.out.mono ?_; rintro e w' ⟨rfl, rfl⟩))
  go_ret
  exact ⟨rfl, hb2⟩
end Go.Proofs.YtanbidicopjoaaaDoor
