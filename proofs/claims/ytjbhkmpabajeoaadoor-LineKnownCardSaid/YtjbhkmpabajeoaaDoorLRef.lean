/- The document's lines: the walks. -/
import Derived.Test.YtjbhkmpabajeoaaDoorLDigits
import Derived.Test.YtjbhkmpabajeoaaDoorQTail
namespace Go.Proofs.YtjbhkmpabajeoaaDoor
set_option linter.unusedSimpArgs false
set_option linter.unusedVariables false
open Go.RowKit
open Go.Lib (itoa itoa_length_le)

theorem ret_str {s t : ByteArray} (h : s = t) : Ending.returned (.string s) = .returned (.string t) := by rw [h]
theorem blank_str : (ByteArray.mk #[32]) = str [32] := rfl
def threeL (x y z : Int) : Bs := 32 :: (itoa x ++ 32 :: (itoa y ++ 32 :: itoa z))
set_option maxRecDepth 100000 in
set_option maxHeartbeats 1000000 in
theorem three_any (w : World) (x y z : Int) (hx : InI x) (hy : InI y) (hz : InI z) : Calls Tryd.prog 42 #[.agg #[.int .i64 x, .int .i64 y, .int .i64 z]] w fun e w' => e = .returned (.string (str (threeL x y z))) ∧ Below w.heap.size w w' := by
  have HX := Lib.hid (fun W => digits_any W x hx)
  have HY := Lib.hid (fun W => digits_any W y hy)
  have HZ := Lib.hid (fun W => digits_any W z hz)
  have lx := itoa_length_le x hx.1 hx.2
  have ly := itoa_length_le y hy.1 hy.2
  have lz := itoa_length_le z hz.1 hz.2
  have HT := Lib.hid (show threeL x y z = 32 :: (itoa x ++ 32 :: (itoa y ++ 32 :: itoa z)) from rfl)
  generalize itoa x = dx at HX lx HT
  generalize itoa y = dy at HY ly HT
  generalize itoa z = dz at HZ lz HT
  have HB := Lib.hid ((Below.refl w.heap.size w).alloc (Nat.le_refl _) (.cells #[.int .i64 x, .int .i64 y, .int .i64 z] 23))
  have hk := Blk.new w 23 #[.int .i64 x, .int .i64 y, .int .i64 z]
  have c0 := hk.cell 0
  have c1 := hk.cell 1
  have c2 := hk.cell 2
  simp only [List.getElem?_toArray, List.getElem?_cons_zero, List.getElem?_cons_succ] at c0 c1 c2
  have hlt := hk.lt
  go_enter Tryd.func42, Tryd.ntmps42
  go_wp2
  obtain ⟨W, hW⟩ : ∃ W, W = w.alloc (.cells #[.int .i64 x, .int .i64 y, .int .i64 z] 23) := ⟨_, rfl⟩
  rw [← hW] at HB c0 c1 c2 hlt ⊢
  have C0 := fun (p : InB W) => p.cell c0 hlt
  have C1 := fun (p : InB W) => p.cell c1 hlt
  have C2 := fun (p : InB W) => p.cell c2 hlt
  clear hW hk c0 c1 c2
  refine wp_region_quiet_below (by kernel_rfl) (by kernel_rfl) ?_
  repeat (go_big_quiet_step ((go_at_call 39; first | (with_reducible exact calls_below (HX.out _)) | (with_reducible exact calls_below (HY.out _)) | (with_reducible exact calls_below (HZ.out _)))))
  refine wpQuiet_nil ?_
  intro _ hw'
  obtain ⟨⟨wq, hbq⟩, hw''⟩ := hw'
  subst hw''
  go_wp2
  go_ret
  refine ⟨?_, HB.out.trans (hbq.mono HB.out.size)⟩
  rw [HT.out]
  exact ret_str (by simp only [blank_str, str_append]; simp)
end Go.Proofs.YtjbhkmpabajeoaaDoor
