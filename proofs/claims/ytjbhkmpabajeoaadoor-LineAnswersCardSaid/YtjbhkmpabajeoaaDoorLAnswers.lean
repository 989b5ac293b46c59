/- LineAnswers: the statement's walk, and its argument. -/
import Derived.Test.YtjbhkmpabajeoaaDoorLFAns
import Derived.Test.YtjbhkmpabajeoaaDoorLArg
namespace Go.Proofs.YtjbhkmpabajeoaaDoor
set_option linter.unusedSimpArgs false
set_option linter.unusedVariables false
open Go.ChangeShapes Go.WideShapes Go.RowKit Go.Deep
set_option maxRecDepth 100000
theorem ans_arg {W : World} {H : Type} {enc : TypeId × Value → H} {base base' : Nat} {v : Value} {d : DataW H} {p : List MemPlace} (hv : Value.okWide Tryd.prog W .any base 43 v)
    (h : DataW.Trod enc Tryd.prog W base' (fun _ => true) true 43 v d p) : ∃ a : AnsR, v = ansV a ∧ a.Ok := by
  obtain ⟨cs, rfl⟩ := okWide_agg (by rw [Tryd.underlying43]) hv
  have hf := flat_arg (n := 6) (L := [.int .i64, .int .i64, .int .i64, .int .i64, .int .u8, .int .u8, .int .u8, .int .u8, .int .i64, .int .i64, .int .i64, .int .i64, .int .i64, .int .i64]) (by kernel_rfl) h
  simp only [Value.cells] at hf
  obtain ⟨e, l, hx, we, hf⟩ := fits_k hf
  obtain ⟨x, l, rfl, wx, hf⟩ := fits_k hf
  obtain ⟨y, l, rfl, wy, hf⟩ := fits_k hf
  obtain ⟨z, l, rfl, wz, hf⟩ := fits_k hf
  obtain ⟨c1, l, rfl, wc1, hf⟩ := fits_k hf
  obtain ⟨c2, l, rfl, wc2, hf⟩ := fits_k hf
  obtain ⟨s1, l, rfl, ws1, hf⟩ := fits_k hf
  obtain ⟨s2, l, rfl, ws2, hf⟩ := fits_k hf
  obtain ⟨due, l, rfl, wd, hf⟩ := fits_k hf
  obtain ⟨n, l, rfl, wn, hf⟩ := fits_k hf
  obtain ⟨p1, l, rfl, wp1, hf⟩ := fits_k hf
  obtain ⟨p2, l, rfl, wp2, hf⟩ := fits_k hf
  obtain ⟨p3, l, rfl, wp3, hf⟩ := fits_k hf
  obtain ⟨p4, l, rfl, wp4, hf⟩ := fits_k hf
  obtain rfl := fits_nil hf
  exact ⟨⟨e, x, y, z, c1, c2, s1, s2, due, n, p1, p2, p3, p4⟩, congrArg Value.agg (Array.ext' hx), wf_in we, wf_in wx, wf_in wy, wf_in wz, wf_inU wc1, wf_inU wc2, wf_inU ws1, wf_inU ws2, wf_in wd, wf_in wn, wf_in wp1, wf_in wp2, wf_in wp3, wf_in wp4⟩
set_option maxRecDepth 100000 in
set_option maxHeartbeats 4000000 in
theorem answers_walk (w : World) (k : Int) (a : AnsR) (x : Int) (ha : a.Ok) (he : Env w) : Calls Tryd.prog 9 #[.int .i64 k, ansV a, .int .i64 x] w fun e w' => e = .returned (.bool true) ∧ Below w.heap.size w w' := by
  have HL := Lib.hid (fun W (h : Env W) => lans_any W k a ha h)
  have HF := Lib.hid (fun W => fans_any W k a ha)
  have HL2 := Lib.hid (fun W => lerror_any W x)
  have HF2 := Lib.hid (fun W => ferror_any W x)
  have HW := Lib.hid works_any
  have HE := Lib.hid (he.alloc (.cells (ansC a) 43))
  have HB := Lib.hid ((Below.refl w.heap.size w).alloc (Nat.le_refl _) (.cells (ansC a) 43))
  have HK := Lib.hid (Blk.new w 43 (ansC a))
  unfold ansV at HL HF ⊢
  simp only [ansC] at HL HF HE HB ⊢
  clear he ha
  generalize ansS k a = res at HL HF
  generalize errS x = er at HL2 HF2
  go_enter Tryd.func9, Tryd.ntmps9
  go_wp2_with fail
  go_at_call 16
  refine (HL.out _ HE.out).mono ?_
  rintro e w1 ⟨rfl, hb⟩
  have HE1 := Lib.hid (HE.out.next hb)
  have HB1 := Lib.hid (HB.out.trans (hb.mono HB.out.size))
  have HK1 := Lib.hid (HK.out.below hb HK.out.lt)
  obtain ⟨c0, c1, c2, c3, c4, c5, c6, c7, c8, c9, c10, c11, c12, c13⟩ := HK1.out.ans
  clear hb
  go_wp2_with fail
  go_at_call 17
  refine (HF.out _).mono ?_
  rintro e w2 ⟨rfl, hb⟩
  have HE2 := Lib.hid (HE1.out.next hb)
  have HB2 := Lib.hid (HB1.out.trans (hb.mono HB1.out.size))
  clear hb c0 c1 c2 c3 c4 c5 c6 c7 c8 c9 c10 c11 c12 c13
  go_wp2_with fail
  go_at_call 18
  refine (HL2.out _).mono ?_
  rintro e w3 ⟨rfl, rfl⟩
  go_wp2_with fail
  go_at_call 19
  refine (HF2.out _).mono ?_
  rintro e w4 ⟨rfl, hb⟩
  have HE4 := Lib.hid (HE2.out.next hb)
  have HB4 := Lib.hid (HB2.out.trans (hb.mono HB2.out.size))
  clear hb
  go_wp2_with (go_at_call 13; (with_reducible refine (HW.out _ HE4.out).mono ?_); rintro e w5 ⟨rfl, hb⟩)
  go_ret
  exact ⟨rfl, HB4.out.trans (hb.mono HB4.out.size)⟩
end Go.Proofs.YtjbhkmpabajeoaaDoor
