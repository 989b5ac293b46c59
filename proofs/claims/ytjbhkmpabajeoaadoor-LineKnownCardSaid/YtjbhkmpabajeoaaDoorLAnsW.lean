/- The program's answers as lines: the walk. -/
import Derived.Test.YtjbhkmpabajeoaaDoorLAns
namespace Go.Proofs.YtjbhkmpabajeoaaDoor
set_option linter.unusedSimpArgs false
set_option linter.unusedVariables false
open Go.RowKit
open Go.Lib (itoa join)

theorem AnsMid.withs {w W : World} {a : AnsR} {l : List Bs} {r : Option Nat} (h : AnsMid w W a l r) (he : Env w) (hl : l.length ≤ 1000) (s : Bs) (n : Int) (hn : InI n) :
    Calls Tryd.prog 35 #[.string (str s), .int .i64 n, .pointer (some ⟨w.heap.size + 1, 0, none⟩)] W fun e w' => e = .returned (.tuple #[]) ∧ ∃ r', AnsMid w w' a (l ++ [s, itoa n]) r' :=
  (with_any W _ _ l r s n h.words hl (h.env he) he.size hn).mono fun e w' ⟨h2, h3⟩ => ⟨h2, h.worded h3⟩
theorem AnsMid.cell {w W : World} {a : AnsR} {l : List Bs} {r : Option Nat} (h : AnsMid w W a l r) (he : Env w) (hl : l.length ≤ 1000) (c1 c2 : Int) (h1 : InU c1) (h2 : InU c2) :
    Calls Tryd.prog 37 #[.pointer (some ⟨w.heap.size + 1, 0, none⟩), .agg #[.int .u8 c1, .int .u8 c2]] W fun e w' => e = .returned (.tuple #[]) ∧ ∃ r', AnsMid w w' a (l ++ cellW c1 c2) r' :=
  (wcell_any W _ _ l r c1 c2 h.words hl (h.env he) he.size h1 h2).mono fun e w' ⟨h2, h3⟩ => ⟨h2, h.worded h3⟩
theorem AnsMid.text {w W : World} {a : AnsR} {l : List Bs} {r : Option Nat} (h : AnsMid w W a l r) (hl : l.length ≤ 1000) (s : Bs) :
    Calls Tryd.prog 23 #[.pointer (some ⟨w.heap.size + 1, 0, none⟩), .string (str s)] W fun e w' => e = .returned (.tuple #[]) ∧ ∃ r', AnsMid w w' a (l ++ [s]) r' :=
  (text_any W _ _ l r s h.words (by omega)).mono fun e w' ⟨h2, h3⟩ => ⟨h2, h.worded h3⟩
theorem AnsMid.numbers {w W : World} {a : AnsR} {l : List Bs} {r : Option Nat} (h : AnsMid w W a l r) (he : Env w) (ns : List Int) (hl : l.length + ns.length ≤ 1000) (hn : ∀ n ∈ ns, InI n) {b n : Nat} (hb : b = W.heap.size) (hlen : n = ns.length) :
    Calls Tryd.prog 21 #[.pointer (some ⟨w.heap.size + 1, 0, none⟩), .slice (some ⟨b, 0, none⟩) n n] (W.alloc (.cells (ns.map iv).toArray 3)) fun e w' => e = .returned (.tuple #[]) ∧ ∃ r', AnsMid w w' a (l ++ ns.map itoa) r' := by
  subst hb hlen
  have h1 := h.alloc (.cells (ns.map iv).toArray 3)
  exact (numbers_any _ _ _ W.heap.size l r ns h1.words (by omega) (h1.env he) he.size (Blk.new _ _ _) hn).mono fun e w' ⟨h2, h3⟩ => ⟨h2, h1.worded h3⟩
theorem AnsMid.line {w W : World} {a : AnsR} {l : List Bs} {r : Option Nat} (h : AnsMid w W a l r) (h0 : 0 < l.length) (h1 : l.length ≤ 10) (h2 : ∀ w ∈ l, w.length ≤ 21) :
    ∃ v, W.cell? ⟨w.heap.size + 1, 0, none⟩ = some v ∧ Calls Tryd.prog 25 #[v] W fun e w' => e = .returned (.string (str (join l [32]))) ∧ Below W.heap.size W w' := by
  obtain ⟨v, k1, k2, _, _⟩ := h.words
  refine ⟨v, k1.cell 0, line_any W _ v l k2 h0 (by omega) ?_⟩
  have := join_small h2 h1
  omega
theorem errS_len (e : Int) : (errS e).length ≤ 21 := by
  unfold errS
  generalize errN.idxOf e = i
  by_cases h : i < 14
  · have : ∀ j : Fin 14, (errW.getD j.val []).length ≤ 21 := by decide
    exact this ⟨i, h⟩
  · rw [List.getD_eq_getElem?_getD, List.getElem?_eq_none (by simp [errW]; omega)]
    simp
theorem Blk.ans {w : World} {g : Nat} {a : AnsR} (h : Blk w g 43 (ansC a)) :
    w.cell? ⟨g, 0, none⟩ = some (.int .i64 a.e) ∧ w.cell? ⟨g, 1, none⟩ = some (.int .i64 a.x) ∧ w.cell? ⟨g, 2, none⟩ = some (.int .i64 a.y) ∧ w.cell? ⟨g, 3, none⟩ = some (.int .i64 a.z) ∧ w.cell? ⟨g, 4, none⟩ = some (.int .u8 a.c1) ∧ w.cell? ⟨g, 5, none⟩ = some (.int .u8 a.c2) ∧ w.cell? ⟨g, 6, none⟩ = some (.int .u8 a.s1) ∧
      w.cell? ⟨g, 7, none⟩ = some (.int .u8 a.s2) ∧ w.cell? ⟨g, 8, none⟩ = some (.int .i64 a.due) ∧ w.cell? ⟨g, 9, none⟩ = some (.int .i64 a.n) ∧ w.cell? ⟨g, 10, none⟩ = some (.int .i64 a.p1) ∧ w.cell? ⟨g, 11, none⟩ = some (.int .i64 a.p2) ∧ w.cell? ⟨g, 12, none⟩ = some (.int .i64 a.p3) ∧ w.cell? ⟨g, 13, none⟩ = some (.int .i64 a.p4) :=
  ⟨h.cell 0, h.cell 1, h.cell 2, h.cell 3, h.cell 4, h.cell 5, h.cell 6, h.cell 7, h.cell 8, h.cell 9, h.cell 10, h.cell 11, h.cell 12, h.cell 13⟩
set_option maxRecDepth 100000 in
set_option maxHeartbeats 4000000 in
theorem lans_err (w : World) (k : Int) (a : AnsR) (ha : a.Ok) (he : Env w) (hz : a.e ≠ 0) : Calls Tryd.prog 16 #[.int .i64 k, ansV a] w fun e w' => e = .returned (.string (str (ansS k a))) ∧ Below w.heap.size w w' := by
  have HS := Lib.hid (AnsMid.start w a)
  have HER := Lib.hid (fun W => lerror_any W a.e)
  have HI := Lib.hid (fun W (h : Env W) => itoa_any W a.e ha.e h)
  have HE := Lib.hid he
  have HX := Lib.hid (show ansS k a = [101, 114, 114, 111, 114, 32] ++ (if errS a.e = [] then itoa a.e else errS a.e) by unfold ansS namedS; rw [if_neg hz])
  obtain ⟨W, hW⟩ : ∃ W, W = (w.alloc (.cells (ansC a) 43)).alloc (.cells #[.slice none 0 0] 52) := ⟨_, rfl⟩
  rw [← hW] at HS
  have hmf : ∀ (fn : Fn) (first cap : Array Value) (w : World), (Instr.makeFunc fn first cap).run Tryd.prog w = .ok (.func fn first cap) w := fun _ _ _ _ => rfl
  have c0 := HS.out.op.ans.1
  have hb : (a.e != 0) = true := by simpa using hz
  have HEW := Lib.hid (HS.out.env he)
  unfold ansV
  unfold ansC at hW ⊢
  have HWW := Lib.hid hW
  have hin := ha.e
  clear hW he ha
  have len1 : (itoa a.e).length ≤ 21 := Lib.itoa_length_le _ hin.1 hin.2
  have len2 : (errS a.e).length ≤ 21 := errS_len a.e
  clear hin
  generalize ansS k a = res at HX ⊢
  generalize errS a.e = nm at HX HER len2
  generalize itoa a.e = it at HX HI len1
  rcases Bool.eq_false_or_eq_true (nm.isEmpty) with hm | hm
  · have hm0 : nm = [] := by simpa using hm
    subst hm0
    clear hm
    go_enter Tryd.func16, Tryd.ntmps16
    go_wp2_with fail
    rw [← HWW.out]
    go_at_call 18
    refine (HER.out _).mono ?_
    rintro e w1 ⟨rfl, rfl⟩
    go_wp2_with fail
    go_at_call 36
    refine (HI.out _ HEW.out).mono ?_
    rintro e w2 ⟨rfl, hb2⟩
    have HB2 := Lib.hid (HS.out.below.trans (hb2.mono HS.out.below.size))
    clear hb2
    go_wp2
    go_ret
    refine ⟨?_, HB2.out⟩
    rw [HX.out]
    first | rfl | (rw [if_pos trivial]; rfl)
  · have hm0 : nm ≠ [] := by simpa using hm
    have HN := Lib.hid hm0
    clear hm0
    go_enter Tryd.func16, Tryd.ntmps16
    go_wp2_with fail
    rw [← HWW.out]
    go_at_call 18
    refine (HER.out _).mono ?_
    rintro e w1 ⟨rfl, rfl⟩
    have HB2 := Lib.hid HS.out.below
    go_wp2
    go_ret
    refine ⟨?_, HB2.out⟩
    rw [HX.out, if_neg HN.out]
    rfl
set_option maxRecDepth 100000 in
set_option maxHeartbeats 4000000 in
theorem lans_7 (w : World) (a : AnsR) (ha : a.Ok) (he : Env w) (hz : a.e = 0)  : Calls Tryd.prog 16 #[.int .i64 7, ansV a] w fun e w' => e = .returned (.string (str (ansS 7 a))) ∧ Below w.heap.size w w' := by
  have HM0 := Lib.hid (AnsMid.start w a)
  have HE := Lib.hid he
  have HX := Lib.hid (show ansS 7 a = join (ansW 7 a) [32] by unfold ansS; rw [if_pos hz])
  obtain ⟨q1, q2, q3⟩ := ansW_len (k := 7) ha
  have HQ1 := Lib.hid q1
  have HQ2 := Lib.hid q2
  have HQ3 := Lib.hid q3
  have HA := Lib.hid ha
  clear q1 q2 q3
  obtain ⟨W, hW⟩ : ∃ W, W = (w.alloc (.cells (ansC a) 43)).alloc (.cells #[.slice none 0 0] 52) := ⟨_, rfl⟩
  rw [← hW] at HM0
  have hmf : ∀ (fn : Fn) (first cap : Array Value) (w : World), (Instr.makeFunc fn first cap).run Tryd.prog w = .ok (.func fn first cap) w := fun _ _ _ _ => rfl
  have hb : (a.e != 0) = false := by simpa using hz
  have t1 : 0 ≤ a.s1 := HA.out.s1.1
  have t1' : a.s1 ≤ 255 := HA.out.s1.2
  have t2 : 0 ≤ a.s2 := HA.out.s2.1
  have t2' : a.s2 ≤ 255 := HA.out.s2.2

  unfold ansV
  unfold ansC at hW ⊢
  have HWW := Lib.hid hW
  have HWD := Lib.hid (show ansW 7 a = cellW a.c1 a.c2 ++ [[115, 107, 121], itoa a.s1] ++ [[108, 97, 109, 112], itoa a.s2] ++ [[100, 117, 101], itoa a.due] by unfold ansW; rw [if_pos rfl])
  clear hW he ha hz
  generalize ansS 7 a = res at HX ⊢
  generalize ansW 7 a = ws at HX HWD HQ1 HQ2 HQ3
  go_enter Tryd.func16, Tryd.ntmps16
  have HC0 := Lib.hid (HM0.out.cell HE.out (by simp [cellW]) a.c1 a.c2 HA.out.c1 HA.out.c2)
  go_wp2_with fail
  rw [← HWW.out]
  go_at_call 37
  refine HC0.out.mono ?_
  rintro e w1 ⟨rfl, r1, h1⟩
  have HM1 := Lib.hid h1
  clear h1
  obtain ⟨c0, c1, c2, c3, c4, c5, c6, c7, c8, c9, c10, c11, c12, c13⟩ := HM1.out.op.ans
  have HC1 := Lib.hid (HM1.out.withs HE.out (by simp [cellW]) [115, 107, 121] a.s1 HA.out.s1.i)
  go_wp2_with fail
  go_at_call 35
  refine HC1.out.mono ?_
  rintro e w2 ⟨rfl, r2, h2⟩
  have HM2 := Lib.hid h2
  clear h2
  clear c0 c1 c2 c3 c4 c5 c6 c7 c8 c9 c10 c11 c12 c13
  obtain ⟨c0, c1, c2, c3, c4, c5, c6, c7, c8, c9, c10, c11, c12, c13⟩ := HM2.out.op.ans
  have HC2 := Lib.hid (HM2.out.withs HE.out (by simp [cellW]) [108, 97, 109, 112] a.s2 HA.out.s2.i)
  go_wp2_with fail
  go_at_call 35
  refine HC2.out.mono ?_
  rintro e w3 ⟨rfl, r3, h3⟩
  have HM3 := Lib.hid h3
  clear h3
  clear c0 c1 c2 c3 c4 c5 c6 c7 c8 c9 c10 c11 c12 c13
  obtain ⟨c0, c1, c2, c3, c4, c5, c6, c7, c8, c9, c10, c11, c12, c13⟩ := HM3.out.op.ans
  have HC3 := Lib.hid (HM3.out.withs HE.out (by simp [cellW]) [100, 117, 101] a.due HA.out.due)
  go_wp2_with fail
  go_at_call 35
  refine HC3.out.mono ?_
  rintro e w4 ⟨rfl, r4, h4⟩
  have HM4 := Lib.hid h4
  clear h4
  clear c0 c1 c2 c3 c4 c5 c6 c7 c8 c9 c10 c11 c12 c13
  obtain ⟨v, hv, hl⟩ := HM4.out.line (by simp [cellW]) (by simp [cellW]) (by have h1 := HQ1.out; rw [HWD.out] at h1; intro x hx; exact h1 x (by simpa [cellW] using hx))
  have HL := Lib.hid hl
  clear hl
  go_wp2_with fail
  go_at_call 25
  refine HL.out.mono ?_
  rintro e w5 ⟨rfl, hb5⟩
  have HB := Lib.hid (HM4.out.below.trans (hb5.mono HM4.out.below.size))
  clear hb5 hv
  go_wp2
  go_ret
  refine ⟨?_, HB.out⟩
  rw [HX.out, HWD.out]
  first | rfl | (congr 3; simp [cellW])
set_option maxRecDepth 100000 in
set_option maxHeartbeats 4000000 in
theorem lans_8 (w : World) (a : AnsR) (ha : a.Ok) (he : Env w) (hz : a.e = 0)  : Calls Tryd.prog 16 #[.int .i64 8, ansV a] w fun e w' => e = .returned (.string (str (ansS 8 a))) ∧ Below w.heap.size w w' := by
  have HM0 := Lib.hid (AnsMid.start w a)
  have HE := Lib.hid he
  have HX := Lib.hid (show ansS 8 a = join (ansW 8 a) [32] by unfold ansS; rw [if_pos hz])
  obtain ⟨q1, q2, q3⟩ := ansW_len (k := 8) ha
  have HQ1 := Lib.hid q1
  have HQ2 := Lib.hid q2
  have HQ3 := Lib.hid q3
  have HA := Lib.hid ha
  clear q1 q2 q3
  obtain ⟨W, hW⟩ : ∃ W, W = (w.alloc (.cells (ansC a) 43)).alloc (.cells #[.slice none 0 0] 52) := ⟨_, rfl⟩
  rw [← hW] at HM0
  have hmf : ∀ (fn : Fn) (first cap : Array Value) (w : World), (Instr.makeFunc fn first cap).run Tryd.prog w = .ok (.func fn first cap) w := fun _ _ _ _ => rfl
  have hb : (a.e != 0) = false := by simpa using hz

  unfold ansV
  unfold ansC at hW ⊢
  have HWW := Lib.hid hW
  have HWD := Lib.hid (show ansW 8 a = [itoa a.x, itoa a.y, itoa a.z] ++ cellW a.c1 a.c2 ++ [[115, 116, 101, 112, 115], itoa a.n] by unfold ansW; rw [if_neg (by decide), if_pos rfl])
  clear hW he ha hz
  generalize ansS 8 a = res at HX ⊢
  generalize ansW 8 a = ws at HX HWD HQ1 HQ2 HQ3
  go_enter Tryd.func16, Tryd.ntmps16
  have HC0 := Lib.hid (HM0.out.numbers HE.out [a.x, a.y, a.z] (by simp) (fun n hn => by simp at hn; rcases hn with rfl | rfl | rfl; exact HA.out.x; exact HA.out.y; exact HA.out.z) (b := w.heap.size + 1 + 1) (n := 3) (by rw [HWW.out]; simp) rfl)
  go_wp2_with fail
  rw [← HWW.out]
  go_at_call 21
  refine HC0.out.mono ?_
  rintro e w1 ⟨rfl, r1, h1⟩
  have HM1 := Lib.hid h1
  clear h1
  obtain ⟨c0, c1, c2, c3, c4, c5, c6, c7, c8, c9, c10, c11, c12, c13⟩ := HM1.out.op.ans
  have HC1 := Lib.hid (HM1.out.cell HE.out (by simp [cellW]) a.c1 a.c2 HA.out.c1 HA.out.c2)
  go_wp2_with fail
  go_at_call 37
  refine HC1.out.mono ?_
  rintro e w2 ⟨rfl, r2, h2⟩
  have HM2 := Lib.hid h2
  clear h2
  clear c0 c1 c2 c3 c4 c5 c6 c7 c8 c9 c10 c11 c12 c13
  obtain ⟨c0, c1, c2, c3, c4, c5, c6, c7, c8, c9, c10, c11, c12, c13⟩ := HM2.out.op.ans
  have HC2 := Lib.hid (HM2.out.withs HE.out (by simp [cellW]) [115, 116, 101, 112, 115] a.n HA.out.n)
  go_wp2_with fail
  go_at_call 35
  refine HC2.out.mono ?_
  rintro e w3 ⟨rfl, r3, h3⟩
  have HM3 := Lib.hid h3
  clear h3
  clear c0 c1 c2 c3 c4 c5 c6 c7 c8 c9 c10 c11 c12 c13
  obtain ⟨v, hv, hl⟩ := HM3.out.line (by simp [cellW]) (by simp [cellW]) (by have h1 := HQ1.out; rw [HWD.out] at h1; intro x hx; exact h1 x (by simpa [cellW] using hx))
  have HL := Lib.hid hl
  clear hl
  go_wp2_with fail
  go_at_call 25
  refine HL.out.mono ?_
  rintro e w4 ⟨rfl, hb4⟩
  have HB := Lib.hid (HM3.out.below.trans (hb4.mono HM3.out.below.size))
  clear hb4 hv
  go_wp2
  go_ret
  refine ⟨?_, HB.out⟩
  rw [HX.out, HWD.out]
  first | rfl | (congr 3; simp [cellW])
set_option maxRecDepth 100000 in
set_option maxHeartbeats 4000000 in
theorem lans_10 (w : World) (a : AnsR) (ha : a.Ok) (he : Env w) (hz : a.e = 0)  : Calls Tryd.prog 16 #[.int .i64 10, ansV a] w fun e w' => e = .returned (.string (str (ansS 10 a))) ∧ Below w.heap.size w w' := by
  have HM0 := Lib.hid (AnsMid.start w a)
  have HE := Lib.hid he
  have HX := Lib.hid (show ansS 10 a = join (ansW 10 a) [32] by unfold ansS; rw [if_pos hz])
  obtain ⟨q1, q2, q3⟩ := ansW_len (k := 10) ha
  have HQ1 := Lib.hid q1
  have HQ2 := Lib.hid q2
  have HQ3 := Lib.hid q3
  have HA := Lib.hid ha
  clear q1 q2 q3
  obtain ⟨W, hW⟩ : ∃ W, W = (w.alloc (.cells (ansC a) 43)).alloc (.cells #[.slice none 0 0] 52) := ⟨_, rfl⟩
  rw [← hW] at HM0
  have hmf : ∀ (fn : Fn) (first cap : Array Value) (w : World), (Instr.makeFunc fn first cap).run Tryd.prog w = .ok (.func fn first cap) w := fun _ _ _ _ => rfl
  have hb : (a.e != 0) = false := by simpa using hz

  unfold ansV
  unfold ansC at hW ⊢
  have HWW := Lib.hid hW
  have HWD := Lib.hid (show ansW 10 a = [[110, 111, 119], itoa a.n] ++ [[112, 108, 97, 99, 101, 100], itoa a.p1] ++ [[98, 114, 111, 107, 101, 110], itoa a.p2] ++ [[103, 114, 111, 119, 110], itoa a.p3] ++ [[98, 117, 114, 110, 116], itoa a.p4] by unfold ansW; rw [if_neg (by decide), if_neg (by decide), if_pos rfl])
  clear hW he ha hz
  generalize ansS 10 a = res at HX ⊢
  generalize ansW 10 a = ws at HX HWD HQ1 HQ2 HQ3
  go_enter Tryd.func16, Tryd.ntmps16
  have HC0 := Lib.hid (HM0.out.withs HE.out (by simp [cellW]) [110, 111, 119] a.n HA.out.n)
  go_wp2_with fail
  rw [← HWW.out]
  go_at_call 35
  refine HC0.out.mono ?_
  rintro e w1 ⟨rfl, r1, h1⟩
  have HM1 := Lib.hid h1
  clear h1
  obtain ⟨c0, c1, c2, c3, c4, c5, c6, c7, c8, c9, c10, c11, c12, c13⟩ := HM1.out.op.ans
  have HC1 := Lib.hid (HM1.out.withs HE.out (by simp [cellW]) [112, 108, 97, 99, 101, 100] a.p1 HA.out.p1)
  go_wp2_with fail
  go_at_call 35
  refine HC1.out.mono ?_
  rintro e w2 ⟨rfl, r2, h2⟩
  have HM2 := Lib.hid h2
  clear h2
  clear c0 c1 c2 c3 c4 c5 c6 c7 c8 c9 c10 c11 c12 c13
  obtain ⟨c0, c1, c2, c3, c4, c5, c6, c7, c8, c9, c10, c11, c12, c13⟩ := HM2.out.op.ans
  have HC2 := Lib.hid (HM2.out.withs HE.out (by simp [cellW]) [98, 114, 111, 107, 101, 110] a.p2 HA.out.p2)
  go_wp2_with fail
  go_at_call 35
  refine HC2.out.mono ?_
  rintro e w3 ⟨rfl, r3, h3⟩
  have HM3 := Lib.hid h3
  clear h3
  clear c0 c1 c2 c3 c4 c5 c6 c7 c8 c9 c10 c11 c12 c13
  obtain ⟨c0, c1, c2, c3, c4, c5, c6, c7, c8, c9, c10, c11, c12, c13⟩ := HM3.out.op.ans
  have HC3 := Lib.hid (HM3.out.withs HE.out (by simp [cellW]) [103, 114, 111, 119, 110] a.p3 HA.out.p3)
  go_wp2_with fail
  go_at_call 35
  refine HC3.out.mono ?_
  rintro e w4 ⟨rfl, r4, h4⟩
  have HM4 := Lib.hid h4
  clear h4
  clear c0 c1 c2 c3 c4 c5 c6 c7 c8 c9 c10 c11 c12 c13
  obtain ⟨c0, c1, c2, c3, c4, c5, c6, c7, c8, c9, c10, c11, c12, c13⟩ := HM4.out.op.ans
  have HC4 := Lib.hid (HM4.out.withs HE.out (by simp [cellW]) [98, 117, 114, 110, 116] a.p4 HA.out.p4)
  go_wp2_with fail
  go_at_call 35
  refine HC4.out.mono ?_
  rintro e w5 ⟨rfl, r5, h5⟩
  have HM5 := Lib.hid h5
  clear h5
  clear c0 c1 c2 c3 c4 c5 c6 c7 c8 c9 c10 c11 c12 c13
  obtain ⟨v, hv, hl⟩ := HM5.out.line (by simp [cellW]) (by simp [cellW]) (by have h1 := HQ1.out; rw [HWD.out] at h1; intro x hx; exact h1 x (by simpa [cellW] using hx))
  have HL := Lib.hid hl
  clear hl
  go_wp2_with fail
  go_at_call 25
  refine HL.out.mono ?_
  rintro e w6 ⟨rfl, hb6⟩
  have HB := Lib.hid (HM5.out.below.trans (hb6.mono HM5.out.below.size))
  clear hb6 hv
  go_wp2
  go_ret
  refine ⟨?_, HB.out⟩
  rw [HX.out, HWD.out]
  first | rfl | (congr 3; simp [cellW])
set_option maxRecDepth 100000 in
set_option maxHeartbeats 4000000 in
theorem lans_x (w : World) (k : Int) (a : AnsR) (ha : a.Ok) (he : Env w) (hz : a.e = 0) (h7 : k ≠ 7) (h8 : k ≠ 8) (h10 : k ≠ 10) : Calls Tryd.prog 16 #[.int .i64 k, ansV a] w fun e w' => e = .returned (.string (str (ansS k a))) ∧ Below w.heap.size w w' := by
  have HM0 := Lib.hid (AnsMid.start w a)
  have HE := Lib.hid he
  have HX := Lib.hid (show ansS k a = join (ansW k a) [32] by unfold ansS; rw [if_pos hz])
  obtain ⟨q1, q2, q3⟩ := ansW_len (k := k) ha
  have HQ1 := Lib.hid q1
  have HQ2 := Lib.hid q2
  have HQ3 := Lib.hid q3
  have HA := Lib.hid ha
  clear q1 q2 q3
  obtain ⟨W, hW⟩ : ∃ W, W = (w.alloc (.cells (ansC a) 43)).alloc (.cells #[.slice none 0 0] 52) := ⟨_, rfl⟩
  rw [← hW] at HM0
  have hmf : ∀ (fn : Fn) (first cap : Array Value) (w : World), (Instr.makeFunc fn first cap).run Tryd.prog w = .ok (.func fn first cap) w := fun _ _ _ _ => rfl
  have hb : (a.e != 0) = false := by simpa using hz

  unfold ansV
  unfold ansC at hW ⊢
  have HWW := Lib.hid hW
  have HWD := Lib.hid (show ansW k a = [[111, 107]] by unfold ansW; rw [if_neg h7, if_neg h8, if_neg h10])
  clear hW he ha hz
  generalize ansS k a = res at HX ⊢
  generalize ansW k a = ws at HX HWD HQ1 HQ2 HQ3
  go_enter Tryd.func16, Tryd.ntmps16
  have HC0 := Lib.hid (HM0.out.text (by simp) [111, 107])
  go_wp2_with fail
  rw [← HWW.out]
  go_at_call 23
  refine HC0.out.mono ?_
  rintro e w1 ⟨rfl, r1, h1⟩
  have HM1 := Lib.hid h1
  clear h1
  obtain ⟨v, hv, hl⟩ := HM1.out.line (by simp [cellW]) (by simp [cellW]) (by have h1 := HQ1.out; rw [HWD.out] at h1; intro x hx; exact h1 x (by simpa [cellW] using hx))
  have HL := Lib.hid hl
  clear hl
  go_wp2_with fail
  go_at_call 25
  refine HL.out.mono ?_
  rintro e w2 ⟨rfl, hb2⟩
  have HB := Lib.hid (HM1.out.below.trans (hb2.mono HM1.out.below.size))
  clear hb2 hv
  go_wp2
  go_ret
  refine ⟨?_, HB.out⟩
  rw [HX.out, HWD.out]
  first | rfl | (congr 3; simp [cellW])
theorem lans_any (w : World) (k : Int) (a : AnsR) (ha : a.Ok) (he : Env w) : Calls Tryd.prog 16 #[.int .i64 k, ansV a] w fun e w' => e = .returned (.string (str (ansS k a))) ∧ Below w.heap.size w w' := by
  by_cases hz : a.e = 0
  · by_cases h7 : k = 7
    · subst h7; exact lans_7 w a ha he hz
    by_cases h8 : k = 8
    · subst h8; exact lans_8 w a ha he hz
    by_cases h10 : k = 10
    · subst h10; exact lans_10 w a ha he hz
    · exact lans_x w k a ha he hz h7 h8 h10
  · exact lans_err w k a ha he hz
end Go.Proofs.YtjbhkmpabajeoaaDoor
