/- Answers: their words; a cell's words, a word and a number: the walks. -/
import Derived.Test.YtjbhkmpabajeoaaDoorLErr
import Derived.Test.YtjbhkmpabajeoaaDoorLPut
namespace Go.Proofs.YtjbhkmpabajeoaaDoor
set_option linter.unusedSimpArgs false
set_option linter.unusedVariables false
open Go.RowKit
open Go.Lib (itoa join)

structure AnsR where
  e : Int
  x : Int
  y : Int
  z : Int
  c1 : Int
  c2 : Int
  s1 : Int
  s2 : Int
  due : Int
  n : Int
  p1 : Int
  p2 : Int
  p3 : Int
  p4 : Int
structure AnsR.Ok (a : AnsR) : Prop where
  e : InI a.e
  x : InI a.x
  y : InI a.y
  z : InI a.z
  c1 : InU a.c1
  c2 : InU a.c2
  s1 : InU a.s1
  s2 : InU a.s2
  due : InI a.due
  n : InI a.n
  p1 : InI a.p1
  p2 : InI a.p2
  p3 : InI a.p3
  p4 : InI a.p4
def ansC (a : AnsR) : Array Value := #[.int .i64 a.e, .int .i64 a.x, .int .i64 a.y, .int .i64 a.z, .int .u8 a.c1, .int .u8 a.c2, .int .u8 a.s1, .int .u8 a.s2, .int .i64 a.due, .int .i64 a.n, .int .i64 a.p1, .int .i64 a.p2, .int .i64 a.p3, .int .i64 a.p4]
def ansV (a : AnsR) : Value := .agg (ansC a)
/-- A name, or a number's digits. -/
def namedS (s : Bs) (n : Int) : Bs := if s = [] then itoa n else s
def cellW (c1 c2 : Int) : List Bs := [namedS (nameK c1) c1, itoa c2]
def ansW (k : Int) (a : AnsR) : List Bs :=
  if k = 7 then cellW a.c1 a.c2 ++ [[115, 107, 121], itoa a.s1] ++ [[108, 97, 109, 112], itoa a.s2] ++ [[100, 117, 101], itoa a.due]
  else if k = 8 then [itoa a.x, itoa a.y, itoa a.z] ++ cellW a.c1 a.c2 ++ [[115, 116, 101, 112, 115], itoa a.n]
  else if k = 10 then [[110, 111, 119], itoa a.n] ++ [[112, 108, 97, 99, 101, 100], itoa a.p1] ++ [[98, 114, 111, 107, 101, 110], itoa a.p2] ++ [[103, 114, 111, 119, 110], itoa a.p3] ++ [[98, 117, 114, 110, 116], itoa a.p4]
  else [[111, 107]]
def ansS (k : Int) (a : AnsR) : Bs := if a.e = 0 then join (ansW k a) [32] else [101, 114, 114, 111, 114, 32] ++ namedS (errS a.e) a.e
theorem namedS_len (s : Bs) (n : Int) (h : s.length ≤ 21) (hn : InI n) : (namedS s n).length ≤ 21 := by
  unfold namedS
  split
  · exact Lib.itoa_length_le _ hn.1 hn.2
  · exact h
theorem ansW_len {k : Int} {a : AnsR} (ha : a.Ok) : (∀ w ∈ ansW k a, w.length ≤ 21) ∧ (ansW k a).length ≤ 10 ∧ 0 < (ansW k a).length := by
  have hi : ∀ {n : Int}, InI n → (itoa n).length ≤ 21 := fun h => Lib.itoa_length_le _ h.1 h.2
  have hc : (namedS (nameK a.c1) a.c1).length ≤ 21 := namedS_len _ _ (by have := nameK_len a.c1; omega) ha.c1.i
  have h2 := hi ha.c2.i
  have h3 := hi ha.s1.i
  have h4 := hi ha.s2.i
  have h5 := hi ha.due
  have h6 := hi ha.x
  have h7 := hi ha.y
  have h8 := hi ha.z
  have h9 := hi ha.n
  have g1 := hi ha.p1
  have g2 := hi ha.p2
  have g3 := hi ha.p3
  have g4 := hi ha.p4
  unfold ansW cellW
  split
  · refine ⟨fun w hw => ?_, by simp, by simp⟩
    simp only [List.cons_append, List.nil_append, List.mem_cons, List.not_mem_nil, or_false] at hw
    rcases hw with rfl | rfl | rfl | rfl | rfl | rfl | rfl | rfl <;> first | assumption | simp
  split
  · refine ⟨fun w hw => ?_, by simp, by simp⟩
    simp only [List.cons_append, List.nil_append, List.mem_cons, List.not_mem_nil, or_false] at hw
    rcases hw with rfl | rfl | rfl | rfl | rfl | rfl | rfl <;> first | assumption | simp
  split
  · refine ⟨fun w hw => ?_, by simp, by simp⟩
    simp only [List.cons_append, List.nil_append, List.mem_cons, List.not_mem_nil, or_false] at hw
    rcases hw with rfl | rfl | rfl | rfl | rfl | rfl | rfl | rfl | rfl | rfl <;> first | assumption | simp
  · exact ⟨fun w hw => by simp at hw; subst hw; simp, by simp, by simp⟩
theorem join_small {l : List Bs} (h : ∀ w ∈ l, w.length ≤ 21) (hn : l.length ≤ 10) : (join l [32]).length ≤ 1000 := by
  cases l with
  | nil => simp [join]
  | cons w ws =>
    rw [Lib.join_length]
    have h1 := h w List.mem_cons_self
    have h2 : ∀ (m : List Bs), (∀ w ∈ m, w.length ≤ 21) → (m.map List.length).sum ≤ 21 * m.length := by
      intro m
      induction m with
      | nil => simp
      | cons x m ih =>
        intro hm
        have := ih fun y hy => hm y (List.mem_cons_of_mem _ hy)
        have := hm x List.mem_cons_self
        simp only [List.map_cons, List.sum_cons, List.length_cons]
        omega
    have := h2 ws fun y hy => h y (List.mem_cons_of_mem _ hy)
    have h3 : Lib.lens (w :: ws) = w.length + (ws.map List.length).sum := by simp [Lib.lens]
    simp only [List.length_cons, List.length_nil] at hn ⊢
    omega

/-! ### words of an answer -/
structure AnsMid (w W : World) (a : AnsR) (l : List Bs) (r : Option Nat) : Prop where
  op : Blk W w.heap.size 43 (ansC a)
  words : WordsAt W w.heap.size (w.heap.size + 1) l r
  below : Below w.heap.size w W
section
variable {w W W' : World} {a : AnsR} {l : List Bs} {r : Option Nat}
theorem AnsMid.start (w : World) (a : AnsR) : AnsMid w ((w.alloc (.cells (ansC a) 43)).alloc (.cells #[.slice none 0 0] 52)) a [] none := by
  refine ⟨(Blk.new w 43 (ansC a)).alloc _, ⟨.slice none 0 0, ?_, World.ownsRow_nil _ _ _ _, rfl, by omega⟩, ((Below.refl _ _).alloc (Nat.le_refl _) _).alloc (by simp) _⟩
  have := Blk.new (w.alloc (.cells (ansC a) 43)) 52 #[.slice none 0 0]
  rwa [show (w.alloc (.cells (ansC a) 43)).heap.size = w.heap.size + 1 from by simp] at this
theorem AnsMid.under (h : AnsMid w W a l r) (hb : Below W.heap.size W W') : AnsMid w W' a l r :=
  ⟨h.op.below hb h.op.lt, h.words.below hb, h.below.trans (hb.mono h.below.size)⟩
theorem AnsMid.alloc (h : AnsMid w W a l r) (x : Obj) : AnsMid w (W.alloc x) a l r := h.under ((Below.refl _ _).alloc (Nat.le_refl _) x)
theorem AnsMid.worded (h : AnsMid w W a l r) {m : List Bs} (hw : Worded W W' w.heap.size (w.heap.size + 1) m r) : ∃ r', AnsMid w W' a m r' := by
  have hw' := hw
  obtain ⟨⟨r', h1, h2⟩, h3⟩ := hw
  exact ⟨r', hw'.blk h.words h.op (by decide) (by decide), h1, h.below.trans (h3.below (fun x hx => h.words.frame x hx) (Nat.le_of_lt h.op.lt))⟩
theorem AnsMid.env (h : AnsMid w W a l r) (he : Env w) : Env W := he.next h.below
end
set_option maxRecDepth 100000 in
set_option maxHeartbeats 1000000 in
/-- A word and a number, put behind words. -/
theorem with_any (W : World) (base g : Nat) (l : List Bs) (r : Option Nat) (s : Bs) (n : Int) (hw : WordsAt W base g l r) (hl : l.length ≤ 1000) (he : Env W) (h8 : 8 ≤ base) (hn : InI n) :
    Calls Tryd.prog 35 #[.string (str s), .int .i64 n, .pointer (some ⟨g, 0, none⟩)] W fun e w' => e = .returned (.tuple #[]) ∧ Worded W w' base g (l ++ [s, itoa n]) r := by
  have HT := Lib.hid (text_any W base g l r s hw (by omega))
  have HW := Lib.hid hw
  have HE := Lib.hid he
  have HN := Lib.hid hn
  clear hw he hn
  go_enter Tryd.func35, Tryd.ntmps35
  go_wp2_with fail
  go_at_call 23
  refine HT.out.mono ?_
  rintro e w1 ⟨rfl, h1⟩
  have h2 := h1.below ((Below.refl _ _).alloc (Nat.le_refl _) (.cells #[.int .i64 n] 3))
  have hE := h2.env HW.out HE.out h8
  obtain ⟨r', hr1, hr2⟩ := h2.elim
  have HR := Lib.hid hr2
  have HNU := Lib.hid (numbers_any _ base g w1.heap.size _ r' [n] hr1 (by simp; omega) hE h8 (Blk.new _ _ _) (fun m hm => by simp at hm; subst hm; exact HN.out))
  clear h1 h2 hE hr1 hr2
  go_wp2_with fail
  go_at_call 21
  refine HNU.out.mono ?_
  rintro e w2 ⟨rfl, h3⟩
  have H3 := Lib.hid (HR.out _ _ h3)
  clear h3
  go_wp2
  go_end0
  refine ⟨rfl, ?_⟩
  have := H3.out
  simpa using this
set_option maxRecDepth 100000 in
set_option maxHeartbeats 2000000 in
/-- A cell's kind and level, put behind words. -/
theorem wcell_any (W : World) (base g : Nat) (l : List Bs) (r : Option Nat) (c1 c2 : Int) (hw : WordsAt W base g l r) (hl : l.length ≤ 1000) (he : Env W) (h8 : 8 ≤ base) (h1 : InU c1) (h2 : InU c2) :
    Calls Tryd.prog 37 #[.pointer (some ⟨g, 0, none⟩), .agg #[.int .u8 c1, .int .u8 c2]] W fun e w' => e = .returned (.tuple #[]) ∧ Worded W w' base g (l ++ cellW c1 c2) r := by
  have HNM := Lib.hid (fun w => name_any w c1 h1)
  have HI := Lib.hid (fun w (h : Env w) => itoa_any w c1 h1.i h)
  have HTX := Lib.hid (fun W' r' (h : WordsAt W' base g l r') (s : Bs) => text_any W' base g l r' s h (by omega))
  have HW := Lib.hid (hw.alloc (.cells #[.int .u8 c1, .int .u8 c2] 25))
  have HE := Lib.hid (he.alloc (.cells #[.int .u8 c1, .int .u8 c2] 25))
  have HK := Lib.hid (Blk.new W 25 #[.int .u8 c1, .int .u8 c2])
  have HW0 := Lib.hid hw
  have H2 := Lib.hid h2.i
  have hd : cellW c1 c2 = [namedS (nameK c1) c1, itoa c2] := rfl
  have HD := Lib.hid hd
  have hnm : namedS (nameK c1) c1 = if nameK c1 = [] then itoa c1 else nameK c1 := rfl
  have HNN := Lib.hid hnm
  clear hw he hd hnm
  generalize nameK c1 = nm at HNM HD HNN
  generalize cellW c1 c2 = cw at HD ⊢
  have r1 : 0 ≤ c1 := h1.1
  have r2 : c1 ≤ 255 := h1.2
  have r3 : 0 ≤ c2 := h2.1
  have r4 : c2 ≤ 255 := h2.2
  rcases Bool.eq_false_or_eq_true (nm.isEmpty) with hm | hm
  · have hm0 : nm = [] := by simpa using hm
    subst hm0
    clear hm
    go_enter Tryd.func37, Tryd.ntmps37
    go_wp2_with fail
    go_at_call 22
    refine (HNM.out _).mono ?_
    rintro e w1 ⟨rfl, hb1⟩
    have HE1 := Lib.hid (HE.out.next hb1)
    have HK1 := Lib.hid (HK.out.below hb1 HK.out.lt)
    have c0 := HK1.out.cell 0
    simp only [List.getElem?_toArray, List.getElem?_cons_zero, List.getElem?_cons_succ] at c0
    have HB1 := Lib.hid (((Below.refl W.heap.size W).alloc (Nat.le_refl _) (.cells #[.int .u8 c1, .int .u8 c2] 25)).trans (hb1.mono (by simp)))
    clear hb1
    go_wp2_with fail
    go_at_call 36
    refine (HI.out _ HE1.out).mono ?_
    rintro e w2 ⟨rfl, hb2⟩
    have HB2 := Lib.hid (HB1.out.trans (hb2.mono HB1.out.size))
    have HK2 := Lib.hid (HK1.out.below hb2 HK1.out.lt)
    have HE2 := Lib.hid (HE1.out.next hb2)
    obtain ⟨r1, hr1, hx1⟩ := ((Worded.refl HW0.out).below HB2.out).elim
    have HTX1 := Lib.hid (HTX.out w2 r1 hr1 (itoa c1))
    have HR1 := Lib.hid hr1
    have HX1 := Lib.hid hx1
    clear hb2 c0 hr1 hx1
    go_wp2_with fail
    go_at_call 23
    refine HTX1.out.mono ?_
    rintro e w3 ⟨rfl, h3⟩
    have HD2 := Lib.hid (HX1.out _ _ h3)
    have HK3 := Lib.hid (h3.blk HR1.out HK2.out (by decide) (by decide))
    have HE3 := Lib.hid (h3.env HR1.out HE2.out h8)
    have c1' := HK3.out.cell 1
    simp only [List.getElem?_toArray, List.getElem?_cons_zero, List.getElem?_cons_succ] at c1'
    obtain ⟨r2, hr2, hx2⟩ := (HD2.out.below ((Below.refl _ _).alloc (Nat.le_refl _) (.cells #[.int .i64 c2] 3))).elim
    have HNU := Lib.hid (numbers_any _ base g w3.heap.size _ r2 [c2] hr2 (by simp; omega) (HE3.out.alloc _) h8 (Blk.new _ _ _) (fun m hm => by simp at hm; subst hm; exact H2.out))
    have HX2 := Lib.hid hx2
    clear h3 hr2 hx2
    go_wp2_with fail
    go_at_call 21
    refine HNU.out.mono ?_
    rintro e w4 ⟨rfl, h4⟩
    have HD4 := Lib.hid (HX2.out _ _ h4)
    clear h4 c1'
    go_wp2
    go_end0
    refine ⟨rfl, ?_⟩
    have := HD4.out
    rw [HD.out, HNN.out]
    rw [if_pos trivial]
    simpa using this
  · have hm0 : nm ≠ [] := by simpa using hm
    have HM := Lib.hid hm0
    clear hm0
    go_enter Tryd.func37, Tryd.ntmps37
    go_wp2_with fail
    go_at_call 22
    refine (HNM.out _).mono ?_
    rintro e w2 ⟨rfl, hb1⟩
    have HE2 := Lib.hid (HE.out.next hb1)
    have HK2 := Lib.hid (HK.out.below hb1 HK.out.lt)
    have HB2 := Lib.hid (((Below.refl W.heap.size W).alloc (Nat.le_refl _) (.cells #[.int .u8 c1, .int .u8 c2] 25)).trans (hb1.mono (by simp)))
    obtain ⟨r1, hr1, hx1⟩ := ((Worded.refl HW0.out).below HB2.out).elim
    have HTX1 := Lib.hid (HTX.out w2 r1 hr1 nm)
    have HR1 := Lib.hid hr1
    have HX1 := Lib.hid hx1
    clear hb1 hr1 hx1
    go_wp2_with fail
    go_at_call 23
    refine HTX1.out.mono ?_
    rintro e w3 ⟨rfl, h3⟩
    have HD2 := Lib.hid (HX1.out _ _ h3)
    have HK3 := Lib.hid (h3.blk HR1.out HK2.out (by decide) (by decide))
    have HE3 := Lib.hid (h3.env HR1.out HE2.out h8)
    have c1' := HK3.out.cell 1
    simp only [List.getElem?_toArray, List.getElem?_cons_zero, List.getElem?_cons_succ] at c1'
    obtain ⟨r2, hr2, hx2⟩ := (HD2.out.below ((Below.refl _ _).alloc (Nat.le_refl _) (.cells #[.int .i64 c2] 3))).elim
    have HNU := Lib.hid (numbers_any _ base g w3.heap.size _ r2 [c2] hr2 (by simp; omega) (HE3.out.alloc _) h8 (Blk.new _ _ _) (fun m hm => by simp at hm; subst hm; exact H2.out))
    have HX2 := Lib.hid hx2
    clear h3 hr2 hx2
    go_wp2_with fail
    go_at_call 21
    refine HNU.out.mono ?_
    rintro e w4 ⟨rfl, h4⟩
    have HD4 := Lib.hid (HX2.out _ _ h4)
    clear h4 c1'
    go_wp2
    go_end0
    refine ⟨rfl, ?_⟩
    have := HD4.out
    rw [HD.out, HNN.out]
    rw [if_neg HM.out]
    simpa using this
end Go.Proofs.YtjbhkmpabajeoaaDoor
