/- LineStrict: the walks. -/
import Derived.Test.YtjbhkmpabajeoaaDoorLBackW
import Derived.Deep.RegionHeld
namespace Go.Proofs.YtjbhkmpabajeoaaDoor
set_option linter.unusedSimpArgs false
set_option linter.unusedVariables false
open Go.RowKit

theorem cut_list (l : Bs) (m : Nat) (hm : m ≤ l.length) : ((str l).extract 0 m ++ ⟨#[32]⟩ ++ (str l).extract m (str l).size : ByteArray).data.toList = l.take m ++ 32 :: l.drop m := by
  simp [ByteArray.data_append, str, ByteArray.data_extract, List.extract_eq_take_drop, ByteArray.size]
  exact List.take_of_length_le (by simp)
theorem get_split {o : OpR} {l : Bs} (ho : o.Ok) (hp : putP o = some l) (x : ByteArray) (m : Nat) (hx : x.data.toList = l.take m ++ 32 :: l.drop m) (W : World) (hE : Env W) :
    Calls Tryd.prog 14 #[.string x] W fun e w' => e = .returned (.tuple #[opV OpR.zero, .int .i64 30]) ∧ Below W.heap.size W w' := by
  obtain ⟨l0, l1⟩ := put_len ho hp
  have hn : getP (l.take m ++ 32 :: l.drop m) = none := get_blank (by rw [List.take_append_drop]; exact hp)
  have hsz : (l.take m ++ 32 :: l.drop m).length ≤ 201 := by rw [List.length_append, List.length_cons, List.length_take, List.length_drop]; omega
  have := get_walk W x (by have h2 := hsz; rw [← hx, Array.length_toList] at h2; exact Nat.le_trans h2 (by decide)) hE
  rwa [hx, getV_none (by omega) hn] at this
theorem zero_kept {w w' : World} (hb : Below (w.alloc (.cells #[.int .i64 0, .int .i64 0, .int .i64 0, .int .i64 0, .int .i64 0, .int .i64 0, .int .i64 0, .int .u8 0, .int .u8 0, .int .i64 0] 27)).drew.heap.size (w.alloc (.cells #[.int .i64 0, .int .i64 0, .int .i64 0, .int .i64 0, .int .i64 0, .int .i64 0, .int .i64 0, .int .u8 0, .int .u8 0, .int .i64 0] 27)).drew w') : (w'.cell? ⟨w.heap.size, 0, none⟩ = some (.int .i64 0) ∧ w'.cell? ⟨w.heap.size, 1, none⟩ = some (.int .i64 0) ∧ w'.cell? ⟨w.heap.size, 2, none⟩ = some (.int .i64 0) ∧ w'.cell? ⟨w.heap.size, 3, none⟩ = some (.int .i64 0) ∧ w'.cell? ⟨w.heap.size, 4, none⟩ = some (.int .i64 0) ∧ w'.cell? ⟨w.heap.size, 5, none⟩ = some (.int .i64 0) ∧ w'.cell? ⟨w.heap.size, 6, none⟩ = some (.int .i64 0) ∧ w'.cell? ⟨w.heap.size, 7, none⟩ = some (.int .u8 0) ∧ w'.cell? ⟨w.heap.size, 8, none⟩ = some (.int .u8 0) ∧ w'.cell? ⟨w.heap.size, 9, none⟩ = some (.int .i64 0)) ∧ (w'.frozen? ⟨w.heap.size, 0, none⟩ = false ∧ w'.frozen? ⟨w.heap.size, 1, none⟩ = false ∧ w'.frozen? ⟨w.heap.size, 2, none⟩ = false ∧ w'.frozen? ⟨w.heap.size, 3, none⟩ = false ∧ w'.frozen? ⟨w.heap.size, 4, none⟩ = false ∧ w'.frozen? ⟨w.heap.size, 5, none⟩ = false ∧ w'.frozen? ⟨w.heap.size, 6, none⟩ = false ∧ w'.frozen? ⟨w.heap.size, 7, none⟩ = false ∧ w'.frozen? ⟨w.heap.size, 8, none⟩ = false ∧ w'.frozen? ⟨w.heap.size, 9, none⟩ = false) :=
  Blk.op (o := OpR.zero) ((Blk.new w 27 (opC OpR.zero)).drew.below hb (Blk.new w 27 (opC OpR.zero)).drew.lt)
theorem Env.set {w : World} (h : Env w) {p : Addr} (hp : 8 ≤ p.block) (u : Value) : Env (w.setCell p u) :=
  h.keep (by simpa [World.setCell] using h.size) fun k hk => Below.heap_setCell _ _ _ _ (by omega)
theorem st_a {w w1 w2 : World} (HB : Below w.heap.size w w1) (hb : Below w1.drew.heap.size w1.drew w2) : Below w.heap.size w w2 := HB.drew.trans (hb.mono HB.size)
theorem st_b {w w1 w2 : World} {o : Obj} (HB : Below w.heap.size w w1) (hb : Below (w1.alloc o).drew.heap.size (w1.alloc o).drew w2) : Below w.heap.size w w2 :=
  (HB.alloc HB.size o).drew.trans (hb.mono (HB.alloc HB.size o).size)
theorem Blk.other {w : World} {g : Nat} {t : TypeId} {cs : Array Value} (h : Blk w g t cs) {p : Addr} (hne : g ≠ p.block) (u : Value) : Blk (w.setCell p u) g t cs := (Below.heap_setCell w p u g hne).trans h
theorem ten_blk {w : World} {g : Nat} {t : TypeId} {x0 x1 x2 x3 x4 x5 x6 x7 x8 x9 : Value} (h : Blk w g t #[x0, x1, x2, x3, x4, x5, x6, x7, x8, x9]) (v0 v1 v2 v3 v4 v5 v6 v7 v8 v9 : Value) : Blk ((((((((((w.setCell ⟨g, 0, none⟩ v0).setCell ⟨g, 1, none⟩ v1).setCell ⟨g, 2, none⟩ v2).setCell ⟨g, 3, none⟩ v3).setCell ⟨g, 4, none⟩ v4).setCell ⟨g, 5, none⟩ v5).setCell ⟨g, 6, none⟩ v6).setCell ⟨g, 7, none⟩ v7).setCell ⟨g, 8, none⟩ v8).setCell ⟨g, 9, none⟩ v9) g t #[v0, v1, v2, v3, v4, v5, v6, v7, v8, v9] := by
  have b0 : Blk (w.setCell ⟨g, 0, none⟩ v0) g t #[v0, x1, x2, x3, x4, x5, x6, x7, x8, x9] := h.set_ 0 v0
  have b1 : Blk ((w.setCell ⟨g, 0, none⟩ v0).setCell ⟨g, 1, none⟩ v1) g t #[v0, v1, x2, x3, x4, x5, x6, x7, x8, x9] := b0.set_ 1 v1
  have b2 : Blk (((w.setCell ⟨g, 0, none⟩ v0).setCell ⟨g, 1, none⟩ v1).setCell ⟨g, 2, none⟩ v2) g t #[v0, v1, v2, x3, x4, x5, x6, x7, x8, x9] := b1.set_ 2 v2
  have b3 : Blk ((((w.setCell ⟨g, 0, none⟩ v0).setCell ⟨g, 1, none⟩ v1).setCell ⟨g, 2, none⟩ v2).setCell ⟨g, 3, none⟩ v3) g t #[v0, v1, v2, v3, x4, x5, x6, x7, x8, x9] := b2.set_ 3 v3
  have b4 : Blk (((((w.setCell ⟨g, 0, none⟩ v0).setCell ⟨g, 1, none⟩ v1).setCell ⟨g, 2, none⟩ v2).setCell ⟨g, 3, none⟩ v3).setCell ⟨g, 4, none⟩ v4) g t #[v0, v1, v2, v3, v4, x5, x6, x7, x8, x9] := b3.set_ 4 v4
  have b5 : Blk ((((((w.setCell ⟨g, 0, none⟩ v0).setCell ⟨g, 1, none⟩ v1).setCell ⟨g, 2, none⟩ v2).setCell ⟨g, 3, none⟩ v3).setCell ⟨g, 4, none⟩ v4).setCell ⟨g, 5, none⟩ v5) g t #[v0, v1, v2, v3, v4, v5, x6, x7, x8, x9] := b4.set_ 5 v5
  have b6 : Blk (((((((w.setCell ⟨g, 0, none⟩ v0).setCell ⟨g, 1, none⟩ v1).setCell ⟨g, 2, none⟩ v2).setCell ⟨g, 3, none⟩ v3).setCell ⟨g, 4, none⟩ v4).setCell ⟨g, 5, none⟩ v5).setCell ⟨g, 6, none⟩ v6) g t #[v0, v1, v2, v3, v4, v5, v6, x7, x8, x9] := b5.set_ 6 v6
  have b7 : Blk ((((((((w.setCell ⟨g, 0, none⟩ v0).setCell ⟨g, 1, none⟩ v1).setCell ⟨g, 2, none⟩ v2).setCell ⟨g, 3, none⟩ v3).setCell ⟨g, 4, none⟩ v4).setCell ⟨g, 5, none⟩ v5).setCell ⟨g, 6, none⟩ v6).setCell ⟨g, 7, none⟩ v7) g t #[v0, v1, v2, v3, v4, v5, v6, v7, x8, x9] := b6.set_ 7 v7
  have b8 : Blk (((((((((w.setCell ⟨g, 0, none⟩ v0).setCell ⟨g, 1, none⟩ v1).setCell ⟨g, 2, none⟩ v2).setCell ⟨g, 3, none⟩ v3).setCell ⟨g, 4, none⟩ v4).setCell ⟨g, 5, none⟩ v5).setCell ⟨g, 6, none⟩ v6).setCell ⟨g, 7, none⟩ v7).setCell ⟨g, 8, none⟩ v8) g t #[v0, v1, v2, v3, v4, v5, v6, v7, v8, x9] := b7.set_ 8 v8
  have b9 : Blk ((((((((((w.setCell ⟨g, 0, none⟩ v0).setCell ⟨g, 1, none⟩ v1).setCell ⟨g, 2, none⟩ v2).setCell ⟨g, 3, none⟩ v3).setCell ⟨g, 4, none⟩ v4).setCell ⟨g, 5, none⟩ v5).setCell ⟨g, 6, none⟩ v6).setCell ⟨g, 7, none⟩ v7).setCell ⟨g, 8, none⟩ v8).setCell ⟨g, 9, none⟩ v9) g t #[v0, v1, v2, v3, v4, v5, v6, v7, v8, v9] := b8.set_ 9 v9
  exact b9
theorem gen_kept {K : Exit → Act → World → Prop} {e : Exit} {a : Act} {w W : World} {g : Nat} {t : TypeId} {cs : Array Value} (hB : Below w.heap.size w W) (hK : Blk W g t cs) (h : ∀ W', Below w.heap.size w W' → Blk W' g t cs → K e a W') : K e a W := h W hB hK
theorem gen_two {K : Exit → Act → World → Prop} {e : Exit} {a : Act} {w W : World} {g g' : Nat} {t t' : TypeId} {cs cs' : Array Value} (hB : Below w.heap.size w W) (hK : Blk W g t cs) (hN : Blk W g' t' cs') (h : ∀ W', Below w.heap.size w W' → Blk W' g t cs → Blk W' g' t' cs' → K e a W') : K e a W := h W hB hK hN
theorem gen_below {K : Exit → Act → World → Prop} {e : Exit} {a : Act} {w W : World} (hB : Below w.heap.size w W) (h : ∀ W', Below w.heap.size w W' → K e a W') : K e a W := h W hB
theorem get_less {l : Bs} {x : ByteArray} {m : Nat} {v : Value} (h1 : l.length ≤ 200) (hg : getV (l.take m ++ l.drop (m + 1)) = v) (hx : x.data.toList = l.take m ++ l.drop (m + 1)) (W : World) (hE : Env W) :
    Calls Tryd.prog 14 #[.string x] W fun e w' => e = .returned v ∧ Below W.heap.size W w' := by
  have hsz : (l.take m ++ l.drop (m + 1)).length ≤ 201 := by rw [List.length_append, List.length_take, List.length_drop]; omega
  have := get_walk W x (by have h2 := hsz; rw [← hx, Array.length_toList] at h2; exact Nat.le_trans h2 (by decide)) hE
  rwa [hx, hg] at this
theorem zero_blk {w w' : World} (hb : Below (w.alloc (.cells #[.int .i64 0, .int .i64 0, .int .i64 0, .int .i64 0, .int .i64 0, .int .i64 0, .int .i64 0, .int .u8 0, .int .u8 0, .int .i64 0] 27)).drew.heap.size (w.alloc (.cells #[.int .i64 0, .int .i64 0, .int .i64 0, .int .i64 0, .int .i64 0, .int .i64 0, .int .i64 0, .int .u8 0, .int .u8 0, .int .i64 0] 27)).drew w') : Blk w' w.heap.size 27 #[.int .i64 0, .int .i64 0, .int .i64 0, .int .i64 0, .int .i64 0, .int .i64 0, .int .i64 0, .int .u8 0, .int .u8 0, .int .i64 0] :=
  (Blk.new w 27 (opC OpR.zero)).drew.below hb (Blk.new w 27 (opC OpR.zero)).drew.lt
theorem less_list (l : Bs) (m : Nat) : ((str l).extract 0 m ++ (str l).extract (m + 1) l.length : ByteArray).data.toList = l.take m ++ l.drop (m + 1) := by
  simp [ByteArray.data_append, str, ByteArray.data_extract, List.extract_eq_take_drop]
  exact List.take_of_length_le (by simp)
theorem cut_list2 (l : Bs) (m : Nat) : ((str l).extract 0 m ++ ⟨#[32]⟩ ++ (str l).extract m l.length : ByteArray).data.toList = l.take m ++ 32 :: l.drop m := by
  simp [ByteArray.data_append, str, ByteArray.data_extract, List.extract_eq_take_drop]
  exact List.take_of_length_le (by simp)
theorem strict_none_put (w : World) (o : OpR) (at_ : Int) (ho : o.Ok) (he : Env w) (hp : putP o = none) : Calls Tryd.prog 6 #[opV o, .int .i64 at_] w fun e w' => e = .returned (.bool true) ∧ Below w.heap.size w w' := by
  have HP := Lib.hid (fun W => put_walk W o ho)
  have HW := Lib.hid works_any
  rw [putV_none hp] at HP
  have HE0 := Lib.hid he
  have HE := Lib.hid (he.alloc (.cells (opC o) 27))
  have HB := Lib.hid ((Below.refl w.heap.size w).alloc (Nat.le_refl _) (.cells (opC o) 27))
  unfold opV at HP ⊢
  simp only [opC] at HP HE HB ⊢
  clear he
  go_enter Tryd.func6, Tryd.ntmps6
  go_wp2_with fail
  go_at_call 11
  refine (HP.out _ HE.out).mono ?_
  rintro e w1 ⟨rfl, hb⟩
  have HE1 := Lib.hid (HE.out.next hb)
  have HB1 := Lib.hid (HB.out.trans (hb.mono HB.out.size))
  clear hb
  go_wp2_with (go_at_call 13; (with_reducible refine (HW.out _ HE1.out).mono ?_); rintro e w3 ⟨rfl, hb⟩)
  go_ret
  exact ⟨rfl, HB1.out.trans (hb.mono HB1.out.size)⟩
end Go.Proofs.YtjbhkmpabajeoaaDoor
