/- The library's tables, kept; words in memory. -/
import Derived.Test.YtjbhkmpabajeoaaDoorLBack
import Derived.Test.YtjbhkmpabajeoaaDoorShelf
import Derived.Test.YtjbhkmpabajeoaaDoorOnly
import Derived.Deep.RegionLaw
import Derived.BigQuiet
import Derived.BigRegion
namespace Go.Proofs.YtjbhkmpabajeoaaDoor
set_option linter.unusedSimpArgs false
set_option linter.unusedVariables false
open Go.RowKit

/-- A list of bytes as a string. -/
abbrev str (l : Bs) : ByteArray := ⟨l.toArray⟩
theorem str_data (s : ByteArray) : str s.data.toList = s := rfl
theorem str_list (l : Bs) : (str l).data.toList = l := rfl
theorem str_size (l : Bs) : (str l).size = l.length := rfl

/-- What the library's tables hold. -/
structure Env (w : World) : Prop where
  most : ∃ m : Int, w.cell? ⟨0, 0, none⟩ = some (.int .i64 m)
  pow : Lib.TabIs Tryd.prog w "internal/strconv.uint64pow10" .u64 Lib.pow10Tab
  syn : ∃ tp p, w.var? Tryd.prog "strconv.ErrSyntax" = some #[.iface tp p]
  ran : ∃ tp p, w.var? Tryd.prog "strconv.ErrRange" = some #[.iface tp p]
  size : 8 ≤ w.heap.size
theorem var_keep {P : Program} {w w' : World} {name : String} {cs : Array Value} {g : Nat} (hg : P.globalNamed name = some g) (h : w.var? P name = some cs) (hk : w'.heap[g]? = w.heap[g]?) : w'.var? P name = some cs := by
  unfold World.var? at h ⊢
  rw [hg] at h ⊢
  simp only [Option.bind_some] at h ⊢
  rw [hk]
  exact h
theorem gPow : Tryd.prog.globalNamed "internal/strconv.uint64pow10" = some 1 := by kernel_rfl
theorem gSyn : Tryd.prog.globalNamed "strconv.ErrSyntax" = some 4 := by kernel_rfl
theorem gRan : Tryd.prog.globalNamed "strconv.ErrRange" = some 5 := by kernel_rfl
theorem Env.keep {w w' : World} (h : Env w) (hs : 8 ≤ w'.heap.size) (hk : ∀ k, k < 8 → w'.heap[k]? = w.heap[k]?) : Env w' := by
  obtain ⟨⟨m, h1⟩, h2, ⟨t1, p1, h3⟩, ⟨t2, p2, h4⟩, h5⟩ := h
  exact ⟨⟨m, (World.cell?_of_block (hk _ (by decide))).trans h1⟩, var_keep gPow h2 (hk _ (by decide)), ⟨t1, p1, var_keep gSyn h3 (hk _ (by decide))⟩, ⟨t2, p2, var_keep gRan h4 (hk _ (by decide))⟩, hs⟩
theorem Env.below {w w' : World} {B : Nat} (h : Env w) (hb : Below B w w') (hB : 8 ≤ B) : Env w' := h.keep (Nat.le_trans h.size hb.size) fun k hk => hb.block k (by omega)
theorem Env.next {w w' : World} (h : Env w) (hb : Below w.heap.size w w') : Env w' := h.below hb h.size
theorem Env.only {w w' : World} {S : Nat → Prop} (h : Env w) (ho : Only w w' S) (hS : ∀ k, S k → 8 ≤ k) : Env w' :=
  h.keep (Nat.le_trans h.size ho.size) fun k hk => ho.block k (by have := h.size; omega) (fun hs => by have := hS k hs; omega)
theorem Env.alloc {w : World} (h : Env w) (o : Obj) : Env (w.alloc o) := h.next ((Below.refl _ _).alloc (Nat.le_refl _) o)
theorem Env.drew {w : World} (h : Env w) : Env w.drew := ⟨h.most, h.pow, h.syn, h.ran, h.size⟩
theorem Env.setCell {w : World} (h : Env w) {p : Addr} (hp : 8 ≤ p.block) (v : Value) : Env (w.setCell p v) := h.keep (by simpa [World.setCell] using h.size) fun k hk => Below.heap_setCell w p v k (by omega)

/-! ### the library's calls -/
theorem itoa_any (w : World) (n : Int) (hn : InI n) (he : Env w) : Calls Tryd.prog 36 #[.int .i64 n] w fun e w' => e = .returned (.string (str (Lib.itoa n))) ∧ Below w.heap.size w w' := by
  refine (Tryd.strconv_Itoa n hn.1 hn.2 w he.pow).mono fun e w' ⟨h1, k, os, h2⟩ => ⟨h1, ?_⟩
  subst h2
  have h : Below w.heap.size w (w.drewN k) := ⟨rfl, rfl, rfl, Nat.le_refl _, fun _ _ => rfl⟩
  refine h.trans ⟨rfl, rfl, rfl, ?_, fun j hj => ?_⟩
  · simp [Go.Sort.size_grow]
  · exact Go.Sort.heap_grow_old _ _ hj
/-- Atoi at a word that is just a number's digits, at another one. -/
theorem below_bytes {w w' : World} {t : TypeId} {s : ByteArray} (h : w' = w ∨ w' = Lib.bytesWorld w t s) : Below w.heap.size w w' := by
  rcases h with rfl | rfl
  · exact Below.refl _ _
  · exact ⟨rfl, rfl, rfl, by rw [Lib.bytesWorld_size]; omega, fun k hk => Lib.bytesWorld_at_old w _ s k hk⟩
theorem atoi_ok (w : World) (s : ByteArray) (hs : s.size ≤ 1024) {v : Int} (h : Lib.atoiAll s.data.toList = .ok v) : Calls Tryd.prog 59 #[.string s] w fun e w' => e = .returned (.tuple #[.int .i64 v, .nilIface]) ∧ Below w.heap.size w w' := by
  refine (Tryd.strconv_Atoi_ok s (by omega) v h w).mono fun e w' ⟨h1, h2⟩ => ⟨h1, ?_⟩
  rcases h2 with h2 | ⟨t, h2⟩
  · exact below_bytes (s := s) (t := 0) (.inl h2)
  · exact below_bytes (.inr h2)
theorem atoi_no (w : World) (s : ByteArray) (hs : s.size ≤ 1024) (he : Env w) (h : ∀ v, Lib.atoiAll s.data.toList ≠ .ok v) : Calls Tryd.prog 59 #[.string s] w fun e w' => (∃ v t N, e = .returned (.tuple #[.int .i64 v, .iface t (.pointer (some ⟨N, 0, none⟩))])) ∧ Below w.heap.size w w' := by
  by_cases h' : Lib.atoiAll s.data.toList = .range
  · obtain ⟨tp, p, hv⟩ := he.ran
    exact (Tryd.strconv_Atoi_range_var s (by omega) h' tp p w hv).mono fun e w' ⟨N, h1, _, _, h2⟩ => ⟨⟨_, _, N, h1⟩, h2⟩
  · obtain ⟨tp, p, hv⟩ := he.syn
    exact (Tryd.strconv_Atoi_syntax_var s (by omega) h h' tp p w hv).mono fun e w' ⟨N, h1, _, _, h2⟩ => ⟨⟨_, _, N, h1⟩, h2⟩
/-- Split at a blank. -/
theorem split_cells (s : ByteArray) : ((Lib.splitB (str [32]) 0 (Lib.countB s (str [32])) s).map Value.string) = (words s.data.toList).map fun l => Value.string (str l) := by
  have h := Lib.splitB_data (str [32]) 0 (Lib.countB s (str [32])) s
  have e : Lib.countB s (str [32]) = Lib.count s.data.toList [32] := rfl
  rw [e] at h ⊢
  rw [show (str [32]).data.toList = [32] from rfl, splitK_words] at h
  rw [← h, List.map_map]
  rfl
theorem split_any (w : World) (s : ByteArray) (hs : s.size ≤ 1024) (he : Env w) : Calls Tryd.prog 29 #[.string s, .string (str [32])] w fun e w' =>
    e = .returned (.slice (some ⟨w.heap.size, 0, none⟩) (words s.data.toList).length (words s.data.toList).length) ∧ w' = w.alloc (.cells ((words s.data.toList).map fun l => Value.string (str l)).toArray 9) := by
  obtain ⟨m, hm⟩ := he.most
  refine (Tryd.strings_Split s (str [32]) m w (by omega) hm (by decide)).mono fun e w' ⟨h1, h2⟩ => ?_
  have hc := congrArg List.length (split_cells s)
  rw [List.length_map, List.length_map, Lib.splitB_all _ (by decide) 0 _ s rfl] at hc
  rw [hc] at h1
  rw [split_cells] at h2
  exact ⟨h1, h2⟩
end Go.Proofs.YtjbhkmpabajeoaaDoor
