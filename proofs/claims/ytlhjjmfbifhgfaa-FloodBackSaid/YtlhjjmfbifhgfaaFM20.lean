/- Joined texts of one seat, each under its own heading below. -/
import Derived.Test.YtlhjjmfbifhgfaaFM18
/- An edit: a cell of the small world becomes another one: the walk. -/
namespace Go.Proofs.Ytlhjjmfbifhgfaa
set_option linter.unusedSimpArgs false
set_option linter.unusedVariables false
open Go.RowKit
set_option maxRecDepth 100000

/-- The index that an edit means, of so many cells; the cell that it puts. -/
def edIx (n : Int) (s : Nat) : Nat := (n % 65536).toNat % s
def edC (c : Int × Int) : Int × Int := if mayC c.1 c.2 = true then c else (0, 0)
def Fw.put (f : Fw) (i : Nat) (c : Int × Int) : Fw := { f with cells := f.cells.set i c }
theorem edIx_lt {n : Int} {s : Nat} (h : 0 < s) : edIx n s < s := Nat.mod_lt _ h
theorem edC_in {c : Int × Int} (h : InU c.1 ∧ InU c.2) : InU (edC c).1 ∧ InU (edC c).2 := by
  unfold edC
  split
  · exact h
  · exact ⟨by unfold InU; omega, by unfold InU; omega⟩
theorem put_ok {f : Fw} (ok : f.Ok) (i : Nat) {c : Int × Int} (hc : InU c.1 ∧ InU c.2) : (f.put i c).Ok where
  box := ok.box
  cells := by show (f.cells.set i c).length = _; rw [List.length_set]; exact ok.cells
  lights := ok.lights
  cin := fun x hx => by
    rcases List.mem_or_eq_of_mem_set hx with h | h
    · exact ok.cin x h
    · rw [h]; exact hc
  lin := ok.lin
theorem cells_set {W : World} {base g : Nat} {f : Fw} {lv av tv : Value} {gl n cl : Nat} (h : FieldAt W base g f (.slice (some ⟨gl, 0, none⟩) n cl) lv av tv) (he : n = f.cells.length) (i : Nat) (c : Int × Int) :
    FieldAt ((W.setCell ⟨gl, i * 2, none⟩ (.int .u8 c.1)).setCell ⟨gl, i * 2 + 1, none⟩ (.int .u8 c.2)) base g (f.put i c) (.slice (some ⟨gl, 0, none⟩) n cl) lv av tv := by
  subst he
  have ho : Only W ((W.setCell ⟨gl, i * 2, none⟩ (.int .u8 c.1)).setCell ⟨gl, i * 2 + 1, none⟩ (.int .u8 c.2)) (fun k => k = gl) := ((Only.refl W (fun k => k = gl)).setCell (p := ⟨gl, i * 2, none⟩) (.inl rfl) _).setCell (p := ⟨gl, i * 2 + 1, none⟩) (.inl rfl) _
  have hgl : (Value.slice (some ⟨gl, 0, none⟩) f.cells.length cl).ownBlock = some gl := rfl
  have hne : g ≠ gl := fun e => own_blk_ne h.cells h.blk (by decide) (e ▸ hgl)
  have hr : ∀ {e s n : Nat} {v : Value} {xs : List Value}, W.ownsRow base e s v n xs → 33 ≠ e → ((W.setCell ⟨gl, i * 2, none⟩ (.int .u8 c.1)).setCell ⟨gl, i * 2 + 1, none⟩ (.int .u8 c.2)).ownsRow base e s v n xs := fun h2 h4 => own_only h2 ho fun k hk e => own_own_ne h.cells h2 h4 hgl (e ▸ hk)
  refine ⟨h.blk.only ho (fun e => hne e), ?_, hr h.lights (by decide), hr h.asked (by decide), hr h.told (by decide), h.low, h.apart⟩
  have := own_put (own_put h.cells (i * 2) (.int .u8 c.1)) (i * 2 + 1) (.int .u8 c.2)
  rw [← rc_set2] at this
  show World.ownsRow _ base 33 2 _ (f.cells.set i c).length (rc clE (f.cells.set i c))
  rw [List.length_set]
  exact this
theorem FieldAt.keep_ {W W' : World} {base g : Nat} {f : Fw} {cv lv av tv : Value} {S : Nat → Prop} (h : FieldAt W base g f cv lv av tv) (ho : Only W W' S) (hg : ¬ S g) (h1 : ∀ k, cv.ownBlock = some k → ¬ S k) (h2 : ∀ k, lv.ownBlock = some k → ¬ S k) (h3 : ∀ k, av.ownBlock = some k → ¬ S k) (h4 : ∀ k, tv.ownBlock = some k → ¬ S k) : FieldAt W' base g f cv lv av tv :=
  ⟨h.blk.only ho hg, own_only h.cells ho h1, own_only h.lights ho h2, own_only h.asked ho h3, own_only h.told ho h4, h.low, h.apart⟩
set_option maxHeartbeats 16000000 in
theorem edited_any (W : World) (base g : Nat) (f : Fw) (cv lv av tv : Value) (h : FieldAt W base g f cv lv av tv) (ok : f.Ok) (n : Int) (c : Int × Int) (hc : InU c.1 ∧ InU c.2) :
    Calls Try.prog 12 #[.pointer (some ⟨g, 0, none⟩), .agg #[.int .i64 n, .int .u8 c.1, .int .u8 c.2]] W fun e w' => e = .returned (.tuple #[plV (f.b.at_ (edIx n f.b.size)), clV (f.cells.getD (edIx n f.b.size) (0, 0))]) ∧ FieldAt w' base g (f.put (edIx n f.b.size) (edC c)) cv lv av tv ∧ Only W w' (fun k => some k = cv.ownBlock) := by
  have hpos : 0 < f.b.size := by unfold Bx.size; exact Nat.mul_pos (Nat.mul_pos ok.box.x1 ok.box.y1) ok.box.z1
  have hsz := Bx.size_le ok.box
  obtain ⟨i, hi⟩ : ∃ i, i = edIx n f.b.size := ⟨_, rfl⟩
  have hil : i < f.b.size := by rw [hi]; exact edIx_lt hpos
  obtain ⟨a, ha⟩ : ∃ a : Nat, n % 65536 = (a : Int) := ⟨(n % 65536).toNat, by omega⟩
  have hm : bits .and .i64 n 65535 = (a : Int) := by rw [i64_and16, ha]
  have hr : Int.tmod (a : Int) (f.b.size : Int) = (i : Int) := by
    rw [hi]
    unfold edIx
    rw [ha]
    rfl
  have hw : IntKind.i64.wrap (i : Int) = (i : Int) := wrap_small (by omega) (by omega)
  have hs0 : (f.b.size : Int) ≠ 0 := by omega
  have hiI : (i : Int) < (f.b.size : Int) := by omega
  have hi0 : (0 : Int) ≤ (i : Int) := by omega
  rw [← hi]
  have HMAY := Lib.hid (fun w => cmay_any w c.1 c.2 hc.1 hc.2)
  have HAT := Lib.hid (fun (w : World) (f2 : Fw) (he : f2.b = f.b) (hw : Blk w g 48 (fwC f2 cv lv av tv)) => at_any w g f2 cv lv av tv hw (he ▸ ok.box) i (he ▸ hil))
  have HC := Lib.hid (show edC c = if mayC c.1 c.2 = true then c else (0, 0) from rfl)
  obtain ⟨c1, c2⟩ := c
  simp only at HMAY HC
  have hlr := h.cells
  obtain ⟨_, aol, cl, hlv, hcl, _⟩ := own_rat (d := ((0, 0) : Int × Int)) clE_len hlr
  subst hlv
  have hcl2 : f.cells.length ≤ cl := hcl
  rw [ok.cells] at hcl2
  obtain ⟨gl, rfl, hgl0, hgl1⟩ := own_form hlr (by omega)
  have hat := own_at clE_len ((0, 0) : Int × Int) hlr (i := i) (by rw [ok.cells]; exact hil)
  obtain ⟨⟨o1, o2⟩, ho⟩ : ∃ o, o = f.cells.getD i (0, 0) := ⟨_, rfl⟩
  rw [← ho] at hat ⊢
  have e0 : W.cell? ⟨gl, i * 2, none⟩ = some (.int .u8 o1) := hat 0 (by decide)
  have e1 : W.cell? ⟨gl, i * 2 + 1, none⟩ = some (.int .u8 o2) := hat 1 (by decide)
  have hg6 : W.cell? ⟨g, 6, none⟩ = some (.slice (some ⟨gl, 0, none⟩) f.b.size cl) := by rw [← ok.cells]; exact h.blk.cell 6
  obtain ⟨W3, hW3⟩ : ∃ W3, W3 = ((W.alloc (.cells #[.int .i64 n, .int .u8 c1, .int .u8 c2] 35)).alloc (.cells #[.int .i64 0, .int .i64 0, .int .i64 0] 23)).alloc (.cells #[.int .u8 0, .int .u8 0] 33) := ⟨_, rfl⟩
  have s1 : (W.alloc (.cells #[.int .i64 n, .int .u8 c1, .int .u8 c2] 35)).heap.size = W.heap.size + 1 := by simp
  have s2 : ((W.alloc (.cells #[.int .i64 n, .int .u8 c1, .int .u8 c2] 35)).alloc (.cells #[.int .i64 0, .int .i64 0, .int .i64 0] 23)).heap.size = W.heap.size + 1 + 1 := by simp
  have hB3 : Below W.heap.size W W3 := by rw [hW3]; exact (((Below.refl _ _).alloc (Nat.le_refl _) _).alloc (by simp) _).alloc (by simp; omega) _
  have hb0 : Blk W3 W.heap.size 35 #[.int .i64 n, .int .u8 c1, .int .u8 c2] := by rw [hW3]; exact ((Blk.new _ _ _).alloc _).alloc _
  have hb1 : Blk W3 (W.heap.size + 1) 23 #[.int .i64 0, .int .i64 0, .int .i64 0] := by
    have h1 := Blk.new (W.alloc (.cells #[.int .i64 n, .int .u8 c1, .int .u8 c2] 35)) 23 #[.int .i64 0, .int .i64 0, .int .i64 0]
    rw [s1] at h1
    rw [hW3]; exact h1.alloc _
  have hb2 : Blk W3 (W.heap.size + 1 + 1) 33 #[.int .u8 0, .int .u8 0] := by
    have h1 := Blk.new ((W.alloc (.cells #[.int .i64 n, .int .u8 c1, .int .u8 c2] 35)).alloc (.cells #[.int .i64 0, .int .i64 0, .int .i64 0] 23)) 33 #[.int .u8 0, .int .u8 0]
    rw [s2] at h1
    rw [hW3]; exact h1
  have hgls : gl < W.heap.size := (hlr.lt gl rfl).2
  have hgs : g < W.heap.size := h.blk.lt
  have e0 : W3.cell? ⟨gl, i * 2, none⟩ = some (.int .u8 o1) := (hB3.cell hgls).trans e0
  have e1 : W3.cell? ⟨gl, i * 2 + 1, none⟩ = some (.int .u8 o2) := (hB3.cell hgls).trans e1
  have hg6 : W3.cell? ⟨g, 6, none⟩ = some (.slice (some ⟨gl, 0, none⟩) f.b.size cl) := (hB3.cell hgs).trans hg6
  have n0 : W3.cell? ⟨W.heap.size, 0, none⟩ = some (.int .i64 n) := hb0.cell 0
  have n1 : W3.cell? ⟨W.heap.size, 1, none⟩ = some (.int .u8 c1) := hb0.cell 1
  have n2 : W3.cell? ⟨W.heap.size, 2, none⟩ = some (.int .u8 c2) := hb0.cell 2
  have HFLD := Lib.hid h
  have HB := Lib.hid (And.intro hB3 (And.intro hb1 hb2))
  have HG := Lib.hid (And.intro hgls hgs)
  have HW3 := Lib.hid hW3
  have HOK := Lib.hid ok
  clear hW3 s1 s2 hB3 hb0 hb1 hb2 hgls hgs h ho hat hlr hcl hcl2 hgl0 hgl1 ha hi ok hc
  unfold plV clV
  go_enter Try.func12, Try.ntmps12
  go_wp2
  rw [← HW3.out]
  go_quiet (fail)
  obtain ⟨W4, hW4⟩ : ∃ W4, W4 = W3.drewN nq := ⟨_, rfl⟩
  rw [← hW4]
  have e0 : W4.cell? ⟨gl, i * 2, none⟩ = some (.int .u8 o1) := by rw [hW4]; exact e0
  have e1 : W4.cell? ⟨gl, i * 2 + 1, none⟩ = some (.int .u8 o2) := by rw [hW4]; exact e1
  have hg6 : W4.cell? ⟨g, 6, none⟩ = some (.slice (some ⟨gl, 0, none⟩) f.b.size cl) := by rw [hW4]; exact hg6
  have n1 : W4.cell? ⟨W.heap.size, 1, none⟩ = some (.int .u8 c1) := by rw [hW4]; exact n1
  have n2 : W4.cell? ⟨W.heap.size, 2, none⟩ = some (.int .u8 c2) := by rw [hW4]; exact n2
  have HB4 := Lib.hid (show Below W.heap.size W W4 ∧ Blk W4 (W.heap.size + 1) 23 #[.int .i64 0, .int .i64 0, .int .i64 0] ∧ Blk W4 (W.heap.size + 1 + 1) 33 #[.int .u8 0, .int .u8 0] from by
    rw [hW4]
    obtain ⟨h1, h2, h3⟩ := HB.out
    exact ⟨⟨h1.1, h1.2, h1.3, h1.4, h1.5⟩, h2, h3⟩)
  have hwl : W.heap.size < W4.heap.size := by have := HB4.out.2.2.lt; omega
  have n1' : ∀ o, (W4.alloc o).cell? ⟨W.heap.size, 1, none⟩ = some (.int .u8 c1) := fun o => (World.cell?_alloc_lt _ _ _ hwl).trans n1
  have n2' : ∀ o, (W4.alloc o).cell? ⟨W.heap.size, 2, none⟩ = some (.int .u8 c2) := fun o => (World.cell?_alloc_lt _ _ _ hwl).trans n2
  clear hW4 HB HW3
  obtain ⟨W5, hW5⟩ : ∃ W5, W5 = (W4.alloc (.cells #[.int .u8 o1, .int .u8 o2] 33)).alloc (.cells #[.int .u8 c1, .int .u8 c2] 33) := ⟨_, rfl⟩
  have s5 : (W4.alloc (.cells #[.int .u8 o1, .int .u8 o2] 33)).heap.size = W4.heap.size + 1 := by simp
  have hs5 : W5.heap.size = W4.heap.size + 2 := by rw [hW5]; simp
  have hB5 : Below W4.heap.size W4 W5 := by rw [hW5]; exact ((Below.refl _ _).alloc (Nat.le_refl _) _).alloc (by simp) _
  have hbo : Blk W5 W4.heap.size 33 #[.int .u8 o1, .int .u8 o2] := by rw [hW5]; exact (Blk.new _ _ _).alloc _
  have hbc : Blk W5 (W4.heap.size + 1) 33 #[.int .u8 c1, .int .u8 c2] := by rw [hW5, ← s5]; exact Blk.new _ _ _
  have HS := Lib.hid (show W.heap.size + 3 ≤ W4.heap.size from by have := HB4.out.2.2.lt; omega)
  have HB5 := Lib.hid (show (Below W.heap.size W W5 ∧ W4.heap.size + 2 ≤ W5.heap.size) ∧ Blk W5 (W.heap.size + 1) 23 #[.int .i64 0, .int .i64 0, .int .i64 0] ∧ Blk W5 (W.heap.size + 1 + 1) 33 #[.int .u8 0, .int .u8 0] ∧ Blk W5 W4.heap.size 33 #[.int .u8 o1, .int .u8 o2] ∧ Blk W5 (W4.heap.size + 1) 33 #[.int .u8 c1, .int .u8 c2] from
    ⟨⟨HB4.out.1.trans (hB5.mono HB4.out.1.size), by omega⟩, HB4.out.2.1.below hB5 HB4.out.2.1.lt, HB4.out.2.2.below hB5 HB4.out.2.2.lt, hbo, hbc⟩)
  have HW5 := Lib.hid hW5
  have HMAY5 := Lib.hid (HMAY.out W5)
  obtain ⟨b7, hb7⟩ : ∃ b, b = W4.heap.size := ⟨_, rfl⟩
  have x0 : W5.cell? ⟨b7 + 1, 0, none⟩ = some (.int .u8 c1) := by rw [hb7]; exact hbc.cell 0
  have x1 : W5.cell? ⟨b7 + 1, 1, none⟩ = some (.int .u8 c2) := by rw [hb7]; exact hbc.cell 1
  clear s5 hs5 hB5 hbo hbc hW5
  go_wp2_with fail
  rw [← HW5.out, ← hb7]
  rw [← hb7] at HB5 HS
  clear hb7 HW5 HB4 e0 e1 hg6 n1 n2 n1' n2' hwl
  go_at_call 23
  refine HMAY5.out.mono ?_
  rintro e w6 ⟨rfl, hb⟩
  have HB6 := Lib.hid (show (Below W.heap.size W w6 ∧ b7 + 2 ≤ w6.heap.size) ∧ Blk w6 (W.heap.size + 1) 23 #[.int .i64 0, .int .i64 0, .int .i64 0] ∧ Blk w6 (W.heap.size + 1 + 1) 33 #[.int .u8 0, .int .u8 0] ∧ Blk w6 b7 33 #[.int .u8 o1, .int .u8 o2] ∧ Blk w6 (b7 + 1) 33 #[.int .u8 c1, .int .u8 c2] from
    have h := HB5.out
    ⟨⟨h.1.1.trans (hb.mono h.1.1.size), Nat.le_trans h.1.2 hb.size⟩, h.2.1.below hb h.2.1.lt, h.2.2.1.below hb h.2.2.1.lt, h.2.2.2.1.below hb h.2.2.2.1.lt, h.2.2.2.2.below hb h.2.2.2.2.lt⟩)
  clear hb x0 x1 HB5 HMAY5
  rcases Bool.eq_false_or_eq_true (mayC c1 c2) with hmay | hmay
  · rw [hmay]
    obtain ⟨y1, hy1⟩ : ∃ y, y = c1 := ⟨_, rfl⟩
    obtain ⟨y2, hy2⟩ : ∃ y, y = c2 := ⟨_, rfl⟩
    have HE := Lib.hid (show edC (c1, c2) = (y1, y2) by rw [HC.out, if_pos hmay, hy1, hy2])
    rw [← hy1, ← hy2] at HB6
    clear hy1 hy2 hmay HMAY
    go_wp2
    have hf6 := HFLD.out.under HB6.out.1.1
    have d6 : w6.cell? ⟨g, 6, none⟩ = some (.slice (some ⟨gl, 0, none⟩) f.b.size cl) := by rw [← HOK.out.cells]; exact hf6.blk.cell 6
    have hat := own_at clE_len ((0, 0) : Int × Int) hf6.cells (i := i) (by rw [HOK.out.cells]; exact hil)
    have z0 := own_free hf6.cells (i * 2)
    have z1 := own_free hf6.cells (i * 2 + 1)
    have e0 : w6.cell? ⟨gl, i * 2, none⟩ = some (.int .u8 (f.cells.getD i (0, 0)).1) := hat 0 (by decide)
    have e1 : w6.cell? ⟨gl, i * 2 + 1, none⟩ = some (.int .u8 (f.cells.getD i (0, 0)).2) := hat 1 (by decide)
    obtain ⟨x0, x1⟩ := two_cells HB6.out.2.2.2.2
    have hnb : gl ≠ b7 + 1 := by have := HG.out.1; have := HS.out; omega
    have hng : gl ≠ g := fun e => own_blk_ne hf6.cells hf6.blk (by decide) (e ▸ rfl)
    have HD := Lib.hid (cells_set hf6 rfl i ((y1, y2) : Int × Int))
    clear hf6 hat
    go_wp2
    go_region_held (fun w' => w'.cell? ⟨g, 6, none⟩ = some (.slice (some ⟨gl, 0, none⟩) f.b.size cl) ∧ w'.cell? ⟨b7 + 1, 0, none⟩ = some (.int .u8 y1) ∧ w'.cell? ⟨b7 + 1, 1, none⟩ = some (.int .u8 y2)) (simp [*, World.cell?_setCell_far]) (fail)
    clear d6 z0 z1 e0 e1 x0 x1 hnb hng
    have HO7 := Lib.hid (show Only W ((w6.setCell ⟨gl, i * 2, none⟩ (.int .u8 y1)).setCell ⟨gl, i * 2 + 1, none⟩ (.int .u8 y2)).drew (fun k => some k = (Value.slice (some ⟨gl, 0, none⟩) f.cells.length cl).ownBlock) from (((Only.of_below (S := fun k => some k = (Value.slice (some ⟨gl, 0, none⟩) f.cells.length cl).ownBlock) HB6.out.1.1).setCell (p := ⟨gl, i * 2, none⟩) (.inl rfl) _).setCell (p := ⟨gl, i * 2 + 1, none⟩) (.inl rfl) _).drew)
    have HF7 := Lib.hid (show FieldAt ((w6.setCell ⟨gl, i * 2, none⟩ (.int .u8 y1)).setCell ⟨gl, i * 2 + 1, none⟩ (.int .u8 y2)).drew base g (f.put i (y1, y2)) (.slice (some ⟨gl, 0, none⟩) f.cells.length cl) lv av tv from HD.out.under (Below.refl _ _).drew)
    have hk : ∀ {k t cs}, Blk w6 k t cs → gl ≠ k → Blk ((w6.setCell ⟨gl, i * 2, none⟩ (.int .u8 y1)).setCell ⟨gl, i * 2 + 1, none⟩ (.int .u8 y2)).drew k t cs := fun h hne => ((h.other (p := ⟨gl, i * 2, none⟩) hne.symm _).other (p := ⟨gl, i * 2 + 1, none⟩) hne.symm _).drew
    have HB7 := Lib.hid (And.intro (hk HB6.out.2.1 (by have := HG.out.1; omega)) (And.intro (hk HB6.out.2.2.1 (by have := HG.out.1; omega)) (And.intro (hk HB6.out.2.2.2.1 (by have := HG.out.1; have := HS.out; omega)) (show b7 + 2 ≤ ((w6.setCell ⟨gl, i * 2, none⟩ (.int .u8 y1)).setCell ⟨gl, i * 2 + 1, none⟩ (.int .u8 y2)).drew.heap.size from by simp; exact HB6.out.1.2))))
    clear hk HD HB6
    generalize ((w6.setCell ⟨gl, i * 2, none⟩ (.int .u8 y1)).setCell ⟨gl, i * 2 + 1, none⟩ (.int .u8 y2)).drew = W7 at HO7 HF7 HB7 ⊢
    obtain ⟨x0, x1⟩ := two_cells HB7.out.2.2.1
    obtain ⟨p0, p1, p2⟩ := three_cells HB7.out.1
    obtain ⟨q0, q1⟩ := two_cells HB7.out.2.1
    obtain ⟨r0, r1, r2⟩ := three_free HB7.out.1
    obtain ⟨s0, s1⟩ := two_free HB7.out.2.1
    have HAT7 := Lib.hid (show ∀ w, Blk w g 48 (fwC (f.put i (y1, y2)) (.slice (some ⟨gl, 0, none⟩) f.cells.length cl) lv av tv) → b7 + 2 ≤ w.heap.size → Calls Try.prog 21 #[.pointer (some ⟨g, 0, none⟩), .int .i64 (i : Int)] w fun e w' => e = .returned (.agg #[.int .i64 (f.b.at_ i).1, .int .i64 (f.b.at_ i).2.1, .int .i64 (f.b.at_ i).2.2]) ∧ (w'.cell? ⟨W.heap.size + 1, 0, none⟩ = w.cell? ⟨W.heap.size + 1, 0, none⟩ ∧ w'.cell? ⟨W.heap.size + 1, 1, none⟩ = w.cell? ⟨W.heap.size + 1, 1, none⟩ ∧ w'.cell? ⟨W.heap.size + 1, 2, none⟩ = w.cell? ⟨W.heap.size + 1, 2, none⟩) ∧
        (w'.cell? ⟨W.heap.size + 1 + 1, 0, none⟩ = w.cell? ⟨W.heap.size + 1 + 1, 0, none⟩ ∧ w'.cell? ⟨W.heap.size + 1 + 1, 1, none⟩ = w.cell? ⟨W.heap.size + 1 + 1, 1, none⟩) ∧ (w'.cell? ⟨b7, 0, none⟩ = w.cell? ⟨b7, 0, none⟩ ∧ w'.cell? ⟨b7, 1, none⟩ = w.cell? ⟨b7, 1, none⟩) ∧
        (w'.frozen? ⟨W.heap.size + 1, 0, none⟩ = w.frozen? ⟨W.heap.size + 1, 0, none⟩ ∧ w'.frozen? ⟨W.heap.size + 1, 1, none⟩ = w.frozen? ⟨W.heap.size + 1, 1, none⟩ ∧ w'.frozen? ⟨W.heap.size + 1, 2, none⟩ = w.frozen? ⟨W.heap.size + 1, 2, none⟩) ∧ (w'.frozen? ⟨W.heap.size + 1 + 1, 0, none⟩ = w.frozen? ⟨W.heap.size + 1 + 1, 0, none⟩ ∧ w'.frozen? ⟨W.heap.size + 1 + 1, 1, none⟩ = w.frozen? ⟨W.heap.size + 1 + 1, 1, none⟩) ∧ RowKit.Hid (Below w.heap.size w w') from
      fun w hw hlt => (HAT.out w (f.put i (y1, y2)) rfl hw).mono fun e w' ⟨he, hb⟩ => by
        have h3 := HS.out
        exact ⟨he, ⟨hb.cell (by simp; omega), hb.cell (by simp; omega), hb.cell (by simp; omega)⟩, ⟨hb.cell (by simp; omega), hb.cell (by simp; omega)⟩, ⟨hb.cell (by simp; omega), hb.cell (by simp; omega)⟩, ⟨hb.frozen (by simp; omega), hb.frozen (by simp; omega), hb.frozen (by simp; omega)⟩, ⟨hb.frozen (by simp; omega), hb.frozen (by simp; omega)⟩, Lib.hid hb⟩)
    have hn1 : W.heap.size + 1 ≠ b7 := by have := HS.out; omega
    have hn2 : W.heap.size + 1 + 1 ≠ b7 := by have := HS.out; omega
    have hg1 : g ≠ W.heap.size + 1 := by have := HG.out; omega
    have hg2 : g ≠ W.heap.size + 1 + 1 := by have := HG.out; omega
    have HATc := Lib.hid (HAT7.out W7.drew HF7.out.blk.drew HB7.out.2.2.2)
    obtain ⟨l1, hl1⟩ : ∃ l, l = (f.b.at_ i).1 := ⟨_, rfl⟩
    obtain ⟨l2, hl2⟩ : ∃ l, l = (f.b.at_ i).2.1 := ⟨_, rfl⟩
    obtain ⟨l3, hl3⟩ : ∃ l, l = (f.b.at_ i).2.2 := ⟨_, rfl⟩
    rw [← hl1, ← hl2, ← hl3] at HATc
    have HPL := Lib.hid (show plC (f.b.at_ i) = #[.int .i64 l1, .int .i64 l2, .int .i64 l3] by unfold plC; rw [hl1, hl2, hl3])
    clear hl1 hl2 hl3 HAT7 HAT
    go_wp2
    go_region_held (fun w' => w'.cell? ⟨b7, 0, none⟩ = some (.int .u8 o1) ∧ w'.cell? ⟨b7, 1, none⟩ = some (.int .u8 o2)) (simp [*, World.cell?_setCell_far]) ((go_at_call 21; (with_reducible refine HATc.out.mono ?_); rintro e w8 ⟨rfl, ⟨a0, a1, a2⟩, ⟨a3, a4⟩, ⟨a5, a6⟩, ⟨a7, a8, a9⟩, ⟨a10, a11⟩, HB8⟩))
    have hp8 := (HB7.out.1.drew.below HB8.out HB7.out.1.lt)
    have hq8 := (HB7.out.2.1.drew.below HB8.out HB7.out.2.1.lt)
    have HP9 := Lib.hid (show Blk (((((w8.setCell ⟨W.heap.size + 1, 0, none⟩ (.int .i64 l1)).setCell ⟨W.heap.size + 1, 1, none⟩ (.int .i64 l2)).setCell ⟨W.heap.size + 1, 2, none⟩ (.int .i64 l3)).setCell ⟨W.heap.size + 1 + 1, 0, none⟩ (.int .u8 o1)).setCell ⟨W.heap.size + 1 + 1, 1, none⟩ (.int .u8 o2)) (W.heap.size + 1) 23 #[.int .i64 l1, .int .i64 l2, .int .i64 l3] from
      ((((hp8.set_ 0 (.int .i64 l1)).set_ 1 (.int .i64 l2)).set_ 2 (.int .i64 l3)).other (p := ⟨W.heap.size + 1 + 1, 0, none⟩) (by simp) _).other (p := ⟨W.heap.size + 1 + 1, 1, none⟩) (by simp) _)
    have HQ9 := Lib.hid (show Blk (((((w8.setCell ⟨W.heap.size + 1, 0, none⟩ (.int .i64 l1)).setCell ⟨W.heap.size + 1, 1, none⟩ (.int .i64 l2)).setCell ⟨W.heap.size + 1, 2, none⟩ (.int .i64 l3)).setCell ⟨W.heap.size + 1 + 1, 0, none⟩ (.int .u8 o1)).setCell ⟨W.heap.size + 1 + 1, 1, none⟩ (.int .u8 o2)) (W.heap.size + 1 + 1) 33 #[.int .u8 o1, .int .u8 o2] from
      ((((hq8.other (p := ⟨W.heap.size + 1, 0, none⟩) (by simp) _).other (p := ⟨W.heap.size + 1, 1, none⟩) (by simp) _).other (p := ⟨W.heap.size + 1, 2, none⟩) (by simp) _).set_ 0 (.int .u8 o1)).set_ 1 (.int .u8 o2))
    have ho9 : ∀ (S : Nat → Prop) (w0 : World), Only w0 w8 S → (∀ k, k = W.heap.size + 1 ∨ k = W.heap.size + 1 + 1 → S k ∨ w0.heap.size ≤ k) → Only w0 (((((w8.setCell ⟨W.heap.size + 1, 0, none⟩ (.int .i64 l1)).setCell ⟨W.heap.size + 1, 1, none⟩ (.int .i64 l2)).setCell ⟨W.heap.size + 1, 2, none⟩ (.int .i64 l3)).setCell ⟨W.heap.size + 1 + 1, 0, none⟩ (.int .u8 o1)).setCell ⟨W.heap.size + 1 + 1, 1, none⟩ (.int .u8 o2)) S :=
      fun S w0 h hk => ((((h.setCell (hk _ (.inl rfl)) _).setCell (hk _ (.inl rfl)) _).setCell (hk _ (.inl rfl)) _).setCell (hk _ (.inr rfl)) _).setCell (hk _ (.inr rfl)) _
    have HO9 := Lib.hid (ho9 _ W (HO7.out.drew.trans (Only.of_below (S := fun _ => False) HB8.out) (fun _ h => h.elim)) (fun k h => .inr (by omega)))
    have HF9 := Lib.hid ((HF7.out.under ((Below.refl W7.heap.size W7).drew.trans HB8.out)).keep_ (ho9 (fun k => W.heap.size ≤ k) w8 (Only.refl _ _) (fun k h => .inl (by omega))) (by have := HG.out.2; omega) (fun k hk => by have := (HFLD.out.cells.lt k hk).2; omega) (fun k hk => by have := (HFLD.out.lights.lt k hk).2; omega) (fun k hk => by have := (HFLD.out.asked.lt k hk).2; omega) (fun k hk => by have := (HFLD.out.told.lt k hk).2; omega))
    clear hp8 hq8 ho9 x0 x1 p0 p1 p2 q0 q1 r0 r1 r2 s0 s1 a0 a1 a2 a3 a4 a5 a6 a7 a8 a9 a10 a11 HB8 hn1 hn2 hg1 hg2
    generalize ((((w8.setCell ⟨W.heap.size + 1, 0, none⟩ (.int .i64 l1)).setCell ⟨W.heap.size + 1, 1, none⟩ (.int .i64 l2)).setCell ⟨W.heap.size + 1, 2, none⟩ (.int .i64 l3)).setCell ⟨W.heap.size + 1 + 1, 0, none⟩ (.int .u8 o1)).setCell ⟨W.heap.size + 1 + 1, 1, none⟩ (.int .u8 o2) = W9 at HP9 HQ9 HO9 HF9 ⊢
    obtain ⟨p0, p1, p2⟩ := three_cells HP9.out
    obtain ⟨q0, q1⟩ := two_cells HQ9.out
    go_wp2
    refine bodyPost_ret (v := .tuple #[.agg #[.int .i64 l1, .int .i64 l2, .int .i64 l3], .agg #[.int .u8 o1, .int .u8 o2]]) (by simp [results, Try.results12, go_sem, p0, p1, p2, q0, q1]) rfl ⟨?_, ?_, HO9.out⟩
    · rw [HPL.out]
    · rw [HE.out]; exact HF9.out
  · rw [hmay]
    have HE0 := Lib.hid (show edC (c1, c2) = (0, 0) by rw [HC.out, hmay]; rfl)
    have HB60 := HB6
    clear HB6
    obtain ⟨x0, x1⟩ := two_cells HB60.out.2.2.2.2
    obtain ⟨f0, f1⟩ := two_free HB60.out.2.2.2.2
    clear hmay HMAY
    go_wp2
    obtain ⟨y1, hy1⟩ : ∃ y : Int, y = 0 := ⟨_, rfl⟩
    obtain ⟨y2, hy2⟩ : ∃ y : Int, y = 0 := ⟨_, rfl⟩
    have HE := Lib.hid (show edC (c1, c2) = (y1, y2) by rw [HE0.out, hy1, hy2])
    have HB6 := Lib.hid (show (Below W.heap.size W ((w6.setCell ⟨b7 + 1, 0, none⟩ (.int .u8 0)).setCell ⟨b7 + 1, 1, none⟩ (.int .u8 0)) ∧ b7 + 2 ≤ ((w6.setCell ⟨b7 + 1, 0, none⟩ (.int .u8 0)).setCell ⟨b7 + 1, 1, none⟩ (.int .u8 0)).heap.size) ∧ Blk ((w6.setCell ⟨b7 + 1, 0, none⟩ (.int .u8 0)).setCell ⟨b7 + 1, 1, none⟩ (.int .u8 0)) (W.heap.size + 1) 23 #[.int .i64 0, .int .i64 0, .int .i64 0] ∧ Blk ((w6.setCell ⟨b7 + 1, 0, none⟩ (.int .u8 0)).setCell ⟨b7 + 1, 1, none⟩ (.int .u8 0)) (W.heap.size + 1 + 1) 33 #[.int .u8 0, .int .u8 0] ∧ Blk ((w6.setCell ⟨b7 + 1, 0, none⟩ (.int .u8 0)).setCell ⟨b7 + 1, 1, none⟩ (.int .u8 0)) b7 33 #[.int .u8 o1, .int .u8 o2] ∧ Blk ((w6.setCell ⟨b7 + 1, 0, none⟩ (.int .u8 0)).setCell ⟨b7 + 1, 1, none⟩ (.int .u8 0)) (b7 + 1) 33 #[.int .u8 y1, .int .u8 y2] from by
      have h := HB60.out
      have h3 := HS.out
      have ho : ∀ {k t cs}, Blk w6 k t cs → k ≠ b7 + 1 → Blk ((w6.setCell ⟨b7 + 1, 0, none⟩ (.int .u8 0)).setCell ⟨b7 + 1, 1, none⟩ (.int .u8 0)) k t cs := fun h hne => (h.other (p := ⟨b7 + 1, 0, none⟩) hne _).other (p := ⟨b7 + 1, 1, none⟩) hne _
      rw [hy1, hy2]
      exact ⟨⟨(h.1.1.setCell (p := ⟨b7 + 1, 0, none⟩) (by simp; omega) _).setCell (p := ⟨b7 + 1, 1, none⟩) (by simp; omega) _, by simp; exact h.1.2⟩, ho h.2.1 (by omega), ho h.2.2.1 (by omega), ho h.2.2.2.1 (by omega), (h.2.2.2.2.set_ 0 (.int .u8 0)).set_ 1 (.int .u8 0)⟩)
    clear x0 x1 f0 f1 HB60 HE0
    generalize (w6.setCell ⟨b7 + 1, 0, none⟩ (.int .u8 0)).setCell ⟨b7 + 1, 1, none⟩ (.int .u8 0) = w6 at HB6 ⊢
    clear hy1 hy2
    have hf6 := HFLD.out.under HB6.out.1.1
    have d6 : w6.cell? ⟨g, 6, none⟩ = some (.slice (some ⟨gl, 0, none⟩) f.b.size cl) := by rw [← HOK.out.cells]; exact hf6.blk.cell 6
    have hat := own_at clE_len ((0, 0) : Int × Int) hf6.cells (i := i) (by rw [HOK.out.cells]; exact hil)
    have z0 := own_free hf6.cells (i * 2)
    have z1 := own_free hf6.cells (i * 2 + 1)
    have e0 : w6.cell? ⟨gl, i * 2, none⟩ = some (.int .u8 (f.cells.getD i (0, 0)).1) := hat 0 (by decide)
    have e1 : w6.cell? ⟨gl, i * 2 + 1, none⟩ = some (.int .u8 (f.cells.getD i (0, 0)).2) := hat 1 (by decide)
    obtain ⟨x0, x1⟩ := two_cells HB6.out.2.2.2.2
    have hnb : gl ≠ b7 + 1 := by have := HG.out.1; have := HS.out; omega
    have hng : gl ≠ g := fun e => own_blk_ne hf6.cells hf6.blk (by decide) (e ▸ rfl)
    have HD := Lib.hid (cells_set hf6 rfl i ((y1, y2) : Int × Int))
    clear hf6 hat
    go_wp2
    go_region_held (fun w' => w'.cell? ⟨g, 6, none⟩ = some (.slice (some ⟨gl, 0, none⟩) f.b.size cl) ∧ w'.cell? ⟨b7 + 1, 0, none⟩ = some (.int .u8 y1) ∧ w'.cell? ⟨b7 + 1, 1, none⟩ = some (.int .u8 y2)) (simp [*, World.cell?_setCell_far]) (fail)
    clear d6 z0 z1 e0 e1 x0 x1 hnb hng
    have HO7 := Lib.hid (show Only W ((w6.setCell ⟨gl, i * 2, none⟩ (.int .u8 y1)).setCell ⟨gl, i * 2 + 1, none⟩ (.int .u8 y2)).drew (fun k => some k = (Value.slice (some ⟨gl, 0, none⟩) f.cells.length cl).ownBlock) from (((Only.of_below (S := fun k => some k = (Value.slice (some ⟨gl, 0, none⟩) f.cells.length cl).ownBlock) HB6.out.1.1).setCell (p := ⟨gl, i * 2, none⟩) (.inl rfl) _).setCell (p := ⟨gl, i * 2 + 1, none⟩) (.inl rfl) _).drew)
    have HF7 := Lib.hid (show FieldAt ((w6.setCell ⟨gl, i * 2, none⟩ (.int .u8 y1)).setCell ⟨gl, i * 2 + 1, none⟩ (.int .u8 y2)).drew base g (f.put i (y1, y2)) (.slice (some ⟨gl, 0, none⟩) f.cells.length cl) lv av tv from HD.out.under (Below.refl _ _).drew)
    have hk : ∀ {k t cs}, Blk w6 k t cs → gl ≠ k → Blk ((w6.setCell ⟨gl, i * 2, none⟩ (.int .u8 y1)).setCell ⟨gl, i * 2 + 1, none⟩ (.int .u8 y2)).drew k t cs := fun h hne => ((h.other (p := ⟨gl, i * 2, none⟩) hne.symm _).other (p := ⟨gl, i * 2 + 1, none⟩) hne.symm _).drew
    have HB7 := Lib.hid (And.intro (hk HB6.out.2.1 (by have := HG.out.1; omega)) (And.intro (hk HB6.out.2.2.1 (by have := HG.out.1; omega)) (And.intro (hk HB6.out.2.2.2.1 (by have := HG.out.1; have := HS.out; omega)) (show b7 + 2 ≤ ((w6.setCell ⟨gl, i * 2, none⟩ (.int .u8 y1)).setCell ⟨gl, i * 2 + 1, none⟩ (.int .u8 y2)).drew.heap.size from by simp; exact HB6.out.1.2))))
    clear hk HD HB6
    generalize ((w6.setCell ⟨gl, i * 2, none⟩ (.int .u8 y1)).setCell ⟨gl, i * 2 + 1, none⟩ (.int .u8 y2)).drew = W7 at HO7 HF7 HB7 ⊢
    obtain ⟨x0, x1⟩ := two_cells HB7.out.2.2.1
    obtain ⟨p0, p1, p2⟩ := three_cells HB7.out.1
    obtain ⟨q0, q1⟩ := two_cells HB7.out.2.1
    obtain ⟨r0, r1, r2⟩ := three_free HB7.out.1
    obtain ⟨s0, s1⟩ := two_free HB7.out.2.1
    have HAT7 := Lib.hid (show ∀ w, Blk w g 48 (fwC (f.put i (y1, y2)) (.slice (some ⟨gl, 0, none⟩) f.cells.length cl) lv av tv) → b7 + 2 ≤ w.heap.size → Calls Try.prog 21 #[.pointer (some ⟨g, 0, none⟩), .int .i64 (i : Int)] w fun e w' => e = .returned (.agg #[.int .i64 (f.b.at_ i).1, .int .i64 (f.b.at_ i).2.1, .int .i64 (f.b.at_ i).2.2]) ∧ (w'.cell? ⟨W.heap.size + 1, 0, none⟩ = w.cell? ⟨W.heap.size + 1, 0, none⟩ ∧ w'.cell? ⟨W.heap.size + 1, 1, none⟩ = w.cell? ⟨W.heap.size + 1, 1, none⟩ ∧ w'.cell? ⟨W.heap.size + 1, 2, none⟩ = w.cell? ⟨W.heap.size + 1, 2, none⟩) ∧
        (w'.cell? ⟨W.heap.size + 1 + 1, 0, none⟩ = w.cell? ⟨W.heap.size + 1 + 1, 0, none⟩ ∧ w'.cell? ⟨W.heap.size + 1 + 1, 1, none⟩ = w.cell? ⟨W.heap.size + 1 + 1, 1, none⟩) ∧ (w'.cell? ⟨b7, 0, none⟩ = w.cell? ⟨b7, 0, none⟩ ∧ w'.cell? ⟨b7, 1, none⟩ = w.cell? ⟨b7, 1, none⟩) ∧
        (w'.frozen? ⟨W.heap.size + 1, 0, none⟩ = w.frozen? ⟨W.heap.size + 1, 0, none⟩ ∧ w'.frozen? ⟨W.heap.size + 1, 1, none⟩ = w.frozen? ⟨W.heap.size + 1, 1, none⟩ ∧ w'.frozen? ⟨W.heap.size + 1, 2, none⟩ = w.frozen? ⟨W.heap.size + 1, 2, none⟩) ∧ (w'.frozen? ⟨W.heap.size + 1 + 1, 0, none⟩ = w.frozen? ⟨W.heap.size + 1 + 1, 0, none⟩ ∧ w'.frozen? ⟨W.heap.size + 1 + 1, 1, none⟩ = w.frozen? ⟨W.heap.size + 1 + 1, 1, none⟩) ∧ RowKit.Hid (Below w.heap.size w w') from
      fun w hw hlt => (HAT.out w (f.put i (y1, y2)) rfl hw).mono fun e w' ⟨he, hb⟩ => by
        have h3 := HS.out
        exact ⟨he, ⟨hb.cell (by simp; omega), hb.cell (by simp; omega), hb.cell (by simp; omega)⟩, ⟨hb.cell (by simp; omega), hb.cell (by simp; omega)⟩, ⟨hb.cell (by simp; omega), hb.cell (by simp; omega)⟩, ⟨hb.frozen (by simp; omega), hb.frozen (by simp; omega), hb.frozen (by simp; omega)⟩, ⟨hb.frozen (by simp; omega), hb.frozen (by simp; omega)⟩, Lib.hid hb⟩)
    have hn1 : W.heap.size + 1 ≠ b7 := by have := HS.out; omega
    have hn2 : W.heap.size + 1 + 1 ≠ b7 := by have := HS.out; omega
    have hg1 : g ≠ W.heap.size + 1 := by have := HG.out; omega
    have hg2 : g ≠ W.heap.size + 1 + 1 := by have := HG.out; omega
    have HATc := Lib.hid (HAT7.out W7.drew HF7.out.blk.drew HB7.out.2.2.2)
    obtain ⟨l1, hl1⟩ : ∃ l, l = (f.b.at_ i).1 := ⟨_, rfl⟩
    obtain ⟨l2, hl2⟩ : ∃ l, l = (f.b.at_ i).2.1 := ⟨_, rfl⟩
    obtain ⟨l3, hl3⟩ : ∃ l, l = (f.b.at_ i).2.2 := ⟨_, rfl⟩
    rw [← hl1, ← hl2, ← hl3] at HATc
    have HPL := Lib.hid (show plC (f.b.at_ i) = #[.int .i64 l1, .int .i64 l2, .int .i64 l3] by unfold plC; rw [hl1, hl2, hl3])
    clear hl1 hl2 hl3 HAT7 HAT
    go_wp2
    go_region_held (fun w' => w'.cell? ⟨b7, 0, none⟩ = some (.int .u8 o1) ∧ w'.cell? ⟨b7, 1, none⟩ = some (.int .u8 o2)) (simp [*, World.cell?_setCell_far]) ((go_at_call 21; (with_reducible refine HATc.out.mono ?_); rintro e w8 ⟨rfl, ⟨a0, a1, a2⟩, ⟨a3, a4⟩, ⟨a5, a6⟩, ⟨a7, a8, a9⟩, ⟨a10, a11⟩, HB8⟩))
    have hp8 := (HB7.out.1.drew.below HB8.out HB7.out.1.lt)
    have hq8 := (HB7.out.2.1.drew.below HB8.out HB7.out.2.1.lt)
    have HP9 := Lib.hid (show Blk (((((w8.setCell ⟨W.heap.size + 1, 0, none⟩ (.int .i64 l1)).setCell ⟨W.heap.size + 1, 1, none⟩ (.int .i64 l2)).setCell ⟨W.heap.size + 1, 2, none⟩ (.int .i64 l3)).setCell ⟨W.heap.size + 1 + 1, 0, none⟩ (.int .u8 o1)).setCell ⟨W.heap.size + 1 + 1, 1, none⟩ (.int .u8 o2)) (W.heap.size + 1) 23 #[.int .i64 l1, .int .i64 l2, .int .i64 l3] from
      ((((hp8.set_ 0 (.int .i64 l1)).set_ 1 (.int .i64 l2)).set_ 2 (.int .i64 l3)).other (p := ⟨W.heap.size + 1 + 1, 0, none⟩) (by simp) _).other (p := ⟨W.heap.size + 1 + 1, 1, none⟩) (by simp) _)
    have HQ9 := Lib.hid (show Blk (((((w8.setCell ⟨W.heap.size + 1, 0, none⟩ (.int .i64 l1)).setCell ⟨W.heap.size + 1, 1, none⟩ (.int .i64 l2)).setCell ⟨W.heap.size + 1, 2, none⟩ (.int .i64 l3)).setCell ⟨W.heap.size + 1 + 1, 0, none⟩ (.int .u8 o1)).setCell ⟨W.heap.size + 1 + 1, 1, none⟩ (.int .u8 o2)) (W.heap.size + 1 + 1) 33 #[.int .u8 o1, .int .u8 o2] from
      ((((hq8.other (p := ⟨W.heap.size + 1, 0, none⟩) (by simp) _).other (p := ⟨W.heap.size + 1, 1, none⟩) (by simp) _).other (p := ⟨W.heap.size + 1, 2, none⟩) (by simp) _).set_ 0 (.int .u8 o1)).set_ 1 (.int .u8 o2))
    have ho9 : ∀ (S : Nat → Prop) (w0 : World), Only w0 w8 S → (∀ k, k = W.heap.size + 1 ∨ k = W.heap.size + 1 + 1 → S k ∨ w0.heap.size ≤ k) → Only w0 (((((w8.setCell ⟨W.heap.size + 1, 0, none⟩ (.int .i64 l1)).setCell ⟨W.heap.size + 1, 1, none⟩ (.int .i64 l2)).setCell ⟨W.heap.size + 1, 2, none⟩ (.int .i64 l3)).setCell ⟨W.heap.size + 1 + 1, 0, none⟩ (.int .u8 o1)).setCell ⟨W.heap.size + 1 + 1, 1, none⟩ (.int .u8 o2)) S :=
      fun S w0 h hk => ((((h.setCell (hk _ (.inl rfl)) _).setCell (hk _ (.inl rfl)) _).setCell (hk _ (.inl rfl)) _).setCell (hk _ (.inr rfl)) _).setCell (hk _ (.inr rfl)) _
    have HO9 := Lib.hid (ho9 _ W (HO7.out.drew.trans (Only.of_below (S := fun _ => False) HB8.out) (fun _ h => h.elim)) (fun k h => .inr (by omega)))
    have HF9 := Lib.hid ((HF7.out.under ((Below.refl W7.heap.size W7).drew.trans HB8.out)).keep_ (ho9 (fun k => W.heap.size ≤ k) w8 (Only.refl _ _) (fun k h => .inl (by omega))) (by have := HG.out.2; omega) (fun k hk => by have := (HFLD.out.cells.lt k hk).2; omega) (fun k hk => by have := (HFLD.out.lights.lt k hk).2; omega) (fun k hk => by have := (HFLD.out.asked.lt k hk).2; omega) (fun k hk => by have := (HFLD.out.told.lt k hk).2; omega))
    clear hp8 hq8 ho9 x0 x1 p0 p1 p2 q0 q1 r0 r1 r2 s0 s1 a0 a1 a2 a3 a4 a5 a6 a7 a8 a9 a10 a11 HB8 hn1 hn2 hg1 hg2
    generalize ((((w8.setCell ⟨W.heap.size + 1, 0, none⟩ (.int .i64 l1)).setCell ⟨W.heap.size + 1, 1, none⟩ (.int .i64 l2)).setCell ⟨W.heap.size + 1, 2, none⟩ (.int .i64 l3)).setCell ⟨W.heap.size + 1 + 1, 0, none⟩ (.int .u8 o1)).setCell ⟨W.heap.size + 1 + 1, 1, none⟩ (.int .u8 o2) = W9 at HP9 HQ9 HO9 HF9 ⊢
    obtain ⟨p0, p1, p2⟩ := three_cells HP9.out
    obtain ⟨q0, q1⟩ := two_cells HQ9.out
    go_wp2
    refine bodyPost_ret (v := .tuple #[.agg #[.int .i64 l1, .int .i64 l2, .int .i64 l3], .agg #[.int .u8 o1, .int .u8 o2]]) (by simp [results, Try.results12, go_sem, p0, p1, p2, q0, q1]) rfl ⟨?_, ?_, HO9.out⟩
    · rw [HPL.out]
    · rw [HE.out]; exact HF9.out
end Go.Proofs.Ytlhjjmfbifhgfaa
