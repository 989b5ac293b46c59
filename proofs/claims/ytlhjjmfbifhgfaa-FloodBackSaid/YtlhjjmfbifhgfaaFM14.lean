/- Joined texts of one seat, each under its own heading below. -/
import Derived.Test.YtlhjjmfbifhgfaaFM11
import Derived.Test.YtlhjjmfbifhgfaaFM13
/- The bright wave's state, beside its walk: plain laws; slices.Clone of a row of places. -/
namespace Go.Proofs.Ytlhjjmfbifhgfaa
set_option linter.unusedSimpArgs false
set_option linter.unusedVariables false
open Go.RowKit

section
open Go.Shelf
set_option maxRecDepth 100000 in
set_option maxHeartbeats 1000000 in
/-- slices.Clone of a row of places. -/
theorem clone_any {w : World} {base : Nat} {v : Value} {l : List Pl} (h : PRow w base v l) (hlen : l.length ≤ 4096) :
    Calls Try.prog 50 #[v] w fun e w' => Below w.heap.size w w' ∧ ∃ v', e = .returned v' ∧ PRow w' w.heap.size v' l := by
  rcases h.2 with ⟨rfl, h0⟩ | ⟨g, cap, cur, rfl, hb, hg, r⟩
  · have hc := AnyE.slices_Clone_nil Try.cloneT 0 0 w
    change Calls Try.prog 50 _ _ _ at hc
    refine hc.mono ?_
    rintro e w' ⟨rfl, rfl⟩
    have hl : l = [] := List.eq_nil_of_length_eq_zero h0
    subst hl
    exact ⟨Below.refl _ _, _, rfl, World.ownsRow_nil _ _ _ _⟩
  · obtain ⟨i0, hi, hz0, hz1, hz2⟩ := info_parts infoPl
    have hlr := rc_length plE_len l
    have hc := AnyE.slices_Clone Try.cloneT i0 (.agg #[.int .i64 0, .int .i64 0, .int .i64 0]) 3 24 hi hz0 hz1 hz2 rfl (by decide) Try.sizeOf23 g 0 l.length cap (rc plE l) w hlr (by unfold maxLen; omega) (by omega)
      (fun j u hu => by
        have hj : j < (rc plE l).length := (List.getElem?_eq_some_iff.1 hu).1
        rw [Nat.zero_add, h.cellAt j (by rw [← hlr]; exact hj)]; exact hu) (rc_one plE_one l)
    change Calls Try.prog 50 _ _ _ at hc
    refine hc.mono ?_
    rintro e w' ⟨v', rfl, hown, _, hbl⟩
    exact ⟨hbl, v', rfl, hown⟩
end
theorem lack_le (F cur : Pl → Nat) (hF : ∀ q, F q ≤ 15) : ∀ U : List Pl, lack F cur U ≤ 15 * U.length
  | [] => by simp [lack]
  | u :: U => by
    have h1 := lack_le F cur hF U
    have h2 := hF u
    unfold lack at *
    simp only [List.map_cons, List.sum_cons, List.length_cons]
    omega
/-- A light of what it was and the wave's own half. -/
def mixL (put : Int × Int → Int → Int × Int) (f : Fw) (M0 : LMap) (cur : Pl → Nat) (q : Pl) : Int × Int := put (nowAt f M0 q) (cur q)
theorem mix_put {sel : Int × Int → Int} {put : Int × Int → Int → Int × Int} (hf : Half sel put) {f : Fw} {M0 M : LMap} {cur : Pl → Nat} (h : ∀ q, nowAt f M q = mixL put f M0 cur q) (p : Pl) (n : Nat) (c : Nat) : ∀ q, nowAt f (putL M p (put (nowAt f M p) n) c) q = mixL put f M0 (upd cur p n) q := fun q => by
  rw [nowAt_put]
  unfold mixL
  by_cases e : q = p
  · subst e
    rw [if_pos rfl, h, mixL, hf.twice, upd_same]
  · rw [if_neg e, h, upd_ne _ _ e]
    rfl
/-- The bright wave's first loop, j places gone through. -/
structure BrA (W0 W : World) (base g b3 b10 b11 gm b2 : Nat) (f : Fw) (cv lv av tv : Value) (ws : Array Value) (put : Int × Int → Int → Int × Int) (M0 M : LMap) (c : Nat) (A0 A : List Pl) (av' v : Value) (l0 l : List Pl) (own : Pl → Int) (F cur0 : Pl → Nat) (j a : Nat) (cur : Pl → Nat) : Prop where
  st : BSt W0 W base g b3 b10 b11 gm b2 f cv lv av tv ws M c (A0 ++ A) av' v l
  now : ∀ q, nowAt f M q = mixL put f M0 cur q
  keys : ∀ q ∈ keysL M, q ∈ keysL M0 ∨ q ∈ l
  given : Given sidesP (fun q => (own q).toNat) F cur0 l j cur
  few : A.length ≤ l0.length + 9 * j + a
  near : ∀ x ∈ A, NearL l0 x
/-- The second loop, i places gone through and k sides of the next one. -/
structure BrB (W0 W : World) (base g b3 b10 b11 gm b2 : Nat) (f : Fw) (cv lv av tv : Value) (ws : Array Value) (put : Int × Int → Int → Int × Int) (M0 M : LMap) (c : Nat) (A0 A : List Pl) (av' v : Value) (l0 l L : List Pl) (own : Pl → Int) (F cur0 : Pl → Nat) (B i k a : Nat) (cur : Pl → Nat) : Prop where
  st : BSt W0 W base g b3 b10 b11 gm b2 f cv lv av tv ws M c (A0 ++ A) av' v L
  now : ∀ q, nowAt f M q = mixL put f M0 cur q
  keys : ∀ q ∈ keysL M, q ∈ keysL M0 ∨ q ∈ L
  spread : Spread sidesP (fun q => clrAt f q = true) (fun q => (own q).toNat) F cur0 f.b.all l B L i k cur
  few : A.length ≤ l0.length + 9 * l.length + 19 * i + 3 * k + a
  near : ∀ x ∈ A, NearL l0 x ∨ NearL L x
section
variable {W0 W W' : World} {base g b3 b10 b11 gm b2 gh : Nat} {f : Fw} {cv lv av tv av' av'' v v' : Value} {ws : Array Value} {sel : Int × Int → Int} {put : Int × Int → Int → Int × Int} {M0 M M' : LMap} {c c' : Nat} {A0 A m m' : List Pl} {l0 l L : List Pl} {own : Pl → Int} {F cur0 cur : Pl → Nat} {j a B i k n : Nat} {p q r : Pl}
theorem BrA.asks (h : BrA W0 W base g b3 b10 b11 gm b2 f cv lv av tv ws put M0 M c A0 A av' v l0 l own F cur0 j a cur) (k : Asks W W' base g { f with asked := f.asked ++ (A0 ++ A) } cv lv av' tv m av'') (hm : ∀ x ∈ m, NearL l0 x) (hl : m.length ≤ 1) : BrA W0 W' base g b3 b10 b11 gm b2 f cv lv av tv ws put M0 M c A0 (A ++ m) av'' v l0 l own F cur0 j (a + 1) cur := by
  refine ⟨by rw [← List.append_assoc]; exact h.st.asks k, h.now, h.keys, h.given, ?_, near_app h.near hm⟩
  have := h.few
  rw [List.length_append]
  omega
theorem BrA.under (h : BrA W0 W base g b3 b10 b11 gm b2 f cv lv av tv ws put M0 M c A0 A av' v l0 l own F cur0 j a cur) (hb : Below W.heap.size W W') : BrA W0 W' base g b3 b10 b11 gm b2 f cv lv av tv ws put M0 M c A0 A av' v l0 l own F cur0 j a cur :=
  ⟨h.st.under hb, h.now, h.keys, h.given, h.few, h.near⟩
theorem BrA.next (hf : Half sel put) (h : BrA W0 W base g b3 b10 b11 gm b2 f cv lv av tv ws put M0 M c A0 A av' v l0 l own F cur0 j a cur) (hp : l[j]? = some p) (hpl : p ∈ l0) (hk : k = (sidesP p).length) (ha : a ≤ 8) (hm : Most sidesP (fun q => (own q).toNat) F cur p k n) (hs : Sets W W' base g b3 b10 b11 gm { f with asked := f.asked ++ (A0 ++ A) } cv lv av' tv (putL M p (put (nowAt f M p) n) c) c' m av'') (hj : JustOne p 1 m) :
    BrA W0 W' base g b3 b10 b11 gm b2 f cv lv av tv ws put M0 (putL M p (put (nowAt f M p) n) c) c' A0 (A ++ m) av'' v l0 l own F cur0 (j + 1) 0 (upd cur p n) := by
  refine ⟨by rw [← List.append_assoc]; exact h.st.set hs, mix_put hf h.now p n c, fun q hq => ?_, h.given.step hp hm hk, ?_, near_app h.near (NearL.one hj ⟨p, hpl, .inl rfl⟩)⟩
  · rw [keysL_put] at hq
    rcases hq with hq | rfl
    · exact h.keys q hq
    · exact .inr (List.mem_of_getElem? hp)
  · have := h.few
    have := hj.2
    rw [List.length_append]
    omega
theorem BrB.asks (h : BrB W0 W base g b3 b10 b11 gm b2 f cv lv av tv ws put M0 M c A0 A av' v l0 l L own F cur0 B i k a cur) (hq : Asks W W' base g { f with asked := f.asked ++ (A0 ++ A) } cv lv av' tv m av'') (hm : ∀ x ∈ m, NearL L x) (hl : m.length ≤ 1) : BrB W0 W' base g b3 b10 b11 gm b2 f cv lv av tv ws put M0 M c A0 (A ++ m) av'' v l0 l L own F cur0 B i k (a + 1) cur := by
  refine ⟨by rw [← List.append_assoc]; exact h.st.asks hq, h.now, h.keys, h.spread, ?_, fun x hx => (List.mem_append.1 hx).elim (h.near x) (fun hx => .inr (hm x hx))⟩
  have := h.few
  rw [List.length_append]
  omega
theorem BrB.under (h : BrB W0 W base g b3 b10 b11 gm b2 f cv lv av tv ws put M0 M c A0 A av' v l0 l L own F cur0 B i k a cur) (hb : Below W.heap.size W W') : BrB W0 W' base g b3 b10 b11 gm b2 f cv lv av tv ws put M0 M c A0 A av' v l0 l L own F cur0 B i k a cur :=
  ⟨h.st.under hb, h.now, h.keys, h.spread, h.few, h.near⟩
theorem BrB.skip (h : BrB W0 W base g b3 b10 b11 gm b2 f cv lv av tv ws put M0 M c A0 A av' v l0 l L own F cur0 B i k a cur) (hr : L[i]? = some r) (hq : (sidesP r)[k]? = some q) (hs : clrAt f q = true → cur r ≤ cur q + 1) {a0 : Nat} (ha : a ≤ 3 + a0) : BrB W0 W base g b3 b10 b11 gm b2 f cv lv av tv ws put M0 M c A0 A av' v l0 l L own F cur0 B i (k + 1) a0 cur :=
  ⟨h.st, h.now, h.keys, h.spread.skip hr hq hs, by have := h.few; omega, h.near⟩
theorem BrB.more (hf : Half sel put) (h : BrB W0 W base g b3 b10 b11 gm b2 f cv lv av tv ws put M0 M c A0 A av' v l0 l L own F cur0 B i k a cur) (hF : Lights sidesP (fun q => clrAt f q = true) (fun q => (own q).toNat) F) (hr : L[i]? = some r) (hq : (sidesP r)[k]? = some q) (hcl : clrAt f q = true) (hi : f.b.inside q) (hlt : cur q < cur r - 1) {a0 : Nat} (ha : a ≤ 2 + a0)
    (hs : BSt W0 W' base g b3 b10 b11 gm b2 f cv lv av tv ws (putL M q (put (nowAt f M q) ((cur r - 1 : Nat) : Int)) c) c' (A0 ++ A ++ m) av'' v' (L ++ [q])) (hj : JustOne q 1 m) :
    BrB W0 W' base g b3 b10 b11 gm b2 f cv lv av tv ws put M0 (putL M q (put (nowAt f M q) ((cur r - 1 : Nat) : Int)) c) c' A0 (A ++ m) av'' v' l0 l (L ++ [q]) own F cur0 B i (k + 1) a0 (upd cur q (cur r - 1)) := by
  have hs1 : ∀ x ∈ L, x ∈ L ++ [q] := fun x hx => List.mem_append_left _ hx
  refine ⟨by rw [← List.append_assoc]; exact hs, mix_put hf h.now q _ c, fun x hx => ?_, h.spread.more hF sides_irr sides_sym (f.b.all_nodup) (f.b.all_mem.2 hi) hr hq hcl hlt, ?_, fun x hx => ?_⟩
  · rw [keysL_put] at hx
    rcases hx with hx | rfl
    · exact (h.keys x hx).imp id (hs1 x)
    · exact .inr (by simp)
  · have := h.few
    have := hj.2
    rw [List.length_append]
    omega
  · rcases List.mem_append.1 hx with hx | hx
    · exact (h.near x hx).imp id (fun k => k.mono hs1)
    · exact .inr ((NearL.one hj (side_near hr hq) x hx).mono hs1)
theorem BrB.next (h : BrB W0 W base g b3 b10 b11 gm b2 f cv lv av tv ws put M0 M c A0 A av' v l0 l L own F cur0 B i k a cur) (hr : L[i]? = some r) (hk : k = (sidesP r).length ∨ cur r ≤ 1) (ha : a ≤ 1) (h6 : k ≤ 6) : BrB W0 W base g b3 b10 b11 gm b2 f cv lv av tv ws put M0 M c A0 A av' v l0 l L own F cur0 B (i + 1) 0 0 cur :=
  ⟨h.st, h.now, h.keys, h.spread.next hr hk, by have := h.few; omega, h.near⟩
end
end Go.Proofs.Ytlhjjmfbifhgfaa
/- The bright wave: the walk. -/
namespace Go.Proofs.Ytlhjjmfbifhgfaa
set_option linter.unusedSimpArgs false
set_option linter.unusedVariables false
open Go.RowKit
set_option maxRecDepth 100000

theorem filter_sub {f : Fw} {l : List Pl} : ∀ q ∈ l.filter (clrAt f), q ∈ l ∧ clrAt f q = true := fun q hq => by simpa using hq
theorem clr_in {f : Fw} {q : Pl} (h : clrAt f q = true) : f.b.inside q := ((clear_at f q).1 h).1
set_option maxHeartbeats 16000000 in
theorem bright_any (W0 W : World) (base g b3 b10 b11 gm : Nat) (f : Fw) (cv lv av tv : Value) (M00 : LMap) (c00 : Nat) (h0 : FS W0 base g b3 b10 b11 gm f cv lv av tv M00 c00) (ok : f.Ok)
    (nO nA nS bo : Nat) (sel : Int × Int → Int) (put : Int × Int → Int → Int × Int) (own : Pl → Int) (X : World → Prop) (hw : WaveOk base g b3 b10 b11 gm f cv lv tv nO nA nS bo sel put own X) (hf : Half sel put)
    (M0 : LMap) (c0 : Nat) (A0 : List Pl) (av0 v0 : Value) (l0 : List Pl) (hs : Sets W0 W base g b3 b10 b11 gm f cv lv av tv M0 c0 A0 av0) (bv : Nat) (hr : PRow W bv v0 l0)
    (hX : ∀ W' M c A av', Sets W0 W' base g b3 b10 b11 gm f cv lv av tv M c A av' → X W')
    (hin : ∀ q ∈ l0, f.b.inside q) (hlen : l0.length ≤ 1024) (hge : ∀ q, 0 ≤ sel (nowAt f M0 q)) (ownT : Pl → Int) (howT : ∀ q ∈ l0, clrAt f q = true → own q = ownT q) (howg : ∀ q, 0 ≤ ownT q) (F : Pl → Nat) (hF : Lights sidesP (fun q => clrAt f q = true) (fun q => (ownT q).toNat) F)
    (hu : ∀ q, (sel (nowAt f M0 q)).toNat ≤ F q) (hown : ∀ q, clrAt f q = true → q ∉ l0 → (ownT q).toNat ≤ (sel (nowAt f M0 q)).toNat) (hed : ∀ a, ∀ b ∈ sidesP a, clrAt f b = true → b ∉ l0 → (sel (nowAt f M0 a)).toNat ≤ (sel (nowAt f M0 b)).toNat + 1)
    (hl : f.asked.length + A0.length ≤ 900000000) :
    Calls Try.prog 31 #[.agg (wvC g (.func (.func nO) #[] #[.pointer (some ⟨bo, 0, none⟩)]) (.func (.func nA) #[] #[.pointer (some ⟨b11, 0, none⟩)]) (.func (.func nS) #[] #[.pointer (some ⟨b11, 0, none⟩), .pointer (some ⟨b10, 0, none⟩)])), v0] W fun e w' =>
      ∃ M c A av', e = .returned (.tuple #[]) ∧ Sets W0 w' base g b3 b10 b11 gm f cv lv av tv M c (A0 ++ A) av' ∧ (∀ q, nowAt f M q = put (nowAt f M0 q) (F q)) ∧ (∀ q ∈ keysL M, q ∈ keysL M0 ∨ (f.b.inside q ∧ (q ∈ l0 ∨ (sel (nowAt f M0 q)).toNat < F q))) ∧ A.length ≤ 400000 ∧
        ∀ x ∈ A, ∃ r, (r ∈ l0 ∨ (sel (nowAt f M0 r)).toNat < F r) ∧ (x = r ∨ x ∈ sidesP r) := by
  have eA := hw.eA
  have eS := hw.eS
  have eO := hw.eO
  have HWV := Lib.hid hw
  have HHF := Lib.hid hf
  have HOK := Lib.hid ok
  have H0 := Lib.hid h0
  have HIN := Lib.hid hin
  have HGE := Lib.hid hge
  have HOG := Lib.hid howg
  have HOT := Lib.hid howT
  have HL := Lib.hid hl
  have HLF := Lib.hid hF
  have HU := Lib.hid hu
  have HOWN := Lib.hid hown
  have HED := Lib.hid hed
  have HXX := Lib.hid hX
  have HS := Lib.hid hs
  have HRW := Lib.hid hr
  have HB := Lib.hid ((Below.refl W.heap.size W).alloc (Nat.le_refl _) (.cells (wvC g (.func (.func nO) #[] #[.pointer (some ⟨bo, 0, none⟩)]) (.func (.func nA) #[] #[.pointer (some ⟨b11, 0, none⟩)]) (.func (.func nS) #[] #[.pointer (some ⟨b11, 0, none⟩), .pointer (some ⟨b10, 0, none⟩)])) 73))
  have HBX := Lib.hid (Blk.new W 73 (wvC g (.func (.func nO) #[] #[.pointer (some ⟨bo, 0, none⟩)]) (.func (.func nA) #[] #[.pointer (some ⟨b11, 0, none⟩)]) (.func (.func nS) #[] #[.pointer (some ⟨b11, 0, none⟩), .pointer (some ⟨b10, 0, none⟩)])))
  have HCL := Lib.hid (clone_any (own_below hr HB.out) (by omega))
  obtain ⟨ws, hws⟩ : ∃ ws, ws = wvC g (.func (.func nO) #[] #[.pointer (some ⟨bo, 0, none⟩)]) (.func (.func nA) #[] #[.pointer (some ⟨b11, 0, none⟩)]) (.func (.func nS) #[] #[.pointer (some ⟨b11, 0, none⟩), .pointer (some ⟨b10, 0, none⟩)]) := ⟨_, rfl⟩
  rw [← hws] at HB HBX HCL ⊢
  have HWS := Lib.hid hws
  have hwlt := HBX.out.lt
  obtain ⟨W1, hW1⟩ : ∃ W1, W1 = W.alloc (.cells ws 73) := ⟨_, rfl⟩
  rw [← hW1] at HB HBX HCL hwlt
  have HW1 := Lib.hid (show W1 = W.alloc (.cells #[.iface 29 (.pointer (some ⟨g, 0, none⟩)), .func (.func nO) #[] #[.pointer (some ⟨bo, 0, none⟩)], .func (.func nA) #[] #[.pointer (some ⟨b11, 0, none⟩)], .func (.func nS) #[] #[.pointer (some ⟨b11, 0, none⟩), .pointer (some ⟨b10, 0, none⟩)]] 73) from by rw [hW1, hws]; rfl)
  unfold wvC at hws
  rw [hws]
  clear h0 ok hw hf hs hr hin hge howg howT hF hu hown hed hl hX hW1 hws
  go_enter Try.func31, Try.ntmps31
  go_wp2_with fail
  rw [← HW1.out]
  go_at_call 50
  refine HCL.out.mono ?_
  rintro e w2 ⟨hb2, v2, rfl, hr2⟩
  have HB2 := Lib.hid (HB.out.trans (hb2.mono HB.out.size))
  have hS2 := HS.out.under HB2.out
  have HBX2 := Lib.hid (HBX.out.below hb2 hwlt)
  have HDL := Lib.hid (del_any W0 w2 base g W.heap.size b3 b10 b11 gm W1.heap.size f cv lv av tv av0 (.func (.func nO) #[] #[.pointer (some ⟨bo, 0, none⟩)]) (.func (.func nA) #[] #[.pointer (some ⟨b11, 0, none⟩)]) (.func (.func nS) #[] #[.pointer (some ⟨b11, 0, none⟩), .pointer (some ⟨b10, 0, none⟩)]) v2 M00 M0 c00 c0 A0 l0 H0.out hS2 HOK.out (by rw [← HWS.out]; exact HBX2.out) hr2 (by have := HS.out.only.size; have := HB.out.size; omega) (fun k hk e => by
    have h1 := (hr2.lt k hk).1
    have h2 := (HS.out.fs.fld.asked.lt k e).2
    omega) (fun q hq => Bx.inside_may HOK.out.box (HIN.out q hq)) (by have := HL.out; omega))
  clear hb2 hr2 hS2
  go_wp2_with fail
  go_at_call 49
  refine HDL.out.mono ?_
  rintro e w3 ⟨v3, av3, rfl, hs3, hr3, hx3, hap3⟩
  rw [← HWS.out] at hx3
  obtain ⟨l, hll⟩ : ∃ l, l = l0.filter (clrAt f) := ⟨_, rfl⟩
  rw [← hll] at hr3
  have HLL := Lib.hid hll
  have HSUB := Lib.hid (show ∀ q ∈ l, q ∈ l0 ∧ clrAt f q = true from fun q hq => filter_sub q (hll ▸ hq))
  have hlen2 : l.length ≤ 1024 := by rw [hll]; exact Nat.le_trans (List.length_filter_le _ _) hlen
  have hw03 : W0.heap.size ≤ W1.heap.size := by have := HS.out.only.size; have := HB.out.size; omega
  have HA0 := Lib.hid (show BrA W0 w3 base g b3 b10 b11 gm W.heap.size f cv lv av tv ws put M0 M0 c0 A0 l0 av3 v3 l0 l ownT F (fun q => (sel (nowAt f M0 q)).toNat) 0 0 (fun q => (sel (nowAt f M0 q)).toNat) from
    ⟨⟨hs3, own_base hr3 hw03, hap3, hx3, HS.out.only.size⟩, fun q => by
      unfold mixL
      have := HGE.out q
      rw [Int.toNat_of_nonneg this, HHF.out.same], fun q hq => .inl hq, Given.start HU.out, by omega, fun x hx => ⟨x, hx, .inl rfl⟩⟩)
  obtain ⟨_, ao3, cap3, rfl, hcap3, _⟩ := own_rat (d := ((0, 0, 0) : Pl)) plE_len hr3
  obtain ⟨nl, hnl⟩ : ∃ nl, nl = l.length := ⟨_, rfl⟩
  have HNL := Lib.hid hnl
  rw [← hnl] at hlen2 hcap3 HA0 ⊢
  clear hs3 hr3 hx3 hap3 hll hnl
  go_wp2
  go_loopw [20] (fun i wr => ∃ (j : Nat) (M : LMap) (c : Nat) (A : List Pl) (av' : Value) (cur : Pl → Nat), j ≤ nl ∧ i = .int .i64 j ∧ BrA W0 wr base g b3 b10 b11 gm W.heap.size f cv lv av tv ws put M0 M c A0 A av' (.slice ao3 nl cap3) l0 l ownT F (fun q => (sel (nowAt f M0 q)).toNat) j 0 cur) (fun i _ => nl - (intOf i).toNat)
  case atStart => exact ⟨0, M0, c0, l0, av3, _, Nat.zero_le _, rfl, HA0.out⟩
  case round =>
    clear HA0 HDL HCL HB2 HBX2 HB HBX
    obtain ⟨j, M, c, A, av', cur, hj, rfl, hd⟩ := hrel
    have HD := Lib.hid hd
    clear hd
    by_cases hlt : j < nl
    · have hltI : (j : Int) < (nl : Int) := by omega
      have hjl : j < l.length := by have := HNL.out; omega
      have hc0 : 0 < cap3 := by omega
      have hrow := HD.out.st.row
      rw [HNL.out] at hrow
      obtain ⟨gl, rfl, -, -⟩ := own_form hrow hc0
      have hat := own_at plE_len ((0, 0, 0) : Pl) hrow hjl
      obtain ⟨p, hp⟩ : ∃ p, p = l.getD j (0, 0, 0) := ⟨_, rfl⟩
      rw [← hp] at hat
      have HP := Lib.hid (show l[j]? = some p by rw [hp, getD_at hjl, List.getElem?_eq_getElem hjl])
      have HPS := Lib.hid (HSUB.out p (List.mem_of_getElem? HP.out))
      have HMP := Lib.hid (Bx.inside_may HOK.out.box (HIN.out p HPS.out.1))
      obtain ⟨W2, hW2⟩ : ∃ W2, W2 = wr.alloc (.cells (plC p) 23) := ⟨_, rfl⟩
      have hB2 : Below wr.heap.size wr W2 := by rw [hW2]; exact (Below.refl _ _).alloc (Nat.le_refl _) _
      have HD2 := Lib.hid ((HD.out.under hB2).under (Below.refl W2.heap.size W2).drew)
      have hP2 : Blk W2 wr.heap.size 23 (plC p) := by rw [hW2]; exact Blk.new _ _ _
      have HP2 := Lib.hid hP2
      have hfew := HD.out.few
      have hlb : (f.asked ++ (A0 ++ A)).length ≤ 900100000 := by have := HL.out; simp only [List.length_append] at *; omega
      have HLB := Lib.hid hlb
      have HO := Lib.hid (HWV.out.own_ W2.drew (A0 ++ A) av' M c HD2.out.st.sets.fs (HXX.out _ _ _ _ _ HD2.out.st.sets) p HMP.out (by omega))
      have HF2 := Lib.hid (new_far HD.out.st (Nat.le_refl _))
      have HF3 := Lib.hid (fun e => HF2.out (.inr (Eq.symm e)) : av'.ownBlock ≠ some wr.heap.size)
      have hbxb : W.heap.size < wr.heap.size := HD.out.st.box.lt
      have hlt2 : wr.heap.size < W2.heap.size := hP2.lt
      have HW2 := Lib.hid hW2
      have HNW := Lib.hid (show sel (nowAt f M p) = cur p by rw [HD.out.now, mixL, HHF.out.get])
      obtain ⟨on, hon⟩ : ∃ on : Nat, ownT p = on := ⟨(ownT p).toNat, by have := HOG.out p; omega⟩
      have HON := Lib.hid hon
      rw [HOT.out p HPS.out.1 HPS.out.2, hon] at HO
      have h15 : cur p ≤ 15 := Nat.le_trans (HD.out.given.up p) (HLF.out.le p)
      have hon15 : on ≤ 15 := by
        have h1 := HLF.out.own_le (c := p) HPS.out.2
        have h2 := HLF.out.le p
        rw [hon] at h1
        simp only [Int.toNat_natCast] at h1
        omega
      have HMS := Lib.hid (show Most sidesP (fun q => (ownT q).toNat) F cur p 0 (max on (cur p)) from by
        have := Most.start (cur := cur) (p := p) HLF.out HD.out.given.up HPS.out.2
        rwa [hon, Int.toNat_natCast] at this)
      have hbx := HD2.out.st.box
      rw [HWS.out] at hbx
      obtain ⟨-, d1, d2, d3⟩ := wave_cells hbx
      have HNP := Lib.hid (show NearL l0 p from ⟨p, HPS.out.1, .inl rfl⟩)
      obtain ⟨cp, hcp⟩ : ∃ cp, cp = cur p := ⟨_, rfl⟩
      have HCP := Lib.hid hcp
      rw [← hcp] at h15 HMS HNW
      clear hW2 hB2 hP2 hp hrow hbx hon hlb hcp
      obtain ⟨px, py, pz⟩ := p
      have e0 : wr.cell? ⟨gl, j * 3, none⟩ = some (.int .i64 px) := hat 0 (by decide)
      have e1 : wr.cell? ⟨gl, j * 3 + 1, none⟩ = some (.int .i64 py) := hat 1 (by decide)
      have e2 : wr.cell? ⟨gl, j * 3 + 2, none⟩ = some (.int .i64 pz) := hat 2 (by decide)
      unfold plV plC at HO
      unfold plC at HW2 HP2
      simp only at HO HW2 HP2
      clear hat
      obtain ⟨a0, a1, a2⟩ := three_of HP2.out
      go_wp2
      rw [← HW2.out]
      go_region_held (fun w' => w'.cell? ⟨wr.heap.size, 0, none⟩ = some (.int .i64 px) ∧ w'.cell? ⟨wr.heap.size, 1, none⟩ = some (.int .i64 py) ∧ w'.cell? ⟨wr.heap.size, 2, none⟩ = some (.int .i64 pz) ∧ w'.cell? ⟨W.heap.size, 1, none⟩ = some (.func (.func nO) #[] #[.pointer (some ⟨bo, 0, none⟩)]) ∧ w'.cell? ⟨W.heap.size, 2, none⟩ = some (.func (.func nA) #[] #[.pointer (some ⟨b11, 0, none⟩)]))
        (first | exact ⟨a0, a1, a2, d1, d2⟩ | assumption | go_keep)
        (first | (go_at_fn nO; refine HO.out.mono ?_; rintro e w4 ⟨rfl, av4, l4, hj4, ha4⟩; have hs4 := HD2.out.asks ha4 (NearL.one hj4 HNP.out) hj4.2; have HD4 := Lib.hid hs4; have HL4 := Lib.hid hj4.2; have hp4 := HP2.out.drew.only ha4.only HF2.out; have HP4 := Lib.hid hp4; have hat4 := HWV.out.at_ w4 (A0 ++ (A ++ l4)) av4 M c hs4.st.sets.fs (px, py, pz) HMP.out (by have := HLB.out; have := hj4.2; simp only [List.length_append] at *; omega); rw [HNW.out] at hat4; unfold plV plC at hat4; simp only at hat4; have HAT4 := Lib.hid hat4; have HNV4 := Lib.hid (asked_far ha4.new HF3.out hlt2); have hb4 := hs4.st.box; rw [HWS.out] at hb4; have S4 := And.intro (show w4.cell? ⟨wr.heap.size, 0, none⟩ = some (.int .i64 px) from hp4.cell 0) (And.intro (show w4.cell? ⟨wr.heap.size, 1, none⟩ = some (.int .i64 py) from hp4.cell 1) (And.intro (show w4.cell? ⟨wr.heap.size, 2, none⟩ = some (.int .i64 pz) from hp4.cell 2) (And.intro (wave_cells hb4).2.1 (wave_cells hb4).2.2.1))); clear hs4 hp4 hat4 hj4 ha4 hb4) | (go_at_fn nA; refine HAT4.out.mono ?_; rintro e w5 ⟨rfl, av5, l5, hj5, ha5⟩; have hs5 := HD4.out.asks ha5 (NearL.one hj5 HNP.out) hj5.2; have HD5 := Lib.hid hs5; have hp5 := HP4.out.only ha5.only (fun hq => hq.elim (fun e => HF2.out (.inl e)) (fun e => HNV4.out e.symm)); have HP5 := Lib.hid hp5; have HNV5 := Lib.hid (asked_far ha5.new HNV4.out HP4.out.lt); have hb5 := hs5.st.box; rw [HWS.out] at hb5; have S5 := And.intro (show w5.cell? ⟨wr.heap.size, 0, none⟩ = some (.int .i64 px) from hp5.cell 0) (And.intro (show w5.cell? ⟨wr.heap.size, 1, none⟩ = some (.int .i64 py) from hp5.cell 1) (And.intro (show w5.cell? ⟨wr.heap.size, 2, none⟩ = some (.int .i64 pz) from hp5.cell 2) (And.intro (wave_cells hb5).2.1 (wave_cells hb5).2.2.1))); clear hs5 hp5 hj5 ha5 hb5))
      obtain ⟨n, hn⟩ : ∃ n : Nat, n = max on cp := ⟨_, rfl⟩
      rw [show max (on : Int) (cp : Int) = ((n : Nat) : Int) by omega]
      rw [← hn] at HMS
      have hn15 : n ≤ 15 := by omega
      have HSI := Lib.hid (sides_any w5 (px, py, pz))
      unfold plV plC at HSI
      simp only at HSI
      obtain ⟨p0, p1, p2⟩ := three_of HP5.out
      clear a0 a1 a2 d1 d2 d3 e0 e1 e2 S4 S5 hn HD2 HP2 HO HF2 HF3 HAT4 HNV4 HP4 HD4 hfew
      go_wp2_with fail
      go_at_call 52
      refine HSI.out.mono ?_
      rintro e w6 ⟨sv, rfl, hsr, hb⟩
      obtain ⟨_, aos, caps, rfl, hcaps, _⟩ := own_rat (d := ((0, 0, 0) : Pl)) plE_len hsr
      obtain ⟨nD, hnD⟩ : ∃ nD, nD = (sidesP (px, py, pz)).length := ⟨_, rfl⟩
      have HND2 := Lib.hid hnD
      rw [← hnD] at hsr hcaps ⊢
      have hn6 : nD ≤ 6 := by rw [hnD]; exact sidesTo_len _ 6
      have HD6 := Lib.hid (HD5.out.under hb)
      have HSD6 := Lib.hid (show SideAt w6 w5.heap.size (.slice aos nD caps) (px, py, pz) av5 (.slice (some ⟨gl, 0, none⟩) nl cap3) from ⟨by rw [hnD] at hsr ⊢; exact hsr, fun k hk e => by
          have h1 := (hsr.lt k hk).1
          have h2 := (HD5.out.st.sets.fs.fld.asked.lt k e).2
          omega, fun k hk e => by
          have h1 := (hsr.lt k hk).1
          have h2 := (HD5.out.st.row.lt k e).2
          omega⟩)
      have HP6 := Lib.hid (HP5.out.below hb HP5.out.lt)
      obtain ⟨bp, hbp⟩ : ∃ bp, bp = wr.heap.size := ⟨_, rfl⟩
      obtain ⟨n0, hn0⟩ : ∃ n0, n0 = w5.heap.size := ⟨_, rfl⟩
      have HBP := Lib.hid (show W.heap.size < bp by rw [hbp]; exact hbxb)
      rw [← hbp] at HP6 HNV5 ⊢
      rw [← hn0] at HSD6
      clear hsr hb hnD p0 p1 p2 hbp hbxb hlt2 hn0
      go_wp2
      try rw [show ((0 : Nat) : Int) = 0 from rfl]
      go_loopw [6, 36] (fun nn kk wr => ∃ (k n : Nat) (A : List Pl) (av' : Value), k ≤ nD ∧ kk = .int .i64 k ∧ nn = .int .u8 n ∧ n ≤ 15 ∧ BrA W0 wr base g b3 b10 b11 gm W.heap.size f cv lv av tv ws put M0 M c A0 A av' (.slice (some ⟨gl, 0, none⟩) nl cap3) l0 l ownT F (fun q => (sel (nowAt f M0 q)).toNat) j (0 + 1 + 1 + k) cur ∧ SideAt wr n0 (.slice aos nD caps) (px, py, pz) av' (.slice (some ⟨gl, 0, none⟩) nl cap3) ∧ Most sidesP (fun q => (ownT q).toNat) F cur (px, py, pz) k n ∧ Blk wr bp 23 #[.int .i64 px, .int .i64 py, .int .i64 pz] ∧ av'.ownBlock ≠ some bp) (fun _ kk _ => nD - (intOf kk).toNat)
      case atStart => exact ⟨0, n, _, av5, Nat.zero_le _, rfl, rfl, hn15, HD6.out, HSD6.out, HMS.out, HP6.out, HNV5.out⟩
      case round =>
        clear HD HD6 HD5 HSD6 HMS HP6 HNV5 hn15 HSI HW2 HP5 HNW
        obtain ⟨k, n, A, av', hk, rfl, rfl, hn15, hd, hsd, hms, hpb, hnv⟩ := hrel
        have HD := Lib.hid hd
        have HSD := Lib.hid hsd
        have HMS := Lib.hid hms
        have HPB := Lib.hid hpb
        have HNV := Lib.hid hnv
        clear hd hsd hms hpb hnv
        by_cases hkt : k < nD
        · have hkI : (k : Int) < (nD : Int) := by omega
          have hktS : k < (sidesP (px, py, pz)).length := by have := HND2.out; omega
          have hsrow := HSD.out.row
          rw [HND2.out] at hsrow
          have hcs : 0 < caps := by omega
          obtain ⟨gs, rfl, -, -⟩ := own_form hsrow hcs
          have hat := own_at plE_len ((0, 0, 0) : Pl) hsrow hktS
          obtain ⟨q, hq⟩ : ∃ q, q = (sidesP (px, py, pz)).getD k (0, 0, 0) := ⟨_, rfl⟩
          rw [← hq] at hat
          have HQ := Lib.hid (show (sidesP (px, py, pz))[k]? = some q by rw [hq, getD_at hktS, List.getElem?_eq_getElem hktS])
          have HMQ := Lib.hid (sidesP_iff.1 (List.mem_of_getElem? HQ.out)).2.1
          obtain ⟨W2, hW2⟩ : ∃ W2, W2 = wr.alloc (.cells (plC q) 23) := ⟨_, rfl⟩
          have hB2 : Below wr.heap.size wr W2 := by rw [hW2]; exact (Below.refl _ _).alloc (Nat.le_refl _) _
          have HD2 := Lib.hid (HD.out.under hB2)
          have hP2 : Blk W2 wr.heap.size 23 (plC q) := by rw [hW2]; exact Blk.new _ _ _
          have HP2 := Lib.hid hP2
          have HSD2 := Lib.hid (HSD.out.under hB2)
          have HPB2 := Lib.hid (HPB.out.below hB2 HPB.out.lt)
          have hfew := HD.out.few
          have HAT := Lib.hid (HWV.out.at_ W2 (A0 ++ A) av' M c HD2.out.st.sets.fs q HMQ.out (by have := HL.out; simp only [List.length_append] at *; omega))
          have HNW := Lib.hid (show sel (nowAt f M q) = cur q by rw [HD.out.now, mixL, HHF.out.get])
          rw [HNW.out] at HAT
          have HF2 := Lib.hid (new_far HD.out.st (Nat.le_refl _))
          have HW2 := Lib.hid hW2
          have hlt2 : wr.heap.size < W2.heap.size := hP2.lt
          have hbxb : W.heap.size < wr.heap.size := HD.out.st.box.lt
          have hbpl : bp < wr.heap.size := HPB.out.lt
          have HNQ := Lib.hid (show NearL l0 q from ⟨_, HPS.out.1, .inr (List.mem_of_getElem? HQ.out)⟩)
          have h15 : cur q ≤ 15 := Nat.le_trans (HD.out.given.up q) (HLF.out.le q)
          have hbx := HD2.out.st.box
          rw [HWS.out] at hbx
          obtain ⟨-, -, d2, -⟩ := wave_cells hbx
          have HMX := Lib.hid (HMS.out.step HLF.out HD.out.given.up HPS.out.2 HQ.out)
          have hmx := HMX.out.up
          have hmx2 := HLF.out.le (px, py, pz)
          obtain ⟨x, hx⟩ : ∃ x, x = cur q := ⟨_, rfl⟩
          rw [← hx] at HAT HMX h15 hmx
          have hm15 : max n (x - 1) ≤ 15 := by omega
          clear hW2 hB2 hP2 hq hsrow hbx hx hmx hmx2
          obtain ⟨qx, qy, qz⟩ := q
          have e0 : wr.cell? ⟨gs, k * 3, none⟩ = some (.int .i64 qx) := hat 0 (by decide)
          have e1 : wr.cell? ⟨gs, k * 3 + 1, none⟩ = some (.int .i64 qy) := hat 1 (by decide)
          have e2 : wr.cell? ⟨gs, k * 3 + 2, none⟩ = some (.int .i64 qz) := hat 2 (by decide)
          unfold plV plC at HAT
          unfold plC at HW2 HP2
          simp only at HAT HW2 HP2
          clear hat
          obtain ⟨a0, a1, a2⟩ := three_of HP2.out
          rw [HW2.out] at a0 a1 a2 d2
          go_wp2_with fail
          rw [← HW2.out]
          refine HAT.out.mono ?_
          rintro e w3 ⟨rfl, av3, l3, hj3, ha3⟩
          have HD3 := Lib.hid (HD2.out.asks ha3 (NearL.one hj3 HNQ.out) hj3.2)
          have HSD3 := Lib.hid (HSD2.out.asks HD2.out.st.sets.fs.fld ha3)
          have HPB3 := Lib.hid (HPB2.out.only ha3.only (fun hq => hq.elim (fun e => Blk.ne_ HPB2.out HD2.out.st.sets.fs.fld.blk (by decide) e) (fun e => HNV.out e.symm)))
          have HNV3 := Lib.hid (asked_far ha3.new HNV.out (show bp < W2.heap.size by omega))
          clear ha3 hj3
          clear a0 a1 a2 d2 e0 e1 e2 HSD2 HD2 HP2 HAT HPB2
          by_cases hx0 : 0 < x
          · have hxI : (0 : Int) < (x : Int) := by omega
            have hxs : IntKind.u8.wrap ((x : Int) - 1) = (x : Int) - 1 := by rw [IntKind.wrap_u8]; omega
            go_wp2
            go_roundw
            case rel => exact ⟨k + 1, max n (x - 1), _, av3, by omega, by go_num, by rw [show max (n : Int) ((x : Int) - 1) = ((max n (x - 1) : Nat) : Int) by omega], hm15, HD3.out, HSD3.out, HMX.out, HPB3.out, HNV3.out⟩
            case measure => simp [intOf]; omega
          · have hxI : ¬ (0 : Int) < (x : Int) := by omega
            have HXZ := Lib.hid (show max n (x - 1) = n by omega)
            go_wp2
            go_roundw
            case rel => exact ⟨k + 1, n, _, av3, by omega, by go_num, rfl, hn15, HD3.out, HSD3.out, by rw [← HXZ.out]; exact HMX.out, HPB3.out, HNV3.out⟩
            case measure => simp [intOf]; omega
        · have HKE := Lib.hid (show k = (sidesP (px, py, pz)).length by have := HND2.out; omega)
          have hfew := HD.out.few
          have HST := Lib.hid (HWV.out.set_ wr (A0 ++ A) av' M c HD.out.st.sets.fs (px, py, pz) (n : Int) HMP.out (by have := HL.out; simp only [List.length_append] at *; omega))
          unfold plV plC at HST
          simp only at HST
          have hbx := HD.out.st.box
          rw [HWS.out] at hbx
          obtain ⟨-, -, -, d3⟩ := wave_cells hbx
          obtain ⟨a0, a1, a2⟩ := three_of HPB.out
          clear hbx
          go_wp2_with fail
          refine HST.out.mono ?_
          rintro e w3 ⟨rfl, av3, l3, hj3, hs3⟩
          have HD3 := Lib.hid (HD.out.next HHF.out HP.out HPS.out.1 HKE.out (by omega) HMS.out hs3 hj3)
          clear hs3 hj3 a0 a1 a2 d3
          go_wp2
          go_roundw
          case rel => exact ⟨j + 1, _, _, _, _, _, by omega, by go_num, HD3.out⟩
          case measure => simp [intOf]; omega
    · have HJE := Lib.hid (show j = l.length by have := HNL.out; omega)
      have HDB := Lib.hid (show BrB W0 wr base g b3 b10 b11 gm W.heap.size f cv lv av tv ws put M0 M c A0 A av' (.slice ao3 nl cap3) l0 l l ownT F (fun q => (sel (nowAt f M0 q)).toNat) 17000 0 0 0 cur from by
        have hg := HD.out.given
        rw [HJE.out] at hg
        have hal : f.b.all.length = f.b.size := by simp [Bx.all]
        have hal2 := Bx.size_le HOK.out.box
        have hlk := lack_le F cur HLF.out.le f.b.all
        have hnl : ∀ q, clrAt f q = true → q ∉ l → q ∉ l0 := fun q hc hn h => hn (by rw [HLL.out]; simpa using ⟨h, hc⟩)
        have hl1024 := HNL.out
        refine ⟨HD.out.st, HD.out.now, HD.out.keys, Spread.start hg (fun q hq => (HSUB.out q hq).2) (fun q hc hn => HOWN.out q hc (hnl q hc hn)) (fun a b hb hc hn => HED.out a b hb hc (hnl b hc hn)) sides_sym (by omega), ?_, fun x hx => .inl (HD.out.near x hx)⟩
        have := HD.out.few
        have := HJE.out
        omega)
      clear HD
      go_wp2
      go_loopw [1, 10] (fun v ii wr => ∃ (i : Nat) (M : LMap) (c : Nat) (A : List Pl) (av' : Value) (L : List Pl) (cur : Pl → Nat), i ≤ L.length ∧ ii = .int .i64 i ∧ BrB W0 wr base g b3 b10 b11 gm W.heap.size f cv lv av tv ws put M0 M c A0 A av' v l0 l L ownT F (fun q => (sel (nowAt f M0 q)).toNat) 17000 i 0 0 cur) (fun _ ii _ => 17001 - (intOf ii).toNat)
      case atStart => exact ⟨0, M, c, A, av', l, cur, Nat.zero_le _, rfl, HDB.out⟩
      case round =>
        clear HDB
        obtain ⟨i, M, c, A, av', L, cur, hi, rfl, hd⟩ := hrel
        have HD := Lib.hid hd
        clear hd
        have hLb : L.length ≤ 17000 := by have := HD.out.spread.room; omega
        obtain ⟨_, ao1, cap1, rfl, hcap1, _⟩ := own_rat (d := ((0, 0, 0) : Pl)) plE_len HD.out.st.row
        obtain ⟨nL, hnL⟩ : ∃ nL, nL = L.length := ⟨_, rfl⟩
        have HNL2 := Lib.hid hnL
        rw [← hnL] at hi hLb hcap1 HD ⊢
        clear hnL
        by_cases hlt : i < nL
        · have hltI : (i : Int) < (nL : Int) := by omega
          have hc0 : 0 < cap1 := by omega
          have hltL : i < L.length := by have := HNL2.out; omega
          have hrow := HD.out.st.row
          rw [HNL2.out] at hrow
          obtain ⟨gl, rfl, -, -⟩ := own_form hrow hc0
          have hat := own_at plE_len ((0, 0, 0) : Pl) hrow hltL
          obtain ⟨r, hr⟩ : ∃ r, r = L.getD i (0, 0, 0) := ⟨_, rfl⟩
          rw [← hr] at hat
          have HR := Lib.hid (show L[i]? = some r by rw [hr, getD_at hltL, List.getElem?_eq_getElem hltL])
          have HCR := Lib.hid (HD.out.spread.clr r (List.mem_of_getElem? HR.out))
          have HMR := Lib.hid (Bx.inside_may HOK.out.box (clr_in HCR.out))
          have hfew := HD.out.few
          have HLB := Lib.hid (show (f.asked ++ (A0 ++ A)).length ≤ 910000000 by have := HL.out; have := HNL.out; simp only [List.length_append] at *; omega)
          have HAT := Lib.hid (HWV.out.at_ wr.drew (A0 ++ A) av' M c (HD.out.under (Below.refl wr.heap.size wr).drew).st.sets.fs r HMR.out (by have := HLB.out; omega))
          have HNW := Lib.hid (show sel (nowAt f M r) = cur r by rw [HD.out.now, mixL, HHF.out.get])
          rw [HNW.out] at HAT
          have h15 : cur r ≤ 15 := Nat.le_trans (HD.out.spread.up r) (HLF.out.le r)
          have HNR := Lib.hid (show NearL L r from ⟨r, List.mem_of_getElem? HR.out, .inl rfl⟩)
          obtain ⟨n, hn⟩ : ∃ n, n = cur r := ⟨_, rfl⟩
          rw [← hn] at HAT h15
          have HN := Lib.hid hn
          have hbx := HD.out.st.box
          rw [HWS.out] at hbx
          obtain ⟨-, -, d2, -⟩ := wave_cells hbx
          clear hr hrow hn hbx
          obtain ⟨rx, ry, rz⟩ := r
          have e0 : wr.cell? ⟨gl, i * 3, none⟩ = some (.int .i64 rx) := hat 0 (by decide)
          have e1 : wr.cell? ⟨gl, i * 3 + 1, none⟩ = some (.int .i64 ry) := hat 1 (by decide)
          have e2 : wr.cell? ⟨gl, i * 3 + 2, none⟩ = some (.int .i64 rz) := hat 2 (by decide)
          unfold plV plC at HAT
          simp only at HAT
          clear hat
          go_wp2
          go_region_held (fun w' => w'.cell? ⟨gl, i * 3, none⟩ = some (.int .i64 rx) ∧ w'.cell? ⟨gl, i * 3 + 1, none⟩ = some (.int .i64 ry) ∧ w'.cell? ⟨gl, i * 3 + 2, none⟩ = some (.int .i64 rz) ∧ w'.cell? ⟨W.heap.size, 2, none⟩ = some (.func (.func nA) #[] #[.pointer (some ⟨b11, 0, none⟩)]))
            (first | exact ⟨e0, e1, e2, d2⟩ | assumption | go_keep)
            (first | (go_at_fn nA; refine HAT.out.mono ?_; rintro e w3 ⟨rfl, av3, l3, hj3, ha3⟩; have hs3 := (HD.out.under (Below.refl wr.heap.size wr).drew).asks ha3 (NearL.one hj3 HNR.out) hj3.2; have HD3 := Lib.hid hs3; have hb3 := hs3.st.box; rw [HWS.out] at hb3; have hrow3 := hs3.st.row; rw [HNL2.out] at hrow3; have hat3 := own_at plE_len ((0, 0, 0) : Pl) hrow3 (List.getElem?_eq_some_iff.1 HR.out).1; rw [List.getD_eq_getElem?_getD, HR.out] at hat3; have S3 := And.intro (show w3.cell? ⟨gl, i * 3, none⟩ = some (.int .i64 rx) from hat3 0 (by decide)) (And.intro (show w3.cell? ⟨gl, i * 3 + 1, none⟩ = some (.int .i64 ry) from hat3 1 (by decide)) (And.intro (show w3.cell? ⟨gl, i * 3 + 2, none⟩ = some (.int .i64 rz) from hat3 2 (by decide)) (wave_cells hb3).2.2.1)); clear hs3 hj3 ha3 hb3 hrow3 hat3))
          obtain ⟨f0, f1, f2, -⟩ := S3
          clear e0 e1 e2 d2 HAT HD
          by_cases hn2 : n < 2
          · have hnI : (n : Int) < 2 := by omega
            have HD4 := Lib.hid (HD3.out.next HR.out (.inr (by rw [← HN.out]; omega)) (Nat.le_refl _) (by decide))
            have HI4 := Lib.hid (show i + 1 ≤ L.length from (List.getElem?_eq_some_iff.1 HR.out).1)
            go_wp2
            go_roundw
            case rel => exact ⟨i + 1, _, _, _, _, _, _, HI4.out, by go_num, HD4.out⟩
            case measure => simp [intOf]; omega
          · have hnI : ¬ (n : Int) < 2 := by omega
            have HSI := Lib.hid (sides_any w3 (rx, ry, rz))
            unfold plV plC at HSI
            simp only at HSI
            go_wp2_with fail
            go_at_call 52
            refine HSI.out.mono ?_
            rintro e w6 ⟨sv, rfl, hsr, hb⟩
            obtain ⟨_, aos, caps, rfl, hcaps, _⟩ := own_rat (d := ((0, 0, 0) : Pl)) plE_len hsr
            obtain ⟨nD, hnD⟩ : ∃ nD, nD = (sidesP (rx, ry, rz)).length := ⟨_, rfl⟩
            have HND2 := Lib.hid hnD
            rw [← hnD] at hsr hcaps ⊢
            have hn6 : nD ≤ 6 := by rw [hnD]; exact sidesTo_len _ 6
            obtain ⟨n0, hn0⟩ : ∃ n0, n0 = w3.heap.size := ⟨_, rfl⟩
            have HD6 := Lib.hid (HD3.out.under hb)
            have HSD6 := Lib.hid (show SideAt w6 n0 (.slice aos nD caps) (rx, ry, rz) av3 (.slice (some ⟨gl, 0, none⟩) nL cap1) from ⟨by rw [hn0]; rw [hnD] at hsr ⊢; exact hsr, fun k hk e => by
                have h1 := (hsr.lt k hk).1
                have h2 := (HD3.out.st.sets.fs.fld.asked.lt k e).2
                omega, fun k hk e => by
                have h1 := (hsr.lt k hk).1
                have h2 := (HD3.out.st.row.lt k e).2
                omega⟩)
            clear hsr hb hnD f0 f1 f2 hn0
            go_wp2
            try rw [show ((0 : Nat) : Int) = 0 from rfl]
            go_loopw [1, 78] (fun v kk wr => ∃ (k : Nat) (M : LMap) (c : Nat) (A : List Pl) (av' : Value) (L : List Pl) (cur : Pl → Nat), k ≤ nD ∧ kk = .int .i64 k ∧ L[i]? = some (rx, ry, rz) ∧ n = cur (rx, ry, rz) ∧ BrB W0 wr base g b3 b10 b11 gm W.heap.size f cv lv av tv ws put M0 M c A0 A av' v l0 l L ownT F (fun q => (sel (nowAt f M0 q)).toNat) 17000 i k 1 cur ∧ SideAt wr n0 (.slice aos nD caps) (rx, ry, rz) av' v) (fun _ kk _ => nD - (intOf kk).toNat)
            case atStart => exact ⟨0, M, c, _, av3, L, cur, Nat.zero_le _, rfl, HR.out, HN.out, HD6.out, HSD6.out⟩
            case round =>
              clear HD3 HD6 HSD6 HSI HNL2 HR hcap1 HN HNR HNW HLB HCR hc0 hltL
              obtain ⟨k, M, c, A, av', L, cur, hk, rfl, hr, hn, hd, hsd⟩ := hrel
              have HD := Lib.hid hd
              have HSD := Lib.hid hsd
              have HR := Lib.hid hr
              have HN := Lib.hid hn
              clear hd hsd hr hn
              have hLb2 : L.length ≤ 17000 := by have := HD.out.spread.room; omega
              have hiL := (List.getElem?_eq_some_iff.1 HR.out).1
              obtain ⟨_, ao2, cap2, rfl, hcap2, _⟩ := own_rat (d := ((0, 0, 0) : Pl)) plE_len HD.out.st.row
              obtain ⟨mL, hmL⟩ : ∃ mL, mL = L.length := ⟨_, rfl⟩
              have HML := Lib.hid hmL
              rw [← hmL] at hiL hLb2 hcap2 HD HSD ⊢
              clear hmL
              have hc2 : 0 < cap2 := by omega
              have hrow := HD.out.st.row
              rw [HML.out] at hrow
              obtain ⟨g2, rfl, -, -⟩ := own_form hrow hc2
              clear hrow
              by_cases hkt : k < nD
              · have hkI : (k : Int) < (nD : Int) := by omega
                have hktS : k < (sidesP (rx, ry, rz)).length := by have := HND2.out; omega
                have hsrow := HSD.out.row
                rw [HND2.out] at hsrow
                have hcs : 0 < caps := by omega
                obtain ⟨gs, rfl, -, -⟩ := own_form hsrow hcs
                have hat := own_at plE_len ((0, 0, 0) : Pl) hsrow hktS
                obtain ⟨q, hq⟩ : ∃ q, q = (sidesP (rx, ry, rz)).getD k (0, 0, 0) := ⟨_, rfl⟩
                rw [← hq] at hat
                have HQ := Lib.hid (show (sidesP (rx, ry, rz))[k]? = some q by rw [hq, getD_at hktS, List.getElem?_eq_getElem hktS])
                have HMQ := Lib.hid (sidesP_iff.1 (List.mem_of_getElem? HQ.out)).2.1
                obtain ⟨W2, hW2⟩ : ∃ W2, W2 = wr.alloc (.cells (plC q) 23) := ⟨_, rfl⟩
                have hB2 : Below wr.heap.size wr W2 := by rw [hW2]; exact (Below.refl _ _).alloc (Nat.le_refl _) _
                have HD2 := Lib.hid (HD.out.under hB2)
                have hP2 : Blk W2 wr.heap.size 23 (plC q) := by rw [hW2]; exact Blk.new _ _ _
                have HP2 := Lib.hid hP2
                have HSD2 := Lib.hid (HSD.out.under hB2)
                have hfew := HD.out.few
                have HLB := Lib.hid (show (f.asked ++ (A0 ++ A)).length ≤ 910000000 by have := HL.out; have := HNL.out; simp only [List.length_append] at *; omega)
                have HAT := Lib.hid (HWV.out.at_ W2 (A0 ++ A) av' M c HD2.out.st.sets.fs q HMQ.out (by have := HLB.out; omega))
                have HNW := Lib.hid (show sel (nowAt f M q) = cur q by rw [HD.out.now, mixL, HHF.out.get])
                rw [HNW.out] at HAT
                have HF2 := Lib.hid (new_far HD.out.st (Nat.le_refl _))
                have HW2 := Lib.hid hW2
                have hlt2 : wr.heap.size < W2.heap.size := hP2.lt
                have hbxb : W.heap.size < wr.heap.size := HD.out.st.box.lt
                have HNQ := Lib.hid (show NearL L q from side_near HR.out HQ.out)
                have h15q : cur q ≤ 15 := Nat.le_trans (HD.out.spread.up q) (HLF.out.le q)
                have hbx := HD2.out.st.box
                rw [HWS.out] at hbx
                obtain ⟨-, -, d2, -⟩ := wave_cells hbx
                obtain ⟨x, hx⟩ : ∃ x, x = cur q := ⟨_, rfl⟩
                rw [← hx] at HAT h15q
                have HX := Lib.hid hx
                clear hW2 hB2 hP2 hq hsrow hbx hx
                obtain ⟨qx, qy, qz⟩ := q
                have e0 : wr.cell? ⟨gs, k * 3, none⟩ = some (.int .i64 qx) := hat 0 (by decide)
                have e1 : wr.cell? ⟨gs, k * 3 + 1, none⟩ = some (.int .i64 qy) := hat 1 (by decide)
                have e2 : wr.cell? ⟨gs, k * 3 + 2, none⟩ = some (.int .i64 qz) := hat 2 (by decide)
                unfold plV plC at HAT
                unfold plC at HW2 HP2
                simp only at HAT HW2 HP2
                clear hat
                obtain ⟨a0, a1, a2⟩ := three_of HP2.out
                rw [HW2.out] at a0 a1 a2 d2
                have hns : IntKind.u8.wrap ((n : Int) - 1) = (n : Int) - 1 := by rw [IntKind.wrap_u8]; omega
                go_wp2_with fail
                rw [← HW2.out]
                refine HAT.out.mono ?_
                rintro e w3 ⟨rfl, av3, l3, hj3, ha3⟩
                have HD3 := Lib.hid (HD2.out.asks ha3 (NearL.one hj3 HNQ.out) hj3.2)
                have HSD3 := Lib.hid (HSD2.out.asks HD2.out.st.sets.fs.fld ha3)
                have HP3 := Lib.hid (HP2.out.only ha3.only HF2.out)
                have HNV3 := Lib.hid (asked_far ha3.new (fun e => HF2.out (.inr (Eq.symm e))) hlt2)
                have HJ3 := Lib.hid hj3.2
                clear ha3 hj3 a0 a1 a2 d2 e0 e1 e2 HSD2 HD2 HP2 HAT
                by_cases hxn : x + 1 < n
                · have hxI : (x : Int) < (n : Int) - 1 := by omega
                  have hxI2 : decide ((x : Int) < (n : Int) - 1) = true := decide_eq_true hxI
                  have hme := m_cell ⟨g, 0, none⟩
                  have HCE := Lib.hid (wcell_any w3 base g { f with asked := f.asked ++ (A0 ++ (A ++ l3)) } cv lv av3 tv HD3.out.st.sets.fs.fld (HOK.out.asks _) (qx, qy, qz) HMQ.out (by have := HLB.out; have := HJ3.out; simp only [List.length_append] at *; omega))
                  have HKC := Lib.hid (fun w => fclear_any w (cellAt f (qx, qy, qz)).1 (cellAt f (qx, qy, qz)).2 (cellAt_in HOK.out _).1 (cellAt_in HOK.out _).2)
                  have HCC := Lib.hid (show clearC (cellAt f (qx, qy, qz)).1 (cellAt f (qx, qy, qz)).2 = clrAt f (qx, qy, qz) from rfl)
                  have hca : cellAt { f with asked := f.asked ++ (A0 ++ (A ++ l3)) } (qx, qy, qz) = cellAt f (qx, qy, qz) := rfl
                  rw [hca] at HCE
                  clear hca
                  generalize cellAt f (qx, qy, qz) = ce at HCE HKC HCC
                  unfold plV plC clV at HCE
                  simp only at HCE
                  have hbx := HD3.out.st.box
                  rw [HWS.out] at hbx
                  obtain ⟨d0, -, -, -⟩ := wave_cells hbx
                  obtain ⟨p0, p1, p2⟩ := three_of HP3.out
                  clear hbx
                  go_wp2_with fail
                  go_at_call 13
                  refine HCE.out.mono ?_
                  rintro e w4 ⟨rfl, av4, ha4⟩
                  have HD4 := Lib.hid (HD3.out.asks ha4 (fun x hx => by rw [List.mem_singleton.1 hx]; exact HNQ.out) (Nat.le_refl _))
                  have HSD4 := Lib.hid (HSD3.out.asks HD3.out.st.sets.fs.fld ha4)
                  have HP4 := Lib.hid (HP3.out.only ha4.only (fun hq => hq.elim (fun e => Blk.ne_ HP3.out HD3.out.st.sets.fs.fld.blk (by decide) e) (fun e => HNV3.out e.symm)))
                  have HNV4 := Lib.hid (asked_far ha4.new HNV3.out HP3.out.lt)
                  clear ha4 p0 p1 p2 d0
                  go_wp2_with fail
                  go_at_call 25
                  refine (HKC.out _).mono ?_
                  rintro e w5 ⟨rfl, hb5⟩
                  have HD5 := Lib.hid (HD4.out.under hb5)
                  have HSD5 := Lib.hid (HSD4.out.under hb5)
                  have HP5 := Lib.hid (HP4.out.below hb5 HP4.out.lt)
                  clear hb5
                  generalize clearC ce.1 ce.2 = cb at HCC
                  cases cb with
                  | false =>
                    have HD6 := Lib.hid (HD5.out.skip HR.out HQ.out (a0 := 1) (fun h => absurd (HCC.out.trans h) (by simp)) (by omega))
                    go_wp2
                    go_roundw
                    case rel => exact ⟨k + 1, _, _, _, _, _, _, by omega, by go_num, HR.out, HN.out, HD6.out, HSD5.out⟩
                    case measure => simp [intOf]; omega
                  | true =>
                    have HCL := Lib.hid HCC.out.symm
                    have HST5 := Lib.hid (HWV.out.set_ w5 (A0 ++ (A ++ l3 ++ [(qx, qy, qz)])) av4 M c HD5.out.st.sets.fs (qx, qy, qz) ((n - 1 : Nat) : Int) HMQ.out (by have := HLB.out; have := HJ3.out; simp only [List.length_append, List.length_singleton] at *; omega))
                    have hnc : ((n - 1 : Nat) : Int) = (n : Int) - 1 := by omega
                    unfold plV plC at HST5
                    simp only at HST5
                    have HNC := Lib.hid hnc
                    rw [show (Value.int IntKind.u8 ((n - 1 : Nat) : Int)) = Value.int IntKind.u8 ((n : Int) - 1) by rw [HNC.out]] at HST5
                    clear hnc
                    have hbx := HD5.out.st.box
                    rw [HWS.out] at hbx
                    obtain ⟨-, -, -, d3⟩ := wave_cells hbx
                    obtain ⟨p0, p1, p2⟩ := three_of HP5.out
                    clear hbx
                    go_wp2_with fail
                    refine HST5.out.mono ?_
                    rintro e w6 ⟨rfl, av6, l6, hj6, hs6⟩
                    have HB6 := Lib.hid (HD5.out.st.set hs6)
                    have HSD6 := Lib.hid (HSD5.out.set HD5.out.st.sets.fs hs6)
                    have HP6 := Lib.hid (HP5.out.only hs6.only (by
                      rintro ((e | e) | e)
                      · exact Blk.ne_ HP5.out HD5.out.st.sets.fs.fld.blk (by decide) e
                      · exact HNV4.out e.symm
                      · exact map_blk_ne HP5.out HD5.out.st.sets.fs.map e))
                    have HJ6 := Lib.hid hj6
                    have HSZ6 := Lib.hid (show W0.heap.size ≤ w6.heap.size from HB6.out.sets.only.size)
                    have HLEN := Lib.hid (show L.length ≤ 1099511627775 by have := HML.out; omega)
                    clear hs6 hj6 p0 p1 p2 d3 HST5
                    obtain ⟨p0, p1, p2⟩ := three_of HP6.out
                    go_wp2_with (at_builtin; refine row_law plE_len plE_one (by decide) Try.underlying46 infoPl rfl (by decide) HB6.out.row rfl _ _ rfl rfl ((qx, qy, qz) : Pl) rfl rfl rfl HLEN.out HSZ6.out ?_)
                    intro v' w7 k1 k2 k3
                    have HK3 := Lib.hid (show v'.ownBlock = Value.ownBlock _ ∨ ∃ k, v'.ownBlock = some k ∧ w6.heap.size + 1 ≤ k from k3.imp id fun h => ⟨_, h, by simp⟩)
                    have hal : Below w6.heap.size w6 (w6.alloc (.cells #[.int .i64 qx, .int .i64 qy, .int .i64 qz] 23)) := (Below.refl _ _).alloc (Nat.le_refl _) _
                    have HB7 := Lib.hid ((HB6.out.under hal).push H0.out k2 (own_rc plE_len (by decide) k1 rfl) HK3.out (fun k hk => by have := (HB6.out.sets.fs.fld.asked.lt k hk).2; omega))
                    have HSD7 := Lib.hid ((HSD6.out.under hal).push k2 HK3.out (fun k hk => by have := (HSD6.out.row.lt k hk).2; omega))
                    have hb7 := HB7.out
                    rw [HN.out] at hb7
                    have HD7 := Lib.hid (HD5.out.more HHF.out HLF.out HR.out HQ.out HCL.out (clr_in HCL.out) (by rw [← HN.out, ← HX.out]; omega) (a0 := 1) (by omega) hb7 HJ6.out)
                    have HR7 := Lib.hid (show (L ++ [(qx, qy, qz)])[i]? = some (rx, ry, rz) by rw [List.getElem?_append_left (List.getElem?_eq_some_iff.1 HR.out).1]; exact HR.out)
                    have HN7 := Lib.hid (show n = upd cur (qx, qy, qz) (cur (rx, ry, rz) - 1) (rx, ry, rz) by
                      rw [upd_ne]
                      · exact HN.out
                      · intro e
                        have := List.mem_of_getElem? HQ.out
                        rw [← e] at this
                        exact sides_irr _ this)
                    clear k1 k2 k3 hal p0 p1 p2 hb7
                    go_wp2
                    go_roundw
                    case rel => exact ⟨k + 1, _, _, _, _, _, _, by omega, by go_num, HR7.out, HN7.out, HD7.out, HSD7.out⟩
                    case measure => simp [intOf]; omega
                · have hxI : ¬ (x : Int) < (n : Int) - 1 := by omega
                  have HD6 := Lib.hid (HD3.out.skip HR.out HQ.out (a0 := 1) (fun _ => by rw [← HN.out, ← HX.out]; omega) (by omega))
                  go_wp2
                  go_roundw
                  case rel => exact ⟨k + 1, _, _, _, _, _, _, by omega, by go_num, HR.out, HN.out, HD6.out, HSD3.out⟩
                  case measure => simp [intOf]; omega
              · have HKE := Lib.hid (show k = (sidesP (rx, ry, rz)).length by have := HND2.out; omega)
                have HD6 := Lib.hid (HD.out.next HR.out (.inl HKE.out) (Nat.le_refl _) (by omega))
                have HI6 := Lib.hid (show i + 1 ≤ L.length from (List.getElem?_eq_some_iff.1 HR.out).1)
                go_wp2
                go_roundw
                case rel => exact ⟨i + 1, _, _, _, _, _, _, HI6.out, by go_num, HD6.out⟩
                case measure => simp [intOf]; omega
        · have HIE := Lib.hid (show L.length ≤ i by have := HNL2.out; omega)
          have hcf := HD.out.spread.finish HLF.out sides_sym HIE.out
          have HCF := Lib.hid hcf
          clear hcf
          go_wp2
          go_end0
          have hm : ∀ r ∈ L, r ∈ l0 ∨ (sel (nowAt f M0 r)).toNat < F r := fun r hr => (HD.out.spread.new r hr).imp (fun h => (HSUB.out r h).1) id
          refine ⟨M, c, A, av', rfl, HD.out.st.sets, fun q => by rw [HD.out.now, mixL, HCF.out], fun q hq => ?_, ?_, fun x hx => ?_⟩
          · exact (HD.out.keys q hq).imp id fun h => ⟨clr_in (HD.out.spread.clr q h), hm q h⟩
          · have h1 := HD.out.few
            have h2 := HNL.out
            omega
          · rcases HD.out.near x hx with ⟨r, hr, h⟩ | ⟨r, hr, h⟩
            · exact ⟨r, .inl hr, h⟩
            · exact ⟨r, hm r hr, h⟩
end Go.Proofs.Ytlhjjmfbifhgfaa
/- The two waves of a change: what their closures answer. -/
namespace Go.Proofs.Ytlhjjmfbifhgfaa
set_option linter.unusedSimpArgs false
set_option linter.unusedVariables false
open Go.RowKit
set_option maxRecDepth 100000

theorem clearC_in (f : Fw) (q : Pl) : clrAt f q = true ↔ clearAt f.b (clrF f) q := clear_at f q
/-- What a place has as a lamp. -/
def lampAt (f : Fw) (q : Pl) : Int := lampC (cellAt f q).1 (cellAt f q).2
theorem lampsOk (base g b3 b10 b11 gm : Nat) (f : Fw) (cv lv tv : Value) (ok : f.Ok) :
    WaveOk base g b3 b10 b11 gm f cv lv tv 28 29 30 b3 (fun x => x.2) (fun x n => (x.1, n)) (lampAt f) (fun _ => True) where
  eO := enters_of Try.func28 (by kernel_rfl) rfl
  eA := enters_of Try.func29 (by kernel_rfl) rfl
  eS := enters_of Try.func30 (by kernel_rfl) rfl
  at_ W A av M c h q hm hl := atL_any W base g b3 b10 b11 gm { f with asked := f.asked ++ A } cv lv av tv M c h (ok.asks A) q hm hl
  set_ W A av M c h q n hm hl := setL_any W base g b3 b10 b11 gm { f with asked := f.asked ++ A } cv lv av tv M c h (ok.asks A) q n hm hl
  own_ W A av M c h _ q hm hl := (ownL_any W base g b3 b10 b11 gm { f with asked := f.asked ++ A } cv lv av tv M c h (ok.asks A) q hm hl (cellAt_in ok q)).mono fun _ _ ⟨h1, av', h2⟩ => ⟨h1, av', [q], JustOne.one q, h2⟩
/-- The sky's places by the program: those of a map. -/
def SkyX (b13 gs : Nat) (Ls : List (Ent Pl)) (cs : Nat) (W : World) : Prop := Blk W b13 76 #[.map (some gs)] ∧ MapIs plV PlOk W gs Ls cs
theorem skiesOk (base g b3 b10 b11 gm b13 gs : Nat) (f : Fw) (cv lv tv : Value) (ok : f.Ok) (Ls : List (Ent Pl)) (cs : Nat) (he : ∀ x ∈ Ls, ∃ k : Int, x.2.1 = .int .i64 k ∧ 1 ≤ k ∧ k ≤ 1000) :
    WaveOk base g b3 b10 b11 gm f cv lv tv 33 34 35 b13 (fun x => x.1) (fun x n => (n, x.2)) (fun q => if q ∈ keysOf Ls then 15 else 0) (SkyX b13 gs Ls cs) where
  eO := enters_of Try.func33 (by kernel_rfl) rfl
  eA := enters_of Try.func34 (by kernel_rfl) rfl
  eS := enters_of Try.func35 (by kernel_rfl) rfl
  at_ W A av M c h q hm hl := atS_any W base g b3 b10 b11 gm { f with asked := f.asked ++ A } cv lv av tv M c h (ok.asks A) q hm hl
  set_ W A av M c h q n hm hl := setS_any W base g b3 b10 b11 gm { f with asked := f.asked ++ A } cv lv av tv M c h (ok.asks A) q n hm hl
  own_ W A av M c h hx q hm hl := (ownS_any W b13 gs Ls cs hx.1 hx.2 he q hm).mono fun _ _ ⟨h1, h2⟩ => ⟨h1, av, [], JustOne.nil q 1, Asks.nil h.fld h2⟩
theorem SkyX.keep {W0 W : World} {base g b3 b10 b11 gm b13 gs : Nat} {f : Fw} {cv lv av tv av' : Value} {Ls : List (Ent Pl)} {cs : Nat} {M M' : LMap} {c c' : Nat} {A : List Pl} (h0 : FS W0 base g b3 b10 b11 gm f cv lv av tv M c) (h : SkyX b13 gs Ls cs W0) (hne : gs ≠ gm) (hs : Sets W0 W base g b3 b10 b11 gm f cv lv av tv M' c' A av') : SkyX b13 gs Ls cs W :=
  ⟨Sets.blk h0 hs h.1 (by decide) (fun e => own_blk_ne h0.fld.asked h.1 (by decide) e), h.2.keep (hs.only.block gs h.2.inb (by
    rintro ((e | e) | e)
    · exact map_blk_ne h0.fld.blk h.2 e.symm
    · exact map_own_ne h0.fld.asked h.2 e.symm
    · exact hne e))⟩
end Go.Proofs.Ytlhjjmfbifhgfaa
/- What the waves start from, and what is near: the plain laws of a change. -/
namespace Go.Proofs.Ytlhjjmfbifhgfaa
set_option linter.unusedSimpArgs false
set_option linter.unusedVariables false
open Go.RowKit

/-- What a wave over places needs of its start. -/
structure WaveP (clear : Pl → Prop) (own F cur0 : Pl → Nat) (l0 l : List Pl) : Prop where
  up : ∀ q, cur0 q ≤ F q
  own : ∀ q, clear q → q ∉ l → own q ≤ cur0 q
  edge : ∀ a, ∀ b ∈ sidesP a, clear b → b ∉ l → cur0 a ≤ cur0 b + 1
  near : ∀ r, r ∈ l ∨ cur0 r < F r → ∃ s ∈ l0, farP s r ≤ 14
section
variable {clear clear0 : Pl → Prop} {own own0 F F0 : Pl → Nat} {l0 D : List Pl}
theorem wave_dark (h0 : Lights sidesP clear0 own0 F0) (h : Lights sidesP clear own F) (hC : ∀ c, c ∉ l0 → (clear c ↔ clear0 c) ∧ own c = own0 c) (hD : Dark sidesP F0 farP l0 D D.length 0) : WaveP clear own F (less F0 D) l0 D := by
  have hl : ∀ c, c ∉ D → c ∉ l0 := fun c hc h => hc (hD.pre c h)
  have hlD : ∀ c, c ∉ D → less F0 D c = F0 c := fun c hc => by unfold less; rw [if_neg hc]
  refine ⟨?_, fun q hq hn => ?_, fun a b hb hc hn => ?_, fun r hr => ?_⟩
  · refine dark_up h0 h sides_sym (D := D) (fun r hr q hq h1 h2 => hD.done r (by rw [List.take_of_length_le (Nat.le_refl _)]; exact hr) q hq h1 h2) fun c hc h2 => ?_
    have := hC c (hl c hc)
    exact ⟨this.1.2 h2, by rw [this.2]; exact Nat.le_refl _⟩
  · have := hC q (hl q hn)
    rw [hlD q hn, this.2]
    exact h0.own_le (this.1.1 hq)
  · have := hC b (hl b hn)
    rw [hlD b hn]
    have h1 := h0.nb_le (this.1.1 hc) (sides_sym a b hb)
    unfold less
    split
    · omega
    · exact h1
  · have hDn : ∀ r ∈ D, ∃ s ∈ l0, farP s r ≤ 14 := fun r hr => by
      rcases hD.lit r hr with h1 | h1
      · exact ⟨r, h1, by rw [farP_self]; omega⟩
      · obtain ⟨s, hs, h2⟩ := hD.near r hr
        have := h0.le s
        exact ⟨s, hs, by omega⟩
    by_cases hrD : r ∈ D
    · exact hDn r hrD
    · have h1 := hr.resolve_left hrD
      rw [hlD r hrD] at h1
      obtain ⟨s, hs, h2⟩ := more_near h0 h farP_self farP_side sides_sym (l0 := l0) (fun c hc h3 => ⟨(hC c hc).1.1 h3, by rw [(hC c hc).2]; exact Nat.le_refl _⟩) r h1
      exact ⟨s, hs, by omega⟩
theorem wave_clear (h0 : Lights sidesP clear0 own0 F0) (h : Lights sidesP clear own F) (hC : ∀ c, c ∉ l0 → (clear c ↔ clear0 c) ∧ own c = own0 c) (hc : ∀ c, clear0 c → clear c) (ho : ∀ c, clear0 c → own0 c ≤ own c) : WaveP clear own F F0 l0 l0 := by
  refine ⟨h.mono h0 hc ho, fun q hq hn => ?_, fun a b hb hcl hn => ?_, fun r hr => ?_⟩
  · have := hC q hn
    rw [this.2]
    exact h0.own_le (this.1.1 hq)
  · exact h0.nb_le ((hC b hn).1.1 hcl) (sides_sym a b hb)
  · rcases hr with h1 | h1
    · exact ⟨r, h1, by rw [farP_self]; omega⟩
    · obtain ⟨s, hs, h2⟩ := more_near h0 h farP_self farP_side sides_sym (l0 := l0) (fun c hc h3 => ⟨(hC c hc).1.1 h3, by rw [(hC c hc).2]; exact Nat.le_refl _⟩) r h1
      exact ⟨s, hs, by omega⟩
end
/-- The field with another cell at a place. -/
def Fw.old (f : Fw) (p : Pl) (c : Int × Int) : Fw := { f with cells := f.cells.set (f.b.idx p) c }
theorem old_cells {f : Fw} (ok : f.Ok) {p : Pl} (hp : f.b.inside p) (c : Int × Int) (i : Nat) : (f.old p c).cells.getD i (0, 0) = if i = f.b.idx p then c else f.cells.getD i (0, 0) := by
  have hl : f.b.idx p < f.cells.length := by rw [ok.cells]; exact f.b.idx_lt hp
  unfold Fw.old
  simp only [List.getD_eq_getElem?_getD, List.getElem?_set]
  by_cases h : f.b.idx p = i
  · subst h; simp [hl]
  · have h2 : ¬ i = f.b.idx p := fun e => h e.symm
    simp [h, h2]
theorem old_cellAt {f : Fw} (ok : f.Ok) {p : Pl} (hp : f.b.inside p) (c : Int × Int) (q : Pl) : cellAt (f.old p c) q = if q = p then c else cellAt f q := by
  unfold cellAt
  have hb : (f.old p c).b = f.b := rfl
  rw [hb]
  by_cases hq : f.b.inside q
  · rw [if_pos hq, if_pos hq, old_cells ok hp]
    by_cases e : q = p
    · subst e; rw [if_pos rfl, if_pos rfl]
    · rw [if_neg (idx_ne hp hq e), if_neg e]
  · rw [if_neg hq, if_neg hq, if_neg (fun e : q = p => hq (by rw [e]; exact hp))]
theorem old_clrF {f : Fw} (ok : f.Ok) {p : Pl} (hp : f.b.inside p) (c : Int × Int) (i : Nat) : clrF (f.old p c) i = if i = f.b.idx p then clearC c.1 c.2 else clrF f i := by
  unfold clrF
  rw [old_cells ok hp]
  split <;> rfl
theorem clrF_at {f : Fw} {p : Pl} (hp : f.b.inside p) : clrF f (f.b.idx p) = clearC (cellAt f p).1 (cellAt f p).2 := by
  unfold clrF cellAt
  rw [if_pos hp]
theorem old_clrAt {f : Fw} (ok : f.Ok) {p : Pl} (hp : f.b.inside p) (c : Int × Int) {q : Pl} (h : q ≠ p) : clrAt (f.old p c) q = clrAt f q := by
  unfold clrAt
  rw [old_cellAt ok hp, if_neg h]
/-- The lights that a field's cells give. -/
structure RightOf (f : Fw) (FL FS : Pl → Nat) : Prop where
  lamp : Lights sidesP (fun q => clrAt f q = true) (fun q => (lampAt f q).toNat) FL
  sky : Lights sidesP (fun q => clrAt f q = true) (skyOwn f.b (clrF f)) FS
theorem sky_at {f : Fw} {F : Pl → Nat} (h : Lights sidesP (fun q => clrAt f q = true) (skyOwn f.b (clrF f)) F) : Lights sidesP (clearAt f.b (clrF f)) (skyOwn f.b (clrF f)) F :=
  ⟨h.le, fun c v hv => by rw [h.iff c v hv]; exact and_congr_left fun _ => clear_at f c⟩
/-- Is the sky above a place open, up to the world's end? -/
def openUp (f : Fw) (p : Pl) : Prop := f.b.lo.2.1 + f.b.Y = 64 ∧ ∀ k : Nat, 1 ≤ k → f.b.inside (upP p k) → clrF f (f.b.idx (upP p k)) = true
theorem up_ne (p : Pl) {k : Nat} (h : 1 ≤ k) : upP p k ≠ p := fun e => by have := congrArg (fun x : Pl => x.2.1) e; simp only [upP] at this; omega
section
variable {f : Fw} {p : Pl} {old : Int × Int} {FL FS FL0 FS0 : Pl → Nat} {D : List Pl} {m : Nat}
theorem open_old (ok : f.Ok) (hp : f.b.inside p) : openUp (f.old p old) p ↔ openUp f p := by
  unfold openUp
  refine and_congr_right fun _ => forall_congr' fun k => forall_congr' fun hk => ?_
  show (f.b.inside (upP p k) → clrF (f.old p old) (f.b.idx (upP p k)) = true) ↔ _
  constructor
  · intro h hi
    have := h hi
    rwa [old_clrF ok hp, if_neg (idx_ne hp hi (up_ne p hk))] at this
  · intro h hi
    rw [old_clrF ok hp, if_neg (idx_ne hp hi (up_ne p hk))]
    exact h hi
/-- The sky above is open just where there is no place above, or it has the sky's light. -/
theorem open_iff (ok : f.Ok) (hp : f.b.inside p) (h0 : RightOf (f.old p old) FL0 FS0) : openUp f p ↔ (mayP (upP p 1) = false ∨ FS0 (upP p 1) = 15) := by
  rw [← open_old (old := old) ok hp]
  have h1 := above_lit (clr := clrF (f.old p old)) ok.box hp
  rw [sky_lit (sky_at h0.sky)]
  exact h1
theorem lamps_start (ok : f.Ok) (hp : f.b.inside p) (h0 : RightOf (f.old p old) FL0 FS0) (h : RightOf f FL FS) (hD : Dark sidesP FL0 farP [p] D D.length 0) : WaveP (fun q => clrAt f q = true) (fun q => (lampAt f q).toNat) FL (less FL0 D) [p] D :=
  wave_dark h0.lamp h.lamp (fun c hc => by
    have hne : c ≠ p := by simpa using hc
    refine ⟨by rw [old_clrAt ok hp old hne], ?_⟩
    unfold lampAt
    rw [old_cellAt ok hp, if_neg hne]) hD
/-- Outside of what changed the sky's sources are the same. -/
theorem sky_out (ok : f.Ok) (hp : f.b.inside p) (l0 : List Pl) (hl : p ∈ l0) (hu : (openUp f p ∧ l0 = colP p m ∧ ColAt f.b (clrF f) p m ∧ ¬ clearAt f.b (clrF f) (downP p m)) ∨ ¬ openUp f p) (c : Pl) (hc : c ∉ l0) : (clrAt f c = true ↔ clrAt (f.old p old) c = true) ∧ skyOwn f.b (clrF f) c = skyOwn (f.old p old).b (clrF (f.old p old)) c := by
  have hne : c ≠ p := fun e => hc (e ▸ hl)
  refine ⟨by rw [old_clrAt ok hp old hne], ?_⟩
  have heq : ∀ i, i ≠ f.b.idx p → clrF f i = clrF (f.old p old) i := fun i hi => by rw [old_clrF ok hp, if_neg hi]
  have hlit : litP f.b (clrF f) c ↔ litP f.b (clrF (f.old p old)) c := by
    rcases hu with ⟨_, h1, h2, h3⟩ | hn
    · exact lit_out hp heq (.inr trivial) h2 h3 (by rw [← h1]; exact hc)
    · refine lit_same hp heq (fun h => hn ?_) c
      exact (open_old (old := old) ok hp).1 h
  show skyOwn f.b (clrF f) c = skyOwn f.b (clrF (f.old p old)) c
  by_cases h : litP f.b (clrF f) c
  · rw [skyOwn_lit h, skyOwn_lit (hlit.1 h)]
  · rw [skyOwn_not h, skyOwn_not (fun k => h (hlit.2 k))]
theorem not_open_lit (hp : f.b.inside p) (h : ¬ openUp f p) : ¬ litP f.b (clrF f) p := fun hl => h ⟨hl.1, fun k _ hk => hl.2.2 k hk⟩
/-- A place that is dark, or was: no sky source from now on. -/
theorem dark_none (ok : f.Ok) (hp : f.b.inside p) (h0 : RightOf (f.old p old) FL0 FS0) (hnow : clrAt f p = false) (l0 : List Pl) (hl : p ∈ l0) (hu : (openUp f p ∧ l0 = colP p m ∧ ColAt f.b (clrF f) p m ∧ ¬ clearAt f.b (clrF f) (downP p m)) ∨ (¬ openUp f p ∧ l0 = [p])) (hD : Dark sidesP FS0 farP l0 D D.length 0) (q : Pl) (hq : q ∈ D) : ¬ litP f.b (clrF f) q := by
  have hpf : clrF f (f.b.idx p) = false := by rw [clrF_at hp]; exact hnow
  intro hlit
  by_cases hql : q ∈ l0
  · rcases hu with ⟨_, h1, h2, h3⟩ | ⟨_, h1⟩
    · rw [h1] at hql
      exact col_dark hp hpf q hql hlit
    · have : q = p := by rw [h1] at hql; simpa using hql
      have h2 := litP_clear hlit
      rw [this] at h2
      rw [h2.2] at hpf
      cases hpf
  · have hu2 : (openUp f p ∧ l0 = colP p m ∧ ColAt f.b (clrF f) p m ∧ ¬ clearAt f.b (clrF f) (downP p m)) ∨ ¬ openUp f p := hu.imp id (fun h => h.1)
    have h1 := (sky_out (old := old) ok hp l0 hl hu2 q hql).2
    rw [skyOwn_lit hlit] at h1
    have h2 : litP (f.old p old).b (clrF (f.old p old)) q := Classical.byContradiction fun h => by rw [skyOwn_not h] at h1; omega
    have h3 := (sky_lit (sky_at h0.sky) q).2 h2
    obtain ⟨s, hs, h4⟩ := hD.near q hq
    have h5 := h0.sky.le s
    have h6 : farP s q = 0 := by omega
    have h7 : s = q := by
      obtain ⟨a, b, c⟩ := s
      obtain ⟨x, y, z⟩ := q
      simp only [farP] at h6
      simp only [Prod.mk.injEq]
      omega
    exact hql (h7 ▸ hs)
/-- The skies' wave where a place becomes opaque. -/
theorem skies_dark (ok : f.Ok) (hp : f.b.inside p) (h0 : RightOf (f.old p old) FL0 FS0) (h : RightOf f FL FS) (l0 : List Pl) (hl : p ∈ l0) (hu : (openUp f p ∧ l0 = colP p m ∧ ColAt f.b (clrF f) p m ∧ ¬ clearAt f.b (clrF f) (downP p m)) ∨ ¬ openUp f p) (hD : Dark sidesP FS0 farP l0 D D.length 0) : WaveP (fun q => clrAt f q = true) (skyOwn f.b (clrF f)) FS (less FS0 D) l0 D :=
  wave_dark h0.sky h.sky (fun c hc => sky_out ok hp l0 hl hu c hc) hD
/-- The skies' wave where a place becomes clear. -/
theorem skies_clear (ok : f.Ok) (hp : f.b.inside p) (h0 : RightOf (f.old p old) FL0 FS0) (h : RightOf f FL FS) (hwas : clearC old.1 old.2 = false) (l0 : List Pl) (hl : p ∈ l0) (hu : (openUp f p ∧ l0 = colP p m ∧ ColAt f.b (clrF f) p m ∧ ¬ clearAt f.b (clrF f) (downP p m)) ∨ ¬ openUp f p) (hin : ∀ q ∈ l0, q ≠ p → clrAt f q = true) (hlit : ∀ q ∈ l0, ¬ openUp f p → q = p) : WaveP (fun q => clrAt f q = true) (skyOwn f.b (clrF f)) FS FS0 l0 l0 := by
  have hpo : ¬ clrAt (f.old p old) p = true := by
    unfold clrAt
    rw [old_cellAt ok hp, if_pos rfl, hwas]
    exact Bool.false_ne_true
  refine wave_clear h0.sky h.sky (fun c hc => sky_out ok hp l0 hl hu c hc) (fun c hc => ?_) (fun c hc => ?_)
  · have hne : c ≠ p := fun e => hpo (e ▸ hc)
    rwa [old_clrAt ok hp old hne] at hc
  · by_cases hcl : c ∈ l0
    · -- a source of old below an opaque place is none
      have hne : c ≠ p := fun e => hpo (e ▸ hc)
      rcases hu with ⟨_, h1, h2, h3⟩ | hn
      · have hnl : ¬ litP (f.old p old).b (clrF (f.old p old)) c := by
          rw [h1] at hcl
          obtain ⟨j, hj, rfl⟩ := colP_mem.1 hcl
          intro hlt
          have := hlt.2.2 j (by rw [up_down (Nat.le_refl _), Nat.sub_self, downP_zero]; exact hp)
          rw [up_down (Nat.le_refl _), Nat.sub_self, downP_zero] at this
          rw [show (f.old p old).b.idx p = f.b.idx p from rfl, old_clrF ok hp, if_pos rfl, hwas] at this
          cases this
        rw [skyOwn_not hnl]
        omega
      · exact absurd (hlit c hcl hn) hne
    · rw [(sky_out (old := old) ok hp l0 hl hu c hcl).2]
      exact Nat.le_refl _
/-- Where neither clearness nor the lamp changes, no light does. -/
theorem same_right (ok : f.Ok) (hp : f.b.inside p) (h0 : RightOf (f.old p old) FL0 FS0) (h : RightOf f FL FS) (hc : clearC old.1 old.2 = clrAt f p) : FS = FS0 ∧ (lampC old.1 old.2 = lampAt f p → FL = FL0) := by
  have hcl : ∀ q, clrAt (f.old p old) q = clrAt f q := fun q => by
    by_cases e : q = p
    · subst e
      rw [← hc]
      unfold clrAt
      rw [old_cellAt ok hp, if_pos rfl]
    · exact old_clrAt ok hp old e
  have hF : clrF (f.old p old) = clrF f := by
    funext i
    rw [old_clrF ok hp]
    by_cases e : i = f.b.idx p
    · rw [if_pos e, e, clrF_at hp]; exact hc
    · rw [if_neg e]
  have hcf : (fun q => clrAt (f.old p old) q = true) = fun q => clrAt f q = true := by funext q; rw [hcl q]
  refine ⟨?_, fun hl => ?_⟩
  · have h1 := h0.sky
    rw [hcf, hF] at h1
    exact h.sky.unique h1
  · have h1 := h0.lamp
    rw [hcf, show (fun q => (lampAt (f.old p old) q).toNat) = fun q => (lampAt f q).toNat from by
      funext q
      unfold lampAt at *
      rw [old_cellAt ok hp]
      by_cases e : q = p
      · rw [if_pos e, e, hl]
      · rw [if_neg e]] at h1
    exact h.lamp.unique h1
end
end Go.Proofs.Ytlhjjmfbifhgfaa
