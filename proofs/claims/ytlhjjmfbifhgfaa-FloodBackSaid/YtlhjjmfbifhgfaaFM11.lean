/- Joined texts of one seat, each under its own heading below. -/
import Derived.Test.YtlhjjmfbifhgfaaFM10
import Derived.Shelf.Abstract
import Derived.Carry
/- The dark wave: the walk. -/
namespace Go.Proofs.Ytlhjjmfbifhgfaa
set_option linter.unusedSimpArgs false
set_option linter.unusedVariables false
open Go.RowKit
set_option maxRecDepth 100000

/-- The first loop of the dark wave. -/
structure Dark1 (W0 W : World) (base g b3 b10 b11 gm b2 gh : Nat) (f : Fw) (cv lv av tv : Value) (ws : Array Value) (sel : Int × Int → Int) (put : Int × Int → Int → Int × Int) (M0 M : LMap) (c : Nat) (A0 A : List Pl) (av' v : Value) (H : List (Ent Pl)) (ch : Nat) (l0 : List Pl) (j : Nat) : Prop where
  z : ZSt W0 W base g b3 b10 b11 gm b2 gh f cv lv av tv ws sel put M0 M c (A0 ++ A) av' v l0 H ch (l0.take j) (l0.take j)
  few : A.length ≤ 2 * j
  near : ∀ x ∈ A, NearL l0 x
section
variable {W0 W W' : World} {base g b3 b10 b11 gm b2 gh : Nat} {f : Fw} {cv lv av tv av' av'' v : Value} {ws : Array Value} {sel : Int × Int → Int} {put : Int × Int → Int → Int × Int} {M0 M M' : LMap} {c c' ch ch' : Nat} {A0 A l m : List Pl} {H H' : List (Ent Pl)} {l0 : List Pl} {j : Nat} {q : Pl}
theorem Dark1.step (h : Dark1 W0 W base g b3 b10 b11 gm b2 gh f cv lv av tv ws sel put M0 M c A0 A av' v H ch l0 j) (hz : ZSt W0 W' base g b3 b10 b11 gm b2 gh f cv lv av tv ws sel put M0 M' c' (A0 ++ A ++ l ++ m) av'' v l0 H' ch' (l0.take j ++ [q]) (l0.take j ++ [q])) (ht : l0.take (j + 1) = l0.take j ++ [q]) (hq : q ∈ l0) (hj : JustOne q 1 l) (hk : JustOne q 1 m) :
    Dark1 W0 W' base g b3 b10 b11 gm b2 gh f cv lv av tv ws sel put M0 M' c' A0 (A ++ l ++ m) av'' v H' ch' l0 (j + 1) := by
  refine ⟨?_, ?_, near_app (near_app h.near (NearL.one hj ⟨q, hq, .inl rfl⟩)) (NearL.one hk ⟨q, hq, .inl rfl⟩)⟩
  · rw [ht, ← List.append_assoc, ← List.append_assoc]
    exact hz
  · have h1 := hj.2
    have h2 := hk.2
    have h3 := h.few
    simp only [List.length_append]
    omega
end
theorem asked_far {W : World} {av av' : Value} {p : Nat} (hn : av'.ownBlock = av.ownBlock ∨ ∃ k, av'.ownBlock = some k ∧ W.heap.size ≤ k) (h : av.ownBlock ≠ some p) (hp : p < W.heap.size) : av'.ownBlock ≠ some p := fun e => by
  rcases hn with h1 | ⟨j, h1, h2⟩
  · exact h (h1.symm.trans e)
  · have : j = p := Option.some.inj (h1.symm.trans e)
    omega
theorem three_of {w : World} {p t : Nat} {x y z : Value} (h : Blk w p t #[x, y, z]) : w.cell? ⟨p, 0, none⟩ = some x ∧ w.cell? ⟨p, 1, none⟩ = some y ∧ w.cell? ⟨p, 2, none⟩ = some z := ⟨h.cell 0, h.cell 1, h.cell 2⟩
theorem wave_cells {w : World} {p t g : Nat} {o a s : Value} (h : Blk w p t (wvC g o a s)) : w.cell? ⟨p, 0, none⟩ = some (.iface 29 (.pointer (some ⟨g, 0, none⟩))) ∧ w.cell? ⟨p, 1, none⟩ = some o ∧ w.cell? ⟨p, 2, none⟩ = some a ∧ w.cell? ⟨p, 3, none⟩ = some s := ⟨h.cell 0, h.cell 1, h.cell 2, h.cell 3⟩
set_option maxHeartbeats 16000000 in
theorem dark_any (W0 W : World) (base g b3 b10 b11 gm : Nat) (f : Fw) (cv lv av tv : Value) (M00 : LMap) (c00 : Nat) (h0 : FS W0 base g b3 b10 b11 gm f cv lv av tv M00 c00) (ok : f.Ok)
    (nO nA nS bo : Nat) (sel : Int × Int → Int) (put : Int × Int → Int → Int × Int) (own : Pl → Int) (X : World → Prop) (hw : WaveOk base g b3 b10 b11 gm f cv lv tv nO nA nS bo sel put own X) (hf : Half sel put)
    (M0 : LMap) (c0 : Nat) (A0 : List Pl) (av0 v0 : Value) (l0 : List Pl) (hs : Sets W0 W base g b3 b10 b11 gm f cv lv av tv M0 c0 A0 av0) (hr : PRow W W0.heap.size v0 l0) (hap : ∀ k, v0.ownBlock = some k → av0.ownBlock ≠ some k)
    (hnd : l0.Nodup) (hin : ∀ q ∈ l0, f.b.inside q) (hge : ∀ q, 0 ≤ sel (nowAt f M0 q)) (hout : ∀ q, ¬ f.b.inside q → sel (nowAt f M0 q) = 0) (hl : f.asked.length + A0.length ≤ 900000000) :
    Calls Try.prog 32 #[.agg (wvC g (.func (.func nO) #[] #[.pointer (some ⟨bo, 0, none⟩)]) (.func (.func nA) #[] #[.pointer (some ⟨b11, 0, none⟩)]) (.func (.func nS) #[] #[.pointer (some ⟨b11, 0, none⟩), .pointer (some ⟨b10, 0, none⟩)])), v0] W fun e w' =>
      ∃ v D M c A av', e = .returned v ∧ Sets W0 w' base g b3 b10 b11 gm f cv lv av tv M c (A0 ++ A) av' ∧ PRow w' W0.heap.size v D ∧ (∀ k, v.ownBlock = some k → av'.ownBlock ≠ some k) ∧ Dark sidesP (fun q => (sel (nowAt f M0 q)).toNat) farP l0 D D.length 0 ∧
        (∀ q ∈ D, f.b.inside q) ∧ (∀ q, nowAt f M q = if q ∈ D then put (nowAt f M0 q) 0 else nowAt f M0 q) ∧ (∀ q, q ∈ keysL M ↔ q ∈ keysL M0 ∨ q ∈ D) ∧ A.length ≤ 20000 ∧ ∀ x ∈ A, NearL D x := by
  have hmm := @run_makeMap Try.prog
  have eA := hw.eA
  have eS := hw.eS
  have HWV := Lib.hid hw
  have HHF := Lib.hid hf
  have HOK := Lib.hid ok
  have H0 := Lib.hid h0
  have HIN := Lib.hid hin
  have HND := Lib.hid hnd
  have HGE := Lib.hid hge
  have HOUT := Lib.hid hout
  have HL := Lib.hid hl
  have HBX := Lib.hid (nodup_box ok.box hnd hin)
  obtain ⟨ws, hws⟩ : ∃ ws, ws = wvC g (.func (.func nO) #[] #[.pointer (some ⟨bo, 0, none⟩)]) (.func (.func nA) #[] #[.pointer (some ⟨b11, 0, none⟩)]) (.func (.func nS) #[] #[.pointer (some ⟨b11, 0, none⟩), .pointer (some ⟨b10, 0, none⟩)]) := ⟨_, rfl⟩
  have HST := Lib.hid (show Dark1 W0 ((W.alloc (.cells ws 73)).alloc (.map #[] 0)) base g b3 b10 b11 gm W.heap.size (W.heap.size + 1) f cv lv av tv ws sel put M0 M0 c0 A0 [] av0 v0 [] 0 l0 0 from by
    have hb : Below W.heap.size W ((W.alloc (.cells ws 73)).alloc (.map #[] 0)) := ((Below.refl _ _).alloc (Nat.le_refl _) _).alloc (by simp) _
    have hmd := MapIs.made (kv := plV) (ok := PlOk) (W.alloc (.cells ws 73))
    rw [show (W.alloc (.cells ws 73)).heap.size = W.heap.size + 1 from by simp] at hmd
    have hsz := hs.only.size
    refine ⟨⟨⟨?_, own_below hr hb, hap, (Blk.new W 73 ws).alloc _, hsz⟩, hmd, by omega, fun q hq => by simp at hq, fun q => by simp, fun q => by simp⟩, Nat.zero_le _, fun x hx => absurd hx List.not_mem_nil⟩
    rw [List.append_nil]
    exact hs.under hb)
  obtain ⟨_, ao, cap, rfl, hcap, _⟩ := own_rat (d := ((0, 0, 0) : Pl)) plE_len hr
  clear h0 ok hw hf hs hr hap hnd hin hge hout hl
  rw [← hws]
  have HWS := Lib.hid hws
  unfold wvC at hws
  obtain ⟨W1, hW1⟩ : ∃ W1, W1 = (W.alloc (.cells ws 73)).alloc (.map #[] 0) := ⟨_, rfl⟩
  have HW1 := Lib.hid hW1
  rw [← hW1] at HST
  rw [hws] at hW1 ⊢
  clear hW1
  have HW2 := Lib.hid (show W1 = (W.alloc (.cells #[.iface 29 (.pointer (some ⟨g, 0, none⟩)), .func (.func nO) #[] #[.pointer (some ⟨bo, 0, none⟩)], .func (.func nA) #[] #[.pointer (some ⟨b11, 0, none⟩)], .func (.func nS) #[] #[.pointer (some ⟨b11, 0, none⟩), .pointer (some ⟨b10, 0, none⟩)]] 73)).alloc (.map #[] 0) from by rw [HW1.out, hws])
  clear hws
  have hlen0 : l0.length ≤ 1024 := HBX.out
  go_enter Try.func32, Try.ntmps32
  go_wp2
  rw [← HW2.out]
  go_loopw [15] (fun i wr => ∃ (j : Nat) (M : LMap) (c : Nat) (A : List Pl) (av' : Value) (H : List (Ent Pl)) (ch : Nat), j ≤ l0.length ∧ i = .int .i64 j ∧ Dark1 W0 wr base g b3 b10 b11 gm W.heap.size (W.heap.size + 1) f cv lv av tv ws sel put M0 M c A0 A av' (.slice ao l0.length cap) H ch l0 j) (fun i _ => l0.length - (intOf i).toNat)
  case atStart => exact ⟨0, M0, c0, [], av0, [], 0, Nat.zero_le _, rfl, HST.out⟩
  case round =>
    obtain ⟨j, M, c, A, av', H, ch, hj, rfl, hd⟩ := hrel
    have HD := Lib.hid hd
    clear hd
    by_cases hlt : j < l0.length
    · have hltI : (j : Int) < (l0.length : Int) := by omega
      have hc0 : 0 < cap := by omega
      obtain ⟨gl, rfl, -, -⟩ := own_form HD.out.z.st.row hc0
      have hat := own_at plE_len ((0, 0, 0) : Pl) HD.out.z.st.row hlt
      obtain ⟨q, hq⟩ : ∃ q, q = l0.getD j (0, 0, 0) := ⟨_, rfl⟩
      rw [← hq] at hat
      have HTK := Lib.hid (takeN hlt (0, 0, 0))
      have HQ := Lib.hid hq
      have HQM := Lib.hid (show q ∈ l0 from hq ▸ getD_mem hlt _)
      have HMQ := Lib.hid (Bx.inside_may HOK.out.box (HIN.out q HQM.out))
      have HNQ := Lib.hid (show q ∉ l0.take j from fun h => by
        have h1 := HND.out
        have h2 := List.take_append_drop j l0
        rw [← h2, List.nodup_append] at h1
        have h3 : q ∈ l0.drop j := by
          rw [List.drop_eq_getElem_cons hlt, hq, getD_at hlt]
          exact List.mem_cons_self ..
        exact h1.2.2 q h q h3 rfl)
      obtain ⟨W2, hW2⟩ : ∃ W2, W2 = wr.alloc (.cells (plC q) 23) := ⟨_, rfl⟩
      have hB2 : Below wr.heap.size wr W2 := by rw [hW2]; exact (Below.refl _ _).alloc (Nat.le_refl _) _
      have hZ2 := HD.out.z.under hB2
      have hP2 : Blk W2 wr.heap.size 23 (plC q) := by rw [hW2]; exact Blk.new _ _ _
      have HZ2 := Lib.hid hZ2
      have HP2 := Lib.hid hP2
      have HB2 := Lib.hid hB2
      have hfew := HD.out.few
      have HAT := Lib.hid (HWV.out.at_ W2.drew (A0 ++ A) av' M c (hZ2.st.sets.fs.under (Below.refl _ _).drew) q HMQ.out (by have := HL.out; have := HBX.out; simp only [List.length_append] at *; omega))
      have HNW := Lib.hid (show nowAt f M q = nowAt f M0 q by rw [hZ2.now, if_neg HNQ.out])
      rw [HNW.out] at HAT
      have HF2 := Lib.hid (new_far HD.out.z.st (Nat.le_refl _))
      have hlt2 : W.heap.size < W2.heap.size := hZ2.st.box.lt
      have HW2 := Lib.hid hW2
      obtain ⟨x, hx⟩ : ∃ x, x = sel (nowAt f M0 q) := ⟨_, rfl⟩
      have HX := Lib.hid hx
      rw [← hx] at HAT
      clear hW2 hB2 hZ2 hP2 hq hx
      obtain ⟨qx, qy, qz⟩ := q
      have e0 : wr.cell? ⟨gl, j * 3, none⟩ = some (.int .i64 qx) := hat 0 (by decide)
      have e1 : wr.cell? ⟨gl, j * 3 + 1, none⟩ = some (.int .i64 qy) := hat 1 (by decide)
      have e2 : wr.cell? ⟨gl, j * 3 + 2, none⟩ = some (.int .i64 qz) := hat 2 (by decide)
      unfold plV plC at HAT
      unfold plC at HW2
      unfold plC at HP2
      simp only at HAT HW2 HP2
      clear hat
      obtain ⟨a0, a1, a2⟩ := three_of HP2.out
      have hbx := HZ2.out.st.box
      rw [HWS.out] at hbx
      obtain ⟨-, -, d2, d3⟩ := wave_cells hbx
      clear hbx
      go_wp2
      rw [← HW2.out]
      go_region_held (fun w' => w'.cell? ⟨wr.heap.size, 0, none⟩ = some (.int .i64 qx) ∧ w'.cell? ⟨wr.heap.size, 1, none⟩ = some (.int .i64 qy) ∧ w'.cell? ⟨wr.heap.size, 2, none⟩ = some (.int .i64 qz) ∧ w'.cell? ⟨W.heap.size, 2, none⟩ = some (.func (.func nA) #[] #[.pointer (some ⟨b11, 0, none⟩)]))
        (first | exact ⟨a0, a1, a2, d2⟩ | assumption | go_keep)
        (first | (go_at_fn nA; refine HAT.out.mono ?_; rintro e w3 ⟨rfl, av'', l, hj, ha⟩; have hz3 := (HZ2.out.under (Below.refl _ _).drew).asks ha; have hp3 := HP2.out.drew.only ha.only HF2.out; obtain ⟨W4, hup, hm4, hg4⟩ := hz3.had.update keyed_ Try.underlying91 key_pl plV_inj (PlOk.of_may HMQ.out) (.int .u8 x); have HZ4 := Lib.hid (hz3.put_ H0.out (q := (qx, qy, qz)) (by rw [← HX.out]; exact hm4) hg4); have HJ := Lib.hid hj; have hp4 := hp3.grown hg4 (fun e => map_blk_ne hp3 hz3.had (Option.some.inj e)); have HP4 := Lib.hid hp4; have hb3 := hz3.st.box; have hb4 := HZ4.out.st.box; rw [HWS.out] at hb3 hb4; have S2 := And.intro (show w3.cell? ⟨wr.heap.size, 0, none⟩ = some (.int .i64 qx) from hp3.cell 0) (And.intro (show w3.cell? ⟨wr.heap.size, 1, none⟩ = some (.int .i64 qy) from hp3.cell 1) (And.intro (show w3.cell? ⟨wr.heap.size, 2, none⟩ = some (.int .i64 qz) from hp3.cell 2) (wave_cells hb3).2.2.1)); have S3 := And.intro (show W4.cell? ⟨wr.heap.size, 0, none⟩ = some (.int .i64 qx) from hp4.cell 0) (And.intro (show W4.cell? ⟨wr.heap.size, 1, none⟩ = some (.int .i64 qy) from hp4.cell 1) (And.intro (show W4.cell? ⟨wr.heap.size, 2, none⟩ = some (.int .i64 qz) from hp4.cell 2) (wave_cells hb4).2.2.1)); have hup := (show (Instr.mapUpdate 91 (.map (some (W.heap.size + 1))) (.agg #[.int .i64 qx, .int .i64 qy, .int .i64 qz]) (.int .u8 x)).run Try.prog w3 = .ok () W4 from hup); clear hz3 hp3 hm4 hg4 ha hj hp4 hb3 hb4))
      have hl4 := HJ.out.2
      have HST4 := Lib.hid (HWV.out.set_ W4 ((A0 ++ A) ++ l) av'' M c HZ4.out.st.sets.fs (qx, qy, qz) 0 HMQ.out (by have := HL.out; have := HBX.out; simp only [List.length_append] at *; omega))
      unfold plV plC at HST4
      simp only at HST4
      have hb4 := HZ4.out.st.box
      rw [HWS.out] at hb4
      obtain ⟨-, -, -, d34⟩ := wave_cells hb4
      obtain ⟨p0, p1, p2⟩ := three_of HP4.out
      clear hb4 a0 a1 a2 d2 d3 e0 e1 e2 hup S2 S3
      go_wp2_with fail
      refine HST4.out.mono ?_
      rintro e w5 ⟨rfl, av5, l5, hj5, hs5⟩
      have HD5 := Lib.hid (HD.out.step (HZ4.out.set HHF.out H0.out hs5) (by rw [HTK.out, ← HQ.out]) HQM.out HJ.out hj5)
      clear hs5 hj5 p0 p1 p2 d34
      go_wp2
      go_roundw
      case rel => exact ⟨j + 1, _, _, _, _, _, _, by omega, by go_num, HD5.out⟩
      case measure => simp [intOf]; omega
    · have hje : j = l0.length := by omega
      have HD2 := Lib.hid (show DarkSt W0 wr base g b3 b10 b11 gm W.heap.size (W.heap.size + 1) f cv lv av tv ws sel put M0 M c A0 A av' (.slice ao l0.length cap) l0 H ch l0 0 0 from by
        have h1 := HD.out.z
        rw [hje, List.take_of_length_le (Nat.le_refl _)] at h1
        exact ⟨h1, Dark.start HND.out farP_self, HIN.out, by have := HD.out.few; omega, HD.out.near⟩)
      clear HD hje
      go_wp2
      go_loopw [1, 8] (fun v i wr => ∃ (i' : Nat) (M : LMap) (c : Nat) (A : List Pl) (av' : Value) (L : List Pl) (H : List (Ent Pl)) (ch : Nat), i' ≤ L.length ∧ i = .int .i64 i' ∧ DarkSt W0 wr base g b3 b10 b11 gm W.heap.size (W.heap.size + 1) f cv lv av tv ws sel put M0 M c A0 A av' v L H ch l0 i' 0) (fun _ i _ => 1100 - (intOf i).toNat)
      case atStart => exact ⟨0, M, c, A, av', l0, H, ch, Nat.zero_le _, rfl, HD2.out⟩
      case round =>
        clear HD2 HST
        obtain ⟨i, M, c, A, av', L, H, ch, hi, rfl, hd⟩ := hrel
        have HD := Lib.hid hd
        clear hd
        have hLb := nodup_box HOK.out.box HD.out.dark.nodup HD.out.inb
        obtain ⟨_, ao1, cap1, rfl, hcap1, _⟩ := own_rat (d := ((0, 0, 0) : Pl)) plE_len HD.out.z.st.row
        obtain ⟨nL, hnL⟩ : ∃ nL, nL = L.length := ⟨_, rfl⟩
        have HNL := Lib.hid hnL
        rw [← hnL] at hi hLb hcap1 HD ⊢
        clear hnL
        by_cases hlt : i < nL
        · have hltI : (i : Int) < (nL : Int) := by omega
          have hc0 : 0 < cap1 := by omega
          have hltL : i < L.length := by have := HNL.out; omega
          have hrow := HD.out.z.st.row
          rw [HNL.out] at hrow
          obtain ⟨gl, rfl, -, -⟩ := own_form hrow hc0
          have hat := own_at plE_len ((0, 0, 0) : Pl) hrow hltL
          obtain ⟨r, hr⟩ : ∃ r, r = L.getD i (0, 0, 0) := ⟨_, rfl⟩
          rw [← hr] at hat
          have HR := Lib.hid (show L[i]? = some r by rw [hr, getD_at hltL, List.getElem?_eq_getElem hltL])
          have HSI := Lib.hid (sides_any wr r)
          obtain ⟨rx, ry, rz⟩ := r
          have e0 : wr.cell? ⟨gl, i * 3, none⟩ = some (.int .i64 rx) := hat 0 (by decide)
          have e1 : wr.cell? ⟨gl, i * 3 + 1, none⟩ = some (.int .i64 ry) := hat 1 (by decide)
          have e2 : wr.cell? ⟨gl, i * 3 + 2, none⟩ = some (.int .i64 rz) := hat 2 (by decide)
          unfold plV plC at HSI
          simp only at HSI
          clear hat hr hrow hltL
          go_wp2_with fail
          go_at_call 52
          refine HSI.out.mono ?_
          rintro e w2 ⟨sv, rfl, hsr, hb⟩
          obtain ⟨_, aos, caps, rfl, hcaps, _⟩ := own_rat (d := ((0, 0, 0) : Pl)) plE_len hsr
          obtain ⟨nD, hnD⟩ : ∃ nD, nD = (sidesP (rx, ry, rz)).length := ⟨_, rfl⟩
          have HND2 := Lib.hid hnD
          rw [← hnD] at hsr hcaps ⊢
          have hn6 : nD ≤ 6 := by rw [hnD]; exact sidesTo_len _ 6
          obtain ⟨n0, hn0⟩ : ∃ n0, n0 = wr.heap.size := ⟨_, rfl⟩
          have HD2 := Lib.hid (HD.out.of (HD.out.z.under hb))
          have HSD2 := Lib.hid (show SideAt w2 n0 (.slice aos nD caps) (rx, ry, rz) av' (.slice (some ⟨gl, 0, none⟩) nL cap1) from ⟨by rw [hn0]; rw [hnD] at hsr ⊢; exact hsr, fun k hk e => by
              have h1 := (hsr.lt k hk).1
              have h2 := (HD.out.z.st.sets.fs.fld.asked.lt k e).2
              omega, fun k hk e => by
              have h1 := (hsr.lt k hk).1
              have h2 := (HD.out.z.st.row.lt k e).2
              omega⟩)
          have hw2 : n0 ≤ w2.heap.size := by rw [hn0]; exact hb.size
          clear hsr hb hnD e0 e1 e2 hn0
          go_wp2
          try rw [show ((0 : Nat) : Int) = 0 from rfl]
          go_loopw [1, 42] (fun v kk wr => ∃ (k : Nat) (M : LMap) (c : Nat) (A : List Pl) (av' : Value) (L : List Pl) (H : List (Ent Pl)) (ch : Nat), k ≤ nD ∧ kk = .int .i64 k ∧ L[i]? = some (rx, ry, rz) ∧ DarkSt W0 wr base g b3 b10 b11 gm W.heap.size (W.heap.size + 1) f cv lv av tv ws sel put M0 M c A0 A av' v L H ch l0 i k ∧ SideAt wr n0 (.slice aos nD caps) (rx, ry, rz) av' v ∧ n0 ≤ wr.heap.size) (fun _ kk _ => nD - (intOf kk).toNat)
          case atStart => exact ⟨0, M, c, A, av', L, H, ch, Nat.zero_le _, rfl, HR.out, HD2.out, HSD2.out, hw2⟩
          case round =>
            clear HD HD2 HSD2 hw2 HSI HNL HR hcap1
            obtain ⟨k, M, c, A, av', L, H, ch, hk, rfl, hr, hd, hsd, hsz⟩ := hrel
            have HD := Lib.hid hd
            have HSD := Lib.hid hsd
            have HR := Lib.hid hr
            have HSZ := Lib.hid hsz
            clear hd hsd hr hsz
            have hLb := nodup_box HOK.out.box HD.out.dark.nodup HD.out.inb
            have hiL := (List.getElem?_eq_some_iff.1 HR.out).1
            obtain ⟨_, ao2, cap2, rfl, hcap2, _⟩ := own_rat (d := ((0, 0, 0) : Pl)) plE_len HD.out.z.st.row
            obtain ⟨mL, hmL⟩ : ∃ mL, mL = L.length := ⟨_, rfl⟩
            have HML := Lib.hid hmL
            rw [← hmL] at hiL hLb hcap2 HD HSD ⊢
            clear hmL
            have hc2 : 0 < cap2 := by omega
            have hrow := HD.out.z.st.row
            rw [HML.out] at hrow
            obtain ⟨g2, rfl, -, -⟩ := own_form hrow hc2
            clear hrow
            have hiI : (i : Int) < (mL : Int) := by omega
            by_cases hkt : k < nD
            · have hkI : (k : Int) < (nD : Int) := by omega
              have hktS : k < (sidesP (rx, ry, rz)).length := by have := HND2.out; omega
              have hsrow := HSD.out.row
              rw [HND2.out] at hsrow
              have hcs : 0 < caps := by omega
              obtain ⟨gs, rfl, -, -⟩ := own_form hsrow hcs
              have hat := own_at plE_len ((0, 0, 0) : Pl) hsrow hktS
              obtain ⟨q, hq⟩ : ∃ q, q = (sidesP (rx, ry, rz)).getD k (0, 0, 0) := ⟨_, rfl⟩
              rw [← hq] at hat
              have HQ := Lib.hid (show (sidesP (rx, ry, rz))[k]? = some q by rw [hq, getD_at hktS, List.getElem?_eq_getElem hktS])
              have HMQ := Lib.hid (sidesP_iff.1 (List.mem_of_getElem? HQ.out)).2.1
              have HMR := Lib.hid (sidesP_iff.1 (List.mem_of_getElem? HQ.out)).1
              obtain ⟨W2, hW2⟩ : ∃ W2, W2 = wr.alloc (.cells (plC q) 23) := ⟨_, rfl⟩
              have hB2 : Below wr.heap.size wr W2 := by rw [hW2]; exact (Below.refl _ _).alloc (Nat.le_refl _) _
              have hZ2 := HD.out.z.under hB2
              have hP2 : Blk W2 wr.heap.size 23 (plC q) := by rw [hW2]; exact Blk.new _ _ _
              have HZ2 := Lib.hid hZ2
              have HP2 := Lib.hid hP2
              have HSD2 := Lib.hid (HSD.out.under hB2)
              have hfew := HD.out.few
              have hbxb : W.heap.size < wr.heap.size := HD.out.z.st.box.lt
              have HAT := Lib.hid (HWV.out.at_ W2 (A0 ++ A) av' M c hZ2.st.sets.fs q HMQ.out (by have := HL.out; simp only [List.length_append] at *; omega))
              have HNW := Lib.hid (hZ2.sel_now HHF.out q)
              have HF2 := Lib.hid (new_far HD.out.z.st (Nat.le_refl _))
              have HW2 := Lib.hid hW2
              have HSZ2 := Lib.hid (show n0 ≤ W2.heap.size from Nat.le_trans HSZ.out hB2.size)
              clear hW2 hB2 hZ2 hP2 hq hsrow
              obtain ⟨x, hx⟩ : ∃ x, x = sel (nowAt f M q) := ⟨_, rfl⟩
              rw [← hx] at HAT HNW
              clear hx
              obtain ⟨qx, qy, qz⟩ := q
              have e0 : wr.cell? ⟨gs, k * 3, none⟩ = some (.int .i64 qx) := hat 0 (by decide)
              have e1 : wr.cell? ⟨gs, k * 3 + 1, none⟩ = some (.int .i64 qy) := hat 1 (by decide)
              have e2 : wr.cell? ⟨gs, k * 3 + 2, none⟩ = some (.int .i64 qz) := hat 2 (by decide)
              unfold plV plC at HAT
              unfold plC at HW2 HP2
              simp only at HAT HW2 HP2
              clear hat
              obtain ⟨a0, a1, a2⟩ := three_of HP2.out
              have hbx := HZ2.out.st.box
              rw [HWS.out] at hbx
              obtain ⟨-, -, d2, d3⟩ := wave_cells hbx
              have hlt2 : wr.heap.size < W2.heap.size := HP2.out.lt
              clear hbx
              rw [HW2.out] at a0 a1 a2 d2 d3
              go_wp2_with fail
              rw [← HW2.out]
              refine HAT.out.mono ?_
              rintro e w3 ⟨rfl, av3, l3, hj3, ha3⟩
              have HZ3 := Lib.hid (HZ2.out.asks ha3)
              have HP3 := Lib.hid (HP2.out.only ha3.only HF2.out)
              have HSD3 := Lib.hid (HSD2.out.asks HZ2.out.st.sets.fs.fld ha3)
              have HSZ3 := Lib.hid (Nat.le_trans HSZ2.out ha3.only.size)
              have HJ3 := Lib.hid hj3
              have hj3l := hj3.2
              have HNV3 := Lib.hid (asked_far ha3.new (fun e => HF2.out (.inr e.symm)) hlt2)
              clear ha3 hj3 a0 a1 a2 d2 d3 e0 e1 e2 HZ2 HP2 HSD2 HAT HF2
              by_cases hx0 : 0 < x
              · have hxb : decide (0 < x) = true := decide_eq_true hx0
                have HNL := Lib.hid (show (qx, qy, qz) ∉ L from fun h => by have := HNW.out; rw [if_pos h] at this; omega)
                have HX := Lib.hid (show x = sel (nowAt f M0 (qx, qy, qz)) by have := HNW.out; rwa [if_neg HNL.out] at this)
                obtain ⟨y, hy⟩ : ∃ y, y = sel (nowAt f M0 (rx, ry, rz)) := ⟨_, rfl⟩
                have hlk := HZ3.out.had.lookup keyed_ Try.underlying91 key_pl plV_inj (PlOk.of_may HMR.out) false (zero_u8 w3)
                rw [HZ3.out.hget _ (List.mem_of_getElem? HR.out), ← hy] at hlk
                have HY := Lib.hid hy
                clear hy
                have hrow3 := HZ3.out.st.row
                rw [HML.out] at hrow3
                have hat := own_at plE_len ((0, 0, 0) : Pl) hrow3 (List.getElem?_eq_some_iff.1 HR.out).1
                rw [List.getD_eq_getElem?_getD, HR.out] at hat
                have e0 : w3.cell? ⟨g2, i * 3, none⟩ = some (.int .i64 rx) := hat 0 (by decide)
                have e1 : w3.cell? ⟨g2, i * 3 + 1, none⟩ = some (.int .i64 ry) := hat 1 (by decide)
                have e2 : w3.cell? ⟨g2, i * 3 + 2, none⟩ = some (.int .i64 rz) := hat 2 (by decide)
                unfold plV plC at hlk
                simp only at hlk
                obtain ⟨p0, p1, p2⟩ := three_of HP3.out
                clear hat hrow3
                by_cases hxy : x < y
                · have hxyb : decide (x < y) = true := decide_eq_true hxy
                  have hbx := HZ3.out.st.box
                  rw [HWS.out] at hbx
                  obtain ⟨-, -, d2, d3⟩ := wave_cells hbx
                  clear hbx
                  obtain ⟨W4, hup, hm4, hg4⟩ := HZ3.out.had.update keyed_ Try.underlying91 key_pl plV_inj (PlOk.of_may HMQ.out) (.int .u8 x)
                  have HZ4 := Lib.hid (HZ3.out.put_ H0.out (q := (qx, qy, qz)) (by rw [← HX.out]; exact hm4) hg4)
                  have HP4 := Lib.hid (HP3.out.grown hg4 (fun e => map_blk_ne HP3.out HZ3.out.had (Option.some.inj e)))
                  have HSD4 := Lib.hid (HSD3.out.had HZ3.out.had hg4)
                  have HSZ4 := Lib.hid (Nat.le_trans HSZ3.out hg4.size)
                  unfold plV plC at hup
                  simp only at hup
                  have hlt3 := HP3.out.lt
                  have HF4 := Lib.hid (show ¬ (QF g av3.ownBlock wr.heap.size ∨ wr.heap.size = gm) from by
                    rintro ((e | e) | e)
                    · have := HD.out.z.st.sets.fs.fld.blk.lt; omega
                    · exact HNV3.out e.symm
                    · have := HD.out.z.st.sets.fs.map.inb; omega)
                  clear hm4 hg4
                  have hf4 := HD.out.few
                  have HST4 := Lib.hid (HWV.out.set_ W4 ((A0 ++ A) ++ l3) av3 M c HZ4.out.st.sets.fs (qx, qy, qz) 0 HMQ.out (by have := HL.out; simp only [List.length_append] at *; omega))
                  unfold plV plC at HST4
                  simp only at HST4
                  have hbx := HZ4.out.st.box
                  rw [HWS.out] at hbx
                  obtain ⟨-, -, -, d34⟩ := wave_cells hbx
                  obtain ⟨r0, r1, r2⟩ := three_of HP4.out
                  clear hbx d2 d3
                  go_wp2_with fail
                  refine HST4.out.mono ?_
                  rintro e w5 ⟨rfl, av5, l5, hj5, hs5⟩
                  have HZ5 := Lib.hid (HZ4.out.set HHF.out H0.out hs5)
                  have HP5 := Lib.hid (HP4.out.only hs5.only HF4.out)
                  have HSD5 := Lib.hid (HSD4.out.set HZ4.out.st.sets.fs hs5)
                  have HJ5 := Lib.hid hj5
                  have HSZ5 := Lib.hid (Nat.le_trans HSZ4.out hs5.only.size)
                  have HB5 := Lib.hid (show W0.heap.size ≤ w5.heap.size from HZ5.out.st.sets.only.size)
                  have HLEN := Lib.hid (show L.length ≤ 1099511627775 by have := HML.out; omega)
                  have HGI := Lib.hid (show f.b.inside (qx, qy, qz) from Classical.byContradiction fun h => by have h1 := HOUT.out _ h; have h2 := HX.out; omega)
                  obtain ⟨p0, p1, p2⟩ := three_of HP5.out
                  clear hs5 hj5 r0 r1 r2 d34 hup e0 e1 e2 hlk HZ4 HP4 HSD4 HST4
                  go_wp2_with (at_builtin; refine row_law plE_len plE_one (by decide) Try.underlying46 infoPl rfl (by decide) HZ5.out.st.row rfl _ _ rfl rfl ((qx, qy, qz) : Pl) rfl rfl rfl HLEN.out HB5.out ?_)
                  intro v' w6 k1 k2 k3
                  have HK3 := Lib.hid (show v'.ownBlock = Value.ownBlock _ ∨ ∃ k, v'.ownBlock = some k ∧ w5.heap.size + 1 ≤ k from k3.imp id fun h => ⟨_, h, by simp⟩)
                  have hal : Below w5.heap.size w5 (w5.alloc (.cells #[.int .i64 qx, .int .i64 qy, .int .i64 qz] 23)) := (Below.refl _ _).alloc (Nat.le_refl _) _
                  have HZ6 := Lib.hid ((HZ5.out.under hal).push H0.out k2 (own_rc plE_len (by decide) k1 rfl) HK3.out (fun k hk => by have := (HZ5.out.st.sets.fs.fld.asked.lt k hk).2; omega))
                  have HSD6 := Lib.hid ((HSD5.out.under hal).push k2 HK3.out (fun k hk => by have := (HSD5.out.row.lt k hk).2; omega))
                  have HSZ6 := Lib.hid (show n0 ≤ w6.heap.size from Nat.le_trans (Nat.le_trans HSZ5.out hal.size) k2.size)
                  have HD6 := Lib.hid (HD.out.more HZ6.out HR.out HQ.out HNL.out (by rw [← HX.out]; exact hx0) (by rw [← HX.out, ← HY.out]; exact hxy) HGI.out HJ3.out HJ5.out)
                  have HR6 := Lib.hid (show (L ++ [(qx, qy, qz)])[i]? = some (rx, ry, rz) by rw [List.getElem?_append_left (List.getElem?_eq_some_iff.1 HR.out).1]; exact HR.out)
                  clear k1 k2 k3 hal p0 p1 p2
                  go_wp2
                  go_roundw
                  case rel => exact ⟨k + 1, _, _, _, _, _, _, _, by omega, by go_num, HR6.out, HD6.out, HSD6.out, HSZ6.out⟩
                  case measure => simp [intOf]; omega
                · have hxyb : decide (x < y) = false := decide_eq_false hxy
                  have HD6 := Lib.hid (HD.out.skip HZ3.out HR.out HQ.out (.inr (.inr (by have := HX.out; have := HY.out; omega))) HJ3.out)
                  go_wp2
                  go_roundw
                  case rel => exact ⟨k + 1, _, _, _, _, _, _, _, by omega, by go_num, HR.out, HD6.out, HSD3.out, HSZ3.out⟩
                  case measure => simp [intOf]; omega
              · have hxb : decide (0 < x) = false := decide_eq_false hx0
                have HD6 := Lib.hid (HD.out.skip HZ3.out HR.out HQ.out (by
                  have h1 := HNW.out
                  by_cases h : (qx, qy, qz) ∈ L
                  · exact .inl h
                  · rw [if_neg h] at h1
                    exact .inr (.inl (by omega))) HJ3.out)
                go_wp2
                go_roundw
                case rel => exact ⟨k + 1, _, _, _, _, _, _, _, by omega, by go_num, HR.out, HD6.out, HSD3.out, HSZ3.out⟩
                case measure => simp [intOf]; omega
            · have HKE := Lib.hid (show k = (sidesP (rx, ry, rz)).length by have := HND2.out; omega)
              have HD6 := Lib.hid (HD.out.next HR.out HKE.out)
              have HI6 := Lib.hid (show i + 1 ≤ L.length from (List.getElem?_eq_some_iff.1 HR.out).1)
              go_wp2
              go_roundw
              case rel => exact ⟨i + 1, _, _, _, _, _, _, _, HI6.out, by go_num, HD6.out⟩
              case measure => simp [intOf]; omega
        · have HIE := Lib.hid (show i = L.length by have := HNL.out; omega)
          go_wp2
          go_ret
          refine ⟨_, L, M, c, A, av', rfl, HD.out.z.st.sets, HD.out.z.st.row, HD.out.z.st.apart, ?_, HD.out.inb, HD.out.z.now, HD.out.z.keys, ?_, HD.out.near⟩
          · have := HD.out.dark
            rwa [HIE.out] at this
          · have := HD.out.few
            omega
end Go.Proofs.Ytlhjjmfbifhgfaa
