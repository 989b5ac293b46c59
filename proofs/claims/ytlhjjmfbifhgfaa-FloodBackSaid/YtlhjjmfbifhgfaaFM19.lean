/- Joined texts of one seat, each under its own heading below. -/
import Derived.Test.YtlhjjmfbifhgfaaFM18
import Derived.Deep.RegionHeld3
import Derived.StillTailTactics
/- Which cells of the box are sky sources: the walk. -/
namespace Go.Proofs.Ytlhjjmfbifhgfaa
set_option linter.unusedSimpArgs false
set_option linter.unusedVariables false
open Go.RowKit
set_option maxRecDepth 100000

/-- Is a cell a sky source? -/
def isSrc (b : Bx) (cells : List (Int × Int)) (i : Nat) : Bool := decide (srcN b (clrL cells) i = 15) && decide (b.lo.2.1 + b.Y = 64)
set_option maxHeartbeats 16000000 in
theorem wsources_any (W : World) (base g : Nat) (f : Fw) (cv lv av tv : Value) (h : FieldAt W base g f cv lv av tv) (ok : f.Ok) :
    Calls Try.prog 17 #[.pointer (some ⟨g, 0, none⟩)] W fun e w' => ∃ k, e = .returned (.slice (some ⟨k, 0, none⟩) f.b.size f.b.size) ∧ BBlk w' k f.b.size (isSrc f.b f.cells) ∧ Below W.heap.size W w' ∧ W.heap.size ≤ k := by
  have hsz := Bx.size_le ok.box
  obtain ⟨W2, hmk, hnx, hb2, hs2⟩ := make_bools W f.b.size hsz
  have HF := Lib.hid h
  have hpos : 0 < f.b.size := by unfold Bx.size; exact Nat.mul_pos (Nat.mul_pos ok.box.x1 ok.box.y1) ok.box.z1
  have HS := Lib.hid (sources_any W2 base f.b ok.box f.cells cv (own_below h.cells hb2) ok.cells ok.cin)
  obtain ⟨ly, hly⟩ : ∃ ly, ly = f.b.lo.2.1 := ⟨_, rfl⟩
  have hY : 0 ≤ ly ∧ ly + (f.b.Y : Int) ≤ 64 := by rw [hly]; exact ⟨ok.box.ly, ok.box.hy⟩
  have hY16 := ok.box.y16
  have hly2 := Lib.hid hly
  have HV := Lib.hid (show ∀ i, isSrc f.b f.cells i = (decide (srcN f.b (clrL f.cells) i = 15) && decide (ly + (f.b.Y : Int) = 64)) from fun i => by rw [hly]; rfl)
  obtain ⟨c0, c1, c2, c3, c4, c5, c6, -⟩ := world_cells h.blk
  obtain ⟨_, ao, cc, hcv, hcc, _⟩ := own_rat (d := ((0, 0) : Int × Int)) clE_len h.cells
  rw [ok.cells] at hcv
  have hgl := h.blk.lt
  have HB2 := Lib.hid hb2
  have HNX := Lib.hid hnx
  have HS2 := Lib.hid hs2
  subst hcv
  obtain ⟨_, d1, _, d3, d4, d5, d6, -⟩ := world_cells (h.blk.below hb2 hgl)
  obtain ⟨d0, -, d2, -⟩ := world_cells (h.blk.below hb2 hgl)
  rw [← hly] at d1
  unfold boxV at HS
  clear h ok hnx hb2 hs2 hly c0 c1 c2 c3 c4 c5
  go_enter Try.func17, Try.ntmps17
  go_wp2_with fail
  go_at_call 42
  refine HS.out.mono ?_
  rintro e w3 ⟨go, rfl, hrow, hb3, hgo⟩
  have hlt2 : W.heap.size < W2.heap.size := by have := HS2.out; omega
  have HR := Lib.hid hrow
  have HGO := Lib.hid hgo
  have HB3 := Lib.hid (HB2.out.trans (hb3.mono HB2.out.size))
  have HN3 := Lib.hid (HNX.out.below hb3)
  have HGK := Lib.hid (HF.out.blk.lt)
  obtain ⟨gk, hgk⟩ : ∃ gk, gk = W.heap.size := ⟨_, rfl⟩
  obtain ⟨n, hn⟩ : ∃ n, n = f.b.size := ⟨_, rfl⟩
  obtain ⟨Y, hY2⟩ : ∃ Y : Nat, Y = f.b.Y := ⟨_, rfl⟩
  have hne : go ≠ W.heap.size := fun e => by
    have h1 := HR.out 0 hpos
    have h2 := HN3.out.cell 0 hpos
    rw [e, h2] at h1
    cases h1
  have HNE := Lib.hid hne
  rw [← hn] at HR HN3 hsz ⊢
  rw [← hY2] at HV hY hY16
  have HW3 := Lib.hid (And.intro hn hY2)
  have HK := Lib.hid hgk
  clear hrow hb3 hgo d0 d1 d2 d3 d4 d5 d6 hlt2 hgl hne hn hY2 hgk hmk
  go_wp2
  go_loopw [5] (fun s wr => ∃ m : Nat, m ≤ n ∧ s = .int .i64 m ∧ ICells wr go n (srcN f.b (clrL f.cells)) ∧ BBlk wr W.heap.size n (fun i => if i < m then isSrc f.b f.cells i else false) ∧ Below W.heap.size W wr) (fun s _ => n - (intOf s).toNat)
  case atStart => exact ⟨0, Nat.zero_le _, rfl, HR.out, HN3.out.congr (fun i hi => by simp), HB3.out⟩
  case round =>
    obtain ⟨m, hm, rfl, hI, hB, hb⟩ := hrel
    have HI := Lib.hid hI
    have HBm := Lib.hid hB
    have HL := Lib.hid hb
    by_cases hmt : m < n
    · have hmI : (m : Int) < (n : Int) := by omega
      have e0 : wr.cell? ⟨go, m, none⟩ = some (.int .i64 (srcN f.b (clrL f.cells) m : Nat)) := hI m hmt
      have hbw := HF.out.blk.below hb HGK.out
      obtain ⟨-, l1, -, -, l4, -⟩ := world_cells hbw
      have b0 := hB.cell m hmt
      have k0 := hB.frozen m
      have HVm := Lib.hid (HV.out m)
      obtain ⟨sv, hsv⟩ : ∃ sv : Nat, sv = srcN f.b (clrL f.cells) m := ⟨_, rfl⟩
      rw [← hsv] at e0 HVm
      have HNXT := Lib.hid (show ∀ v, v = isSrc f.b f.cells m → ICells ((wr.drew).setCell ⟨W.heap.size, m, none⟩ (.bool v)) go n (srcN f.b (clrL f.cells)) ∧ BBlk ((wr.drew).setCell ⟨W.heap.size, m, none⟩ (.bool v)) W.heap.size n (fun i => if i < m + 1 then isSrc f.b f.cells i else false) ∧ Below W.heap.size W ((wr.drew).setCell ⟨W.heap.size, m, none⟩ (.bool v)) from fun v hv => by
        refine ⟨fun i hi => ?_, (HBm.out.drew.set m v).congr (fun i hi => ?_), HL.out.drew.setCell (Nat.le_refl _) _⟩
        · rw [World.cell?_setCell_far _ _ _ _ (show W.heap.size ≠ go from fun e => HNE.out e.symm)]
          exact HI.out i hi
        · by_cases e : i = m
          · subst e; simp [hv]
          · by_cases h2 : i < m
            · simp [e, h2, Nat.lt_succ_of_lt h2]
            · have : ¬ i < m + 1 := by omega
              simp [e, h2, this])
      have hw : IntKind.i64.wrap (ly + (Y : Int)) = ly + (Y : Int) := wrap_small (by omega) (by omega)
      have l1' : wr.cell? ⟨g, 1, none⟩ = some (.int .i64 ly) := by rw [hly2.out]; exact l1
      have l4' : wr.cell? ⟨g, 4, none⟩ = some (.int .i64 (Y : Int)) := by rw [HW3.out.2]; exact l4
      clear hI hB hb hbw l1 l4
      have hgg : W.heap.size ≠ go := fun e => HNE.out e.symm
      have hgw : W.heap.size ≠ g := by have := HGK.out; omega
      by_cases hs : sv = 15
      · have hsI : (sv : Int) = 15 := by omega
        by_cases ht : ly + (Y : Int) = 64
        · rw [hs] at e0
          have e0 : wr.cell? ⟨go, m, none⟩ = some (.int .i64 15) := e0
          have hm0 : (0 : Int) ≤ (m : Int) := by omega
          have hv : isSrc f.b f.cells m = true := by rw [HVm.out]; simp [hs, ht]
          have HX := Lib.hid (HNXT.out true hv.symm)
          clear hs hsI
          clear hv HVm HNXT
          go_wp2
          go_region_held (fun w' => w'.cell? ⟨go, m, none⟩ = some (.int .i64 15) ∧ w'.cell? ⟨g, 1, none⟩ = some (.int .i64 ly) ∧ w'.cell? ⟨g, 4, none⟩ = some (.int .i64 (Y : Int))) (simp [*, World.cell?_setCell_far]) (fail)
          go_wp2
          go_roundw
          case rel => exact ⟨m + 1, by omega, by go_num, HX.out⟩
          case measure => (simp [intOf] <;> omega)
        · rw [hs] at e0
          have e0 : wr.cell? ⟨go, m, none⟩ = some (.int .i64 15) := e0
          have hm0 : (0 : Int) ≤ (m : Int) := by omega
          have hv : (ly + (Y : Int) == 64) = isSrc f.b f.cells m := by rw [HVm.out]; simp [hs, ht]
          have HX := Lib.hid (HNXT.out _ hv)
          clear hs hsI
          clear hv HVm HNXT
          go_wp2
          go_region_held (fun w' => w'.cell? ⟨go, m, none⟩ = some (.int .i64 15) ∧ w'.cell? ⟨g, 1, none⟩ = some (.int .i64 ly) ∧ w'.cell? ⟨g, 4, none⟩ = some (.int .i64 (Y : Int))) (simp [*, World.cell?_setCell_far]) (fail)
          go_wp2
          go_roundw
          case rel => exact ⟨m + 1, by omega, by go_num, HX.out⟩
          case measure => (simp [intOf] <;> omega)
      · have hsI : ¬ (sv : Int) = 15 := by omega
        have hm0 : (0 : Int) ≤ (m : Int) := by omega
        have hv : isSrc f.b f.cells m = false := by rw [HVm.out]; simp [hs]
        have HX := Lib.hid (HNXT.out false hv.symm)
        have hsb : ((sv : Int) == 15) = false := by simpa using hsI
        clear hs hsI
        clear hv HVm HNXT hsv
        go_wp2
        go_region
        go_wp2
        go_roundw
        case rel => exact ⟨m + 1, by omega, by go_num, HX.out⟩
        case measure => (simp [intOf] <;> omega)
    · have hmn : m = n := by omega
      subst hmn
      clear hI hB hb
      go_wp2
      go_ret
      rw [← HW3.out.1]
      exact ⟨W.heap.size, rfl, HBm.out.congr (fun i hi => if_pos hi), HL.out, Nat.le_refl _⟩
end Go.Proofs.Ytlhjjmfbifhgfaa
