/- One tick more, the last one off: the walks of a queue's rows. -/
import Derived.Test.YtlccplpniidjfaaQUp
import Derived.StillTailTactics
import Derived.Deep.RegionWith
namespace Go.Proofs.Ytlccplpniidjfaa
open Go.RowKit

theorem QBlk.grown {w w' : World} {g : Nat} {v : Value} {f : Nat → Nat} (h : QBlk w g v f) {row : Option Nat} (hg : w.grownBy w' row) (hn : row ≠ some g) : QBlk w' g v f := h.keep (hg.block g h.lt fun e => hn e.symm)
theorem infoTick : (Try.prog.info? 24).map (fun i => (i.zero, i.size, i.bytes)) = some (some (.agg #[.int .i64 0, .int .i64 0]), 2, 16) := by kernel_rfl

/-- append(ticks, t), in a region that draws. -/
theorem tick_step {ops : Array Oper} {o : Oper} {a : Act} {K : Act → World → Prop} {Q : Exit → Act → World → Prop} {E : Prop} {W : World} {base : Nat} {v : Value} {l : List Tk} {T : TypeId} (hT : T = 48 ∨ T = 22)
    (hown : W.ownsRow base 24 2 v l.length (tcells l)) (hgd : o.guard = none) (s x : Operand)
    (ho : o.op = .call { callee := .builtin .append, args := #[s, x], argTypes := #[T, T] }) (hs : a.eval s = v) (t : Tk)
    (hx : a.eval x = .slice (some ⟨W.heap.size, 0, none⟩) 1 1) (hlen : l.length ≤ 1099511627776) (hbase : base ≤ W.heap.size)
    (h : ∀ d c w', w'.ownsRow base 24 2 (.slice (some ⟨d, 0, none⟩) (l.length + 1) c) (l ++ [t]).length (tcells (l ++ [t])) → (W.alloc (.cells #[.int .i64 t.1, .int .i64 t.2] 24)).grownBy w' v.ownBlock →
      (some d = v.ownBlock ∨ W.heap.size < d) → K (a.put o.dst (.slice (some ⟨d, 0, none⟩) (l.length + 1) c)) w') :
    if Region.wanted o (yielded ops a.tmps) = true then Oper.wp Try.prog o a (W.alloc (.cells #[.int .i64 t.1, .int .i64 t.2] 24)) K Q else E := by
  obtain ⟨i0, hi, hz0, hz1, hz2⟩ := info_parts infoTick
  refine step_append_any _ hgd s x T ho base 24 i0 (.agg #[.int .i64 0, .int .i64 0]) 2 16 (by rcases hT with rfl | rfl; exact Try.underlying48; exact Try.underlying22) hi hz0 hz1 hz2 rfl (by decide) v l.length _ hs (hown.alloc _) (W.heap.size + 1) _ 1 1 [.int .i64 t.1, .int .i64 t.2] hx ⟨rfl, fun _ => ⟨_, rfl, Nat.lt_succ_self _, fun j u hu => ?_⟩⟩
    (fun u hu => by simp at hu; rcases hu with rfl | rfl <;> rfl) (by unfold maxLen; omega) (by omega) (by simp; omega) (fun v' w' h1 h2 h3 => ?_)
  · match j, hu with
    | 0, hu => simp at hu; subst hu; simp [Addr.add]
    | 1, hu => simp at hu; subst hu; simp [Addr.add]
  · obtain ⟨d, c, rfl, hd, _⟩ := row_form (l := l ++ [t]) (n := l.length + 1) (by rw [tcells_append]; exact h1) (by omega)
    refine h d c w' (by rw [tcells_append, List.length_append]; exact h1) h2 ?_
    rcases h3 with h3 | h3
    · exact .inl h3
    · right
      injection h3 with h3
      subst h3
      simp

theorem ta_tick (x y : Value) (W : World) : (Instr.typeAssert (.iface 24 (.agg #[x, y])) 20 24 false).run Try.prog W = .ok (.agg #[x, y]) W := by kernel_rfl

/-- What Push leaves. -/
def Pushed (w w' : World) (base g : Nat) (v : Value) (f : Nat → Nat) (l : List Tk) (a : Nat) (due : Int) : Prop :=
  ∃ d c, w'.ownsRow base 24 2 (.slice (some ⟨d, 0, none⟩) (l.length + 1) c) (l ++ [((a : Int), due)]).length (tcells (l ++ [((a : Int), due)])) ∧
    QBlk w' g (.slice (some ⟨d, 0, none⟩) (l.length + 1) c) (upd f a (l.length + 1)) ∧ Only w w' (QF g v.ownBlock) ∧ (some d = v.ownBlock ∨ w.heap.size ≤ d)

set_option maxRecDepth 100000 in
set_option maxHeartbeats 4000000 in
theorem rpush_any (w : World) (base g : Nat) (v : Value) (f : Nat → Nat) (l : List Tk) (a : Nat) (due : Int) (ha : a < 4096) (hl : l.length ≤ 4096) (hbs : base ≤ w.heap.size)
    (hb : QBlk w g v f) (ho : w.ownsRow base 24 2 v l.length (tcells l)) :
    Calls Try.prog 82 #[.pointer (some ⟨g, 0, none⟩), .iface 24 (.agg #[.int .i64 a, .int .i64 due])] w fun e w' => e = .returned (.tuple #[]) ∧ Pushed w w' base g v f l a due := by
  have c0 := hb.cell
  have HO := Lib.hid ho
  have HB := Lib.hid hb
  clear ho hb
  have hta := ta_tick (.int .i64 a) (.int .i64 due)
  go_enter Try.func82, Try.ntmps82
  go_wp2
  have hp := HB.out.lt
  have b0 : (w.alloc (.cells #[.int .i64 (a : Int), .int .i64 due] 24)).cell? ⟨w.heap.size, 0, none⟩ = some (.int .i64 a) := by simp
  have b1 : (w.alloc (.cells #[.int .i64 (a : Int), .int .i64 due] 24)).cell? ⟨w.heap.size, 1, none⟩ = some (.int .i64 due) := by simp
  have hb1 := HB.out.alloc (.cells #[.int .i64 (a : Int), .int .i64 due] 24)
  have ho1 := HO.out.alloc (.cells #[.int .i64 (a : Int), .int .i64 due] 24)
  have hon1 := (Only.refl w (QF g v.ownBlock)).alloc (.cells #[.int .i64 (a : Int), .int .i64 due] 24)
  have hsz : w.heap.size + 1 = (w.alloc (.cells #[.int .i64 (a : Int), .int .i64 due] 24)).heap.size := by simp
  generalize (w.alloc (.cells #[.int .i64 (a : Int), .int .i64 due] 24)) = W0 at *
  have HS := Lib.hid hsz
  have HO1 := Lib.hid ho1
  have HB1 := Lib.hid hb1
  have HN1 := Lib.hid hon1
  have c0' := hb1.cell
  have c1' := fun o => (hb1.alloc o).cell
  have hp2 : w.heap.size < W0.heap.size := by omega
  clear hsz ho1 hb1 hon1 c0 hta
  go_region_law (refine tick_step (.inl rfl) HO1.out.drew rfl _ _ rfl rfl ((a : Int), due) rfl (by omega) (show base ≤ W0.heap.size by omega) (fun d c w2 h1 h2 h3 => ?_); have q2 := (HB1.out.drew.alloc _).grown h2 (HB1.out.ne_row HO1.out (by decide)); have k0 := q2.cell; have k1 := q2.frozen 0)
  all_goals
    go_wp2
    clear k0 k1 c0' c1'
    have r1 : (w2.setCell ⟨g, 0, none⟩ (.slice (some ⟨d, 0, none⟩) (l.length + 1) c)).cell? ⟨w.heap.size, 0, none⟩ = some (.int .i64 a) := by
      rw [World.cell?_setCell_other _ _ _ _ (fun e => by injection e with e; omega)]
      refine h2.cell (World.cell?_alloc_lt _ _ _ ?_ |>.trans b0) (fun e => ?_)
      · exact hp2
      · exact absurd (HO.out.lt _ e.symm).2 (Nat.lt_irrefl _)
    have r2 := q2.set0 (.slice (some ⟨d, 0, none⟩) (l.length + 1) c)
    have r3 := (((HN1.out.drew.alloc _).grown h2 (fun k hk => .inl (.inr hk.symm))).setCell (p := ⟨g, 0, none⟩) (.inl (.inl rfl)) (.slice (some ⟨d, 0, none⟩) (l.length + 1) c))
    have r4 := own_only h1 ((Only.refl w2 (fun k => k = g)).setCell (p := ⟨g, 0, none⟩) (.inl rfl) (.slice (some ⟨d, 0, none⟩) (l.length + 1) c)) (fun q hq e => q2.ne_row h1 (by decide) (by rw [hq, e]))
    generalize (w2.setCell ⟨g, 0, none⟩ (.slice (some ⟨d, 0, none⟩) (l.length + 1) c)) = W2 at *
    have k0 := r2.cell
    have k1 := r2.cellW ha
    have k2 := r2.frozen (1 + a)
    have k3 : (a : Int) < 4096 := by omega
    have R2 := Lib.hid r2
    have R3 := Lib.hid r3
    have R4 := Lib.hid r4
    clear r2 r3 r4 h1 h2 q2 b0 b1
    go_region_with (go_at_call 29; refine (len_any _ _ _ _).mono ?_; rintro e w' ⟨rfl, rfl⟩)
    all_goals
      go_end0
      refine ⟨rfl, d, c, own_only (S := fun k => k = g) R4.out ((Only.refl W2 (fun k => k = g)).setCell (p := ⟨g, 1 + a, none⟩) (.inl rfl) _).drew (fun q hq e => R2.out.ne_row R4.out (by decide) (by rw [hq, e])),
        (R2.out.setW ha (l.length + 1)).drew, (R3.out.setCell (p := ⟨g, 1 + a, none⟩) (.inl (.inl rfl)) _).drew, ?_⟩
      rcases h3 with h3 | h3
      · exact .inl h3
      · right
        have : W0.heap.size < d := h3
        omega
end Go.Proofs.Ytlccplpniidjfaa
