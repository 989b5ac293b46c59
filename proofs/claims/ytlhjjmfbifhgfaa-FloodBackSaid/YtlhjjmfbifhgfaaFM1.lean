/- Joined texts of one seat, each under its own heading below. -/

/- Light as a least fixpoint; darkness and brightness as work lists: the plain laws of the flood. -/
namespace Go.Proofs.Ytlhjjmfbifhgfaa
set_option linter.unusedSimpArgs false
set_option linter.unusedVariables false

section
variable {α : Type} [DecidableEq α]
/-- The lights of a graph: what a place has, it has of its own or of a side. -/
structure Lights (nb : α → List α) (clear : α → Prop) (own : α → Nat) (F : α → Nat) : Prop where
  le : ∀ c, F c ≤ 15
  iff : ∀ c v, 1 ≤ v → (v ≤ F c ↔ clear c ∧ (v ≤ own c ∨ ∃ q ∈ nb c, v + 1 ≤ F q))
variable {nb : α → List α} {clear clear0 : α → Prop} {own own0 : α → Nat} {F F0 G : α → Nat}
omit [DecidableEq α] in
theorem Lights.own_le (h : Lights nb clear own F) {c : α} (hc : clear c) : own c ≤ F c := by
  rcases Nat.eq_zero_or_pos (own c) with h0 | h0
  · omega
  · exact (h.iff c (own c) h0).2 ⟨hc, .inl (Nat.le_refl _)⟩
omit [DecidableEq α] in
theorem Lights.nb_le (h : Lights nb clear own F) {c q : α} (hc : clear c) (hq : q ∈ nb c) : F q ≤ F c + 1 := by
  rcases Nat.lt_or_ge (F q) 2 with h0 | h0
  · omega
  · have := (h.iff c (F q - 1) (by omega)).2 ⟨hc, .inr ⟨q, hq, by omega⟩⟩
    omega
omit [DecidableEq α] in
/-- What is held up by sources and sides is at most the light. -/
theorem Lights.ge_of (h : Lights nb clear own F) (hG : ∀ c, G c ≤ 15) (hs : ∀ c v, 1 ≤ v → v ≤ G c → clear c ∧ (v ≤ own c ∨ ∃ q ∈ nb c, v + 1 ≤ G q)) : ∀ c, G c ≤ F c := by
  have key : ∀ k c v, 16 ≤ v + k → 1 ≤ v → v ≤ G c → v ≤ F c := by
    intro k
    induction k with
    | zero => intro c v h1 _ h3; have := hG c; omega
    | succ k ih =>
      intro c v h1 h2 h3
      obtain ⟨hc, h4⟩ := hs c v h2 h3
      refine (h.iff c v h2).2 ⟨hc, ?_⟩
      rcases h4 with h4 | ⟨q, hq, h4⟩
      · exact .inl h4
      · exact .inr ⟨q, hq, ih q (v + 1) (by omega) (by omega) h4⟩
  intro c
  rcases Nat.eq_zero_or_pos (G c) with h0 | h0
  · omega
  · exact key 15 c (G c) (by omega) h0 (Nat.le_refl _)
omit [DecidableEq α] in
/-- What has all that sources and sides give is at least the light. -/
theorem Lights.le_of (h : Lights nb clear own F) (ho : ∀ c, clear c → own c ≤ G c) (hn : ∀ c, clear c → ∀ q ∈ nb c, G q ≤ G c + 1) : ∀ c, F c ≤ G c := by
  have key : ∀ k c v, 16 ≤ v + k → 1 ≤ v → v ≤ F c → v ≤ G c := by
    intro k
    induction k with
    | zero => intro c v h1 _ h3; have := h.le c; omega
    | succ k ih =>
      intro c v h1 h2 h3
      obtain ⟨hc, h4⟩ := (h.iff c v h2).1 h3
      rcases h4 with h4 | ⟨q, hq, h4⟩
      · exact Nat.le_trans h4 (ho c hc)
      · have h5 := ih q (v + 1) (by omega) (by omega) h4
        have h6 := hn c hc q hq
        omega
  intro c
  rcases Nat.eq_zero_or_pos (F c) with h0 | h0
  · omega
  · exact key 15 c (F c) (by omega) h0 (Nat.le_refl _)
omit [DecidableEq α] in
theorem Lights.unique (h : Lights nb clear own F) (h' : Lights nb clear own G) : F = G := by
  funext c
  refine Nat.le_antisymm (h.le_of (fun c hc => h'.own_le hc) (fun c hc q hq => h'.nb_le hc hq) c) (h'.le_of (fun c hc => h.own_le hc) (fun c hc q hq => h.nb_le hc hq) c)
omit [DecidableEq α] in
theorem Lights.mono (h : Lights nb clear own F) (h0 : Lights nb clear0 own0 F0) (hc : ∀ c, clear0 c → clear c) (ho : ∀ c, clear0 c → own0 c ≤ own c) : ∀ c, F0 c ≤ F c :=
  h.ge_of h0.le fun c v h1 h2 => by
    obtain ⟨h3, h4⟩ := (h0.iff c v h1).1 h2
    exact ⟨hc c h3, h4.imp (fun h => Nat.le_trans h (ho c h3)) id⟩

/-! ### darkness -/
/-- What is left when the places of a list are dark. -/
def less (F0 : α → Nat) (D : List α) (c : α) : Nat := if c ∈ D then 0 else F0 c
/-- The dark list, its first i places gone through, and k sides of the next one. -/
structure Dark (nb : α → List α) (F0 : α → Nat) (d : α → α → Nat) (l0 l : List α) (i k : Nat) : Prop where
  nodup : l.Nodup
  pre : ∀ q ∈ l0, q ∈ l
  done : ∀ r ∈ l.take i, ∀ q ∈ nb r, 0 < F0 q → F0 q < F0 r → q ∈ l
  part : ∀ r, l[i]? = some r → ∀ q ∈ (nb r).take k, 0 < F0 q → F0 q < F0 r → q ∈ l
  near : ∀ q ∈ l, ∃ s ∈ l0, d s q + F0 q ≤ F0 s
  lit : ∀ q ∈ l, q ∈ l0 ∨ 0 < F0 q
variable {d : α → α → Nat} {l0 l : List α} {i k : Nat}
omit [DecidableEq α] in
theorem Dark.start (hn : l0.Nodup) (hd : ∀ p, d p p = 0) : Dark nb F0 d l0 l0 0 0 :=
  ⟨hn, fun _ h => h, fun r hr => by simp at hr, fun r _ q hq => by simp at hq, fun q hq => ⟨q, hq, by rw [hd]; omega⟩, fun q hq => .inl hq⟩
omit [DecidableEq α] in
/-- A side that is dark already, or not less lit, or has no light. -/
theorem Dark.skip (h : Dark nb F0 d l0 l i k) {r q : α} (hr : l[i]? = some r) (hq : (nb r)[k]? = some q) (hs : q ∈ l ∨ F0 q = 0 ∨ F0 r ≤ F0 q) : Dark nb F0 d l0 l i (k + 1) := by
  refine ⟨h.nodup, h.pre, h.done, fun r' hr' q' hq' h1 h2 => ?_, h.near, h.lit⟩
  obtain rfl : r = r' := Option.some.inj (hr.symm.trans hr')
  obtain ⟨hk, hke⟩ := List.getElem?_eq_some_iff.1 hq
  rw [List.take_succ_eq_append_getElem hk, List.mem_append, List.mem_singleton, hke] at hq'
  rcases hq' with hq' | rfl
  · exact h.part r hr q' hq' h1 h2
  · rcases hs with hs | hs | hs
    · exact hs
    · omega
    · omega
omit [DecidableEq α] in
/-- A side that becomes dark. -/
theorem Dark.more (h : Dark nb F0 d l0 l i k) (hd : ∀ s r q, q ∈ nb r → d s q ≤ d s r + 1) {r q : α} (hr : l[i]? = some r) (hq : (nb r)[k]? = some q) (hn : q ∉ l) (h0 : 0 < F0 q) (h1 : F0 q < F0 r) : Dark nb F0 d l0 (l ++ [q]) i (k + 1) := by
  have hi : i < l.length := (List.getElem?_eq_some_iff.1 hr).1
  have hr2 : (l ++ [q])[i]? = some r := by rw [List.getElem?_append_left hi]; exact hr
  have ht : (l ++ [q]).take i = l.take i := by rw [List.take_append_of_le_length (by omega)]
  refine ⟨?_, fun x hx => List.mem_append_left _ (h.pre x hx), fun r' hr' q' hq' h2 h3 => ?_, fun r' hr' q' hq' h2 h3 => ?_, fun x hx => ?_, fun x hx => ?_⟩
  · rw [List.nodup_append]
    exact ⟨h.nodup, by simp, fun a ha b hb => by simp at hb; subst hb; exact fun e => hn (e ▸ ha)⟩
  · rw [ht] at hr'
    exact List.mem_append_left _ (h.done r' hr' q' hq' h2 h3)
  · obtain rfl : r = r' := Option.some.inj (hr2.symm.trans hr')
    obtain ⟨hk, hke⟩ := List.getElem?_eq_some_iff.1 hq
    rw [List.take_succ_eq_append_getElem hk, List.mem_append, List.mem_singleton, hke] at hq'
    rcases hq' with hq' | rfl
    · exact List.mem_append_left _ (h.part r hr q' hq' h2 h3)
    · simp
  · rcases List.mem_append.1 hx with hx | hx
    · exact h.near x hx
    · simp at hx
      subst hx
      obtain ⟨s, hs, h2⟩ := h.near r (List.mem_of_getElem? hr)
      have := hd s r x (List.mem_of_getElem? hq)
      exact ⟨s, hs, by omega⟩
  · rcases List.mem_append.1 hx with hx | hx
    · exact h.lit x hx
    · simp at hx; subst hx; exact .inr h0
omit [DecidableEq α] in
theorem Dark.next (h : Dark nb F0 d l0 l i k) {r : α} (hr : l[i]? = some r) (hk : k = (nb r).length) : Dark nb F0 d l0 l (i + 1) 0 := by
  obtain ⟨hi, hie⟩ := List.getElem?_eq_some_iff.1 hr
  refine ⟨h.nodup, h.pre, fun r' hr' q hq h1 h2 => ?_, fun r' hr' q hq => by simp at hq, h.near, h.lit⟩
  rw [List.take_succ_eq_append_getElem hi, List.mem_append, List.mem_singleton, hie] at hr'
  rcases hr' with hr' | rfl
  · exact h.done r' hr' q hq h1 h2
  · exact h.part r' hr q (by rw [hk, List.take_of_length_le (Nat.le_refl _)]; exact hq) h1 h2
/-- Behind darkness what is left is held up. -/
theorem dark_up (h0 : Lights nb clear0 own0 F0) (h : Lights nb clear own F) (hsym : ∀ p q, q ∈ nb p → p ∈ nb q) {D : List α} (hD : ∀ r ∈ D, ∀ q ∈ nb r, 0 < F0 q → F0 q < F0 r → q ∈ D)
    (hC : ∀ c, c ∉ D → clear0 c → clear c ∧ own0 c ≤ own c) : ∀ c, less F0 D c ≤ F c := by
  refine h.ge_of (fun c => ?_) fun c v h1 h2 => ?_
  · unfold less
    split
    · omega
    · exact h0.le c
  · unfold less at h2
    split at h2
    · omega
    · rename_i hc
      obtain ⟨h3, h4⟩ := (h0.iff c (F0 c) (by omega)).1 (Nat.le_refl _)
      obtain ⟨h5, h6⟩ := hC c hc h3
      refine ⟨h5, ?_⟩
      rcases h4 with h4 | ⟨q, hq, h4⟩
      · exact .inl (by omega)
      · refine .inr ⟨q, hq, ?_⟩
        unfold less
        rw [if_neg]
        · omega
        · exact fun hqD => hc (hD q hqD c (hsym c q hq) (by omega) (by omega))
omit [DecidableEq α] in
/-- Where there is more light than there was, a changed place is near. -/
theorem more_near (h0 : Lights nb clear0 own0 F0) (h : Lights nb clear own F) (hd0 : ∀ p, d p p = 0) (hd : ∀ s r q, q ∈ nb r → d s q ≤ d s r + 1) (hsym : ∀ p q, q ∈ nb p → p ∈ nb q) {l0 : List α}
    (hC : ∀ c, c ∉ l0 → clear c → clear0 c ∧ own c ≤ own0 c) : ∀ q, F0 q < F q → ∃ s ∈ l0, d s q + F q ≤ 15 := by
  have key : ∀ k q, 15 ≤ F q + k → F0 q < F q → ∃ s ∈ l0, d s q + F q ≤ 15 := by
    intro k
    induction k with
    | zero =>
      intro q h1 h2
      by_cases hq : q ∈ l0
      · exact ⟨q, hq, by rw [hd0]; have := h.le q; omega⟩
      · exfalso
        obtain ⟨h3, h4⟩ := (h.iff q (F q) (by omega)).1 (Nat.le_refl _)
        obtain ⟨h5, h6⟩ := hC q hq h3
        rcases h4 with h4 | ⟨r, hr, h4⟩
        · have := h0.own_le h5; omega
        · have := h.le r; omega
    | succ k ih =>
      intro q h1 h2
      by_cases hq : q ∈ l0
      · exact ⟨q, hq, by rw [hd0]; have := h.le q; omega⟩
      · obtain ⟨h3, h4⟩ := (h.iff q (F q) (by omega)).1 (Nat.le_refl _)
        obtain ⟨h5, h6⟩ := hC q hq h3
        rcases h4 with h4 | ⟨r, hr, h4⟩
        · have := h0.own_le h5; omega
        · have h7 := h0.nb_le h5 hr
          obtain ⟨s, hs, h8⟩ := ih r (by omega) (by omega)
          have := hd s r q (hsym q r hr)
          exact ⟨s, hs, by omega⟩
  exact fun q h2 => key 15 q (by omega) h2

/-! ### brightness -/
def upd (f : α → Nat) (p : α) (n : Nat) (q : α) : Nat := if q = p then n else f q
theorem upd_same (f : α → Nat) (p : α) (n : Nat) : upd f p n p = n := by simp [upd]
theorem upd_ne (f : α → Nat) {p q : α} (n : Nat) (h : q ≠ p) : upd f p n q = f q := by simp [upd, h]
/-- The first loop: the list's first i places have what they may have of their own and from outside of the list. -/
structure Given (nb : α → List α) (own F cur0 : α → Nat) (l : List α) (i : Nat) (cur : α → Nat) : Prop where
  up : ∀ q, cur q ≤ F q
  mono : ∀ q, cur0 q ≤ cur q
  out : ∀ q, q ∉ l.take i → cur q = cur0 q
  own : ∀ q ∈ l.take i, own q ≤ cur q
  nbr : ∀ q ∈ l.take i, ∀ r ∈ nb q, r ∉ l → cur0 r ≤ cur q + 1
/-- What is reckoned for a place, k of its sides seen. -/
structure Most (nb : α → List α) (own F cur : α → Nat) (p : α) (k n : Nat) : Prop where
  own : own p ≤ n
  has : cur p ≤ n
  nbr : ∀ r ∈ (nb p).take k, cur r ≤ n + 1
  up : n ≤ F p
variable {cur cur0 : α → Nat} {n : Nat}
omit [DecidableEq α] in
theorem Most.start {p : α} (h : Lights nb clear own F) (hu : ∀ q, cur q ≤ F q) (hc : clear p) : Most nb own F cur p 0 (max (own p) (cur p)) :=
  ⟨by omega, by omega, fun r hr => by simp at hr, by have := h.own_le hc; have := hu p; omega⟩
omit [DecidableEq α] in
theorem Most.step {p q : α} (hm : Most nb own F cur p k n) (h : Lights nb clear own F) (hu : ∀ q, cur q ≤ F q) (hc : clear p) (hq : (nb p)[k]? = some q) : Most nb own F cur p (k + 1) (max n (cur q - 1)) := by
  obtain ⟨hk, hke⟩ := List.getElem?_eq_some_iff.1 hq
  refine ⟨by have := hm.own; omega, by have := hm.has; omega, fun r hr => ?_, ?_⟩
  · rw [List.take_succ_eq_append_getElem hk, List.mem_append, List.mem_singleton, hke] at hr
    rcases hr with hr | rfl
    · have := hm.nbr r hr; omega
    · omega
  · have h1 := hm.up
    have h2 := hu q
    have h3 := h.nb_le hc (List.mem_of_getElem? hq)
    omega
omit [DecidableEq α] in
theorem Given.start (hu : ∀ q, cur0 q ≤ F q) : Given nb own F cur0 l 0 cur0 :=
  ⟨hu, fun _ => Nat.le_refl _, fun _ _ => rfl, fun q hq => by simp at hq, fun q hq => by simp at hq⟩
theorem Given.step {p : α} (hg : Given nb own F cur0 l i cur) (hp : l[i]? = some p) (hm : Most nb own F cur p k n) (hk : k = (nb p).length) : Given nb own F cur0 l (i + 1) (upd cur p n) := by
  obtain ⟨hi, hie⟩ := List.getElem?_eq_some_iff.1 hp
  have ht : ∀ x, x ∈ l.take (i + 1) ↔ x ∈ l.take i ∨ x = p := by
    intro x
    rw [List.take_succ_eq_append_getElem hi, List.mem_append, List.mem_singleton, hie]
  refine ⟨fun q => ?_, fun q => ?_, fun q hq => ?_, fun q hq => ?_, fun q hq r hr hrl => ?_⟩
  · by_cases h : q = p
    · subst h; rw [upd_same]; exact hm.up
    · rw [upd_ne _ _ h]; exact hg.up q
  · by_cases h : q = p
    · subst h; rw [upd_same]; exact Nat.le_trans (hg.mono q) hm.has
    · rw [upd_ne _ _ h]; exact hg.mono q
  · rw [ht, not_or] at hq
    rw [upd_ne _ _ hq.2]
    exact hg.out q hq.1
  · by_cases h : q = p
    · subst h; rw [upd_same]; exact hm.own
    · rw [upd_ne _ _ h]; exact hg.own q (((ht q).1 hq).resolve_right h)
  · by_cases h : q = p
    · subst h
      rw [upd_same]
      have h1 := hm.nbr r (by rw [hk, List.take_of_length_le (Nat.le_refl _)]; exact hr)
      have h2 := hg.out r fun h => hrl (List.mem_of_mem_take h)
      omega
    · rw [upd_ne _ _ h]; exact hg.nbr q (((ht q).1 hq).resolve_right h) r hr hrl
/-- The sum of what is still to come, over the places of a list. -/
def lack (F cur : α → Nat) (U : List α) : Nat := (U.map fun u => F u - cur u).sum
theorem lack_upd {U : List α} (hU : U.Nodup) {b : α} (hb : b ∈ U) (h1 : cur b < n) (h2 : n ≤ F b) : lack F (upd cur b n) U + 1 ≤ lack F cur U := by
  unfold lack
  induction U with
  | nil => cases hb
  | cons u U ih =>
    simp only [List.map_cons, List.sum_cons]
    rw [List.nodup_cons] at hU
    by_cases e : u = b
    · subst e
      rw [upd_same]
      have : (U.map fun v => F v - upd cur u n v) = U.map fun v => F v - cur v := by
        refine List.map_congr_left fun v hv => ?_
        rw [upd_ne _ _ (fun e => hU.1 (by rw [← e]; exact hv))]
      rw [this]
      omega
    · have := ih hU.2 ((List.mem_cons.1 hb).resolve_left (fun h => e h.symm))
      rw [upd_ne _ _ e]
      omega
/-- The second loop: the first i places of the list have given, the next one to k of its sides. -/
structure Spread (nb : α → List α) (clear : α → Prop) (own F cur0 : α → Nat) (U l : List α) (B : Nat) (L : List α) (i k : Nat) (cur : α → Nat) : Prop where
  up : ∀ q, cur q ≤ F q
  mono : ∀ q, cur0 q ≤ cur q
  own : ∀ q, clear q → own q ≤ cur q
  edge : ∀ a, ∀ b ∈ nb a, clear b → cur a ≤ cur b + 1 ∨ a ∈ L.drop (i + 1) ∨ (L[i]? = some a ∧ b ∉ (nb a).take k)
  room : L.length + lack F cur U ≤ B
  clr : ∀ q ∈ L, clear q
  new : ∀ q ∈ L, q ∈ l ∨ cur0 q < F q
variable {U L : List α} {B : Nat}
theorem Spread.start (hg : Given nb own F cur0 l l.length cur) (hcl : ∀ q ∈ l, clear q) (hown : ∀ q, clear q → q ∉ l → own q ≤ cur0 q) (hed : ∀ a, ∀ b ∈ nb a, clear b → b ∉ l → cur0 a ≤ cur0 b + 1) (hsym : ∀ p q, q ∈ nb p → p ∈ nb q) (hB : l.length + lack F cur U ≤ B) :
    Spread nb clear own F cur0 U l B l 0 0 cur := by
  have ht : l.take l.length = l := List.take_of_length_le (Nat.le_refl _)
  refine ⟨hg.up, hg.mono, fun q hq => ?_, fun a b hb hc => ?_, hB, hcl, fun q hq => .inl hq⟩
  · by_cases h : q ∈ l
    · exact hg.own q (by rw [ht]; exact h)
    · exact Nat.le_trans (hown q hq h) (hg.mono q)
  · by_cases ha : a ∈ l
    · cases l with
      | nil => cases ha
      | cons x xs =>
        rcases List.mem_cons.1 ha with rfl | ha
        · exact .inr (.inr ⟨rfl, by simp⟩)
        · exact .inr (.inl (by simpa using ha))
    · refine .inl ?_
      have h1 := hg.out a (by rw [ht]; exact ha)
      by_cases hbl : b ∈ l
      · have := hg.nbr b (by rw [ht]; exact hbl) a (hsym a b hb) ha
        omega
      · have h2 := hed a b hb hc hbl
        have h3 := hg.mono b
        omega
omit [DecidableEq α] in
theorem Spread.skip {a b : α} (h : Spread nb clear own F cur0 U l B L i k cur) (ha : L[i]? = some a) (hb : (nb a)[k]? = some b) (hs : clear b → cur a ≤ cur b + 1) : Spread nb clear own F cur0 U l B L i (k + 1) cur := by
  obtain ⟨hk, hke⟩ := List.getElem?_eq_some_iff.1 hb
  refine ⟨h.up, h.mono, h.own, fun a' b' hb' hc => ?_, h.room, h.clr, h.new⟩
  rcases h.edge a' b' hb' hc with h1 | h1 | ⟨h1, h2⟩
  · exact .inl h1
  · exact .inr (.inl h1)
  · obtain rfl : a = a' := Option.some.inj (ha.symm.trans h1)
    by_cases e : b' = b
    · subst e; exact .inl (hs hc)
    · refine .inr (.inr ⟨h1, fun hm => ?_⟩)
      rw [List.take_succ_eq_append_getElem hk, List.mem_append, List.mem_singleton, hke] at hm
      exact hm.elim h2 e
theorem Spread.more {a b : α} (h : Spread nb clear own F cur0 U l B L i k cur) (hl : Lights nb clear own F) (hirr : ∀ p, p ∉ nb p) (hsym : ∀ p q, q ∈ nb p → p ∈ nb q) (hU : U.Nodup) (hbU : b ∈ U) (ha : L[i]? = some a) (hb : (nb a)[k]? = some b) (hc : clear b) (hlt : cur b < cur a - 1) :
    Spread nb clear own F cur0 U l B (L ++ [b]) i (k + 1) (upd cur b (cur a - 1)) := by
  obtain ⟨hk, hke⟩ := List.getElem?_eq_some_iff.1 hb
  have hbm := List.mem_of_getElem? hb
  have hi : i < L.length := (List.getElem?_eq_some_iff.1 ha).1
  have hF : cur a - 1 ≤ F b := by have h1 := h.up a; have h2 := hl.nb_le hc (hsym a b hbm); omega
  have hge : ∀ q, cur q ≤ upd cur b (cur a - 1) q := fun q => by
    by_cases e : q = b
    · subst e; rw [upd_same]; omega
    · rw [upd_ne _ _ e]; exact Nat.le_refl _
  have ha2 : (L ++ [b])[i]? = some a := by rw [List.getElem?_append_left hi]; exact ha
  have hne : a ≠ b := fun e => hirr a (by rw [e] at hbm ⊢; exact hbm)
  refine ⟨fun q => ?_, fun q => Nat.le_trans (h.mono q) (hge q), fun q hq => Nat.le_trans (h.own q hq) (hge q), fun a' b' hb' hc' => ?_, ?_, fun q hq => ?_, fun q hq => ?_⟩
  · by_cases e : q = b
    · subst e; rw [upd_same]; exact hF
    · rw [upd_ne _ _ e]; exact h.up q
  · by_cases e : a' = b
    · subst e
      exact .inr (.inl (by rw [List.drop_append_of_le_length (by omega)]; simp))
    · rw [upd_ne _ _ e]
      rcases h.edge a' b' hb' hc' with h1 | h1 | ⟨h1, h2⟩
      · exact .inl (Nat.le_trans h1 (Nat.add_le_add_right (hge b') 1))
      · exact .inr (.inl (by rw [List.drop_append_of_le_length (by omega)]; exact List.mem_append_left _ h1))
      · obtain rfl : a = a' := Option.some.inj (ha.symm.trans h1)
        by_cases e2 : b' = b
        · subst e2; rw [upd_same]; exact .inl (by omega)
        · refine .inr (.inr ⟨ha2, fun hm => ?_⟩)
          rw [List.take_succ_eq_append_getElem hk, List.mem_append, List.mem_singleton, hke] at hm
          exact hm.elim h2 e2
  · have h1 := h.room
    have h2 := lack_upd (F := F) hU hbU hlt hF
    rw [List.length_append, List.length_singleton]
    omega
  · rcases List.mem_append.1 hq with hq | hq
    · exact h.clr q hq
    · simp at hq; subst hq; exact hc
  · rcases List.mem_append.1 hq with hq | hq
    · exact h.new q hq
    · simp at hq; subst hq; have h1 := h.mono q; exact .inr (by omega)
omit [DecidableEq α] in
theorem Spread.next {a : α} (h : Spread nb clear own F cur0 U l B L i k cur) (ha : L[i]? = some a) (hk : k = (nb a).length ∨ cur a ≤ 1) : Spread nb clear own F cur0 U l B L (i + 1) 0 cur := by
  refine ⟨h.up, h.mono, h.own, fun a' b' hb' hc => ?_, h.room, h.clr, h.new⟩
  rcases h.edge a' b' hb' hc with h1 | h1 | ⟨h1, h2⟩
  · exact .inl h1
  · by_cases hn : L[i + 1]? = some a'
    · exact .inr (.inr ⟨hn, by simp⟩)
    · refine .inr (.inl ?_)
      rcases Nat.lt_or_ge (i + 1) L.length with hl | hl
      · rw [List.drop_eq_getElem_cons hl] at h1
        rcases List.mem_cons.1 h1 with h1 | h1
        · exact absurd (by rw [List.getElem?_eq_getElem hl, h1]) hn
        · exact h1
      · rw [List.drop_eq_nil_of_le hl] at h1; cases h1
  · obtain rfl : a = a' := Option.some.inj (ha.symm.trans h1)
    rcases hk with rfl | hk
    · exact absurd (by rw [List.take_of_length_le (Nat.le_refl _)]; exact hb') h2
    · exact .inl (by omega)
omit [DecidableEq α] in
theorem Spread.finish (h : Spread nb clear own F cur0 U l B L i 0 cur) (hl : Lights nb clear own F) (hsym : ∀ p q, q ∈ nb p → p ∈ nb q) (hi : L.length ≤ i) : cur = F := by
  funext c
  refine Nat.le_antisymm (h.up c) (hl.le_of h.own (fun c hc q hq => ?_) c)
  rcases h.edge q c (hsym c q hq) hc with h1 | h1 | ⟨h1, _⟩
  · exact h1
  · rw [List.drop_eq_nil_of_le (by omega)] at h1; cases h1
  · rw [List.getElem?_eq_none hi] at h1; cases h1
end
end Go.Proofs.Ytlhjjmfbifhgfaa
/- Places, their sides, how far they are apart; boxes: plain laws. -/
namespace Go.Proofs.Ytlhjjmfbifhgfaa
set_option linter.unusedSimpArgs false
set_option linter.unusedVariables false

/-- A place: X, Y, Z. -/
abbrev Pl := Int × Int × Int
def mayP (p : Pl) : Bool := decide (-1048576 ≤ p.1) && decide (p.1 < 1048576) && decide (-1048576 ≤ p.2.2) && decide (p.2.2 < 1048576) && decide (0 ≤ p.2.1) && decide (p.2.1 < 64)
theorem mayP_iff {p : Pl} : mayP p = true ↔ -1048576 ≤ p.1 ∧ p.1 < 1048576 ∧ -1048576 ≤ p.2.2 ∧ p.2.2 < 1048576 ∧ 0 ≤ p.2.1 ∧ p.2.1 < 64 := by
  simp [mayP, and_assoc]
/-- One step: east, west, south, north, up, down. -/
def moveP (p : Pl) : Nat → Pl
  | 0 => (p.1 + 1, p.2.1, p.2.2)
  | 1 => (p.1 - 1, p.2.1, p.2.2)
  | 2 => (p.1, p.2.1, p.2.2 + 1)
  | 3 => (p.1, p.2.1, p.2.2 - 1)
  | 4 => (p.1, p.2.1 + 1, p.2.2)
  | _ => (p.1, p.2.1 - 1, p.2.2)
def stepP (p : Pl) (dir : Nat) : Option Pl := if mayP p && mayP (moveP p dir) then some (moveP p dir) else none
def sidesP (p : Pl) : List Pl := (List.range 6).filterMap (stepP p)
theorem stepP_some {p q : Pl} {k : Nat} (h : stepP p k = some q) : mayP p = true ∧ mayP q = true ∧ q = moveP p k := by
  unfold stepP at h
  split at h
  · rename_i hc
    injection h with h
    subst h
    rw [Bool.and_eq_true] at hc
    exact ⟨hc.1, hc.2, rfl⟩
  · cases h
theorem sidesP_mem {p q : Pl} : q ∈ sidesP p ↔ ∃ k, k < 6 ∧ stepP p k = some q := by
  unfold sidesP
  simp [List.mem_filterMap]
theorem sidesP_iff {p q : Pl} : q ∈ sidesP p ↔ mayP p = true ∧ mayP q = true ∧ ∃ k, k < 6 ∧ q = moveP p k := by
  rw [sidesP_mem]
  constructor
  · rintro ⟨k, hk, h⟩
    obtain ⟨h1, h2, h3⟩ := stepP_some h
    exact ⟨h1, h2, k, hk, h3⟩
  · rintro ⟨h1, h2, k, hk, rfl⟩
    exact ⟨k, hk, by unfold stepP; rw [h1, h2]; rfl⟩
theorem sides_sym (p q : Pl) (h : q ∈ sidesP p) : p ∈ sidesP q := by
  rw [sidesP_iff] at h ⊢
  obtain ⟨h1, h2, k, hk, rfl⟩ := h
  refine ⟨h2, h1, ?_⟩
  obtain ⟨x, y, z⟩ := p
  match k, hk with
  | 0, _ => exact ⟨1, by omega, by simp [moveP]⟩
  | 1, _ => exact ⟨0, by omega, by simp [moveP]⟩
  | 2, _ => exact ⟨3, by omega, by simp [moveP]⟩
  | 3, _ => exact ⟨2, by omega, by simp [moveP]⟩
  | 4, _ => exact ⟨5, by omega, by simp [moveP]⟩
  | 5, _ => exact ⟨4, by omega, by simp [moveP]⟩
theorem sides_irr (p : Pl) : p ∉ sidesP p := by
  rw [sidesP_iff]
  rintro ⟨_, _, k, hk, h⟩
  obtain ⟨x, y, z⟩ := p
  match k, hk with
  | 0, _ => simp [moveP] at h; omega
  | 1, _ => simp [moveP] at h; omega
  | 2, _ => simp [moveP] at h; omega
  | 3, _ => simp [moveP] at h; omega
  | 4, _ => simp [moveP] at h; omega
  | 5, _ => simp [moveP] at h; omega
/-- How far two places are apart. -/
def farP (a b : Pl) : Nat := (a.1 - b.1).natAbs + (a.2.1 - b.2.1).natAbs + (a.2.2 - b.2.2).natAbs
theorem farP_self (p : Pl) : farP p p = 0 := by simp [farP]
theorem farP_comm (p q : Pl) : farP p q = farP q p := by unfold farP; omega
theorem farP_side (s r q : Pl) (h : q ∈ sidesP r) : farP s q ≤ farP s r + 1 := by
  obtain ⟨_, _, k, hk, rfl⟩ := sidesP_iff.1 h
  obtain ⟨x, y, z⟩ := r
  obtain ⟨a, b, c⟩ := s
  match k, hk with
  | 0, _ => simp only [farP, moveP]; omega
  | 1, _ => simp only [farP, moveP]; omega
  | 2, _ => simp only [farP, moveP]; omega
  | 3, _ => simp only [farP, moveP]; omega
  | 4, _ => simp only [farP, moveP]; omega
  | 5, _ => simp only [farP, moveP]; omega

/-! ### boxes -/
/-- A box: its low place, its sides' lengths. -/
structure Bx where
  lo : Pl
  X : Nat
  Y : Nat
  Z : Nat
structure Bx.Ok (b : Bx) : Prop where
  x1 : 1 ≤ b.X
  x8 : b.X ≤ 8
  y1 : 1 ≤ b.Y
  y16 : b.Y ≤ 16
  z1 : 1 ≤ b.Z
  z8 : b.Z ≤ 8
  lx : -1048576 ≤ b.lo.1
  hx : b.lo.1 + b.X ≤ 1048576
  ly : 0 ≤ b.lo.2.1
  hy : b.lo.2.1 + b.Y ≤ 64
  lz : -1048576 ≤ b.lo.2.2
  hz : b.lo.2.2 + b.Z ≤ 1048576
def Bx.inside (b : Bx) (p : Pl) : Prop := b.lo.1 ≤ p.1 ∧ p.1 < b.lo.1 + b.X ∧ b.lo.2.1 ≤ p.2.1 ∧ p.2.1 < b.lo.2.1 + b.Y ∧ b.lo.2.2 ≤ p.2.2 ∧ p.2.2 < b.lo.2.2 + b.Z
instance (b : Bx) (p : Pl) : Decidable (b.inside p) := by unfold Bx.inside; infer_instance
def Bx.idx (b : Bx) (p : Pl) : Nat := (((p.2.1 - b.lo.2.1) * b.Z + (p.2.2 - b.lo.2.2)) * b.X + (p.1 - b.lo.1)).toNat
def Bx.at_ (b : Bx) (i : Nat) : Pl := (b.lo.1 + ((i % b.X : Nat) : Int), b.lo.2.1 + ((i / (b.X * b.Z) : Nat) : Int), b.lo.2.2 + ((i / b.X % b.Z : Nat) : Int))
def Bx.size (b : Bx) : Nat := b.X * b.Y * b.Z
/-- Index of coordinates. -/
def Bx.ix (b : Bx) (x y z : Nat) : Nat := (y * b.Z + z) * b.X + x
theorem Bx.ix_lt (b : Bx) {x y z : Nat} (hx : x < b.X) (hy : y < b.Y) (hz : z < b.Z) : b.ix x y z < b.size := by
  unfold Bx.ix Bx.size
  have h1 : y * b.Z + z < b.Y * b.Z := by
    have : (y + 1) * b.Z ≤ b.Y * b.Z := Nat.mul_le_mul_right _ hy
    rw [Nat.add_mul] at this
    omega
  have h2 : (y * b.Z + z + 1) * b.X ≤ b.Y * b.Z * b.X := Nat.mul_le_mul_right _ h1
  rw [Nat.add_mul] at h2
  have h3 : b.Y * b.Z * b.X = b.X * b.Y * b.Z := by rw [Nat.mul_comm (b.Y * b.Z) b.X, Nat.mul_assoc]
  omega
theorem Bx.ix_x (b : Bx) {x y z : Nat} (hx : x < b.X) : b.ix x y z % b.X = x := by
  unfold Bx.ix
  rw [Nat.add_comm, Nat.add_mul_mod_self_right, Nat.mod_eq_of_lt hx]
theorem Bx.ix_yz (b : Bx) {x y z : Nat} (hx : x < b.X) : b.ix x y z / b.X = y * b.Z + z := by
  unfold Bx.ix
  rw [Nat.add_comm, Nat.add_mul_div_right _ _ (by omega), Nat.div_eq_of_lt hx, Nat.zero_add]
theorem Bx.ix_z (b : Bx) {x y z : Nat} (hx : x < b.X) (hz : z < b.Z) : b.ix x y z / b.X % b.Z = z := by
  rw [b.ix_yz hx, Nat.add_comm, Nat.add_mul_mod_self_right, Nat.mod_eq_of_lt hz]
theorem Bx.ix_y (b : Bx) {x y z : Nat} (hx : x < b.X) (hz : z < b.Z) : b.ix x y z / (b.X * b.Z) = y := by
  rw [← Nat.div_div_eq_div_mul, b.ix_yz hx, Nat.add_comm, Nat.add_mul_div_right _ _ (by omega), Nat.div_eq_of_lt hz, Nat.zero_add]
/-- A place of coordinates. -/
def Bx.pl (b : Bx) (x y z : Nat) : Pl := (b.lo.1 + x, b.lo.2.1 + y, b.lo.2.2 + z)
theorem Bx.at_ix (b : Bx) {x y z : Nat} (hx : x < b.X) (hz : z < b.Z) : b.at_ (b.ix x y z) = b.pl x y z := by
  unfold Bx.at_ Bx.pl
  rw [b.ix_x hx, b.ix_y hx hz, b.ix_z hx hz]
theorem Bx.idx_pl (b : Bx) (x y z : Nat) : b.idx (b.pl x y z) = b.ix x y z := by
  unfold Bx.idx Bx.pl Bx.ix
  simp only
  rw [show b.lo.2.1 + (y : Int) - b.lo.2.1 = (y : Int) from by omega, show b.lo.2.2 + (z : Int) - b.lo.2.2 = (z : Int) from by omega, show b.lo.1 + (x : Int) - b.lo.1 = (x : Int) from by omega]
  rw [show ((y : Int) * b.Z + z) * b.X + x = (((y * b.Z + z) * b.X + x : Nat) : Int) from by push_cast; rfl]
  rfl
theorem Bx.inside_pl (b : Bx) {p : Pl} : b.inside p ↔ ∃ x y z, x < b.X ∧ y < b.Y ∧ z < b.Z ∧ p = b.pl x y z := by
  unfold Bx.inside Bx.pl
  constructor
  · rintro ⟨h1, h2, h3, h4, h5, h6⟩
    refine ⟨(p.1 - b.lo.1).toNat, (p.2.1 - b.lo.2.1).toNat, (p.2.2 - b.lo.2.2).toNat, by omega, by omega, by omega, ?_⟩
    obtain ⟨x, y, z⟩ := p
    simp only at *
    rw [show b.lo.1 + ((x - b.lo.1).toNat : Int) = x from by omega, show b.lo.2.1 + ((y - b.lo.2.1).toNat : Int) = y from by omega, show b.lo.2.2 + ((z - b.lo.2.2).toNat : Int) = z from by omega]
  · rintro ⟨x, y, z, hx, hy, hz, rfl⟩
    simp only
    omega
/-- An index's coordinates. -/
theorem Bx.ix_of (b : Bx) {i : Nat} (hi : i < b.size) : ∃ x y z, x < b.X ∧ y < b.Y ∧ z < b.Z ∧ i = b.ix x y z := by
  unfold Bx.size at hi
  have hX : 0 < b.X := Nat.pos_of_ne_zero fun e => by rw [e] at hi; simp at hi
  have hZ : 0 < b.Z := Nat.pos_of_ne_zero fun e => by rw [e] at hi; simp at hi
  refine ⟨i % b.X, i / b.X / b.Z, i / b.X % b.Z, Nat.mod_lt _ hX, ?_, Nat.mod_lt _ hZ, ?_⟩
  · rw [Nat.div_div_eq_div_mul]
    refine Nat.div_lt_of_lt_mul ?_
    have : b.X * b.Y * b.Z = b.X * b.Z * b.Y := by rw [Nat.mul_assoc, Nat.mul_comm b.Y b.Z, ← Nat.mul_assoc]
    omega
  · unfold Bx.ix
    rw [Nat.div_add_mod' (i / b.X) b.Z, Nat.div_add_mod' i b.X]
theorem Bx.at_inside (b : Bx) {i : Nat} (hi : i < b.size) : b.inside (b.at_ i) := by
  obtain ⟨x, y, z, hx, hy, hz, rfl⟩ := b.ix_of hi
  rw [b.at_ix hx hz]
  exact b.inside_pl.2 ⟨x, y, z, hx, hy, hz, rfl⟩
theorem Bx.idx_at (b : Bx) {i : Nat} (hi : i < b.size) : b.idx (b.at_ i) = i := by
  obtain ⟨x, y, z, hx, hy, hz, rfl⟩ := b.ix_of hi
  rw [b.at_ix hx hz, b.idx_pl]
theorem Bx.idx_lt (b : Bx) {p : Pl} (h : b.inside p) : b.idx p < b.size := by
  obtain ⟨x, y, z, hx, hy, hz, rfl⟩ := b.inside_pl.1 h
  rw [b.idx_pl]
  exact b.ix_lt hx hy hz
theorem Bx.at_idx (b : Bx) {p : Pl} (h : b.inside p) : b.at_ (b.idx p) = p := by
  obtain ⟨x, y, z, hx, hy, hz, rfl⟩ := b.inside_pl.1 h
  rw [b.idx_pl, b.at_ix hx hz]
theorem Bx.inside_may {b : Bx} (ok : b.Ok) {p : Pl} (h : b.inside p) : mayP p = true := by
  have := ok.lx; have := ok.hx; have := ok.ly; have := ok.hy; have := ok.lz; have := ok.hz
  unfold Bx.inside at h
  rw [mayP_iff]
  omega
theorem Bx.size_le {b : Bx} (ok : b.Ok) : b.size ≤ 1024 := by
  unfold Bx.size
  have h1 := Nat.mul_le_mul (Nat.mul_le_mul ok.x8 ok.y16) ok.z8
  omega
/-- All places of a box. -/
def Bx.all (b : Bx) : List Pl := (List.range b.size).map b.at_
theorem Bx.all_mem (b : Bx) {p : Pl} : p ∈ b.all ↔ b.inside p := by
  unfold Bx.all
  rw [List.mem_map]
  constructor
  · rintro ⟨i, hi, rfl⟩
    exact b.at_inside (List.mem_range.1 hi)
  · intro h
    exact ⟨b.idx p, List.mem_range.2 (b.idx_lt h), b.at_idx h⟩
theorem Bx.all_nodup (b : Bx) : b.all.Nodup := by
  unfold Bx.all
  rw [List.nodup_iff_pairwise_ne, List.pairwise_map]
  have hr : ∀ i ∈ List.range b.size, i < b.size := fun i hi => List.mem_range.1 hi
  refine (List.nodup_iff_pairwise_ne.1 List.nodup_range).imp_of_mem fun ha hb hne e => hne ?_
  have := congrArg b.idx e
  rwa [b.idx_at (hr _ ha), b.idx_at (hr _ hb)] at this
end Go.Proofs.Ytlhjjmfbifhgfaa
/- The document's light, round by round, is the least fixpoint: plain laws. -/
namespace Go.Proofs.Ytlhjjmfbifhgfaa
set_option linter.unusedSimpArgs false
set_option linter.unusedVariables false

section
variable (b : Bx) (clr : Nat → Bool) (own : Nat → Nat)
/-- What comes into a cell from its sides. -/
def fromN (l : Nat → Nat) (x y z : Nat) : Nat :=
  let a := b.ix x y z
  let b1 := if 0 < x then max 0 (l (a - 1) - 1) else 0
  let b2 := if x + 1 < b.X then max b1 (l (a + 1) - 1) else b1
  let b3 := if 0 < z then max b2 (l (a - b.X) - 1) else b2
  let b4 := if z + 1 < b.Z then max b3 (l (a + b.X) - 1) else b3
  let b5 := if 0 < y then max b4 (l (a - b.X * b.Z) - 1) else b4
  if y + 1 < b.Y then max b5 (l (a + b.X * b.Z) - 1) else b5
/-- One round. -/
def nextN (l : Nat → Nat) (i : Nat) : Nat := if clr i then max (own i) (fromN b l (i % b.X) (i / (b.X * b.Z)) (i / b.X % b.Z)) else 0
def roundN : Nat → Nat → Nat
  | 0 => own
  | k + 1 => nextN b clr own (roundN k)
end
theorem ix_x1 (b : Bx) (x y z : Nat) (h : 0 < x) : b.ix x y z - 1 = b.ix (x - 1) y z := by unfold Bx.ix; omega
theorem ix_x2 (b : Bx) (x y z : Nat) : b.ix x y z + 1 = b.ix (x + 1) y z := by unfold Bx.ix; omega
theorem ix_z2 (b : Bx) (x y z : Nat) : b.ix x y z + b.X = b.ix x y (z + 1) := by
  unfold Bx.ix
  have h : (y * b.Z + (z + 1)) * b.X = (y * b.Z + z) * b.X + b.X := by rw [← Nat.add_assoc, Nat.add_mul (y * b.Z + z) 1, Nat.one_mul]
  omega
theorem ix_z1 (b : Bx) (x y z : Nat) (h : 0 < z) : b.ix x y z - b.X = b.ix x y (z - 1) := by
  have := ix_z2 b x y (z - 1)
  rw [show z - 1 + 1 = z from by omega] at this
  omega
theorem ix_y2 (b : Bx) (x y z : Nat) : b.ix x y z + b.X * b.Z = b.ix x (y + 1) z := by
  unfold Bx.ix
  have h : ((y + 1) * b.Z + z) * b.X = (y * b.Z + z) * b.X + b.X * b.Z := by
    rw [Nat.add_mul y 1, Nat.one_mul, show y * b.Z + b.Z + z = (y * b.Z + z) + b.Z from by omega, Nat.add_mul, Nat.mul_comm b.Z b.X]
  omega
theorem ix_y1 (b : Bx) (x y z : Nat) (h : 0 < y) : b.ix x y z - b.X * b.Z = b.ix x (y - 1) z := by
  have := ix_y2 b x (y - 1) z
  rw [show y - 1 + 1 = y from by omega] at this
  omega
theorem max_if {c : Prop} [Decidable c] {a t v : Nat} (hv : 1 ≤ v) : v ≤ (if c then max a (t - 1) else a) ↔ v ≤ a ∨ (c ∧ v + 1 ≤ t) := by
  by_cases h : c
  · rw [if_pos h]
    constructor
    · intro h1
      rcases Nat.lt_or_ge a v with h2 | h2
      · exact .inr ⟨h, by omega⟩
      · exact .inl h2
    · rintro (h1 | ⟨_, h1⟩) <;> omega
  · rw [if_neg h]
    exact ⟨.inl, fun h1 => h1.elim id fun h1 => absurd h1.1 h⟩
theorem fromN_ge {b : Bx} {l : Nat → Nat} {x y z v : Nat} (hv : 1 ≤ v) : v ≤ fromN b l x y z ↔
    (0 < x ∧ v + 1 ≤ l (b.ix (x - 1) y z)) ∨ (x + 1 < b.X ∧ v + 1 ≤ l (b.ix (x + 1) y z)) ∨ (0 < z ∧ v + 1 ≤ l (b.ix x y (z - 1))) ∨ (z + 1 < b.Z ∧ v + 1 ≤ l (b.ix x y (z + 1))) ∨
      (0 < y ∧ v + 1 ≤ l (b.ix x (y - 1) z)) ∨ (y + 1 < b.Y ∧ v + 1 ≤ l (b.ix x (y + 1) z)) := by
  unfold fromN
  simp only
  rw [max_if hv, max_if hv, max_if hv, max_if hv, max_if hv, ix_x2, ix_z2, ix_y2]
  have e1 : v ≤ (if 0 < x then max 0 (l (b.ix x y z - 1) - 1) else 0) ↔ (0 < x ∧ v + 1 ≤ l (b.ix (x - 1) y z)) := by
    rw [max_if hv]
    constructor
    · rintro (h | ⟨h1, h2⟩)
      · omega
      · rw [ix_x1 b x y z h1] at h2; exact ⟨h1, h2⟩
    · rintro ⟨h1, h2⟩
      exact .inr ⟨h1, by rw [ix_x1 b x y z h1]; exact h2⟩
  have e3 : (0 < z ∧ v + 1 ≤ l (b.ix x y z - b.X)) ↔ (0 < z ∧ v + 1 ≤ l (b.ix x y (z - 1))) := and_congr_right fun h => by rw [ix_z1 b x y z h]
  have e5 : (0 < y ∧ v + 1 ≤ l (b.ix x y z - b.X * b.Z)) ↔ (0 < y ∧ v + 1 ≤ l (b.ix x (y - 1) z)) := and_congr_right fun h => by rw [ix_y1 b x y z h]
  rw [e1, e3, e5]
  constructor
  · rintro (((((h | h) | h) | h) | h) | h)
    · exact .inl h
    · exact .inr (.inl h)
    · exact .inr (.inr (.inl h))
    · exact .inr (.inr (.inr (.inl h)))
    · exact .inr (.inr (.inr (.inr (.inl h))))
    · exact .inr (.inr (.inr (.inr (.inr h))))
  · rintro (h | h | h | h | h | h)
    · exact .inl (.inl (.inl (.inl (.inl h))))
    · exact .inl (.inl (.inl (.inl (.inr h))))
    · exact .inl (.inl (.inl (.inr h)))
    · exact .inl (.inl (.inr h))
    · exact .inl (.inr h)
    · exact .inr h
/-- Values of the indices, as values of places. -/
def spread (b : Bx) (l : Nat → Nat) (p : Pl) : Nat := if b.inside p then l (b.idx p) else 0
theorem spread_pl (b : Bx) (l : Nat → Nat) {x y z : Nat} (hx : x < b.X) (hy : y < b.Y) (hz : z < b.Z) : spread b l (b.pl x y z) = l (b.ix x y z) := by
  unfold spread
  rw [if_pos (b.inside_pl.2 ⟨x, y, z, hx, hy, hz, rfl⟩), b.idx_pl]
theorem spread_pos {b : Bx} {l : Nat → Nat} {p : Pl} {v : Nat} (h : v + 1 ≤ spread b l p) : b.inside p := by
  unfold spread at h
  split at h
  · assumption
  · omega
theorem fromN_sides {b : Bx} (ok : b.Ok) {l : Nat → Nat} {x y z v : Nat} (hx : x < b.X) (hy : y < b.Y) (hz : z < b.Z) (hv : 1 ≤ v) : v ≤ fromN b l x y z ↔ ∃ q ∈ sidesP (b.pl x y z), v + 1 ≤ spread b l q := by
  have hin : b.inside (b.pl x y z) := b.inside_pl.2 ⟨x, y, z, hx, hy, hz, rfl⟩
  have hm := Bx.inside_may ok hin
  rw [fromN_ge hv]
  constructor
  · have key : ∀ x' y' z', x' < b.X → y' < b.Y → z' < b.Z → v + 1 ≤ l (b.ix x' y' z') → (∃ k, k < 6 ∧ b.pl x' y' z' = moveP (b.pl x y z) k) → ∃ q ∈ sidesP (b.pl x y z), v + 1 ≤ spread b l q := by
      intro x' y' z' h1 h2 h3 h4 h5
      refine ⟨b.pl x' y' z', sidesP_iff.2 ⟨hm, Bx.inside_may ok (b.inside_pl.2 ⟨_, _, _, h1, h2, h3, rfl⟩), h5⟩, ?_⟩
      rw [spread_pl b l h1 h2 h3]
      exact h4
    rintro (⟨h1, h2⟩ | ⟨h1, h2⟩ | ⟨h1, h2⟩ | ⟨h1, h2⟩ | ⟨h1, h2⟩ | ⟨h1, h2⟩)
    · exact key (x - 1) y z (by omega) hy hz h2 ⟨1, by omega, by simp [Bx.pl, moveP]; omega⟩
    · exact key (x + 1) y z h1 hy hz h2 ⟨0, by omega, by simp [Bx.pl, moveP]; omega⟩
    · exact key x y (z - 1) hx hy (by omega) h2 ⟨3, by omega, by simp [Bx.pl, moveP]; omega⟩
    · exact key x y (z + 1) hx hy h1 h2 ⟨2, by omega, by simp [Bx.pl, moveP]; omega⟩
    · exact key x (y - 1) z hx (by omega) hz h2 ⟨5, by omega, by simp [Bx.pl, moveP]; omega⟩
    · exact key x (y + 1) z hx h1 hz h2 ⟨4, by omega, by simp [Bx.pl, moveP]; omega⟩
  · rintro ⟨q, hq, hv2⟩
    have hqi := spread_pos hv2
    obtain ⟨x', y', z', h1, h2, h3, rfl⟩ := b.inside_pl.1 hqi
    rw [spread_pl b l h1 h2 h3] at hv2
    obtain ⟨_, _, k, hk, hq⟩ := sidesP_iff.1 hq
    match k, hk with
    | 0, _ =>
      simp only [Bx.pl, moveP, Prod.mk.injEq] at hq
      obtain rfl : x' = x + 1 := by omega
      obtain rfl : y' = y := by omega
      obtain rfl : z' = z := by omega
      exact .inr (.inl ⟨h1, hv2⟩)
    | 1, _ =>
      simp only [Bx.pl, moveP, Prod.mk.injEq] at hq
      obtain rfl : x' = x - 1 := by omega
      obtain rfl : y' = y := by omega
      obtain rfl : z' = z := by omega
      exact .inl ⟨by omega, hv2⟩
    | 2, _ =>
      simp only [Bx.pl, moveP, Prod.mk.injEq] at hq
      obtain rfl : x' = x := by omega
      obtain rfl : y' = y := by omega
      obtain rfl : z' = z + 1 := by omega
      exact .inr (.inr (.inr (.inl ⟨h3, hv2⟩)))
    | 3, _ =>
      simp only [Bx.pl, moveP, Prod.mk.injEq] at hq
      obtain rfl : x' = x := by omega
      obtain rfl : y' = y := by omega
      obtain rfl : z' = z - 1 := by omega
      exact .inr (.inr (.inl ⟨by omega, hv2⟩))
    | 4, _ =>
      simp only [Bx.pl, moveP, Prod.mk.injEq] at hq
      obtain rfl : x' = x := by omega
      obtain rfl : y' = y + 1 := by omega
      obtain rfl : z' = z := by omega
      exact .inr (.inr (.inr (.inr (.inr ⟨h2, hv2⟩))))
    | 5, _ =>
      simp only [Bx.pl, moveP, Prod.mk.injEq] at hq
      obtain rfl : x' = x := by omega
      obtain rfl : y' = y - 1 := by omega
      obtain rfl : z' = z := by omega
      exact .inr (.inr (.inr (.inr (.inl ⟨by omega, hv2⟩))))
/-- The clear places of a box. -/
def clearAt (b : Bx) (clr : Nat → Bool) (p : Pl) : Prop := b.inside p ∧ clr (b.idx p) = true
theorem next_iff {b : Bx} (ok : b.Ok) {clr : Nat → Bool} {own l : Nat → Nat} {p : Pl} {v : Nat} (hv : 1 ≤ v) : v ≤ spread b (nextN b clr own l) p ↔ clearAt b clr p ∧ (v ≤ spread b own p ∨ ∃ q ∈ sidesP p, v + 1 ≤ spread b l q) := by
  by_cases hin : b.inside p
  · obtain ⟨x, y, z, hx, hy, hz, rfl⟩ := b.inside_pl.1 hin
    rw [← fromN_sides ok hx hy hz hv, spread_pl b _ hx hy hz, spread_pl b _ hx hy hz]
    unfold nextN clearAt
    rw [b.ix_x hx, b.ix_y hx hz, b.ix_z hx hz, b.idx_pl]
    by_cases hc : clr (b.ix x y z) = true
    · rw [if_pos hc]
      constructor
      · intro h; exact ⟨⟨hin, hc⟩, by omega⟩
      · rintro ⟨_, h⟩; omega
    · rw [if_neg hc]
      constructor
      · intro h; omega
      · rintro ⟨⟨_, h⟩, _⟩; exact absurd h hc
  · constructor
    · intro h
      have h2 : spread b (nextN b clr own l) p = 0 := if_neg hin
      omega
    · rintro ⟨⟨h, _⟩, _⟩; exact absurd h hin
theorem round_le {b : Bx} {clr : Nat → Bool} {own : Nat → Nat} (ho : ∀ i, own i ≤ 15) : ∀ k i, roundN b clr own k i ≤ 15
  | 0, i => ho i
  | k + 1, i => by
    unfold roundN nextN
    split
    · have h1 := ho i
      have ih : ∀ j, roundN b clr own k j ≤ 15 := round_le ho k
      have h2 : fromN b (roundN b clr own k) (i % b.X) (i / (b.X * b.Z)) (i / b.X % b.Z) ≤ 15 := by
        rcases Nat.lt_or_ge 15 (fromN b (roundN b clr own k) (i % b.X) (i / (b.X * b.Z)) (i / b.X % b.Z)) with h | h
        · have := (fromN_ge (v := 16) (by omega)).1 h
          rcases this with ⟨_, h⟩ | ⟨_, h⟩ | ⟨_, h⟩ | ⟨_, h⟩ | ⟨_, h⟩ | ⟨_, h⟩ <;> exact absurd (Nat.le_trans h (ih _)) (by omega)
        · exact h
      omega
    · omega
/-- Fifteen rounds are enough. -/
theorem rounds_lights {b : Bx} (ok : b.Ok) {clr : Nat → Bool} {own : Nat → Nat} (ho : ∀ i, own i ≤ 15) : Lights sidesP (clearAt b clr) (spread b own) (spread b (roundN b clr own 15)) := by
  have hle : ∀ k p, spread b (roundN b clr own k) p ≤ 15 := fun k p => by
    unfold spread
    split
    · exact round_le ho k _
    · omega
  have stab : ∀ k p v, 1 ≤ v → 16 ≤ v + k → (v ≤ spread b (roundN b clr own k) p ↔ v ≤ spread b (roundN b clr own (k + 1)) p) := by
    intro k
    induction k with
    | zero =>
      intro p v h1 h2
      have a1 := hle 0 p
      have a2 := hle (0 + 1) p
      constructor <;> intro h <;> omega
    | succ k ih =>
      intro p v h1 h2
      rw [show roundN b clr own (k + 1) = nextN b clr own (roundN b clr own k) from rfl, show roundN b clr own (k + 1 + 1) = nextN b clr own (roundN b clr own (k + 1)) from rfl, next_iff ok h1, next_iff ok h1]
      refine and_congr_right fun _ => or_congr_right (exists_congr fun q => and_congr_right fun _ => ih q (v + 1) (by omega) (by omega))
  refine ⟨hle 15, fun p v hv => ?_⟩
  rw [stab 15 p v hv (by omega), show roundN b clr own (15 + 1) = nextN b clr own (roundN b clr own 15) from rfl, next_iff ok hv]
end Go.Proofs.Ytlhjjmfbifhgfaa
/- The sky's sources, and how they change with one cell: plain laws. -/
namespace Go.Proofs.Ytlhjjmfbifhgfaa
set_option linter.unusedSimpArgs false
set_option linter.unusedVariables false

def upP (p : Pl) (k : Nat) : Pl := (p.1, p.2.1 + (k : Int), p.2.2)
theorem upP_zero (p : Pl) : upP p 0 = p := by simp [upP]
theorem upP_up (p : Pl) (j k : Nat) : upP (upP p j) k = upP p (j + k) := by simp only [upP]; rw [show p.2.1 + (j : Int) + (k : Int) = p.2.1 + ((j + k : Nat) : Int) from by push_cast; omega]
/-- A place of the box that the sky lights: the box goes up to the world's end, and all is clear from the place on up. -/
def litP (b : Bx) (clr : Nat → Bool) (p : Pl) : Prop := b.lo.2.1 + b.Y = 64 ∧ b.inside p ∧ ∀ k : Nat, b.inside (upP p k) → clr (b.idx (upP p k)) = true
theorem litP_clear {b : Bx} {clr : Nat → Bool} {p : Pl} (h : litP b clr p) : clearAt b clr p := ⟨h.2.1, by have := h.2.2 0 (by rw [upP_zero]; exact h.2.1); rwa [upP_zero] at this⟩
noncomputable def skyOwn (b : Bx) (clr : Nat → Bool) (p : Pl) : Nat := by classical exact if litP b clr p then 15 else 0
theorem skyOwn_lit {b : Bx} {clr : Nat → Bool} {p : Pl} (h : litP b clr p) : skyOwn b clr p = 15 := by unfold skyOwn; exact if_pos h
theorem skyOwn_not {b : Bx} {clr : Nat → Bool} {p : Pl} (h : ¬ litP b clr p) : skyOwn b clr p = 0 := by unfold skyOwn; exact if_neg h
theorem sky_lit {b : Bx} {clr : Nat → Bool} {F : Pl → Nat} (h : Lights sidesP (clearAt b clr) (skyOwn b clr) F) (p : Pl) : F p = 15 ↔ litP b clr p := by
  have h15 := h.le p
  have := h.iff p 15 (by omega)
  constructor
  · intro e
    obtain ⟨_, h1⟩ := this.1 (by omega)
    rcases h1 with h1 | ⟨q, _, h1⟩
    · by_cases hl : litP b clr p
      · exact hl
      · rw [skyOwn_not hl] at h1; omega
    · have := h.le q; omega
  · intro hl
    have := this.2 ⟨litP_clear hl, .inl (by rw [skyOwn_lit hl]; exact Nat.le_refl _)⟩
    omega
/-- What lies below a place, k steps. -/
def downP (p : Pl) (k : Nat) : Pl := (p.1, p.2.1 - (k : Int), p.2.2)
theorem downP_zero (p : Pl) : downP p 0 = p := by simp [downP]
theorem inside_down {b : Bx} {p : Pl} {j k : Nat} (h : b.inside p) (hk : b.inside (downP p k)) (hj : j ≤ k) : b.inside (downP p j) := by
  unfold Bx.inside downP at *
  simp only at *
  omega
theorem inside_up {b : Bx} {p : Pl} {j k : Nat} (h : b.inside p) (hk : b.inside (upP p k)) (hj : j ≤ k) : b.inside (upP p j) := by
  unfold Bx.inside upP at *
  simp only at *
  omega
/-- The column below a place: m places, that one included; all but that one are clear. -/
structure ColAt (b : Bx) (clr : Nat → Bool) (p : Pl) (m : Nat) : Prop where
  pos : 1 ≤ m
  clear : ∀ j, 1 ≤ j → j < m → clearAt b clr (downP p j)
def colP (p : Pl) (m : Nat) : List Pl := (List.range m).map (downP p)
theorem colP_mem {p q : Pl} {m : Nat} : q ∈ colP p m ↔ ∃ j, j < m ∧ q = downP p j := by
  unfold colP
  simp only [List.mem_map, List.mem_range]
  exact ⟨fun ⟨j, h1, h2⟩ => ⟨j, h1, h2.symm⟩, fun ⟨j, h1, h2⟩ => ⟨j, h1, h2.symm⟩⟩
theorem colP_nodup (p : Pl) (m : Nat) : (colP p m).Nodup := by
  unfold colP
  rw [List.nodup_iff_pairwise_ne, List.pairwise_map]
  refine (List.nodup_iff_pairwise_ne.1 List.nodup_range).imp fun hne e => hne ?_
  simp only [downP, Prod.mk.injEq] at e
  omega
section
variable {b : Bx} {clr clr0 : Nat → Bool} {p : Pl} {m : Nat}
theorem up_down {p : Pl} {j k : Nat} (h : j ≤ k) : upP (downP p k) j = downP p (k - j) := by
  simp only [upP, downP]
  rw [show p.2.1 - (k : Int) + (j : Int) = p.2.1 - ((k - j : Nat) : Int) from by omega]
theorem up_down2 {p : Pl} {j k : Nat} (h : k ≤ j) : upP (downP p k) j = upP p (j - k) := by
  simp only [upP, downP]
  rw [show p.2.1 - (k : Int) + (j : Int) = p.2.1 + ((j - k : Nat) : Int) from by omega]
/-- Above a lit place, or the world's end, a clear column is lit. -/
theorem col_lit (hcol : ColAt b clr p m) (hp : b.inside p) (htop : b.lo.2.1 + b.Y = 64) (hc : clr (b.idx p) = true) (hup : ∀ k : Nat, 1 ≤ k → b.inside (upP p k) → clr (b.idx (upP p k)) = true) : ∀ q ∈ colP p m, litP b clr q := by
  intro q hq
  obtain ⟨j, hj, rfl⟩ := colP_mem.1 hq
  have hin : b.inside (downP p j) := by
    rcases Nat.eq_zero_or_pos j with rfl | h
    · rw [downP_zero]; exact hp
    · exact (hcol.clear j h hj).1
  refine ⟨htop, hin, fun k hk => ?_⟩
  rcases Nat.lt_or_ge k j with h | h
  · rw [up_down (by omega)]
    exact (hcol.clear (j - k) (by omega) (by omega)).2
  · rw [up_down2 h] at hk ⊢
    rcases Nat.eq_zero_or_pos (j - j + (k - j)) with h0 | h0
    · rw [show k - j = 0 by omega, upP_zero]; exact hc
    · exact hup (k - j) (by omega) hk
theorem col_dark (hp : b.inside p) (hc : clr (b.idx p) = false) : ∀ q ∈ colP p m, ¬ litP b clr q := by
  intro q hq hl
  obtain ⟨j, hj, rfl⟩ := colP_mem.1 hq
  have := hl.2.2 j (by rw [up_down (Nat.le_refl _), Nat.sub_self, downP_zero]; exact hp)
  rw [up_down (Nat.le_refl _), Nat.sub_self, downP_zero, hc] at this
  cases this
theorem idx_ne {b : Bx} {p q : Pl} (hp : b.inside p) (hq : b.inside q) (h : q ≠ p) : b.idx q ≠ b.idx p := fun e => h (by rw [← b.at_idx hq, e, b.at_idx hp])
/-- A place that is not of the changed column is lit as it was. -/
theorem lit_out (hp : b.inside p) (heq : ∀ i, i ≠ b.idx p → clr i = clr0 i) (hend : m = 1 ∨ True) (hcol : ColAt b clr p m) (hlast : ¬ clearAt b clr (downP p m)) {q : Pl} (hq : q ∉ colP p m) : litP b clr q ↔ litP b clr0 q := by
  have hcl : ∀ x, b.inside x → x ≠ p → clr (b.idx x) = clr0 (b.idx x) := fun x hx hne => heq _ (idx_ne hp hx hne)
  -- a place whose column up does not meet p is lit alike; one whose does lies below the column's end
  by_cases hb : ∃ j : Nat, q = downP p j
  · obtain ⟨j, rfl⟩ := hb
    have hjm : m ≤ j := by
      rcases Nat.lt_or_ge j m with h | h
      · exact absurd (colP_mem.2 ⟨j, h, rfl⟩) hq
      · exact h
    have hm1 := hcol.pos
    have hne : downP p m ≠ p := fun e => by simp only [downP] at e; have := congrArg (fun x : Pl => x.2.1) e; simp only at this; omega
    have no : ∀ c : Nat → Bool, (∀ x, b.inside x → x ≠ p → c (b.idx x) = clr (b.idx x)) → ¬ litP b c (downP p j) := by
      intro c hc hl
      have hin : b.inside (downP p m) := by
        have h1 := hl.2.1
        unfold Bx.inside downP at *
        simp only at *
        omega
      have h2 := hl.2.2 (j - m) (by rw [up_down (by omega), show j - (j - m) = m by omega]; exact hin)
      rw [up_down (by omega), show j - (j - m) = m by omega, hc _ hin hne] at h2
      exact hlast ⟨hin, h2⟩
    exact ⟨fun h => absurd h (no clr fun _ _ _ => rfl), fun h => absurd h (no clr0 fun x hx hne => (hcl x hx hne).symm)⟩
  · have hne : ∀ k : Nat, upP q k ≠ p := fun k e => hb ⟨k, by
      rw [← e]
      simp only [upP, downP]
      rw [show q.2.1 + (k : Int) - (k : Int) = q.2.1 from by omega]⟩
    unfold litP
    refine and_congr_right fun _ => and_congr_right fun _ => forall_congr' fun k => ?_
    constructor
    · intro h hk; rw [← hcl _ hk (hne k)]; exact h hk
    · intro h hk; rw [hcl _ hk (hne k)]; exact h hk
/-- Where it is not lit above, nothing changes. -/
theorem lit_same (hp : b.inside p) (heq : ∀ i, i ≠ b.idx p → clr i = clr0 i) (hup : ¬ (b.lo.2.1 + b.Y = 64 ∧ ∀ k : Nat, 1 ≤ k → b.inside (upP p k) → clr0 (b.idx (upP p k)) = true)) (q : Pl) : litP b clr q ↔ litP b clr0 q := by
  have hcl : ∀ x, b.inside x → x ≠ p → clr (b.idx x) = clr0 (b.idx x) := fun x hx hne => heq _ (idx_ne hp hx hne)
  by_cases hb : ∃ j : Nat, q = downP p j
  · obtain ⟨j, rfl⟩ := hb
    have no : ∀ c : Nat → Bool, (∀ x, b.inside x → x ≠ p → c (b.idx x) = clr0 (b.idx x)) → ¬ litP b c (downP p j) := by
      intro c hc hl
      refine hup ⟨hl.1, fun k hk hin => ?_⟩
      have h2 := hl.2.2 (j + k) (by rw [up_down2 (by omega), show j + k - j = k by omega]; exact hin)
      rw [up_down2 (by omega), show j + k - j = k by omega, hc _ hin (fun e => by have := congrArg (fun x : Pl => x.2.1) e; simp only [upP] at this; omega)] at h2
      exact h2
    exact ⟨fun h => absurd h (no clr hcl), fun h => absurd h (no clr0 fun _ _ _ => rfl)⟩
  · have hne : ∀ k : Nat, upP q k ≠ p := fun k e => hb ⟨k, by
      rw [← e]
      simp only [upP, downP]
      rw [show q.2.1 + (k : Int) - (k : Int) = q.2.1 from by omega]⟩
    unfold litP
    refine and_congr_right fun _ => and_congr_right fun _ => forall_congr' fun k => ?_
    constructor
    · intro h hk; rw [← hcl _ hk (hne k)]; exact h hk
    · intro h hk; rw [hcl _ hk (hne k)]; exact h hk
/-- Lit above: the place above is lit, or there is none. -/
theorem above_lit (ok : b.Ok) (hp : b.inside p) : (b.lo.2.1 + b.Y = 64 ∧ ∀ k : Nat, 1 ≤ k → b.inside (upP p k) → clr (b.idx (upP p k)) = true) ↔ (mayP (upP p 1) = false ∨ litP b clr (upP p 1)) := by
  have h1 := ok.hy
  have hm := Bx.inside_may ok hp
  constructor
  · rintro ⟨ht, hc⟩
    by_cases hi : b.inside (upP p 1)
    · refine .inr ⟨ht, hi, fun k hk => ?_⟩
      rw [upP_up] at hk ⊢
      exact hc (1 + k) (by omega) hk
    · refine .inl ?_
      rw [← Bool.not_eq_true, mayP_iff]
      unfold Bx.inside upP at *
      simp only at *
      omega
  · rintro (h | ⟨ht, hi, hc⟩)
    · have hy : p.2.1 = 63 := by
        rw [mayP_iff] at hm
        rw [← Bool.not_eq_true, mayP_iff] at h
        simp only [upP] at h
        omega
      have hh : b.lo.2.1 + b.Y = 64 := by
        unfold Bx.inside at hp
        omega
      refine ⟨hh, fun k hk hin => ?_⟩
      exfalso
      unfold Bx.inside upP at hin
      simp only at hin
      omega
    · refine ⟨ht, fun k hk hin => ?_⟩
      have := hc (k - 1) (by rw [upP_up, show 1 + (k - 1) = k by omega]; exact hin)
      rwa [upP_up, show 1 + (k - 1) = k by omega] at this
end
end Go.Proofs.Ytlhjjmfbifhgfaa
