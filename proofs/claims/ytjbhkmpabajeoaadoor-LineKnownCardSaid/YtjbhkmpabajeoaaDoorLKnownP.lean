/- LineKnown: the chapter's examples, as plain laws. (Printed by genknownp.py.) -/
import Derived.Test.YtjbhkmpabajeoaaDoorLAns
import Derived.Test.YtjbhkmpabajeoaaDoorLGet
namespace Go.Proofs.YtjbhkmpabajeoaaDoor
set_option linter.unusedSimpArgs false
set_option linter.unusedVariables false
open Go.Lib (itoa join atoiAll decDigits)

def decF : Nat → Nat → Bs
  | 0, u => [UInt8.ofNat (48 + u)]
  | f + 1, u => if u < 10 then [UInt8.ofNat (48 + u)] else decF f (u / 10) ++ [UInt8.ofNat (48 + u % 10)]
theorem decF_eq : ∀ (f u : Nat), u < 10 ^ (f + 1) → decDigits u = decF f u
  | 0, u, h => by rw [Lib.decDigits_one (by simpa using h)]; rfl
  | f + 1, u, h => by
    by_cases hu : u < 10
    · rw [Lib.decDigits_one hu]; simp [decF, hu]
    · have := decF_eq f (u / 10) (by rw [Nat.pow_succ] at h; omega)
      rw [decDigits, dif_neg hu, this]
      simp [decF, hu]
def itoaF (n : Int) : Bs := if n < 0 then 45 :: decF 20 n.natAbs else decF 20 n.toNat
theorem itoaF_eq {n : Int} (h : InI n) : itoa n = itoaF n := by
  unfold InI at h
  unfold itoa itoaF
  rw [decF_eq 20 n.natAbs (by omega), decF_eq 20 n.toNat (by omega)]
instance (n : Int) : Decidable (InI n) := by unfold InI; infer_instance
def numF (w : Bs) : Option Int := match atoiAll w with | .ok v => if InI v ∧ itoaF v = w then some v else none | _ => none
theorem numF_eq (w : Bs) : numP w = numF w := by
  unfold numF
  cases hv : atoiAll w with
  | ok v =>
    by_cases h : itoa v = w
    · have h2 : numP w = some v := by unfold numP; rw [hv]; simp [h]
      have hi := (numP_some h2).2
      rw [h2]
      simp only
      rw [if_pos ⟨hi, by rw [← itoaF_eq hi]; exact h⟩]
    · have h2 : numP w = none := by unfold numP; rw [hv]; simp [h]
      rw [h2]
      simp only
      rw [if_neg]
      rintro ⟨hi, h3⟩
      exact h (by rw [itoaF_eq hi]; exact h3)
  | _ =>
    unfold numP
    rw [hv]
section
variable (nf : Bs → Option Int)
def takeNG (ws : List Bs) : Option (Int × List Bs) := match ws with | [] => none | w :: r => (nf w).map fun v => (v, r)
def take3G (ws : List Bs) : Option ((Int × Int × Int) × List Bs) :=
  (takeNG nf ws).bind fun x => (takeNG nf x.2).bind fun y => (takeNG nf y.2).map fun z => ((x.1, y.1, z.1), z.2)
def takeCG (ws : List Bs) : Option ((Int × Int) × List Bs) :=
  match ws with
  | [] => none
  | w :: r => (takeNG nf r).bind fun x => match kindOf w with | none => none | some k => if x.1 < 0 ∨ 255 < x.1 then none else some (((k : Int), x.1), x.2)
def readPartG (u : OpR) (p : UInt8) (ws : List Bs) : Option (OpR × List Bs) :=
  if p = 112 then (take3G nf ws).map fun x => ({ u with a1 := x.1.1, a2 := x.1.2.1, a3 := x.1.2.2 }, x.2)
  else if p = 98 then (take3G nf ws).map fun x => ({ u with b1 := x.1.1, b2 := x.1.2.1, b3 := x.1.2.2 }, x.2)
  else if p = 99 then (takeCG nf ws).map fun x => ({ u with c1 := x.1.1, c2 := x.1.2 }, x.2)
  else if p = 100 then (takeD ws).map fun x => ({ u with n := x.1 }, x.2)
  else (takeNG nf ws).map fun x => ({ u with n := x.1 }, x.2)
def readPG (u : OpR) : Bs → List Bs → Option OpR
  | [], ws => if ws = [] then some u else none
  | p :: ps, ws => (readPartG nf u p ws).bind fun x => readPG x.1 ps x.2
def getPG (s : Bs) : Option OpR :=
  match words s with
  | [] => none
  | w :: r => (kindW w).bind fun i => readPG nf (opK ((i : Int) + 1)) (rowOf ((i : Int) + 1)).2 r
end
theorem readPG_eq : ∀ (ps : Bs) (u : OpR) (ws : List Bs), readP u ps ws = readPG numP u ps ws
  | [], u, ws => rfl
  | p :: ps, u, ws => by
    unfold readP readPG
    have h : readPart u p ws = readPartG numP u p ws := rfl
    rw [h]
    congr 1
    funext x
    exact readPG_eq ps x.1 x.2
theorem getP_eq (s : Bs) : getP s = getPG numF s := by
  have h : numP = numF := funext numF_eq
  rw [← h]
  unfold getP getPG
  cases words s with
  | nil => rfl
  | cons w r =>
    simp only
    congr 1
    funext i
    exact readPG_eq _ _ _
def badS : List Bs := [[115, 97, 118, 101, 32], [32, 115, 97, 118, 101], [116, 105, 99, 107, 32, 48, 49], [116, 105, 99, 107, 32, 43, 49], [84, 105, 99, 107, 32, 49], [116, 105, 99, 107], [116, 105, 99, 107, 32, 49, 32, 50], [108, 111, 111, 107, 32, 48, 32, 48], [], [116, 105, 99, 107, 32, 57, 50, 50, 51, 51, 55, 50, 48, 51, 54, 56, 53, 52, 55, 55, 53, 56, 48, 56], [115, 101, 116, 32, 48, 32, 48, 32, 48, 32, 115, 97, 110, 100, 32, 50, 53, 54], [115, 101, 116, 32, 48, 32, 48, 32, 48, 32, 83, 97, 110, 100, 32, 49], [112, 117, 115, 104, 32, 48, 32, 48, 32, 48, 32, 52], [116, 105, 99, 107, 32, 45, 48], [108, 111, 111, 107, 32, 48, 32, 32, 48, 32, 48]]
theorem badS_none : badS.all (fun s => (getPG numF s).isNone && decide (s.length ≤ 1024)) = true := by decide +kernel
theorem badS_get {i : Nat} (hi : i < 15) : getV (badS.getD i []) = .tuple #[opV OpR.zero, .int .i64 30] ∧ (badS.getD i []).length ≤ 1024 := by
  have hl : i < badS.length := hi
  have h := List.all_eq_true.1 badS_none (badS.getD i []) (by rw [List.getD_eq_getElem?_getD, List.getElem?_eq_getElem hl]; exact List.getElem_mem hl)
  rw [Bool.and_eq_true, decide_eq_true_eq, Option.isNone_iff_eq_none] at h
  refine ⟨?_, h.2⟩
  unfold getV
  rw [if_neg (by omega), getP_eq, h.1]
def oSet : OpR := { opK 1 with a1 := -1, a2 := 2, a3 := 3, c1 := 11, c2 := 9 }
def oRay : OpR := { opK 8 with a2 := 20, b1 := 1, b3 := -2, n := 9 }
def oTick : OpR := { opK 6 with n := -9223372036854775808 }
def sSet : Bs := [115, 101, 116, 32, 45, 49, 32, 50, 32, 51, 32, 116, 111, 114, 99, 104, 32, 57]
def sRay : Bs := [114, 97, 121, 32, 48, 32, 50, 48, 32, 48, 32, 49, 32, 48, 32, 45, 50, 32, 57]
def sTick : Bs := [116, 105, 99, 107, 32, 45, 57, 50, 50, 51, 51, 55, 50, 48, 51, 54, 56, 53, 52, 55, 55, 53, 56, 48, 56]
theorem get_set : getP sSet = some oSet := by rw [getP_eq]; decide +kernel
theorem get_ray : getP sRay = some oRay := by rw [getP_eq]; decide +kernel
theorem get_tick : getP sTick = some oTick := by rw [getP_eq]; decide +kernel
theorem put_set : putP oSet = some sSet := (put_get get_set).1
theorem getV_ray : getV sRay = .tuple #[opV oRay, .int .i64 0] := by unfold getV; rw [if_neg (by decide), get_ray]
theorem getV_tick : getV sTick = .tuple #[opV oTick, .int .i64 0] := by unfold getV; rw [if_neg (by decide), get_tick]
theorem putV_set : putV oSet = .tuple #[.string (str sSet), .int .i64 0] := by unfold putV; rw [put_set]
def badO : List OpR := [{ opK 9 with n := 1 }, opK 0, { opK 3 with n := 6 }, { opK 1 with c1 := 15 }]
theorem badO_put {i : Nat} (hi : i < 4) : putV (badO.getD i OpR.zero) = .tuple #[.string (str []), .int .i64 2] ∧ (badO.getD i OpR.zero).Ok := by
  obtain rfl | rfl | rfl | rfl : i = 0 ∨ i = 1 ∨ i = 2 ∨ i = 3 := by omega
  all_goals
    refine ⟨?_, ⟨?_, ?_, ?_, ?_, ?_, ?_, ?_, ?_, ?_, ?_⟩⟩
  all_goals first | (show InI _; simp only [badO, opK, List.getD_cons_zero, List.getD_cons_succ]; decide) | (show InU _; unfold InU; simp only [badO, opK, List.getD_cons_zero, List.getD_cons_succ]; decide) | (unfold putV; simp [badO, putP, opK, rowOf, rowL, partsW, partWords, usedAll, used, nameK]; done)
def aZero : AnsR := ⟨0, 0, 0, 0, 0, 0, 0, 0, 0, 0, 0, 0, 0, 0⟩
theorem aZero_ok : aZero.Ok := ⟨inI0, inI0, inI0, inI0, inU0, inU0, inU0, inU0, inI0, inI0, inI0, inI0, inI0, inI0⟩
def ansLook : AnsR := { aZero with c1 := 13, c2 := 3, s1 := 15, s2 := 2, due := 9 }
theorem ansLook_ok : ansLook.Ok := ⟨by decide, by decide, by decide, by decide, by unfold InU; decide, by unfold InU; decide, by unfold InU; decide, by unfold InU; decide, by decide, by decide, by decide, by decide, by decide, by decide⟩
theorem ansLook_is : ansS 7 ansLook = [119, 97, 116, 101, 114, 32, 51, 32, 115, 107, 121, 32, 49, 53, 32, 108, 97, 109, 112, 32, 50, 32, 100, 117, 101, 32, 57] := by
  have h9 : itoa 9 = [57] := by rw [itoaF_eq (by decide)]; rfl
  have h3 : itoa 3 = [51] := by rw [itoaF_eq (by decide)]; rfl
  have h2 : itoa 2 = [50] := by rw [itoaF_eq (by decide)]; rfl
  have h15 : itoa 15 = [49, 53] := by rw [itoaF_eq (by decide)]; rfl
  have h99 : itoa 99 = [57, 57] := by rw [itoaF_eq (by decide)]; rfl
  simp [ansS, ansW, cellW, namedS, ansLook, aZero, h9, h3, h2, h15, h99, nameK, names, errS, errN, errW, join_cons_cons, Lib.join_one, List.idxOf, List.findIdx, List.findIdx.go]
def ansLong : AnsR := { aZero with e := 3 }
theorem ansLong_ok : ansLong.Ok := ⟨by decide, by decide, by decide, by decide, by unfold InU; decide, by unfold InU; decide, by unfold InU; decide, by unfold InU; decide, by decide, by decide, by decide, by decide, by decide, by decide⟩
theorem ansLong_is : ansS 6 ansLong = [101, 114, 114, 111, 114, 32, 108, 111, 110, 103] := by
  have h9 : itoa 9 = [57] := by rw [itoaF_eq (by decide)]; rfl
  have h3 : itoa 3 = [51] := by rw [itoaF_eq (by decide)]; rfl
  have h2 : itoa 2 = [50] := by rw [itoaF_eq (by decide)]; rfl
  have h15 : itoa 15 = [49, 53] := by rw [itoaF_eq (by decide)]; rfl
  have h99 : itoa 99 = [57, 57] := by rw [itoaF_eq (by decide)]; rfl
  simp [ansS, ansW, cellW, namedS, ansLong, aZero, h9, h3, h2, h15, h99, nameK, names, errS, errN, errW, join_cons_cons, Lib.join_one, List.idxOf, List.findIdx, List.findIdx.go]
def ansOk : AnsR := aZero
theorem ansOk_ok : ansOk.Ok := ⟨by decide, by decide, by decide, by decide, by unfold InU; decide, by unfold InU; decide, by unfold InU; decide, by unfold InU; decide, by decide, by decide, by decide, by decide, by decide, by decide⟩
theorem ansOk_is : ansS 6 ansOk = [111, 107] := by
  have h9 : itoa 9 = [57] := by rw [itoaF_eq (by decide)]; rfl
  have h3 : itoa 3 = [51] := by rw [itoaF_eq (by decide)]; rfl
  have h2 : itoa 2 = [50] := by rw [itoaF_eq (by decide)]; rfl
  have h15 : itoa 15 = [49, 53] := by rw [itoaF_eq (by decide)]; rfl
  have h99 : itoa 99 = [57, 57] := by rw [itoaF_eq (by decide)]; rfl
  simp [ansS, ansW, cellW, namedS, ansOk, aZero, h9, h3, h2, h15, h99, nameK, names, errS, errN, errW, join_cons_cons, Lib.join_one, List.idxOf, List.findIdx, List.findIdx.go]
def ansNo : AnsR := { aZero with e := 99 }
theorem ansNo_ok : ansNo.Ok := ⟨by decide, by decide, by decide, by decide, by unfold InU; decide, by unfold InU; decide, by unfold InU; decide, by unfold InU; decide, by decide, by decide, by decide, by decide, by decide, by decide⟩
theorem ansNo_is : ansS 6 ansNo = [101, 114, 114, 111, 114, 32, 57, 57] := by
  have h9 : itoa 9 = [57] := by rw [itoaF_eq (by decide)]; rfl
  have h3 : itoa 3 = [51] := by rw [itoaF_eq (by decide)]; rfl
  have h2 : itoa 2 = [50] := by rw [itoaF_eq (by decide)]; rfl
  have h15 : itoa 15 = [49, 53] := by rw [itoaF_eq (by decide)]; rfl
  have h99 : itoa 99 = [57, 57] := by rw [itoaF_eq (by decide)]; rfl
  simp [ansS, ansW, cellW, namedS, ansNo, aZero, h9, h3, h2, h15, h99, nameK, names, errS, errN, errW, join_cons_cons, Lib.join_one, List.idxOf, List.findIdx, List.findIdx.go]
def zer : Bs := List.replicate 1025 0
theorem zer_get : getV zer = .tuple #[opV OpR.zero, .int .i64 3] := by unfold getV; rw [if_pos (by unfold zer; rw [List.length_replicate]; exact Nat.lt_succ_self _)]
end Go.Proofs.YtjbhkmpabajeoaaDoor
