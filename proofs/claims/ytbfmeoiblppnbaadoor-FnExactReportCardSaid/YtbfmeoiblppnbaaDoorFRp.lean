/- The functions under laws_FnExactReport: the abstract machine's codes, and what they come to in plain terms. Printed by a program of this session. -/
import Derived.Test.YtbfmeoiblppnbaaDoorVmKind
set_option linter.all false
set_option maxRecDepth 100000
set_option maxHeartbeats 4000000
namespace Go.Vm
structure TVerdict where
  Kind : Int
  Code : Int
  deriving DecidableEq
def encVerdict (x : TVerdict) : List D := [.int .i64 x.Kind, .int .i64 x.Code]
def decVerdict : List D → Option TVerdict
  | [.int .i64 a0, .int .i64 a1] => some ⟨a0, a1⟩
  | _ => none
theorem decVerdict_ok : ∀ xs x, decVerdict xs = some x → xs = encVerdict x := by
  intro xs x h
  unfold decVerdict at h
  split at h
  · cases h; rfl
  · cases h
def cVerdict : Enc TVerdict := ⟨2, encVerdict, decVerdict, fun _ => rfl, by decide, decVerdict_ok, fun _ => rfl⟩
theorem cVerdict_enc (x : TVerdict) : cVerdict.enc x = [.int .i64 x.Kind, .int .i64 x.Code] := rfl
theorem cVerdict_dec (x_Kind : Int) (x_Code : Int) : cVerdict.dec [.int .i64 x_Kind, .int .i64 x_Code] = some ⟨x_Kind, x_Code⟩ := cVerdict.edc ⟨x_Kind, x_Code⟩
theorem cVerdict_dec1 (a : D) : cVerdict.dec [a] = none := by cases a <;> first | rfl | (rename_i k n; cases k <;> rfl)
def rVerdict := And.intro (cVerdict_dec1) <| And.intro (rKind cVerdict 2 rfl) <| And.intro (cVerdict_enc) <| And.intro (cVerdict_dec) <| And.intro (plain_T cVerdict (fun _ => rfl)) <| And.intro ((fun l m => k_get cVerdict 2 l m 1 (by decide) rfl)) <| ((fun e cap l m xs z hz => k_part' cVerdict 2 e cap l m 1 xs z hz rfl))
structure TOutcome where
  Kind : Int
  Code : Int
  Value_Shape : List Int
  Value_Data : List Int
  Fuel : Int
  Cells : Int
  deriving DecidableEq
def encOutcome (x : TOutcome) : List D := [.int .i64 x.Kind, .int .i64 x.Code, lstT cI x.Value_Shape, lstT cI x.Value_Data, .int .i64 x.Fuel, .int .i64 x.Cells]
def decOutcome : List D → Option TOutcome
  | [.int .i64 a0, .int .i64 a1, d2, d3, .int .i64 a4, .int .i64 a5] => (decL cI d2).bind fun a2 => (decL cI d3).bind fun a3 => some ⟨a0, a1, a2, a3, a4, a5⟩
  | _ => none
theorem decOutcome_ok : ∀ xs x, decOutcome xs = some x → xs = encOutcome x := by
  intro xs x h
  unfold decOutcome at h
  split at h
  · have hh := Option.bind_eq_some_iff.mp h; clear h; obtain ⟨a2, h2, h⟩ := hh; have e2 := decL_ok h2; clear h2; subst e2; have hh := Option.bind_eq_some_iff.mp h; clear h; obtain ⟨a3, h3, h⟩ := hh; have e3 := decL_ok h3; clear h3; subst e3; cases h; rfl
  · cases h
def cOutcome : Enc TOutcome := ⟨6, encOutcome, decOutcome, fun _ => rfl, by decide, decOutcome_ok, fun x => by simp only [encOutcome, decOutcome, decL_T, Option.bind_some]⟩
theorem cOutcome_enc (x : TOutcome) : cOutcome.enc x = [.int .i64 x.Kind, .int .i64 x.Code, lstT cI x.Value_Shape, lstT cI x.Value_Data, .int .i64 x.Fuel, .int .i64 x.Cells] := rfl
theorem cOutcome_dec (x_Kind : Int) (x_Code : Int) (x_Value_Shape : List Int) (x_Value_Data : List Int) (x_Fuel : Int) (x_Cells : Int) : cOutcome.dec [.int .i64 x_Kind, .int .i64 x_Code, lstT cI x_Value_Shape, lstT cI x_Value_Data, .int .i64 x_Fuel, .int .i64 x_Cells] = some ⟨x_Kind, x_Code, x_Value_Shape, x_Value_Data, x_Fuel, x_Cells⟩ := cOutcome.edc ⟨x_Kind, x_Code, x_Value_Shape, x_Value_Data, x_Fuel, x_Cells⟩
theorem cOutcome_dec1 (a : D) : cOutcome.dec [a] = none := by cases a <;> first | rfl | (rename_i k n; cases k <;> rfl)
def rOutcome := And.intro (cOutcome_dec1) <| And.intro (rKind cOutcome 6 rfl) <| And.intro (cOutcome_enc) <| And.intro (cOutcome_dec) <| And.intro (plain_N cOutcome) <| And.intro ((fun l m => k_get cOutcome 6 l m 1 (by decide) rfl)) <| And.intro ((fun e cap l m xs z hz => k_part' cOutcome 6 e cap l m 1 xs z hz rfl)) <| And.intro ((fun l m => k_get cOutcome 6 l m 2 (by decide) rfl)) <| And.intro ((fun e cap l m xs z hz => k_part' cOutcome 6 e cap l m 2 xs z hz rfl)) <| And.intro ((fun l m => k_get cOutcome 6 l m 3 (by decide) rfl)) <| And.intro ((fun e cap l m xs z hz => k_part' cOutcome 6 e cap l m 3 xs z hz rfl)) <| And.intro ((fun l m => k_get cOutcome 6 l m 4 (by decide) rfl)) <| And.intro ((fun e cap l m xs z hz => k_part' cOutcome 6 e cap l m 4 xs z hz rfl)) <| And.intro ((fun l m => k_get cOutcome 6 l m 5 (by decide) rfl)) <| ((fun e cap l m xs z hz => k_part' cOutcome 6 e cap l m 5 xs z hz rfl))
def rRow3 := rRow cI 3 1 rfl [iD 0] 0 rfl
def rRow59 := rRow cVerdict 59 2 rfl [iD 0, iD 0] ⟨0, 0⟩ rfl
def rRow72 := rRow cOutcome 72 6 rfl [iD 0, iD 0, .lst 0 [], .lst 0 [], iD 0, iD 0] ⟨0, 0, [], [], 0, 0⟩ rfl
def rRow56 := rRow cVerdict 56 2 rfl [iD 0, iD 0] ⟨0, 0⟩ rfl
def rRow74 := rRow cOutcome 74 6 rfl [iD 0, iD 0, .lst 0 [], .lst 0 [], iD 0, iD 0] ⟨0, 0, [], [], 0, 0⟩ rfl
def rRow5 := rRow c8 5 1 rfl [.int .u8 0] 0 rfl
def rRow9 := rRow cS 9 1 rfl [sD []] [] rfl
def rMap91 := rMapI cS 91 none rfl [sD []] [] rfl
/-- the types of elements that lead to no memory -/
def flatIds (e : Nat) : Bool := e == 3 || e == 59 || e == 56 || e == 5 || e == 9
-- loop.example/s02135/laws.szVerdictS
def c_laws_szVerdictS : Cd :=
  sq (r [0, 1] [o 4 .mv [i 0]])
  (sq (r [1] [o 5 .mv [t 1], o 6 .mv [t 0], o 7 (.len false) [t 6], o 8 (.bin .sub) [t 5, t 7], o 1 .mv [t 8]])
   (sq (sq (r [1, 10] [o 9 .mv [t 1], o 10 (.bin .lss) [t 9, i 0]])
     (.cond (t 10) (sq (r [4] [o 4 .mv [i (-1)]])
       (.ret)) (.skip)))
    (sq (r [4] [o 11 .mv [t 1], o 4 .mv [t 11]])
     (.ret))))
def r_laws_szVerdictS : List RV := [.tmp 4]
def laws_szVerdictS_f (N : Nat) (a0 : List TVerdict) (a1 : Int) : Option (Int) :=
  if w64 (a1 - (↑(List.length a0) : Int)) < 0 then some (-1)
  else some (w64 (a1 - (↑(List.length a0) : Int)))
theorem laws_szVerdictS_g (E : En) (hy : Hy E [] [] [] r_laws_szVerdictS none (fun y => nocap y) flatIds) (a0 : List TVerdict) (a1 : Int) : G E c_laws_szVerdictS [] ⟨slotsOf [(0, .d (lstT cVerdict a0)), (1, .d (.int .i64 a1))], obsOf []⟩ = (laws_szVerdictS_f E.n a0 a1).bind fun r => some (.ret (.d (.int .i64 r)) []) := by
  simp (config := {maxSteps := 2000000}) only [↓rPre, rPost, rCan, rObj, rI, rS, rB, r8, rLI, rEtc, hy.p, hy.l, hy.k, hy.r, hy.d, hy.w, hy.f, flatIds, oid, r_laws_szVerdictS, ↓G_unf _ _ c_laws_szVerdictS.eq_1, bind_ite, laws_szVerdictS_f, rRow3, rVerdict, rRow59, rOutcome, rRow72, rRow56, rRow74, rRow5, rRow9, rMap91, rLog, ↓reduceIte, Nat.reduceMul, Nat.reduceAdd, Nat.reduceSub, Nat.reduceEqDiff, Nat.reduceBEq, Nat.reduceLeDiff, Nat.reduceLT, reduceCtorEq, Int.reduceAdd, Int.reduceSub, Int.reduceToNat, Int.reduceNeg, Int.reduceEq, Int.reduceLT, Int.reduceLE]
def H_laws_szVerdictS (E : En) (L : (List TVerdict) → Int → Option (Int)) : Prop := E.Γ.mu 11 = false ∧ (∀ (a0 : List TVerdict) (a1 : Int), E.Γ 11 [.d (lstT cVerdict a0), .d (.int .i64 a1)] = (L a0 a1).bind fun r => some (.ret (.d (.int .i64 r)) []))
-- loop.example/s02135/laws.toVerdict
def c_laws_toVerdict : Cd :=
  sq (r [1, 2] [o 1 .box [t 0], o 2 (.alloc [(.d (iD 0)), (.d (iD 0))]) []])
  (sq (r [1, 2, 3] [o 3 (.alloc [(.d (iD 0)), (.d (iD 0))]) []])
   (sq (r [1, 2, 3] [o 4 (.fa 0) [t 1], o 5 (.ld none) [t 4], o 6 (.fa 0) [t 3], e (.st 1) [t 6, t 5]])
    (sq (r [2, 3] [o 7 (.fa 1) [t 1], o 8 (.ld none) [t 7], o 9 (.fa 1) [t 3], e (.st 1) [t 9, t 8]])
     (sq (r [2] [o 10 (.ld (some 2)) [t 3], e (.st 2) [t 2, t 10]])
      (.ret)))))
def r_laws_toVerdict : List RV := [.cell 2 (some 2)]
def laws_toVerdict_f (N : Nat) (a0_Kind : Int) (a0_Code : Int) : Option (Int × Int) :=
  some ((a0_Kind, a0_Code))
theorem laws_toVerdict_g (E : En) (hy : Hy E [] [] [] r_laws_toVerdict none (fun y => nocap y) flatIds) (a0_Kind : Int) (a0_Code : Int) : G E c_laws_toVerdict [] ⟨slotsOf [(0, .agg [.d (.int .i64 a0_Kind), .d (.int .i64 a0_Code)])], obsOf []⟩ = (laws_toVerdict_f E.n a0_Kind a0_Code).bind fun r => some (.ret (.agg [.d (.int .i64 r.1), .d (.int .i64 r.2)]) []) := by
  simp (config := {maxSteps := 2000000}) only [↓rPre, rPost, rCan, rObj, rI, rS, rB, r8, rLI, rEtc, hy.p, hy.l, hy.k, hy.r, hy.d, hy.w, hy.f, flatIds, oid, r_laws_toVerdict, ↓G_unf _ _ c_laws_toVerdict.eq_1, bind_ite, laws_toVerdict_f, rRow3, rVerdict, rRow59, rOutcome, rRow72, rRow56, rRow74, rRow5, rRow9, rMap91, rLog, ↓reduceIte, Nat.reduceMul, Nat.reduceAdd, Nat.reduceSub, Nat.reduceEqDiff, Nat.reduceBEq, Nat.reduceLeDiff, Nat.reduceLT, reduceCtorEq, Int.reduceAdd, Int.reduceSub, Int.reduceToNat, Int.reduceNeg, Int.reduceEq, Int.reduceLT, Int.reduceLE]
def H_laws_toVerdict (E : En) (L : Int → Int → Option (Int × Int)) : Prop := E.Γ.mu 33 = false ∧ (∀ (a0_Kind : Int) (a0_Code : Int), E.Γ 33 [.agg [.d (.int .i64 a0_Kind), .d (.int .i64 a0_Code)]] = (L a0_Kind a0_Code).bind fun r => some (.ret (.agg [.d (.int .i64 r.1), .d (.int .i64 r.2)]) []))
-- loop.example/s02135/laws.toVerdictS
def b0_laws_toVerdictS : Cd :=
  sq (sq (r [0, 3, 4, 11] [o 8 .mv [t 4], o 9 .mv [t 0], o 10 (.len false) [t 9], o 11 (.bin .lss) [t 8, t 10]])
   (.cond (t 11) (.skip) (.exit 0)))
  (sq (.block 1 (r [0, 3, 4] [o 14 .mv [t 3], o 15 .mv [t 4], o 16 .mv [t 0], o 17 .mv [t 4], o 18 (.ia 2) [t 16, t 17], o 19 (.ld (some 2)) [t 18], o 20 (.call 33) [t 19], o 21 (.ia 2) [t 14, t 15], e (.st 2) [t 21, t 20]]))
   (r [0, 3, 4] [o 12 .mv [t 4], o 13 (.bin .add) [t 12, i 1], o 4 .mv [t 13]]))
def k1_laws_toVerdictS : Cd :=
  sq (r [2] [o 22 .mv [t 3], o 2 .mv [t 22]])
  (.ret)
def c_laws_toVerdictS : Cd :=
  sq (r [0] [o 2 .mv [n]])
  (sq (r [0, 3] [o 5 .mv [t 0], o 6 (.len false) [t 5], o 7 (.mkS 56 2 16 [(iD 0), (iD 0)]) [t 6, t 6], o 3 .mv [t 7]])
   (sq (sq (r [0, 3, 4] [o 4 .mv [i 0]])
     (.block 0 (.loop [0, 3, 4] b0_laws_toVerdictS))) k1_laws_toVerdictS))
def r_laws_toVerdictS : List RV := [.tmp 2]
def laws_toVerdictS_l0 (L_laws_toVerdict : Int → Int → Option (Int × Int)) : Nat → (List TVerdict) → Int → (List TVerdict) → Option (List TVerdict)
  | 0, _, _, _ => none
  | m0 + 1, x0, x4, o192 =>
    if x4 < (↑(List.length x0) : Int) then ((idx x0 x4).bind fun y0 =>
     (L_laws_toVerdict y0.Kind y0.Code).bind fun y1 =>
     if 0 ≤ x4 ∧ x4 < (↑(List.length o192) : Int) then ((setN o192 (Int.toNat x4) { Kind := y1.fst, Code := y1.snd }).bind fun y2 =>
      laws_toVerdictS_l0 L_laws_toVerdict m0 x0 (w64 (x4 + 1)) y2)
     else none)
    else some o192
def laws_toVerdictS_f (L_laws_toVerdict : Int → Int → Option (Int × Int)) (N : Nat) (a0 : List TVerdict) : Option (List TVerdict) :=
  if mkOk 16 (↑(List.length a0) : Int) (↑(List.length a0) : Int) then laws_toVerdictS_l0 L_laws_toVerdict N a0 0 (List.replicate (List.length a0) { Kind := 0, Code := 0 })
  else none
theorem laws_toVerdictS_l0_eq (E : En) (hy : Hy E [] [] [] r_laws_toVerdictS none (fun y => nocap y) flatIds) (L_laws_toVerdict : Int → Int → Option (Int × Int)) (h_laws_toVerdict : H_laws_toVerdict E L_laws_toVerdict) : ∀ (m0 : Nat) (x0 : List TVerdict) (x4 : Int) (o192 : List TVerdict), gH E [0, 3, 4] b0_laws_toVerdictS [KJ.b 0, KJ.c k1_laws_toVerdictS] m0 ⟨slotsOf [(0, .d (lstT (cVerdict) x0)), (3, A.row 192 1), (4, .d (.int .i64 x4))], obsOf [(192, ⟨1, rowT (cVerdict) 56 none o192, false⟩)]⟩ = (laws_toVerdictS_l0 L_laws_toVerdict m0 x0 x4 o192).bind fun r => some (.ret (ownT (cVerdict) 56 none false r) []) := by
  intro m0
  induction m0 with
  | zero => intros; rfl
  | succ m0 ih =>
    intros
    simp (config := {maxSteps := 2000000}) only [↓rPre, rPost, rCan, rObj, rI, rS, rB, r8, rLI, rEtc, hy.p, hy.l, hy.k, hy.r, hy.d, hy.w, hy.f, flatIds, oid, r_laws_toVerdictS, ↓G_unf _ _ b0_laws_toVerdictS.eq_1, ↓G_unf _ _ k1_laws_toVerdictS.eq_1, ↓G_unf _ _ c_laws_toVerdictS.eq_1, h_laws_toVerdict.2, h_laws_toVerdict.1, gH_succ, ih, bind_ite, laws_toVerdictS_l0, rRow3, rVerdict, rRow59, rOutcome, rRow72, rRow56, rRow74, rRow5, rRow9, rMap91, rLog, ↓reduceIte, Nat.reduceMul, Nat.reduceAdd, Nat.reduceSub, Nat.reduceEqDiff, Nat.reduceBEq, Nat.reduceLeDiff, Nat.reduceLT, reduceCtorEq, Int.reduceAdd, Int.reduceSub, Int.reduceToNat, Int.reduceNeg, Int.reduceEq, Int.reduceLT, Int.reduceLE]
theorem laws_toVerdictS_g (E : En) (hy : Hy E [] [] [] r_laws_toVerdictS none (fun y => nocap y) flatIds) (L_laws_toVerdict : Int → Int → Option (Int × Int)) (h_laws_toVerdict : H_laws_toVerdict E L_laws_toVerdict) (a0 : List TVerdict) : G E c_laws_toVerdictS [] ⟨slotsOf [(0, .d (lstT cVerdict a0))], obsOf []⟩ = (laws_toVerdictS_f L_laws_toVerdict E.n a0).bind fun r => some (.ret (ownT (cVerdict) 56 none false r) []) := by
  simp (config := {maxSteps := 2000000}) only [↓rPre, rPost, rCan, rObj, rI, rS, rB, r8, rLI, rEtc, hy.p, hy.l, hy.k, hy.r, hy.d, hy.w, hy.f, flatIds, oid, r_laws_toVerdictS, ↓G_unf _ _ b0_laws_toVerdictS.eq_1, ↓G_unf _ _ k1_laws_toVerdictS.eq_1, ↓G_unf _ _ c_laws_toVerdictS.eq_1, h_laws_toVerdict.2, h_laws_toVerdict.1, bind_ite, laws_toVerdictS_f, laws_toVerdictS_l0_eq E hy L_laws_toVerdict h_laws_toVerdict, rRow3, rVerdict, rRow59, rOutcome, rRow72, rRow56, rRow74, rRow5, rRow9, rMap91, rLog, ↓reduceIte, Nat.reduceMul, Nat.reduceAdd, Nat.reduceSub, Nat.reduceEqDiff, Nat.reduceBEq, Nat.reduceLeDiff, Nat.reduceLT, reduceCtorEq, Int.reduceAdd, Int.reduceSub, Int.reduceToNat, Int.reduceNeg, Int.reduceEq, Int.reduceLT, Int.reduceLE]
def H_laws_toVerdictS (E : En) (L : (List TVerdict) → Option (List TVerdict)) : Prop := E.Γ.mu 13 = false ∧ (∀ (a0 : List TVerdict), E.Γ 13 [.d (lstT cVerdict a0)] = (L a0).bind fun r => some (.ret (ownT (cVerdict) 56 none false r) []))
-- loop.example/s02135/spec.l3Digit
def c_spec_l3Digit : Cd :=
  sq (r [0] [o 2 .mv [b false]])
  (sq (r [2] [o 3 .mv [t 0], o 4 (.bin .geq) [t 3, .k (.d (.int .u8 48))], o 5 .mv [t 4], g 5 true 6 .mv [t 0], g 5 true 7 (.bin .leq) [t 6, .k (.d (.int .u8 57))], o 8 .pick [t 5, t 7, b false], o 2 .mv [t 8]])
   (.ret))
def r_spec_l3Digit : List RV := [.tmp 2]
def spec_l3Digit_f (N : Nat) (a0 : Int) : Option (Bool) :=
  if 48 ≤ a0 then some (Decidable.decide (a0 ≤ 57))
  else some false
theorem spec_l3Digit_g (E : En) (hy : Hy E [] [] [] r_spec_l3Digit none (fun y => nocap y) flatIds) (a0 : Int) : G E c_spec_l3Digit [] ⟨slotsOf [(0, .d (.int .u8 a0))], obsOf []⟩ = (spec_l3Digit_f E.n a0).bind fun r => some (.ret (.d (.bool r)) []) := by
  simp (config := {maxSteps := 2000000}) only [↓rPre, rPost, rCan, rObj, rI, rS, rB, r8, rLI, rEtc, hy.p, hy.l, hy.k, hy.r, hy.d, hy.w, hy.f, flatIds, oid, r_spec_l3Digit, ↓G_unf _ _ c_spec_l3Digit.eq_1, bind_ite, spec_l3Digit_f, rRow3, rVerdict, rRow59, rOutcome, rRow72, rRow56, rRow74, rRow5, rRow9, rMap91, rLog, ↓reduceIte, Nat.reduceMul, Nat.reduceAdd, Nat.reduceSub, Nat.reduceEqDiff, Nat.reduceBEq, Nat.reduceLeDiff, Nat.reduceLT, reduceCtorEq, Int.reduceAdd, Int.reduceSub, Int.reduceToNat, Int.reduceNeg, Int.reduceEq, Int.reduceLT, Int.reduceLE]
def H_spec_l3Digit (E : En) (L : Int → Option (Bool)) : Prop := E.Γ.mu 50 = false ∧ (∀ (a0 : Int), E.Γ 50 [.d (.int .u8 a0)] = (L a0).bind fun r => some (.ret (.d (.bool r)) []))
-- loop.example/s02135/spec.l3Letter
def c_spec_l3Letter : Cd :=
  sq (r [0] [o 2 .mv [b false]])
  (sq (r [2] [o 3 .mv [t 0], o 4 (.bin .geq) [t 3, .k (.d (.int .u8 97))], o 5 .mv [t 4], g 5 true 6 .mv [t 0], g 5 true 7 (.bin .leq) [t 6, .k (.d (.int .u8 122))], o 8 .pick [t 5, t 7, b false], o 9 .mv [t 8], g 9 false 10 .mv [t 0], g 9 false 11 (.bin .geq) [t 10, .k (.d (.int .u8 65))], g 9 false 12 .mv [t 11], g 12 true 13 .mv [t 0], g 12 true 14 (.bin .leq) [t 13, .k (.d (.int .u8 90))], g 9 false 15 .pick [t 12, t 14, b false], o 16 .pick [t 9, b true, t 15], o 2 .mv [t 16]])
   (.ret))
def r_spec_l3Letter : List RV := [.tmp 2]
def spec_l3Letter_f (N : Nat) (a0 : Int) : Option (Bool) :=
  if 97 ≤ a0 then (if a0 ≤ 122 then some true
   else (if 65 ≤ a0 then some (Decidable.decide (a0 ≤ 90))
    else some false))
  else (if 65 ≤ a0 then some (Decidable.decide (a0 ≤ 90))
   else some false)
theorem spec_l3Letter_g (E : En) (hy : Hy E [] [] [] r_spec_l3Letter none (fun y => nocap y) flatIds) (a0 : Int) : G E c_spec_l3Letter [] ⟨slotsOf [(0, .d (.int .u8 a0))], obsOf []⟩ = (spec_l3Letter_f E.n a0).bind fun r => some (.ret (.d (.bool r)) []) := by
  simp (config := {maxSteps := 2000000}) only [↓rPre, rPost, rCan, rObj, rI, rS, rB, r8, rLI, rEtc, hy.p, hy.l, hy.k, hy.r, hy.d, hy.w, hy.f, flatIds, oid, r_spec_l3Letter, ↓G_unf _ _ c_spec_l3Letter.eq_1, bind_ite, spec_l3Letter_f, rRow3, rVerdict, rRow59, rOutcome, rRow72, rRow56, rRow74, rRow5, rRow9, rMap91, rLog, ↓reduceIte, Nat.reduceMul, Nat.reduceAdd, Nat.reduceSub, Nat.reduceEqDiff, Nat.reduceBEq, Nat.reduceLeDiff, Nat.reduceLT, reduceCtorEq, Int.reduceAdd, Int.reduceSub, Int.reduceToNat, Int.reduceNeg, Int.reduceEq, Int.reduceLT, Int.reduceLE]
def H_spec_l3Letter (E : En) (L : Int → Option (Bool)) : Prop := E.Γ.mu 51 = false ∧ (∀ (a0 : Int), E.Γ 51 [.d (.int .u8 a0)] = (L a0).bind fun r => some (.ret (.d (.bool r)) []))
-- loop.example/s02135/spec.l6IdOk
def b0_spec_l6IdOk : Cd :=
  sq (sq (r [0, 3, 7] [o 4 .mv [t 3], o 5 .mv [t 0], o 6 (.len true) [t 5], o 7 (.bin .lss) [t 4, t 6]])
   (.cond (t 7) (.skip) (.exit 0)))
  (sq (.block 1 (sq (r [0, 3, 21] [o 10 .mv [t 0], o 11 .mv [t 3], o 12 .ixs [t 10, t 11], o 13 (.call 50) [t 12], o 14 .not [t 13], o 15 .mv [t 14], g 15 true 16 .mv [t 0], g 15 true 17 .mv [t 3], g 15 true 18 .ixs [t 16, t 17], g 15 true 19 (.call 51) [t 18], g 15 true 20 .not [t 19], o 21 .pick [t 15, t 20, b false]])
     (.cond (t 21) (sq (r [2] [o 2 .mv [b false]])
       (.ret)) (.skip))))
   (r [0, 3] [o 8 .mv [t 3], o 9 (.bin .add) [t 8, i 1], o 3 .mv [t 9]]))
def k1_spec_l6IdOk : Cd :=
  sq (r [2] [o 22 .mv [t 0], o 23 (.len true) [t 22], o 24 (.bin .geq) [t 23, i 1], o 25 .mv [t 24], g 25 true 26 .mv [t 0], g 25 true 27 (.len true) [t 26], g 25 true 28 (.bin .leq) [t 27, i 20], o 29 .pick [t 25, t 28, b false], o 2 .mv [t 29]])
  (.ret)
def c_spec_l6IdOk : Cd :=
  sq (r [0] [o 2 .mv [b false]])
  (sq (sq (r [0, 3] [o 3 .mv [i 0]])
    (.block 0 (.loop [0, 3] b0_spec_l6IdOk))) k1_spec_l6IdOk)
def r_spec_l6IdOk : List RV := [.tmp 2]
def spec_l6IdOk_l0 (L_spec_l3Digit : Int → Option (Bool)) (L_spec_l3Letter : Int → Option (Bool)) : Nat → (List UInt8) → Int → Option (Bool)
  | 0, _, _ => none
  | m0 + 1, x0, x3 =>
    if x3 < (↑(List.length x0) : Int) then ((idxB x0 x3).bind fun y0 =>
     (L_spec_l3Digit y0).bind fun y1 =>
     if y1 = false then ((idxB x0 x3).bind fun y2 =>
      (L_spec_l3Letter y2).bind fun y3 =>
      if y3 = false then some false
      else spec_l6IdOk_l0 L_spec_l3Digit L_spec_l3Letter m0 x0 (w64 (x3 + 1)))
     else spec_l6IdOk_l0 L_spec_l3Digit L_spec_l3Letter m0 x0 (w64 (x3 + 1)))
    else (if 1 ≤ (↑(List.length x0) : Int) then some (Decidable.decide ((↑(List.length x0) : Int) ≤ 20))
     else some false)
def spec_l6IdOk_f (L_spec_l3Digit : Int → Option (Bool)) (L_spec_l3Letter : Int → Option (Bool)) (N : Nat) (a0 : List UInt8) : Option (Bool) :=
  spec_l6IdOk_l0 L_spec_l3Digit L_spec_l3Letter N a0 0
theorem spec_l6IdOk_l0_eq (E : En) (hy : Hy E [] [] [] r_spec_l6IdOk none (fun y => nocap y) flatIds) (L_spec_l3Digit : Int → Option (Bool)) (h_spec_l3Digit : H_spec_l3Digit E L_spec_l3Digit) (L_spec_l3Letter : Int → Option (Bool)) (h_spec_l3Letter : H_spec_l3Letter E L_spec_l3Letter) : ∀ (m0 : Nat) (x0 : List UInt8) (x3 : Int), gH E [0, 3] b0_spec_l6IdOk [KJ.b 0, KJ.c k1_spec_l6IdOk] m0 ⟨slotsOf [(0, .d (sD x0)), (3, .d (.int .i64 x3))], obsOf []⟩ = (spec_l6IdOk_l0 L_spec_l3Digit L_spec_l3Letter m0 x0 x3).bind fun r => some (.ret (.d (.bool r)) []) := by
  intro m0
  induction m0 with
  | zero => intros; rfl
  | succ m0 ih =>
    intros
    simp (config := {maxSteps := 2000000}) only [↓rPre, rPost, rCan, rObj, rI, rS, rB, r8, rLI, rEtc, hy.p, hy.l, hy.k, hy.r, hy.d, hy.w, hy.f, flatIds, oid, r_spec_l6IdOk, ↓G_unf _ _ b0_spec_l6IdOk.eq_1, ↓G_unf _ _ k1_spec_l6IdOk.eq_1, ↓G_unf _ _ c_spec_l6IdOk.eq_1, h_spec_l3Digit.2, h_spec_l3Digit.1, h_spec_l3Letter.2, h_spec_l3Letter.1, gH_succ, ih, bind_ite, spec_l6IdOk_l0, rRow3, rVerdict, rRow59, rOutcome, rRow72, rRow56, rRow74, rRow5, rRow9, rMap91, rLog, ↓reduceIte, Nat.reduceMul, Nat.reduceAdd, Nat.reduceSub, Nat.reduceEqDiff, Nat.reduceBEq, Nat.reduceLeDiff, Nat.reduceLT, reduceCtorEq, Int.reduceAdd, Int.reduceSub, Int.reduceToNat, Int.reduceNeg, Int.reduceEq, Int.reduceLT, Int.reduceLE]
theorem spec_l6IdOk_g (E : En) (hy : Hy E [] [] [] r_spec_l6IdOk none (fun y => nocap y) flatIds) (L_spec_l3Digit : Int → Option (Bool)) (h_spec_l3Digit : H_spec_l3Digit E L_spec_l3Digit) (L_spec_l3Letter : Int → Option (Bool)) (h_spec_l3Letter : H_spec_l3Letter E L_spec_l3Letter) (a0 : List UInt8) : G E c_spec_l6IdOk [] ⟨slotsOf [(0, .d (sD a0))], obsOf []⟩ = (spec_l6IdOk_f L_spec_l3Digit L_spec_l3Letter E.n a0).bind fun r => some (.ret (.d (.bool r)) []) := by
  simp (config := {maxSteps := 2000000}) only [↓rPre, rPost, rCan, rObj, rI, rS, rB, r8, rLI, rEtc, hy.p, hy.l, hy.k, hy.r, hy.d, hy.w, hy.f, flatIds, oid, r_spec_l6IdOk, ↓G_unf _ _ b0_spec_l6IdOk.eq_1, ↓G_unf _ _ k1_spec_l6IdOk.eq_1, ↓G_unf _ _ c_spec_l6IdOk.eq_1, h_spec_l3Digit.2, h_spec_l3Digit.1, h_spec_l3Letter.2, h_spec_l3Letter.1, bind_ite, spec_l6IdOk_f, spec_l6IdOk_l0_eq E hy L_spec_l3Digit h_spec_l3Digit L_spec_l3Letter h_spec_l3Letter, rRow3, rVerdict, rRow59, rOutcome, rRow72, rRow56, rRow74, rRow5, rRow9, rMap91, rLog, ↓reduceIte, Nat.reduceMul, Nat.reduceAdd, Nat.reduceSub, Nat.reduceEqDiff, Nat.reduceBEq, Nat.reduceLeDiff, Nat.reduceLT, reduceCtorEq, Int.reduceAdd, Int.reduceSub, Int.reduceToNat, Int.reduceNeg, Int.reduceEq, Int.reduceLT, Int.reduceLE]
def H_spec_l6IdOk (E : En) (L : (List UInt8) → Option (Bool)) : Prop := E.Γ.mu 28 = false ∧ (∀ (a0 : List UInt8), E.Γ 28 [.d (sD a0)] = (L a0).bind fun r => some (.ret (.d (.bool r)) []))
-- loop.example/s02135/spec.l6VerdictsOk
def b0_spec_l6VerdictsOk : Cd :=
  sq (sq (r [0, 3, 11] [o 8 .mv [t 3], o 9 .mv [t 0], o 10 (.len false) [t 9], o 11 (.bin .lss) [t 8, t 10]])
   (.cond (t 11) (.skip) (.exit 0)))
  (sq (.block 1 (sq (r [0, 3, 4] [o 14 .mv [t 0], o 15 .mv [t 3], o 16 (.ia 2) [t 14, t 15], o 17 (.ld (some 2)) [t 16], o 4 (.alloc [(.d (iD 0)), (.d (iD 0))]) [], e (.st 2) [t 4, t 17]])
     (sq (r [0, 3, 50] [o 18 (.fa 0) [t 4], o 19 (.ld none) [t 18], o 20 (.bin .lss) [t 19, i 1], o 21 .mv [t 20], g 21 false 22 (.fa 0) [t 4], g 21 false 23 (.ld none) [t 22], g 21 false 24 (.bin .gtr) [t 23, i 5], o 25 .pick [t 21, b true, t 24], o 26 .mv [t 25], g 26 false 27 (.fa 0) [t 4], g 26 false 28 (.ld none) [t 27], g 26 false 29 (.bin .neq) [t 28, i 3], g 26 false 30 .mv [t 29], g 30 true 31 (.fa 1) [t 4], g 30 true 32 (.ld none) [t 31], g 30 true 33 (.bin .neq) [t 32, i 0], g 26 false 34 .pick [t 30, t 33, b false], o 35 .pick [t 26, b true, t 34], o 36 .mv [t 35], g 36 false 37 (.fa 0) [t 4], g 36 false 38 (.ld none) [t 37], g 36 false 39 (.bin .eql) [t 38, i 3], g 36 false 40 .mv [t 39], g 40 true 41 (.fa 1) [t 4], g 40 true 42 (.ld none) [t 41], g 40 true 43 (.bin .lss) [t 42, i 1], g 40 true 44 .mv [t 43], g 44 false 45 (.fa 1) [t 4], g 44 false 46 (.ld none) [t 45], g 44 false 47 (.bin .gtr) [t 46, i 99], g 40 true 48 .pick [t 44, b true, t 47], g 36 false 49 .pick [t 40, t 48, b false], o 50 .pick [t 36, b true, t 49]])
      (.cond (t 50) (sq (r [2] [o 2 .mv [b false]])
        (.ret)) (.skip)))))
   (r [0, 3] [o 12 .mv [t 3], o 13 (.bin .add) [t 12, i 1], o 3 .mv [t 13]]))
def k1_spec_l6VerdictsOk : Cd :=
  sq (r [2] [o 2 .mv [b true]])
  (.ret)
def c_spec_l6VerdictsOk : Cd :=
  sq (r [0] [o 2 .mv [b false]])
  (sq (sq (r [0, 7] [o 5 .mv [t 0], o 6 (.len false) [t 5], o 7 (.bin .gtr) [t 6, i 20]])
    (.cond (t 7) (sq (r [2] [o 2 .mv [b false]])
      (.ret)) (.skip)))
   (sq (sq (r [0, 3] [o 3 .mv [i 0]])
     (.block 0 (.loop [0, 3] b0_spec_l6VerdictsOk))) k1_spec_l6VerdictsOk))
def r_spec_l6VerdictsOk : List RV := [.tmp 2]
def spec_l6VerdictsOk_l0 : Nat → (List TVerdict) → Int → Option (Bool)
  | 0, _, _ => none
  | m0 + 1, x0, x3 =>
    if x3 < (↑(List.length x0) : Int) then ((idx x0 x3).bind fun y0 =>
     if y0.Kind < 1 then some false
     else (if 5 < y0.Kind then some false
      else (if y0.Kind = 3 then (if y0.Kind = 3 then (if y0.Code < 1 then some false
         else (if 99 < y0.Code then some false
          else spec_l6VerdictsOk_l0 m0 x0 (w64 (x3 + 1))))
        else spec_l6VerdictsOk_l0 m0 x0 (w64 (x3 + 1)))
       else (if y0.Code = 0 then (if y0.Kind = 3 then (if y0.Code < 1 then some false
          else (if 99 < y0.Code then some false
           else spec_l6VerdictsOk_l0 m0 x0 (w64 (x3 + 1))))
         else spec_l6VerdictsOk_l0 m0 x0 (w64 (x3 + 1)))
        else some false))))
    else some true
def spec_l6VerdictsOk_f (N : Nat) (a0 : List TVerdict) : Option (Bool) :=
  if 20 < (↑(List.length a0) : Int) then some false
  else spec_l6VerdictsOk_l0 N a0 0
theorem spec_l6VerdictsOk_l0_eq (E : En) (hy : Hy E [] [] [] r_spec_l6VerdictsOk none (fun y => nocap y) flatIds) : ∀ (m0 : Nat) (x0 : List TVerdict) (x3 : Int), gH E [0, 3] b0_spec_l6VerdictsOk [KJ.b 0, KJ.c k1_spec_l6VerdictsOk] m0 ⟨slotsOf [(0, .d (lstT (cVerdict) x0)), (3, .d (.int .i64 x3))], obsOf []⟩ = (spec_l6VerdictsOk_l0 m0 x0 x3).bind fun r => some (.ret (.d (.bool r)) []) := by
  intro m0
  induction m0 with
  | zero => intros; rfl
  | succ m0 ih =>
    intros
    simp (config := {maxSteps := 2000000}) only [↓rPre, rPost, rCan, rObj, rI, rS, rB, r8, rLI, rEtc, hy.p, hy.l, hy.k, hy.r, hy.d, hy.w, hy.f, flatIds, oid, r_spec_l6VerdictsOk, ↓G_unf _ _ b0_spec_l6VerdictsOk.eq_1, ↓G_unf _ _ k1_spec_l6VerdictsOk.eq_1, ↓G_unf _ _ c_spec_l6VerdictsOk.eq_1, gH_succ, ih, bind_ite, spec_l6VerdictsOk_l0, rRow3, rVerdict, rRow59, rOutcome, rRow72, rRow56, rRow74, rRow5, rRow9, rMap91, rLog, ↓reduceIte, Nat.reduceMul, Nat.reduceAdd, Nat.reduceSub, Nat.reduceEqDiff, Nat.reduceBEq, Nat.reduceLeDiff, Nat.reduceLT, reduceCtorEq, Int.reduceAdd, Int.reduceSub, Int.reduceToNat, Int.reduceNeg, Int.reduceEq, Int.reduceLT, Int.reduceLE]
theorem spec_l6VerdictsOk_g (E : En) (hy : Hy E [] [] [] r_spec_l6VerdictsOk none (fun y => nocap y) flatIds) (a0 : List TVerdict) : G E c_spec_l6VerdictsOk [] ⟨slotsOf [(0, .d (lstT cVerdict a0))], obsOf []⟩ = (spec_l6VerdictsOk_f E.n a0).bind fun r => some (.ret (.d (.bool r)) []) := by
  simp (config := {maxSteps := 2000000}) only [↓rPre, rPost, rCan, rObj, rI, rS, rB, r8, rLI, rEtc, hy.p, hy.l, hy.k, hy.r, hy.d, hy.w, hy.f, flatIds, oid, r_spec_l6VerdictsOk, ↓G_unf _ _ b0_spec_l6VerdictsOk.eq_1, ↓G_unf _ _ k1_spec_l6VerdictsOk.eq_1, ↓G_unf _ _ c_spec_l6VerdictsOk.eq_1, bind_ite, spec_l6VerdictsOk_f, spec_l6VerdictsOk_l0_eq E hy, rRow3, rVerdict, rRow59, rOutcome, rRow72, rRow56, rRow74, rRow5, rRow9, rMap91, rLog, ↓reduceIte, Nat.reduceMul, Nat.reduceAdd, Nat.reduceSub, Nat.reduceEqDiff, Nat.reduceBEq, Nat.reduceLeDiff, Nat.reduceLT, reduceCtorEq, Int.reduceAdd, Int.reduceSub, Int.reduceToNat, Int.reduceNeg, Int.reduceEq, Int.reduceLT, Int.reduceLE]
def H_spec_l6VerdictsOk (E : En) (L : (List TVerdict) → Option (Bool)) : Prop := E.Γ.mu 29 = false ∧ (∀ (a0 : List TVerdict), E.Γ 29 [.d (lstT cVerdict a0)] = (L a0).bind fun r => some (.ret (.d (.bool r)) []))
-- loop.example/s02135/spec.l1Dec
def c_spec_l1Dec : Cd :=
  sq (r [0] [o 2 .mv [s []]])
  (sq (sq (r [0, 4] [o 3 .mv [t 0], o 4 (.bin .lss) [t 3, i 0]])
    (.cond (t 4) (sq (r [2] [o 5 .mv [t 0], o 6 .neg [t 5], o 7 (.call 30) [t 6], o 8 (.bin .add) [s [45], t 7], o 2 .mv [t 8]])
      (.ret)) (.skip)))
   (sq (sq (r [0, 10] [o 9 .mv [t 0], o 10 (.bin .lss) [t 9, i 10]])
     (.cond (t 10) (sq (r [2] [o 11 .mv [t 0], o 12 (.bin .add) [i 48, t 11], o 13 (.cvt .u8) [t 12], o 14 (lit 5 1 1) [t 13], o 15 .b2s [t 14], o 2 .mv [t 15]])
       (.ret)) (.skip)))
    (sq (rd [] [2] [ap [1472] false [] (o 16 .mv [t 0]), ap [1472] false [] (o 17 (.bin .quo) [t 16, i 10]), o 19 .mv [t 0], o 20 (.bin .rem) [t 19, i 10], o 21 (.bin .add) [i 48, t 20], o 22 (.cvt .u8) [t 21], ap [] true [] (o 23 (lit 5 1 1) [t 22]), o 24 .b2s [t 23], ap [1472] false [23] (o 18 (.call 30) [t 17]), o 25 (.bin .add) [t 18, t 24], o 2 .mv [t 25]])
     (.ret))))
def r_spec_l1Dec : List RV := [.tmp 2]
def H_spec_l1Dec (E : En) (L : Int → Option (List UInt8)) : Prop := E.Γ.mu 30 = false ∧ (∀ (a0 : Int), E.Γ 30 [.d (.int .i64 a0)] = (L a0).bind fun r => some (.ret (.d (sD r)) []))
def spec_l1Dec_f (L_spec_l1Dec : Int → Option (List UInt8)) (N : Nat) (a0 : Int) : Option (List UInt8) :=
  if a0 < 0 then ((L_spec_l1Dec (w64 (0 - a0))).bind fun y0 =>
   if roomS (List.length y0 + 1) then some (45 :: y0)
   else none)
  else (if a0 < 10 then some (bytes8 [Go.IntKind.wrap .u8 (w64 (48 + a0))])
   else ((L_spec_l1Dec (w64 (Int.tdiv a0 10))).bind fun y1 =>
    if roomS (List.length (y1 ++ bytes8 [Go.IntKind.wrap .u8 (w64 (48 + Int.tmod a0 10))])) then some (y1 ++ bytes8 [Go.IntKind.wrap .u8 (w64 (48 + Int.tmod a0 10))])
    else none))
theorem spec_l1Dec_g (E : En) (hy : Hy E [] [] [] r_spec_l1Dec none (fun y => nocap y) flatIds) (L_spec_l1Dec : Int → Option (List UInt8)) (h_spec_l1Dec : H_spec_l1Dec E L_spec_l1Dec) (a0 : Int) : G E c_spec_l1Dec [] ⟨slotsOf [(0, .d (.int .i64 a0))], obsOf []⟩ = (spec_l1Dec_f L_spec_l1Dec E.n a0).bind fun r => some (.ret (.d (sD r)) []) := by
  simp (config := {maxSteps := 2000000}) only [↓rPre, rPost, rCan, rObj, rI, rS, rB, r8, rLI, rEtc, hy.p, hy.l, hy.k, hy.r, hy.d, hy.w, hy.f, flatIds, oid, r_spec_l1Dec, ↓G_unf _ _ c_spec_l1Dec.eq_1, h_spec_l1Dec.2, h_spec_l1Dec.1, bind_ite, spec_l1Dec_f, rRow3, rVerdict, rRow59, rOutcome, rRow72, rRow56, rRow74, rRow5, rRow9, rMap91, rLog, ↓reduceIte, Nat.reduceMul, Nat.reduceAdd, Nat.reduceSub, Nat.reduceEqDiff, Nat.reduceBEq, Nat.reduceLeDiff, Nat.reduceLT, reduceCtorEq, Int.reduceAdd, Int.reduceSub, Int.reduceToNat, Int.reduceNeg, Int.reduceEq, Int.reduceLT, Int.reduceLE]
-- loop.example/s02135/spec.l6Word
def c_spec_l6Word : Cd :=
  sq (r [1] [o 1 .box [t 0], o 2 .mv [s []]])
  (sq (sq (r [1, 5] [o 3 (.fa 0) [t 1], o 4 (.ld none) [t 3], o 5 (.bin .eql) [t 4, i 3]])
    (.cond (t 5) (sq (r [2] [o 6 (.fa 1) [t 1], o 7 (.ld none) [t 6], o 8 (.call 30) [t 7], o 9 (.bin .add) [s [101, 114, 114, 111, 114, 32], t 8], o 2 .mv [t 9]])
      (.ret)) (.skip)))
   (sq (r [2] [o 10 (lit 9 1 5) [s [112, 97, 115, 115], s [102, 97, 105, 108], s [], s [102, 117, 101, 108], s [99, 101, 108, 108, 115]], o 11 (.fa 0) [t 1], o 12 (.ld none) [t 11], o 13 (.bin .sub) [t 12, i 1], o 14 (.ia 1) [t 10, t 13], o 15 (.ld none) [t 14], o 2 .mv [t 15]])
    (.ret)))
def r_spec_l6Word : List RV := [.tmp 2]
def spec_l6Word_f (L_spec_l1Dec : Int → Option (List UInt8)) (N : Nat) (a0_Kind : Int) (a0_Code : Int) : Option (List UInt8) :=
  if a0_Kind = 3 then ((L_spec_l1Dec a0_Code).bind fun y0 =>
   if roomS (List.length y0 + 1 + 1 + 1 + 1 + 1 + 1) then some (101 :: 114 :: 114 :: 111 :: 114 :: 32 :: y0)
   else none)
  else (if 0 ≤ w64 (a0_Kind - 1) ∧ w64 (a0_Kind - 1) < 5 then (if Int.toNat (w64 (a0_Kind - 1)) = 0 then some ([112, 97, 115, 115])
    else (if Int.toNat (w64 (a0_Kind - 1)) = 1 then some ([102, 97, 105, 108])
     else (if Int.toNat (w64 (a0_Kind - 1)) = 2 then some []
      else (if Int.toNat (w64 (a0_Kind - 1)) = 3 then some ([102, 117, 101, 108])
       else (if Int.toNat (w64 (a0_Kind - 1)) = 4 then some ([99, 101, 108, 108, 115])
        else none)))))
   else none)
theorem spec_l6Word_g (E : En) (hy : Hy E [] [] [] r_spec_l6Word none (fun y => nocap y) flatIds) (L_spec_l1Dec : Int → Option (List UInt8)) (h_spec_l1Dec : H_spec_l1Dec E L_spec_l1Dec) (a0_Kind : Int) (a0_Code : Int) : G E c_spec_l6Word [] ⟨slotsOf [(0, .agg [.d (.int .i64 a0_Kind), .d (.int .i64 a0_Code)])], obsOf []⟩ = (spec_l6Word_f L_spec_l1Dec E.n a0_Kind a0_Code).bind fun r => some (.ret (.d (sD r)) []) := by
  simp (config := {maxSteps := 2000000}) only [↓rPre, rPost, rCan, rObj, rI, rS, rB, r8, rLI, rEtc, hy.p, hy.l, hy.k, hy.r, hy.d, hy.w, hy.f, flatIds, oid, r_spec_l6Word, ↓G_unf _ _ c_spec_l6Word.eq_1, h_spec_l1Dec.2, h_spec_l1Dec.1, bind_ite, spec_l6Word_f, rRow3, rVerdict, rRow59, rOutcome, rRow72, rRow56, rRow74, rRow5, rRow9, rMap91, rLog, ↓reduceIte, Nat.reduceMul, Nat.reduceAdd, Nat.reduceSub, Nat.reduceEqDiff, Nat.reduceBEq, Nat.reduceLeDiff, Nat.reduceLT, reduceCtorEq, Int.reduceAdd, Int.reduceSub, Int.reduceToNat, Int.reduceNeg, Int.reduceEq, Int.reduceLT, Int.reduceLE]
def H_spec_l6Word (E : En) (L : Int → Int → Option (List UInt8)) : Prop := E.Γ.mu 31 = false ∧ (∀ (a0_Kind : Int) (a0_Code : Int), E.Γ 31 [.agg [.d (.int .i64 a0_Kind), .d (.int .i64 a0_Code)]] = (L a0_Kind a0_Code).bind fun r => some (.ret (.d (sD r)) []))
-- loop.example/s02135/spec.l2Bool
def c_spec_l2Bool : Cd :=
  sq (r [0] [o 2 .mv [i 0]])
  (sq (sq (r [3] [o 3 .mv [t 0]])
    (.cond (t 3) (sq (r [2] [o 2 .mv [i 1]])
      (.ret)) (.skip)))
   (sq (r [2] [o 2 .mv [i 0]])
    (.ret)))
def r_spec_l2Bool : List RV := [.tmp 2]
def spec_l2Bool_f (N : Nat) (a0 : Bool) : Option (Int) :=
  if a0 = true then some 1
  else some 0
theorem spec_l2Bool_g (E : En) (hy : Hy E [] [] [] r_spec_l2Bool none (fun y => nocap y) flatIds) (a0 : Bool) : G E c_spec_l2Bool [] ⟨slotsOf [(0, .d (.bool a0))], obsOf []⟩ = (spec_l2Bool_f E.n a0).bind fun r => some (.ret (.d (.int .i64 r)) []) := by
  simp (config := {maxSteps := 2000000}) only [↓rPre, rPost, rCan, rObj, rI, rS, rB, r8, rLI, rEtc, hy.p, hy.l, hy.k, hy.r, hy.d, hy.w, hy.f, flatIds, oid, r_spec_l2Bool, ↓G_unf _ _ c_spec_l2Bool.eq_1, bind_ite, spec_l2Bool_f, rRow3, rVerdict, rRow59, rOutcome, rRow72, rRow56, rRow74, rRow5, rRow9, rMap91, rLog, ↓reduceIte, Nat.reduceMul, Nat.reduceAdd, Nat.reduceSub, Nat.reduceEqDiff, Nat.reduceBEq, Nat.reduceLeDiff, Nat.reduceLT, reduceCtorEq, Int.reduceAdd, Int.reduceSub, Int.reduceToNat, Int.reduceNeg, Int.reduceEq, Int.reduceLT, Int.reduceLE]
def H_spec_l2Bool (E : En) (L : Bool → Option (Int)) : Prop := E.Γ.mu 32 = false ∧ (∀ (a0 : Bool), E.Γ 32 [.d (.bool a0)] = (L a0).bind fun r => some (.ret (.d (.int .i64 r)) []))
-- loop.example/s02135/spec.Report
def b0_spec_Report : Cd :=
  sq (sq (r [1, 6, 7, 8, 23] [o 20 .mv [t 8], o 21 .mv [t 1], o 22 (.len false) [t 21], o 23 (.bin .lss) [t 20, t 22]])
   (.cond (t 23) (.skip) (.exit 0)))
  (sq (.block 1 (sq (rd [] [1, 6, 7, 8] [o 26 .mv [t 6], o 27 (.bin .add) [t 26, s [116, 101, 115, 116, 32]], o 28 .mv [t 8], o 29 (.bin .add) [t 28, i 1], o 33 .mv [t 1], o 34 .mv [t 8], o 35 (.ia 2) [t 33, t 34], o 36 (.ld (some 2)) [t 35], ap [] false [33, 34, 35] (o 30 (.call 30) [t 29]), o 31 (.bin .add) [t 27, t 30], o 32 (.bin .add) [t 31, s [32]], o 37 (.call 31) [t 36], o 38 (.bin .add) [t 32, t 37], o 39 (.bin .add) [t 38, s [10]], o 6 .mv [t 39]])
     (r [1, 6, 7, 8] [o 40 .mv [t 7], o 41 .mv [t 1], o 42 .mv [t 8], o 43 (.ia 2) [t 41, t 42], o 44 (.fa 0) [t 43], o 45 (.ld none) [t 44], o 46 (.bin .eql) [t 45, i 1], o 47 (.call 32) [t 46], o 48 (.bin .add) [t 40, t 47], o 7 .mv [t 48]])))
   (r [1, 6, 7, 8] [o 24 .mv [t 8], o 25 (.bin .add) [t 24, i 1], o 8 .mv [t 25]]))
def k1_spec_Report : Cd :=
  sq (r [4, 5] [o 49 .mv [t 6], o 50 (.bin .add) [t 49, s [112, 97, 115, 115, 101, 100, 32]], o 51 .mv [t 7], o 52 (.call 30) [t 51], o 53 (.bin .add) [t 50, t 52], o 54 (.bin .add) [t 53, s [32, 111, 102, 32]], o 55 .mv [t 1], o 56 (.len false) [t 55], o 57 (.call 30) [t 56], o 58 (.bin .add) [t 54, t 57], o 59 (.bin .add) [t 58, s [10]], o 4 .mv [t 59], o 5 .mv [b true]])
  (.ret)
def c_spec_Report : Cd :=
  sq (r [0, 1] [o 4 .mv [s []], o 5 .mv [b false]])
  (sq (sq (r [0, 1, 16] [o 9 .mv [t 0], o 10 (.call 28) [t 9], o 11 .not [t 10], o 12 .mv [t 11], g 12 false 13 .mv [t 1], g 12 false 14 (.call 29) [t 13], g 12 false 15 .not [t 14], o 16 .pick [t 12, b true, t 15]])
    (.cond (t 16) (sq (r [4, 5] [o 4 .mv [s []], o 5 .mv [b false]])
      (.ret)) (.skip)))
   (sq (r [1, 6] [o 17 .mv [t 0], o 18 (.bin .add) [s [115, 116, 117, 100, 101, 110, 116, 32], t 17], o 19 (.bin .add) [t 18, s [10]], o 6 .mv [t 19]])
    (sq (r [1, 6, 7] [o 7 .mv [i 0]])
     (sq (sq (r [1, 6, 7, 8] [o 8 .mv [i 0]])
       (.block 0 (.loop [1, 6, 7, 8] b0_spec_Report))) k1_spec_Report))))
def r_spec_Report : List RV := [.tmp 4, .tmp 5]
def spec_Report_l0 (L_spec_l6IdOk : (List UInt8) → Option (Bool)) (L_spec_l6VerdictsOk : (List TVerdict) → Option (Bool)) (L_spec_l1Dec : Int → Option (List UInt8)) (L_spec_l6Word : Int → Int → Option (List UInt8)) (L_spec_l2Bool : Bool → Option (Int)) : Nat → (List TVerdict) → (List UInt8) → Int → Int → Option (List UInt8 × Bool)
  | 0, _, _, _, _ => none
  | m0 + 1, x1, x6, x7, x8 =>
    if x8 < (↑(List.length x1) : Int) then (if roomS (List.length (x6 ++ [116, 101, 115, 116, 32])) then ((idx x1 x8).bind fun y0 =>
      (L_spec_l1Dec (w64 (x8 + 1))).bind fun y1 =>
      if roomS (List.length (x6 ++ [116, 101, 115, 116, 32] ++ y1)) then (if roomS (List.length (x6 ++ [116, 101, 115, 116, 32] ++ y1 ++ [32])) then ((L_spec_l6Word y0.Kind y0.Code).bind fun y2 =>
        if roomS (List.length (x6 ++ [116, 101, 115, 116, 32] ++ y1 ++ [32] ++ y2)) then (if roomS (List.length (x6 ++ [116, 101, 115, 116, 32] ++ y1 ++ [32] ++ y2 ++ [10])) then ((idx x1 x8).bind fun y3 =>
          (L_spec_l2Bool (Decidable.decide (y3.Kind = 1))).bind fun y4 =>
          spec_Report_l0 L_spec_l6IdOk L_spec_l6VerdictsOk L_spec_l1Dec L_spec_l6Word L_spec_l2Bool m0 x1 (x6 ++ [116, 101, 115, 116, 32] ++ y1 ++ [32] ++ y2 ++ [10]) (w64 (x7 + y4)) (w64 (x8 + 1)))
         else none)
        else none)
       else none)
      else none)
     else none)
    else (if roomS (List.length (x6 ++ [112, 97, 115, 115, 101, 100, 32])) then ((L_spec_l1Dec x7).bind fun y5 =>
      if roomS (List.length (x6 ++ [112, 97, 115, 115, 101, 100, 32] ++ y5)) then (if roomS (List.length (x6 ++ [112, 97, 115, 115, 101, 100, 32] ++ y5 ++ [32, 111, 102, 32])) then ((L_spec_l1Dec (↑(List.length x1) : Int)).bind fun y6 =>
        if roomS (List.length (x6 ++ [112, 97, 115, 115, 101, 100, 32] ++ y5 ++ [32, 111, 102, 32] ++ y6)) then (if roomS (List.length (x6 ++ [112, 97, 115, 115, 101, 100, 32] ++ y5 ++ [32, 111, 102, 32] ++ y6 ++ [10])) then some ((x6 ++ [112, 97, 115, 115, 101, 100, 32] ++ y5 ++ [32, 111, 102, 32] ++ y6 ++ [10], true))
         else none)
        else none)
       else none)
      else none)
     else none)
def spec_Report_f (L_spec_l6IdOk : (List UInt8) → Option (Bool)) (L_spec_l6VerdictsOk : (List TVerdict) → Option (Bool)) (L_spec_l1Dec : Int → Option (List UInt8)) (L_spec_l6Word : Int → Int → Option (List UInt8)) (L_spec_l2Bool : Bool → Option (Int)) (N : Nat) (a0 : List UInt8) (a1 : List TVerdict) : Option (List UInt8 × Bool) :=
  (L_spec_l6IdOk a0).bind fun y0 =>
  if y0 = false then some (([], false))
  else ((L_spec_l6VerdictsOk a1).bind fun y1 =>
   if y1 = false then some (([], false))
   else (if roomS (List.length a0 + 1 + 1 + 1 + 1 + 1 + 1 + 1 + 1) then (if roomS (List.length (a0 ++ [10]) + 1 + 1 + 1 + 1 + 1 + 1 + 1 + 1) then spec_Report_l0 L_spec_l6IdOk L_spec_l6VerdictsOk L_spec_l1Dec L_spec_l6Word L_spec_l2Bool N a1 (115 :: 116 :: 117 :: 100 :: 101 :: 110 :: 116 :: 32 :: (a0 ++ [10])) 0 0
     else none)
    else none))
theorem spec_Report_l0_eq (E : En) (hy : Hy E [] [] [] r_spec_Report none (fun y => nocap y) flatIds) (L_spec_l6IdOk : (List UInt8) → Option (Bool)) (h_spec_l6IdOk : H_spec_l6IdOk E L_spec_l6IdOk) (L_spec_l6VerdictsOk : (List TVerdict) → Option (Bool)) (h_spec_l6VerdictsOk : H_spec_l6VerdictsOk E L_spec_l6VerdictsOk) (L_spec_l1Dec : Int → Option (List UInt8)) (h_spec_l1Dec : H_spec_l1Dec E L_spec_l1Dec) (L_spec_l6Word : Int → Int → Option (List UInt8)) (h_spec_l6Word : H_spec_l6Word E L_spec_l6Word) (L_spec_l2Bool : Bool → Option (Int)) (h_spec_l2Bool : H_spec_l2Bool E L_spec_l2Bool) : ∀ (m0 : Nat) (x1 : List TVerdict) (x6 : List UInt8) (x7 : Int) (x8 : Int), gH E [1, 6, 7, 8] b0_spec_Report [KJ.b 0, KJ.c k1_spec_Report] m0 ⟨slotsOf [(1, .d (lstT (cVerdict) x1)), (6, .d (sD x6)), (7, .d (.int .i64 x7)), (8, .d (.int .i64 x8))], obsOf []⟩ = (spec_Report_l0 L_spec_l6IdOk L_spec_l6VerdictsOk L_spec_l1Dec L_spec_l6Word L_spec_l2Bool m0 x1 x6 x7 x8).bind fun r => some (.ret (.tup [.d (sD r.1), .d (.bool r.2)]) []) := by
  intro m0
  induction m0 with
  | zero => intros; rfl
  | succ m0 ih =>
    intros
    simp (config := {maxSteps := 2000000}) only [↓rPre, rPost, rCan, rObj, rI, rS, rB, r8, rLI, rEtc, hy.p, hy.l, hy.k, hy.r, hy.d, hy.w, hy.f, flatIds, oid, r_spec_Report, ↓G_unf _ _ b0_spec_Report.eq_1, ↓G_unf _ _ k1_spec_Report.eq_1, ↓G_unf _ _ c_spec_Report.eq_1, h_spec_l6IdOk.2, h_spec_l6IdOk.1, h_spec_l6VerdictsOk.2, h_spec_l6VerdictsOk.1, h_spec_l1Dec.2, h_spec_l1Dec.1, h_spec_l6Word.2, h_spec_l6Word.1, h_spec_l2Bool.2, h_spec_l2Bool.1, gH_succ, ih, bind_ite, spec_Report_l0, rRow3, rVerdict, rRow59, rOutcome, rRow72, rRow56, rRow74, rRow5, rRow9, rMap91, rLog, ↓reduceIte, Nat.reduceMul, Nat.reduceAdd, Nat.reduceSub, Nat.reduceEqDiff, Nat.reduceBEq, Nat.reduceLeDiff, Nat.reduceLT, reduceCtorEq, Int.reduceAdd, Int.reduceSub, Int.reduceToNat, Int.reduceNeg, Int.reduceEq, Int.reduceLT, Int.reduceLE]
theorem spec_Report_g (E : En) (hy : Hy E [] [] [] r_spec_Report none (fun y => nocap y) flatIds) (L_spec_l6IdOk : (List UInt8) → Option (Bool)) (h_spec_l6IdOk : H_spec_l6IdOk E L_spec_l6IdOk) (L_spec_l6VerdictsOk : (List TVerdict) → Option (Bool)) (h_spec_l6VerdictsOk : H_spec_l6VerdictsOk E L_spec_l6VerdictsOk) (L_spec_l1Dec : Int → Option (List UInt8)) (h_spec_l1Dec : H_spec_l1Dec E L_spec_l1Dec) (L_spec_l6Word : Int → Int → Option (List UInt8)) (h_spec_l6Word : H_spec_l6Word E L_spec_l6Word) (L_spec_l2Bool : Bool → Option (Int)) (h_spec_l2Bool : H_spec_l2Bool E L_spec_l2Bool) (a0 : List UInt8) (a1 : List TVerdict) : G E c_spec_Report [] ⟨slotsOf [(0, .d (sD a0)), (1, .d (lstT cVerdict a1))], obsOf []⟩ = (spec_Report_f L_spec_l6IdOk L_spec_l6VerdictsOk L_spec_l1Dec L_spec_l6Word L_spec_l2Bool E.n a0 a1).bind fun r => some (.ret (.tup [.d (sD r.1), .d (.bool r.2)]) []) := by
  simp (config := {maxSteps := 2000000}) only [↓rPre, rPost, rCan, rObj, rI, rS, rB, r8, rLI, rEtc, hy.p, hy.l, hy.k, hy.r, hy.d, hy.w, hy.f, flatIds, oid, r_spec_Report, ↓G_unf _ _ b0_spec_Report.eq_1, ↓G_unf _ _ k1_spec_Report.eq_1, ↓G_unf _ _ c_spec_Report.eq_1, h_spec_l6IdOk.2, h_spec_l6IdOk.1, h_spec_l6VerdictsOk.2, h_spec_l6VerdictsOk.1, h_spec_l1Dec.2, h_spec_l1Dec.1, h_spec_l6Word.2, h_spec_l6Word.1, h_spec_l2Bool.2, h_spec_l2Bool.1, bind_ite, spec_Report_f, spec_Report_l0_eq E hy L_spec_l6IdOk h_spec_l6IdOk L_spec_l6VerdictsOk h_spec_l6VerdictsOk L_spec_l1Dec h_spec_l1Dec L_spec_l6Word h_spec_l6Word L_spec_l2Bool h_spec_l2Bool, rRow3, rVerdict, rRow59, rOutcome, rRow72, rRow56, rRow74, rRow5, rRow9, rMap91, rLog, ↓reduceIte, Nat.reduceMul, Nat.reduceAdd, Nat.reduceSub, Nat.reduceEqDiff, Nat.reduceBEq, Nat.reduceLeDiff, Nat.reduceLT, reduceCtorEq, Int.reduceAdd, Int.reduceSub, Int.reduceToNat, Int.reduceNeg, Int.reduceEq, Int.reduceLT, Int.reduceLE]
def H_spec_Report (E : En) (L : (List UInt8) → (List TVerdict) → Option (List UInt8 × Bool)) : Prop := E.Γ.mu 12 = false ∧ (∀ (a0 : List UInt8) (a1 : List TVerdict), E.Γ 12 [.d (sD a0), .d (lstT cVerdict a1)] = (L a0 a1).bind fun r => some (.ret (.tup [.d (sD r.1), .d (.bool r.2)]) []))
-- loop.example/s02135/impl.isDigit
def c_impl_isDigit : Cd :=
  sq (r [0] [o 2 .mv [b false]])
  (sq (r [2] [o 3 .mv [t 0], o 4 (.bin .leq) [.k (.d (.int .u8 48)), t 3], o 5 .mv [t 4], g 5 true 6 .mv [t 0], g 5 true 7 (.bin .leq) [t 6, .k (.d (.int .u8 57))], o 8 .pick [t 5, t 7, b false], o 2 .mv [t 8]])
   (.ret))
def r_impl_isDigit : List RV := [.tmp 2]
def impl_isDigit_f (N : Nat) (a0 : Int) : Option (Bool) :=
  if 48 ≤ a0 then some (Decidable.decide (a0 ≤ 57))
  else some false
theorem impl_isDigit_g (E : En) (hy : Hy E [] [] [] r_impl_isDigit none (fun y => nocap y) flatIds) (a0 : Int) : G E c_impl_isDigit [] ⟨slotsOf [(0, .d (.int .u8 a0))], obsOf []⟩ = (impl_isDigit_f E.n a0).bind fun r => some (.ret (.d (.bool r)) []) := by
  simp (config := {maxSteps := 2000000}) only [↓rPre, rPost, rCan, rObj, rI, rS, rB, r8, rLI, rEtc, hy.p, hy.l, hy.k, hy.r, hy.d, hy.w, hy.f, flatIds, oid, r_impl_isDigit, ↓G_unf _ _ c_impl_isDigit.eq_1, bind_ite, impl_isDigit_f, rRow3, rVerdict, rRow59, rOutcome, rRow72, rRow56, rRow74, rRow5, rRow9, rMap91, rLog, ↓reduceIte, Nat.reduceMul, Nat.reduceAdd, Nat.reduceSub, Nat.reduceEqDiff, Nat.reduceBEq, Nat.reduceLeDiff, Nat.reduceLT, reduceCtorEq, Int.reduceAdd, Int.reduceSub, Int.reduceToNat, Int.reduceNeg, Int.reduceEq, Int.reduceLT, Int.reduceLE]
def H_impl_isDigit (E : En) (L : Int → Option (Bool)) : Prop := E.Γ.mu 52 = false ∧ (∀ (a0 : Int), E.Γ 52 [.d (.int .u8 a0)] = (L a0).bind fun r => some (.ret (.d (.bool r)) []))
-- loop.example/s02135/impl.isLetter
def c_impl_isLetter : Cd :=
  sq (r [0] [o 2 .mv [b false]])
  (sq (r [2] [o 3 .mv [t 0], o 4 (.bin .leq) [.k (.d (.int .u8 97)), t 3], o 5 .mv [t 4], g 5 true 6 .mv [t 0], g 5 true 7 (.bin .leq) [t 6, .k (.d (.int .u8 122))], o 8 .pick [t 5, t 7, b false], o 9 .mv [t 8], g 9 false 10 .mv [t 0], g 9 false 11 (.bin .leq) [.k (.d (.int .u8 65)), t 10], g 9 false 12 .mv [t 11], g 12 true 13 .mv [t 0], g 12 true 14 (.bin .leq) [t 13, .k (.d (.int .u8 90))], g 9 false 15 .pick [t 12, t 14, b false], o 16 .pick [t 9, b true, t 15], o 2 .mv [t 16]])
   (.ret))
def r_impl_isLetter : List RV := [.tmp 2]
def impl_isLetter_f (N : Nat) (a0 : Int) : Option (Bool) :=
  if 97 ≤ a0 then (if a0 ≤ 122 then some true
   else (if 65 ≤ a0 then some (Decidable.decide (a0 ≤ 90))
    else some false))
  else (if 65 ≤ a0 then some (Decidable.decide (a0 ≤ 90))
   else some false)
theorem impl_isLetter_g (E : En) (hy : Hy E [] [] [] r_impl_isLetter none (fun y => nocap y) flatIds) (a0 : Int) : G E c_impl_isLetter [] ⟨slotsOf [(0, .d (.int .u8 a0))], obsOf []⟩ = (impl_isLetter_f E.n a0).bind fun r => some (.ret (.d (.bool r)) []) := by
  simp (config := {maxSteps := 2000000}) only [↓rPre, rPost, rCan, rObj, rI, rS, rB, r8, rLI, rEtc, hy.p, hy.l, hy.k, hy.r, hy.d, hy.w, hy.f, flatIds, oid, r_impl_isLetter, ↓G_unf _ _ c_impl_isLetter.eq_1, bind_ite, impl_isLetter_f, rRow3, rVerdict, rRow59, rOutcome, rRow72, rRow56, rRow74, rRow5, rRow9, rMap91, rLog, ↓reduceIte, Nat.reduceMul, Nat.reduceAdd, Nat.reduceSub, Nat.reduceEqDiff, Nat.reduceBEq, Nat.reduceLeDiff, Nat.reduceLT, reduceCtorEq, Int.reduceAdd, Int.reduceSub, Int.reduceToNat, Int.reduceNeg, Int.reduceEq, Int.reduceLT, Int.reduceLE]
def H_impl_isLetter (E : En) (L : Int → Option (Bool)) : Prop := E.Γ.mu 53 = false ∧ (∀ (a0 : Int), E.Γ 53 [.d (.int .u8 a0)] = (L a0).bind fun r => some (.ret (.d (.bool r)) []))
-- loop.example/s02135/impl.idOk
def b0_impl_idOk : Cd :=
  sq (r [0, 13, 14, 15] [o 15 (.bin .lss) [t 14, t 13]])
  (sq (.cond (t 15) (.skip) (.exit 0))
   (sq (.block 1 (sq (r [0, 3, 13, 14] [o 16 .mv [t 14], o 3 .mv [t 16]])
      (sq (r [0, 13, 14, 28] [o 17 .mv [t 0], o 18 .mv [t 3], o 19 .ixs [t 17, t 18], o 20 (.call 52) [t 19], o 21 .not [t 20], o 22 .mv [t 21], g 22 true 23 .mv [t 0], g 22 true 24 .mv [t 3], g 22 true 25 .ixs [t 23, t 24], g 22 true 26 (.call 53) [t 25], g 22 true 27 .not [t 26], o 28 .pick [t 22, t 27, b false]])
       (.cond (t 28) (sq (r [2] [o 2 .mv [b false]])
         (.ret)) (.skip)))))
    (r [0, 13, 14] [o 29 (.bin .add) [t 14, i 1], o 14 .mv [t 29]])))
def k1_impl_idOk : Cd :=
  sq (r [2] [o 2 .mv [b true]])
  (.ret)
def c_impl_idOk : Cd :=
  sq (r [0] [o 2 .mv [b false]])
  (sq (sq (r [0, 11] [o 4 .mv [t 0], o 5 (.len true) [t 4], o 6 (.bin .lss) [t 5, i 1], o 7 .mv [t 6], g 7 false 8 .mv [t 0], g 7 false 9 (.len true) [t 8], g 7 false 10 (.bin .gtr) [t 9, i 20], o 11 .pick [t 7, b true, t 10]])
    (.cond (t 11) (sq (r [2] [o 2 .mv [b false]])
      (.ret)) (.skip)))
   (sq (sq (r [0, 13, 14] [o 12 .mv [t 0], o 13 (.len true) [t 12], o 14 .mv [i 0]])
     (.block 0 (.loop [0, 13, 14] b0_impl_idOk))) k1_impl_idOk))
def r_impl_idOk : List RV := [.tmp 2]
def impl_idOk_l0 (L_impl_isDigit : Int → Option (Bool)) (L_impl_isLetter : Int → Option (Bool)) : Nat → (List UInt8) → Int → Int → Option (Bool)
  | 0, _, _, _ => none
  | m0 + 1, x0, x13, x14 =>
    if x14 < x13 then ((idxB x0 x14).bind fun y0 =>
     (L_impl_isDigit y0).bind fun y1 =>
     if y1 = false then ((idxB x0 x14).bind fun y2 =>
      (L_impl_isLetter y2).bind fun y3 =>
      if y3 = false then some false
      else impl_idOk_l0 L_impl_isDigit L_impl_isLetter m0 x0 x13 (w64 (x14 + 1)))
     else impl_idOk_l0 L_impl_isDigit L_impl_isLetter m0 x0 x13 (w64 (x14 + 1)))
    else some true
def impl_idOk_f (L_impl_isDigit : Int → Option (Bool)) (L_impl_isLetter : Int → Option (Bool)) (N : Nat) (a0 : List UInt8) : Option (Bool) :=
  if (↑(List.length a0) : Int) < 1 then some false
  else (if 20 < (↑(List.length a0) : Int) then some false
   else impl_idOk_l0 L_impl_isDigit L_impl_isLetter N a0 ((↑(List.length a0) : Int)) 0)
theorem impl_idOk_l0_eq (E : En) (hy : Hy E [] [] [] r_impl_idOk none (fun y => nocap y) flatIds) (L_impl_isDigit : Int → Option (Bool)) (h_impl_isDigit : H_impl_isDigit E L_impl_isDigit) (L_impl_isLetter : Int → Option (Bool)) (h_impl_isLetter : H_impl_isLetter E L_impl_isLetter) : ∀ (m0 : Nat) (x0 : List UInt8) (x13 : Int) (x14 : Int), gH E [0, 13, 14] b0_impl_idOk [KJ.b 0, KJ.c k1_impl_idOk] m0 ⟨slotsOf [(0, .d (sD x0)), (13, .d (.int .i64 x13)), (14, .d (.int .i64 x14))], obsOf []⟩ = (impl_idOk_l0 L_impl_isDigit L_impl_isLetter m0 x0 x13 x14).bind fun r => some (.ret (.d (.bool r)) []) := by
  intro m0
  induction m0 with
  | zero => intros; rfl
  | succ m0 ih =>
    intros
    simp (config := {maxSteps := 2000000}) only [↓rPre, rPost, rCan, rObj, rI, rS, rB, r8, rLI, rEtc, hy.p, hy.l, hy.k, hy.r, hy.d, hy.w, hy.f, flatIds, oid, r_impl_idOk, ↓G_unf _ _ b0_impl_idOk.eq_1, ↓G_unf _ _ k1_impl_idOk.eq_1, ↓G_unf _ _ c_impl_idOk.eq_1, h_impl_isDigit.2, h_impl_isDigit.1, h_impl_isLetter.2, h_impl_isLetter.1, gH_succ, ih, bind_ite, impl_idOk_l0, rRow3, rVerdict, rRow59, rOutcome, rRow72, rRow56, rRow74, rRow5, rRow9, rMap91, rLog, ↓reduceIte, Nat.reduceMul, Nat.reduceAdd, Nat.reduceSub, Nat.reduceEqDiff, Nat.reduceBEq, Nat.reduceLeDiff, Nat.reduceLT, reduceCtorEq, Int.reduceAdd, Int.reduceSub, Int.reduceToNat, Int.reduceNeg, Int.reduceEq, Int.reduceLT, Int.reduceLE]
theorem impl_idOk_g (E : En) (hy : Hy E [] [] [] r_impl_idOk none (fun y => nocap y) flatIds) (L_impl_isDigit : Int → Option (Bool)) (h_impl_isDigit : H_impl_isDigit E L_impl_isDigit) (L_impl_isLetter : Int → Option (Bool)) (h_impl_isLetter : H_impl_isLetter E L_impl_isLetter) (a0 : List UInt8) : G E c_impl_idOk [] ⟨slotsOf [(0, .d (sD a0))], obsOf []⟩ = (impl_idOk_f L_impl_isDigit L_impl_isLetter E.n a0).bind fun r => some (.ret (.d (.bool r)) []) := by
  simp (config := {maxSteps := 2000000}) only [↓rPre, rPost, rCan, rObj, rI, rS, rB, r8, rLI, rEtc, hy.p, hy.l, hy.k, hy.r, hy.d, hy.w, hy.f, flatIds, oid, r_impl_idOk, ↓G_unf _ _ b0_impl_idOk.eq_1, ↓G_unf _ _ k1_impl_idOk.eq_1, ↓G_unf _ _ c_impl_idOk.eq_1, h_impl_isDigit.2, h_impl_isDigit.1, h_impl_isLetter.2, h_impl_isLetter.1, bind_ite, impl_idOk_f, impl_idOk_l0_eq E hy L_impl_isDigit h_impl_isDigit L_impl_isLetter h_impl_isLetter, rRow3, rVerdict, rRow59, rOutcome, rRow72, rRow56, rRow74, rRow5, rRow9, rMap91, rLog, ↓reduceIte, Nat.reduceMul, Nat.reduceAdd, Nat.reduceSub, Nat.reduceEqDiff, Nat.reduceBEq, Nat.reduceLeDiff, Nat.reduceLT, reduceCtorEq, Int.reduceAdd, Int.reduceSub, Int.reduceToNat, Int.reduceNeg, Int.reduceEq, Int.reduceLT, Int.reduceLE]
def H_impl_idOk (E : En) (L : (List UInt8) → Option (Bool)) : Prop := E.Γ.mu 34 = false ∧ (∀ (a0 : List UInt8), E.Γ 34 [.d (sD a0)] = (L a0).bind fun r => some (.ret (.d (.bool r)) []))
-- strings.Join
def H_strings_Join (E : En) (L : (List (List UInt8)) → (List UInt8) → Option (List UInt8)) : Prop := E.Γ.mu 54 = false ∧ (∀ (a0 : List (List UInt8)) (a1 : List UInt8), E.Γ 54 [.d (lstT cS a0), .d (sD a1)] = (L a0 a1).bind fun r => some (.ret (.d (sD r)) []))
-- (*strings.Builder).WriteString
def H___strings_Builder__WriteString (E : En) (L : Nat → (List UInt8) → (List UInt8) → Option (Int × List UInt8)) : Prop := E.Γ.mu 49 = false ∧ (∀ (T : Nat) (b : List UInt8) (a1 : List UInt8), E.Γ 49 [.res (.bld T 5) (sD b), .d (sD a1)] = (L T b a1).bind fun r => some (.ret (.tup [.d (.int .i64 r.1), .d .nili]) [[sD r.2]]))
-- (*strings.Builder).WriteByte
def H___strings_Builder__WriteByte (E : En) (L : Nat → (List UInt8) → Int → Option (List UInt8)) : Prop := E.Γ.mu 48 = false ∧ (∀ (T : Nat) (b : List UInt8) (a1 : Int), E.Γ 48 [.res (.bld T 5) (sD b), .d (.int .u8 a1)] = (L T b a1).bind fun r => some (.ret (.d .nili) [[sD r]]))
-- (*loop.example/s02135/impl.lines).put
def c___impl_lines__put : Cd :=
  sq (rd [] [0] [o 4 .mv [t 0], o 5 .nilck [t 4], o 6 (.fa 0) [t 5], o 7 .mv [t 1], ap [] false [4, 5] (o 8 (.call 54) [t 7, s [32]]), o 9 (.call 49) [t 6, t 8]])
  (r [0] [o 10 .mv [t 0], o 11 .nilck [t 10], o 12 (.fa 0) [t 11], o 13 (.call 48) [t 12, .k (.d (.int .u8 10))]])
def r___impl_lines__put : List RV := []
def __impl_lines__put_f (L_strings_Join : (List (List UInt8)) → (List UInt8) → Option (List UInt8)) (L___strings_Builder__WriteString : Nat → (List UInt8) → (List UInt8) → Option (Int × List UInt8)) (L___strings_Builder__WriteByte : Nat → (List UInt8) → Int → Option (List UInt8)) (N : Nat) (a0 : List UInt8) (a1 : List (List UInt8)) : Option (List UInt8) :=
  (L_strings_Join a1 [32]).bind fun y0 =>
  (L___strings_Builder__WriteString 65 a0 y0).bind fun y1 =>
  (L___strings_Builder__WriteByte 65 y1.snd 10).bind fun y2 =>
  some y2
theorem __impl_lines__put_g (E : En) (hy : Hy E [0] [0] [(0, .res (.bld 65 5))] r___impl_lines__put none (fun y => nocap y) flatIds) (L_strings_Join : (List (List UInt8)) → (List UInt8) → Option (List UInt8)) (h_strings_Join : H_strings_Join E L_strings_Join) (L___strings_Builder__WriteString : Nat → (List UInt8) → (List UInt8) → Option (Int × List UInt8)) (h___strings_Builder__WriteString : H___strings_Builder__WriteString E L___strings_Builder__WriteString) (L___strings_Builder__WriteByte : Nat → (List UInt8) → Int → Option (List UInt8)) (h___strings_Builder__WriteByte : H___strings_Builder__WriteByte E L___strings_Builder__WriteByte) (a0 : List UInt8) (a1 : List (List UInt8)) : G E c___impl_lines__put [] ⟨slotsOf [(0, .row 0 1), (1, .d (lstT cS a1))], obsOf [(0, ⟨1, .res (.bld 65 5) (sD a0), false⟩)]⟩ = (__impl_lines__put_f L_strings_Join L___strings_Builder__WriteString L___strings_Builder__WriteByte E.n a0 a1).bind fun r => some (.ret (.tup []) [[sD r]]) := by
  simp (config := {maxSteps := 2000000}) only [↓rPre, rPost, rCan, rObj, rI, rS, rB, r8, rLI, rEtc, hy.p, hy.l, hy.k, hy.r, hy.d, hy.w, hy.f, flatIds, oid, r___impl_lines__put, ↓G_unf _ _ c___impl_lines__put.eq_1, h_strings_Join.2, h_strings_Join.1, h___strings_Builder__WriteString.2, h___strings_Builder__WriteString.1, h___strings_Builder__WriteByte.2, h___strings_Builder__WriteByte.1, bind_ite, __impl_lines__put_f, rRow3, rVerdict, rRow59, rOutcome, rRow72, rRow56, rRow74, rRow5, rRow9, rMap91, rLog, ↓reduceIte, Nat.reduceMul, Nat.reduceAdd, Nat.reduceSub, Nat.reduceEqDiff, Nat.reduceBEq, Nat.reduceLeDiff, Nat.reduceLT, reduceCtorEq, Int.reduceAdd, Int.reduceSub, Int.reduceToNat, Int.reduceNeg, Int.reduceEq, Int.reduceLT, Int.reduceLE]
def H___impl_lines__put (E : En) (L : (List UInt8) → (List (List UInt8)) → Option (List UInt8)) : Prop := E.Γ.mu 35 = false ∧ (∀ (a0 : List UInt8) (a1 : List (List UInt8)), E.Γ 35 [.res (.bld 65 5) (sD a0), .d (lstT cS a1)] = (L a0 a1).bind fun r => some (.ret (.tup []) [[sD r]]))
-- loop.example/s02135/impl.verdictOk
def c_impl_verdictOk : Cd :=
  sq (r [1] [o 1 .box [t 0], o 2 .mv [b false]])
  (sq (sq (r [1, 5] [o 3 (.fa 0) [t 1], o 4 (.ld none) [t 3], o 5 (.bin .eql) [t 4, i 3]])
    (.cond (t 5) (sq (r [2] [o 6 (.fa 1) [t 1], o 7 (.ld none) [t 6], o 8 (.bin .geq) [t 7, i 1], o 9 .mv [t 8], g 9 true 10 (.fa 1) [t 1], g 9 true 11 (.ld none) [t 10], g 9 true 12 (.bin .leq) [t 11, i 99], o 13 .pick [t 9, t 12, b false], o 2 .mv [t 13]])
      (.ret)) (.skip)))
   (sq (r [2] [o 14 (.fa 0) [t 1], o 15 (.ld none) [t 14], o 16 (.bin .geq) [t 15, i 1], o 17 .mv [t 16], g 17 true 18 (.fa 0) [t 1], g 17 true 19 (.ld none) [t 18], g 17 true 20 (.bin .leq) [t 19, i 5], o 21 .pick [t 17, t 20, b false], o 22 .mv [t 21], g 22 true 23 (.fa 1) [t 1], g 22 true 24 (.ld none) [t 23], g 22 true 25 (.bin .eql) [t 24, i 0], o 26 .pick [t 22, t 25, b false], o 2 .mv [t 26]])
    (.ret)))
def r_impl_verdictOk : List RV := [.tmp 2]
def impl_verdictOk_f (N : Nat) (a0_Kind : Int) (a0_Code : Int) : Option (Bool) :=
  if a0_Kind = 3 then (if 1 ≤ a0_Code then some (Decidable.decide (a0_Code ≤ 99))
   else some false)
  else (if 1 ≤ a0_Kind then (if a0_Kind ≤ 5 then some (Decidable.decide (a0_Code = 0))
    else some false)
   else some false)
theorem impl_verdictOk_g (E : En) (hy : Hy E [] [] [] r_impl_verdictOk none (fun y => nocap y) flatIds) (a0_Kind : Int) (a0_Code : Int) : G E c_impl_verdictOk [] ⟨slotsOf [(0, .agg [.d (.int .i64 a0_Kind), .d (.int .i64 a0_Code)])], obsOf []⟩ = (impl_verdictOk_f E.n a0_Kind a0_Code).bind fun r => some (.ret (.d (.bool r)) []) := by
  simp (config := {maxSteps := 2000000}) only [↓rPre, rPost, rCan, rObj, rI, rS, rB, r8, rLI, rEtc, hy.p, hy.l, hy.k, hy.r, hy.d, hy.w, hy.f, flatIds, oid, r_impl_verdictOk, ↓G_unf _ _ c_impl_verdictOk.eq_1, bind_ite, impl_verdictOk_f, rRow3, rVerdict, rRow59, rOutcome, rRow72, rRow56, rRow74, rRow5, rRow9, rMap91, rLog, ↓reduceIte, Nat.reduceMul, Nat.reduceAdd, Nat.reduceSub, Nat.reduceEqDiff, Nat.reduceBEq, Nat.reduceLeDiff, Nat.reduceLT, reduceCtorEq, Int.reduceAdd, Int.reduceSub, Int.reduceToNat, Int.reduceNeg, Int.reduceEq, Int.reduceLT, Int.reduceLE]
def H_impl_verdictOk (E : En) (L : Int → Int → Option (Bool)) : Prop := E.Γ.mu 36 = false ∧ (∀ (a0_Kind : Int) (a0_Code : Int), E.Γ 36 [.agg [.d (.int .i64 a0_Kind), .d (.int .i64 a0_Code)]] = (L a0_Kind a0_Code).bind fun r => some (.ret (.d (.bool r)) []))
-- strconv.Itoa
def H_strconv_Itoa (E : En) (L : Int → Option (List UInt8)) : Prop := E.Γ.mu 37 = false ∧ (∀ (a0 : Int), E.Γ 37 [.d (.int .i64 a0)] = (L a0).bind fun r => some (.ret (.d (sD r)) []))
-- loop.example/s02135/impl.verdictWord
def c_impl_verdictWord : Cd :=
  sq (r [1] [o 1 .box [t 0], o 2 .mv [s []]])
  (sq (r [1, 3] [o 4 (.mkR (.map 91 none)) [], e (.mset 91 0 none) [t 4, i 1, s [112, 97, 115, 115]], e (.mset 91 0 none) [t 4, i 2, s [102, 97, 105, 108]], e (.mset 91 0 none) [t 4, i 4, s [102, 117, 101, 108]], e (.mset 91 0 none) [t 4, i 5, s [99, 101, 108, 108, 115]], o 5 .mv [t 4], o 3 .mv [t 5]])
   (sq (sq (r [1, 3, 8] [o 6 (.fa 0) [t 1], o 7 (.ld none) [t 6], o 8 (.bin .eql) [t 7, i 3]])
     (.cond (t 8) (sq (r [2] [o 9 (.fa 1) [t 1], o 10 (.ld none) [t 9], o 11 (.call 37) [t 10], o 12 (.bin .add) [s [101, 114, 114, 111, 114, 32], t 11], o 2 .mv [t 12]])
       (.ret)) (.skip)))
    (sq (r [2] [o 13 .mv [t 3], o 14 (.fa 0) [t 1], o 15 (.ld none) [t 14], o 16 (.mget 91 0 none [(sD [])] false) [t 13, t 15], o 2 .mv [t 16]])
     (.ret))))
def r_impl_verdictWord : List RV := [.tmp 2]
def impl_verdictWord_f (L_strconv_Itoa : Int → Option (List UInt8)) (N : Nat) (a0_Kind : Int) (a0_Code : Int) : Option (List UInt8) :=
  if a0_Kind = 3 then ((L_strconv_Itoa a0_Code).bind fun y0 =>
   if roomS (List.length y0 + 1 + 1 + 1 + 1 + 1 + 1) then some (101 :: 114 :: 114 :: 111 :: 114 :: 32 :: y0)
   else none)
  else some (Option.getD (look (putM (putM (putM (putM [] 1 [112, 97, 115, 115]) 2 [102, 97, 105, 108]) 4 [102, 117, 101, 108]) 5 [99, 101, 108, 108, 115]) a0_Kind) [])
theorem impl_verdictWord_g (E : En) (hy : Hy E [] [] [] r_impl_verdictWord none (fun y => nocap y) flatIds) (L_strconv_Itoa : Int → Option (List UInt8)) (h_strconv_Itoa : H_strconv_Itoa E L_strconv_Itoa) (a0_Kind : Int) (a0_Code : Int) : G E c_impl_verdictWord [] ⟨slotsOf [(0, .agg [.d (.int .i64 a0_Kind), .d (.int .i64 a0_Code)])], obsOf []⟩ = (impl_verdictWord_f L_strconv_Itoa E.n a0_Kind a0_Code).bind fun r => some (.ret (.d (sD r)) []) := by
  simp (config := {maxSteps := 2000000}) only [↓rPre, rPost, rCan, rObj, rI, rS, rB, r8, rLI, rEtc, hy.p, hy.l, hy.k, hy.r, hy.d, hy.w, hy.f, flatIds, oid, r_impl_verdictWord, ↓G_unf _ _ c_impl_verdictWord.eq_1, h_strconv_Itoa.2, h_strconv_Itoa.1, bind_ite, impl_verdictWord_f, rRow3, rVerdict, rRow59, rOutcome, rRow72, rRow56, rRow74, rRow5, rRow9, rMap91, rLog, ↓reduceIte, Nat.reduceMul, Nat.reduceAdd, Nat.reduceSub, Nat.reduceEqDiff, Nat.reduceBEq, Nat.reduceLeDiff, Nat.reduceLT, reduceCtorEq, Int.reduceAdd, Int.reduceSub, Int.reduceToNat, Int.reduceNeg, Int.reduceEq, Int.reduceLT, Int.reduceLE]
def H_impl_verdictWord (E : En) (L : Int → Int → Option (List UInt8)) : Prop := E.Γ.mu 38 = false ∧ (∀ (a0_Kind : Int) (a0_Code : Int), E.Γ 38 [.agg [.d (.int .i64 a0_Kind), .d (.int .i64 a0_Code)]] = (L a0_Kind a0_Code).bind fun r => some (.ret (.d (sD r)) []))
-- (*strings.Builder).String
def H___strings_Builder__String (E : En) (L : Nat → (List UInt8) → Option (List UInt8 × List UInt8)) : Prop := E.Γ.mu 39 = false ∧ (∀ (T : Nat) (b : List UInt8), E.Γ 39 [.res (.bld T 5) (sD b)] = (L T b).bind fun r => some (.ret (.d (sD r.1)) [[sD r.2]]))
-- loop.example/s02135/impl.Report
def b0_impl_Report : Cd :=
  sq (r [1, 6, 7, 21, 22, 23, 24] [o 24 (.bin .lss) [t 23, t 22]])
  (sq (.cond (t 24) (.skip) (.exit 0))
   (sq (.block 1 (sq (r [1, 6, 7, 8, 9, 21, 22, 23] [o 25 .mv [t 23], o 26 (.ia 2) [t 21, t 23], o 27 (.ld (some 2)) [t 26], o 9 (.alloc [(.d (iD 0)), (.d (iD 0))]) [], o 8 .mv [t 25], e (.st 2) [t 9, t 27]])
      (sq (sq (r [1, 6, 7, 8, 9, 21, 22, 23, 30] [o 28 (.ld (some 2)) [t 9], o 29 (.call 36) [t 28], o 30 .not [t 29]])
        (.cond (t 30) (sq (r [4, 5] [o 4 .mv [s []], o 5 .mv [b false]])
          (.ret)) (.skip)))
       (sq (sq (r [1, 6, 7, 8, 9, 21, 22, 23, 33] [o 31 (.fa 0) [t 9], o 32 (.ld none) [t 31], o 33 (.bin .eql) [t 32, i 1]])
         (.cond (t 33) (r [1, 6, 7, 8, 9, 21, 22, 23] [o 34 .mv [t 7], o 35 (.bin .add) [t 34, i 1], o 7 .mv [t 35]]) (.skip)))
        (rd [] [1, 6, 7, 21, 22, 23] [o 36 .mv [t 8], o 37 (.bin .add) [t 36, i 1], o 39 (.ld (some 2)) [t 9], ap [] false [9] (o 38 (.call 37) [t 37]), o 40 (.call 38) [t 39], o 41 (lit 9 1 3) [s [116, 101, 115, 116], t 38, t 40], o 42 (.call 35) [t 6, t 41]])))))
    (r [1, 6, 7, 21, 22, 23] [o 43 (.bin .add) [t 23, i 1], o 23 .mv [t 43]])))
def k1_impl_Report : Cd :=
  sq (r [6] [o 44 .mv [t 7], o 45 (.call 37) [t 44], o 46 .mv [t 1], o 47 (.len false) [t 46], o 48 (.call 37) [t 47], o 49 (lit 9 1 4) [s [112, 97, 115, 115, 101, 100], t 45, s [111, 102], t 48], o 50 (.call 35) [t 6, t 49]])
  (sq (r [4, 5] [o 51 (.fa 0) [t 6], o 52 (.call 39) [t 51], o 4 .mv [t 52], o 5 .mv [b true]])
   (.ret))
def c_impl_Report : Cd :=
  sq (r [0, 1] [o 4 .mv [s []], o 5 .mv [b false]])
  (sq (sq (r [0, 1, 17] [o 10 .mv [t 0], o 11 (.call 34) [t 10], o 12 .not [t 11], o 13 .mv [t 12], g 13 false 14 .mv [t 1], g 13 false 15 (.len false) [t 14], g 13 false 16 (.bin .gtr) [t 15, i 20], o 17 .pick [t 13, b true, t 16]])
    (.cond (t 17) (sq (r [4, 5] [o 4 .mv [s []], o 5 .mv [b false]])
      (.ret)) (.skip)))
   (sq (r [0, 1, 6] [o 6 (.mkR (.bld 65 5)) []])
    (sq (r [1, 6] [o 18 .mv [t 0], o 19 (lit 9 1 2) [s [115, 116, 117, 100, 101, 110, 116], t 18], o 20 (.call 35) [t 6, t 19]])
     (sq (r [1, 6, 7] [o 7 .mv [i 0]])
      (sq (sq (r [1, 6, 7, 21, 22, 23] [o 21 .mv [t 1], o 22 (.len false) [t 21], o 23 .mv [i 0]])
        (.block 0 (.loop [1, 6, 7, 21, 22, 23] b0_impl_Report))) k1_impl_Report)))))
def r_impl_Report : List RV := [.tmp 4, .tmp 5]
def impl_Report_l0 (L_impl_idOk : (List UInt8) → Option (Bool)) (L___impl_lines__put : (List UInt8) → (List (List UInt8)) → Option (List UInt8)) (L_impl_verdictOk : Int → Int → Option (Bool)) (L_strconv_Itoa : Int → Option (List UInt8)) (L_impl_verdictWord : Int → Int → Option (List UInt8)) (L___strings_Builder__String : Nat → (List UInt8) → Option (List UInt8 × List UInt8)) : Nat → (List TVerdict) → Int → (List TVerdict) → Int → Int → (List UInt8) → Option (List UInt8 × Bool)
  | 0, _, _, _, _, _, _ => none
  | m0 + 1, x1, x7, x21, x22, x23, o384 =>
    if x23 < x22 then ((idx x21 x23).bind fun y0 =>
     (L_impl_verdictOk y0.Kind y0.Code).bind fun y1 =>
     if y1 = false then some (([], false))
     else (if y0.Kind = 1 then ((L_strconv_Itoa (w64 (x23 + 1))).bind fun y2 =>
       (L_impl_verdictWord y0.Kind y0.Code).bind fun y3 =>
       (L___impl_lines__put o384 [[116, 101, 115, 116], y2, y3]).bind fun y4 =>
       impl_Report_l0 L_impl_idOk L___impl_lines__put L_impl_verdictOk L_strconv_Itoa L_impl_verdictWord L___strings_Builder__String m0 x1 (w64 (x7 + 1)) x21 x22 (w64 (x23 + 1)) y4)
      else ((L_strconv_Itoa (w64 (x23 + 1))).bind fun y5 =>
       (L_impl_verdictWord y0.Kind y0.Code).bind fun y6 =>
       (L___impl_lines__put o384 [[116, 101, 115, 116], y5, y6]).bind fun y7 =>
       impl_Report_l0 L_impl_idOk L___impl_lines__put L_impl_verdictOk L_strconv_Itoa L_impl_verdictWord L___strings_Builder__String m0 x1 x7 x21 x22 (w64 (x23 + 1)) y7)))
    else ((L_strconv_Itoa x7).bind fun y8 =>
     (L_strconv_Itoa (↑(List.length x1) : Int)).bind fun y9 =>
     (L___impl_lines__put o384 [[112, 97, 115, 115, 101, 100], y8, [111, 102], y9]).bind fun y10 =>
     (L___strings_Builder__String 65 y10).bind fun y11 =>
     some ((y11.fst, true)))
def impl_Report_f (L_impl_idOk : (List UInt8) → Option (Bool)) (L___impl_lines__put : (List UInt8) → (List (List UInt8)) → Option (List UInt8)) (L_impl_verdictOk : Int → Int → Option (Bool)) (L_strconv_Itoa : Int → Option (List UInt8)) (L_impl_verdictWord : Int → Int → Option (List UInt8)) (L___strings_Builder__String : Nat → (List UInt8) → Option (List UInt8 × List UInt8)) (N : Nat) (a0 : List UInt8) (a1 : List TVerdict) : Option (List UInt8 × Bool) :=
  (L_impl_idOk a0).bind fun y0 =>
  if y0 = false then some (([], false))
  else (if 20 < (↑(List.length a1) : Int) then some (([], false))
   else ((L___impl_lines__put [] [[115, 116, 117, 100, 101, 110, 116], a0]).bind fun y1 =>
    impl_Report_l0 L_impl_idOk L___impl_lines__put L_impl_verdictOk L_strconv_Itoa L_impl_verdictWord L___strings_Builder__String N a1 0 a1 ((↑(List.length a1) : Int)) 0 y1))
theorem impl_Report_l0_eq (E : En) (hy : Hy E [] [] [] r_impl_Report none (fun y => nocap y) flatIds) (L_impl_idOk : (List UInt8) → Option (Bool)) (h_impl_idOk : H_impl_idOk E L_impl_idOk) (L___impl_lines__put : (List UInt8) → (List (List UInt8)) → Option (List UInt8)) (h___impl_lines__put : H___impl_lines__put E L___impl_lines__put) (L_impl_verdictOk : Int → Int → Option (Bool)) (h_impl_verdictOk : H_impl_verdictOk E L_impl_verdictOk) (L_strconv_Itoa : Int → Option (List UInt8)) (h_strconv_Itoa : H_strconv_Itoa E L_strconv_Itoa) (L_impl_verdictWord : Int → Int → Option (List UInt8)) (h_impl_verdictWord : H_impl_verdictWord E L_impl_verdictWord) (L___strings_Builder__String : Nat → (List UInt8) → Option (List UInt8 × List UInt8)) (h___strings_Builder__String : H___strings_Builder__String E L___strings_Builder__String) : ∀ (m0 : Nat) (x1 : List TVerdict) (x7 : Int) (x21 : List TVerdict) (x22 : Int) (x23 : Int) (o384 : List UInt8), gH E [1, 6, 7, 21, 22, 23] b0_impl_Report [KJ.b 0, KJ.c k1_impl_Report] m0 ⟨slotsOf [(1, .d (lstT (cVerdict) x1)), (6, A.row 384 1), (7, .d (.int .i64 x7)), (21, .d (lstT (cVerdict) x21)), (22, .d (.int .i64 x22)), (23, .d (.int .i64 x23))], obsOf [(384, ⟨1, .res (.bld 65 5) (sD o384), false⟩)]⟩ = (impl_Report_l0 L_impl_idOk L___impl_lines__put L_impl_verdictOk L_strconv_Itoa L_impl_verdictWord L___strings_Builder__String m0 x1 x7 x21 x22 x23 o384).bind fun r => some (.ret (.tup [.d (sD r.1), .d (.bool r.2)]) []) := by
  intro m0
  induction m0 with
  | zero => intros; rfl
  | succ m0 ih =>
    intros
    simp (config := {maxSteps := 2000000}) only [↓rPre, rPost, rCan, rObj, rI, rS, rB, r8, rLI, rEtc, hy.p, hy.l, hy.k, hy.r, hy.d, hy.w, hy.f, flatIds, oid, r_impl_Report, ↓G_unf _ _ b0_impl_Report.eq_1, ↓G_unf _ _ k1_impl_Report.eq_1, ↓G_unf _ _ c_impl_Report.eq_1, h_impl_idOk.2, h_impl_idOk.1, h___impl_lines__put.2, h___impl_lines__put.1, h_impl_verdictOk.2, h_impl_verdictOk.1, h_strconv_Itoa.2, h_strconv_Itoa.1, h_impl_verdictWord.2, h_impl_verdictWord.1, h___strings_Builder__String.2, h___strings_Builder__String.1, gH_succ, ih, bind_ite, impl_Report_l0, rRow3, rVerdict, rRow59, rOutcome, rRow72, rRow56, rRow74, rRow5, rRow9, rMap91, rLog, ↓reduceIte, Nat.reduceMul, Nat.reduceAdd, Nat.reduceSub, Nat.reduceEqDiff, Nat.reduceBEq, Nat.reduceLeDiff, Nat.reduceLT, reduceCtorEq, Int.reduceAdd, Int.reduceSub, Int.reduceToNat, Int.reduceNeg, Int.reduceEq, Int.reduceLT, Int.reduceLE]
theorem impl_Report_g (E : En) (hy : Hy E [] [] [] r_impl_Report none (fun y => nocap y) flatIds) (L_impl_idOk : (List UInt8) → Option (Bool)) (h_impl_idOk : H_impl_idOk E L_impl_idOk) (L___impl_lines__put : (List UInt8) → (List (List UInt8)) → Option (List UInt8)) (h___impl_lines__put : H___impl_lines__put E L___impl_lines__put) (L_impl_verdictOk : Int → Int → Option (Bool)) (h_impl_verdictOk : H_impl_verdictOk E L_impl_verdictOk) (L_strconv_Itoa : Int → Option (List UInt8)) (h_strconv_Itoa : H_strconv_Itoa E L_strconv_Itoa) (L_impl_verdictWord : Int → Int → Option (List UInt8)) (h_impl_verdictWord : H_impl_verdictWord E L_impl_verdictWord) (L___strings_Builder__String : Nat → (List UInt8) → Option (List UInt8 × List UInt8)) (h___strings_Builder__String : H___strings_Builder__String E L___strings_Builder__String) (a0 : List UInt8) (a1 : List TVerdict) : G E c_impl_Report [] ⟨slotsOf [(0, .d (sD a0)), (1, .d (lstT cVerdict a1))], obsOf []⟩ = (impl_Report_f L_impl_idOk L___impl_lines__put L_impl_verdictOk L_strconv_Itoa L_impl_verdictWord L___strings_Builder__String E.n a0 a1).bind fun r => some (.ret (.tup [.d (sD r.1), .d (.bool r.2)]) []) := by
  simp (config := {maxSteps := 2000000}) only [↓rPre, rPost, rCan, rObj, rI, rS, rB, r8, rLI, rEtc, hy.p, hy.l, hy.k, hy.r, hy.d, hy.w, hy.f, flatIds, oid, r_impl_Report, ↓G_unf _ _ b0_impl_Report.eq_1, ↓G_unf _ _ k1_impl_Report.eq_1, ↓G_unf _ _ c_impl_Report.eq_1, h_impl_idOk.2, h_impl_idOk.1, h___impl_lines__put.2, h___impl_lines__put.1, h_impl_verdictOk.2, h_impl_verdictOk.1, h_strconv_Itoa.2, h_strconv_Itoa.1, h_impl_verdictWord.2, h_impl_verdictWord.1, h___strings_Builder__String.2, h___strings_Builder__String.1, bind_ite, impl_Report_f, impl_Report_l0_eq E hy L_impl_idOk h_impl_idOk L___impl_lines__put h___impl_lines__put L_impl_verdictOk h_impl_verdictOk L_strconv_Itoa h_strconv_Itoa L_impl_verdictWord h_impl_verdictWord L___strings_Builder__String h___strings_Builder__String, rRow3, rVerdict, rRow59, rOutcome, rRow72, rRow56, rRow74, rRow5, rRow9, rMap91, rLog, ↓reduceIte, Nat.reduceMul, Nat.reduceAdd, Nat.reduceSub, Nat.reduceEqDiff, Nat.reduceBEq, Nat.reduceLeDiff, Nat.reduceLT, reduceCtorEq, Int.reduceAdd, Int.reduceSub, Int.reduceToNat, Int.reduceNeg, Int.reduceEq, Int.reduceLT, Int.reduceLE]
def H_impl_Report (E : En) (L : (List UInt8) → (List TVerdict) → Option (List UInt8 × Bool)) : Prop := E.Γ.mu 14 = false ∧ (∀ (a0 : List UInt8) (a1 : List TVerdict), E.Γ 14 [.d (sD a0), .d (lstT cVerdict a1)] = (L a0 a1).bind fun r => some (.ret (.tup [.d (sD r.1), .d (.bool r.2)]) []))
-- loop.example/s02135/laws.eqVerdict
def c_laws_eqVerdict : Cd :=
  sq (r [2, 3] [o 2 .box [t 0], o 3 .box [t 1], o 4 .mv [b false]])
  (sq (sq (r [2, 3, 9] [o 5 (.fa 0) [t 2], o 6 (.ld none) [t 5], o 7 (.fa 0) [t 3], o 8 (.ld none) [t 7], o 9 (.bin .neq) [t 6, t 8]])
    (.cond (t 9) (sq (r [4] [o 4 .mv [b false]])
      (.ret)) (.skip)))
   (sq (sq (r [14] [o 10 (.fa 1) [t 2], o 11 (.ld none) [t 10], o 12 (.fa 1) [t 3], o 13 (.ld none) [t 12], o 14 (.bin .neq) [t 11, t 13]])
     (.cond (t 14) (sq (r [4] [o 4 .mv [b false]])
       (.ret)) (.skip)))
    (sq (r [4] [o 4 .mv [b true]])
     (.ret))))
def r_laws_eqVerdict : List RV := [.tmp 4]
def laws_eqVerdict_f (N : Nat) (a0_Kind : Int) (a0_Code : Int) (a1_Kind : Int) (a1_Code : Int) : Option (Bool) :=
  if a0_Kind = a1_Kind then (if a0_Code = a1_Code then some true
   else some false)
  else some false
theorem laws_eqVerdict_g (E : En) (hy : Hy E [] [] [] r_laws_eqVerdict none (fun y => nocap y) flatIds) (a0_Kind : Int) (a0_Code : Int) (a1_Kind : Int) (a1_Code : Int) : G E c_laws_eqVerdict [] ⟨slotsOf [(0, .agg [.d (.int .i64 a0_Kind), .d (.int .i64 a0_Code)]), (1, .agg [.d (.int .i64 a1_Kind), .d (.int .i64 a1_Code)])], obsOf []⟩ = (laws_eqVerdict_f E.n a0_Kind a0_Code a1_Kind a1_Code).bind fun r => some (.ret (.d (.bool r)) []) := by
  simp (config := {maxSteps := 2000000}) only [↓rPre, rPost, rCan, rObj, rI, rS, rB, r8, rLI, rEtc, hy.p, hy.l, hy.k, hy.r, hy.d, hy.w, hy.f, flatIds, oid, r_laws_eqVerdict, ↓G_unf _ _ c_laws_eqVerdict.eq_1, bind_ite, laws_eqVerdict_f, rRow3, rVerdict, rRow59, rOutcome, rRow72, rRow56, rRow74, rRow5, rRow9, rMap91, rLog, ↓reduceIte, Nat.reduceMul, Nat.reduceAdd, Nat.reduceSub, Nat.reduceEqDiff, Nat.reduceBEq, Nat.reduceLeDiff, Nat.reduceLT, reduceCtorEq, Int.reduceAdd, Int.reduceSub, Int.reduceToNat, Int.reduceNeg, Int.reduceEq, Int.reduceLT, Int.reduceLE]
def H_laws_eqVerdict (E : En) (L : Int → Int → Int → Int → Option (Bool)) : Prop := E.Γ.mu 40 = false ∧ (∀ (a0_Kind : Int) (a0_Code : Int) (a1_Kind : Int) (a1_Code : Int), E.Γ 40 [.agg [.d (.int .i64 a0_Kind), .d (.int .i64 a0_Code)], .agg [.d (.int .i64 a1_Kind), .d (.int .i64 a1_Code)]] = (L a0_Kind a0_Code a1_Kind a1_Code).bind fun r => some (.ret (.d (.bool r)) []))
-- loop.example/s02135/laws.eqVerdictS
def b0_laws_eqVerdictS : Cd :=
  sq (sq (r [0, 1, 5, 14] [o 11 .mv [t 5], o 12 .mv [t 0], o 13 (.len false) [t 12], o 14 (.bin .lss) [t 11, t 13]])
   (.cond (t 14) (.skip) (.exit 0)))
  (sq (.block 1 (sq (rd [] [0, 1, 5, 26] [o 17 .mv [t 0], o 18 .mv [t 5], o 19 (.ia 2) [t 17, t 18], o 20 (.ld (some 2)) [t 19], o 21 .mv [t 1], o 22 .mv [t 5], o 23 (.ia 2) [t 21, t 22], o 24 (.ld (some 2)) [t 23], o 25 (.call 40) [t 20, t 24], o 26 .not [t 25]])
     (.cond (t 26) (sq (r [4] [o 4 .mv [b false]])
       (.ret)) (.skip))))
   (r [0, 1, 5] [o 15 .mv [t 5], o 16 (.bin .add) [t 15, i 1], o 5 .mv [t 16]]))
def k1_laws_eqVerdictS : Cd :=
  sq (r [4] [o 4 .mv [b true]])
  (.ret)
def c_laws_eqVerdictS : Cd :=
  sq (r [0, 1] [o 4 .mv [b false]])
  (sq (sq (r [0, 1, 10] [o 6 .mv [t 0], o 7 (.len false) [t 6], o 8 .mv [t 1], o 9 (.len false) [t 8], o 10 (.bin .neq) [t 7, t 9]])
    (.cond (t 10) (sq (r [4] [o 4 .mv [b false]])
      (.ret)) (.skip)))
   (sq (sq (r [0, 1, 5] [o 5 .mv [i 0]])
     (.block 0 (.loop [0, 1, 5] b0_laws_eqVerdictS))) k1_laws_eqVerdictS))
def r_laws_eqVerdictS : List RV := [.tmp 4]
def laws_eqVerdictS_l0 (L_laws_eqVerdict : Int → Int → Int → Int → Option (Bool)) : Nat → (List TVerdict) → (List TVerdict) → Int → Option (Bool)
  | 0, _, _, _ => none
  | m0 + 1, x0, x1, x5 =>
    if x5 < (↑(List.length x0) : Int) then ((idx x0 x5).bind fun y0 =>
     (idx x1 x5).bind fun y1 =>
     (L_laws_eqVerdict y0.Kind y0.Code y1.Kind y1.Code).bind fun y2 =>
     if y2 = false then some false
     else laws_eqVerdictS_l0 L_laws_eqVerdict m0 x0 x1 (w64 (x5 + 1)))
    else some true
def laws_eqVerdictS_f (L_laws_eqVerdict : Int → Int → Int → Int → Option (Bool)) (N : Nat) (a0 : List TVerdict) (a1 : List TVerdict) : Option (Bool) :=
  if (↑(List.length a0) : Int) = (↑(List.length a1) : Int) then laws_eqVerdictS_l0 L_laws_eqVerdict N a0 a1 0
  else some false
theorem laws_eqVerdictS_l0_eq (E : En) (hy : Hy E [] [] [] r_laws_eqVerdictS none (fun y => nocap y) flatIds) (L_laws_eqVerdict : Int → Int → Int → Int → Option (Bool)) (h_laws_eqVerdict : H_laws_eqVerdict E L_laws_eqVerdict) : ∀ (m0 : Nat) (x0 : List TVerdict) (x1 : List TVerdict) (x5 : Int), gH E [0, 1, 5] b0_laws_eqVerdictS [KJ.b 0, KJ.c k1_laws_eqVerdictS] m0 ⟨slotsOf [(0, .d (lstT (cVerdict) x0)), (1, .d (lstT (cVerdict) x1)), (5, .d (.int .i64 x5))], obsOf []⟩ = (laws_eqVerdictS_l0 L_laws_eqVerdict m0 x0 x1 x5).bind fun r => some (.ret (.d (.bool r)) []) := by
  intro m0
  induction m0 with
  | zero => intros; rfl
  | succ m0 ih =>
    intros
    simp (config := {maxSteps := 2000000}) only [↓rPre, rPost, rCan, rObj, rI, rS, rB, r8, rLI, rEtc, hy.p, hy.l, hy.k, hy.r, hy.d, hy.w, hy.f, flatIds, oid, r_laws_eqVerdictS, ↓G_unf _ _ b0_laws_eqVerdictS.eq_1, ↓G_unf _ _ k1_laws_eqVerdictS.eq_1, ↓G_unf _ _ c_laws_eqVerdictS.eq_1, h_laws_eqVerdict.2, h_laws_eqVerdict.1, gH_succ, ih, bind_ite, laws_eqVerdictS_l0, rRow3, rVerdict, rRow59, rOutcome, rRow72, rRow56, rRow74, rRow5, rRow9, rMap91, rLog, ↓reduceIte, Nat.reduceMul, Nat.reduceAdd, Nat.reduceSub, Nat.reduceEqDiff, Nat.reduceBEq, Nat.reduceLeDiff, Nat.reduceLT, reduceCtorEq, Int.reduceAdd, Int.reduceSub, Int.reduceToNat, Int.reduceNeg, Int.reduceEq, Int.reduceLT, Int.reduceLE]
theorem laws_eqVerdictS_g (E : En) (hy : Hy E [] [] [] r_laws_eqVerdictS none (fun y => nocap y) flatIds) (L_laws_eqVerdict : Int → Int → Int → Int → Option (Bool)) (h_laws_eqVerdict : H_laws_eqVerdict E L_laws_eqVerdict) (a0 : List TVerdict) (a1 : List TVerdict) : G E c_laws_eqVerdictS [] ⟨slotsOf [(0, .d (lstT cVerdict a0)), (1, .d (lstT cVerdict a1))], obsOf []⟩ = (laws_eqVerdictS_f L_laws_eqVerdict E.n a0 a1).bind fun r => some (.ret (.d (.bool r)) []) := by
  simp (config := {maxSteps := 2000000}) only [↓rPre, rPost, rCan, rObj, rI, rS, rB, r8, rLI, rEtc, hy.p, hy.l, hy.k, hy.r, hy.d, hy.w, hy.f, flatIds, oid, r_laws_eqVerdictS, ↓G_unf _ _ b0_laws_eqVerdictS.eq_1, ↓G_unf _ _ k1_laws_eqVerdictS.eq_1, ↓G_unf _ _ c_laws_eqVerdictS.eq_1, h_laws_eqVerdict.2, h_laws_eqVerdict.1, bind_ite, laws_eqVerdictS_f, laws_eqVerdictS_l0_eq E hy L_laws_eqVerdict h_laws_eqVerdict, rRow3, rVerdict, rRow59, rOutcome, rRow72, rRow56, rRow74, rRow5, rRow9, rMap91, rLog, ↓reduceIte, Nat.reduceMul, Nat.reduceAdd, Nat.reduceSub, Nat.reduceEqDiff, Nat.reduceBEq, Nat.reduceLeDiff, Nat.reduceLT, reduceCtorEq, Int.reduceAdd, Int.reduceSub, Int.reduceToNat, Int.reduceNeg, Int.reduceEq, Int.reduceLT, Int.reduceLE]
def H_laws_eqVerdictS (E : En) (L : (List TVerdict) → (List TVerdict) → Option (Bool)) : Prop := E.Γ.mu 15 = false ∧ (∀ (a0 : List TVerdict) (a1 : List TVerdict), E.Γ 15 [.d (lstT cVerdict a0), .d (lstT cVerdict a1)] = (L a0 a1).bind fun r => some (.ret (.d (.bool r)) []))
-- loop.example/s02135/laws.FnExactReport
def c_laws_FnExactReport : Cd :=
  sq (r [0, 1] [o 4 .mv [b false]])
  (sq (sq (r [0, 1, 13] [o 11 .mv [t 0], o 12 (.len true) [t 11], o 13 (.bin .gtr) [t 12, i 1048576]])
    (.cond (t 13) (sq (r [4] [o 4 .mv [b true]])
      (.ret)) (.skip)))
   (sq (r [0, 1, 5] [o 5 .mv [i 1048576]])
    (sq (r [0, 1, 5] [o 14 .mv [t 1], o 15 .mv [t 5], o 16 (.call 11) [t 14, t 15], o 5 .mv [t 16]])
     (sq (sq (r [0, 1, 18] [o 17 .mv [t 5], o 18 (.bin .lss) [t 17, i 0]])
       (.cond (t 18) (sq (r [4] [o 4 .mv [b true]])
         (.ret)) (.skip)))
      (sq (r [0, 1, 6, 7] [o 20 .mv [t 0], o 21 .mv [t 1], o 22 (.call 13) [t 21], o 23 (.call 12) [t 20, t 22], o 19 .mv [t 23], o 24 (.ext 0) [t 19], o 25 (.ext 1) [t 19], o 6 .mv [t 24], o 7 .mv [t 25]])
       (sq (r [0, 1, 6, 7, 8] [o 26 .mv [t 1], o 27 (.call 13) [t 26], o 8 .mv [t 27]])
        (sq (r [1, 6, 7, 8, 9, 10] [o 29 .mv [t 0], o 30 .mv [t 8], o 31 (.call 14) [t 29, t 30], o 28 .mv [t 31], o 32 (.ext 0) [t 28], o 33 (.ext 1) [t 28], o 9 .mv [t 32], o 10 .mv [t 33]])
         (sq (sq (r [1, 8, 41] [o 34 .mv [t 9], o 35 .mv [t 6], o 36 (.bin .neq) [t 34, t 35], o 37 .mv [t 36], g 37 false 38 .mv [t 10], g 37 false 39 .mv [t 7], g 37 false 40 (.beq true) [t 38, t 39], o 41 .pick [t 37, b true, t 40]])
           (.cond (t 41) (sq (r [4] [o 4 .mv [b false]])
             (.ret)) (.skip)))
          (sq (sq (r [46] [o 42 .mv [t 8], o 43 .mv [t 1], o 44 (.call 13) [t 43], o 45 (.call 15) [t 42, t 44], o 46 .not [t 45]])
            (.cond (t 46) (sq (r [4] [o 4 .mv [b false]])
              (.ret)) (.skip)))
           (sq (r [4] [o 4 .mv [b true]])
            (.ret)))))))))))
def r_laws_FnExactReport : List RV := [.tmp 4]
def laws_FnExactReport_f (L_laws_szVerdictS : (List TVerdict) → Int → Option (Int)) (L_laws_toVerdictS : (List TVerdict) → Option (List TVerdict)) (L_spec_Report : (List UInt8) → (List TVerdict) → Option (List UInt8 × Bool)) (L_impl_Report : (List UInt8) → (List TVerdict) → Option (List UInt8 × Bool)) (L_laws_eqVerdictS : (List TVerdict) → (List TVerdict) → Option (Bool)) (N : Nat) (a0 : List UInt8) (a1 : List TVerdict) : Option (Bool) :=
  if 1048576 < (↑(List.length a0) : Int) then some true
  else ((L_laws_szVerdictS a1 1048576).bind fun y0 =>
   if y0 < 0 then some true
   else ((L_laws_toVerdictS a1).bind fun y1 =>
    (L_spec_Report a0 y1).bind fun y2 =>
    (L_laws_toVerdictS a1).bind fun y3 =>
    (L_impl_Report a0 y3).bind fun y4 =>
    if y4.fst = y2.fst then (if (y4.snd == y2.snd) = false then some false
     else ((L_laws_toVerdictS a1).bind fun y5 =>
      (L_laws_eqVerdictS y3 y5).bind fun y6 =>
      if y6 = false then some false
      else some true))
    else some false))
theorem laws_FnExactReport_g (E : En) (hy : Hy E [] [] [] r_laws_FnExactReport none (fun y => nocap y) flatIds) (L_laws_szVerdictS : (List TVerdict) → Int → Option (Int)) (h_laws_szVerdictS : H_laws_szVerdictS E L_laws_szVerdictS) (L_laws_toVerdictS : (List TVerdict) → Option (List TVerdict)) (h_laws_toVerdictS : H_laws_toVerdictS E L_laws_toVerdictS) (L_spec_Report : (List UInt8) → (List TVerdict) → Option (List UInt8 × Bool)) (h_spec_Report : H_spec_Report E L_spec_Report) (L_impl_Report : (List UInt8) → (List TVerdict) → Option (List UInt8 × Bool)) (h_impl_Report : H_impl_Report E L_impl_Report) (L_laws_eqVerdictS : (List TVerdict) → (List TVerdict) → Option (Bool)) (h_laws_eqVerdictS : H_laws_eqVerdictS E L_laws_eqVerdictS) (a0 : List UInt8) (a1 : List TVerdict) : G E c_laws_FnExactReport [] ⟨slotsOf [(0, .d (sD a0)), (1, .d (lstT cVerdict a1))], obsOf []⟩ = (laws_FnExactReport_f L_laws_szVerdictS L_laws_toVerdictS L_spec_Report L_impl_Report L_laws_eqVerdictS E.n a0 a1).bind fun r => some (.ret (.d (.bool r)) []) := by
  simp (config := {maxSteps := 2000000}) only [↓rPre, rPost, rCan, rObj, rI, rS, rB, r8, rLI, rEtc, hy.p, hy.l, hy.k, hy.r, hy.d, hy.w, hy.f, flatIds, oid, r_laws_FnExactReport, ↓G_unf _ _ c_laws_FnExactReport.eq_1, h_laws_szVerdictS.2, h_laws_szVerdictS.1, h_laws_toVerdictS.2, h_laws_toVerdictS.1, h_spec_Report.2, h_spec_Report.1, h_impl_Report.2, h_impl_Report.1, h_laws_eqVerdictS.2, h_laws_eqVerdictS.1, bind_ite, laws_FnExactReport_f, rRow3, rVerdict, rRow59, rOutcome, rRow72, rRow56, rRow74, rRow5, rRow9, rMap91, rLog, ↓reduceIte, Nat.reduceMul, Nat.reduceAdd, Nat.reduceSub, Nat.reduceEqDiff, Nat.reduceBEq, Nat.reduceLeDiff, Nat.reduceLT, reduceCtorEq, Int.reduceAdd, Int.reduceSub, Int.reduceToNat, Int.reduceNeg, Int.reduceEq, Int.reduceLT, Int.reduceLE]
def H_laws_FnExactReport (E : En) (L : (List UInt8) → (List TVerdict) → Option (Bool)) : Prop := E.Γ.mu 4 = false ∧ (∀ (a0 : List UInt8) (a1 : List TVerdict), E.Γ 4 [.d (sD a0), .d (lstT cVerdict a1)] = (L a0 a1).bind fun r => some (.ret (.d (.bool r)) []))
end Go.Vm
