/- The functions under laws_FnExactLogEntry: the abstract machine's codes, and what they come to in plain terms. Printed by a program of this session. -/
import Derived.Test.YtbfmeoiblppnbaaDoorVmKind
set_option linter.all false
set_option maxRecDepth 100000
set_option maxHeartbeats 4000000
namespace Go.Vm
structure TVerdict where
  Kind : Int
  Code : Int
  deriving DecidableEq
def encVerdict (x : TVerdict) : List D := [.int .i64 x.Kind, .int .i64 x.Code]
def decVerdict : List D → Option TVerdict
  | [.int .i64 a0, .int .i64 a1] => some ⟨a0, a1⟩
  | _ => none
theorem decVerdict_ok : ∀ xs x, decVerdict xs = some x → xs = encVerdict x := by
  intro xs x h
  unfold decVerdict at h
  split at h
  · cases h; rfl
  · cases h
def cVerdict : Enc TVerdict := ⟨2, encVerdict, decVerdict, fun _ => rfl, by decide, decVerdict_ok, fun _ => rfl⟩
theorem cVerdict_enc (x : TVerdict) : cVerdict.enc x = [.int .i64 x.Kind, .int .i64 x.Code] := rfl
theorem cVerdict_dec (x_Kind : Int) (x_Code : Int) : cVerdict.dec [.int .i64 x_Kind, .int .i64 x_Code] = some ⟨x_Kind, x_Code⟩ := cVerdict.edc ⟨x_Kind, x_Code⟩
theorem cVerdict_dec1 (a : D) : cVerdict.dec [a] = none := by cases a <;> first | rfl | (rename_i k n; cases k <;> rfl)
def rVerdict := And.intro (cVerdict_dec1) <| And.intro (rKind cVerdict 2 rfl) <| And.intro (cVerdict_enc) <| And.intro (cVerdict_dec) <| And.intro (plain_T cVerdict (fun _ => rfl)) <| And.intro ((fun l m => k_get cVerdict 2 l m 1 (by decide) rfl)) <| ((fun e cap l m xs z hz => k_part' cVerdict 2 e cap l m 1 xs z hz rfl))
structure TOutcome where
  Kind : Int
  Code : Int
  Value_Shape : List Int
  Value_Data : List Int
  Fuel : Int
  Cells : Int
  deriving DecidableEq
def encOutcome (x : TOutcome) : List D := [.int .i64 x.Kind, .int .i64 x.Code, lstT cI x.Value_Shape, lstT cI x.Value_Data, .int .i64 x.Fuel, .int .i64 x.Cells]
def decOutcome : List D → Option TOutcome
  | [.int .i64 a0, .int .i64 a1, d2, d3, .int .i64 a4, .int .i64 a5] => (decL cI d2).bind fun a2 => (decL cI d3).bind fun a3 => some ⟨a0, a1, a2, a3, a4, a5⟩
  | _ => none
theorem decOutcome_ok : ∀ xs x, decOutcome xs = some x → xs = encOutcome x := by
  intro xs x h
  unfold decOutcome at h
  split at h
  · have hh := Option.bind_eq_some_iff.mp h; clear h; obtain ⟨a2, h2, h⟩ := hh; have e2 := decL_ok h2; clear h2; subst e2; have hh := Option.bind_eq_some_iff.mp h; clear h; obtain ⟨a3, h3, h⟩ := hh; have e3 := decL_ok h3; clear h3; subst e3; cases h; rfl
  · cases h
def cOutcome : Enc TOutcome := ⟨6, encOutcome, decOutcome, fun _ => rfl, by decide, decOutcome_ok, fun x => by simp only [encOutcome, decOutcome, decL_T, Option.bind_some]⟩
theorem cOutcome_enc (x : TOutcome) : cOutcome.enc x = [.int .i64 x.Kind, .int .i64 x.Code, lstT cI x.Value_Shape, lstT cI x.Value_Data, .int .i64 x.Fuel, .int .i64 x.Cells] := rfl
theorem cOutcome_dec (x_Kind : Int) (x_Code : Int) (x_Value_Shape : List Int) (x_Value_Data : List Int) (x_Fuel : Int) (x_Cells : Int) : cOutcome.dec [.int .i64 x_Kind, .int .i64 x_Code, lstT cI x_Value_Shape, lstT cI x_Value_Data, .int .i64 x_Fuel, .int .i64 x_Cells] = some ⟨x_Kind, x_Code, x_Value_Shape, x_Value_Data, x_Fuel, x_Cells⟩ := cOutcome.edc ⟨x_Kind, x_Code, x_Value_Shape, x_Value_Data, x_Fuel, x_Cells⟩
theorem cOutcome_dec1 (a : D) : cOutcome.dec [a] = none := by cases a <;> first | rfl | (rename_i k n; cases k <;> rfl)
def rOutcome := And.intro (cOutcome_dec1) <| And.intro (rKind cOutcome 6 rfl) <| And.intro (cOutcome_enc) <| And.intro (cOutcome_dec) <| And.intro (plain_N cOutcome) <| And.intro ((fun l m => k_get cOutcome 6 l m 1 (by decide) rfl)) <| And.intro ((fun e cap l m xs z hz => k_part' cOutcome 6 e cap l m 1 xs z hz rfl)) <| And.intro ((fun l m => k_get cOutcome 6 l m 2 (by decide) rfl)) <| And.intro ((fun e cap l m xs z hz => k_part' cOutcome 6 e cap l m 2 xs z hz rfl)) <| And.intro ((fun l m => k_get cOutcome 6 l m 3 (by decide) rfl)) <| And.intro ((fun e cap l m xs z hz => k_part' cOutcome 6 e cap l m 3 xs z hz rfl)) <| And.intro ((fun l m => k_get cOutcome 6 l m 4 (by decide) rfl)) <| And.intro ((fun e cap l m xs z hz => k_part' cOutcome 6 e cap l m 4 xs z hz rfl)) <| And.intro ((fun l m => k_get cOutcome 6 l m 5 (by decide) rfl)) <| ((fun e cap l m xs z hz => k_part' cOutcome 6 e cap l m 5 xs z hz rfl))
def rRow3 := rRow cI 3 1 rfl [iD 0] 0 rfl
def rRow59 := rRow cVerdict 59 2 rfl [iD 0, iD 0] ⟨0, 0⟩ rfl
def rRow72 := rRow cOutcome 72 6 rfl [iD 0, iD 0, .lst 0 [], .lst 0 [], iD 0, iD 0] ⟨0, 0, [], [], 0, 0⟩ rfl
def rRow56 := rRow cVerdict 56 2 rfl [iD 0, iD 0] ⟨0, 0⟩ rfl
def rRow74 := rRow cOutcome 74 6 rfl [iD 0, iD 0, .lst 0 [], .lst 0 [], iD 0, iD 0] ⟨0, 0, [], [], 0, 0⟩ rfl
def rRow5 := rRow c8 5 1 rfl [.int .u8 0] 0 rfl
def rRow9 := rRow cS 9 1 rfl [sD []] [] rfl
def rMap91 := rMapI cS 91 none rfl [sD []] [] rfl
/-- the types of elements that lead to no memory -/
def flatIds (e : Nat) : Bool := e == 3 || e == 59 || e == 56 || e == 5 || e == 9
-- loop.example/s02135/laws.szIntS
def c_laws_szIntS : Cd :=
  sq (r [0, 1] [o 4 .mv [i 0]])
  (sq (r [1] [o 5 .mv [t 1], o 6 .mv [t 0], o 7 (.len false) [t 6], o 8 (.bin .sub) [t 5, t 7], o 1 .mv [t 8]])
   (sq (sq (r [1, 10] [o 9 .mv [t 1], o 10 (.bin .lss) [t 9, i 0]])
     (.cond (t 10) (sq (r [4] [o 4 .mv [i (-1)]])
       (.ret)) (.skip)))
    (sq (r [4] [o 11 .mv [t 1], o 4 .mv [t 11]])
     (.ret))))
def r_laws_szIntS : List RV := [.tmp 4]
def laws_szIntS_f (N : Nat) (a0 : List Int) (a1 : Int) : Option (Int) :=
  if w64 (a1 - (↑(List.length a0) : Int)) < 0 then some (-1)
  else some (w64 (a1 - (↑(List.length a0) : Int)))
theorem laws_szIntS_g (E : En) (hy : Hy E [] [] [] r_laws_szIntS none (fun y => nocap y) flatIds) (a0 : List Int) (a1 : Int) : G E c_laws_szIntS [] ⟨slotsOf [(0, .d (lstT cI a0)), (1, .d (.int .i64 a1))], obsOf []⟩ = (laws_szIntS_f E.n a0 a1).bind fun r => some (.ret (.d (.int .i64 r)) []) := by
  simp (config := {maxSteps := 40000000}) only [↓rPre, rPost, rCan, rObj, rI, rS, rB, r8, rLI, rEtc, hy.p, hy.l, hy.k, hy.r, hy.d, hy.w, hy.f, flatIds, oid, r_laws_szIntS, ↓G_unf _ _ c_laws_szIntS.eq_1, bind_ite, laws_szIntS_f, rRow3, rVerdict, rRow59, rOutcome, rRow72, rRow56, rRow74, rRow5, rRow9, rMap91, rLog, ↓reduceIte, Nat.reduceMul, Nat.reduceAdd, Nat.reduceSub, Nat.reduceEqDiff, Nat.reduceBEq, Nat.reduceLeDiff, Nat.reduceLT, reduceCtorEq, Int.reduceAdd, Int.reduceSub, Int.reduceToNat, Int.reduceNeg, Int.reduceEq, Int.reduceLT, Int.reduceLE]
def H_laws_szIntS (E : En) (L : (List Int) → Int → Option (Int)) : Prop := E.Γ.mu 21 = false ∧ (∀ (a0 : List Int) (a1 : Int), E.Γ 21 [.d (lstT cI a0), .d (.int .i64 a1)] = (L a0 a1).bind fun r => some (.ret (.d (.int .i64 r)) []))
-- loop.example/s02135/laws.szArray
def c_laws_szArray : Cd :=
  sq (r [1, 2] [o 2 .box [t 0], o 4 .mv [i 0]])
  (sq (r [1, 2] [o 5 (.fa 0) [t 2], o 6 (.ld none) [t 5], o 7 .mv [t 1], o 8 (.call 21) [t 6, t 7], o 1 .mv [t 8]])
   (sq (sq (r [1, 2, 10] [o 9 .mv [t 1], o 10 (.bin .lss) [t 9, i 0]])
     (.cond (t 10) (sq (r [4] [o 4 .mv [i (-1)]])
       (.ret)) (.skip)))
    (sq (r [1] [o 11 (.fa 1) [t 2], o 12 (.ld none) [t 11], o 13 .mv [t 1], o 14 (.call 21) [t 12, t 13], o 1 .mv [t 14]])
     (sq (sq (r [1, 16] [o 15 .mv [t 1], o 16 (.bin .lss) [t 15, i 0]])
       (.cond (t 16) (sq (r [4] [o 4 .mv [i (-1)]])
         (.ret)) (.skip)))
      (sq (r [4] [o 17 .mv [t 1], o 4 .mv [t 17]])
       (.ret))))))
def r_laws_szArray : List RV := [.tmp 4]
def laws_szArray_f (L_laws_szIntS : (List Int) → Int → Option (Int)) (N : Nat) (a0_Shape : List Int) (a0_Data : List Int) (a1 : Int) : Option (Int) :=
  (L_laws_szIntS a0_Shape a1).bind fun y0 =>
  if y0 < 0 then some (-1)
  else ((L_laws_szIntS a0_Data y0).bind fun y1 =>
   if y1 < 0 then some (-1)
   else some y1)
theorem laws_szArray_g (E : En) (hy : Hy E [] [] [] r_laws_szArray none (fun y => nocap y) flatIds) (L_laws_szIntS : (List Int) → Int → Option (Int)) (h_laws_szIntS : H_laws_szIntS E L_laws_szIntS) (a0_Shape : List Int) (a0_Data : List Int) (a1 : Int) : G E c_laws_szArray [] ⟨slotsOf [(0, .agg [.d (lstT cI a0_Shape), .d (lstT cI a0_Data)]), (1, .d (.int .i64 a1))], obsOf []⟩ = (laws_szArray_f L_laws_szIntS E.n a0_Shape a0_Data a1).bind fun r => some (.ret (.d (.int .i64 r)) []) := by
  simp (config := {maxSteps := 40000000}) only [↓rPre, rPost, rCan, rObj, rI, rS, rB, r8, rLI, rEtc, hy.p, hy.l, hy.k, hy.r, hy.d, hy.w, hy.f, flatIds, oid, r_laws_szArray, ↓G_unf _ _ c_laws_szArray.eq_1, h_laws_szIntS.2, h_laws_szIntS.1, bind_ite, laws_szArray_f, rRow3, rVerdict, rRow59, rOutcome, rRow72, rRow56, rRow74, rRow5, rRow9, rMap91, rLog, ↓reduceIte, Nat.reduceMul, Nat.reduceAdd, Nat.reduceSub, Nat.reduceEqDiff, Nat.reduceBEq, Nat.reduceLeDiff, Nat.reduceLT, reduceCtorEq, Int.reduceAdd, Int.reduceSub, Int.reduceToNat, Int.reduceNeg, Int.reduceEq, Int.reduceLT, Int.reduceLE]
def H_laws_szArray (E : En) (L : (List Int) → (List Int) → Int → Option (Int)) : Prop := E.Γ.mu 6 = false ∧ (∀ (a0_Shape : List Int) (a0_Data : List Int) (a1 : Int), E.Γ 6 [.agg [.d (lstT cI a0_Shape), .d (lstT cI a0_Data)], .d (.int .i64 a1)] = (L a0_Shape a0_Data a1).bind fun r => some (.ret (.d (.int .i64 r)) []))
-- loop.example/s02135/laws.szOutcome
def c_laws_szOutcome : Cd :=
  sq (r [1, 2] [o 2 .box [t 0], o 4 .mv [i 0]])
  (sq (r [1] [o 5 (.fa 2) [t 2], o 6 (.ld (some 2)) [t 5], o 7 .mv [t 1], o 8 (.call 6) [t 6, t 7], o 1 .mv [t 8]])
   (sq (sq (r [1, 10] [o 9 .mv [t 1], o 10 (.bin .lss) [t 9, i 0]])
     (.cond (t 10) (sq (r [4] [o 4 .mv [i (-1)]])
       (.ret)) (.skip)))
    (sq (r [4] [o 11 .mv [t 1], o 4 .mv [t 11]])
     (.ret))))
def r_laws_szOutcome : List RV := [.tmp 4]
def laws_szOutcome_f (L_laws_szArray : (List Int) → (List Int) → Int → Option (Int)) (N : Nat) (a0_Kind : Int) (a0_Code : Int) (a0_Value_Shape : List Int) (a0_Value_Data : List Int) (a0_Fuel : Int) (a0_Cells : Int) (a1 : Int) : Option (Int) :=
  (L_laws_szArray a0_Value_Shape a0_Value_Data a1).bind fun y0 =>
  if y0 < 0 then some (-1)
  else some y0
theorem laws_szOutcome_g (E : En) (hy : Hy E [] [] [] r_laws_szOutcome none (fun y => nocap y) flatIds) (L_laws_szArray : (List Int) → (List Int) → Int → Option (Int)) (h_laws_szArray : H_laws_szArray E L_laws_szArray) (a0_Kind : Int) (a0_Code : Int) (a0_Value_Shape : List Int) (a0_Value_Data : List Int) (a0_Fuel : Int) (a0_Cells : Int) (a1 : Int) : G E c_laws_szOutcome [] ⟨slotsOf [(0, .agg [.d (.int .i64 a0_Kind), .d (.int .i64 a0_Code), .d (lstT cI a0_Value_Shape), .d (lstT cI a0_Value_Data), .d (.int .i64 a0_Fuel), .d (.int .i64 a0_Cells)]), (1, .d (.int .i64 a1))], obsOf []⟩ = (laws_szOutcome_f L_laws_szArray E.n a0_Kind a0_Code a0_Value_Shape a0_Value_Data a0_Fuel a0_Cells a1).bind fun r => some (.ret (.d (.int .i64 r)) []) := by
  simp (config := {maxSteps := 40000000}) only [↓rPre, rPost, rCan, rObj, rI, rS, rB, r8, rLI, rEtc, hy.p, hy.l, hy.k, hy.r, hy.d, hy.w, hy.f, flatIds, oid, r_laws_szOutcome, ↓G_unf _ _ c_laws_szOutcome.eq_1, h_laws_szArray.2, h_laws_szArray.1, bind_ite, laws_szOutcome_f, rRow3, rVerdict, rRow59, rOutcome, rRow72, rRow56, rRow74, rRow5, rRow9, rMap91, rLog, ↓reduceIte, Nat.reduceMul, Nat.reduceAdd, Nat.reduceSub, Nat.reduceEqDiff, Nat.reduceBEq, Nat.reduceLeDiff, Nat.reduceLT, reduceCtorEq, Int.reduceAdd, Int.reduceSub, Int.reduceToNat, Int.reduceNeg, Int.reduceEq, Int.reduceLT, Int.reduceLE]
def H_laws_szOutcome (E : En) (L : Int → Int → (List Int) → (List Int) → Int → Int → Int → Option (Int)) : Prop := E.Γ.mu 41 = false ∧ (∀ (a0_Kind : Int) (a0_Code : Int) (a0_Value_Shape : List Int) (a0_Value_Data : List Int) (a0_Fuel : Int) (a0_Cells : Int) (a1 : Int), E.Γ 41 [.agg [.d (.int .i64 a0_Kind), .d (.int .i64 a0_Code), .d (lstT cI a0_Value_Shape), .d (lstT cI a0_Value_Data), .d (.int .i64 a0_Fuel), .d (.int .i64 a0_Cells)], .d (.int .i64 a1)] = (L a0_Kind a0_Code a0_Value_Shape a0_Value_Data a0_Fuel a0_Cells a1).bind fun r => some (.ret (.d (.int .i64 r)) []))
-- loop.example/s02135/laws.szOutcomeS
def b0_laws_szOutcomeS : Cd :=
  sq (sq (r [0, 1, 5, 15] [o 12 .mv [t 5], o 13 .mv [t 0], o 14 (.len false) [t 13], o 15 (.bin .lss) [t 12, t 14]])
   (.cond (t 15) (.skip) (.exit 0)))
  (sq (.block 1 (sq (r [0, 1, 5] [o 18 .mv [t 0], o 19 .mv [t 5], o 20 (.ia 6) [t 18, t 19], o 21 (.ld (some 6)) [t 20], o 22 .mv [t 1], o 23 (.call 41) [t 21, t 22], o 1 .mv [t 23]])
     (sq (r [0, 1, 5, 25] [o 24 .mv [t 1], o 25 (.bin .lss) [t 24, i 0]])
      (.cond (t 25) (sq (r [4] [o 4 .mv [i (-1)]])
        (.ret)) (.skip)))))
   (r [0, 1, 5] [o 16 .mv [t 5], o 17 (.bin .add) [t 16, i 1], o 5 .mv [t 17]]))
def k1_laws_szOutcomeS : Cd :=
  sq (r [4] [o 26 .mv [t 1], o 4 .mv [t 26]])
  (.ret)
def c_laws_szOutcomeS : Cd :=
  sq (r [0, 1] [o 4 .mv [i 0]])
  (sq (r [0, 1] [o 6 .mv [t 1], o 7 .mv [t 0], o 8 (.len false) [t 7], o 9 (.bin .sub) [t 6, t 8], o 1 .mv [t 9]])
   (sq (sq (r [0, 1, 11] [o 10 .mv [t 1], o 11 (.bin .lss) [t 10, i 0]])
     (.cond (t 11) (sq (r [4] [o 4 .mv [i (-1)]])
       (.ret)) (.skip)))
    (sq (sq (r [0, 1, 5] [o 5 .mv [i 0]])
      (.block 0 (.loop [0, 1, 5] b0_laws_szOutcomeS))) k1_laws_szOutcomeS)))
def r_laws_szOutcomeS : List RV := [.tmp 4]
def laws_szOutcomeS_l0 (L_laws_szOutcome : Int → Int → (List Int) → (List Int) → Int → Int → Int → Option (Int)) : Nat → (List TOutcome) → Int → Int → Option (Int)
  | 0, _, _, _ => none
  | m0 + 1, x0, x1, x5 =>
    if x5 < (↑(List.length x0) : Int) then ((idx x0 x5).bind fun y0 =>
     (L_laws_szOutcome y0.Kind y0.Code y0.Value_Shape y0.Value_Data y0.Fuel y0.Cells x1).bind fun y1 =>
     if y1 < 0 then some (-1)
     else laws_szOutcomeS_l0 L_laws_szOutcome m0 x0 y1 (w64 (x5 + 1)))
    else some x1
def laws_szOutcomeS_f (L_laws_szOutcome : Int → Int → (List Int) → (List Int) → Int → Int → Int → Option (Int)) (N : Nat) (a0 : List TOutcome) (a1 : Int) : Option (Int) :=
  if w64 (a1 - (↑(List.length a0) : Int)) < 0 then some (-1)
  else laws_szOutcomeS_l0 L_laws_szOutcome N a0 (w64 (a1 - (↑(List.length a0) : Int))) 0
theorem laws_szOutcomeS_l0_eq (E : En) (hy : Hy E [] [] [] r_laws_szOutcomeS none (fun y => nocap y) flatIds) (L_laws_szOutcome : Int → Int → (List Int) → (List Int) → Int → Int → Int → Option (Int)) (h_laws_szOutcome : H_laws_szOutcome E L_laws_szOutcome) : ∀ (m0 : Nat) (x0 : List TOutcome) (x1 : Int) (x5 : Int), gH E [0, 1, 5] b0_laws_szOutcomeS [KJ.b 0, KJ.c k1_laws_szOutcomeS] m0 ⟨slotsOf [(0, .d (lstT (cOutcome) x0)), (1, .d (.int .i64 x1)), (5, .d (.int .i64 x5))], obsOf []⟩ = (laws_szOutcomeS_l0 L_laws_szOutcome m0 x0 x1 x5).bind fun r => some (.ret (.d (.int .i64 r)) []) := by
  intro m0
  induction m0 with
  | zero => intros; rfl
  | succ m0 ih =>
    intros
    simp (config := {maxSteps := 40000000}) only [↓rPre, rPost, rCan, rObj, rI, rS, rB, r8, rLI, rEtc, hy.p, hy.l, hy.k, hy.r, hy.d, hy.w, hy.f, flatIds, oid, r_laws_szOutcomeS, ↓G_unf _ _ b0_laws_szOutcomeS.eq_1, ↓G_unf _ _ k1_laws_szOutcomeS.eq_1, ↓G_unf _ _ c_laws_szOutcomeS.eq_1, h_laws_szOutcome.2, h_laws_szOutcome.1, gH_succ, ih, bind_ite, laws_szOutcomeS_l0, rRow3, rVerdict, rRow59, rOutcome, rRow72, rRow56, rRow74, rRow5, rRow9, rMap91, rLog, ↓reduceIte, Nat.reduceMul, Nat.reduceAdd, Nat.reduceSub, Nat.reduceEqDiff, Nat.reduceBEq, Nat.reduceLeDiff, Nat.reduceLT, reduceCtorEq, Int.reduceAdd, Int.reduceSub, Int.reduceToNat, Int.reduceNeg, Int.reduceEq, Int.reduceLT, Int.reduceLE]
theorem laws_szOutcomeS_g (E : En) (hy : Hy E [] [] [] r_laws_szOutcomeS none (fun y => nocap y) flatIds) (L_laws_szOutcome : Int → Int → (List Int) → (List Int) → Int → Int → Int → Option (Int)) (h_laws_szOutcome : H_laws_szOutcome E L_laws_szOutcome) (a0 : List TOutcome) (a1 : Int) : G E c_laws_szOutcomeS [] ⟨slotsOf [(0, .d (lstT cOutcome a0)), (1, .d (.int .i64 a1))], obsOf []⟩ = (laws_szOutcomeS_f L_laws_szOutcome E.n a0 a1).bind fun r => some (.ret (.d (.int .i64 r)) []) := by
  simp (config := {maxSteps := 40000000}) only [↓rPre, rPost, rCan, rObj, rI, rS, rB, r8, rLI, rEtc, hy.p, hy.l, hy.k, hy.r, hy.d, hy.w, hy.f, flatIds, oid, r_laws_szOutcomeS, ↓G_unf _ _ b0_laws_szOutcomeS.eq_1, ↓G_unf _ _ k1_laws_szOutcomeS.eq_1, ↓G_unf _ _ c_laws_szOutcomeS.eq_1, h_laws_szOutcome.2, h_laws_szOutcome.1, bind_ite, laws_szOutcomeS_f, laws_szOutcomeS_l0_eq E hy L_laws_szOutcome h_laws_szOutcome, rRow3, rVerdict, rRow59, rOutcome, rRow72, rRow56, rRow74, rRow5, rRow9, rMap91, rLog, ↓reduceIte, Nat.reduceMul, Nat.reduceAdd, Nat.reduceSub, Nat.reduceEqDiff, Nat.reduceBEq, Nat.reduceLeDiff, Nat.reduceLT, reduceCtorEq, Int.reduceAdd, Int.reduceSub, Int.reduceToNat, Int.reduceNeg, Int.reduceEq, Int.reduceLT, Int.reduceLE]
def H_laws_szOutcomeS (E : En) (L : (List TOutcome) → Int → Option (Int)) : Prop := E.Γ.mu 16 = false ∧ (∀ (a0 : List TOutcome) (a1 : Int), E.Γ 16 [.d (lstT cOutcome a0), .d (.int .i64 a1)] = (L a0 a1).bind fun r => some (.ret (.d (.int .i64 r)) []))
-- loop.example/s02135/laws.toIntS
def b0_laws_toIntS : Cd :=
  sq (sq (r [0, 3, 4, 11] [o 8 .mv [t 4], o 9 .mv [t 0], o 10 (.len false) [t 9], o 11 (.bin .lss) [t 8, t 10]])
   (.cond (t 11) (.skip) (.exit 0)))
  (sq (.block 1 (r [0, 3, 4] [o 14 .mv [t 3], o 15 .mv [t 4], o 16 .mv [t 0], o 17 .mv [t 4], o 18 (.ia 1) [t 16, t 17], o 19 (.ld none) [t 18], o 20 (.ia 1) [t 14, t 15], e (.st 1) [t 20, t 19]]))
   (r [0, 3, 4] [o 12 .mv [t 4], o 13 (.bin .add) [t 12, i 1], o 4 .mv [t 13]]))
def k1_laws_toIntS : Cd :=
  sq (r [2] [o 21 .mv [t 3], o 2 .mv [t 21]])
  (.ret)
def c_laws_toIntS : Cd :=
  sq (r [0] [o 2 .mv [n]])
  (sq (r [0, 3] [o 5 .mv [t 0], o 6 (.len false) [t 5], o 7 (.mkS 3 1 8 [(iD 0)]) [t 6, t 6], o 3 .mv [t 7]])
   (sq (sq (r [0, 3, 4] [o 4 .mv [i 0]])
     (.block 0 (.loop [0, 3, 4] b0_laws_toIntS))) k1_laws_toIntS))
def r_laws_toIntS : List RV := [.tmp 2]
def laws_toIntS_l0 : Nat → (List Int) → Int → (List Int) → Option (List Int)
  | 0, _, _, _ => none
  | m0 + 1, x0, x4, o192 =>
    if x4 < (↑(List.length x0) : Int) then ((idx x0 x4).bind fun y0 =>
     if 0 ≤ x4 ∧ x4 < (↑(List.length o192) : Int) then ((setN o192 (Int.toNat x4) y0).bind fun y1 =>
      laws_toIntS_l0 m0 x0 (w64 (x4 + 1)) y1)
     else none)
    else some o192
def laws_toIntS_f (N : Nat) (a0 : List Int) : Option (List Int) :=
  if mkOk 8 (↑(List.length a0) : Int) (↑(List.length a0) : Int) then laws_toIntS_l0 N a0 0 (List.replicate (List.length a0) 0)
  else none
theorem laws_toIntS_l0_eq (E : En) (hy : Hy E [] [] [] r_laws_toIntS none (fun y => nocap y) flatIds) : ∀ (m0 : Nat) (x0 : List Int) (x4 : Int) (o192 : List Int), gH E [0, 3, 4] b0_laws_toIntS [KJ.b 0, KJ.c k1_laws_toIntS] m0 ⟨slotsOf [(0, .d (lstT (cI) x0)), (3, A.row 192 1), (4, .d (.int .i64 x4))], obsOf [(192, ⟨1, rowT (cI) 3 none o192, false⟩)]⟩ = (laws_toIntS_l0 m0 x0 x4 o192).bind fun r => some (.ret (ownT (cI) 3 none false r) []) := by
  intro m0
  induction m0 with
  | zero => intros; rfl
  | succ m0 ih =>
    intros
    simp (config := {maxSteps := 40000000}) only [↓rPre, rPost, rCan, rObj, rI, rS, rB, r8, rLI, rEtc, hy.p, hy.l, hy.k, hy.r, hy.d, hy.w, hy.f, flatIds, oid, r_laws_toIntS, ↓G_unf _ _ b0_laws_toIntS.eq_1, ↓G_unf _ _ k1_laws_toIntS.eq_1, ↓G_unf _ _ c_laws_toIntS.eq_1, gH_succ, ih, bind_ite, laws_toIntS_l0, rRow3, rVerdict, rRow59, rOutcome, rRow72, rRow56, rRow74, rRow5, rRow9, rMap91, rLog, ↓reduceIte, Nat.reduceMul, Nat.reduceAdd, Nat.reduceSub, Nat.reduceEqDiff, Nat.reduceBEq, Nat.reduceLeDiff, Nat.reduceLT, reduceCtorEq, Int.reduceAdd, Int.reduceSub, Int.reduceToNat, Int.reduceNeg, Int.reduceEq, Int.reduceLT, Int.reduceLE]
theorem laws_toIntS_g (E : En) (hy : Hy E [] [] [] r_laws_toIntS none (fun y => nocap y) flatIds) (a0 : List Int) : G E c_laws_toIntS [] ⟨slotsOf [(0, .d (lstT cI a0))], obsOf []⟩ = (laws_toIntS_f E.n a0).bind fun r => some (.ret (ownT (cI) 3 none false r) []) := by
  simp (config := {maxSteps := 40000000}) only [↓rPre, rPost, rCan, rObj, rI, rS, rB, r8, rLI, rEtc, hy.p, hy.l, hy.k, hy.r, hy.d, hy.w, hy.f, flatIds, oid, r_laws_toIntS, ↓G_unf _ _ b0_laws_toIntS.eq_1, ↓G_unf _ _ k1_laws_toIntS.eq_1, ↓G_unf _ _ c_laws_toIntS.eq_1, bind_ite, laws_toIntS_f, laws_toIntS_l0_eq E hy, rRow3, rVerdict, rRow59, rOutcome, rRow72, rRow56, rRow74, rRow5, rRow9, rMap91, rLog, ↓reduceIte, Nat.reduceMul, Nat.reduceAdd, Nat.reduceSub, Nat.reduceEqDiff, Nat.reduceBEq, Nat.reduceLeDiff, Nat.reduceLT, reduceCtorEq, Int.reduceAdd, Int.reduceSub, Int.reduceToNat, Int.reduceNeg, Int.reduceEq, Int.reduceLT, Int.reduceLE]
def H_laws_toIntS (E : En) (L : (List Int) → Option (List Int)) : Prop := E.Γ.mu 24 = false ∧ (∀ (a0 : List Int), E.Γ 24 [.d (lstT cI a0)] = (L a0).bind fun r => some (.ret (ownT (cI) 3 none false r) []))
-- loop.example/s02135/laws.toArray
def c_laws_toArray : Cd :=
  sq (r [1, 2] [o 1 .box [t 0], o 2 (.alloc [.nil, .nil]) []])
  (sq (r [1, 2, 3] [o 3 (.alloc [.nil, .nil]) []])
   (sq (r [1, 2, 3] [o 4 (.fa 0) [t 1], o 5 (.ld none) [t 4], o 6 (.call 24) [t 5], o 7 (.fa 0) [t 3], e (.st 1) [t 7, t 6]])
    (sq (r [2, 3] [o 8 (.fa 1) [t 1], o 9 (.ld none) [t 8], o 10 (.call 24) [t 9], o 11 (.fa 1) [t 3], e (.st 1) [t 11, t 10]])
     (sq (r [2] [o 12 (.ld (some 2)) [t 3], e (.st 2) [t 2, t 12]])
      (.ret)))))
def r_laws_toArray : List RV := [.cell 2 (some 2)]
def laws_toArray_f (L_laws_toIntS : (List Int) → Option (List Int)) (N : Nat) (a0_Shape : List Int) (a0_Data : List Int) : Option (List Int × List Int) :=
  (L_laws_toIntS a0_Shape).bind fun y0 =>
  (L_laws_toIntS a0_Data).bind fun y1 =>
  some ((y0, y1))
theorem laws_toArray_g (E : En) (hy : Hy E [] [] [] r_laws_toArray none (fun y => nocap y) flatIds) (L_laws_toIntS : (List Int) → Option (List Int)) (h_laws_toIntS : H_laws_toIntS E L_laws_toIntS) (a0_Shape : List Int) (a0_Data : List Int) : G E c_laws_toArray [] ⟨slotsOf [(0, .agg [.d (lstT cI a0_Shape), .d (lstT cI a0_Data)])], obsOf []⟩ = (laws_toArray_f L_laws_toIntS E.n a0_Shape a0_Data).bind fun r => some (.ret (.agg [ownT (cI) 3 none false r.1, ownT (cI) 3 none false r.2]) []) := by
  simp (config := {maxSteps := 40000000}) only [↓rPre, rPost, rCan, rObj, rI, rS, rB, r8, rLI, rEtc, hy.p, hy.l, hy.k, hy.r, hy.d, hy.w, hy.f, flatIds, oid, r_laws_toArray, ↓G_unf _ _ c_laws_toArray.eq_1, h_laws_toIntS.2, h_laws_toIntS.1, bind_ite, laws_toArray_f, rRow3, rVerdict, rRow59, rOutcome, rRow72, rRow56, rRow74, rRow5, rRow9, rMap91, rLog, ↓reduceIte, Nat.reduceMul, Nat.reduceAdd, Nat.reduceSub, Nat.reduceEqDiff, Nat.reduceBEq, Nat.reduceLeDiff, Nat.reduceLT, reduceCtorEq, Int.reduceAdd, Int.reduceSub, Int.reduceToNat, Int.reduceNeg, Int.reduceEq, Int.reduceLT, Int.reduceLE]
def H_laws_toArray (E : En) (L : (List Int) → (List Int) → Option (List Int × List Int)) : Prop := E.Γ.mu 8 = false ∧ (∀ (a0_Shape : List Int) (a0_Data : List Int), E.Γ 8 [.agg [.d (lstT cI a0_Shape), .d (lstT cI a0_Data)]] = (L a0_Shape a0_Data).bind fun r => some (.ret (.agg [ownT (cI) 3 none false r.1, ownT (cI) 3 none false r.2]) []))
-- loop.example/s02135/laws.toOutcome
def c_laws_toOutcome : Cd :=
  sq (r [1, 2] [o 1 .box [t 0], o 2 (.alloc [(.d (iD 0)), (.d (iD 0)), .nil, .nil, (.d (iD 0)), (.d (iD 0))]) []])
  (sq (r [1, 2, 3] [o 3 (.alloc [(.d (iD 0)), (.d (iD 0)), .nil, .nil, (.d (iD 0)), (.d (iD 0))]) []])
   (sq (r [1, 2, 3] [o 4 (.fa 0) [t 1], o 5 (.ld none) [t 4], o 6 (.fa 0) [t 3], e (.st 1) [t 6, t 5]])
    (sq (r [1, 2, 3] [o 7 (.fa 1) [t 1], o 8 (.ld none) [t 7], o 9 (.fa 1) [t 3], e (.st 1) [t 9, t 8]])
     (sq (r [1, 2, 3] [o 10 (.fa 2) [t 1], o 11 (.ld (some 2)) [t 10], o 12 (.call 8) [t 11], o 13 (.fa 2) [t 3], e (.st 2) [t 13, t 12]])
      (sq (r [1, 2, 3] [o 14 (.fa 4) [t 1], o 15 (.ld none) [t 14], o 16 (.fa 4) [t 3], e (.st 1) [t 16, t 15]])
       (sq (r [2, 3] [o 17 (.fa 5) [t 1], o 18 (.ld none) [t 17], o 19 (.fa 5) [t 3], e (.st 1) [t 19, t 18]])
        (sq (r [2] [o 20 (.ld (some 6)) [t 3], e (.st 6) [t 2, t 20]])
         (.ret))))))))
def r_laws_toOutcome : List RV := [.cell 2 (some 6)]
def laws_toOutcome_f (L_laws_toArray : (List Int) → (List Int) → Option (List Int × List Int)) (N : Nat) (a0_Kind : Int) (a0_Code : Int) (a0_Value_Shape : List Int) (a0_Value_Data : List Int) (a0_Fuel : Int) (a0_Cells : Int) : Option (Int × Int × List Int × List Int × Int × Int) :=
  (L_laws_toArray a0_Value_Shape a0_Value_Data).bind fun y0 =>
  some ((a0_Kind, a0_Code, y0.fst, y0.snd, a0_Fuel, a0_Cells))
theorem laws_toOutcome_g (E : En) (hy : Hy E [] [] [] r_laws_toOutcome none (fun y => nocap y) flatIds) (L_laws_toArray : (List Int) → (List Int) → Option (List Int × List Int)) (h_laws_toArray : H_laws_toArray E L_laws_toArray) (a0_Kind : Int) (a0_Code : Int) (a0_Value_Shape : List Int) (a0_Value_Data : List Int) (a0_Fuel : Int) (a0_Cells : Int) : G E c_laws_toOutcome [] ⟨slotsOf [(0, .agg [.d (.int .i64 a0_Kind), .d (.int .i64 a0_Code), .d (lstT cI a0_Value_Shape), .d (lstT cI a0_Value_Data), .d (.int .i64 a0_Fuel), .d (.int .i64 a0_Cells)])], obsOf []⟩ = (laws_toOutcome_f L_laws_toArray E.n a0_Kind a0_Code a0_Value_Shape a0_Value_Data a0_Fuel a0_Cells).bind fun r => some (.ret (.agg [.d (.int .i64 r.1), .d (.int .i64 r.2.1), ownT (cI) 3 none false r.2.2.1, ownT (cI) 3 none false r.2.2.2.1, .d (.int .i64 r.2.2.2.2.1), .d (.int .i64 r.2.2.2.2.2)]) []) := by
  simp (config := {maxSteps := 40000000}) only [↓rPre, rPost, rCan, rObj, rI, rS, rB, r8, rLI, rEtc, hy.p, hy.l, hy.k, hy.r, hy.d, hy.w, hy.f, flatIds, oid, r_laws_toOutcome, ↓G_unf _ _ c_laws_toOutcome.eq_1, h_laws_toArray.2, h_laws_toArray.1, bind_ite, laws_toOutcome_f, rRow3, rVerdict, rRow59, rOutcome, rRow72, rRow56, rRow74, rRow5, rRow9, rMap91, rLog, ↓reduceIte, Nat.reduceMul, Nat.reduceAdd, Nat.reduceSub, Nat.reduceEqDiff, Nat.reduceBEq, Nat.reduceLeDiff, Nat.reduceLT, reduceCtorEq, Int.reduceAdd, Int.reduceSub, Int.reduceToNat, Int.reduceNeg, Int.reduceEq, Int.reduceLT, Int.reduceLE]
def H_laws_toOutcome (E : En) (L : Int → Int → (List Int) → (List Int) → Int → Int → Option (Int × Int × List Int × List Int × Int × Int)) : Prop := E.Γ.mu 42 = false ∧ (∀ (a0_Kind : Int) (a0_Code : Int) (a0_Value_Shape : List Int) (a0_Value_Data : List Int) (a0_Fuel : Int) (a0_Cells : Int), E.Γ 42 [.agg [.d (.int .i64 a0_Kind), .d (.int .i64 a0_Code), .d (lstT cI a0_Value_Shape), .d (lstT cI a0_Value_Data), .d (.int .i64 a0_Fuel), .d (.int .i64 a0_Cells)]] = (L a0_Kind a0_Code a0_Value_Shape a0_Value_Data a0_Fuel a0_Cells).bind fun r => some (.ret (.agg [.d (.int .i64 r.1), .d (.int .i64 r.2.1), ownT (cI) 3 none false r.2.2.1, ownT (cI) 3 none false r.2.2.2.1, .d (.int .i64 r.2.2.2.2.1), .d (.int .i64 r.2.2.2.2.2)]) []))
-- loop.example/s02135/laws.toOutcomeS
def b0_laws_toOutcomeS : Cd :=
  sq (sq (r [0, 3, 4, 11] [o 8 .mv [t 4], o 9 .mv [t 0], o 10 (.len false) [t 9], o 11 (.bin .lss) [t 8, t 10]])
   (.cond (t 11) (.skip) (.exit 0)))
  (sq (.block 1 (r [0, 3, 4] [o 14 .mv [t 3], o 15 .mv [t 4], o 16 .mv [t 0], o 17 .mv [t 4], o 18 (.ia 6) [t 16, t 17], o 19 (.ld (some 6)) [t 18], o 20 (.call 42) [t 19], o 21 (.ia 6) [t 14, t 15], e (.st 6) [t 21, t 20]]))
   (r [0, 3, 4] [o 12 .mv [t 4], o 13 (.bin .add) [t 12, i 1], o 4 .mv [t 13]]))
def k1_laws_toOutcomeS : Cd :=
  sq (r [2] [o 22 .mv [t 3], o 2 .mv [t 22]])
  (.ret)
def c_laws_toOutcomeS : Cd :=
  sq (r [0] [o 2 .mv [n]])
  (sq (r [0, 3] [o 5 .mv [t 0], o 6 (.len false) [t 5], o 7 (.mkS 74 6 80 [(iD 0), (iD 0), (.lst 0 []), (.lst 0 []), (iD 0), (iD 0)]) [t 6, t 6], o 3 .mv [t 7]])
   (sq (sq (r [0, 3, 4] [o 4 .mv [i 0]])
     (.block 0 (.loop [0, 3, 4] b0_laws_toOutcomeS))) k1_laws_toOutcomeS))
def r_laws_toOutcomeS : List RV := [.tmp 2]
def laws_toOutcomeS_l0 (L_laws_toOutcome : Int → Int → (List Int) → (List Int) → Int → Int → Option (Int × Int × List Int × List Int × Int × Int)) : Nat → (List TOutcome) → Int → (List TOutcome) → Option (List TOutcome)
  | 0, _, _, _ => none
  | m0 + 1, x0, x4, o192 =>
    if x4 < (↑(List.length x0) : Int) then ((idx x0 x4).bind fun y0 =>
     (L_laws_toOutcome y0.Kind y0.Code y0.Value_Shape y0.Value_Data y0.Fuel y0.Cells).bind fun y1 =>
     if 0 ≤ x4 ∧ x4 < (↑(List.length o192) : Int) then ((setN o192 (Int.toNat x4) { Kind := y1.fst, Code := y1.snd.fst, Value_Shape := y1.snd.snd.fst, Value_Data := y1.snd.snd.snd.fst, Fuel := y1.snd.snd.snd.snd.fst, Cells := y1.snd.snd.snd.snd.snd }).bind fun y2 =>
      laws_toOutcomeS_l0 L_laws_toOutcome m0 x0 (w64 (x4 + 1)) y2)
     else none)
    else some o192
def laws_toOutcomeS_f (L_laws_toOutcome : Int → Int → (List Int) → (List Int) → Int → Int → Option (Int × Int × List Int × List Int × Int × Int)) (N : Nat) (a0 : List TOutcome) : Option (List TOutcome) :=
  if mkOk 80 (↑(List.length a0) : Int) (↑(List.length a0) : Int) then laws_toOutcomeS_l0 L_laws_toOutcome N a0 0 (List.replicate (List.length a0) { Kind := 0, Code := 0, Value_Shape := [], Value_Data := [], Fuel := 0, Cells := 0 })
  else none
theorem laws_toOutcomeS_l0_eq (E : En) (hy : Hy E [] [] [] r_laws_toOutcomeS none (fun y => nocap y) flatIds) (L_laws_toOutcome : Int → Int → (List Int) → (List Int) → Int → Int → Option (Int × Int × List Int × List Int × Int × Int)) (h_laws_toOutcome : H_laws_toOutcome E L_laws_toOutcome) : ∀ (m0 : Nat) (x0 : List TOutcome) (x4 : Int) (o192 : List TOutcome), gH E [0, 3, 4] b0_laws_toOutcomeS [KJ.b 0, KJ.c k1_laws_toOutcomeS] m0 ⟨slotsOf [(0, .d (lstT (cOutcome) x0)), (3, A.row 192 1), (4, .d (.int .i64 x4))], obsOf [(192, ⟨1, rowT (cOutcome) 74 none o192, false⟩)]⟩ = (laws_toOutcomeS_l0 L_laws_toOutcome m0 x0 x4 o192).bind fun r => some (.ret (ownT (cOutcome) 74 none false r) []) := by
  intro m0
  induction m0 with
  | zero => intros; rfl
  | succ m0 ih =>
    intros
    simp (config := {maxSteps := 40000000}) only [↓rPre, rPost, rCan, rObj, rI, rS, rB, r8, rLI, rEtc, hy.p, hy.l, hy.k, hy.r, hy.d, hy.w, hy.f, flatIds, oid, r_laws_toOutcomeS, ↓G_unf _ _ b0_laws_toOutcomeS.eq_1, ↓G_unf _ _ k1_laws_toOutcomeS.eq_1, ↓G_unf _ _ c_laws_toOutcomeS.eq_1, h_laws_toOutcome.2, h_laws_toOutcome.1, gH_succ, ih, bind_ite, laws_toOutcomeS_l0, rRow3, rVerdict, rRow59, rOutcome, rRow72, rRow56, rRow74, rRow5, rRow9, rMap91, rLog, ↓reduceIte, Nat.reduceMul, Nat.reduceAdd, Nat.reduceSub, Nat.reduceEqDiff, Nat.reduceBEq, Nat.reduceLeDiff, Nat.reduceLT, reduceCtorEq, Int.reduceAdd, Int.reduceSub, Int.reduceToNat, Int.reduceNeg, Int.reduceEq, Int.reduceLT, Int.reduceLE]
theorem laws_toOutcomeS_g (E : En) (hy : Hy E [] [] [] r_laws_toOutcomeS none (fun y => nocap y) flatIds) (L_laws_toOutcome : Int → Int → (List Int) → (List Int) → Int → Int → Option (Int × Int × List Int × List Int × Int × Int)) (h_laws_toOutcome : H_laws_toOutcome E L_laws_toOutcome) (a0 : List TOutcome) : G E c_laws_toOutcomeS [] ⟨slotsOf [(0, .d (lstT cOutcome a0))], obsOf []⟩ = (laws_toOutcomeS_f L_laws_toOutcome E.n a0).bind fun r => some (.ret (ownT (cOutcome) 74 none false r) []) := by
  simp (config := {maxSteps := 40000000}) only [↓rPre, rPost, rCan, rObj, rI, rS, rB, r8, rLI, rEtc, hy.p, hy.l, hy.k, hy.r, hy.d, hy.w, hy.f, flatIds, oid, r_laws_toOutcomeS, ↓G_unf _ _ b0_laws_toOutcomeS.eq_1, ↓G_unf _ _ k1_laws_toOutcomeS.eq_1, ↓G_unf _ _ c_laws_toOutcomeS.eq_1, h_laws_toOutcome.2, h_laws_toOutcome.1, bind_ite, laws_toOutcomeS_f, laws_toOutcomeS_l0_eq E hy L_laws_toOutcome h_laws_toOutcome, rRow3, rVerdict, rRow59, rOutcome, rRow72, rRow56, rRow74, rRow5, rRow9, rMap91, rLog, ↓reduceIte, Nat.reduceMul, Nat.reduceAdd, Nat.reduceSub, Nat.reduceEqDiff, Nat.reduceBEq, Nat.reduceLeDiff, Nat.reduceLT, reduceCtorEq, Int.reduceAdd, Int.reduceSub, Int.reduceToNat, Int.reduceNeg, Int.reduceEq, Int.reduceLT, Int.reduceLE]
def H_laws_toOutcomeS (E : En) (L : (List TOutcome) → Option (List TOutcome)) : Prop := E.Γ.mu 18 = false ∧ (∀ (a0 : List TOutcome), E.Γ 18 [.d (lstT cOutcome a0)] = (L a0).bind fun r => some (.ret (ownT (cOutcome) 74 none false r) []))
-- loop.example/s02135/spec.l3Digit
def c_spec_l3Digit : Cd :=
  sq (r [0] [o 2 .mv [b false]])
  (sq (r [2] [o 3 .mv [t 0], o 4 (.bin .geq) [t 3, .k (.d (.int .u8 48))], o 5 .mv [t 4], g 5 true 6 .mv [t 0], g 5 true 7 (.bin .leq) [t 6, .k (.d (.int .u8 57))], o 8 .pick [t 5, t 7, b false], o 2 .mv [t 8]])
   (.ret))
def r_spec_l3Digit : List RV := [.tmp 2]
def spec_l3Digit_f (N : Nat) (a0 : Int) : Option (Bool) :=
  if 48 ≤ a0 then some (Decidable.decide (a0 ≤ 57))
  else some false
theorem spec_l3Digit_g (E : En) (hy : Hy E [] [] [] r_spec_l3Digit none (fun y => nocap y) flatIds) (a0 : Int) : G E c_spec_l3Digit [] ⟨slotsOf [(0, .d (.int .u8 a0))], obsOf []⟩ = (spec_l3Digit_f E.n a0).bind fun r => some (.ret (.d (.bool r)) []) := by
  simp (config := {maxSteps := 40000000}) only [↓rPre, rPost, rCan, rObj, rI, rS, rB, r8, rLI, rEtc, hy.p, hy.l, hy.k, hy.r, hy.d, hy.w, hy.f, flatIds, oid, r_spec_l3Digit, ↓G_unf _ _ c_spec_l3Digit.eq_1, bind_ite, spec_l3Digit_f, rRow3, rVerdict, rRow59, rOutcome, rRow72, rRow56, rRow74, rRow5, rRow9, rMap91, rLog, ↓reduceIte, Nat.reduceMul, Nat.reduceAdd, Nat.reduceSub, Nat.reduceEqDiff, Nat.reduceBEq, Nat.reduceLeDiff, Nat.reduceLT, reduceCtorEq, Int.reduceAdd, Int.reduceSub, Int.reduceToNat, Int.reduceNeg, Int.reduceEq, Int.reduceLT, Int.reduceLE]
def H_spec_l3Digit (E : En) (L : Int → Option (Bool)) : Prop := E.Γ.mu 50 = false ∧ (∀ (a0 : Int), E.Γ 50 [.d (.int .u8 a0)] = (L a0).bind fun r => some (.ret (.d (.bool r)) []))
-- loop.example/s02135/spec.l3Letter
def c_spec_l3Letter : Cd :=
  sq (r [0] [o 2 .mv [b false]])
  (sq (r [2] [o 3 .mv [t 0], o 4 (.bin .geq) [t 3, .k (.d (.int .u8 97))], o 5 .mv [t 4], g 5 true 6 .mv [t 0], g 5 true 7 (.bin .leq) [t 6, .k (.d (.int .u8 122))], o 8 .pick [t 5, t 7, b false], o 9 .mv [t 8], g 9 false 10 .mv [t 0], g 9 false 11 (.bin .geq) [t 10, .k (.d (.int .u8 65))], g 9 false 12 .mv [t 11], g 12 true 13 .mv [t 0], g 12 true 14 (.bin .leq) [t 13, .k (.d (.int .u8 90))], g 9 false 15 .pick [t 12, t 14, b false], o 16 .pick [t 9, b true, t 15], o 2 .mv [t 16]])
   (.ret))
def r_spec_l3Letter : List RV := [.tmp 2]
def spec_l3Letter_f (N : Nat) (a0 : Int) : Option (Bool) :=
  if 97 ≤ a0 then (if a0 ≤ 122 then some true
   else (if 65 ≤ a0 then some (Decidable.decide (a0 ≤ 90))
    else some false))
  else (if 65 ≤ a0 then some (Decidable.decide (a0 ≤ 90))
   else some false)
theorem spec_l3Letter_g (E : En) (hy : Hy E [] [] [] r_spec_l3Letter none (fun y => nocap y) flatIds) (a0 : Int) : G E c_spec_l3Letter [] ⟨slotsOf [(0, .d (.int .u8 a0))], obsOf []⟩ = (spec_l3Letter_f E.n a0).bind fun r => some (.ret (.d (.bool r)) []) := by
  simp (config := {maxSteps := 40000000}) only [↓rPre, rPost, rCan, rObj, rI, rS, rB, r8, rLI, rEtc, hy.p, hy.l, hy.k, hy.r, hy.d, hy.w, hy.f, flatIds, oid, r_spec_l3Letter, ↓G_unf _ _ c_spec_l3Letter.eq_1, bind_ite, spec_l3Letter_f, rRow3, rVerdict, rRow59, rOutcome, rRow72, rRow56, rRow74, rRow5, rRow9, rMap91, rLog, ↓reduceIte, Nat.reduceMul, Nat.reduceAdd, Nat.reduceSub, Nat.reduceEqDiff, Nat.reduceBEq, Nat.reduceLeDiff, Nat.reduceLT, reduceCtorEq, Int.reduceAdd, Int.reduceSub, Int.reduceToNat, Int.reduceNeg, Int.reduceEq, Int.reduceLT, Int.reduceLE]
def H_spec_l3Letter (E : En) (L : Int → Option (Bool)) : Prop := E.Γ.mu 51 = false ∧ (∀ (a0 : Int), E.Γ 51 [.d (.int .u8 a0)] = (L a0).bind fun r => some (.ret (.d (.bool r)) []))
-- loop.example/s02135/spec.l6IdOk
def b0_spec_l6IdOk : Cd :=
  sq (sq (r [0, 3, 7] [o 4 .mv [t 3], o 5 .mv [t 0], o 6 (.len true) [t 5], o 7 (.bin .lss) [t 4, t 6]])
   (.cond (t 7) (.skip) (.exit 0)))
  (sq (.block 1 (sq (r [0, 3, 21] [o 10 .mv [t 0], o 11 .mv [t 3], o 12 .ixs [t 10, t 11], o 13 (.call 50) [t 12], o 14 .not [t 13], o 15 .mv [t 14], g 15 true 16 .mv [t 0], g 15 true 17 .mv [t 3], g 15 true 18 .ixs [t 16, t 17], g 15 true 19 (.call 51) [t 18], g 15 true 20 .not [t 19], o 21 .pick [t 15, t 20, b false]])
     (.cond (t 21) (sq (r [2] [o 2 .mv [b false]])
       (.ret)) (.skip))))
   (r [0, 3] [o 8 .mv [t 3], o 9 (.bin .add) [t 8, i 1], o 3 .mv [t 9]]))
def k1_spec_l6IdOk : Cd :=
  sq (r [2] [o 22 .mv [t 0], o 23 (.len true) [t 22], o 24 (.bin .geq) [t 23, i 1], o 25 .mv [t 24], g 25 true 26 .mv [t 0], g 25 true 27 (.len true) [t 26], g 25 true 28 (.bin .leq) [t 27, i 20], o 29 .pick [t 25, t 28, b false], o 2 .mv [t 29]])
  (.ret)
def c_spec_l6IdOk : Cd :=
  sq (r [0] [o 2 .mv [b false]])
  (sq (sq (r [0, 3] [o 3 .mv [i 0]])
    (.block 0 (.loop [0, 3] b0_spec_l6IdOk))) k1_spec_l6IdOk)
def r_spec_l6IdOk : List RV := [.tmp 2]
def spec_l6IdOk_l0 (L_spec_l3Digit : Int → Option (Bool)) (L_spec_l3Letter : Int → Option (Bool)) : Nat → (List UInt8) → Int → Option (Bool)
  | 0, _, _ => none
  | m0 + 1, x0, x3 =>
    if x3 < (↑(List.length x0) : Int) then ((idxB x0 x3).bind fun y0 =>
     (L_spec_l3Digit y0).bind fun y1 =>
     if y1 = false then ((idxB x0 x3).bind fun y2 =>
      (L_spec_l3Letter y2).bind fun y3 =>
      if y3 = false then some false
      else spec_l6IdOk_l0 L_spec_l3Digit L_spec_l3Letter m0 x0 (w64 (x3 + 1)))
     else spec_l6IdOk_l0 L_spec_l3Digit L_spec_l3Letter m0 x0 (w64 (x3 + 1)))
    else (if 1 ≤ (↑(List.length x0) : Int) then some (Decidable.decide ((↑(List.length x0) : Int) ≤ 20))
     else some false)
def spec_l6IdOk_f (L_spec_l3Digit : Int → Option (Bool)) (L_spec_l3Letter : Int → Option (Bool)) (N : Nat) (a0 : List UInt8) : Option (Bool) :=
  spec_l6IdOk_l0 L_spec_l3Digit L_spec_l3Letter N a0 0
theorem spec_l6IdOk_l0_eq (E : En) (hy : Hy E [] [] [] r_spec_l6IdOk none (fun y => nocap y) flatIds) (L_spec_l3Digit : Int → Option (Bool)) (h_spec_l3Digit : H_spec_l3Digit E L_spec_l3Digit) (L_spec_l3Letter : Int → Option (Bool)) (h_spec_l3Letter : H_spec_l3Letter E L_spec_l3Letter) : ∀ (m0 : Nat) (x0 : List UInt8) (x3 : Int), gH E [0, 3] b0_spec_l6IdOk [KJ.b 0, KJ.c k1_spec_l6IdOk] m0 ⟨slotsOf [(0, .d (sD x0)), (3, .d (.int .i64 x3))], obsOf []⟩ = (spec_l6IdOk_l0 L_spec_l3Digit L_spec_l3Letter m0 x0 x3).bind fun r => some (.ret (.d (.bool r)) []) := by
  intro m0
  induction m0 with
  | zero => intros; rfl
  | succ m0 ih =>
    intros
    simp (config := {maxSteps := 40000000}) only [↓rPre, rPost, rCan, rObj, rI, rS, rB, r8, rLI, rEtc, hy.p, hy.l, hy.k, hy.r, hy.d, hy.w, hy.f, flatIds, oid, r_spec_l6IdOk, ↓G_unf _ _ b0_spec_l6IdOk.eq_1, ↓G_unf _ _ k1_spec_l6IdOk.eq_1, ↓G_unf _ _ c_spec_l6IdOk.eq_1, h_spec_l3Digit.2, h_spec_l3Digit.1, h_spec_l3Letter.2, h_spec_l3Letter.1, gH_succ, ih, bind_ite, spec_l6IdOk_l0, rRow3, rVerdict, rRow59, rOutcome, rRow72, rRow56, rRow74, rRow5, rRow9, rMap91, rLog, ↓reduceIte, Nat.reduceMul, Nat.reduceAdd, Nat.reduceSub, Nat.reduceEqDiff, Nat.reduceBEq, Nat.reduceLeDiff, Nat.reduceLT, reduceCtorEq, Int.reduceAdd, Int.reduceSub, Int.reduceToNat, Int.reduceNeg, Int.reduceEq, Int.reduceLT, Int.reduceLE]
theorem spec_l6IdOk_g (E : En) (hy : Hy E [] [] [] r_spec_l6IdOk none (fun y => nocap y) flatIds) (L_spec_l3Digit : Int → Option (Bool)) (h_spec_l3Digit : H_spec_l3Digit E L_spec_l3Digit) (L_spec_l3Letter : Int → Option (Bool)) (h_spec_l3Letter : H_spec_l3Letter E L_spec_l3Letter) (a0 : List UInt8) : G E c_spec_l6IdOk [] ⟨slotsOf [(0, .d (sD a0))], obsOf []⟩ = (spec_l6IdOk_f L_spec_l3Digit L_spec_l3Letter E.n a0).bind fun r => some (.ret (.d (.bool r)) []) := by
  simp (config := {maxSteps := 40000000}) only [↓rPre, rPost, rCan, rObj, rI, rS, rB, r8, rLI, rEtc, hy.p, hy.l, hy.k, hy.r, hy.d, hy.w, hy.f, flatIds, oid, r_spec_l6IdOk, ↓G_unf _ _ b0_spec_l6IdOk.eq_1, ↓G_unf _ _ k1_spec_l6IdOk.eq_1, ↓G_unf _ _ c_spec_l6IdOk.eq_1, h_spec_l3Digit.2, h_spec_l3Digit.1, h_spec_l3Letter.2, h_spec_l3Letter.1, bind_ite, spec_l6IdOk_f, spec_l6IdOk_l0_eq E hy L_spec_l3Digit h_spec_l3Digit L_spec_l3Letter h_spec_l3Letter, rRow3, rVerdict, rRow59, rOutcome, rRow72, rRow56, rRow74, rRow5, rRow9, rMap91, rLog, ↓reduceIte, Nat.reduceMul, Nat.reduceAdd, Nat.reduceSub, Nat.reduceEqDiff, Nat.reduceBEq, Nat.reduceLeDiff, Nat.reduceLT, reduceCtorEq, Int.reduceAdd, Int.reduceSub, Int.reduceToNat, Int.reduceNeg, Int.reduceEq, Int.reduceLT, Int.reduceLE]
def H_spec_l6IdOk (E : En) (L : (List UInt8) → Option (Bool)) : Prop := E.Γ.mu 28 = false ∧ (∀ (a0 : List UInt8), E.Γ 28 [.d (sD a0)] = (L a0).bind fun r => some (.ret (.d (.bool r)) []))
-- loop.example/s02135/spec.l1Product
def b0_spec_l1Product : Cd :=
  sq (sq (r [0, 3, 4, 8] [o 5 .mv [t 4], o 6 .mv [t 0], o 7 (.len false) [t 6], o 8 (.bin .lss) [t 5, t 7]])
   (.cond (t 8) (.skip) (.exit 0)))
  (sq (.block 1 (sq (r [0, 3, 4] [o 11 .mv [t 3], o 12 .mv [t 0], o 13 .mv [t 4], o 14 (.ia 1) [t 12, t 13], o 15 (.ld none) [t 14], o 16 (.bin .mul) [t 11, t 15], o 3 .mv [t 16]])
     (sq (r [0, 3, 4, 18] [o 17 .mv [t 3], o 18 (.bin .gtr) [t 17, i 1000]])
      (.cond (t 18) (r [0, 3, 4] [o 3 .mv [i 1001]]) (.skip)))))
   (r [0, 3, 4] [o 9 .mv [t 4], o 10 (.bin .add) [t 9, i 1], o 4 .mv [t 10]]))
def k1_spec_l1Product : Cd :=
  sq (r [2] [o 19 .mv [t 3], o 2 .mv [t 19]])
  (.ret)
def c_spec_l1Product : Cd :=
  sq (r [0] [o 2 .mv [i 0]])
  (sq (r [0, 3] [o 3 .mv [i 1]])
   (sq (sq (r [0, 3, 4] [o 4 .mv [i 0]])
     (.block 0 (.loop [0, 3, 4] b0_spec_l1Product))) k1_spec_l1Product))
def r_spec_l1Product : List RV := [.tmp 2]
def spec_l1Product_l0 : Nat → (List Int) → Int → Int → Option (Int)
  | 0, _, _, _ => none
  | m0 + 1, x0, x3, x4 =>
    if x4 < (↑(List.length x0) : Int) then ((idx x0 x4).bind fun y0 =>
     if 1000 < w64 (x3 * y0) then spec_l1Product_l0 m0 x0 1001 (w64 (x4 + 1))
     else spec_l1Product_l0 m0 x0 (w64 (x3 * y0)) (w64 (x4 + 1)))
    else some x3
def spec_l1Product_f (N : Nat) (a0 : List Int) : Option (Int) :=
  spec_l1Product_l0 N a0 1 0
theorem spec_l1Product_l0_eq (E : En) (hy : Hy E [] [] [] r_spec_l1Product none (fun y => nocap y) flatIds) : ∀ (m0 : Nat) (x0 : List Int) (x3 : Int) (x4 : Int), gH E [0, 3, 4] b0_spec_l1Product [KJ.b 0, KJ.c k1_spec_l1Product] m0 ⟨slotsOf [(0, .d (lstT (cI) x0)), (3, .d (.int .i64 x3)), (4, .d (.int .i64 x4))], obsOf []⟩ = (spec_l1Product_l0 m0 x0 x3 x4).bind fun r => some (.ret (.d (.int .i64 r)) []) := by
  intro m0
  induction m0 with
  | zero => intros; rfl
  | succ m0 ih =>
    intros
    simp (config := {maxSteps := 40000000}) only [↓rPre, rPost, rCan, rObj, rI, rS, rB, r8, rLI, rEtc, hy.p, hy.l, hy.k, hy.r, hy.d, hy.w, hy.f, flatIds, oid, r_spec_l1Product, ↓G_unf _ _ b0_spec_l1Product.eq_1, ↓G_unf _ _ k1_spec_l1Product.eq_1, ↓G_unf _ _ c_spec_l1Product.eq_1, gH_succ, ih, bind_ite, spec_l1Product_l0, rRow3, rVerdict, rRow59, rOutcome, rRow72, rRow56, rRow74, rRow5, rRow9, rMap91, rLog, ↓reduceIte, Nat.reduceMul, Nat.reduceAdd, Nat.reduceSub, Nat.reduceEqDiff, Nat.reduceBEq, Nat.reduceLeDiff, Nat.reduceLT, reduceCtorEq, Int.reduceAdd, Int.reduceSub, Int.reduceToNat, Int.reduceNeg, Int.reduceEq, Int.reduceLT, Int.reduceLE]
theorem spec_l1Product_g (E : En) (hy : Hy E [] [] [] r_spec_l1Product none (fun y => nocap y) flatIds) (a0 : List Int) : G E c_spec_l1Product [] ⟨slotsOf [(0, .d (lstT cI a0))], obsOf []⟩ = (spec_l1Product_f E.n a0).bind fun r => some (.ret (.d (.int .i64 r)) []) := by
  simp (config := {maxSteps := 40000000}) only [↓rPre, rPost, rCan, rObj, rI, rS, rB, r8, rLI, rEtc, hy.p, hy.l, hy.k, hy.r, hy.d, hy.w, hy.f, flatIds, oid, r_spec_l1Product, ↓G_unf _ _ b0_spec_l1Product.eq_1, ↓G_unf _ _ k1_spec_l1Product.eq_1, ↓G_unf _ _ c_spec_l1Product.eq_1, bind_ite, spec_l1Product_f, spec_l1Product_l0_eq E hy, rRow3, rVerdict, rRow59, rOutcome, rRow72, rRow56, rRow74, rRow5, rRow9, rMap91, rLog, ↓reduceIte, Nat.reduceMul, Nat.reduceAdd, Nat.reduceSub, Nat.reduceEqDiff, Nat.reduceBEq, Nat.reduceLeDiff, Nat.reduceLT, reduceCtorEq, Int.reduceAdd, Int.reduceSub, Int.reduceToNat, Int.reduceNeg, Int.reduceEq, Int.reduceLT, Int.reduceLE]
def H_spec_l1Product (E : En) (L : (List Int) → Option (Int)) : Prop := E.Γ.mu 46 = false ∧ (∀ (a0 : List Int), E.Γ 46 [.d (lstT cI a0)] = (L a0).bind fun r => some (.ret (.d (.int .i64 r)) []))
-- loop.example/s02135/spec.l1Fits
def b0_spec_l1Fits : Cd :=
  sq (sq (r [0, 3, 10] [o 7 .mv [t 3], o 8 .mv [t 0], o 9 (.len false) [t 8], o 10 (.bin .lss) [t 7, t 9]])
   (.cond (t 10) (.skip) (.exit 0)))
  (sq (.block 1 (sq (r [0, 3, 24] [o 13 .mv [t 0], o 14 .mv [t 3], o 15 (.ia 1) [t 13, t 14], o 16 (.ld none) [t 15], o 17 (.bin .lss) [t 16, i 0], o 18 .mv [t 17], g 18 false 19 .mv [t 0], g 18 false 20 .mv [t 3], g 18 false 21 (.ia 1) [t 19, t 20], g 18 false 22 (.ld none) [t 21], g 18 false 23 (.bin .gtr) [t 22, i 1000], o 24 .pick [t 18, b true, t 23]])
     (.cond (t 24) (sq (r [2] [o 2 .mv [b false]])
       (.ret)) (.skip))))
   (r [0, 3] [o 11 .mv [t 3], o 12 (.bin .add) [t 11, i 1], o 3 .mv [t 12]]))
def k1_spec_l1Fits : Cd :=
  sq (r [2] [o 25 .mv [t 0], o 26 (.call 46) [t 25], o 27 (.bin .leq) [t 26, i 1000], o 2 .mv [t 27]])
  (.ret)
def c_spec_l1Fits : Cd :=
  sq (r [0] [o 2 .mv [b false]])
  (sq (sq (r [0, 6] [o 4 .mv [t 0], o 5 (.len false) [t 4], o 6 (.bin .gtr) [t 5, i 3]])
    (.cond (t 6) (sq (r [2] [o 2 .mv [b false]])
      (.ret)) (.skip)))
   (sq (sq (r [0, 3] [o 3 .mv [i 0]])
     (.block 0 (.loop [0, 3] b0_spec_l1Fits))) k1_spec_l1Fits))
def r_spec_l1Fits : List RV := [.tmp 2]
def spec_l1Fits_l0 (L_spec_l1Product : (List Int) → Option (Int)) : Nat → (List Int) → Int → Option (Bool)
  | 0, _, _ => none
  | m0 + 1, x0, x3 =>
    if x3 < (↑(List.length x0) : Int) then ((idx x0 x3).bind fun y0 =>
     if y0 < 0 then some false
     else ((idx x0 x3).bind fun y1 =>
      if 1000 < y1 then some false
      else spec_l1Fits_l0 L_spec_l1Product m0 x0 (w64 (x3 + 1))))
    else ((L_spec_l1Product x0).bind fun y2 =>
     some (Decidable.decide (y2 ≤ 1000)))
def spec_l1Fits_f (L_spec_l1Product : (List Int) → Option (Int)) (N : Nat) (a0 : List Int) : Option (Bool) :=
  if 3 < (↑(List.length a0) : Int) then some false
  else spec_l1Fits_l0 L_spec_l1Product N a0 0
theorem spec_l1Fits_l0_eq (E : En) (hy : Hy E [] [] [] r_spec_l1Fits none (fun y => nocap y) flatIds) (L_spec_l1Product : (List Int) → Option (Int)) (h_spec_l1Product : H_spec_l1Product E L_spec_l1Product) : ∀ (m0 : Nat) (x0 : List Int) (x3 : Int), gH E [0, 3] b0_spec_l1Fits [KJ.b 0, KJ.c k1_spec_l1Fits] m0 ⟨slotsOf [(0, .d (lstT (cI) x0)), (3, .d (.int .i64 x3))], obsOf []⟩ = (spec_l1Fits_l0 L_spec_l1Product m0 x0 x3).bind fun r => some (.ret (.d (.bool r)) []) := by
  intro m0
  induction m0 with
  | zero => intros; rfl
  | succ m0 ih =>
    intros
    simp (config := {maxSteps := 40000000}) only [↓rPre, rPost, rCan, rObj, rI, rS, rB, r8, rLI, rEtc, hy.p, hy.l, hy.k, hy.r, hy.d, hy.w, hy.f, flatIds, oid, r_spec_l1Fits, ↓G_unf _ _ b0_spec_l1Fits.eq_1, ↓G_unf _ _ k1_spec_l1Fits.eq_1, ↓G_unf _ _ c_spec_l1Fits.eq_1, h_spec_l1Product.2, h_spec_l1Product.1, gH_succ, ih, bind_ite, spec_l1Fits_l0, rRow3, rVerdict, rRow59, rOutcome, rRow72, rRow56, rRow74, rRow5, rRow9, rMap91, rLog, ↓reduceIte, Nat.reduceMul, Nat.reduceAdd, Nat.reduceSub, Nat.reduceEqDiff, Nat.reduceBEq, Nat.reduceLeDiff, Nat.reduceLT, reduceCtorEq, Int.reduceAdd, Int.reduceSub, Int.reduceToNat, Int.reduceNeg, Int.reduceEq, Int.reduceLT, Int.reduceLE]
theorem spec_l1Fits_g (E : En) (hy : Hy E [] [] [] r_spec_l1Fits none (fun y => nocap y) flatIds) (L_spec_l1Product : (List Int) → Option (Int)) (h_spec_l1Product : H_spec_l1Product E L_spec_l1Product) (a0 : List Int) : G E c_spec_l1Fits [] ⟨slotsOf [(0, .d (lstT cI a0))], obsOf []⟩ = (spec_l1Fits_f L_spec_l1Product E.n a0).bind fun r => some (.ret (.d (.bool r)) []) := by
  simp (config := {maxSteps := 40000000}) only [↓rPre, rPost, rCan, rObj, rI, rS, rB, r8, rLI, rEtc, hy.p, hy.l, hy.k, hy.r, hy.d, hy.w, hy.f, flatIds, oid, r_spec_l1Fits, ↓G_unf _ _ b0_spec_l1Fits.eq_1, ↓G_unf _ _ k1_spec_l1Fits.eq_1, ↓G_unf _ _ c_spec_l1Fits.eq_1, h_spec_l1Product.2, h_spec_l1Product.1, bind_ite, spec_l1Fits_f, spec_l1Fits_l0_eq E hy L_spec_l1Product h_spec_l1Product, rRow3, rVerdict, rRow59, rOutcome, rRow72, rRow56, rRow74, rRow5, rRow9, rMap91, rLog, ↓reduceIte, Nat.reduceMul, Nat.reduceAdd, Nat.reduceSub, Nat.reduceEqDiff, Nat.reduceBEq, Nat.reduceLeDiff, Nat.reduceLT, reduceCtorEq, Int.reduceAdd, Int.reduceSub, Int.reduceToNat, Int.reduceNeg, Int.reduceEq, Int.reduceLT, Int.reduceLE]
def H_spec_l1Fits (E : En) (L : (List Int) → Option (Bool)) : Prop := E.Γ.mu 45 = false ∧ (∀ (a0 : List Int), E.Γ 45 [.d (lstT cI a0)] = (L a0).bind fun r => some (.ret (.d (.bool r)) []))
-- loop.example/s02135/spec.ArrayOk
def b0_spec_ArrayOk : Cd :=
  sq (sq (r [1, 3, 21] [o 17 .mv [t 3], o 18 (.fa 1) [t 1], o 19 (.ld none) [t 18], o 20 (.len false) [t 19], o 21 (.bin .lss) [t 17, t 20]])
   (.cond (t 21) (.skip) (.exit 0)))
  (sq (.block 1 (sq (r [1, 3, 37] [o 24 (.fa 1) [t 1], o 25 (.ld none) [t 24], o 26 .mv [t 3], o 27 (.ia 1) [t 25, t 26], o 28 (.ld none) [t 27], o 29 (.bin .lss) [t 28, i (-3000000000)], o 30 .mv [t 29], g 30 false 31 (.fa 1) [t 1], g 30 false 32 (.ld none) [t 31], g 30 false 33 .mv [t 3], g 30 false 34 (.ia 1) [t 32, t 33], g 30 false 35 (.ld none) [t 34], g 30 false 36 (.bin .gtr) [t 35, i 3000000000], o 37 .pick [t 30, b true, t 36]])
     (.cond (t 37) (sq (r [2] [o 2 .mv [b false]])
       (.ret)) (.skip))))
   (r [1, 3] [o 22 .mv [t 3], o 23 (.bin .add) [t 22, i 1], o 3 .mv [t 23]]))
def k1_spec_ArrayOk : Cd :=
  sq (r [2] [o 2 .mv [b true]])
  (.ret)
def c_spec_ArrayOk : Cd :=
  sq (r [1] [o 1 .box [t 0], o 2 .mv [b false]])
  (sq (sq (rd [] [1, 16] [o 4 (.fa 0) [t 1], o 5 (.ld none) [t 4], o 6 (.call 45) [t 5], o 7 .not [t 6], o 8 .mv [t 7], g 8 false 9 (.fa 1) [t 1], g 8 false 10 (.ld none) [t 9], g 8 false 11 (.len false) [t 10], g 8 false 12 (.fa 0) [t 1], g 8 false 13 (.ld none) [t 12], ap [] false [1, 8, 9, 8, 10, 8] (g 8 false 14 (.call 46) [t 13]), g 8 false 15 (.bin .neq) [t 11, t 14], o 16 .pick [t 8, b true, t 15]])
    (.cond (t 16) (sq (r [2] [o 2 .mv [b false]])
      (.ret)) (.skip)))
   (sq (sq (r [1, 3] [o 3 .mv [i 0]])
     (.block 0 (.loop [1, 3] b0_spec_ArrayOk))) k1_spec_ArrayOk))
def r_spec_ArrayOk : List RV := [.tmp 2]
def spec_ArrayOk_l0 (L_spec_l1Fits : (List Int) → Option (Bool)) (L_spec_l1Product : (List Int) → Option (Int)) : Nat → Int → (List Int) → (List Int) → Option (Bool)
  | 0, _, _, _ => none
  | m0 + 1, x3, o64_0, o64_1 =>
    if x3 < (↑(List.length o64_1) : Int) then ((idx o64_1 x3).bind fun y0 =>
     if y0 < -3000000000 then some false
     else ((idx o64_1 x3).bind fun y1 =>
      if 3000000000 < y1 then some false
      else spec_ArrayOk_l0 L_spec_l1Fits L_spec_l1Product m0 (w64 (x3 + 1)) o64_0 o64_1))
    else some true
def spec_ArrayOk_f (L_spec_l1Fits : (List Int) → Option (Bool)) (L_spec_l1Product : (List Int) → Option (Int)) (N : Nat) (a0_Shape : List Int) (a0_Data : List Int) : Option (Bool) :=
  (L_spec_l1Fits a0_Shape).bind fun y0 =>
  if y0 = false then some false
  else ((L_spec_l1Product a0_Shape).bind fun y1 =>
   if (↑(List.length a0_Data) : Int) = y1 then spec_ArrayOk_l0 L_spec_l1Fits L_spec_l1Product N 0 a0_Shape a0_Data
   else some false)
theorem spec_ArrayOk_l0_eq (E : En) (hy : Hy E [] [] [] r_spec_ArrayOk none (fun y => nocap y) flatIds) (L_spec_l1Fits : (List Int) → Option (Bool)) (h_spec_l1Fits : H_spec_l1Fits E L_spec_l1Fits) (L_spec_l1Product : (List Int) → Option (Int)) (h_spec_l1Product : H_spec_l1Product E L_spec_l1Product) : ∀ (m0 : Nat) (x3 : Int) (o64_0 : List Int) (o64_1 : List Int), gH E [1, 3] b0_spec_ArrayOk [KJ.b 0, KJ.c k1_spec_ArrayOk] m0 ⟨slotsOf [(1, A.adr 64 1 0), (3, .d (.int .i64 x3))], obsOf [(64, ⟨1, .box [.d (lstT (cI) o64_0), .d (lstT (cI) o64_1)], false⟩)]⟩ = (spec_ArrayOk_l0 L_spec_l1Fits L_spec_l1Product m0 x3 o64_0 o64_1).bind fun r => some (.ret (.d (.bool r)) []) := by
  intro m0
  induction m0 with
  | zero => intros; rfl
  | succ m0 ih =>
    intros
    simp (config := {maxSteps := 40000000}) only [↓rPre, rPost, rCan, rObj, rI, rS, rB, r8, rLI, rEtc, hy.p, hy.l, hy.k, hy.r, hy.d, hy.w, hy.f, flatIds, oid, r_spec_ArrayOk, ↓G_unf _ _ b0_spec_ArrayOk.eq_1, ↓G_unf _ _ k1_spec_ArrayOk.eq_1, ↓G_unf _ _ c_spec_ArrayOk.eq_1, h_spec_l1Fits.2, h_spec_l1Fits.1, h_spec_l1Product.2, h_spec_l1Product.1, gH_succ, ih, bind_ite, spec_ArrayOk_l0, rRow3, rVerdict, rRow59, rOutcome, rRow72, rRow56, rRow74, rRow5, rRow9, rMap91, rLog, ↓reduceIte, Nat.reduceMul, Nat.reduceAdd, Nat.reduceSub, Nat.reduceEqDiff, Nat.reduceBEq, Nat.reduceLeDiff, Nat.reduceLT, reduceCtorEq, Int.reduceAdd, Int.reduceSub, Int.reduceToNat, Int.reduceNeg, Int.reduceEq, Int.reduceLT, Int.reduceLE]
theorem spec_ArrayOk_g (E : En) (hy : Hy E [] [] [] r_spec_ArrayOk none (fun y => nocap y) flatIds) (L_spec_l1Fits : (List Int) → Option (Bool)) (h_spec_l1Fits : H_spec_l1Fits E L_spec_l1Fits) (L_spec_l1Product : (List Int) → Option (Int)) (h_spec_l1Product : H_spec_l1Product E L_spec_l1Product) (a0_Shape : List Int) (a0_Data : List Int) : G E c_spec_ArrayOk [] ⟨slotsOf [(0, .agg [.d (lstT cI a0_Shape), .d (lstT cI a0_Data)])], obsOf []⟩ = (spec_ArrayOk_f L_spec_l1Fits L_spec_l1Product E.n a0_Shape a0_Data).bind fun r => some (.ret (.d (.bool r)) []) := by
  simp (config := {maxSteps := 40000000}) only [↓rPre, rPost, rCan, rObj, rI, rS, rB, r8, rLI, rEtc, hy.p, hy.l, hy.k, hy.r, hy.d, hy.w, hy.f, flatIds, oid, r_spec_ArrayOk, ↓G_unf _ _ b0_spec_ArrayOk.eq_1, ↓G_unf _ _ k1_spec_ArrayOk.eq_1, ↓G_unf _ _ c_spec_ArrayOk.eq_1, h_spec_l1Fits.2, h_spec_l1Fits.1, h_spec_l1Product.2, h_spec_l1Product.1, bind_ite, spec_ArrayOk_f, spec_ArrayOk_l0_eq E hy L_spec_l1Fits h_spec_l1Fits L_spec_l1Product h_spec_l1Product, rRow3, rVerdict, rRow59, rOutcome, rRow72, rRow56, rRow74, rRow5, rRow9, rMap91, rLog, ↓reduceIte, Nat.reduceMul, Nat.reduceAdd, Nat.reduceSub, Nat.reduceEqDiff, Nat.reduceBEq, Nat.reduceLeDiff, Nat.reduceLT, reduceCtorEq, Int.reduceAdd, Int.reduceSub, Int.reduceToNat, Int.reduceNeg, Int.reduceEq, Int.reduceLT, Int.reduceLE]
def H_spec_ArrayOk (E : En) (L : (List Int) → (List Int) → Option (Bool)) : Prop := E.Γ.mu 22 = false ∧ (∀ (a0_Shape : List Int) (a0_Data : List Int), E.Γ 22 [.agg [.d (lstT cI a0_Shape), .d (lstT cI a0_Data)]] = (L a0_Shape a0_Data).bind fun r => some (.ret (.d (.bool r)) []))
-- loop.example/s02135/spec.l1Dec
def c_spec_l1Dec : Cd :=
  sq (r [0] [o 2 .mv [s []]])
  (sq (sq (r [0, 4] [o 3 .mv [t 0], o 4 (.bin .lss) [t 3, i 0]])
    (.cond (t 4) (sq (r [2] [o 5 .mv [t 0], o 6 .neg [t 5], o 7 (.call 30) [t 6], o 8 (.bin .add) [s [45], t 7], o 2 .mv [t 8]])
      (.ret)) (.skip)))
   (sq (sq (r [0, 10] [o 9 .mv [t 0], o 10 (.bin .lss) [t 9, i 10]])
     (.cond (t 10) (sq (r [2] [o 11 .mv [t 0], o 12 (.bin .add) [i 48, t 11], o 13 (.cvt .u8) [t 12], o 14 (lit 5 1 1) [t 13], o 15 .b2s [t 14], o 2 .mv [t 15]])
       (.ret)) (.skip)))
    (sq (rd [] [2] [ap [1472] false [] (o 16 .mv [t 0]), ap [1472] false [] (o 17 (.bin .quo) [t 16, i 10]), o 19 .mv [t 0], o 20 (.bin .rem) [t 19, i 10], o 21 (.bin .add) [i 48, t 20], o 22 (.cvt .u8) [t 21], ap [] true [] (o 23 (lit 5 1 1) [t 22]), o 24 .b2s [t 23], ap [1472] false [23] (o 18 (.call 30) [t 17]), o 25 (.bin .add) [t 18, t 24], o 2 .mv [t 25]])
     (.ret))))
def r_spec_l1Dec : List RV := [.tmp 2]
def H_spec_l1Dec (E : En) (L : Int → Option (List UInt8)) : Prop := E.Γ.mu 30 = false ∧ (∀ (a0 : Int), E.Γ 30 [.d (.int .i64 a0)] = (L a0).bind fun r => some (.ret (.d (sD r)) []))
def spec_l1Dec_f (L_spec_l1Dec : Int → Option (List UInt8)) (N : Nat) (a0 : Int) : Option (List UInt8) :=
  if a0 < 0 then ((L_spec_l1Dec (w64 (0 - a0))).bind fun y0 =>
   if roomS (List.length y0 + 1) then some (45 :: y0)
   else none)
  else (if a0 < 10 then some (bytes8 [Go.IntKind.wrap .u8 (w64 (48 + a0))])
   else ((L_spec_l1Dec (w64 (Int.tdiv a0 10))).bind fun y1 =>
    if roomS (List.length (y1 ++ bytes8 [Go.IntKind.wrap .u8 (w64 (48 + Int.tmod a0 10))])) then some (y1 ++ bytes8 [Go.IntKind.wrap .u8 (w64 (48 + Int.tmod a0 10))])
    else none))
theorem spec_l1Dec_g (E : En) (hy : Hy E [] [] [] r_spec_l1Dec none (fun y => nocap y) flatIds) (L_spec_l1Dec : Int → Option (List UInt8)) (h_spec_l1Dec : H_spec_l1Dec E L_spec_l1Dec) (a0 : Int) : G E c_spec_l1Dec [] ⟨slotsOf [(0, .d (.int .i64 a0))], obsOf []⟩ = (spec_l1Dec_f L_spec_l1Dec E.n a0).bind fun r => some (.ret (.d (sD r)) []) := by
  simp (config := {maxSteps := 40000000}) only [↓rPre, rPost, rCan, rObj, rI, rS, rB, r8, rLI, rEtc, hy.p, hy.l, hy.k, hy.r, hy.d, hy.w, hy.f, flatIds, oid, r_spec_l1Dec, ↓G_unf _ _ c_spec_l1Dec.eq_1, h_spec_l1Dec.2, h_spec_l1Dec.1, bind_ite, spec_l1Dec_f, rRow3, rVerdict, rRow59, rOutcome, rRow72, rRow56, rRow74, rRow5, rRow9, rMap91, rLog, ↓reduceIte, Nat.reduceMul, Nat.reduceAdd, Nat.reduceSub, Nat.reduceEqDiff, Nat.reduceBEq, Nat.reduceLeDiff, Nat.reduceLT, reduceCtorEq, Int.reduceAdd, Int.reduceSub, Int.reduceToNat, Int.reduceNeg, Int.reduceEq, Int.reduceLT, Int.reduceLE]
-- loop.example/s02135/spec.l1Join
def b0_spec_l1Join : Cd :=
  sq (sq (r [0, 3, 4, 9] [o 6 .mv [t 4], o 7 .mv [t 0], o 8 (.len false) [t 7], o 9 (.bin .lss) [t 6, t 8]])
   (.cond (t 9) (.skip) (.exit 0)))
  (sq (.block 1 (sq (sq (r [0, 3, 4, 13] [o 12 .mv [t 4], o 13 (.bin .gtr) [t 12, i 0]])
      (.cond (t 13) (r [0, 3, 4] [o 14 .mv [t 3], o 15 (lit 5 1 1) [.k (.d (.int .u8 32))], o 16 (.app 5 1 1) [t 14, t 15], o 3 .mv [t 16]]) (.skip)))
     (r [0, 3, 4] [o 17 .mv [t 3], o 18 .mv [t 0], o 19 .mv [t 4], o 20 (.ia 1) [t 18, t 19], o 21 (.ld none) [t 20], o 22 (.call 30) [t 21], o 23 (.s2b 5) [t 22], o 24 (.app 5 1 1) [t 17, t 23], o 3 .mv [t 24]])))
   (r [0, 3, 4] [o 10 .mv [t 4], o 11 (.bin .add) [t 10, i 1], o 4 .mv [t 11]]))
def k1_spec_l1Join : Cd :=
  sq (r [2] [o 25 .mv [t 3], o 26 .b2s [t 25], o 2 .mv [t 26]])
  (.ret)
def c_spec_l1Join : Cd :=
  sq (r [0] [o 2 .mv [s []]])
  (sq (r [0, 3] [o 5 (lit 5 1 0) [], o 3 .mv [t 5]])
   (sq (sq (r [0, 3, 4] [o 4 .mv [i 0]])
     (.block 0 (.loop [0, 3, 4] b0_spec_l1Join))) k1_spec_l1Join))
def r_spec_l1Join : List RV := [.tmp 2]
def spec_l1Join_l0 (L_spec_l1Dec : Int → Option (List UInt8)) : Nat → (List Int) → Int → (List Int) → Option (List UInt8)
  | 0, _, _, _ => none
  | m0 + 1, x0, x4, o192 =>
    if x4 < (↑(List.length x0) : Int) then (if 0 < x4 then (if room 1 (List.length (o192 ++ [32])) then ((idx x0 x4).bind fun y0 =>
       (L_spec_l1Dec y0).bind fun y1 =>
       if room 1 (List.length (o192 ++ [32] ++ ofBytes y1)) then spec_l1Join_l0 L_spec_l1Dec m0 x0 (w64 (x4 + 1)) (o192 ++ [32] ++ ofBytes y1)
       else none)
      else none)
     else ((idx x0 x4).bind fun y2 =>
      (L_spec_l1Dec y2).bind fun y3 =>
      if room 1 (List.length (o192 ++ ofBytes y3)) then spec_l1Join_l0 L_spec_l1Dec m0 x0 (w64 (x4 + 1)) (o192 ++ ofBytes y3)
      else none))
    else some (bytes8 o192)
def spec_l1Join_f (L_spec_l1Dec : Int → Option (List UInt8)) (N : Nat) (a0 : List Int) : Option (List UInt8) :=
  spec_l1Join_l0 L_spec_l1Dec N a0 0 []
theorem spec_l1Join_l0_eq (E : En) (hy : Hy E [] [] [] r_spec_l1Join none (fun y => nocap y) flatIds) (L_spec_l1Dec : Int → Option (List UInt8)) (h_spec_l1Dec : H_spec_l1Dec E L_spec_l1Dec) : ∀ (m0 : Nat) (x0 : List Int) (x4 : Int) (o192 : List Int), gH E [0, 3, 4] b0_spec_l1Join [KJ.b 0, KJ.c k1_spec_l1Join] m0 ⟨slotsOf [(0, .d (lstT (cI) x0)), (3, A.row 192 1), (4, .d (.int .i64 x4))], obsOf [(192, ⟨1, rowT (c8) 5 none o192, false⟩)]⟩ = (spec_l1Join_l0 L_spec_l1Dec m0 x0 x4 o192).bind fun r => some (.ret (.d (sD r)) []) := by
  intro m0
  induction m0 with
  | zero => intros; rfl
  | succ m0 ih =>
    intros
    simp (config := {maxSteps := 40000000}) only [↓rPre, rPost, rCan, rObj, rI, rS, rB, r8, rLI, rEtc, hy.p, hy.l, hy.k, hy.r, hy.d, hy.w, hy.f, flatIds, oid, r_spec_l1Join, ↓G_unf _ _ b0_spec_l1Join.eq_1, ↓G_unf _ _ k1_spec_l1Join.eq_1, ↓G_unf _ _ c_spec_l1Join.eq_1, h_spec_l1Dec.2, h_spec_l1Dec.1, gH_succ, ih, bind_ite, spec_l1Join_l0, rRow3, rVerdict, rRow59, rOutcome, rRow72, rRow56, rRow74, rRow5, rRow9, rMap91, rLog, ↓reduceIte, Nat.reduceMul, Nat.reduceAdd, Nat.reduceSub, Nat.reduceEqDiff, Nat.reduceBEq, Nat.reduceLeDiff, Nat.reduceLT, reduceCtorEq, Int.reduceAdd, Int.reduceSub, Int.reduceToNat, Int.reduceNeg, Int.reduceEq, Int.reduceLT, Int.reduceLE]
theorem spec_l1Join_g (E : En) (hy : Hy E [] [] [] r_spec_l1Join none (fun y => nocap y) flatIds) (L_spec_l1Dec : Int → Option (List UInt8)) (h_spec_l1Dec : H_spec_l1Dec E L_spec_l1Dec) (a0 : List Int) : G E c_spec_l1Join [] ⟨slotsOf [(0, .d (lstT cI a0))], obsOf []⟩ = (spec_l1Join_f L_spec_l1Dec E.n a0).bind fun r => some (.ret (.d (sD r)) []) := by
  simp (config := {maxSteps := 40000000}) only [↓rPre, rPost, rCan, rObj, rI, rS, rB, r8, rLI, rEtc, hy.p, hy.l, hy.k, hy.r, hy.d, hy.w, hy.f, flatIds, oid, r_spec_l1Join, ↓G_unf _ _ b0_spec_l1Join.eq_1, ↓G_unf _ _ k1_spec_l1Join.eq_1, ↓G_unf _ _ c_spec_l1Join.eq_1, h_spec_l1Dec.2, h_spec_l1Dec.1, bind_ite, spec_l1Join_f, spec_l1Join_l0_eq E hy L_spec_l1Dec h_spec_l1Dec, rRow3, rVerdict, rRow59, rOutcome, rRow72, rRow56, rRow74, rRow5, rRow9, rMap91, rLog, ↓reduceIte, Nat.reduceMul, Nat.reduceAdd, Nat.reduceSub, Nat.reduceEqDiff, Nat.reduceBEq, Nat.reduceLeDiff, Nat.reduceLT, reduceCtorEq, Int.reduceAdd, Int.reduceSub, Int.reduceToNat, Int.reduceNeg, Int.reduceEq, Int.reduceLT, Int.reduceLE]
def H_spec_l1Join (E : En) (L : (List Int) → Option (List UInt8)) : Prop := E.Γ.mu 23 = false ∧ (∀ (a0 : List Int), E.Γ 23 [.d (lstT cI a0)] = (L a0).bind fun r => some (.ret (.d (sD r)) []))
-- loop.example/s02135/spec.LogEntry
def b0_spec_LogEntry : Cd :=
  sq (sq (r [0, 1, 6, 7, 21] [o 18 .mv [t 7], o 19 .mv [t 1], o 20 (.len false) [t 19], o 21 (.bin .lss) [t 18, t 20]])
   (.cond (t 21) (.skip) (.exit 0)))
  (sq (.block 1 (sq (r [0, 1, 6, 7, 8] [o 24 .mv [t 1], o 25 .mv [t 7], o 26 (.ia 6) [t 24, t 25], o 27 (.ld (some 6)) [t 26], o 8 (.alloc [(.d (iD 0)), (.d (iD 0)), .nil, .nil, (.d (iD 0)), (.d (iD 0))]) [], e (.st 6) [t 8, t 27]])
     (sq (r [0, 1, 6, 7, 8, 9] [o 9 .mv [s [45]]])
      (sq (sq (r [0, 1, 6, 7, 8, 9, 65] [o 28 (.fa 0) [t 8], o 29 (.ld none) [t 28], o 30 (.bin .lss) [t 29, i 1], o 31 .mv [t 30], g 31 false 32 (.fa 0) [t 8], g 31 false 33 (.ld none) [t 32], g 31 false 34 (.bin .gtr) [t 33, i 4], o 35 .pick [t 31, b true, t 34], o 36 .mv [t 35], g 36 false 37 (.fa 1) [t 8], g 36 false 38 (.ld none) [t 37], g 36 false 39 (.bin .lss) [t 38, i 0], o 40 .pick [t 36, b true, t 39], o 41 .mv [t 40], g 41 false 42 (.fa 1) [t 8], g 41 false 43 (.ld none) [t 42], g 41 false 44 (.bin .gtr) [t 43, i 100000], o 45 .pick [t 41, b true, t 44], o 46 .mv [t 45], g 46 false 47 (.fa 4) [t 8], g 46 false 48 (.ld none) [t 47], g 46 false 49 (.bin .lss) [t 48, i 0], o 50 .pick [t 46, b true, t 49], o 51 .mv [t 50], g 51 false 52 (.fa 4) [t 8], g 51 false 53 (.ld none) [t 52], g 51 false 54 (.bin .gtr) [t 53, i 100000], o 55 .pick [t 51, b true, t 54], o 56 .mv [t 55], g 56 false 57 (.fa 5) [t 8], g 56 false 58 (.ld none) [t 57], g 56 false 59 (.bin .lss) [t 58, i 0], o 60 .pick [t 56, b true, t 59], o 61 .mv [t 60], g 61 false 62 (.fa 5) [t 8], g 61 false 63 (.ld none) [t 62], g 61 false 64 (.bin .gtr) [t 63, i 100000], o 65 .pick [t 61, b true, t 64]])
        (.cond (t 65) (sq (r [4, 5] [o 4 .mv [s []], o 5 .mv [b false]])
          (.ret)) (.skip)))
       (sq (sq (r [0, 1, 6, 7, 8, 9, 68] [o 66 (.fa 0) [t 8], o 67 (.ld none) [t 66], o 68 (.bin .eql) [t 67, i 1]])
         (.cond (t 68) (sq (sq (r [0, 1, 6, 7, 8, 72] [o 69 (.fa 2) [t 8], o 70 (.ld (some 2)) [t 69], o 71 (.call 22) [t 70], o 72 .not [t 71]])
            (.cond (t 72) (sq (r [4, 5] [o 4 .mv [s []], o 5 .mv [b false]])
              (.ret)) (.skip)))
           (r [0, 1, 6, 7, 8, 9] [o 73 (.fa 2) [t 8], o 74 (.fa 1) [t 73], o 75 (.ld none) [t 74], o 76 (.len false) [t 75], o 77 (.call 30) [t 76], o 9 .mv [t 77]])) (.skip)))
        (r [0, 1, 6, 7] [o 78 .mv [t 6], o 79 .mv [t 0], o 80 (.bin .add) [t 78, t 79], o 81 (.bin .add) [t 80, s [32]], o 82 .mv [t 7], o 83 (.bin .add) [t 82, i 1], o 84 (.fa 0) [t 8], o 85 (.ld none) [t 84], o 86 (.fa 1) [t 8], o 87 (.ld none) [t 86], o 88 (.fa 4) [t 8], o 89 (.ld none) [t 88], o 90 (.fa 5) [t 8], o 91 (.ld none) [t 90], o 92 (lit 3 1 5) [t 83, t 85, t 87, t 89, t 91], o 93 (.call 23) [t 92], o 94 (.bin .add) [t 81, t 93], o 95 (.bin .add) [t 94, s [32]], o 96 .mv [t 9], o 97 (.bin .add) [t 95, t 96], o 98 (.bin .add) [t 97, s [10]], o 6 .mv [t 98]]))))))
   (r [0, 1, 6, 7] [o 22 .mv [t 7], o 23 (.bin .add) [t 22, i 1], o 7 .mv [t 23]]))
def k1_spec_LogEntry : Cd :=
  sq (r [4, 5] [o 99 .mv [t 6], o 4 .mv [t 99], o 5 .mv [b true]])
  (.ret)
def c_spec_LogEntry : Cd :=
  sq (r [0, 1] [o 4 .mv [s []], o 5 .mv [b false]])
  (sq (sq (r [0, 1, 17] [o 10 .mv [t 0], o 11 (.call 28) [t 10], o 12 .not [t 11], o 13 .mv [t 12], g 13 false 14 .mv [t 1], g 13 false 15 (.len false) [t 14], g 13 false 16 (.bin .gtr) [t 15, i 20], o 17 .pick [t 13, b true, t 16]])
    (.cond (t 17) (sq (r [4, 5] [o 4 .mv [s []], o 5 .mv [b false]])
      (.ret)) (.skip)))
   (sq (r [0, 1, 6] [o 6 .mv [s []]])
    (sq (sq (r [0, 1, 6, 7] [o 7 .mv [i 0]])
      (.block 0 (.loop [0, 1, 6, 7] b0_spec_LogEntry))) k1_spec_LogEntry)))
def r_spec_LogEntry : List RV := [.tmp 4, .tmp 5]
def spec_LogEntry_l0 (L_spec_l6IdOk : (List UInt8) → Option (Bool)) (L_spec_ArrayOk : (List Int) → (List Int) → Option (Bool)) (L_spec_l1Dec : Int → Option (List UInt8)) (L_spec_l1Join : (List Int) → Option (List UInt8)) : Nat → (List UInt8) → (List TOutcome) → (List UInt8) → Int → Option (List UInt8 × Bool)
  | 0, _, _, _, _ => none
  | m0 + 1, x0, x1, x6, x7 =>
    if x7 < (↑(List.length x1) : Int) then ((idx x1 x7).bind fun y0 =>
     if y0.Kind < 1 then some (([], false))
     else (if 4 < y0.Kind then some (([], false))
      else (if y0.Code < 0 then some (([], false))
       else (if 100000 < y0.Code then some (([], false))
        else (if y0.Fuel < 0 then some (([], false))
         else (if 100000 < y0.Fuel then some (([], false))
          else (if y0.Cells < 0 then some (([], false))
           else (if 100000 < y0.Cells then some (([], false))
            else (if y0.Kind = 1 then ((L_spec_ArrayOk y0.Value_Shape y0.Value_Data).bind fun y1 =>
              if y1 = false then some (([], false))
              else ((L_spec_l1Dec (↑(List.length y0.Value_Data) : Int)).bind fun y2 =>
               if roomS (List.length (x6 ++ x0)) then (if roomS (List.length (x6 ++ x0 ++ [32])) then ((L_spec_l1Join [w64 (x7 + 1), y0.Kind, y0.Code, y0.Fuel, y0.Cells]).bind fun y3 =>
                 if roomS (List.length (x6 ++ x0 ++ [32] ++ y3)) then (if roomS (List.length (x6 ++ x0 ++ [32] ++ y3 ++ [32])) then (if roomS (List.length (x6 ++ x0 ++ [32] ++ y3 ++ [32] ++ y2)) then (if roomS (List.length (x6 ++ x0 ++ [32] ++ y3 ++ [32] ++ y2 ++ [10])) then spec_LogEntry_l0 L_spec_l6IdOk L_spec_ArrayOk L_spec_l1Dec L_spec_l1Join m0 x0 x1 (x6 ++ x0 ++ [32] ++ y3 ++ [32] ++ y2 ++ [10]) (w64 (x7 + 1))
                    else none)
                   else none)
                  else none)
                 else none)
                else none)
               else none))
             else (if roomS (List.length (x6 ++ x0)) then (if roomS (List.length (x6 ++ x0 ++ [32])) then ((L_spec_l1Join [w64 (x7 + 1), y0.Kind, y0.Code, y0.Fuel, y0.Cells]).bind fun y4 =>
                if roomS (List.length (x6 ++ x0 ++ [32] ++ y4)) then (if roomS (List.length (x6 ++ x0 ++ [32] ++ y4 ++ [32])) then (if roomS (List.length (x6 ++ x0 ++ [32] ++ y4 ++ [32] ++ [45])) then (if roomS (List.length (x6 ++ x0 ++ [32] ++ y4 ++ [32] ++ [45] ++ [10])) then spec_LogEntry_l0 L_spec_l6IdOk L_spec_ArrayOk L_spec_l1Dec L_spec_l1Join m0 x0 x1 (x6 ++ x0 ++ [32] ++ y4 ++ [32] ++ [45] ++ [10]) (w64 (x7 + 1))
                   else none)
                  else none)
                 else none)
                else none)
               else none)
              else none))))))))))
    else some ((x6, true))
def spec_LogEntry_f (L_spec_l6IdOk : (List UInt8) → Option (Bool)) (L_spec_ArrayOk : (List Int) → (List Int) → Option (Bool)) (L_spec_l1Dec : Int → Option (List UInt8)) (L_spec_l1Join : (List Int) → Option (List UInt8)) (N : Nat) (a0 : List UInt8) (a1 : List TOutcome) : Option (List UInt8 × Bool) :=
  (L_spec_l6IdOk a0).bind fun y0 =>
  if y0 = false then some (([], false))
  else (if 20 < (↑(List.length a1) : Int) then some (([], false))
   else spec_LogEntry_l0 L_spec_l6IdOk L_spec_ArrayOk L_spec_l1Dec L_spec_l1Join N a0 a1 [] 0)
theorem spec_LogEntry_l0_eq (E : En) (hy : Hy E [] [] [] r_spec_LogEntry none (fun y => nocap y) flatIds) (L_spec_l6IdOk : (List UInt8) → Option (Bool)) (h_spec_l6IdOk : H_spec_l6IdOk E L_spec_l6IdOk) (L_spec_ArrayOk : (List Int) → (List Int) → Option (Bool)) (h_spec_ArrayOk : H_spec_ArrayOk E L_spec_ArrayOk) (L_spec_l1Dec : Int → Option (List UInt8)) (h_spec_l1Dec : H_spec_l1Dec E L_spec_l1Dec) (L_spec_l1Join : (List Int) → Option (List UInt8)) (h_spec_l1Join : H_spec_l1Join E L_spec_l1Join) : ∀ (m0 : Nat) (x0 : List UInt8) (x1 : List TOutcome) (x6 : List UInt8) (x7 : Int), gH E [0, 1, 6, 7] b0_spec_LogEntry [KJ.b 0, KJ.c k1_spec_LogEntry] m0 ⟨slotsOf [(0, .d (sD x0)), (1, .d (lstT (cOutcome) x1)), (6, .d (sD x6)), (7, .d (.int .i64 x7))], obsOf []⟩ = (spec_LogEntry_l0 L_spec_l6IdOk L_spec_ArrayOk L_spec_l1Dec L_spec_l1Join m0 x0 x1 x6 x7).bind fun r => some (.ret (.tup [.d (sD r.1), .d (.bool r.2)]) []) := by
  intro m0
  induction m0 with
  | zero => intros; rfl
  | succ m0 ih =>
    intros
    simp (config := {maxSteps := 40000000}) only [↓rPre, rPost, rCan, rObj, rI, rS, rB, r8, rLI, rEtc, hy.p, hy.l, hy.k, hy.r, hy.d, hy.w, hy.f, flatIds, oid, r_spec_LogEntry, ↓G_unf _ _ b0_spec_LogEntry.eq_1, ↓G_unf _ _ k1_spec_LogEntry.eq_1, ↓G_unf _ _ c_spec_LogEntry.eq_1, h_spec_l6IdOk.2, h_spec_l6IdOk.1, h_spec_ArrayOk.2, h_spec_ArrayOk.1, h_spec_l1Dec.2, h_spec_l1Dec.1, h_spec_l1Join.2, h_spec_l1Join.1, gH_succ, ih, bind_ite, spec_LogEntry_l0, rRow3, rVerdict, rRow59, rOutcome, rRow72, rRow56, rRow74, rRow5, rRow9, rMap91, rLog, ↓reduceIte, Nat.reduceMul, Nat.reduceAdd, Nat.reduceSub, Nat.reduceEqDiff, Nat.reduceBEq, Nat.reduceLeDiff, Nat.reduceLT, reduceCtorEq, Int.reduceAdd, Int.reduceSub, Int.reduceToNat, Int.reduceNeg, Int.reduceEq, Int.reduceLT, Int.reduceLE]
theorem spec_LogEntry_g (E : En) (hy : Hy E [] [] [] r_spec_LogEntry none (fun y => nocap y) flatIds) (L_spec_l6IdOk : (List UInt8) → Option (Bool)) (h_spec_l6IdOk : H_spec_l6IdOk E L_spec_l6IdOk) (L_spec_ArrayOk : (List Int) → (List Int) → Option (Bool)) (h_spec_ArrayOk : H_spec_ArrayOk E L_spec_ArrayOk) (L_spec_l1Dec : Int → Option (List UInt8)) (h_spec_l1Dec : H_spec_l1Dec E L_spec_l1Dec) (L_spec_l1Join : (List Int) → Option (List UInt8)) (h_spec_l1Join : H_spec_l1Join E L_spec_l1Join) (a0 : List UInt8) (a1 : List TOutcome) : G E c_spec_LogEntry [] ⟨slotsOf [(0, .d (sD a0)), (1, .d (lstT cOutcome a1))], obsOf []⟩ = (spec_LogEntry_f L_spec_l6IdOk L_spec_ArrayOk L_spec_l1Dec L_spec_l1Join E.n a0 a1).bind fun r => some (.ret (.tup [.d (sD r.1), .d (.bool r.2)]) []) := by
  simp (config := {maxSteps := 40000000}) only [↓rPre, rPost, rCan, rObj, rI, rS, rB, r8, rLI, rEtc, hy.p, hy.l, hy.k, hy.r, hy.d, hy.w, hy.f, flatIds, oid, r_spec_LogEntry, ↓G_unf _ _ b0_spec_LogEntry.eq_1, ↓G_unf _ _ k1_spec_LogEntry.eq_1, ↓G_unf _ _ c_spec_LogEntry.eq_1, h_spec_l6IdOk.2, h_spec_l6IdOk.1, h_spec_ArrayOk.2, h_spec_ArrayOk.1, h_spec_l1Dec.2, h_spec_l1Dec.1, h_spec_l1Join.2, h_spec_l1Join.1, bind_ite, spec_LogEntry_f, spec_LogEntry_l0_eq E hy L_spec_l6IdOk h_spec_l6IdOk L_spec_ArrayOk h_spec_ArrayOk L_spec_l1Dec h_spec_l1Dec L_spec_l1Join h_spec_l1Join, rRow3, rVerdict, rRow59, rOutcome, rRow72, rRow56, rRow74, rRow5, rRow9, rMap91, rLog, ↓reduceIte, Nat.reduceMul, Nat.reduceAdd, Nat.reduceSub, Nat.reduceEqDiff, Nat.reduceBEq, Nat.reduceLeDiff, Nat.reduceLT, reduceCtorEq, Int.reduceAdd, Int.reduceSub, Int.reduceToNat, Int.reduceNeg, Int.reduceEq, Int.reduceLT, Int.reduceLE]
def H_spec_LogEntry (E : En) (L : (List UInt8) → (List TOutcome) → Option (List UInt8 × Bool)) : Prop := E.Γ.mu 17 = false ∧ (∀ (a0 : List UInt8) (a1 : List TOutcome), E.Γ 17 [.d (sD a0), .d (lstT cOutcome a1)] = (L a0 a1).bind fun r => some (.ret (.tup [.d (sD r.1), .d (.bool r.2)]) []))
-- loop.example/s02135/impl.isDigit
def c_impl_isDigit : Cd :=
  sq (r [0] [o 2 .mv [b false]])
  (sq (r [2] [o 3 .mv [t 0], o 4 (.bin .leq) [.k (.d (.int .u8 48)), t 3], o 5 .mv [t 4], g 5 true 6 .mv [t 0], g 5 true 7 (.bin .leq) [t 6, .k (.d (.int .u8 57))], o 8 .pick [t 5, t 7, b false], o 2 .mv [t 8]])
   (.ret))
def r_impl_isDigit : List RV := [.tmp 2]
def impl_isDigit_f (N : Nat) (a0 : Int) : Option (Bool) :=
  if 48 ≤ a0 then some (Decidable.decide (a0 ≤ 57))
  else some false
theorem impl_isDigit_g (E : En) (hy : Hy E [] [] [] r_impl_isDigit none (fun y => nocap y) flatIds) (a0 : Int) : G E c_impl_isDigit [] ⟨slotsOf [(0, .d (.int .u8 a0))], obsOf []⟩ = (impl_isDigit_f E.n a0).bind fun r => some (.ret (.d (.bool r)) []) := by
  simp (config := {maxSteps := 40000000}) only [↓rPre, rPost, rCan, rObj, rI, rS, rB, r8, rLI, rEtc, hy.p, hy.l, hy.k, hy.r, hy.d, hy.w, hy.f, flatIds, oid, r_impl_isDigit, ↓G_unf _ _ c_impl_isDigit.eq_1, bind_ite, impl_isDigit_f, rRow3, rVerdict, rRow59, rOutcome, rRow72, rRow56, rRow74, rRow5, rRow9, rMap91, rLog, ↓reduceIte, Nat.reduceMul, Nat.reduceAdd, Nat.reduceSub, Nat.reduceEqDiff, Nat.reduceBEq, Nat.reduceLeDiff, Nat.reduceLT, reduceCtorEq, Int.reduceAdd, Int.reduceSub, Int.reduceToNat, Int.reduceNeg, Int.reduceEq, Int.reduceLT, Int.reduceLE]
def H_impl_isDigit (E : En) (L : Int → Option (Bool)) : Prop := E.Γ.mu 52 = false ∧ (∀ (a0 : Int), E.Γ 52 [.d (.int .u8 a0)] = (L a0).bind fun r => some (.ret (.d (.bool r)) []))
-- loop.example/s02135/impl.isLetter
def c_impl_isLetter : Cd :=
  sq (r [0] [o 2 .mv [b false]])
  (sq (r [2] [o 3 .mv [t 0], o 4 (.bin .leq) [.k (.d (.int .u8 97)), t 3], o 5 .mv [t 4], g 5 true 6 .mv [t 0], g 5 true 7 (.bin .leq) [t 6, .k (.d (.int .u8 122))], o 8 .pick [t 5, t 7, b false], o 9 .mv [t 8], g 9 false 10 .mv [t 0], g 9 false 11 (.bin .leq) [.k (.d (.int .u8 65)), t 10], g 9 false 12 .mv [t 11], g 12 true 13 .mv [t 0], g 12 true 14 (.bin .leq) [t 13, .k (.d (.int .u8 90))], g 9 false 15 .pick [t 12, t 14, b false], o 16 .pick [t 9, b true, t 15], o 2 .mv [t 16]])
   (.ret))
def r_impl_isLetter : List RV := [.tmp 2]
def impl_isLetter_f (N : Nat) (a0 : Int) : Option (Bool) :=
  if 97 ≤ a0 then (if a0 ≤ 122 then some true
   else (if 65 ≤ a0 then some (Decidable.decide (a0 ≤ 90))
    else some false))
  else (if 65 ≤ a0 then some (Decidable.decide (a0 ≤ 90))
   else some false)
theorem impl_isLetter_g (E : En) (hy : Hy E [] [] [] r_impl_isLetter none (fun y => nocap y) flatIds) (a0 : Int) : G E c_impl_isLetter [] ⟨slotsOf [(0, .d (.int .u8 a0))], obsOf []⟩ = (impl_isLetter_f E.n a0).bind fun r => some (.ret (.d (.bool r)) []) := by
  simp (config := {maxSteps := 40000000}) only [↓rPre, rPost, rCan, rObj, rI, rS, rB, r8, rLI, rEtc, hy.p, hy.l, hy.k, hy.r, hy.d, hy.w, hy.f, flatIds, oid, r_impl_isLetter, ↓G_unf _ _ c_impl_isLetter.eq_1, bind_ite, impl_isLetter_f, rRow3, rVerdict, rRow59, rOutcome, rRow72, rRow56, rRow74, rRow5, rRow9, rMap91, rLog, ↓reduceIte, Nat.reduceMul, Nat.reduceAdd, Nat.reduceSub, Nat.reduceEqDiff, Nat.reduceBEq, Nat.reduceLeDiff, Nat.reduceLT, reduceCtorEq, Int.reduceAdd, Int.reduceSub, Int.reduceToNat, Int.reduceNeg, Int.reduceEq, Int.reduceLT, Int.reduceLE]
def H_impl_isLetter (E : En) (L : Int → Option (Bool)) : Prop := E.Γ.mu 53 = false ∧ (∀ (a0 : Int), E.Γ 53 [.d (.int .u8 a0)] = (L a0).bind fun r => some (.ret (.d (.bool r)) []))
-- loop.example/s02135/impl.idOk
def b0_impl_idOk : Cd :=
  sq (r [0, 13, 14, 15] [o 15 (.bin .lss) [t 14, t 13]])
  (sq (.cond (t 15) (.skip) (.exit 0))
   (sq (.block 1 (sq (r [0, 3, 13, 14] [o 16 .mv [t 14], o 3 .mv [t 16]])
      (sq (r [0, 13, 14, 28] [o 17 .mv [t 0], o 18 .mv [t 3], o 19 .ixs [t 17, t 18], o 20 (.call 52) [t 19], o 21 .not [t 20], o 22 .mv [t 21], g 22 true 23 .mv [t 0], g 22 true 24 .mv [t 3], g 22 true 25 .ixs [t 23, t 24], g 22 true 26 (.call 53) [t 25], g 22 true 27 .not [t 26], o 28 .pick [t 22, t 27, b false]])
       (.cond (t 28) (sq (r [2] [o 2 .mv [b false]])
         (.ret)) (.skip)))))
    (r [0, 13, 14] [o 29 (.bin .add) [t 14, i 1], o 14 .mv [t 29]])))
def k1_impl_idOk : Cd :=
  sq (r [2] [o 2 .mv [b true]])
  (.ret)
def c_impl_idOk : Cd :=
  sq (r [0] [o 2 .mv [b false]])
  (sq (sq (r [0, 11] [o 4 .mv [t 0], o 5 (.len true) [t 4], o 6 (.bin .lss) [t 5, i 1], o 7 .mv [t 6], g 7 false 8 .mv [t 0], g 7 false 9 (.len true) [t 8], g 7 false 10 (.bin .gtr) [t 9, i 20], o 11 .pick [t 7, b true, t 10]])
    (.cond (t 11) (sq (r [2] [o 2 .mv [b false]])
      (.ret)) (.skip)))
   (sq (sq (r [0, 13, 14] [o 12 .mv [t 0], o 13 (.len true) [t 12], o 14 .mv [i 0]])
     (.block 0 (.loop [0, 13, 14] b0_impl_idOk))) k1_impl_idOk))
def r_impl_idOk : List RV := [.tmp 2]
def impl_idOk_l0 (L_impl_isDigit : Int → Option (Bool)) (L_impl_isLetter : Int → Option (Bool)) : Nat → (List UInt8) → Int → Int → Option (Bool)
  | 0, _, _, _ => none
  | m0 + 1, x0, x13, x14 =>
    if x14 < x13 then ((idxB x0 x14).bind fun y0 =>
     (L_impl_isDigit y0).bind fun y1 =>
     if y1 = false then ((idxB x0 x14).bind fun y2 =>
      (L_impl_isLetter y2).bind fun y3 =>
      if y3 = false then some false
      else impl_idOk_l0 L_impl_isDigit L_impl_isLetter m0 x0 x13 (w64 (x14 + 1)))
     else impl_idOk_l0 L_impl_isDigit L_impl_isLetter m0 x0 x13 (w64 (x14 + 1)))
    else some true
def impl_idOk_f (L_impl_isDigit : Int → Option (Bool)) (L_impl_isLetter : Int → Option (Bool)) (N : Nat) (a0 : List UInt8) : Option (Bool) :=
  if (↑(List.length a0) : Int) < 1 then some false
  else (if 20 < (↑(List.length a0) : Int) then some false
   else impl_idOk_l0 L_impl_isDigit L_impl_isLetter N a0 ((↑(List.length a0) : Int)) 0)
theorem impl_idOk_l0_eq (E : En) (hy : Hy E [] [] [] r_impl_idOk none (fun y => nocap y) flatIds) (L_impl_isDigit : Int → Option (Bool)) (h_impl_isDigit : H_impl_isDigit E L_impl_isDigit) (L_impl_isLetter : Int → Option (Bool)) (h_impl_isLetter : H_impl_isLetter E L_impl_isLetter) : ∀ (m0 : Nat) (x0 : List UInt8) (x13 : Int) (x14 : Int), gH E [0, 13, 14] b0_impl_idOk [KJ.b 0, KJ.c k1_impl_idOk] m0 ⟨slotsOf [(0, .d (sD x0)), (13, .d (.int .i64 x13)), (14, .d (.int .i64 x14))], obsOf []⟩ = (impl_idOk_l0 L_impl_isDigit L_impl_isLetter m0 x0 x13 x14).bind fun r => some (.ret (.d (.bool r)) []) := by
  intro m0
  induction m0 with
  | zero => intros; rfl
  | succ m0 ih =>
    intros
    simp (config := {maxSteps := 40000000}) only [↓rPre, rPost, rCan, rObj, rI, rS, rB, r8, rLI, rEtc, hy.p, hy.l, hy.k, hy.r, hy.d, hy.w, hy.f, flatIds, oid, r_impl_idOk, ↓G_unf _ _ b0_impl_idOk.eq_1, ↓G_unf _ _ k1_impl_idOk.eq_1, ↓G_unf _ _ c_impl_idOk.eq_1, h_impl_isDigit.2, h_impl_isDigit.1, h_impl_isLetter.2, h_impl_isLetter.1, gH_succ, ih, bind_ite, impl_idOk_l0, rRow3, rVerdict, rRow59, rOutcome, rRow72, rRow56, rRow74, rRow5, rRow9, rMap91, rLog, ↓reduceIte, Nat.reduceMul, Nat.reduceAdd, Nat.reduceSub, Nat.reduceEqDiff, Nat.reduceBEq, Nat.reduceLeDiff, Nat.reduceLT, reduceCtorEq, Int.reduceAdd, Int.reduceSub, Int.reduceToNat, Int.reduceNeg, Int.reduceEq, Int.reduceLT, Int.reduceLE]
theorem impl_idOk_g (E : En) (hy : Hy E [] [] [] r_impl_idOk none (fun y => nocap y) flatIds) (L_impl_isDigit : Int → Option (Bool)) (h_impl_isDigit : H_impl_isDigit E L_impl_isDigit) (L_impl_isLetter : Int → Option (Bool)) (h_impl_isLetter : H_impl_isLetter E L_impl_isLetter) (a0 : List UInt8) : G E c_impl_idOk [] ⟨slotsOf [(0, .d (sD a0))], obsOf []⟩ = (impl_idOk_f L_impl_isDigit L_impl_isLetter E.n a0).bind fun r => some (.ret (.d (.bool r)) []) := by
  simp (config := {maxSteps := 40000000}) only [↓rPre, rPost, rCan, rObj, rI, rS, rB, r8, rLI, rEtc, hy.p, hy.l, hy.k, hy.r, hy.d, hy.w, hy.f, flatIds, oid, r_impl_idOk, ↓G_unf _ _ b0_impl_idOk.eq_1, ↓G_unf _ _ k1_impl_idOk.eq_1, ↓G_unf _ _ c_impl_idOk.eq_1, h_impl_isDigit.2, h_impl_isDigit.1, h_impl_isLetter.2, h_impl_isLetter.1, bind_ite, impl_idOk_f, impl_idOk_l0_eq E hy L_impl_isDigit h_impl_isDigit L_impl_isLetter h_impl_isLetter, rRow3, rVerdict, rRow59, rOutcome, rRow72, rRow56, rRow74, rRow5, rRow9, rMap91, rLog, ↓reduceIte, Nat.reduceMul, Nat.reduceAdd, Nat.reduceSub, Nat.reduceEqDiff, Nat.reduceBEq, Nat.reduceLeDiff, Nat.reduceLT, reduceCtorEq, Int.reduceAdd, Int.reduceSub, Int.reduceToNat, Int.reduceNeg, Int.reduceEq, Int.reduceLT, Int.reduceLE]
def H_impl_idOk (E : En) (L : (List UInt8) → Option (Bool)) : Prop := E.Γ.mu 34 = false ∧ (∀ (a0 : List UInt8), E.Γ 34 [.d (sD a0)] = (L a0).bind fun r => some (.ret (.d (.bool r)) []))
-- loop.example/s02135/impl.within
def c_impl_within : Cd :=
  sq (r [0] [o 2 .mv [b false]])
  (sq (r [2] [o 3 .mv [t 0], o 4 (.bin .geq) [t 3, i 0], o 5 .mv [t 4], g 5 true 6 .mv [t 0], g 5 true 7 (.bin .leq) [t 6, i 100000], o 8 .pick [t 5, t 7, b false], o 2 .mv [t 8]])
   (.ret))
def r_impl_within : List RV := [.tmp 2]
def impl_within_f (N : Nat) (a0 : Int) : Option (Bool) :=
  if 0 ≤ a0 then some (Decidable.decide (a0 ≤ 100000))
  else some false
theorem impl_within_g (E : En) (hy : Hy E [] [] [] r_impl_within none (fun y => nocap y) flatIds) (a0 : Int) : G E c_impl_within [] ⟨slotsOf [(0, .d (.int .i64 a0))], obsOf []⟩ = (impl_within_f E.n a0).bind fun r => some (.ret (.d (.bool r)) []) := by
  simp (config := {maxSteps := 40000000}) only [↓rPre, rPost, rCan, rObj, rI, rS, rB, r8, rLI, rEtc, hy.p, hy.l, hy.k, hy.r, hy.d, hy.w, hy.f, flatIds, oid, r_impl_within, ↓G_unf _ _ c_impl_within.eq_1, bind_ite, impl_within_f, rRow3, rVerdict, rRow59, rOutcome, rRow72, rRow56, rRow74, rRow5, rRow9, rMap91, rLog, ↓reduceIte, Nat.reduceMul, Nat.reduceAdd, Nat.reduceSub, Nat.reduceEqDiff, Nat.reduceBEq, Nat.reduceLeDiff, Nat.reduceLT, reduceCtorEq, Int.reduceAdd, Int.reduceSub, Int.reduceToNat, Int.reduceNeg, Int.reduceEq, Int.reduceLT, Int.reduceLE]
def H_impl_within (E : En) (L : Int → Option (Bool)) : Prop := E.Γ.mu 43 = false ∧ (∀ (a0 : Int), E.Γ 43 [.d (.int .i64 a0)] = (L a0).bind fun r => some (.ret (.d (.bool r)) []))
-- loop.example/s02135/impl.cellsOf
def b0_impl_cellsOf : Cd :=
  sq (r [4, 10, 11, 12, 13] [o 13 (.bin .lss) [t 12, t 11]])
  (sq (.cond (t 13) (.skip) (.exit 0))
   (sq (.block 1 (sq (r [4, 6, 10, 11, 12] [o 14 (.ia 1) [t 10, t 12], o 15 (.ld none) [t 14], o 6 .mv [t 15]])
      (sq (sq (r [4, 6, 10, 11, 12, 21] [o 16 .mv [t 6], o 17 (.bin .lss) [t 16, i 0], o 18 .mv [t 17], g 18 false 19 .mv [t 6], g 18 false 20 (.bin .gtr) [t 19, i 1000], o 21 .pick [t 18, b true, t 20]])
        (.cond (t 21) (sq (r [2, 3] [o 2 .mv [i 0], o 3 .mv [b false]])
          (.ret)) (.skip)))
       (r [4, 10, 11, 12] [o 22 .mv [t 4], o 23 .mv [t 6], o 24 (.bin .mul) [t 22, t 23], o 4 .mv [t 24]]))))
    (r [4, 10, 11, 12] [o 25 (.bin .add) [t 12, i 1], o 12 .mv [t 25]])))
def k1_impl_cellsOf : Cd :=
  sq (r [2, 3] [o 26 .mv [t 4], o 27 .mv [t 4], o 28 (.bin .leq) [t 27, i 1000], o 2 .mv [t 26], o 3 .mv [t 28]])
  (.ret)
def c_impl_cellsOf : Cd :=
  sq (r [0] [o 2 .mv [i 0], o 3 .mv [b false]])
  (sq (sq (r [0, 9] [o 7 .mv [t 0], o 8 (.len false) [t 7], o 9 (.bin .gtr) [t 8, i 3]])
    (.cond (t 9) (sq (r [2, 3] [o 2 .mv [i 0], o 3 .mv [b false]])
      (.ret)) (.skip)))
   (sq (r [0, 4] [o 4 .mv [i 1]])
    (sq (sq (r [4, 10, 11, 12] [o 10 .mv [t 0], o 11 (.len false) [t 10], o 12 .mv [i 0]])
      (.block 0 (.loop [4, 10, 11, 12] b0_impl_cellsOf))) k1_impl_cellsOf)))
def r_impl_cellsOf : List RV := [.tmp 2, .tmp 3]
def impl_cellsOf_l0 : Nat → Int → (List Int) → Int → Int → Option (Int × Bool)
  | 0, _, _, _, _ => none
  | m0 + 1, x4, x10, x11, x12 =>
    if x12 < x11 then ((idx x10 x12).bind fun y0 =>
     if y0 < 0 then some ((0, false))
     else (if 1000 < y0 then some ((0, false))
      else impl_cellsOf_l0 m0 (w64 (x4 * y0)) x10 x11 (w64 (x12 + 1))))
    else some ((x4, Decidable.decide (x4 ≤ 1000)))
def impl_cellsOf_f (N : Nat) (a0 : List Int) : Option (Int × Bool) :=
  if 3 < (↑(List.length a0) : Int) then some ((0, false))
  else impl_cellsOf_l0 N 1 a0 ((↑(List.length a0) : Int)) 0
theorem impl_cellsOf_l0_eq (E : En) (hy : Hy E [] [] [] r_impl_cellsOf none (fun y => nocap y) flatIds) : ∀ (m0 : Nat) (x4 : Int) (x10 : List Int) (x11 : Int) (x12 : Int), gH E [4, 10, 11, 12] b0_impl_cellsOf [KJ.b 0, KJ.c k1_impl_cellsOf] m0 ⟨slotsOf [(4, .d (.int .i64 x4)), (10, .d (lstT (cI) x10)), (11, .d (.int .i64 x11)), (12, .d (.int .i64 x12))], obsOf []⟩ = (impl_cellsOf_l0 m0 x4 x10 x11 x12).bind fun r => some (.ret (.tup [.d (.int .i64 r.1), .d (.bool r.2)]) []) := by
  intro m0
  induction m0 with
  | zero => intros; rfl
  | succ m0 ih =>
    intros
    simp (config := {maxSteps := 40000000}) only [↓rPre, rPost, rCan, rObj, rI, rS, rB, r8, rLI, rEtc, hy.p, hy.l, hy.k, hy.r, hy.d, hy.w, hy.f, flatIds, oid, r_impl_cellsOf, ↓G_unf _ _ b0_impl_cellsOf.eq_1, ↓G_unf _ _ k1_impl_cellsOf.eq_1, ↓G_unf _ _ c_impl_cellsOf.eq_1, gH_succ, ih, bind_ite, impl_cellsOf_l0, rRow3, rVerdict, rRow59, rOutcome, rRow72, rRow56, rRow74, rRow5, rRow9, rMap91, rLog, ↓reduceIte, Nat.reduceMul, Nat.reduceAdd, Nat.reduceSub, Nat.reduceEqDiff, Nat.reduceBEq, Nat.reduceLeDiff, Nat.reduceLT, reduceCtorEq, Int.reduceAdd, Int.reduceSub, Int.reduceToNat, Int.reduceNeg, Int.reduceEq, Int.reduceLT, Int.reduceLE]
theorem impl_cellsOf_g (E : En) (hy : Hy E [] [] [] r_impl_cellsOf none (fun y => nocap y) flatIds) (a0 : List Int) : G E c_impl_cellsOf [] ⟨slotsOf [(0, .d (lstT cI a0))], obsOf []⟩ = (impl_cellsOf_f E.n a0).bind fun r => some (.ret (.tup [.d (.int .i64 r.1), .d (.bool r.2)]) []) := by
  simp (config := {maxSteps := 40000000}) only [↓rPre, rPost, rCan, rObj, rI, rS, rB, r8, rLI, rEtc, hy.p, hy.l, hy.k, hy.r, hy.d, hy.w, hy.f, flatIds, oid, r_impl_cellsOf, ↓G_unf _ _ b0_impl_cellsOf.eq_1, ↓G_unf _ _ k1_impl_cellsOf.eq_1, ↓G_unf _ _ c_impl_cellsOf.eq_1, bind_ite, impl_cellsOf_f, impl_cellsOf_l0_eq E hy, rRow3, rVerdict, rRow59, rOutcome, rRow72, rRow56, rRow74, rRow5, rRow9, rMap91, rLog, ↓reduceIte, Nat.reduceMul, Nat.reduceAdd, Nat.reduceSub, Nat.reduceEqDiff, Nat.reduceBEq, Nat.reduceLeDiff, Nat.reduceLT, reduceCtorEq, Int.reduceAdd, Int.reduceSub, Int.reduceToNat, Int.reduceNeg, Int.reduceEq, Int.reduceLT, Int.reduceLE]
def H_impl_cellsOf (E : En) (L : (List Int) → Option (Int × Bool)) : Prop := E.Γ.mu 47 = false ∧ (∀ (a0 : List Int), E.Γ 47 [.d (lstT cI a0)] = (L a0).bind fun r => some (.ret (.tup [.d (.int .i64 r.1), .d (.bool r.2)]) []))
-- loop.example/s02135/impl.ArrayOk
def b0_impl_ArrayOk : Cd :=
  sq (r [23, 24, 25, 26] [o 26 (.bin .lss) [t 25, t 24]])
  (sq (.cond (t 26) (.skip) (.exit 0))
   (sq (.block 1 (sq (r [6, 23, 24, 25] [o 27 (.ia 1) [t 23, t 25], o 28 (.ld none) [t 27], o 6 .mv [t 28]])
      (sq (r [23, 24, 25, 34] [o 29 .mv [t 6], o 30 (.bin .lss) [t 29, i (-3000000000)], o 31 .mv [t 30], g 31 false 32 .mv [t 6], g 31 false 33 (.bin .gtr) [t 32, i 3000000000], o 34 .pick [t 31, b true, t 33]])
       (.cond (t 34) (sq (r [2] [o 2 .mv [b false]])
         (.ret)) (.skip)))))
    (r [23, 24, 25] [o 35 (.bin .add) [t 25, i 1], o 25 .mv [t 35]])))
def k1_impl_ArrayOk : Cd :=
  sq (r [2] [o 2 .mv [b true]])
  (.ret)
def c_impl_ArrayOk : Cd :=
  sq (r [1] [o 1 .box [t 0], o 2 .mv [b false]])
  (sq (r [1, 3, 4] [o 8 (.fa 0) [t 1], o 9 (.ld none) [t 8], o 10 (.call 47) [t 9], o 7 .mv [t 10], o 11 (.ext 0) [t 7], o 12 (.ext 1) [t 7], o 3 .mv [t 11], o 4 .mv [t 12]])
   (sq (sq (r [1, 21] [o 13 .mv [t 4], o 14 .not [t 13], o 15 .mv [t 14], g 15 false 16 .mv [t 3], g 15 false 17 (.fa 1) [t 1], g 15 false 18 (.ld none) [t 17], g 15 false 19 (.len false) [t 18], g 15 false 20 (.bin .neq) [t 16, t 19], o 21 .pick [t 15, b true, t 20]])
     (.cond (t 21) (sq (r [2] [o 2 .mv [b false]])
       (.ret)) (.skip)))
    (sq (sq (r [23, 24, 25] [o 22 (.fa 1) [t 1], o 23 (.ld none) [t 22], o 24 (.len false) [t 23], o 25 .mv [i 0]])
      (.block 0 (.loop [23, 24, 25] b0_impl_ArrayOk))) k1_impl_ArrayOk)))
def r_impl_ArrayOk : List RV := [.tmp 2]
def impl_ArrayOk_l0 (L_impl_cellsOf : (List Int) → Option (Int × Bool)) : Nat → (List Int) → Int → Int → Option (Bool)
  | 0, _, _, _ => none
  | m0 + 1, x23, x24, x25 =>
    if x25 < x24 then ((idx x23 x25).bind fun y0 =>
     if y0 < -3000000000 then some false
     else (if 3000000000 < y0 then some false
      else impl_ArrayOk_l0 L_impl_cellsOf m0 x23 x24 (w64 (x25 + 1))))
    else some true
def impl_ArrayOk_f (L_impl_cellsOf : (List Int) → Option (Int × Bool)) (N : Nat) (a0_Shape : List Int) (a0_Data : List Int) : Option (Bool) :=
  (L_impl_cellsOf a0_Shape).bind fun y0 =>
  if y0.snd = false then some false
  else (if y0.fst = (↑(List.length a0_Data) : Int) then impl_ArrayOk_l0 L_impl_cellsOf N a0_Data ((↑(List.length a0_Data) : Int)) 0
   else some false)
theorem impl_ArrayOk_l0_eq (E : En) (hy : Hy E [] [] [] r_impl_ArrayOk none (fun y => nocap y) flatIds) (L_impl_cellsOf : (List Int) → Option (Int × Bool)) (h_impl_cellsOf : H_impl_cellsOf E L_impl_cellsOf) : ∀ (m0 : Nat) (x23 : List Int) (x24 : Int) (x25 : Int), gH E [23, 24, 25] b0_impl_ArrayOk [KJ.b 0, KJ.c k1_impl_ArrayOk] m0 ⟨slotsOf [(23, .d (lstT (cI) x23)), (24, .d (.int .i64 x24)), (25, .d (.int .i64 x25))], obsOf []⟩ = (impl_ArrayOk_l0 L_impl_cellsOf m0 x23 x24 x25).bind fun r => some (.ret (.d (.bool r)) []) := by
  intro m0
  induction m0 with
  | zero => intros; rfl
  | succ m0 ih =>
    intros
    simp (config := {maxSteps := 40000000}) only [↓rPre, rPost, rCan, rObj, rI, rS, rB, r8, rLI, rEtc, hy.p, hy.l, hy.k, hy.r, hy.d, hy.w, hy.f, flatIds, oid, r_impl_ArrayOk, ↓G_unf _ _ b0_impl_ArrayOk.eq_1, ↓G_unf _ _ k1_impl_ArrayOk.eq_1, ↓G_unf _ _ c_impl_ArrayOk.eq_1, h_impl_cellsOf.2, h_impl_cellsOf.1, gH_succ, ih, bind_ite, impl_ArrayOk_l0, rRow3, rVerdict, rRow59, rOutcome, rRow72, rRow56, rRow74, rRow5, rRow9, rMap91, rLog, ↓reduceIte, Nat.reduceMul, Nat.reduceAdd, Nat.reduceSub, Nat.reduceEqDiff, Nat.reduceBEq, Nat.reduceLeDiff, Nat.reduceLT, reduceCtorEq, Int.reduceAdd, Int.reduceSub, Int.reduceToNat, Int.reduceNeg, Int.reduceEq, Int.reduceLT, Int.reduceLE]
theorem impl_ArrayOk_g (E : En) (hy : Hy E [] [] [] r_impl_ArrayOk none (fun y => nocap y) flatIds) (L_impl_cellsOf : (List Int) → Option (Int × Bool)) (h_impl_cellsOf : H_impl_cellsOf E L_impl_cellsOf) (a0_Shape : List Int) (a0_Data : List Int) : G E c_impl_ArrayOk [] ⟨slotsOf [(0, .agg [.d (lstT cI a0_Shape), .d (lstT cI a0_Data)])], obsOf []⟩ = (impl_ArrayOk_f L_impl_cellsOf E.n a0_Shape a0_Data).bind fun r => some (.ret (.d (.bool r)) []) := by
  simp (config := {maxSteps := 40000000}) only [↓rPre, rPost, rCan, rObj, rI, rS, rB, r8, rLI, rEtc, hy.p, hy.l, hy.k, hy.r, hy.d, hy.w, hy.f, flatIds, oid, r_impl_ArrayOk, ↓G_unf _ _ b0_impl_ArrayOk.eq_1, ↓G_unf _ _ k1_impl_ArrayOk.eq_1, ↓G_unf _ _ c_impl_ArrayOk.eq_1, h_impl_cellsOf.2, h_impl_cellsOf.1, bind_ite, impl_ArrayOk_f, impl_ArrayOk_l0_eq E hy L_impl_cellsOf h_impl_cellsOf, rRow3, rVerdict, rRow59, rOutcome, rRow72, rRow56, rRow74, rRow5, rRow9, rMap91, rLog, ↓reduceIte, Nat.reduceMul, Nat.reduceAdd, Nat.reduceSub, Nat.reduceEqDiff, Nat.reduceBEq, Nat.reduceLeDiff, Nat.reduceLT, reduceCtorEq, Int.reduceAdd, Int.reduceSub, Int.reduceToNat, Int.reduceNeg, Int.reduceEq, Int.reduceLT, Int.reduceLE]
def H_impl_ArrayOk (E : En) (L : (List Int) → (List Int) → Option (Bool)) : Prop := E.Γ.mu 25 = false ∧ (∀ (a0_Shape : List Int) (a0_Data : List Int), E.Γ 25 [.agg [.d (lstT cI a0_Shape), .d (lstT cI a0_Data)]] = (L a0_Shape a0_Data).bind fun r => some (.ret (.d (.bool r)) []))
-- strconv.Itoa
def H_strconv_Itoa (E : En) (L : Int → Option (List UInt8)) : Prop := E.Γ.mu 37 = false ∧ (∀ (a0 : Int), E.Γ 37 [.d (.int .i64 a0)] = (L a0).bind fun r => some (.ret (.d (sD r)) []))
-- (*strings.Builder).WriteByte
def H___strings_Builder__WriteByte (E : En) (L : Nat → (List UInt8) → Int → Option (List UInt8)) : Prop := E.Γ.mu 48 = false ∧ (∀ (T : Nat) (b : List UInt8) (a1 : Int), E.Γ 48 [.res (.bld T 5) (sD b), .d (.int .u8 a1)] = (L T b a1).bind fun r => some (.ret (.d .nili) [[sD r]]))
-- (*strings.Builder).WriteString
def H___strings_Builder__WriteString (E : En) (L : Nat → (List UInt8) → (List UInt8) → Option (Int × List UInt8)) : Prop := E.Γ.mu 49 = false ∧ (∀ (T : Nat) (b : List UInt8) (a1 : List UInt8), E.Γ 49 [.res (.bld T 5) (sD b), .d (sD a1)] = (L T b a1).bind fun r => some (.ret (.tup [.d (.int .i64 r.1), .d .nili]) [[sD r.2]]))
-- (*strings.Builder).String
def H___strings_Builder__String (E : En) (L : Nat → (List UInt8) → Option (List UInt8 × List UInt8)) : Prop := E.Γ.mu 39 = false ∧ (∀ (T : Nat) (b : List UInt8), E.Γ 39 [.res (.bld T 5) (sD b)] = (L T b).bind fun r => some (.ret (.d (sD r.1)) [[sD r.2]]))
-- loop.example/s02135/impl.joined
def b0_impl_joined : Cd :=
  sq (r [3, 6, 7, 8, 9] [o 9 (.bin .lss) [t 8, t 7]])
  (sq (.cond (t 9) (.skip) (.exit 0))
   (sq (.block 1 (sq (r [3, 4, 5, 6, 7, 8] [o 10 .mv [t 8], o 11 (.ia 1) [t 6, t 8], o 12 (.ld none) [t 11], o 4 .mv [t 10], o 5 .mv [t 12]])
      (sq (sq (r [3, 5, 6, 7, 8, 14] [o 13 .mv [t 4], o 14 (.bin .gtr) [t 13, i 0]])
        (.cond (t 14) (r [3, 5, 6, 7, 8] [o 15 (.call 48) [t 3, .k (.d (.int .u8 32))]]) (.skip)))
       (r [3, 6, 7, 8] [o 16 .mv [t 5], o 17 (.call 37) [t 16], o 18 (.call 49) [t 3, t 17]]))))
    (r [3, 6, 7, 8] [o 19 (.bin .add) [t 8, i 1], o 8 .mv [t 19]])))
def k1_impl_joined : Cd :=
  sq (r [2] [o 20 (.call 39) [t 3], o 2 .mv [t 20]])
  (.ret)
def c_impl_joined : Cd :=
  sq (r [0] [o 2 .mv [s []]])
  (sq (r [0, 3] [o 3 (.mkR (.bld 63 5)) []])
   (sq (sq (r [3, 6, 7, 8] [o 6 .mv [t 0], o 7 (.len false) [t 6], o 8 .mv [i 0]])
     (.block 0 (.loop [3, 6, 7, 8] b0_impl_joined))) k1_impl_joined))
def r_impl_joined : List RV := [.tmp 2]
def impl_joined_l0 (L___strings_Builder__WriteByte : Nat → (List UInt8) → Int → Option (List UInt8)) (L_strconv_Itoa : Int → Option (List UInt8)) (L___strings_Builder__WriteString : Nat → (List UInt8) → (List UInt8) → Option (Int × List UInt8)) (L___strings_Builder__String : Nat → (List UInt8) → Option (List UInt8 × List UInt8)) : Nat → (List Int) → Int → Int → (List UInt8) → Option (List UInt8)
  | 0, _, _, _, _ => none
  | m0 + 1, x6, x7, x8, o192 =>
    if x8 < x7 then ((idx x6 x8).bind fun y0 =>
     if 0 < x8 then ((L___strings_Builder__WriteByte 63 o192 32).bind fun y1 =>
      (L_strconv_Itoa y0).bind fun y2 =>
      (L___strings_Builder__WriteString 63 y1 y2).bind fun y3 =>
      impl_joined_l0 L___strings_Builder__WriteByte L_strconv_Itoa L___strings_Builder__WriteString L___strings_Builder__String m0 x6 x7 (w64 (x8 + 1)) y3.snd)
     else ((L_strconv_Itoa y0).bind fun y4 =>
      (L___strings_Builder__WriteString 63 o192 y4).bind fun y5 =>
      impl_joined_l0 L___strings_Builder__WriteByte L_strconv_Itoa L___strings_Builder__WriteString L___strings_Builder__String m0 x6 x7 (w64 (x8 + 1)) y5.snd))
    else ((L___strings_Builder__String 63 o192).bind fun y6 =>
     some y6.fst)
def impl_joined_f (L___strings_Builder__WriteByte : Nat → (List UInt8) → Int → Option (List UInt8)) (L_strconv_Itoa : Int → Option (List UInt8)) (L___strings_Builder__WriteString : Nat → (List UInt8) → (List UInt8) → Option (Int × List UInt8)) (L___strings_Builder__String : Nat → (List UInt8) → Option (List UInt8 × List UInt8)) (N : Nat) (a0 : List Int) : Option (List UInt8) :=
  impl_joined_l0 L___strings_Builder__WriteByte L_strconv_Itoa L___strings_Builder__WriteString L___strings_Builder__String N a0 ((↑(List.length a0) : Int)) 0 []
theorem impl_joined_l0_eq (E : En) (hy : Hy E [] [] [] r_impl_joined none (fun y => nocap y) flatIds) (L___strings_Builder__WriteByte : Nat → (List UInt8) → Int → Option (List UInt8)) (h___strings_Builder__WriteByte : H___strings_Builder__WriteByte E L___strings_Builder__WriteByte) (L_strconv_Itoa : Int → Option (List UInt8)) (h_strconv_Itoa : H_strconv_Itoa E L_strconv_Itoa) (L___strings_Builder__WriteString : Nat → (List UInt8) → (List UInt8) → Option (Int × List UInt8)) (h___strings_Builder__WriteString : H___strings_Builder__WriteString E L___strings_Builder__WriteString) (L___strings_Builder__String : Nat → (List UInt8) → Option (List UInt8 × List UInt8)) (h___strings_Builder__String : H___strings_Builder__String E L___strings_Builder__String) : ∀ (m0 : Nat) (x6 : List Int) (x7 : Int) (x8 : Int) (o192 : List UInt8), gH E [3, 6, 7, 8] b0_impl_joined [KJ.b 0, KJ.c k1_impl_joined] m0 ⟨slotsOf [(3, A.row 192 1), (6, .d (lstT (cI) x6)), (7, .d (.int .i64 x7)), (8, .d (.int .i64 x8))], obsOf [(192, ⟨1, .res (.bld 63 5) (sD o192), false⟩)]⟩ = (impl_joined_l0 L___strings_Builder__WriteByte L_strconv_Itoa L___strings_Builder__WriteString L___strings_Builder__String m0 x6 x7 x8 o192).bind fun r => some (.ret (.d (sD r)) []) := by
  intro m0
  induction m0 with
  | zero => intros; rfl
  | succ m0 ih =>
    intros
    simp (config := {maxSteps := 40000000}) only [↓rPre, rPost, rCan, rObj, rI, rS, rB, r8, rLI, rEtc, hy.p, hy.l, hy.k, hy.r, hy.d, hy.w, hy.f, flatIds, oid, r_impl_joined, ↓G_unf _ _ b0_impl_joined.eq_1, ↓G_unf _ _ k1_impl_joined.eq_1, ↓G_unf _ _ c_impl_joined.eq_1, h___strings_Builder__WriteByte.2, h___strings_Builder__WriteByte.1, h_strconv_Itoa.2, h_strconv_Itoa.1, h___strings_Builder__WriteString.2, h___strings_Builder__WriteString.1, h___strings_Builder__String.2, h___strings_Builder__String.1, gH_succ, ih, bind_ite, impl_joined_l0, rRow3, rVerdict, rRow59, rOutcome, rRow72, rRow56, rRow74, rRow5, rRow9, rMap91, rLog, ↓reduceIte, Nat.reduceMul, Nat.reduceAdd, Nat.reduceSub, Nat.reduceEqDiff, Nat.reduceBEq, Nat.reduceLeDiff, Nat.reduceLT, reduceCtorEq, Int.reduceAdd, Int.reduceSub, Int.reduceToNat, Int.reduceNeg, Int.reduceEq, Int.reduceLT, Int.reduceLE]
theorem impl_joined_g (E : En) (hy : Hy E [] [] [] r_impl_joined none (fun y => nocap y) flatIds) (L___strings_Builder__WriteByte : Nat → (List UInt8) → Int → Option (List UInt8)) (h___strings_Builder__WriteByte : H___strings_Builder__WriteByte E L___strings_Builder__WriteByte) (L_strconv_Itoa : Int → Option (List UInt8)) (h_strconv_Itoa : H_strconv_Itoa E L_strconv_Itoa) (L___strings_Builder__WriteString : Nat → (List UInt8) → (List UInt8) → Option (Int × List UInt8)) (h___strings_Builder__WriteString : H___strings_Builder__WriteString E L___strings_Builder__WriteString) (L___strings_Builder__String : Nat → (List UInt8) → Option (List UInt8 × List UInt8)) (h___strings_Builder__String : H___strings_Builder__String E L___strings_Builder__String) (a0 : List Int) : G E c_impl_joined [] ⟨slotsOf [(0, .d (lstT cI a0))], obsOf []⟩ = (impl_joined_f L___strings_Builder__WriteByte L_strconv_Itoa L___strings_Builder__WriteString L___strings_Builder__String E.n a0).bind fun r => some (.ret (.d (sD r)) []) := by
  simp (config := {maxSteps := 40000000}) only [↓rPre, rPost, rCan, rObj, rI, rS, rB, r8, rLI, rEtc, hy.p, hy.l, hy.k, hy.r, hy.d, hy.w, hy.f, flatIds, oid, r_impl_joined, ↓G_unf _ _ b0_impl_joined.eq_1, ↓G_unf _ _ k1_impl_joined.eq_1, ↓G_unf _ _ c_impl_joined.eq_1, h___strings_Builder__WriteByte.2, h___strings_Builder__WriteByte.1, h_strconv_Itoa.2, h_strconv_Itoa.1, h___strings_Builder__WriteString.2, h___strings_Builder__WriteString.1, h___strings_Builder__String.2, h___strings_Builder__String.1, bind_ite, impl_joined_f, impl_joined_l0_eq E hy L___strings_Builder__WriteByte h___strings_Builder__WriteByte L_strconv_Itoa h_strconv_Itoa L___strings_Builder__WriteString h___strings_Builder__WriteString L___strings_Builder__String h___strings_Builder__String, rRow3, rVerdict, rRow59, rOutcome, rRow72, rRow56, rRow74, rRow5, rRow9, rMap91, rLog, ↓reduceIte, Nat.reduceMul, Nat.reduceAdd, Nat.reduceSub, Nat.reduceEqDiff, Nat.reduceBEq, Nat.reduceLeDiff, Nat.reduceLT, reduceCtorEq, Int.reduceAdd, Int.reduceSub, Int.reduceToNat, Int.reduceNeg, Int.reduceEq, Int.reduceLT, Int.reduceLE]
def H_impl_joined (E : En) (L : (List Int) → Option (List UInt8)) : Prop := E.Γ.mu 26 = false ∧ (∀ (a0 : List Int), E.Γ 26 [.d (lstT cI a0)] = (L a0).bind fun r => some (.ret (.d (sD r)) []))
-- strings.Join
def H_strings_Join (E : En) (L : (List (List UInt8)) → (List UInt8) → Option (List UInt8)) : Prop := E.Γ.mu 54 = false ∧ (∀ (a0 : List (List UInt8)) (a1 : List UInt8), E.Γ 54 [.d (lstT cS a0), .d (sD a1)] = (L a0 a1).bind fun r => some (.ret (.d (sD r)) []))
-- (*loop.example/s02135/impl.lines).put
def c___impl_lines__put : Cd :=
  sq (rd [] [0] [o 4 .mv [t 0], o 5 .nilck [t 4], o 6 (.fa 0) [t 5], o 7 .mv [t 1], ap [] false [4, 5] (o 8 (.call 54) [t 7, s [32]]), o 9 (.call 49) [t 6, t 8]])
  (r [0] [o 10 .mv [t 0], o 11 .nilck [t 10], o 12 (.fa 0) [t 11], o 13 (.call 48) [t 12, .k (.d (.int .u8 10))]])
def r___impl_lines__put : List RV := []
def __impl_lines__put_f (L_strings_Join : (List (List UInt8)) → (List UInt8) → Option (List UInt8)) (L___strings_Builder__WriteString : Nat → (List UInt8) → (List UInt8) → Option (Int × List UInt8)) (L___strings_Builder__WriteByte : Nat → (List UInt8) → Int → Option (List UInt8)) (N : Nat) (a0 : List UInt8) (a1 : List (List UInt8)) : Option (List UInt8) :=
  (L_strings_Join a1 [32]).bind fun y0 =>
  (L___strings_Builder__WriteString 65 a0 y0).bind fun y1 =>
  (L___strings_Builder__WriteByte 65 y1.snd 10).bind fun y2 =>
  some y2
theorem __impl_lines__put_g (E : En) (hy : Hy E [0] [0] [(0, .res (.bld 65 5))] r___impl_lines__put none (fun y => nocap y) flatIds) (L_strings_Join : (List (List UInt8)) → (List UInt8) → Option (List UInt8)) (h_strings_Join : H_strings_Join E L_strings_Join) (L___strings_Builder__WriteString : Nat → (List UInt8) → (List UInt8) → Option (Int × List UInt8)) (h___strings_Builder__WriteString : H___strings_Builder__WriteString E L___strings_Builder__WriteString) (L___strings_Builder__WriteByte : Nat → (List UInt8) → Int → Option (List UInt8)) (h___strings_Builder__WriteByte : H___strings_Builder__WriteByte E L___strings_Builder__WriteByte) (a0 : List UInt8) (a1 : List (List UInt8)) : G E c___impl_lines__put [] ⟨slotsOf [(0, .row 0 1), (1, .d (lstT cS a1))], obsOf [(0, ⟨1, .res (.bld 65 5) (sD a0), false⟩)]⟩ = (__impl_lines__put_f L_strings_Join L___strings_Builder__WriteString L___strings_Builder__WriteByte E.n a0 a1).bind fun r => some (.ret (.tup []) [[sD r]]) := by
  simp (config := {maxSteps := 40000000}) only [↓rPre, rPost, rCan, rObj, rI, rS, rB, r8, rLI, rEtc, hy.p, hy.l, hy.k, hy.r, hy.d, hy.w, hy.f, flatIds, oid, r___impl_lines__put, ↓G_unf _ _ c___impl_lines__put.eq_1, h_strings_Join.2, h_strings_Join.1, h___strings_Builder__WriteString.2, h___strings_Builder__WriteString.1, h___strings_Builder__WriteByte.2, h___strings_Builder__WriteByte.1, bind_ite, __impl_lines__put_f, rRow3, rVerdict, rRow59, rOutcome, rRow72, rRow56, rRow74, rRow5, rRow9, rMap91, rLog, ↓reduceIte, Nat.reduceMul, Nat.reduceAdd, Nat.reduceSub, Nat.reduceEqDiff, Nat.reduceBEq, Nat.reduceLeDiff, Nat.reduceLT, reduceCtorEq, Int.reduceAdd, Int.reduceSub, Int.reduceToNat, Int.reduceNeg, Int.reduceEq, Int.reduceLT, Int.reduceLE]
def H___impl_lines__put (E : En) (L : (List UInt8) → (List (List UInt8)) → Option (List UInt8)) : Prop := E.Γ.mu 35 = false ∧ (∀ (a0 : List UInt8) (a1 : List (List UInt8)), E.Γ 35 [.res (.bld 65 5) (sD a0), .d (lstT cS a1)] = (L a0 a1).bind fun r => some (.ret (.tup []) [[sD r]]))
-- loop.example/s02135/impl.LogEntry
def b0_impl_LogEntry : Cd :=
  sq (r [0, 6, 18, 19, 20, 21] [o 21 (.bin .lss) [t 20, t 19]])
  (sq (.cond (t 21) (.skip) (.exit 0))
   (sq (.block 1 (sq (r [0, 6, 7, 8, 18, 19, 20] [o 22 .mv [t 20], o 23 (.ia 6) [t 18, t 20], o 24 (.ld (some 6)) [t 23], o 8 (.alloc [(.d (iD 0)), (.d (iD 0)), .nil, .nil, (.d (iD 0)), (.d (iD 0))]) [], o 7 .mv [t 22], e (.st 6) [t 8, t 24]])
      (sq (sq (r [0, 6, 7, 8, 18, 19, 20, 50] [o 25 (.fa 0) [t 8], o 26 (.ld none) [t 25], o 27 (.bin .lss) [t 26, i 1], o 28 .mv [t 27], g 28 false 29 (.fa 0) [t 8], g 28 false 30 (.ld none) [t 29], g 28 false 31 (.bin .gtr) [t 30, i 4], o 32 .pick [t 28, b true, t 31], o 33 .mv [t 32], g 33 false 34 (.fa 1) [t 8], g 33 false 35 (.ld none) [t 34], g 33 false 36 (.call 43) [t 35], g 33 false 37 .not [t 36], o 38 .pick [t 33, b true, t 37], o 39 .mv [t 38], g 39 false 40 (.fa 4) [t 8], g 39 false 41 (.ld none) [t 40], g 39 false 42 (.call 43) [t 41], g 39 false 43 .not [t 42], o 44 .pick [t 39, b true, t 43], o 45 .mv [t 44], g 45 false 46 (.fa 5) [t 8], g 45 false 47 (.ld none) [t 46], g 45 false 48 (.call 43) [t 47], g 45 false 49 .not [t 48], o 50 .pick [t 45, b true, t 49]])
        (.cond (t 50) (sq (r [4, 5] [o 4 .mv [s []], o 5 .mv [b false]])
          (.ret)) (.skip)))
       (sq (r [0, 6, 7, 8, 9, 18, 19, 20] [o 9 .mv [s [45]]])
        (sq (sq (r [0, 6, 7, 8, 9, 18, 19, 20, 53] [o 51 (.fa 0) [t 8], o 52 (.ld none) [t 51], o 53 (.bin .eql) [t 52, i 1]])
          (.cond (t 53) (sq (sq (r [0, 6, 7, 8, 18, 19, 20, 57] [o 54 (.fa 2) [t 8], o 55 (.ld (some 2)) [t 54], o 56 (.call 25) [t 55], o 57 .not [t 56]])
             (.cond (t 57) (sq (r [4, 5] [o 4 .mv [s []], o 5 .mv [b false]])
               (.ret)) (.skip)))
            (r [0, 6, 7, 8, 9, 18, 19, 20] [o 58 (.fa 2) [t 8], o 59 (.fa 1) [t 58], o 60 (.ld none) [t 59], o 61 (.len false) [t 60], o 62 (.call 37) [t 61], o 9 .mv [t 62]])) (.skip)))
         (r [0, 6, 18, 19, 20] [o 63 .mv [t 0], o 64 .mv [t 7], o 65 (.bin .add) [t 64, i 1], o 66 (.fa 0) [t 8], o 67 (.ld none) [t 66], o 68 (.fa 1) [t 8], o 69 (.ld none) [t 68], o 70 (.fa 4) [t 8], o 71 (.ld none) [t 70], o 72 (.fa 5) [t 8], o 73 (.ld none) [t 72], o 74 (lit 3 1 5) [t 65, t 67, t 69, t 71, t 73], o 75 (.call 26) [t 74], o 76 .mv [t 9], o 77 (lit 9 1 3) [t 63, t 75, t 76], o 78 (.call 35) [t 6, t 77]]))))))
    (r [0, 6, 18, 19, 20] [o 79 (.bin .add) [t 20, i 1], o 20 .mv [t 79]])))
def k1_impl_LogEntry : Cd :=
  sq (r [4, 5] [o 80 (.fa 0) [t 6], o 81 (.call 39) [t 80], o 4 .mv [t 81], o 5 .mv [b true]])
  (.ret)
def c_impl_LogEntry : Cd :=
  sq (r [0, 1] [o 4 .mv [s []], o 5 .mv [b false]])
  (sq (sq (r [0, 1, 17] [o 10 .mv [t 0], o 11 (.call 34) [t 10], o 12 .not [t 11], o 13 .mv [t 12], g 13 false 14 .mv [t 1], g 13 false 15 (.len false) [t 14], g 13 false 16 (.bin .gtr) [t 15, i 20], o 17 .pick [t 13, b true, t 16]])
    (.cond (t 17) (sq (r [4, 5] [o 4 .mv [s []], o 5 .mv [b false]])
      (.ret)) (.skip)))
   (sq (r [0, 1, 6] [o 6 (.mkR (.bld 65 5)) []])
    (sq (sq (r [0, 6, 18, 19, 20] [o 18 .mv [t 1], o 19 (.len false) [t 18], o 20 .mv [i 0]])
      (.block 0 (.loop [0, 6, 18, 19, 20] b0_impl_LogEntry))) k1_impl_LogEntry)))
def r_impl_LogEntry : List RV := [.tmp 4, .tmp 5]
def impl_LogEntry_l0 (L_impl_idOk : (List UInt8) → Option (Bool)) (L_impl_within : Int → Option (Bool)) (L_impl_ArrayOk : (List Int) → (List Int) → Option (Bool)) (L_strconv_Itoa : Int → Option (List UInt8)) (L_impl_joined : (List Int) → Option (List UInt8)) (L___impl_lines__put : (List UInt8) → (List (List UInt8)) → Option (List UInt8)) (L___strings_Builder__String : Nat → (List UInt8) → Option (List UInt8 × List UInt8)) : Nat → (List UInt8) → (List TOutcome) → Int → Int → (List UInt8) → Option (List UInt8 × Bool)
  | 0, _, _, _, _, _ => none
  | m0 + 1, x0, x18, x19, x20, o384 =>
    if x20 < x19 then ((idx x18 x20).bind fun y0 =>
     if y0.Kind < 1 then some (([], false))
     else (if 4 < y0.Kind then some (([], false))
      else ((L_impl_within y0.Code).bind fun y1 =>
       if y1 = false then some (([], false))
       else ((L_impl_within y0.Fuel).bind fun y2 =>
        if y2 = false then some (([], false))
        else ((L_impl_within y0.Cells).bind fun y3 =>
         if y3 = false then some (([], false))
         else (if y0.Kind = 1 then ((L_impl_ArrayOk y0.Value_Shape y0.Value_Data).bind fun y4 =>
           if y4 = false then some (([], false))
           else ((L_strconv_Itoa (↑(List.length y0.Value_Data) : Int)).bind fun y5 =>
            (L_impl_joined [w64 (x20 + 1), y0.Kind, y0.Code, y0.Fuel, y0.Cells]).bind fun y6 =>
            (L___impl_lines__put o384 [x0, y6, y5]).bind fun y7 =>
            impl_LogEntry_l0 L_impl_idOk L_impl_within L_impl_ArrayOk L_strconv_Itoa L_impl_joined L___impl_lines__put L___strings_Builder__String m0 x0 x18 x19 (w64 (x20 + 1)) y7))
          else ((L_impl_joined [w64 (x20 + 1), y0.Kind, y0.Code, y0.Fuel, y0.Cells]).bind fun y8 =>
           (L___impl_lines__put o384 [x0, y8, [45]]).bind fun y9 =>
           impl_LogEntry_l0 L_impl_idOk L_impl_within L_impl_ArrayOk L_strconv_Itoa L_impl_joined L___impl_lines__put L___strings_Builder__String m0 x0 x18 x19 (w64 (x20 + 1)) y9)))))))
    else ((L___strings_Builder__String 65 o384).bind fun y10 =>
     some ((y10.fst, true)))
def impl_LogEntry_f (L_impl_idOk : (List UInt8) → Option (Bool)) (L_impl_within : Int → Option (Bool)) (L_impl_ArrayOk : (List Int) → (List Int) → Option (Bool)) (L_strconv_Itoa : Int → Option (List UInt8)) (L_impl_joined : (List Int) → Option (List UInt8)) (L___impl_lines__put : (List UInt8) → (List (List UInt8)) → Option (List UInt8)) (L___strings_Builder__String : Nat → (List UInt8) → Option (List UInt8 × List UInt8)) (N : Nat) (a0 : List UInt8) (a1 : List TOutcome) : Option (List UInt8 × Bool) :=
  (L_impl_idOk a0).bind fun y0 =>
  if y0 = false then some (([], false))
  else (if 20 < (↑(List.length a1) : Int) then some (([], false))
   else impl_LogEntry_l0 L_impl_idOk L_impl_within L_impl_ArrayOk L_strconv_Itoa L_impl_joined L___impl_lines__put L___strings_Builder__String N a0 a1 ((↑(List.length a1) : Int)) 0 [])
theorem impl_LogEntry_l0_eq (E : En) (hy : Hy E [] [] [] r_impl_LogEntry none (fun y => nocap y) flatIds) (L_impl_idOk : (List UInt8) → Option (Bool)) (h_impl_idOk : H_impl_idOk E L_impl_idOk) (L_impl_within : Int → Option (Bool)) (h_impl_within : H_impl_within E L_impl_within) (L_impl_ArrayOk : (List Int) → (List Int) → Option (Bool)) (h_impl_ArrayOk : H_impl_ArrayOk E L_impl_ArrayOk) (L_strconv_Itoa : Int → Option (List UInt8)) (h_strconv_Itoa : H_strconv_Itoa E L_strconv_Itoa) (L_impl_joined : (List Int) → Option (List UInt8)) (h_impl_joined : H_impl_joined E L_impl_joined) (L___impl_lines__put : (List UInt8) → (List (List UInt8)) → Option (List UInt8)) (h___impl_lines__put : H___impl_lines__put E L___impl_lines__put) (L___strings_Builder__String : Nat → (List UInt8) → Option (List UInt8 × List UInt8)) (h___strings_Builder__String : H___strings_Builder__String E L___strings_Builder__String) : ∀ (m0 : Nat) (x0 : List UInt8) (x18 : List TOutcome) (x19 : Int) (x20 : Int) (o384 : List UInt8), gH E [0, 6, 18, 19, 20] b0_impl_LogEntry [KJ.b 0, KJ.c k1_impl_LogEntry] m0 ⟨slotsOf [(0, .d (sD x0)), (6, A.row 384 1), (18, .d (lstT (cOutcome) x18)), (19, .d (.int .i64 x19)), (20, .d (.int .i64 x20))], obsOf [(384, ⟨1, .res (.bld 65 5) (sD o384), false⟩)]⟩ = (impl_LogEntry_l0 L_impl_idOk L_impl_within L_impl_ArrayOk L_strconv_Itoa L_impl_joined L___impl_lines__put L___strings_Builder__String m0 x0 x18 x19 x20 o384).bind fun r => some (.ret (.tup [.d (sD r.1), .d (.bool r.2)]) []) := by
  intro m0
  induction m0 with
  | zero => intros; rfl
  | succ m0 ih =>
    intros
    simp (config := {maxSteps := 40000000}) only [↓rPre, rPost, rCan, rObj, rI, rS, rB, r8, rLI, rEtc, hy.p, hy.l, hy.k, hy.r, hy.d, hy.w, hy.f, flatIds, oid, r_impl_LogEntry, ↓G_unf _ _ b0_impl_LogEntry.eq_1, ↓G_unf _ _ k1_impl_LogEntry.eq_1, ↓G_unf _ _ c_impl_LogEntry.eq_1, h_impl_idOk.2, h_impl_idOk.1, h_impl_within.2, h_impl_within.1, h_impl_ArrayOk.2, h_impl_ArrayOk.1, h_strconv_Itoa.2, h_strconv_Itoa.1, h_impl_joined.2, h_impl_joined.1, h___impl_lines__put.2, h___impl_lines__put.1, h___strings_Builder__String.2, h___strings_Builder__String.1, gH_succ, ih, bind_ite, impl_LogEntry_l0, rRow3, rVerdict, rRow59, rOutcome, rRow72, rRow56, rRow74, rRow5, rRow9, rMap91, rLog, ↓reduceIte, Nat.reduceMul, Nat.reduceAdd, Nat.reduceSub, Nat.reduceEqDiff, Nat.reduceBEq, Nat.reduceLeDiff, Nat.reduceLT, reduceCtorEq, Int.reduceAdd, Int.reduceSub, Int.reduceToNat, Int.reduceNeg, Int.reduceEq, Int.reduceLT, Int.reduceLE]
theorem impl_LogEntry_g (E : En) (hy : Hy E [] [] [] r_impl_LogEntry none (fun y => nocap y) flatIds) (L_impl_idOk : (List UInt8) → Option (Bool)) (h_impl_idOk : H_impl_idOk E L_impl_idOk) (L_impl_within : Int → Option (Bool)) (h_impl_within : H_impl_within E L_impl_within) (L_impl_ArrayOk : (List Int) → (List Int) → Option (Bool)) (h_impl_ArrayOk : H_impl_ArrayOk E L_impl_ArrayOk) (L_strconv_Itoa : Int → Option (List UInt8)) (h_strconv_Itoa : H_strconv_Itoa E L_strconv_Itoa) (L_impl_joined : (List Int) → Option (List UInt8)) (h_impl_joined : H_impl_joined E L_impl_joined) (L___impl_lines__put : (List UInt8) → (List (List UInt8)) → Option (List UInt8)) (h___impl_lines__put : H___impl_lines__put E L___impl_lines__put) (L___strings_Builder__String : Nat → (List UInt8) → Option (List UInt8 × List UInt8)) (h___strings_Builder__String : H___strings_Builder__String E L___strings_Builder__String) (a0 : List UInt8) (a1 : List TOutcome) : G E c_impl_LogEntry [] ⟨slotsOf [(0, .d (sD a0)), (1, .d (lstT cOutcome a1))], obsOf []⟩ = (impl_LogEntry_f L_impl_idOk L_impl_within L_impl_ArrayOk L_strconv_Itoa L_impl_joined L___impl_lines__put L___strings_Builder__String E.n a0 a1).bind fun r => some (.ret (.tup [.d (sD r.1), .d (.bool r.2)]) []) := by
  simp (config := {maxSteps := 40000000}) only [↓rPre, rPost, rCan, rObj, rI, rS, rB, r8, rLI, rEtc, hy.p, hy.l, hy.k, hy.r, hy.d, hy.w, hy.f, flatIds, oid, r_impl_LogEntry, ↓G_unf _ _ b0_impl_LogEntry.eq_1, ↓G_unf _ _ k1_impl_LogEntry.eq_1, ↓G_unf _ _ c_impl_LogEntry.eq_1, h_impl_idOk.2, h_impl_idOk.1, h_impl_within.2, h_impl_within.1, h_impl_ArrayOk.2, h_impl_ArrayOk.1, h_strconv_Itoa.2, h_strconv_Itoa.1, h_impl_joined.2, h_impl_joined.1, h___impl_lines__put.2, h___impl_lines__put.1, h___strings_Builder__String.2, h___strings_Builder__String.1, bind_ite, impl_LogEntry_f, impl_LogEntry_l0_eq E hy L_impl_idOk h_impl_idOk L_impl_within h_impl_within L_impl_ArrayOk h_impl_ArrayOk L_strconv_Itoa h_strconv_Itoa L_impl_joined h_impl_joined L___impl_lines__put h___impl_lines__put L___strings_Builder__String h___strings_Builder__String, rRow3, rVerdict, rRow59, rOutcome, rRow72, rRow56, rRow74, rRow5, rRow9, rMap91, rLog, ↓reduceIte, Nat.reduceMul, Nat.reduceAdd, Nat.reduceSub, Nat.reduceEqDiff, Nat.reduceBEq, Nat.reduceLeDiff, Nat.reduceLT, reduceCtorEq, Int.reduceAdd, Int.reduceSub, Int.reduceToNat, Int.reduceNeg, Int.reduceEq, Int.reduceLT, Int.reduceLE]
def H_impl_LogEntry (E : En) (L : (List UInt8) → (List TOutcome) → Option (List UInt8 × Bool)) : Prop := E.Γ.mu 19 = false ∧ (∀ (a0 : List UInt8) (a1 : List TOutcome), E.Γ 19 [.d (sD a0), .d (lstT cOutcome a1)] = (L a0 a1).bind fun r => some (.ret (.tup [.d (sD r.1), .d (.bool r.2)]) []))
-- loop.example/s02135/laws.eqIntS
def b0_laws_eqIntS : Cd :=
  sq (sq (r [0, 1, 5, 14] [o 11 .mv [t 5], o 12 .mv [t 0], o 13 (.len false) [t 12], o 14 (.bin .lss) [t 11, t 13]])
   (.cond (t 14) (.skip) (.exit 0)))
  (sq (.block 1 (sq (rd [] [0, 1, 5, 25] [o 17 .mv [t 0], o 18 .mv [t 5], o 19 (.ia 1) [t 17, t 18], o 20 (.ld none) [t 19], o 21 .mv [t 1], o 22 .mv [t 5], o 23 (.ia 1) [t 21, t 22], o 24 (.ld none) [t 23], o 25 (.bin .neq) [t 20, t 24]])
     (.cond (t 25) (sq (r [4] [o 4 .mv [b false]])
       (.ret)) (.skip))))
   (r [0, 1, 5] [o 15 .mv [t 5], o 16 (.bin .add) [t 15, i 1], o 5 .mv [t 16]]))
def k1_laws_eqIntS : Cd :=
  sq (r [4] [o 4 .mv [b true]])
  (.ret)
def c_laws_eqIntS : Cd :=
  sq (r [0, 1] [o 4 .mv [b false]])
  (sq (sq (r [0, 1, 10] [o 6 .mv [t 0], o 7 (.len false) [t 6], o 8 .mv [t 1], o 9 (.len false) [t 8], o 10 (.bin .neq) [t 7, t 9]])
    (.cond (t 10) (sq (r [4] [o 4 .mv [b false]])
      (.ret)) (.skip)))
   (sq (sq (r [0, 1, 5] [o 5 .mv [i 0]])
     (.block 0 (.loop [0, 1, 5] b0_laws_eqIntS))) k1_laws_eqIntS))
def r_laws_eqIntS : List RV := [.tmp 4]
def laws_eqIntS_l0 : Nat → (List Int) → (List Int) → Int → Option (Bool)
  | 0, _, _, _ => none
  | m0 + 1, x0, x1, x5 =>
    if x5 < (↑(List.length x0) : Int) then ((idx x0 x5).bind fun y0 =>
     (idx x1 x5).bind fun y1 =>
     if y0 = y1 then laws_eqIntS_l0 m0 x0 x1 (w64 (x5 + 1))
     else some false)
    else some true
def laws_eqIntS_f (N : Nat) (a0 : List Int) (a1 : List Int) : Option (Bool) :=
  if (↑(List.length a0) : Int) = (↑(List.length a1) : Int) then laws_eqIntS_l0 N a0 a1 0
  else some false
theorem laws_eqIntS_l0_eq (E : En) (hy : Hy E [] [] [] r_laws_eqIntS none (fun y => nocap y) flatIds) : ∀ (m0 : Nat) (x0 : List Int) (x1 : List Int) (x5 : Int), gH E [0, 1, 5] b0_laws_eqIntS [KJ.b 0, KJ.c k1_laws_eqIntS] m0 ⟨slotsOf [(0, .d (lstT (cI) x0)), (1, .d (lstT (cI) x1)), (5, .d (.int .i64 x5))], obsOf []⟩ = (laws_eqIntS_l0 m0 x0 x1 x5).bind fun r => some (.ret (.d (.bool r)) []) := by
  intro m0
  induction m0 with
  | zero => intros; rfl
  | succ m0 ih =>
    intros
    simp (config := {maxSteps := 40000000}) only [↓rPre, rPost, rCan, rObj, rI, rS, rB, r8, rLI, rEtc, hy.p, hy.l, hy.k, hy.r, hy.d, hy.w, hy.f, flatIds, oid, r_laws_eqIntS, ↓G_unf _ _ b0_laws_eqIntS.eq_1, ↓G_unf _ _ k1_laws_eqIntS.eq_1, ↓G_unf _ _ c_laws_eqIntS.eq_1, gH_succ, ih, bind_ite, laws_eqIntS_l0, rRow3, rVerdict, rRow59, rOutcome, rRow72, rRow56, rRow74, rRow5, rRow9, rMap91, rLog, ↓reduceIte, Nat.reduceMul, Nat.reduceAdd, Nat.reduceSub, Nat.reduceEqDiff, Nat.reduceBEq, Nat.reduceLeDiff, Nat.reduceLT, reduceCtorEq, Int.reduceAdd, Int.reduceSub, Int.reduceToNat, Int.reduceNeg, Int.reduceEq, Int.reduceLT, Int.reduceLE]
theorem laws_eqIntS_g (E : En) (hy : Hy E [] [] [] r_laws_eqIntS none (fun y => nocap y) flatIds) (a0 : List Int) (a1 : List Int) : G E c_laws_eqIntS [] ⟨slotsOf [(0, .d (lstT cI a0)), (1, .d (lstT cI a1))], obsOf []⟩ = (laws_eqIntS_f E.n a0 a1).bind fun r => some (.ret (.d (.bool r)) []) := by
  simp (config := {maxSteps := 40000000}) only [↓rPre, rPost, rCan, rObj, rI, rS, rB, r8, rLI, rEtc, hy.p, hy.l, hy.k, hy.r, hy.d, hy.w, hy.f, flatIds, oid, r_laws_eqIntS, ↓G_unf _ _ b0_laws_eqIntS.eq_1, ↓G_unf _ _ k1_laws_eqIntS.eq_1, ↓G_unf _ _ c_laws_eqIntS.eq_1, bind_ite, laws_eqIntS_f, laws_eqIntS_l0_eq E hy, rRow3, rVerdict, rRow59, rOutcome, rRow72, rRow56, rRow74, rRow5, rRow9, rMap91, rLog, ↓reduceIte, Nat.reduceMul, Nat.reduceAdd, Nat.reduceSub, Nat.reduceEqDiff, Nat.reduceBEq, Nat.reduceLeDiff, Nat.reduceLT, reduceCtorEq, Int.reduceAdd, Int.reduceSub, Int.reduceToNat, Int.reduceNeg, Int.reduceEq, Int.reduceLT, Int.reduceLE]
def H_laws_eqIntS (E : En) (L : (List Int) → (List Int) → Option (Bool)) : Prop := E.Γ.mu 27 = false ∧ (∀ (a0 : List Int) (a1 : List Int), E.Γ 27 [.d (lstT cI a0), .d (lstT cI a1)] = (L a0 a1).bind fun r => some (.ret (.d (.bool r)) []))
-- loop.example/s02135/laws.eqArray
def c_laws_eqArray : Cd :=
  sq (r [2, 3] [o 2 .box [t 0], o 3 .box [t 1], o 4 .mv [b false]])
  (sq (sq (r [2, 3, 10] [o 5 (.fa 0) [t 2], o 6 (.ld none) [t 5], o 7 (.fa 0) [t 3], o 8 (.ld none) [t 7], o 9 (.call 27) [t 6, t 8], o 10 .not [t 9]])
    (.cond (t 10) (sq (r [4] [o 4 .mv [b false]])
      (.ret)) (.skip)))
   (sq (sq (r [16] [o 11 (.fa 1) [t 2], o 12 (.ld none) [t 11], o 13 (.fa 1) [t 3], o 14 (.ld none) [t 13], o 15 (.call 27) [t 12, t 14], o 16 .not [t 15]])
     (.cond (t 16) (sq (r [4] [o 4 .mv [b false]])
       (.ret)) (.skip)))
    (sq (r [4] [o 4 .mv [b true]])
     (.ret))))
def r_laws_eqArray : List RV := [.tmp 4]
def laws_eqArray_f (L_laws_eqIntS : (List Int) → (List Int) → Option (Bool)) (N : Nat) (a0_Shape : List Int) (a0_Data : List Int) (a1_Shape : List Int) (a1_Data : List Int) : Option (Bool) :=
  (L_laws_eqIntS a0_Shape a1_Shape).bind fun y0 =>
  if y0 = false then some false
  else ((L_laws_eqIntS a0_Data a1_Data).bind fun y1 =>
   if y1 = false then some false
   else some true)
theorem laws_eqArray_g (E : En) (hy : Hy E [] [] [] r_laws_eqArray none (fun y => nocap y) flatIds) (L_laws_eqIntS : (List Int) → (List Int) → Option (Bool)) (h_laws_eqIntS : H_laws_eqIntS E L_laws_eqIntS) (a0_Shape : List Int) (a0_Data : List Int) (a1_Shape : List Int) (a1_Data : List Int) : G E c_laws_eqArray [] ⟨slotsOf [(0, .agg [.d (lstT cI a0_Shape), .d (lstT cI a0_Data)]), (1, .agg [.d (lstT cI a1_Shape), .d (lstT cI a1_Data)])], obsOf []⟩ = (laws_eqArray_f L_laws_eqIntS E.n a0_Shape a0_Data a1_Shape a1_Data).bind fun r => some (.ret (.d (.bool r)) []) := by
  simp (config := {maxSteps := 40000000}) only [↓rPre, rPost, rCan, rObj, rI, rS, rB, r8, rLI, rEtc, hy.p, hy.l, hy.k, hy.r, hy.d, hy.w, hy.f, flatIds, oid, r_laws_eqArray, ↓G_unf _ _ c_laws_eqArray.eq_1, h_laws_eqIntS.2, h_laws_eqIntS.1, bind_ite, laws_eqArray_f, rRow3, rVerdict, rRow59, rOutcome, rRow72, rRow56, rRow74, rRow5, rRow9, rMap91, rLog, ↓reduceIte, Nat.reduceMul, Nat.reduceAdd, Nat.reduceSub, Nat.reduceEqDiff, Nat.reduceBEq, Nat.reduceLeDiff, Nat.reduceLT, reduceCtorEq, Int.reduceAdd, Int.reduceSub, Int.reduceToNat, Int.reduceNeg, Int.reduceEq, Int.reduceLT, Int.reduceLE]
def H_laws_eqArray (E : En) (L : (List Int) → (List Int) → (List Int) → (List Int) → Option (Bool)) : Prop := E.Γ.mu 10 = false ∧ (∀ (a0_Shape : List Int) (a0_Data : List Int) (a1_Shape : List Int) (a1_Data : List Int), E.Γ 10 [.agg [.d (lstT cI a0_Shape), .d (lstT cI a0_Data)], .agg [.d (lstT cI a1_Shape), .d (lstT cI a1_Data)]] = (L a0_Shape a0_Data a1_Shape a1_Data).bind fun r => some (.ret (.d (.bool r)) []))
-- loop.example/s02135/laws.eqOutcome
def c_laws_eqOutcome : Cd :=
  sq (r [2, 3] [o 2 .box [t 0], o 3 .box [t 1], o 4 .mv [b false]])
  (sq (sq (r [2, 3, 9] [o 5 (.fa 0) [t 2], o 6 (.ld none) [t 5], o 7 (.fa 0) [t 3], o 8 (.ld none) [t 7], o 9 (.bin .neq) [t 6, t 8]])
    (.cond (t 9) (sq (r [4] [o 4 .mv [b false]])
      (.ret)) (.skip)))
   (sq (sq (r [2, 3, 14] [o 10 (.fa 1) [t 2], o 11 (.ld none) [t 10], o 12 (.fa 1) [t 3], o 13 (.ld none) [t 12], o 14 (.bin .neq) [t 11, t 13]])
     (.cond (t 14) (sq (r [4] [o 4 .mv [b false]])
       (.ret)) (.skip)))
    (sq (sq (r [2, 3, 20] [o 15 (.fa 2) [t 2], o 16 (.ld (some 2)) [t 15], o 17 (.fa 2) [t 3], o 18 (.ld (some 2)) [t 17], o 19 (.call 10) [t 16, t 18], o 20 .not [t 19]])
      (.cond (t 20) (sq (r [4] [o 4 .mv [b false]])
        (.ret)) (.skip)))
     (sq (sq (r [2, 3, 25] [o 21 (.fa 4) [t 2], o 22 (.ld none) [t 21], o 23 (.fa 4) [t 3], o 24 (.ld none) [t 23], o 25 (.bin .neq) [t 22, t 24]])
       (.cond (t 25) (sq (r [4] [o 4 .mv [b false]])
         (.ret)) (.skip)))
      (sq (sq (r [30] [o 26 (.fa 5) [t 2], o 27 (.ld none) [t 26], o 28 (.fa 5) [t 3], o 29 (.ld none) [t 28], o 30 (.bin .neq) [t 27, t 29]])
        (.cond (t 30) (sq (r [4] [o 4 .mv [b false]])
          (.ret)) (.skip)))
       (sq (r [4] [o 4 .mv [b true]])
        (.ret)))))))
def r_laws_eqOutcome : List RV := [.tmp 4]
def laws_eqOutcome_f (L_laws_eqArray : (List Int) → (List Int) → (List Int) → (List Int) → Option (Bool)) (N : Nat) (a0_Kind : Int) (a0_Code : Int) (a0_Value_Shape : List Int) (a0_Value_Data : List Int) (a0_Fuel : Int) (a0_Cells : Int) (a1_Kind : Int) (a1_Code : Int) (a1_Value_Shape : List Int) (a1_Value_Data : List Int) (a1_Fuel : Int) (a1_Cells : Int) : Option (Bool) :=
  if a0_Kind = a1_Kind then (if a0_Code = a1_Code then ((L_laws_eqArray a0_Value_Shape a0_Value_Data a1_Value_Shape a1_Value_Data).bind fun y0 =>
    if y0 = false then some false
    else (if a0_Fuel = a1_Fuel then (if a0_Cells = a1_Cells then some true
      else some false)
     else some false))
   else some false)
  else some false
theorem laws_eqOutcome_g (E : En) (hy : Hy E [] [] [] r_laws_eqOutcome none (fun y => nocap y) flatIds) (L_laws_eqArray : (List Int) → (List Int) → (List Int) → (List Int) → Option (Bool)) (h_laws_eqArray : H_laws_eqArray E L_laws_eqArray) (a0_Kind : Int) (a0_Code : Int) (a0_Value_Shape : List Int) (a0_Value_Data : List Int) (a0_Fuel : Int) (a0_Cells : Int) (a1_Kind : Int) (a1_Code : Int) (a1_Value_Shape : List Int) (a1_Value_Data : List Int) (a1_Fuel : Int) (a1_Cells : Int) : G E c_laws_eqOutcome [] ⟨slotsOf [(0, .agg [.d (.int .i64 a0_Kind), .d (.int .i64 a0_Code), .d (lstT cI a0_Value_Shape), .d (lstT cI a0_Value_Data), .d (.int .i64 a0_Fuel), .d (.int .i64 a0_Cells)]), (1, .agg [.d (.int .i64 a1_Kind), .d (.int .i64 a1_Code), .d (lstT cI a1_Value_Shape), .d (lstT cI a1_Value_Data), .d (.int .i64 a1_Fuel), .d (.int .i64 a1_Cells)])], obsOf []⟩ = (laws_eqOutcome_f L_laws_eqArray E.n a0_Kind a0_Code a0_Value_Shape a0_Value_Data a0_Fuel a0_Cells a1_Kind a1_Code a1_Value_Shape a1_Value_Data a1_Fuel a1_Cells).bind fun r => some (.ret (.d (.bool r)) []) := by
  simp (config := {maxSteps := 40000000}) only [↓rPre, rPost, rCan, rObj, rI, rS, rB, r8, rLI, rEtc, hy.p, hy.l, hy.k, hy.r, hy.d, hy.w, hy.f, flatIds, oid, r_laws_eqOutcome, ↓G_unf _ _ c_laws_eqOutcome.eq_1, h_laws_eqArray.2, h_laws_eqArray.1, bind_ite, laws_eqOutcome_f, rRow3, rVerdict, rRow59, rOutcome, rRow72, rRow56, rRow74, rRow5, rRow9, rMap91, rLog, ↓reduceIte, Nat.reduceMul, Nat.reduceAdd, Nat.reduceSub, Nat.reduceEqDiff, Nat.reduceBEq, Nat.reduceLeDiff, Nat.reduceLT, reduceCtorEq, Int.reduceAdd, Int.reduceSub, Int.reduceToNat, Int.reduceNeg, Int.reduceEq, Int.reduceLT, Int.reduceLE]
def H_laws_eqOutcome (E : En) (L : Int → Int → (List Int) → (List Int) → Int → Int → Int → Int → (List Int) → (List Int) → Int → Int → Option (Bool)) : Prop := E.Γ.mu 44 = false ∧ (∀ (a0_Kind : Int) (a0_Code : Int) (a0_Value_Shape : List Int) (a0_Value_Data : List Int) (a0_Fuel : Int) (a0_Cells : Int) (a1_Kind : Int) (a1_Code : Int) (a1_Value_Shape : List Int) (a1_Value_Data : List Int) (a1_Fuel : Int) (a1_Cells : Int), E.Γ 44 [.agg [.d (.int .i64 a0_Kind), .d (.int .i64 a0_Code), .d (lstT cI a0_Value_Shape), .d (lstT cI a0_Value_Data), .d (.int .i64 a0_Fuel), .d (.int .i64 a0_Cells)], .agg [.d (.int .i64 a1_Kind), .d (.int .i64 a1_Code), .d (lstT cI a1_Value_Shape), .d (lstT cI a1_Value_Data), .d (.int .i64 a1_Fuel), .d (.int .i64 a1_Cells)]] = (L a0_Kind a0_Code a0_Value_Shape a0_Value_Data a0_Fuel a0_Cells a1_Kind a1_Code a1_Value_Shape a1_Value_Data a1_Fuel a1_Cells).bind fun r => some (.ret (.d (.bool r)) []))
-- loop.example/s02135/laws.eqOutcomeS
def b0_laws_eqOutcomeS : Cd :=
  sq (sq (r [0, 1, 5, 14] [o 11 .mv [t 5], o 12 .mv [t 0], o 13 (.len false) [t 12], o 14 (.bin .lss) [t 11, t 13]])
   (.cond (t 14) (.skip) (.exit 0)))
  (sq (.block 1 (sq (rd [] [0, 1, 5, 26] [o 17 .mv [t 0], o 18 .mv [t 5], o 19 (.ia 6) [t 17, t 18], o 20 (.ld (some 6)) [t 19], o 21 .mv [t 1], o 22 .mv [t 5], o 23 (.ia 6) [t 21, t 22], o 24 (.ld (some 6)) [t 23], o 25 (.call 44) [t 20, t 24], o 26 .not [t 25]])
     (.cond (t 26) (sq (r [4] [o 4 .mv [b false]])
       (.ret)) (.skip))))
   (r [0, 1, 5] [o 15 .mv [t 5], o 16 (.bin .add) [t 15, i 1], o 5 .mv [t 16]]))
def k1_laws_eqOutcomeS : Cd :=
  sq (r [4] [o 4 .mv [b true]])
  (.ret)
def c_laws_eqOutcomeS : Cd :=
  sq (r [0, 1] [o 4 .mv [b false]])
  (sq (sq (r [0, 1, 10] [o 6 .mv [t 0], o 7 (.len false) [t 6], o 8 .mv [t 1], o 9 (.len false) [t 8], o 10 (.bin .neq) [t 7, t 9]])
    (.cond (t 10) (sq (r [4] [o 4 .mv [b false]])
      (.ret)) (.skip)))
   (sq (sq (r [0, 1, 5] [o 5 .mv [i 0]])
     (.block 0 (.loop [0, 1, 5] b0_laws_eqOutcomeS))) k1_laws_eqOutcomeS))
def r_laws_eqOutcomeS : List RV := [.tmp 4]
def laws_eqOutcomeS_l0 (L_laws_eqOutcome : Int → Int → (List Int) → (List Int) → Int → Int → Int → Int → (List Int) → (List Int) → Int → Int → Option (Bool)) : Nat → (List TOutcome) → (List TOutcome) → Int → Option (Bool)
  | 0, _, _, _ => none
  | m0 + 1, x0, x1, x5 =>
    if x5 < (↑(List.length x0) : Int) then ((idx x0 x5).bind fun y0 =>
     (idx x1 x5).bind fun y1 =>
     (L_laws_eqOutcome y0.Kind y0.Code y0.Value_Shape y0.Value_Data y0.Fuel y0.Cells y1.Kind y1.Code y1.Value_Shape y1.Value_Data y1.Fuel y1.Cells).bind fun y2 =>
     if y2 = false then some false
     else laws_eqOutcomeS_l0 L_laws_eqOutcome m0 x0 x1 (w64 (x5 + 1)))
    else some true
def laws_eqOutcomeS_f (L_laws_eqOutcome : Int → Int → (List Int) → (List Int) → Int → Int → Int → Int → (List Int) → (List Int) → Int → Int → Option (Bool)) (N : Nat) (a0 : List TOutcome) (a1 : List TOutcome) : Option (Bool) :=
  if (↑(List.length a0) : Int) = (↑(List.length a1) : Int) then laws_eqOutcomeS_l0 L_laws_eqOutcome N a0 a1 0
  else some false
theorem laws_eqOutcomeS_l0_eq (E : En) (hy : Hy E [] [] [] r_laws_eqOutcomeS none (fun y => nocap y) flatIds) (L_laws_eqOutcome : Int → Int → (List Int) → (List Int) → Int → Int → Int → Int → (List Int) → (List Int) → Int → Int → Option (Bool)) (h_laws_eqOutcome : H_laws_eqOutcome E L_laws_eqOutcome) : ∀ (m0 : Nat) (x0 : List TOutcome) (x1 : List TOutcome) (x5 : Int), gH E [0, 1, 5] b0_laws_eqOutcomeS [KJ.b 0, KJ.c k1_laws_eqOutcomeS] m0 ⟨slotsOf [(0, .d (lstT (cOutcome) x0)), (1, .d (lstT (cOutcome) x1)), (5, .d (.int .i64 x5))], obsOf []⟩ = (laws_eqOutcomeS_l0 L_laws_eqOutcome m0 x0 x1 x5).bind fun r => some (.ret (.d (.bool r)) []) := by
  intro m0
  induction m0 with
  | zero => intros; rfl
  | succ m0 ih =>
    intros
    simp (config := {maxSteps := 40000000}) only [↓rPre, rPost, rCan, rObj, rI, rS, rB, r8, rLI, rEtc, hy.p, hy.l, hy.k, hy.r, hy.d, hy.w, hy.f, flatIds, oid, r_laws_eqOutcomeS, ↓G_unf _ _ b0_laws_eqOutcomeS.eq_1, ↓G_unf _ _ k1_laws_eqOutcomeS.eq_1, ↓G_unf _ _ c_laws_eqOutcomeS.eq_1, h_laws_eqOutcome.2, h_laws_eqOutcome.1, gH_succ, ih, bind_ite, laws_eqOutcomeS_l0, rRow3, rVerdict, rRow59, rOutcome, rRow72, rRow56, rRow74, rRow5, rRow9, rMap91, rLog, ↓reduceIte, Nat.reduceMul, Nat.reduceAdd, Nat.reduceSub, Nat.reduceEqDiff, Nat.reduceBEq, Nat.reduceLeDiff, Nat.reduceLT, reduceCtorEq, Int.reduceAdd, Int.reduceSub, Int.reduceToNat, Int.reduceNeg, Int.reduceEq, Int.reduceLT, Int.reduceLE]
theorem laws_eqOutcomeS_g (E : En) (hy : Hy E [] [] [] r_laws_eqOutcomeS none (fun y => nocap y) flatIds) (L_laws_eqOutcome : Int → Int → (List Int) → (List Int) → Int → Int → Int → Int → (List Int) → (List Int) → Int → Int → Option (Bool)) (h_laws_eqOutcome : H_laws_eqOutcome E L_laws_eqOutcome) (a0 : List TOutcome) (a1 : List TOutcome) : G E c_laws_eqOutcomeS [] ⟨slotsOf [(0, .d (lstT cOutcome a0)), (1, .d (lstT cOutcome a1))], obsOf []⟩ = (laws_eqOutcomeS_f L_laws_eqOutcome E.n a0 a1).bind fun r => some (.ret (.d (.bool r)) []) := by
  simp (config := {maxSteps := 40000000}) only [↓rPre, rPost, rCan, rObj, rI, rS, rB, r8, rLI, rEtc, hy.p, hy.l, hy.k, hy.r, hy.d, hy.w, hy.f, flatIds, oid, r_laws_eqOutcomeS, ↓G_unf _ _ b0_laws_eqOutcomeS.eq_1, ↓G_unf _ _ k1_laws_eqOutcomeS.eq_1, ↓G_unf _ _ c_laws_eqOutcomeS.eq_1, h_laws_eqOutcome.2, h_laws_eqOutcome.1, bind_ite, laws_eqOutcomeS_f, laws_eqOutcomeS_l0_eq E hy L_laws_eqOutcome h_laws_eqOutcome, rRow3, rVerdict, rRow59, rOutcome, rRow72, rRow56, rRow74, rRow5, rRow9, rMap91, rLog, ↓reduceIte, Nat.reduceMul, Nat.reduceAdd, Nat.reduceSub, Nat.reduceEqDiff, Nat.reduceBEq, Nat.reduceLeDiff, Nat.reduceLT, reduceCtorEq, Int.reduceAdd, Int.reduceSub, Int.reduceToNat, Int.reduceNeg, Int.reduceEq, Int.reduceLT, Int.reduceLE]
def H_laws_eqOutcomeS (E : En) (L : (List TOutcome) → (List TOutcome) → Option (Bool)) : Prop := E.Γ.mu 20 = false ∧ (∀ (a0 : List TOutcome) (a1 : List TOutcome), E.Γ 20 [.d (lstT cOutcome a0), .d (lstT cOutcome a1)] = (L a0 a1).bind fun r => some (.ret (.d (.bool r)) []))
-- loop.example/s02135/laws.FnExactLogEntry
def c_laws_FnExactLogEntry : Cd :=
  sq (r [0, 1] [o 4 .mv [b false]])
  (sq (sq (r [0, 1, 13] [o 11 .mv [t 0], o 12 (.len true) [t 11], o 13 (.bin .gtr) [t 12, i 1048576]])
    (.cond (t 13) (sq (r [4] [o 4 .mv [b true]])
      (.ret)) (.skip)))
   (sq (r [0, 1, 5] [o 5 .mv [i 1048576]])
    (sq (r [0, 1, 5] [o 14 .mv [t 1], o 15 .mv [t 5], o 16 (.call 16) [t 14, t 15], o 5 .mv [t 16]])
     (sq (sq (r [0, 1, 18] [o 17 .mv [t 5], o 18 (.bin .lss) [t 17, i 0]])
       (.cond (t 18) (sq (r [4] [o 4 .mv [b true]])
         (.ret)) (.skip)))
      (sq (r [0, 1, 6, 7] [o 20 .mv [t 0], o 21 .mv [t 1], o 22 (.call 18) [t 21], o 23 (.call 17) [t 20, t 22], o 19 .mv [t 23], o 24 (.ext 0) [t 19], o 25 (.ext 1) [t 19], o 6 .mv [t 24], o 7 .mv [t 25]])
       (sq (r [0, 1, 6, 7, 8] [o 26 .mv [t 1], o 27 (.call 18) [t 26], o 8 .mv [t 27]])
        (sq (r [1, 6, 7, 8, 9, 10] [o 29 .mv [t 0], o 30 .mv [t 8], o 31 (.call 19) [t 29, t 30], o 28 .mv [t 31], o 32 (.ext 0) [t 28], o 33 (.ext 1) [t 28], o 9 .mv [t 32], o 10 .mv [t 33]])
         (sq (sq (r [1, 8, 41] [o 34 .mv [t 9], o 35 .mv [t 6], o 36 (.bin .neq) [t 34, t 35], o 37 .mv [t 36], g 37 false 38 .mv [t 10], g 37 false 39 .mv [t 7], g 37 false 40 (.beq true) [t 38, t 39], o 41 .pick [t 37, b true, t 40]])
           (.cond (t 41) (sq (r [4] [o 4 .mv [b false]])
             (.ret)) (.skip)))
          (sq (sq (r [46] [o 42 .mv [t 8], o 43 .mv [t 1], o 44 (.call 18) [t 43], o 45 (.call 20) [t 42, t 44], o 46 .not [t 45]])
            (.cond (t 46) (sq (r [4] [o 4 .mv [b false]])
              (.ret)) (.skip)))
           (sq (r [4] [o 4 .mv [b true]])
            (.ret)))))))))))
def r_laws_FnExactLogEntry : List RV := [.tmp 4]
def laws_FnExactLogEntry_f (L_laws_szOutcomeS : (List TOutcome) → Int → Option (Int)) (L_laws_toOutcomeS : (List TOutcome) → Option (List TOutcome)) (L_spec_LogEntry : (List UInt8) → (List TOutcome) → Option (List UInt8 × Bool)) (L_impl_LogEntry : (List UInt8) → (List TOutcome) → Option (List UInt8 × Bool)) (L_laws_eqOutcomeS : (List TOutcome) → (List TOutcome) → Option (Bool)) (N : Nat) (a0 : List UInt8) (a1 : List TOutcome) : Option (Bool) :=
  if 1048576 < (↑(List.length a0) : Int) then some true
  else ((L_laws_szOutcomeS a1 1048576).bind fun y0 =>
   if y0 < 0 then some true
   else ((L_laws_toOutcomeS a1).bind fun y1 =>
    (L_spec_LogEntry a0 y1).bind fun y2 =>
    (L_laws_toOutcomeS a1).bind fun y3 =>
    (L_impl_LogEntry a0 y3).bind fun y4 =>
    if y4.fst = y2.fst then (if (y4.snd == y2.snd) = false then some false
     else ((L_laws_toOutcomeS a1).bind fun y5 =>
      (L_laws_eqOutcomeS y3 y5).bind fun y6 =>
      if y6 = false then some false
      else some true))
    else some false))
theorem laws_FnExactLogEntry_g (E : En) (hy : Hy E [] [] [] r_laws_FnExactLogEntry none (fun y => nocap y) flatIds) (L_laws_szOutcomeS : (List TOutcome) → Int → Option (Int)) (h_laws_szOutcomeS : H_laws_szOutcomeS E L_laws_szOutcomeS) (L_laws_toOutcomeS : (List TOutcome) → Option (List TOutcome)) (h_laws_toOutcomeS : H_laws_toOutcomeS E L_laws_toOutcomeS) (L_spec_LogEntry : (List UInt8) → (List TOutcome) → Option (List UInt8 × Bool)) (h_spec_LogEntry : H_spec_LogEntry E L_spec_LogEntry) (L_impl_LogEntry : (List UInt8) → (List TOutcome) → Option (List UInt8 × Bool)) (h_impl_LogEntry : H_impl_LogEntry E L_impl_LogEntry) (L_laws_eqOutcomeS : (List TOutcome) → (List TOutcome) → Option (Bool)) (h_laws_eqOutcomeS : H_laws_eqOutcomeS E L_laws_eqOutcomeS) (a0 : List UInt8) (a1 : List TOutcome) : G E c_laws_FnExactLogEntry [] ⟨slotsOf [(0, .d (sD a0)), (1, .d (lstT cOutcome a1))], obsOf []⟩ = (laws_FnExactLogEntry_f L_laws_szOutcomeS L_laws_toOutcomeS L_spec_LogEntry L_impl_LogEntry L_laws_eqOutcomeS E.n a0 a1).bind fun r => some (.ret (.d (.bool r)) []) := by
  simp (config := {maxSteps := 40000000}) only [↓rPre, rPost, rCan, rObj, rI, rS, rB, r8, rLI, rEtc, hy.p, hy.l, hy.k, hy.r, hy.d, hy.w, hy.f, flatIds, oid, r_laws_FnExactLogEntry, ↓G_unf _ _ c_laws_FnExactLogEntry.eq_1, h_laws_szOutcomeS.2, h_laws_szOutcomeS.1, h_laws_toOutcomeS.2, h_laws_toOutcomeS.1, h_spec_LogEntry.2, h_spec_LogEntry.1, h_impl_LogEntry.2, h_impl_LogEntry.1, h_laws_eqOutcomeS.2, h_laws_eqOutcomeS.1, bind_ite, laws_FnExactLogEntry_f, rRow3, rVerdict, rRow59, rOutcome, rRow72, rRow56, rRow74, rRow5, rRow9, rMap91, rLog, ↓reduceIte, Nat.reduceMul, Nat.reduceAdd, Nat.reduceSub, Nat.reduceEqDiff, Nat.reduceBEq, Nat.reduceLeDiff, Nat.reduceLT, reduceCtorEq, Int.reduceAdd, Int.reduceSub, Int.reduceToNat, Int.reduceNeg, Int.reduceEq, Int.reduceLT, Int.reduceLE]
def H_laws_FnExactLogEntry (E : En) (L : (List UInt8) → (List TOutcome) → Option (Bool)) : Prop := E.Γ.mu 5 = false ∧ (∀ (a0 : List UInt8) (a1 : List TOutcome), E.Γ 5 [.d (sD a0), .d (lstT cOutcome a1)] = (L a0 a1).bind fun r => some (.ret (.d (.bool r)) []))
end Go.Vm
