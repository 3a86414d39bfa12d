/- The functions under laws_FnExactArrayText: the abstract machine's codes, and what they come to in plain terms. Printed by a program of this session. -/
import Derived.Test.YtbfmeoiblppnbaaDoorVmKind
set_option linter.all false
set_option maxRecDepth 100000
set_option maxHeartbeats 4000000
namespace Go.Vm
structure TVerdict where
  Kind : Int
  Code : Int
  deriving DecidableEq
def encVerdict (x : TVerdict) : List D := [.int .i64 x.Kind, .int .i64 x.Code]
def decVerdict : List D → Option TVerdict
  | [.int .i64 a0, .int .i64 a1] => some ⟨a0, a1⟩
  | _ => none
theorem decVerdict_ok : ∀ xs x, decVerdict xs = some x → xs = encVerdict x := by
  intro xs x h
  unfold decVerdict at h
  split at h
  · cases h; rfl
  · cases h
def cVerdict : Enc TVerdict := ⟨2, encVerdict, decVerdict, fun _ => rfl, by decide, decVerdict_ok, fun _ => rfl⟩
theorem cVerdict_enc (x : TVerdict) : cVerdict.enc x = [.int .i64 x.Kind, .int .i64 x.Code] := rfl
theorem cVerdict_dec (x_Kind : Int) (x_Code : Int) : cVerdict.dec [.int .i64 x_Kind, .int .i64 x_Code] = some ⟨x_Kind, x_Code⟩ := cVerdict.edc ⟨x_Kind, x_Code⟩
theorem cVerdict_dec1 (a : D) : cVerdict.dec [a] = none := by cases a <;> first | rfl | (rename_i k n; cases k <;> rfl)
def rVerdict := And.intro (cVerdict_dec1) <| And.intro (rKind cVerdict 2 rfl) <| And.intro (cVerdict_enc) <| And.intro (cVerdict_dec) <| And.intro (plain_T cVerdict (fun _ => rfl)) <| And.intro ((fun l m => k_get cVerdict 2 l m 1 (by decide) rfl)) <| ((fun e cap l m xs z hz => k_part' cVerdict 2 e cap l m 1 xs z hz rfl))
structure TOutcome where
  Kind : Int
  Code : Int
  Value_Shape : List Int
  Value_Data : List Int
  Fuel : Int
  Cells : Int
  deriving DecidableEq
def encOutcome (x : TOutcome) : List D := [.int .i64 x.Kind, .int .i64 x.Code, lstT cI x.Value_Shape, lstT cI x.Value_Data, .int .i64 x.Fuel, .int .i64 x.Cells]
def decOutcome : List D → Option TOutcome
  | [.int .i64 a0, .int .i64 a1, d2, d3, .int .i64 a4, .int .i64 a5] => (decL cI d2).bind fun a2 => (decL cI d3).bind fun a3 => some ⟨a0, a1, a2, a3, a4, a5⟩
  | _ => none
theorem decOutcome_ok : ∀ xs x, decOutcome xs = some x → xs = encOutcome x := by
  intro xs x h
  unfold decOutcome at h
  split at h
  · have hh := Option.bind_eq_some_iff.mp h; clear h; obtain ⟨a2, h2, h⟩ := hh; have e2 := decL_ok h2; clear h2; subst e2; have hh := Option.bind_eq_some_iff.mp h; clear h; obtain ⟨a3, h3, h⟩ := hh; have e3 := decL_ok h3; clear h3; subst e3; cases h; rfl
  · cases h
def cOutcome : Enc TOutcome := ⟨6, encOutcome, decOutcome, fun _ => rfl, by decide, decOutcome_ok, fun x => by simp only [encOutcome, decOutcome, decL_T, Option.bind_some]⟩
theorem cOutcome_enc (x : TOutcome) : cOutcome.enc x = [.int .i64 x.Kind, .int .i64 x.Code, lstT cI x.Value_Shape, lstT cI x.Value_Data, .int .i64 x.Fuel, .int .i64 x.Cells] := rfl
theorem cOutcome_dec (x_Kind : Int) (x_Code : Int) (x_Value_Shape : List Int) (x_Value_Data : List Int) (x_Fuel : Int) (x_Cells : Int) : cOutcome.dec [.int .i64 x_Kind, .int .i64 x_Code, lstT cI x_Value_Shape, lstT cI x_Value_Data, .int .i64 x_Fuel, .int .i64 x_Cells] = some ⟨x_Kind, x_Code, x_Value_Shape, x_Value_Data, x_Fuel, x_Cells⟩ := cOutcome.edc ⟨x_Kind, x_Code, x_Value_Shape, x_Value_Data, x_Fuel, x_Cells⟩
theorem cOutcome_dec1 (a : D) : cOutcome.dec [a] = none := by cases a <;> first | rfl | (rename_i k n; cases k <;> rfl)
def rOutcome := And.intro (cOutcome_dec1) <| And.intro (rKind cOutcome 6 rfl) <| And.intro (cOutcome_enc) <| And.intro (cOutcome_dec) <| And.intro (plain_N cOutcome) <| And.intro ((fun l m => k_get cOutcome 6 l m 1 (by decide) rfl)) <| And.intro ((fun e cap l m xs z hz => k_part' cOutcome 6 e cap l m 1 xs z hz rfl)) <| And.intro ((fun l m => k_get cOutcome 6 l m 2 (by decide) rfl)) <| And.intro ((fun e cap l m xs z hz => k_part' cOutcome 6 e cap l m 2 xs z hz rfl)) <| And.intro ((fun l m => k_get cOutcome 6 l m 3 (by decide) rfl)) <| And.intro ((fun e cap l m xs z hz => k_part' cOutcome 6 e cap l m 3 xs z hz rfl)) <| And.intro ((fun l m => k_get cOutcome 6 l m 4 (by decide) rfl)) <| And.intro ((fun e cap l m xs z hz => k_part' cOutcome 6 e cap l m 4 xs z hz rfl)) <| And.intro ((fun l m => k_get cOutcome 6 l m 5 (by decide) rfl)) <| ((fun e cap l m xs z hz => k_part' cOutcome 6 e cap l m 5 xs z hz rfl))
def rRow3 := rRow cI 3 1 rfl [iD 0] 0 rfl
def rRow59 := rRow cVerdict 59 2 rfl [iD 0, iD 0] ⟨0, 0⟩ rfl
def rRow72 := rRow cOutcome 72 6 rfl [iD 0, iD 0, .lst 0 [], .lst 0 [], iD 0, iD 0] ⟨0, 0, [], [], 0, 0⟩ rfl
def rRow56 := rRow cVerdict 56 2 rfl [iD 0, iD 0] ⟨0, 0⟩ rfl
def rRow74 := rRow cOutcome 74 6 rfl [iD 0, iD 0, .lst 0 [], .lst 0 [], iD 0, iD 0] ⟨0, 0, [], [], 0, 0⟩ rfl
def rRow5 := rRow c8 5 1 rfl [.int .u8 0] 0 rfl
def rRow9 := rRow cS 9 1 rfl [sD []] [] rfl
def rMap91 := rMapI cS 91 none rfl [sD []] [] rfl
/-- the types of elements that lead to no memory -/
def flatIds (e : Nat) : Bool := e == 3 || e == 59 || e == 56 || e == 5 || e == 9
-- loop.example/s02135/laws.szIntS
def c_laws_szIntS : Cd :=
  sq (r [0, 1] [o 4 .mv [i 0]])
  (sq (r [1] [o 5 .mv [t 1], o 6 .mv [t 0], o 7 (.len false) [t 6], o 8 (.bin .sub) [t 5, t 7], o 1 .mv [t 8]])
   (sq (sq (r [1, 10] [o 9 .mv [t 1], o 10 (.bin .lss) [t 9, i 0]])
     (.cond (t 10) (sq (r [4] [o 4 .mv [i (-1)]])
       (.ret)) (.skip)))
    (sq (r [4] [o 11 .mv [t 1], o 4 .mv [t 11]])
     (.ret))))
def r_laws_szIntS : List RV := [.tmp 4]
def laws_szIntS_f (N : Nat) (a0 : List Int) (a1 : Int) : Option (Int) :=
  if w64 (a1 - (↑(List.length a0) : Int)) < 0 then some (-1)
  else some (w64 (a1 - (↑(List.length a0) : Int)))
theorem laws_szIntS_g (E : En) (hy : Hy E [] [] [] r_laws_szIntS none (fun y => nocap y) flatIds) (a0 : List Int) (a1 : Int) : G E c_laws_szIntS [] ⟨slotsOf [(0, .d (lstT cI a0)), (1, .d (.int .i64 a1))], obsOf []⟩ = (laws_szIntS_f E.n a0 a1).bind fun r => some (.ret (.d (.int .i64 r)) []) := by
  simp (config := {maxSteps := 2000000}) only [↓rPre, rPost, rCan, rObj, rI, rS, rB, r8, rLI, rEtc, hy.p, hy.l, hy.k, hy.r, hy.d, hy.w, hy.f, flatIds, oid, r_laws_szIntS, ↓G_unf _ _ c_laws_szIntS.eq_1, bind_ite, laws_szIntS_f, rRow3, rVerdict, rRow59, rOutcome, rRow72, rRow56, rRow74, rRow5, rRow9, rMap91, rLog, ↓reduceIte, Nat.reduceMul, Nat.reduceAdd, Nat.reduceSub, Nat.reduceEqDiff, Nat.reduceBEq, Nat.reduceLeDiff, Nat.reduceLT, reduceCtorEq, Int.reduceAdd, Int.reduceSub, Int.reduceToNat, Int.reduceNeg, Int.reduceEq, Int.reduceLT, Int.reduceLE]
def H_laws_szIntS (E : En) (L : (List Int) → Int → Option (Int)) : Prop := E.Γ.mu 21 = false ∧ (∀ (a0 : List Int) (a1 : Int), E.Γ 21 [.d (lstT cI a0), .d (.int .i64 a1)] = (L a0 a1).bind fun r => some (.ret (.d (.int .i64 r)) []))
-- loop.example/s02135/laws.szArray
def c_laws_szArray : Cd :=
  sq (r [1, 2] [o 2 .box [t 0], o 4 .mv [i 0]])
  (sq (r [1, 2] [o 5 (.fa 0) [t 2], o 6 (.ld none) [t 5], o 7 .mv [t 1], o 8 (.call 21) [t 6, t 7], o 1 .mv [t 8]])
   (sq (sq (r [1, 2, 10] [o 9 .mv [t 1], o 10 (.bin .lss) [t 9, i 0]])
     (.cond (t 10) (sq (r [4] [o 4 .mv [i (-1)]])
       (.ret)) (.skip)))
    (sq (r [1] [o 11 (.fa 1) [t 2], o 12 (.ld none) [t 11], o 13 .mv [t 1], o 14 (.call 21) [t 12, t 13], o 1 .mv [t 14]])
     (sq (sq (r [1, 16] [o 15 .mv [t 1], o 16 (.bin .lss) [t 15, i 0]])
       (.cond (t 16) (sq (r [4] [o 4 .mv [i (-1)]])
         (.ret)) (.skip)))
      (sq (r [4] [o 17 .mv [t 1], o 4 .mv [t 17]])
       (.ret))))))
def r_laws_szArray : List RV := [.tmp 4]
def laws_szArray_f (L_laws_szIntS : (List Int) → Int → Option (Int)) (N : Nat) (a0_Shape : List Int) (a0_Data : List Int) (a1 : Int) : Option (Int) :=
  (L_laws_szIntS a0_Shape a1).bind fun y0 =>
  if y0 < 0 then some (-1)
  else ((L_laws_szIntS a0_Data y0).bind fun y1 =>
   if y1 < 0 then some (-1)
   else some y1)
theorem laws_szArray_g (E : En) (hy : Hy E [] [] [] r_laws_szArray none (fun y => nocap y) flatIds) (L_laws_szIntS : (List Int) → Int → Option (Int)) (h_laws_szIntS : H_laws_szIntS E L_laws_szIntS) (a0_Shape : List Int) (a0_Data : List Int) (a1 : Int) : G E c_laws_szArray [] ⟨slotsOf [(0, .agg [.d (lstT cI a0_Shape), .d (lstT cI a0_Data)]), (1, .d (.int .i64 a1))], obsOf []⟩ = (laws_szArray_f L_laws_szIntS E.n a0_Shape a0_Data a1).bind fun r => some (.ret (.d (.int .i64 r)) []) := by
  simp (config := {maxSteps := 2000000}) only [↓rPre, rPost, rCan, rObj, rI, rS, rB, r8, rLI, rEtc, hy.p, hy.l, hy.k, hy.r, hy.d, hy.w, hy.f, flatIds, oid, r_laws_szArray, ↓G_unf _ _ c_laws_szArray.eq_1, h_laws_szIntS.2, h_laws_szIntS.1, bind_ite, laws_szArray_f, rRow3, rVerdict, rRow59, rOutcome, rRow72, rRow56, rRow74, rRow5, rRow9, rMap91, rLog, ↓reduceIte, Nat.reduceMul, Nat.reduceAdd, Nat.reduceSub, Nat.reduceEqDiff, Nat.reduceBEq, Nat.reduceLeDiff, Nat.reduceLT, reduceCtorEq, Int.reduceAdd, Int.reduceSub, Int.reduceToNat, Int.reduceNeg, Int.reduceEq, Int.reduceLT, Int.reduceLE]
def H_laws_szArray (E : En) (L : (List Int) → (List Int) → Int → Option (Int)) : Prop := E.Γ.mu 6 = false ∧ (∀ (a0_Shape : List Int) (a0_Data : List Int) (a1 : Int), E.Γ 6 [.agg [.d (lstT cI a0_Shape), .d (lstT cI a0_Data)], .d (.int .i64 a1)] = (L a0_Shape a0_Data a1).bind fun r => some (.ret (.d (.int .i64 r)) []))
-- loop.example/s02135/laws.toIntS
def b0_laws_toIntS : Cd :=
  sq (sq (r [0, 3, 4, 11] [o 8 .mv [t 4], o 9 .mv [t 0], o 10 (.len false) [t 9], o 11 (.bin .lss) [t 8, t 10]])
   (.cond (t 11) (.skip) (.exit 0)))
  (sq (.block 1 (r [0, 3, 4] [o 14 .mv [t 3], o 15 .mv [t 4], o 16 .mv [t 0], o 17 .mv [t 4], o 18 (.ia 1) [t 16, t 17], o 19 (.ld none) [t 18], o 20 (.ia 1) [t 14, t 15], e (.st 1) [t 20, t 19]]))
   (r [0, 3, 4] [o 12 .mv [t 4], o 13 (.bin .add) [t 12, i 1], o 4 .mv [t 13]]))
def k1_laws_toIntS : Cd :=
  sq (r [2] [o 21 .mv [t 3], o 2 .mv [t 21]])
  (.ret)
def c_laws_toIntS : Cd :=
  sq (r [0] [o 2 .mv [n]])
  (sq (r [0, 3] [o 5 .mv [t 0], o 6 (.len false) [t 5], o 7 (.mkS 3 1 8 [(iD 0)]) [t 6, t 6], o 3 .mv [t 7]])
   (sq (sq (r [0, 3, 4] [o 4 .mv [i 0]])
     (.block 0 (.loop [0, 3, 4] b0_laws_toIntS))) k1_laws_toIntS))
def r_laws_toIntS : List RV := [.tmp 2]
def laws_toIntS_l0 : Nat → (List Int) → Int → (List Int) → Option (List Int)
  | 0, _, _, _ => none
  | m0 + 1, x0, x4, o192 =>
    if x4 < (↑(List.length x0) : Int) then ((idx x0 x4).bind fun y0 =>
     if 0 ≤ x4 ∧ x4 < (↑(List.length o192) : Int) then ((setN o192 (Int.toNat x4) y0).bind fun y1 =>
      laws_toIntS_l0 m0 x0 (w64 (x4 + 1)) y1)
     else none)
    else some o192
def laws_toIntS_f (N : Nat) (a0 : List Int) : Option (List Int) :=
  if mkOk 8 (↑(List.length a0) : Int) (↑(List.length a0) : Int) then laws_toIntS_l0 N a0 0 (List.replicate (List.length a0) 0)
  else none
theorem laws_toIntS_l0_eq (E : En) (hy : Hy E [] [] [] r_laws_toIntS none (fun y => nocap y) flatIds) : ∀ (m0 : Nat) (x0 : List Int) (x4 : Int) (o192 : List Int), gH E [0, 3, 4] b0_laws_toIntS [KJ.b 0, KJ.c k1_laws_toIntS] m0 ⟨slotsOf [(0, .d (lstT (cI) x0)), (3, A.row 192 1), (4, .d (.int .i64 x4))], obsOf [(192, ⟨1, rowT (cI) 3 none o192, false⟩)]⟩ = (laws_toIntS_l0 m0 x0 x4 o192).bind fun r => some (.ret (ownT (cI) 3 none false r) []) := by
  intro m0
  induction m0 with
  | zero => intros; rfl
  | succ m0 ih =>
    intros
    simp (config := {maxSteps := 2000000}) only [↓rPre, rPost, rCan, rObj, rI, rS, rB, r8, rLI, rEtc, hy.p, hy.l, hy.k, hy.r, hy.d, hy.w, hy.f, flatIds, oid, r_laws_toIntS, ↓G_unf _ _ b0_laws_toIntS.eq_1, ↓G_unf _ _ k1_laws_toIntS.eq_1, ↓G_unf _ _ c_laws_toIntS.eq_1, gH_succ, ih, bind_ite, laws_toIntS_l0, rRow3, rVerdict, rRow59, rOutcome, rRow72, rRow56, rRow74, rRow5, rRow9, rMap91, rLog, ↓reduceIte, Nat.reduceMul, Nat.reduceAdd, Nat.reduceSub, Nat.reduceEqDiff, Nat.reduceBEq, Nat.reduceLeDiff, Nat.reduceLT, reduceCtorEq, Int.reduceAdd, Int.reduceSub, Int.reduceToNat, Int.reduceNeg, Int.reduceEq, Int.reduceLT, Int.reduceLE]
theorem laws_toIntS_g (E : En) (hy : Hy E [] [] [] r_laws_toIntS none (fun y => nocap y) flatIds) (a0 : List Int) : G E c_laws_toIntS [] ⟨slotsOf [(0, .d (lstT cI a0))], obsOf []⟩ = (laws_toIntS_f E.n a0).bind fun r => some (.ret (ownT (cI) 3 none false r) []) := by
  simp (config := {maxSteps := 2000000}) only [↓rPre, rPost, rCan, rObj, rI, rS, rB, r8, rLI, rEtc, hy.p, hy.l, hy.k, hy.r, hy.d, hy.w, hy.f, flatIds, oid, r_laws_toIntS, ↓G_unf _ _ b0_laws_toIntS.eq_1, ↓G_unf _ _ k1_laws_toIntS.eq_1, ↓G_unf _ _ c_laws_toIntS.eq_1, bind_ite, laws_toIntS_f, laws_toIntS_l0_eq E hy, rRow3, rVerdict, rRow59, rOutcome, rRow72, rRow56, rRow74, rRow5, rRow9, rMap91, rLog, ↓reduceIte, Nat.reduceMul, Nat.reduceAdd, Nat.reduceSub, Nat.reduceEqDiff, Nat.reduceBEq, Nat.reduceLeDiff, Nat.reduceLT, reduceCtorEq, Int.reduceAdd, Int.reduceSub, Int.reduceToNat, Int.reduceNeg, Int.reduceEq, Int.reduceLT, Int.reduceLE]
def H_laws_toIntS (E : En) (L : (List Int) → Option (List Int)) : Prop := E.Γ.mu 24 = false ∧ (∀ (a0 : List Int), E.Γ 24 [.d (lstT cI a0)] = (L a0).bind fun r => some (.ret (ownT (cI) 3 none false r) []))
-- loop.example/s02135/laws.toArray
def c_laws_toArray : Cd :=
  sq (r [1, 2] [o 1 .box [t 0], o 2 (.alloc [.nil, .nil]) []])
  (sq (r [1, 2, 3] [o 3 (.alloc [.nil, .nil]) []])
   (sq (r [1, 2, 3] [o 4 (.fa 0) [t 1], o 5 (.ld none) [t 4], o 6 (.call 24) [t 5], o 7 (.fa 0) [t 3], e (.st 1) [t 7, t 6]])
    (sq (r [2, 3] [o 8 (.fa 1) [t 1], o 9 (.ld none) [t 8], o 10 (.call 24) [t 9], o 11 (.fa 1) [t 3], e (.st 1) [t 11, t 10]])
     (sq (r [2] [o 12 (.ld (some 2)) [t 3], e (.st 2) [t 2, t 12]])
      (.ret)))))
def r_laws_toArray : List RV := [.cell 2 (some 2)]
def laws_toArray_f (L_laws_toIntS : (List Int) → Option (List Int)) (N : Nat) (a0_Shape : List Int) (a0_Data : List Int) : Option (List Int × List Int) :=
  (L_laws_toIntS a0_Shape).bind fun y0 =>
  (L_laws_toIntS a0_Data).bind fun y1 =>
  some ((y0, y1))
theorem laws_toArray_g (E : En) (hy : Hy E [] [] [] r_laws_toArray none (fun y => nocap y) flatIds) (L_laws_toIntS : (List Int) → Option (List Int)) (h_laws_toIntS : H_laws_toIntS E L_laws_toIntS) (a0_Shape : List Int) (a0_Data : List Int) : G E c_laws_toArray [] ⟨slotsOf [(0, .agg [.d (lstT cI a0_Shape), .d (lstT cI a0_Data)])], obsOf []⟩ = (laws_toArray_f L_laws_toIntS E.n a0_Shape a0_Data).bind fun r => some (.ret (.agg [ownT (cI) 3 none false r.1, ownT (cI) 3 none false r.2]) []) := by
  simp (config := {maxSteps := 2000000}) only [↓rPre, rPost, rCan, rObj, rI, rS, rB, r8, rLI, rEtc, hy.p, hy.l, hy.k, hy.r, hy.d, hy.w, hy.f, flatIds, oid, r_laws_toArray, ↓G_unf _ _ c_laws_toArray.eq_1, h_laws_toIntS.2, h_laws_toIntS.1, bind_ite, laws_toArray_f, rRow3, rVerdict, rRow59, rOutcome, rRow72, rRow56, rRow74, rRow5, rRow9, rMap91, rLog, ↓reduceIte, Nat.reduceMul, Nat.reduceAdd, Nat.reduceSub, Nat.reduceEqDiff, Nat.reduceBEq, Nat.reduceLeDiff, Nat.reduceLT, reduceCtorEq, Int.reduceAdd, Int.reduceSub, Int.reduceToNat, Int.reduceNeg, Int.reduceEq, Int.reduceLT, Int.reduceLE]
def H_laws_toArray (E : En) (L : (List Int) → (List Int) → Option (List Int × List Int)) : Prop := E.Γ.mu 8 = false ∧ (∀ (a0_Shape : List Int) (a0_Data : List Int), E.Γ 8 [.agg [.d (lstT cI a0_Shape), .d (lstT cI a0_Data)]] = (L a0_Shape a0_Data).bind fun r => some (.ret (.agg [ownT (cI) 3 none false r.1, ownT (cI) 3 none false r.2]) []))
-- loop.example/s02135/spec.l1Product
def b0_spec_l1Product : Cd :=
  sq (sq (r [0, 3, 4, 8] [o 5 .mv [t 4], o 6 .mv [t 0], o 7 (.len false) [t 6], o 8 (.bin .lss) [t 5, t 7]])
   (.cond (t 8) (.skip) (.exit 0)))
  (sq (.block 1 (sq (r [0, 3, 4] [o 11 .mv [t 3], o 12 .mv [t 0], o 13 .mv [t 4], o 14 (.ia 1) [t 12, t 13], o 15 (.ld none) [t 14], o 16 (.bin .mul) [t 11, t 15], o 3 .mv [t 16]])
     (sq (r [0, 3, 4, 18] [o 17 .mv [t 3], o 18 (.bin .gtr) [t 17, i 1000]])
      (.cond (t 18) (r [0, 3, 4] [o 3 .mv [i 1001]]) (.skip)))))
   (r [0, 3, 4] [o 9 .mv [t 4], o 10 (.bin .add) [t 9, i 1], o 4 .mv [t 10]]))
def k1_spec_l1Product : Cd :=
  sq (r [2] [o 19 .mv [t 3], o 2 .mv [t 19]])
  (.ret)
def c_spec_l1Product : Cd :=
  sq (r [0] [o 2 .mv [i 0]])
  (sq (r [0, 3] [o 3 .mv [i 1]])
   (sq (sq (r [0, 3, 4] [o 4 .mv [i 0]])
     (.block 0 (.loop [0, 3, 4] b0_spec_l1Product))) k1_spec_l1Product))
def r_spec_l1Product : List RV := [.tmp 2]
def spec_l1Product_l0 : Nat → (List Int) → Int → Int → Option (Int)
  | 0, _, _, _ => none
  | m0 + 1, x0, x3, x4 =>
    if x4 < (↑(List.length x0) : Int) then ((idx x0 x4).bind fun y0 =>
     if 1000 < w64 (x3 * y0) then spec_l1Product_l0 m0 x0 1001 (w64 (x4 + 1))
     else spec_l1Product_l0 m0 x0 (w64 (x3 * y0)) (w64 (x4 + 1)))
    else some x3
def spec_l1Product_f (N : Nat) (a0 : List Int) : Option (Int) :=
  spec_l1Product_l0 N a0 1 0
theorem spec_l1Product_l0_eq (E : En) (hy : Hy E [] [] [] r_spec_l1Product none (fun y => nocap y) flatIds) : ∀ (m0 : Nat) (x0 : List Int) (x3 : Int) (x4 : Int), gH E [0, 3, 4] b0_spec_l1Product [KJ.b 0, KJ.c k1_spec_l1Product] m0 ⟨slotsOf [(0, .d (lstT (cI) x0)), (3, .d (.int .i64 x3)), (4, .d (.int .i64 x4))], obsOf []⟩ = (spec_l1Product_l0 m0 x0 x3 x4).bind fun r => some (.ret (.d (.int .i64 r)) []) := by
  intro m0
  induction m0 with
  | zero => intros; rfl
  | succ m0 ih =>
    intros
    simp (config := {maxSteps := 2000000}) only [↓rPre, rPost, rCan, rObj, rI, rS, rB, r8, rLI, rEtc, hy.p, hy.l, hy.k, hy.r, hy.d, hy.w, hy.f, flatIds, oid, r_spec_l1Product, ↓G_unf _ _ b0_spec_l1Product.eq_1, ↓G_unf _ _ k1_spec_l1Product.eq_1, ↓G_unf _ _ c_spec_l1Product.eq_1, gH_succ, ih, bind_ite, spec_l1Product_l0, rRow3, rVerdict, rRow59, rOutcome, rRow72, rRow56, rRow74, rRow5, rRow9, rMap91, rLog, ↓reduceIte, Nat.reduceMul, Nat.reduceAdd, Nat.reduceSub, Nat.reduceEqDiff, Nat.reduceBEq, Nat.reduceLeDiff, Nat.reduceLT, reduceCtorEq, Int.reduceAdd, Int.reduceSub, Int.reduceToNat, Int.reduceNeg, Int.reduceEq, Int.reduceLT, Int.reduceLE]
theorem spec_l1Product_g (E : En) (hy : Hy E [] [] [] r_spec_l1Product none (fun y => nocap y) flatIds) (a0 : List Int) : G E c_spec_l1Product [] ⟨slotsOf [(0, .d (lstT cI a0))], obsOf []⟩ = (spec_l1Product_f E.n a0).bind fun r => some (.ret (.d (.int .i64 r)) []) := by
  simp (config := {maxSteps := 2000000}) only [↓rPre, rPost, rCan, rObj, rI, rS, rB, r8, rLI, rEtc, hy.p, hy.l, hy.k, hy.r, hy.d, hy.w, hy.f, flatIds, oid, r_spec_l1Product, ↓G_unf _ _ b0_spec_l1Product.eq_1, ↓G_unf _ _ k1_spec_l1Product.eq_1, ↓G_unf _ _ c_spec_l1Product.eq_1, bind_ite, spec_l1Product_f, spec_l1Product_l0_eq E hy, rRow3, rVerdict, rRow59, rOutcome, rRow72, rRow56, rRow74, rRow5, rRow9, rMap91, rLog, ↓reduceIte, Nat.reduceMul, Nat.reduceAdd, Nat.reduceSub, Nat.reduceEqDiff, Nat.reduceBEq, Nat.reduceLeDiff, Nat.reduceLT, reduceCtorEq, Int.reduceAdd, Int.reduceSub, Int.reduceToNat, Int.reduceNeg, Int.reduceEq, Int.reduceLT, Int.reduceLE]
def H_spec_l1Product (E : En) (L : (List Int) → Option (Int)) : Prop := E.Γ.mu 46 = false ∧ (∀ (a0 : List Int), E.Γ 46 [.d (lstT cI a0)] = (L a0).bind fun r => some (.ret (.d (.int .i64 r)) []))
-- loop.example/s02135/spec.l1Fits
def b0_spec_l1Fits : Cd :=
  sq (sq (r [0, 3, 10] [o 7 .mv [t 3], o 8 .mv [t 0], o 9 (.len false) [t 8], o 10 (.bin .lss) [t 7, t 9]])
   (.cond (t 10) (.skip) (.exit 0)))
  (sq (.block 1 (sq (r [0, 3, 24] [o 13 .mv [t 0], o 14 .mv [t 3], o 15 (.ia 1) [t 13, t 14], o 16 (.ld none) [t 15], o 17 (.bin .lss) [t 16, i 0], o 18 .mv [t 17], g 18 false 19 .mv [t 0], g 18 false 20 .mv [t 3], g 18 false 21 (.ia 1) [t 19, t 20], g 18 false 22 (.ld none) [t 21], g 18 false 23 (.bin .gtr) [t 22, i 1000], o 24 .pick [t 18, b true, t 23]])
     (.cond (t 24) (sq (r [2] [o 2 .mv [b false]])
       (.ret)) (.skip))))
   (r [0, 3] [o 11 .mv [t 3], o 12 (.bin .add) [t 11, i 1], o 3 .mv [t 12]]))
def k1_spec_l1Fits : Cd :=
  sq (r [2] [o 25 .mv [t 0], o 26 (.call 46) [t 25], o 27 (.bin .leq) [t 26, i 1000], o 2 .mv [t 27]])
  (.ret)
def c_spec_l1Fits : Cd :=
  sq (r [0] [o 2 .mv [b false]])
  (sq (sq (r [0, 6] [o 4 .mv [t 0], o 5 (.len false) [t 4], o 6 (.bin .gtr) [t 5, i 3]])
    (.cond (t 6) (sq (r [2] [o 2 .mv [b false]])
      (.ret)) (.skip)))
   (sq (sq (r [0, 3] [o 3 .mv [i 0]])
     (.block 0 (.loop [0, 3] b0_spec_l1Fits))) k1_spec_l1Fits))
def r_spec_l1Fits : List RV := [.tmp 2]
def spec_l1Fits_l0 (L_spec_l1Product : (List Int) → Option (Int)) : Nat → (List Int) → Int → Option (Bool)
  | 0, _, _ => none
  | m0 + 1, x0, x3 =>
    if x3 < (↑(List.length x0) : Int) then ((idx x0 x3).bind fun y0 =>
     if y0 < 0 then some false
     else ((idx x0 x3).bind fun y1 =>
      if 1000 < y1 then some false
      else spec_l1Fits_l0 L_spec_l1Product m0 x0 (w64 (x3 + 1))))
    else ((L_spec_l1Product x0).bind fun y2 =>
     some (Decidable.decide (y2 ≤ 1000)))
def spec_l1Fits_f (L_spec_l1Product : (List Int) → Option (Int)) (N : Nat) (a0 : List Int) : Option (Bool) :=
  if 3 < (↑(List.length a0) : Int) then some false
  else spec_l1Fits_l0 L_spec_l1Product N a0 0
theorem spec_l1Fits_l0_eq (E : En) (hy : Hy E [] [] [] r_spec_l1Fits none (fun y => nocap y) flatIds) (L_spec_l1Product : (List Int) → Option (Int)) (h_spec_l1Product : H_spec_l1Product E L_spec_l1Product) : ∀ (m0 : Nat) (x0 : List Int) (x3 : Int), gH E [0, 3] b0_spec_l1Fits [KJ.b 0, KJ.c k1_spec_l1Fits] m0 ⟨slotsOf [(0, .d (lstT (cI) x0)), (3, .d (.int .i64 x3))], obsOf []⟩ = (spec_l1Fits_l0 L_spec_l1Product m0 x0 x3).bind fun r => some (.ret (.d (.bool r)) []) := by
  intro m0
  induction m0 with
  | zero => intros; rfl
  | succ m0 ih =>
    intros
    simp (config := {maxSteps := 2000000}) only [↓rPre, rPost, rCan, rObj, rI, rS, rB, r8, rLI, rEtc, hy.p, hy.l, hy.k, hy.r, hy.d, hy.w, hy.f, flatIds, oid, r_spec_l1Fits, ↓G_unf _ _ b0_spec_l1Fits.eq_1, ↓G_unf _ _ k1_spec_l1Fits.eq_1, ↓G_unf _ _ c_spec_l1Fits.eq_1, h_spec_l1Product.2, h_spec_l1Product.1, gH_succ, ih, bind_ite, spec_l1Fits_l0, rRow3, rVerdict, rRow59, rOutcome, rRow72, rRow56, rRow74, rRow5, rRow9, rMap91, rLog, ↓reduceIte, Nat.reduceMul, Nat.reduceAdd, Nat.reduceSub, Nat.reduceEqDiff, Nat.reduceBEq, Nat.reduceLeDiff, Nat.reduceLT, reduceCtorEq, Int.reduceAdd, Int.reduceSub, Int.reduceToNat, Int.reduceNeg, Int.reduceEq, Int.reduceLT, Int.reduceLE]
theorem spec_l1Fits_g (E : En) (hy : Hy E [] [] [] r_spec_l1Fits none (fun y => nocap y) flatIds) (L_spec_l1Product : (List Int) → Option (Int)) (h_spec_l1Product : H_spec_l1Product E L_spec_l1Product) (a0 : List Int) : G E c_spec_l1Fits [] ⟨slotsOf [(0, .d (lstT cI a0))], obsOf []⟩ = (spec_l1Fits_f L_spec_l1Product E.n a0).bind fun r => some (.ret (.d (.bool r)) []) := by
  simp (config := {maxSteps := 2000000}) only [↓rPre, rPost, rCan, rObj, rI, rS, rB, r8, rLI, rEtc, hy.p, hy.l, hy.k, hy.r, hy.d, hy.w, hy.f, flatIds, oid, r_spec_l1Fits, ↓G_unf _ _ b0_spec_l1Fits.eq_1, ↓G_unf _ _ k1_spec_l1Fits.eq_1, ↓G_unf _ _ c_spec_l1Fits.eq_1, h_spec_l1Product.2, h_spec_l1Product.1, bind_ite, spec_l1Fits_f, spec_l1Fits_l0_eq E hy L_spec_l1Product h_spec_l1Product, rRow3, rVerdict, rRow59, rOutcome, rRow72, rRow56, rRow74, rRow5, rRow9, rMap91, rLog, ↓reduceIte, Nat.reduceMul, Nat.reduceAdd, Nat.reduceSub, Nat.reduceEqDiff, Nat.reduceBEq, Nat.reduceLeDiff, Nat.reduceLT, reduceCtorEq, Int.reduceAdd, Int.reduceSub, Int.reduceToNat, Int.reduceNeg, Int.reduceEq, Int.reduceLT, Int.reduceLE]
def H_spec_l1Fits (E : En) (L : (List Int) → Option (Bool)) : Prop := E.Γ.mu 45 = false ∧ (∀ (a0 : List Int), E.Γ 45 [.d (lstT cI a0)] = (L a0).bind fun r => some (.ret (.d (.bool r)) []))
-- loop.example/s02135/spec.ArrayOk
def b0_spec_ArrayOk : Cd :=
  sq (sq (r [1, 3, 21] [o 17 .mv [t 3], o 18 (.fa 1) [t 1], o 19 (.ld none) [t 18], o 20 (.len false) [t 19], o 21 (.bin .lss) [t 17, t 20]])
   (.cond (t 21) (.skip) (.exit 0)))
  (sq (.block 1 (sq (r [1, 3, 37] [o 24 (.fa 1) [t 1], o 25 (.ld none) [t 24], o 26 .mv [t 3], o 27 (.ia 1) [t 25, t 26], o 28 (.ld none) [t 27], o 29 (.bin .lss) [t 28, i (-3000000000)], o 30 .mv [t 29], g 30 false 31 (.fa 1) [t 1], g 30 false 32 (.ld none) [t 31], g 30 false 33 .mv [t 3], g 30 false 34 (.ia 1) [t 32, t 33], g 30 false 35 (.ld none) [t 34], g 30 false 36 (.bin .gtr) [t 35, i 3000000000], o 37 .pick [t 30, b true, t 36]])
     (.cond (t 37) (sq (r [2] [o 2 .mv [b false]])
       (.ret)) (.skip))))
   (r [1, 3] [o 22 .mv [t 3], o 23 (.bin .add) [t 22, i 1], o 3 .mv [t 23]]))
def k1_spec_ArrayOk : Cd :=
  sq (r [2] [o 2 .mv [b true]])
  (.ret)
def c_spec_ArrayOk : Cd :=
  sq (r [1] [o 1 .box [t 0], o 2 .mv [b false]])
  (sq (sq (rd [] [1, 16] [o 4 (.fa 0) [t 1], o 5 (.ld none) [t 4], o 6 (.call 45) [t 5], o 7 .not [t 6], o 8 .mv [t 7], g 8 false 9 (.fa 1) [t 1], g 8 false 10 (.ld none) [t 9], g 8 false 11 (.len false) [t 10], g 8 false 12 (.fa 0) [t 1], g 8 false 13 (.ld none) [t 12], ap [] false [1, 8, 9, 8, 10, 8] (g 8 false 14 (.call 46) [t 13]), g 8 false 15 (.bin .neq) [t 11, t 14], o 16 .pick [t 8, b true, t 15]])
    (.cond (t 16) (sq (r [2] [o 2 .mv [b false]])
      (.ret)) (.skip)))
   (sq (sq (r [1, 3] [o 3 .mv [i 0]])
     (.block 0 (.loop [1, 3] b0_spec_ArrayOk))) k1_spec_ArrayOk))
def r_spec_ArrayOk : List RV := [.tmp 2]
def spec_ArrayOk_l0 (L_spec_l1Fits : (List Int) → Option (Bool)) (L_spec_l1Product : (List Int) → Option (Int)) : Nat → Int → (List Int) → (List Int) → Option (Bool)
  | 0, _, _, _ => none
  | m0 + 1, x3, o64_0, o64_1 =>
    if x3 < (↑(List.length o64_1) : Int) then ((idx o64_1 x3).bind fun y0 =>
     if y0 < -3000000000 then some false
     else ((idx o64_1 x3).bind fun y1 =>
      if 3000000000 < y1 then some false
      else spec_ArrayOk_l0 L_spec_l1Fits L_spec_l1Product m0 (w64 (x3 + 1)) o64_0 o64_1))
    else some true
def spec_ArrayOk_f (L_spec_l1Fits : (List Int) → Option (Bool)) (L_spec_l1Product : (List Int) → Option (Int)) (N : Nat) (a0_Shape : List Int) (a0_Data : List Int) : Option (Bool) :=
  (L_spec_l1Fits a0_Shape).bind fun y0 =>
  if y0 = false then some false
  else ((L_spec_l1Product a0_Shape).bind fun y1 =>
   if (↑(List.length a0_Data) : Int) = y1 then spec_ArrayOk_l0 L_spec_l1Fits L_spec_l1Product N 0 a0_Shape a0_Data
   else some false)
theorem spec_ArrayOk_l0_eq (E : En) (hy : Hy E [] [] [] r_spec_ArrayOk none (fun y => nocap y) flatIds) (L_spec_l1Fits : (List Int) → Option (Bool)) (h_spec_l1Fits : H_spec_l1Fits E L_spec_l1Fits) (L_spec_l1Product : (List Int) → Option (Int)) (h_spec_l1Product : H_spec_l1Product E L_spec_l1Product) : ∀ (m0 : Nat) (x3 : Int) (o64_0 : List Int) (o64_1 : List Int), gH E [1, 3] b0_spec_ArrayOk [KJ.b 0, KJ.c k1_spec_ArrayOk] m0 ⟨slotsOf [(1, A.adr 64 1 0), (3, .d (.int .i64 x3))], obsOf [(64, ⟨1, .box [.d (lstT (cI) o64_0), .d (lstT (cI) o64_1)], false⟩)]⟩ = (spec_ArrayOk_l0 L_spec_l1Fits L_spec_l1Product m0 x3 o64_0 o64_1).bind fun r => some (.ret (.d (.bool r)) []) := by
  intro m0
  induction m0 with
  | zero => intros; rfl
  | succ m0 ih =>
    intros
    simp (config := {maxSteps := 2000000}) only [↓rPre, rPost, rCan, rObj, rI, rS, rB, r8, rLI, rEtc, hy.p, hy.l, hy.k, hy.r, hy.d, hy.w, hy.f, flatIds, oid, r_spec_ArrayOk, ↓G_unf _ _ b0_spec_ArrayOk.eq_1, ↓G_unf _ _ k1_spec_ArrayOk.eq_1, ↓G_unf _ _ c_spec_ArrayOk.eq_1, h_spec_l1Fits.2, h_spec_l1Fits.1, h_spec_l1Product.2, h_spec_l1Product.1, gH_succ, ih, bind_ite, spec_ArrayOk_l0, rRow3, rVerdict, rRow59, rOutcome, rRow72, rRow56, rRow74, rRow5, rRow9, rMap91, rLog, ↓reduceIte, Nat.reduceMul, Nat.reduceAdd, Nat.reduceSub, Nat.reduceEqDiff, Nat.reduceBEq, Nat.reduceLeDiff, Nat.reduceLT, reduceCtorEq, Int.reduceAdd, Int.reduceSub, Int.reduceToNat, Int.reduceNeg, Int.reduceEq, Int.reduceLT, Int.reduceLE]
theorem spec_ArrayOk_g (E : En) (hy : Hy E [] [] [] r_spec_ArrayOk none (fun y => nocap y) flatIds) (L_spec_l1Fits : (List Int) → Option (Bool)) (h_spec_l1Fits : H_spec_l1Fits E L_spec_l1Fits) (L_spec_l1Product : (List Int) → Option (Int)) (h_spec_l1Product : H_spec_l1Product E L_spec_l1Product) (a0_Shape : List Int) (a0_Data : List Int) : G E c_spec_ArrayOk [] ⟨slotsOf [(0, .agg [.d (lstT cI a0_Shape), .d (lstT cI a0_Data)])], obsOf []⟩ = (spec_ArrayOk_f L_spec_l1Fits L_spec_l1Product E.n a0_Shape a0_Data).bind fun r => some (.ret (.d (.bool r)) []) := by
  simp (config := {maxSteps := 2000000}) only [↓rPre, rPost, rCan, rObj, rI, rS, rB, r8, rLI, rEtc, hy.p, hy.l, hy.k, hy.r, hy.d, hy.w, hy.f, flatIds, oid, r_spec_ArrayOk, ↓G_unf _ _ b0_spec_ArrayOk.eq_1, ↓G_unf _ _ k1_spec_ArrayOk.eq_1, ↓G_unf _ _ c_spec_ArrayOk.eq_1, h_spec_l1Fits.2, h_spec_l1Fits.1, h_spec_l1Product.2, h_spec_l1Product.1, bind_ite, spec_ArrayOk_f, spec_ArrayOk_l0_eq E hy L_spec_l1Fits h_spec_l1Fits L_spec_l1Product h_spec_l1Product, rRow3, rVerdict, rRow59, rOutcome, rRow72, rRow56, rRow74, rRow5, rRow9, rMap91, rLog, ↓reduceIte, Nat.reduceMul, Nat.reduceAdd, Nat.reduceSub, Nat.reduceEqDiff, Nat.reduceBEq, Nat.reduceLeDiff, Nat.reduceLT, reduceCtorEq, Int.reduceAdd, Int.reduceSub, Int.reduceToNat, Int.reduceNeg, Int.reduceEq, Int.reduceLT, Int.reduceLE]
def H_spec_ArrayOk (E : En) (L : (List Int) → (List Int) → Option (Bool)) : Prop := E.Γ.mu 22 = false ∧ (∀ (a0_Shape : List Int) (a0_Data : List Int), E.Γ 22 [.agg [.d (lstT cI a0_Shape), .d (lstT cI a0_Data)]] = (L a0_Shape a0_Data).bind fun r => some (.ret (.d (.bool r)) []))
-- loop.example/s02135/spec.l1Dec
def c_spec_l1Dec : Cd :=
  sq (r [0] [o 2 .mv [s []]])
  (sq (sq (r [0, 4] [o 3 .mv [t 0], o 4 (.bin .lss) [t 3, i 0]])
    (.cond (t 4) (sq (r [2] [o 5 .mv [t 0], o 6 .neg [t 5], o 7 (.call 30) [t 6], o 8 (.bin .add) [s [45], t 7], o 2 .mv [t 8]])
      (.ret)) (.skip)))
   (sq (sq (r [0, 10] [o 9 .mv [t 0], o 10 (.bin .lss) [t 9, i 10]])
     (.cond (t 10) (sq (r [2] [o 11 .mv [t 0], o 12 (.bin .add) [i 48, t 11], o 13 (.cvt .u8) [t 12], o 14 (lit 5 1 1) [t 13], o 15 .b2s [t 14], o 2 .mv [t 15]])
       (.ret)) (.skip)))
    (sq (rd [] [2] [ap [1472] false [] (o 16 .mv [t 0]), ap [1472] false [] (o 17 (.bin .quo) [t 16, i 10]), o 19 .mv [t 0], o 20 (.bin .rem) [t 19, i 10], o 21 (.bin .add) [i 48, t 20], o 22 (.cvt .u8) [t 21], ap [] true [] (o 23 (lit 5 1 1) [t 22]), o 24 .b2s [t 23], ap [1472] false [23] (o 18 (.call 30) [t 17]), o 25 (.bin .add) [t 18, t 24], o 2 .mv [t 25]])
     (.ret))))
def r_spec_l1Dec : List RV := [.tmp 2]
def H_spec_l1Dec (E : En) (L : Int → Option (List UInt8)) : Prop := E.Γ.mu 30 = false ∧ (∀ (a0 : Int), E.Γ 30 [.d (.int .i64 a0)] = (L a0).bind fun r => some (.ret (.d (sD r)) []))
def spec_l1Dec_f (L_spec_l1Dec : Int → Option (List UInt8)) (N : Nat) (a0 : Int) : Option (List UInt8) :=
  if a0 < 0 then ((L_spec_l1Dec (w64 (0 - a0))).bind fun y0 =>
   if roomS (List.length y0 + 1) then some (45 :: y0)
   else none)
  else (if a0 < 10 then some (bytes8 [Go.IntKind.wrap .u8 (w64 (48 + a0))])
   else ((L_spec_l1Dec (w64 (Int.tdiv a0 10))).bind fun y1 =>
    if roomS (List.length (y1 ++ bytes8 [Go.IntKind.wrap .u8 (w64 (48 + Int.tmod a0 10))])) then some (y1 ++ bytes8 [Go.IntKind.wrap .u8 (w64 (48 + Int.tmod a0 10))])
    else none))
theorem spec_l1Dec_g (E : En) (hy : Hy E [] [] [] r_spec_l1Dec none (fun y => nocap y) flatIds) (L_spec_l1Dec : Int → Option (List UInt8)) (h_spec_l1Dec : H_spec_l1Dec E L_spec_l1Dec) (a0 : Int) : G E c_spec_l1Dec [] ⟨slotsOf [(0, .d (.int .i64 a0))], obsOf []⟩ = (spec_l1Dec_f L_spec_l1Dec E.n a0).bind fun r => some (.ret (.d (sD r)) []) := by
  simp (config := {maxSteps := 2000000}) only [↓rPre, rPost, rCan, rObj, rI, rS, rB, r8, rLI, rEtc, hy.p, hy.l, hy.k, hy.r, hy.d, hy.w, hy.f, flatIds, oid, r_spec_l1Dec, ↓G_unf _ _ c_spec_l1Dec.eq_1, h_spec_l1Dec.2, h_spec_l1Dec.1, bind_ite, spec_l1Dec_f, rRow3, rVerdict, rRow59, rOutcome, rRow72, rRow56, rRow74, rRow5, rRow9, rMap91, rLog, ↓reduceIte, Nat.reduceMul, Nat.reduceAdd, Nat.reduceSub, Nat.reduceEqDiff, Nat.reduceBEq, Nat.reduceLeDiff, Nat.reduceLT, reduceCtorEq, Int.reduceAdd, Int.reduceSub, Int.reduceToNat, Int.reduceNeg, Int.reduceEq, Int.reduceLT, Int.reduceLE]
-- loop.example/s02135/spec.l1Join
def b0_spec_l1Join : Cd :=
  sq (sq (r [0, 3, 4, 9] [o 6 .mv [t 4], o 7 .mv [t 0], o 8 (.len false) [t 7], o 9 (.bin .lss) [t 6, t 8]])
   (.cond (t 9) (.skip) (.exit 0)))
  (sq (.block 1 (sq (sq (r [0, 3, 4, 13] [o 12 .mv [t 4], o 13 (.bin .gtr) [t 12, i 0]])
      (.cond (t 13) (r [0, 3, 4] [o 14 .mv [t 3], o 15 (lit 5 1 1) [.k (.d (.int .u8 32))], o 16 (.app 5 1 1) [t 14, t 15], o 3 .mv [t 16]]) (.skip)))
     (r [0, 3, 4] [o 17 .mv [t 3], o 18 .mv [t 0], o 19 .mv [t 4], o 20 (.ia 1) [t 18, t 19], o 21 (.ld none) [t 20], o 22 (.call 30) [t 21], o 23 (.s2b 5) [t 22], o 24 (.app 5 1 1) [t 17, t 23], o 3 .mv [t 24]])))
   (r [0, 3, 4] [o 10 .mv [t 4], o 11 (.bin .add) [t 10, i 1], o 4 .mv [t 11]]))
def k1_spec_l1Join : Cd :=
  sq (r [2] [o 25 .mv [t 3], o 26 .b2s [t 25], o 2 .mv [t 26]])
  (.ret)
def c_spec_l1Join : Cd :=
  sq (r [0] [o 2 .mv [s []]])
  (sq (r [0, 3] [o 5 (lit 5 1 0) [], o 3 .mv [t 5]])
   (sq (sq (r [0, 3, 4] [o 4 .mv [i 0]])
     (.block 0 (.loop [0, 3, 4] b0_spec_l1Join))) k1_spec_l1Join))
def r_spec_l1Join : List RV := [.tmp 2]
def spec_l1Join_l0 (L_spec_l1Dec : Int → Option (List UInt8)) : Nat → (List Int) → Int → (List Int) → Option (List UInt8)
  | 0, _, _, _ => none
  | m0 + 1, x0, x4, o192 =>
    if x4 < (↑(List.length x0) : Int) then (if 0 < x4 then (if room 1 (List.length (o192 ++ [32])) then ((idx x0 x4).bind fun y0 =>
       (L_spec_l1Dec y0).bind fun y1 =>
       if room 1 (List.length (o192 ++ [32] ++ ofBytes y1)) then spec_l1Join_l0 L_spec_l1Dec m0 x0 (w64 (x4 + 1)) (o192 ++ [32] ++ ofBytes y1)
       else none)
      else none)
     else ((idx x0 x4).bind fun y2 =>
      (L_spec_l1Dec y2).bind fun y3 =>
      if room 1 (List.length (o192 ++ ofBytes y3)) then spec_l1Join_l0 L_spec_l1Dec m0 x0 (w64 (x4 + 1)) (o192 ++ ofBytes y3)
      else none))
    else some (bytes8 o192)
def spec_l1Join_f (L_spec_l1Dec : Int → Option (List UInt8)) (N : Nat) (a0 : List Int) : Option (List UInt8) :=
  spec_l1Join_l0 L_spec_l1Dec N a0 0 []
theorem spec_l1Join_l0_eq (E : En) (hy : Hy E [] [] [] r_spec_l1Join none (fun y => nocap y) flatIds) (L_spec_l1Dec : Int → Option (List UInt8)) (h_spec_l1Dec : H_spec_l1Dec E L_spec_l1Dec) : ∀ (m0 : Nat) (x0 : List Int) (x4 : Int) (o192 : List Int), gH E [0, 3, 4] b0_spec_l1Join [KJ.b 0, KJ.c k1_spec_l1Join] m0 ⟨slotsOf [(0, .d (lstT (cI) x0)), (3, A.row 192 1), (4, .d (.int .i64 x4))], obsOf [(192, ⟨1, rowT (c8) 5 none o192, false⟩)]⟩ = (spec_l1Join_l0 L_spec_l1Dec m0 x0 x4 o192).bind fun r => some (.ret (.d (sD r)) []) := by
  intro m0
  induction m0 with
  | zero => intros; rfl
  | succ m0 ih =>
    intros
    simp (config := {maxSteps := 2000000}) only [↓rPre, rPost, rCan, rObj, rI, rS, rB, r8, rLI, rEtc, hy.p, hy.l, hy.k, hy.r, hy.d, hy.w, hy.f, flatIds, oid, r_spec_l1Join, ↓G_unf _ _ b0_spec_l1Join.eq_1, ↓G_unf _ _ k1_spec_l1Join.eq_1, ↓G_unf _ _ c_spec_l1Join.eq_1, h_spec_l1Dec.2, h_spec_l1Dec.1, gH_succ, ih, bind_ite, spec_l1Join_l0, rRow3, rVerdict, rRow59, rOutcome, rRow72, rRow56, rRow74, rRow5, rRow9, rMap91, rLog, ↓reduceIte, Nat.reduceMul, Nat.reduceAdd, Nat.reduceSub, Nat.reduceEqDiff, Nat.reduceBEq, Nat.reduceLeDiff, Nat.reduceLT, reduceCtorEq, Int.reduceAdd, Int.reduceSub, Int.reduceToNat, Int.reduceNeg, Int.reduceEq, Int.reduceLT, Int.reduceLE]
theorem spec_l1Join_g (E : En) (hy : Hy E [] [] [] r_spec_l1Join none (fun y => nocap y) flatIds) (L_spec_l1Dec : Int → Option (List UInt8)) (h_spec_l1Dec : H_spec_l1Dec E L_spec_l1Dec) (a0 : List Int) : G E c_spec_l1Join [] ⟨slotsOf [(0, .d (lstT cI a0))], obsOf []⟩ = (spec_l1Join_f L_spec_l1Dec E.n a0).bind fun r => some (.ret (.d (sD r)) []) := by
  simp (config := {maxSteps := 2000000}) only [↓rPre, rPost, rCan, rObj, rI, rS, rB, r8, rLI, rEtc, hy.p, hy.l, hy.k, hy.r, hy.d, hy.w, hy.f, flatIds, oid, r_spec_l1Join, ↓G_unf _ _ b0_spec_l1Join.eq_1, ↓G_unf _ _ k1_spec_l1Join.eq_1, ↓G_unf _ _ c_spec_l1Join.eq_1, h_spec_l1Dec.2, h_spec_l1Dec.1, bind_ite, spec_l1Join_f, spec_l1Join_l0_eq E hy L_spec_l1Dec h_spec_l1Dec, rRow3, rVerdict, rRow59, rOutcome, rRow72, rRow56, rRow74, rRow5, rRow9, rMap91, rLog, ↓reduceIte, Nat.reduceMul, Nat.reduceAdd, Nat.reduceSub, Nat.reduceEqDiff, Nat.reduceBEq, Nat.reduceLeDiff, Nat.reduceLT, reduceCtorEq, Int.reduceAdd, Int.reduceSub, Int.reduceToNat, Int.reduceNeg, Int.reduceEq, Int.reduceLT, Int.reduceLE]
def H_spec_l1Join (E : En) (L : (List Int) → Option (List UInt8)) : Prop := E.Γ.mu 23 = false ∧ (∀ (a0 : List Int), E.Γ 23 [.d (lstT cI a0)] = (L a0).bind fun r => some (.ret (.d (sD r)) []))
-- loop.example/s02135/spec.ArrayText
def c_spec_ArrayText : Cd :=
  sq (r [1] [o 1 .box [t 0], o 2 .mv [s []], o 3 .mv [b false]])
  (sq (sq (r [1, 6] [o 4 (.ld (some 2)) [t 1], o 5 (.call 22) [t 4], o 6 .not [t 5]])
    (.cond (t 6) (sq (r [2, 3] [o 2 .mv [s []], o 3 .mv [b false]])
      (.ret)) (.skip)))
   (sq (rd [] [2, 3] [o 7 (.fa 0) [t 1], o 8 (.ld none) [t 7], o 11 (.fa 1) [t 1], o 12 (.ld none) [t 11], ap [] false [1, 11] (o 9 (.call 23) [t 8]), o 10 (.bin .add) [t 9, s [58]], o 13 (.call 23) [t 12], o 14 (.bin .add) [t 10, t 13], o 2 .mv [t 14], o 3 .mv [b true]])
    (.ret)))
def r_spec_ArrayText : List RV := [.tmp 2, .tmp 3]
def spec_ArrayText_f (L_spec_ArrayOk : (List Int) → (List Int) → Option (Bool)) (L_spec_l1Join : (List Int) → Option (List UInt8)) (N : Nat) (a0_Shape : List Int) (a0_Data : List Int) : Option (List UInt8 × Bool) :=
  (L_spec_ArrayOk a0_Shape a0_Data).bind fun y0 =>
  if y0 = false then some (([], false))
  else ((L_spec_l1Join a0_Shape).bind fun y1 =>
   if roomS (List.length (y1 ++ [58])) then ((L_spec_l1Join a0_Data).bind fun y2 =>
    if roomS (List.length (y1 ++ [58] ++ y2)) then some ((y1 ++ [58] ++ y2, true))
    else none)
   else none)
theorem spec_ArrayText_g (E : En) (hy : Hy E [] [] [] r_spec_ArrayText none (fun y => nocap y) flatIds) (L_spec_ArrayOk : (List Int) → (List Int) → Option (Bool)) (h_spec_ArrayOk : H_spec_ArrayOk E L_spec_ArrayOk) (L_spec_l1Join : (List Int) → Option (List UInt8)) (h_spec_l1Join : H_spec_l1Join E L_spec_l1Join) (a0_Shape : List Int) (a0_Data : List Int) : G E c_spec_ArrayText [] ⟨slotsOf [(0, .agg [.d (lstT cI a0_Shape), .d (lstT cI a0_Data)])], obsOf []⟩ = (spec_ArrayText_f L_spec_ArrayOk L_spec_l1Join E.n a0_Shape a0_Data).bind fun r => some (.ret (.tup [.d (sD r.1), .d (.bool r.2)]) []) := by
  simp (config := {maxSteps := 2000000}) only [↓rPre, rPost, rCan, rObj, rI, rS, rB, r8, rLI, rEtc, hy.p, hy.l, hy.k, hy.r, hy.d, hy.w, hy.f, flatIds, oid, r_spec_ArrayText, ↓G_unf _ _ c_spec_ArrayText.eq_1, h_spec_ArrayOk.2, h_spec_ArrayOk.1, h_spec_l1Join.2, h_spec_l1Join.1, bind_ite, spec_ArrayText_f, rRow3, rVerdict, rRow59, rOutcome, rRow72, rRow56, rRow74, rRow5, rRow9, rMap91, rLog, ↓reduceIte, Nat.reduceMul, Nat.reduceAdd, Nat.reduceSub, Nat.reduceEqDiff, Nat.reduceBEq, Nat.reduceLeDiff, Nat.reduceLT, reduceCtorEq, Int.reduceAdd, Int.reduceSub, Int.reduceToNat, Int.reduceNeg, Int.reduceEq, Int.reduceLT, Int.reduceLE]
def H_spec_ArrayText (E : En) (L : (List Int) → (List Int) → Option (List UInt8 × Bool)) : Prop := E.Γ.mu 7 = false ∧ (∀ (a0_Shape : List Int) (a0_Data : List Int), E.Γ 7 [.agg [.d (lstT cI a0_Shape), .d (lstT cI a0_Data)]] = (L a0_Shape a0_Data).bind fun r => some (.ret (.tup [.d (sD r.1), .d (.bool r.2)]) []))
-- loop.example/s02135/impl.cellsOf
def b0_impl_cellsOf : Cd :=
  sq (r [4, 10, 11, 12, 13] [o 13 (.bin .lss) [t 12, t 11]])
  (sq (.cond (t 13) (.skip) (.exit 0))
   (sq (.block 1 (sq (r [4, 6, 10, 11, 12] [o 14 (.ia 1) [t 10, t 12], o 15 (.ld none) [t 14], o 6 .mv [t 15]])
      (sq (sq (r [4, 6, 10, 11, 12, 21] [o 16 .mv [t 6], o 17 (.bin .lss) [t 16, i 0], o 18 .mv [t 17], g 18 false 19 .mv [t 6], g 18 false 20 (.bin .gtr) [t 19, i 1000], o 21 .pick [t 18, b true, t 20]])
        (.cond (t 21) (sq (r [2, 3] [o 2 .mv [i 0], o 3 .mv [b false]])
          (.ret)) (.skip)))
       (r [4, 10, 11, 12] [o 22 .mv [t 4], o 23 .mv [t 6], o 24 (.bin .mul) [t 22, t 23], o 4 .mv [t 24]]))))
    (r [4, 10, 11, 12] [o 25 (.bin .add) [t 12, i 1], o 12 .mv [t 25]])))
def k1_impl_cellsOf : Cd :=
  sq (r [2, 3] [o 26 .mv [t 4], o 27 .mv [t 4], o 28 (.bin .leq) [t 27, i 1000], o 2 .mv [t 26], o 3 .mv [t 28]])
  (.ret)
def c_impl_cellsOf : Cd :=
  sq (r [0] [o 2 .mv [i 0], o 3 .mv [b false]])
  (sq (sq (r [0, 9] [o 7 .mv [t 0], o 8 (.len false) [t 7], o 9 (.bin .gtr) [t 8, i 3]])
    (.cond (t 9) (sq (r [2, 3] [o 2 .mv [i 0], o 3 .mv [b false]])
      (.ret)) (.skip)))
   (sq (r [0, 4] [o 4 .mv [i 1]])
    (sq (sq (r [4, 10, 11, 12] [o 10 .mv [t 0], o 11 (.len false) [t 10], o 12 .mv [i 0]])
      (.block 0 (.loop [4, 10, 11, 12] b0_impl_cellsOf))) k1_impl_cellsOf)))
def r_impl_cellsOf : List RV := [.tmp 2, .tmp 3]
def impl_cellsOf_l0 : Nat → Int → (List Int) → Int → Int → Option (Int × Bool)
  | 0, _, _, _, _ => none
  | m0 + 1, x4, x10, x11, x12 =>
    if x12 < x11 then ((idx x10 x12).bind fun y0 =>
     if y0 < 0 then some ((0, false))
     else (if 1000 < y0 then some ((0, false))
      else impl_cellsOf_l0 m0 (w64 (x4 * y0)) x10 x11 (w64 (x12 + 1))))
    else some ((x4, Decidable.decide (x4 ≤ 1000)))
def impl_cellsOf_f (N : Nat) (a0 : List Int) : Option (Int × Bool) :=
  if 3 < (↑(List.length a0) : Int) then some ((0, false))
  else impl_cellsOf_l0 N 1 a0 ((↑(List.length a0) : Int)) 0
theorem impl_cellsOf_l0_eq (E : En) (hy : Hy E [] [] [] r_impl_cellsOf none (fun y => nocap y) flatIds) : ∀ (m0 : Nat) (x4 : Int) (x10 : List Int) (x11 : Int) (x12 : Int), gH E [4, 10, 11, 12] b0_impl_cellsOf [KJ.b 0, KJ.c k1_impl_cellsOf] m0 ⟨slotsOf [(4, .d (.int .i64 x4)), (10, .d (lstT (cI) x10)), (11, .d (.int .i64 x11)), (12, .d (.int .i64 x12))], obsOf []⟩ = (impl_cellsOf_l0 m0 x4 x10 x11 x12).bind fun r => some (.ret (.tup [.d (.int .i64 r.1), .d (.bool r.2)]) []) := by
  intro m0
  induction m0 with
  | zero => intros; rfl
  | succ m0 ih =>
    intros
    simp (config := {maxSteps := 2000000}) only [↓rPre, rPost, rCan, rObj, rI, rS, rB, r8, rLI, rEtc, hy.p, hy.l, hy.k, hy.r, hy.d, hy.w, hy.f, flatIds, oid, r_impl_cellsOf, ↓G_unf _ _ b0_impl_cellsOf.eq_1, ↓G_unf _ _ k1_impl_cellsOf.eq_1, ↓G_unf _ _ c_impl_cellsOf.eq_1, gH_succ, ih, bind_ite, impl_cellsOf_l0, rRow3, rVerdict, rRow59, rOutcome, rRow72, rRow56, rRow74, rRow5, rRow9, rMap91, rLog, ↓reduceIte, Nat.reduceMul, Nat.reduceAdd, Nat.reduceSub, Nat.reduceEqDiff, Nat.reduceBEq, Nat.reduceLeDiff, Nat.reduceLT, reduceCtorEq, Int.reduceAdd, Int.reduceSub, Int.reduceToNat, Int.reduceNeg, Int.reduceEq, Int.reduceLT, Int.reduceLE]
theorem impl_cellsOf_g (E : En) (hy : Hy E [] [] [] r_impl_cellsOf none (fun y => nocap y) flatIds) (a0 : List Int) : G E c_impl_cellsOf [] ⟨slotsOf [(0, .d (lstT cI a0))], obsOf []⟩ = (impl_cellsOf_f E.n a0).bind fun r => some (.ret (.tup [.d (.int .i64 r.1), .d (.bool r.2)]) []) := by
  simp (config := {maxSteps := 2000000}) only [↓rPre, rPost, rCan, rObj, rI, rS, rB, r8, rLI, rEtc, hy.p, hy.l, hy.k, hy.r, hy.d, hy.w, hy.f, flatIds, oid, r_impl_cellsOf, ↓G_unf _ _ b0_impl_cellsOf.eq_1, ↓G_unf _ _ k1_impl_cellsOf.eq_1, ↓G_unf _ _ c_impl_cellsOf.eq_1, bind_ite, impl_cellsOf_f, impl_cellsOf_l0_eq E hy, rRow3, rVerdict, rRow59, rOutcome, rRow72, rRow56, rRow74, rRow5, rRow9, rMap91, rLog, ↓reduceIte, Nat.reduceMul, Nat.reduceAdd, Nat.reduceSub, Nat.reduceEqDiff, Nat.reduceBEq, Nat.reduceLeDiff, Nat.reduceLT, reduceCtorEq, Int.reduceAdd, Int.reduceSub, Int.reduceToNat, Int.reduceNeg, Int.reduceEq, Int.reduceLT, Int.reduceLE]
def H_impl_cellsOf (E : En) (L : (List Int) → Option (Int × Bool)) : Prop := E.Γ.mu 47 = false ∧ (∀ (a0 : List Int), E.Γ 47 [.d (lstT cI a0)] = (L a0).bind fun r => some (.ret (.tup [.d (.int .i64 r.1), .d (.bool r.2)]) []))
-- loop.example/s02135/impl.ArrayOk
def b0_impl_ArrayOk : Cd :=
  sq (r [23, 24, 25, 26] [o 26 (.bin .lss) [t 25, t 24]])
  (sq (.cond (t 26) (.skip) (.exit 0))
   (sq (.block 1 (sq (r [6, 23, 24, 25] [o 27 (.ia 1) [t 23, t 25], o 28 (.ld none) [t 27], o 6 .mv [t 28]])
      (sq (r [23, 24, 25, 34] [o 29 .mv [t 6], o 30 (.bin .lss) [t 29, i (-3000000000)], o 31 .mv [t 30], g 31 false 32 .mv [t 6], g 31 false 33 (.bin .gtr) [t 32, i 3000000000], o 34 .pick [t 31, b true, t 33]])
       (.cond (t 34) (sq (r [2] [o 2 .mv [b false]])
         (.ret)) (.skip)))))
    (r [23, 24, 25] [o 35 (.bin .add) [t 25, i 1], o 25 .mv [t 35]])))
def k1_impl_ArrayOk : Cd :=
  sq (r [2] [o 2 .mv [b true]])
  (.ret)
def c_impl_ArrayOk : Cd :=
  sq (r [1] [o 1 .box [t 0], o 2 .mv [b false]])
  (sq (r [1, 3, 4] [o 8 (.fa 0) [t 1], o 9 (.ld none) [t 8], o 10 (.call 47) [t 9], o 7 .mv [t 10], o 11 (.ext 0) [t 7], o 12 (.ext 1) [t 7], o 3 .mv [t 11], o 4 .mv [t 12]])
   (sq (sq (r [1, 21] [o 13 .mv [t 4], o 14 .not [t 13], o 15 .mv [t 14], g 15 false 16 .mv [t 3], g 15 false 17 (.fa 1) [t 1], g 15 false 18 (.ld none) [t 17], g 15 false 19 (.len false) [t 18], g 15 false 20 (.bin .neq) [t 16, t 19], o 21 .pick [t 15, b true, t 20]])
     (.cond (t 21) (sq (r [2] [o 2 .mv [b false]])
       (.ret)) (.skip)))
    (sq (sq (r [23, 24, 25] [o 22 (.fa 1) [t 1], o 23 (.ld none) [t 22], o 24 (.len false) [t 23], o 25 .mv [i 0]])
      (.block 0 (.loop [23, 24, 25] b0_impl_ArrayOk))) k1_impl_ArrayOk)))
def r_impl_ArrayOk : List RV := [.tmp 2]
def impl_ArrayOk_l0 (L_impl_cellsOf : (List Int) → Option (Int × Bool)) : Nat → (List Int) → Int → Int → Option (Bool)
  | 0, _, _, _ => none
  | m0 + 1, x23, x24, x25 =>
    if x25 < x24 then ((idx x23 x25).bind fun y0 =>
     if y0 < -3000000000 then some false
     else (if 3000000000 < y0 then some false
      else impl_ArrayOk_l0 L_impl_cellsOf m0 x23 x24 (w64 (x25 + 1))))
    else some true
def impl_ArrayOk_f (L_impl_cellsOf : (List Int) → Option (Int × Bool)) (N : Nat) (a0_Shape : List Int) (a0_Data : List Int) : Option (Bool) :=
  (L_impl_cellsOf a0_Shape).bind fun y0 =>
  if y0.snd = false then some false
  else (if y0.fst = (↑(List.length a0_Data) : Int) then impl_ArrayOk_l0 L_impl_cellsOf N a0_Data ((↑(List.length a0_Data) : Int)) 0
   else some false)
theorem impl_ArrayOk_l0_eq (E : En) (hy : Hy E [] [] [] r_impl_ArrayOk none (fun y => nocap y) flatIds) (L_impl_cellsOf : (List Int) → Option (Int × Bool)) (h_impl_cellsOf : H_impl_cellsOf E L_impl_cellsOf) : ∀ (m0 : Nat) (x23 : List Int) (x24 : Int) (x25 : Int), gH E [23, 24, 25] b0_impl_ArrayOk [KJ.b 0, KJ.c k1_impl_ArrayOk] m0 ⟨slotsOf [(23, .d (lstT (cI) x23)), (24, .d (.int .i64 x24)), (25, .d (.int .i64 x25))], obsOf []⟩ = (impl_ArrayOk_l0 L_impl_cellsOf m0 x23 x24 x25).bind fun r => some (.ret (.d (.bool r)) []) := by
  intro m0
  induction m0 with
  | zero => intros; rfl
  | succ m0 ih =>
    intros
    simp (config := {maxSteps := 2000000}) only [↓rPre, rPost, rCan, rObj, rI, rS, rB, r8, rLI, rEtc, hy.p, hy.l, hy.k, hy.r, hy.d, hy.w, hy.f, flatIds, oid, r_impl_ArrayOk, ↓G_unf _ _ b0_impl_ArrayOk.eq_1, ↓G_unf _ _ k1_impl_ArrayOk.eq_1, ↓G_unf _ _ c_impl_ArrayOk.eq_1, h_impl_cellsOf.2, h_impl_cellsOf.1, gH_succ, ih, bind_ite, impl_ArrayOk_l0, rRow3, rVerdict, rRow59, rOutcome, rRow72, rRow56, rRow74, rRow5, rRow9, rMap91, rLog, ↓reduceIte, Nat.reduceMul, Nat.reduceAdd, Nat.reduceSub, Nat.reduceEqDiff, Nat.reduceBEq, Nat.reduceLeDiff, Nat.reduceLT, reduceCtorEq, Int.reduceAdd, Int.reduceSub, Int.reduceToNat, Int.reduceNeg, Int.reduceEq, Int.reduceLT, Int.reduceLE]
theorem impl_ArrayOk_g (E : En) (hy : Hy E [] [] [] r_impl_ArrayOk none (fun y => nocap y) flatIds) (L_impl_cellsOf : (List Int) → Option (Int × Bool)) (h_impl_cellsOf : H_impl_cellsOf E L_impl_cellsOf) (a0_Shape : List Int) (a0_Data : List Int) : G E c_impl_ArrayOk [] ⟨slotsOf [(0, .agg [.d (lstT cI a0_Shape), .d (lstT cI a0_Data)])], obsOf []⟩ = (impl_ArrayOk_f L_impl_cellsOf E.n a0_Shape a0_Data).bind fun r => some (.ret (.d (.bool r)) []) := by
  simp (config := {maxSteps := 2000000}) only [↓rPre, rPost, rCan, rObj, rI, rS, rB, r8, rLI, rEtc, hy.p, hy.l, hy.k, hy.r, hy.d, hy.w, hy.f, flatIds, oid, r_impl_ArrayOk, ↓G_unf _ _ b0_impl_ArrayOk.eq_1, ↓G_unf _ _ k1_impl_ArrayOk.eq_1, ↓G_unf _ _ c_impl_ArrayOk.eq_1, h_impl_cellsOf.2, h_impl_cellsOf.1, bind_ite, impl_ArrayOk_f, impl_ArrayOk_l0_eq E hy L_impl_cellsOf h_impl_cellsOf, rRow3, rVerdict, rRow59, rOutcome, rRow72, rRow56, rRow74, rRow5, rRow9, rMap91, rLog, ↓reduceIte, Nat.reduceMul, Nat.reduceAdd, Nat.reduceSub, Nat.reduceEqDiff, Nat.reduceBEq, Nat.reduceLeDiff, Nat.reduceLT, reduceCtorEq, Int.reduceAdd, Int.reduceSub, Int.reduceToNat, Int.reduceNeg, Int.reduceEq, Int.reduceLT, Int.reduceLE]
def H_impl_ArrayOk (E : En) (L : (List Int) → (List Int) → Option (Bool)) : Prop := E.Γ.mu 25 = false ∧ (∀ (a0_Shape : List Int) (a0_Data : List Int), E.Γ 25 [.agg [.d (lstT cI a0_Shape), .d (lstT cI a0_Data)]] = (L a0_Shape a0_Data).bind fun r => some (.ret (.d (.bool r)) []))
-- (*strings.Builder).WriteByte
def H___strings_Builder__WriteByte (E : En) (L : Nat → (List UInt8) → Int → Option (List UInt8)) : Prop := E.Γ.mu 48 = false ∧ (∀ (T : Nat) (b : List UInt8) (a1 : Int), E.Γ 48 [.res (.bld T 5) (sD b), .d (.int .u8 a1)] = (L T b a1).bind fun r => some (.ret (.d .nili) [[sD r]]))
-- strconv.Itoa
def H_strconv_Itoa (E : En) (L : Int → Option (List UInt8)) : Prop := E.Γ.mu 37 = false ∧ (∀ (a0 : Int), E.Γ 37 [.d (.int .i64 a0)] = (L a0).bind fun r => some (.ret (.d (sD r)) []))
-- (*strings.Builder).WriteString
def H___strings_Builder__WriteString (E : En) (L : Nat → (List UInt8) → (List UInt8) → Option (Int × List UInt8)) : Prop := E.Γ.mu 49 = false ∧ (∀ (T : Nat) (b : List UInt8) (a1 : List UInt8), E.Γ 49 [.res (.bld T 5) (sD b), .d (sD a1)] = (L T b a1).bind fun r => some (.ret (.tup [.d (.int .i64 r.1), .d .nili]) [[sD r.2]]))
-- (*strings.Builder).String
def H___strings_Builder__String (E : En) (L : Nat → (List UInt8) → Option (List UInt8 × List UInt8)) : Prop := E.Γ.mu 39 = false ∧ (∀ (T : Nat) (b : List UInt8), E.Γ 39 [.res (.bld T 5) (sD b)] = (L T b).bind fun r => some (.ret (.d (sD r.1)) [[sD r.2]]))
-- loop.example/s02135/impl.joined
def b0_impl_joined : Cd :=
  sq (r [3, 6, 7, 8, 9] [o 9 (.bin .lss) [t 8, t 7]])
  (sq (.cond (t 9) (.skip) (.exit 0))
   (sq (.block 1 (sq (r [3, 4, 5, 6, 7, 8] [o 10 .mv [t 8], o 11 (.ia 1) [t 6, t 8], o 12 (.ld none) [t 11], o 4 .mv [t 10], o 5 .mv [t 12]])
      (sq (sq (r [3, 5, 6, 7, 8, 14] [o 13 .mv [t 4], o 14 (.bin .gtr) [t 13, i 0]])
        (.cond (t 14) (r [3, 5, 6, 7, 8] [o 15 (.call 48) [t 3, .k (.d (.int .u8 32))]]) (.skip)))
       (r [3, 6, 7, 8] [o 16 .mv [t 5], o 17 (.call 37) [t 16], o 18 (.call 49) [t 3, t 17]]))))
    (r [3, 6, 7, 8] [o 19 (.bin .add) [t 8, i 1], o 8 .mv [t 19]])))
def k1_impl_joined : Cd :=
  sq (r [2] [o 20 (.call 39) [t 3], o 2 .mv [t 20]])
  (.ret)
def c_impl_joined : Cd :=
  sq (r [0] [o 2 .mv [s []]])
  (sq (r [0, 3] [o 3 (.mkR (.bld 63 5)) []])
   (sq (sq (r [3, 6, 7, 8] [o 6 .mv [t 0], o 7 (.len false) [t 6], o 8 .mv [i 0]])
     (.block 0 (.loop [3, 6, 7, 8] b0_impl_joined))) k1_impl_joined))
def r_impl_joined : List RV := [.tmp 2]
def impl_joined_l0 (L___strings_Builder__WriteByte : Nat → (List UInt8) → Int → Option (List UInt8)) (L_strconv_Itoa : Int → Option (List UInt8)) (L___strings_Builder__WriteString : Nat → (List UInt8) → (List UInt8) → Option (Int × List UInt8)) (L___strings_Builder__String : Nat → (List UInt8) → Option (List UInt8 × List UInt8)) : Nat → (List Int) → Int → Int → (List UInt8) → Option (List UInt8)
  | 0, _, _, _, _ => none
  | m0 + 1, x6, x7, x8, o192 =>
    if x8 < x7 then ((idx x6 x8).bind fun y0 =>
     if 0 < x8 then ((L___strings_Builder__WriteByte 63 o192 32).bind fun y1 =>
      (L_strconv_Itoa y0).bind fun y2 =>
      (L___strings_Builder__WriteString 63 y1 y2).bind fun y3 =>
      impl_joined_l0 L___strings_Builder__WriteByte L_strconv_Itoa L___strings_Builder__WriteString L___strings_Builder__String m0 x6 x7 (w64 (x8 + 1)) y3.snd)
     else ((L_strconv_Itoa y0).bind fun y4 =>
      (L___strings_Builder__WriteString 63 o192 y4).bind fun y5 =>
      impl_joined_l0 L___strings_Builder__WriteByte L_strconv_Itoa L___strings_Builder__WriteString L___strings_Builder__String m0 x6 x7 (w64 (x8 + 1)) y5.snd))
    else ((L___strings_Builder__String 63 o192).bind fun y6 =>
     some y6.fst)
def impl_joined_f (L___strings_Builder__WriteByte : Nat → (List UInt8) → Int → Option (List UInt8)) (L_strconv_Itoa : Int → Option (List UInt8)) (L___strings_Builder__WriteString : Nat → (List UInt8) → (List UInt8) → Option (Int × List UInt8)) (L___strings_Builder__String : Nat → (List UInt8) → Option (List UInt8 × List UInt8)) (N : Nat) (a0 : List Int) : Option (List UInt8) :=
  impl_joined_l0 L___strings_Builder__WriteByte L_strconv_Itoa L___strings_Builder__WriteString L___strings_Builder__String N a0 ((↑(List.length a0) : Int)) 0 []
theorem impl_joined_l0_eq (E : En) (hy : Hy E [] [] [] r_impl_joined none (fun y => nocap y) flatIds) (L___strings_Builder__WriteByte : Nat → (List UInt8) → Int → Option (List UInt8)) (h___strings_Builder__WriteByte : H___strings_Builder__WriteByte E L___strings_Builder__WriteByte) (L_strconv_Itoa : Int → Option (List UInt8)) (h_strconv_Itoa : H_strconv_Itoa E L_strconv_Itoa) (L___strings_Builder__WriteString : Nat → (List UInt8) → (List UInt8) → Option (Int × List UInt8)) (h___strings_Builder__WriteString : H___strings_Builder__WriteString E L___strings_Builder__WriteString) (L___strings_Builder__String : Nat → (List UInt8) → Option (List UInt8 × List UInt8)) (h___strings_Builder__String : H___strings_Builder__String E L___strings_Builder__String) : ∀ (m0 : Nat) (x6 : List Int) (x7 : Int) (x8 : Int) (o192 : List UInt8), gH E [3, 6, 7, 8] b0_impl_joined [KJ.b 0, KJ.c k1_impl_joined] m0 ⟨slotsOf [(3, A.row 192 1), (6, .d (lstT (cI) x6)), (7, .d (.int .i64 x7)), (8, .d (.int .i64 x8))], obsOf [(192, ⟨1, .res (.bld 63 5) (sD o192), false⟩)]⟩ = (impl_joined_l0 L___strings_Builder__WriteByte L_strconv_Itoa L___strings_Builder__WriteString L___strings_Builder__String m0 x6 x7 x8 o192).bind fun r => some (.ret (.d (sD r)) []) := by
  intro m0
  induction m0 with
  | zero => intros; rfl
  | succ m0 ih =>
    intros
    simp (config := {maxSteps := 2000000}) only [↓rPre, rPost, rCan, rObj, rI, rS, rB, r8, rLI, rEtc, hy.p, hy.l, hy.k, hy.r, hy.d, hy.w, hy.f, flatIds, oid, r_impl_joined, ↓G_unf _ _ b0_impl_joined.eq_1, ↓G_unf _ _ k1_impl_joined.eq_1, ↓G_unf _ _ c_impl_joined.eq_1, h___strings_Builder__WriteByte.2, h___strings_Builder__WriteByte.1, h_strconv_Itoa.2, h_strconv_Itoa.1, h___strings_Builder__WriteString.2, h___strings_Builder__WriteString.1, h___strings_Builder__String.2, h___strings_Builder__String.1, gH_succ, ih, bind_ite, impl_joined_l0, rRow3, rVerdict, rRow59, rOutcome, rRow72, rRow56, rRow74, rRow5, rRow9, rMap91, rLog, ↓reduceIte, Nat.reduceMul, Nat.reduceAdd, Nat.reduceSub, Nat.reduceEqDiff, Nat.reduceBEq, Nat.reduceLeDiff, Nat.reduceLT, reduceCtorEq, Int.reduceAdd, Int.reduceSub, Int.reduceToNat, Int.reduceNeg, Int.reduceEq, Int.reduceLT, Int.reduceLE]
theorem impl_joined_g (E : En) (hy : Hy E [] [] [] r_impl_joined none (fun y => nocap y) flatIds) (L___strings_Builder__WriteByte : Nat → (List UInt8) → Int → Option (List UInt8)) (h___strings_Builder__WriteByte : H___strings_Builder__WriteByte E L___strings_Builder__WriteByte) (L_strconv_Itoa : Int → Option (List UInt8)) (h_strconv_Itoa : H_strconv_Itoa E L_strconv_Itoa) (L___strings_Builder__WriteString : Nat → (List UInt8) → (List UInt8) → Option (Int × List UInt8)) (h___strings_Builder__WriteString : H___strings_Builder__WriteString E L___strings_Builder__WriteString) (L___strings_Builder__String : Nat → (List UInt8) → Option (List UInt8 × List UInt8)) (h___strings_Builder__String : H___strings_Builder__String E L___strings_Builder__String) (a0 : List Int) : G E c_impl_joined [] ⟨slotsOf [(0, .d (lstT cI a0))], obsOf []⟩ = (impl_joined_f L___strings_Builder__WriteByte L_strconv_Itoa L___strings_Builder__WriteString L___strings_Builder__String E.n a0).bind fun r => some (.ret (.d (sD r)) []) := by
  simp (config := {maxSteps := 2000000}) only [↓rPre, rPost, rCan, rObj, rI, rS, rB, r8, rLI, rEtc, hy.p, hy.l, hy.k, hy.r, hy.d, hy.w, hy.f, flatIds, oid, r_impl_joined, ↓G_unf _ _ b0_impl_joined.eq_1, ↓G_unf _ _ k1_impl_joined.eq_1, ↓G_unf _ _ c_impl_joined.eq_1, h___strings_Builder__WriteByte.2, h___strings_Builder__WriteByte.1, h_strconv_Itoa.2, h_strconv_Itoa.1, h___strings_Builder__WriteString.2, h___strings_Builder__WriteString.1, h___strings_Builder__String.2, h___strings_Builder__String.1, bind_ite, impl_joined_f, impl_joined_l0_eq E hy L___strings_Builder__WriteByte h___strings_Builder__WriteByte L_strconv_Itoa h_strconv_Itoa L___strings_Builder__WriteString h___strings_Builder__WriteString L___strings_Builder__String h___strings_Builder__String, rRow3, rVerdict, rRow59, rOutcome, rRow72, rRow56, rRow74, rRow5, rRow9, rMap91, rLog, ↓reduceIte, Nat.reduceMul, Nat.reduceAdd, Nat.reduceSub, Nat.reduceEqDiff, Nat.reduceBEq, Nat.reduceLeDiff, Nat.reduceLT, reduceCtorEq, Int.reduceAdd, Int.reduceSub, Int.reduceToNat, Int.reduceNeg, Int.reduceEq, Int.reduceLT, Int.reduceLE]
def H_impl_joined (E : En) (L : (List Int) → Option (List UInt8)) : Prop := E.Γ.mu 26 = false ∧ (∀ (a0 : List Int), E.Γ 26 [.d (lstT cI a0)] = (L a0).bind fun r => some (.ret (.d (sD r)) []))
-- loop.example/s02135/impl.ArrayText
def c_impl_ArrayText : Cd :=
  sq (r [1] [o 1 .box [t 0], o 2 .mv [s []], o 3 .mv [b false]])
  (sq (sq (r [1, 6] [o 4 (.ld (some 2)) [t 1], o 5 (.call 25) [t 4], o 6 .not [t 5]])
    (.cond (t 6) (sq (r [2, 3] [o 2 .mv [s []], o 3 .mv [b false]])
      (.ret)) (.skip)))
   (sq (rd [] [2, 3] [o 7 (.fa 0) [t 1], o 8 (.ld none) [t 7], o 11 (.fa 1) [t 1], o 12 (.ld none) [t 11], ap [] false [1, 11] (o 9 (.call 26) [t 8]), o 10 (.bin .add) [t 9, s [58]], o 13 (.call 26) [t 12], o 14 (.bin .add) [t 10, t 13], o 2 .mv [t 14], o 3 .mv [b true]])
    (.ret)))
def r_impl_ArrayText : List RV := [.tmp 2, .tmp 3]
def impl_ArrayText_f (L_impl_ArrayOk : (List Int) → (List Int) → Option (Bool)) (L_impl_joined : (List Int) → Option (List UInt8)) (N : Nat) (a0_Shape : List Int) (a0_Data : List Int) : Option (List UInt8 × Bool) :=
  (L_impl_ArrayOk a0_Shape a0_Data).bind fun y0 =>
  if y0 = false then some (([], false))
  else ((L_impl_joined a0_Shape).bind fun y1 =>
   if roomS (List.length (y1 ++ [58])) then ((L_impl_joined a0_Data).bind fun y2 =>
    if roomS (List.length (y1 ++ [58] ++ y2)) then some ((y1 ++ [58] ++ y2, true))
    else none)
   else none)
theorem impl_ArrayText_g (E : En) (hy : Hy E [] [] [] r_impl_ArrayText none (fun y => nocap y) flatIds) (L_impl_ArrayOk : (List Int) → (List Int) → Option (Bool)) (h_impl_ArrayOk : H_impl_ArrayOk E L_impl_ArrayOk) (L_impl_joined : (List Int) → Option (List UInt8)) (h_impl_joined : H_impl_joined E L_impl_joined) (a0_Shape : List Int) (a0_Data : List Int) : G E c_impl_ArrayText [] ⟨slotsOf [(0, .agg [.d (lstT cI a0_Shape), .d (lstT cI a0_Data)])], obsOf []⟩ = (impl_ArrayText_f L_impl_ArrayOk L_impl_joined E.n a0_Shape a0_Data).bind fun r => some (.ret (.tup [.d (sD r.1), .d (.bool r.2)]) []) := by
  simp (config := {maxSteps := 2000000}) only [↓rPre, rPost, rCan, rObj, rI, rS, rB, r8, rLI, rEtc, hy.p, hy.l, hy.k, hy.r, hy.d, hy.w, hy.f, flatIds, oid, r_impl_ArrayText, ↓G_unf _ _ c_impl_ArrayText.eq_1, h_impl_ArrayOk.2, h_impl_ArrayOk.1, h_impl_joined.2, h_impl_joined.1, bind_ite, impl_ArrayText_f, rRow3, rVerdict, rRow59, rOutcome, rRow72, rRow56, rRow74, rRow5, rRow9, rMap91, rLog, ↓reduceIte, Nat.reduceMul, Nat.reduceAdd, Nat.reduceSub, Nat.reduceEqDiff, Nat.reduceBEq, Nat.reduceLeDiff, Nat.reduceLT, reduceCtorEq, Int.reduceAdd, Int.reduceSub, Int.reduceToNat, Int.reduceNeg, Int.reduceEq, Int.reduceLT, Int.reduceLE]
def H_impl_ArrayText (E : En) (L : (List Int) → (List Int) → Option (List UInt8 × Bool)) : Prop := E.Γ.mu 9 = false ∧ (∀ (a0_Shape : List Int) (a0_Data : List Int), E.Γ 9 [.agg [.d (lstT cI a0_Shape), .d (lstT cI a0_Data)]] = (L a0_Shape a0_Data).bind fun r => some (.ret (.tup [.d (sD r.1), .d (.bool r.2)]) []))
-- loop.example/s02135/laws.eqIntS
def b0_laws_eqIntS : Cd :=
  sq (sq (r [0, 1, 5, 14] [o 11 .mv [t 5], o 12 .mv [t 0], o 13 (.len false) [t 12], o 14 (.bin .lss) [t 11, t 13]])
   (.cond (t 14) (.skip) (.exit 0)))
  (sq (.block 1 (sq (rd [] [0, 1, 5, 25] [o 17 .mv [t 0], o 18 .mv [t 5], o 19 (.ia 1) [t 17, t 18], o 20 (.ld none) [t 19], o 21 .mv [t 1], o 22 .mv [t 5], o 23 (.ia 1) [t 21, t 22], o 24 (.ld none) [t 23], o 25 (.bin .neq) [t 20, t 24]])
     (.cond (t 25) (sq (r [4] [o 4 .mv [b false]])
       (.ret)) (.skip))))
   (r [0, 1, 5] [o 15 .mv [t 5], o 16 (.bin .add) [t 15, i 1], o 5 .mv [t 16]]))
def k1_laws_eqIntS : Cd :=
  sq (r [4] [o 4 .mv [b true]])
  (.ret)
def c_laws_eqIntS : Cd :=
  sq (r [0, 1] [o 4 .mv [b false]])
  (sq (sq (r [0, 1, 10] [o 6 .mv [t 0], o 7 (.len false) [t 6], o 8 .mv [t 1], o 9 (.len false) [t 8], o 10 (.bin .neq) [t 7, t 9]])
    (.cond (t 10) (sq (r [4] [o 4 .mv [b false]])
      (.ret)) (.skip)))
   (sq (sq (r [0, 1, 5] [o 5 .mv [i 0]])
     (.block 0 (.loop [0, 1, 5] b0_laws_eqIntS))) k1_laws_eqIntS))
def r_laws_eqIntS : List RV := [.tmp 4]
def laws_eqIntS_l0 : Nat → (List Int) → (List Int) → Int → Option (Bool)
  | 0, _, _, _ => none
  | m0 + 1, x0, x1, x5 =>
    if x5 < (↑(List.length x0) : Int) then ((idx x0 x5).bind fun y0 =>
     (idx x1 x5).bind fun y1 =>
     if y0 = y1 then laws_eqIntS_l0 m0 x0 x1 (w64 (x5 + 1))
     else some false)
    else some true
def laws_eqIntS_f (N : Nat) (a0 : List Int) (a1 : List Int) : Option (Bool) :=
  if (↑(List.length a0) : Int) = (↑(List.length a1) : Int) then laws_eqIntS_l0 N a0 a1 0
  else some false
theorem laws_eqIntS_l0_eq (E : En) (hy : Hy E [] [] [] r_laws_eqIntS none (fun y => nocap y) flatIds) : ∀ (m0 : Nat) (x0 : List Int) (x1 : List Int) (x5 : Int), gH E [0, 1, 5] b0_laws_eqIntS [KJ.b 0, KJ.c k1_laws_eqIntS] m0 ⟨slotsOf [(0, .d (lstT (cI) x0)), (1, .d (lstT (cI) x1)), (5, .d (.int .i64 x5))], obsOf []⟩ = (laws_eqIntS_l0 m0 x0 x1 x5).bind fun r => some (.ret (.d (.bool r)) []) := by
  intro m0
  induction m0 with
  | zero => intros; rfl
  | succ m0 ih =>
    intros
    simp (config := {maxSteps := 2000000}) only [↓rPre, rPost, rCan, rObj, rI, rS, rB, r8, rLI, rEtc, hy.p, hy.l, hy.k, hy.r, hy.d, hy.w, hy.f, flatIds, oid, r_laws_eqIntS, ↓G_unf _ _ b0_laws_eqIntS.eq_1, ↓G_unf _ _ k1_laws_eqIntS.eq_1, ↓G_unf _ _ c_laws_eqIntS.eq_1, gH_succ, ih, bind_ite, laws_eqIntS_l0, rRow3, rVerdict, rRow59, rOutcome, rRow72, rRow56, rRow74, rRow5, rRow9, rMap91, rLog, ↓reduceIte, Nat.reduceMul, Nat.reduceAdd, Nat.reduceSub, Nat.reduceEqDiff, Nat.reduceBEq, Nat.reduceLeDiff, Nat.reduceLT, reduceCtorEq, Int.reduceAdd, Int.reduceSub, Int.reduceToNat, Int.reduceNeg, Int.reduceEq, Int.reduceLT, Int.reduceLE]
theorem laws_eqIntS_g (E : En) (hy : Hy E [] [] [] r_laws_eqIntS none (fun y => nocap y) flatIds) (a0 : List Int) (a1 : List Int) : G E c_laws_eqIntS [] ⟨slotsOf [(0, .d (lstT cI a0)), (1, .d (lstT cI a1))], obsOf []⟩ = (laws_eqIntS_f E.n a0 a1).bind fun r => some (.ret (.d (.bool r)) []) := by
  simp (config := {maxSteps := 2000000}) only [↓rPre, rPost, rCan, rObj, rI, rS, rB, r8, rLI, rEtc, hy.p, hy.l, hy.k, hy.r, hy.d, hy.w, hy.f, flatIds, oid, r_laws_eqIntS, ↓G_unf _ _ b0_laws_eqIntS.eq_1, ↓G_unf _ _ k1_laws_eqIntS.eq_1, ↓G_unf _ _ c_laws_eqIntS.eq_1, bind_ite, laws_eqIntS_f, laws_eqIntS_l0_eq E hy, rRow3, rVerdict, rRow59, rOutcome, rRow72, rRow56, rRow74, rRow5, rRow9, rMap91, rLog, ↓reduceIte, Nat.reduceMul, Nat.reduceAdd, Nat.reduceSub, Nat.reduceEqDiff, Nat.reduceBEq, Nat.reduceLeDiff, Nat.reduceLT, reduceCtorEq, Int.reduceAdd, Int.reduceSub, Int.reduceToNat, Int.reduceNeg, Int.reduceEq, Int.reduceLT, Int.reduceLE]
def H_laws_eqIntS (E : En) (L : (List Int) → (List Int) → Option (Bool)) : Prop := E.Γ.mu 27 = false ∧ (∀ (a0 : List Int) (a1 : List Int), E.Γ 27 [.d (lstT cI a0), .d (lstT cI a1)] = (L a0 a1).bind fun r => some (.ret (.d (.bool r)) []))
-- loop.example/s02135/laws.eqArray
def c_laws_eqArray : Cd :=
  sq (r [2, 3] [o 2 .box [t 0], o 3 .box [t 1], o 4 .mv [b false]])
  (sq (sq (r [2, 3, 10] [o 5 (.fa 0) [t 2], o 6 (.ld none) [t 5], o 7 (.fa 0) [t 3], o 8 (.ld none) [t 7], o 9 (.call 27) [t 6, t 8], o 10 .not [t 9]])
    (.cond (t 10) (sq (r [4] [o 4 .mv [b false]])
      (.ret)) (.skip)))
   (sq (sq (r [16] [o 11 (.fa 1) [t 2], o 12 (.ld none) [t 11], o 13 (.fa 1) [t 3], o 14 (.ld none) [t 13], o 15 (.call 27) [t 12, t 14], o 16 .not [t 15]])
     (.cond (t 16) (sq (r [4] [o 4 .mv [b false]])
       (.ret)) (.skip)))
    (sq (r [4] [o 4 .mv [b true]])
     (.ret))))
def r_laws_eqArray : List RV := [.tmp 4]
def laws_eqArray_f (L_laws_eqIntS : (List Int) → (List Int) → Option (Bool)) (N : Nat) (a0_Shape : List Int) (a0_Data : List Int) (a1_Shape : List Int) (a1_Data : List Int) : Option (Bool) :=
  (L_laws_eqIntS a0_Shape a1_Shape).bind fun y0 =>
  if y0 = false then some false
  else ((L_laws_eqIntS a0_Data a1_Data).bind fun y1 =>
   if y1 = false then some false
   else some true)
theorem laws_eqArray_g (E : En) (hy : Hy E [] [] [] r_laws_eqArray none (fun y => nocap y) flatIds) (L_laws_eqIntS : (List Int) → (List Int) → Option (Bool)) (h_laws_eqIntS : H_laws_eqIntS E L_laws_eqIntS) (a0_Shape : List Int) (a0_Data : List Int) (a1_Shape : List Int) (a1_Data : List Int) : G E c_laws_eqArray [] ⟨slotsOf [(0, .agg [.d (lstT cI a0_Shape), .d (lstT cI a0_Data)]), (1, .agg [.d (lstT cI a1_Shape), .d (lstT cI a1_Data)])], obsOf []⟩ = (laws_eqArray_f L_laws_eqIntS E.n a0_Shape a0_Data a1_Shape a1_Data).bind fun r => some (.ret (.d (.bool r)) []) := by
  simp (config := {maxSteps := 2000000}) only [↓rPre, rPost, rCan, rObj, rI, rS, rB, r8, rLI, rEtc, hy.p, hy.l, hy.k, hy.r, hy.d, hy.w, hy.f, flatIds, oid, r_laws_eqArray, ↓G_unf _ _ c_laws_eqArray.eq_1, h_laws_eqIntS.2, h_laws_eqIntS.1, bind_ite, laws_eqArray_f, rRow3, rVerdict, rRow59, rOutcome, rRow72, rRow56, rRow74, rRow5, rRow9, rMap91, rLog, ↓reduceIte, Nat.reduceMul, Nat.reduceAdd, Nat.reduceSub, Nat.reduceEqDiff, Nat.reduceBEq, Nat.reduceLeDiff, Nat.reduceLT, reduceCtorEq, Int.reduceAdd, Int.reduceSub, Int.reduceToNat, Int.reduceNeg, Int.reduceEq, Int.reduceLT, Int.reduceLE]
def H_laws_eqArray (E : En) (L : (List Int) → (List Int) → (List Int) → (List Int) → Option (Bool)) : Prop := E.Γ.mu 10 = false ∧ (∀ (a0_Shape : List Int) (a0_Data : List Int) (a1_Shape : List Int) (a1_Data : List Int), E.Γ 10 [.agg [.d (lstT cI a0_Shape), .d (lstT cI a0_Data)], .agg [.d (lstT cI a1_Shape), .d (lstT cI a1_Data)]] = (L a0_Shape a0_Data a1_Shape a1_Data).bind fun r => some (.ret (.d (.bool r)) []))
-- loop.example/s02135/laws.FnExactArrayText
def c_laws_FnExactArrayText : Cd :=
  sq (r [1] [o 1 .box [t 0], o 2 .mv [b false]])
  (sq (r [1, 3] [o 3 .mv [i 1048576]])
   (sq (r [1, 3] [o 9 (.ld (some 2)) [t 1], o 10 .mv [t 3], o 11 (.call 6) [t 9, t 10], o 3 .mv [t 11]])
    (sq (sq (r [1, 13] [o 12 .mv [t 3], o 13 (.bin .lss) [t 12, i 0]])
      (.cond (t 13) (sq (r [2] [o 2 .mv [b true]])
        (.ret)) (.skip)))
     (sq (r [1, 4, 5] [o 15 (.ld (some 2)) [t 1], o 16 (.call 8) [t 15], o 17 (.call 7) [t 16], o 14 .mv [t 17], o 18 (.ext 0) [t 14], o 19 (.ext 1) [t 14], o 4 .mv [t 18], o 5 .mv [t 19]])
      (sq (r [1, 4, 5, 6] [o 20 (.ld (some 2)) [t 1], o 21 (.call 8) [t 20], o 6 (.alloc [.nil, .nil]) [], e (.st 2) [t 6, t 21]])
       (sq (r [1, 4, 5, 6, 7, 8] [o 23 (.ld (some 2)) [t 6], o 24 (.call 9) [t 23], o 22 .mv [t 24], o 25 (.ext 0) [t 22], o 26 (.ext 1) [t 22], o 7 .mv [t 25], o 8 .mv [t 26]])
        (sq (sq (r [1, 6, 34] [o 27 .mv [t 7], o 28 .mv [t 4], o 29 (.bin .neq) [t 27, t 28], o 30 .mv [t 29], g 30 false 31 .mv [t 8], g 30 false 32 .mv [t 5], g 30 false 33 (.beq true) [t 31, t 32], o 34 .pick [t 30, b true, t 33]])
          (.cond (t 34) (sq (r [2] [o 2 .mv [b false]])
            (.ret)) (.skip)))
         (sq (sq (rd [] [39] [o 35 (.ld (some 2)) [t 6], o 36 (.ld (some 2)) [t 1], ap [] false [6] (o 37 (.call 8) [t 36]), o 38 (.call 10) [t 35, t 37], o 39 .not [t 38]])
           (.cond (t 39) (sq (r [2] [o 2 .mv [b false]])
             (.ret)) (.skip)))
          (sq (r [2] [o 2 .mv [b true]])
           (.ret))))))))))
def r_laws_FnExactArrayText : List RV := [.tmp 2]
def laws_FnExactArrayText_f (L_laws_szArray : (List Int) → (List Int) → Int → Option (Int)) (L_laws_toArray : (List Int) → (List Int) → Option (List Int × List Int)) (L_spec_ArrayText : (List Int) → (List Int) → Option (List UInt8 × Bool)) (L_impl_ArrayText : (List Int) → (List Int) → Option (List UInt8 × Bool)) (L_laws_eqArray : (List Int) → (List Int) → (List Int) → (List Int) → Option (Bool)) (N : Nat) (a0_Shape : List Int) (a0_Data : List Int) : Option (Bool) :=
  (L_laws_szArray a0_Shape a0_Data 1048576).bind fun y0 =>
  if y0 < 0 then some true
  else ((L_laws_toArray a0_Shape a0_Data).bind fun y1 =>
   (L_spec_ArrayText y1.fst y1.snd).bind fun y2 =>
   (L_laws_toArray a0_Shape a0_Data).bind fun y3 =>
   (L_impl_ArrayText y3.fst y3.snd).bind fun y4 =>
   if y4.fst = y2.fst then (if (y4.snd == y2.snd) = false then some false
    else ((L_laws_toArray a0_Shape a0_Data).bind fun y5 =>
     (L_laws_eqArray y3.fst y3.snd y5.fst y5.snd).bind fun y6 =>
     if y6 = false then some false
     else some true))
   else some false)
theorem laws_FnExactArrayText_g (E : En) (hy : Hy E [] [] [] r_laws_FnExactArrayText none (fun y => nocap y) flatIds) (L_laws_szArray : (List Int) → (List Int) → Int → Option (Int)) (h_laws_szArray : H_laws_szArray E L_laws_szArray) (L_laws_toArray : (List Int) → (List Int) → Option (List Int × List Int)) (h_laws_toArray : H_laws_toArray E L_laws_toArray) (L_spec_ArrayText : (List Int) → (List Int) → Option (List UInt8 × Bool)) (h_spec_ArrayText : H_spec_ArrayText E L_spec_ArrayText) (L_impl_ArrayText : (List Int) → (List Int) → Option (List UInt8 × Bool)) (h_impl_ArrayText : H_impl_ArrayText E L_impl_ArrayText) (L_laws_eqArray : (List Int) → (List Int) → (List Int) → (List Int) → Option (Bool)) (h_laws_eqArray : H_laws_eqArray E L_laws_eqArray) (a0_Shape : List Int) (a0_Data : List Int) : G E c_laws_FnExactArrayText [] ⟨slotsOf [(0, .agg [.d (lstT cI a0_Shape), .d (lstT cI a0_Data)])], obsOf []⟩ = (laws_FnExactArrayText_f L_laws_szArray L_laws_toArray L_spec_ArrayText L_impl_ArrayText L_laws_eqArray E.n a0_Shape a0_Data).bind fun r => some (.ret (.d (.bool r)) []) := by
  simp (config := {maxSteps := 2000000}) only [↓rPre, rPost, rCan, rObj, rI, rS, rB, r8, rLI, rEtc, hy.p, hy.l, hy.k, hy.r, hy.d, hy.w, hy.f, flatIds, oid, r_laws_FnExactArrayText, ↓G_unf _ _ c_laws_FnExactArrayText.eq_1, h_laws_szArray.2, h_laws_szArray.1, h_laws_toArray.2, h_laws_toArray.1, h_spec_ArrayText.2, h_spec_ArrayText.1, h_impl_ArrayText.2, h_impl_ArrayText.1, h_laws_eqArray.2, h_laws_eqArray.1, bind_ite, laws_FnExactArrayText_f, rRow3, rVerdict, rRow59, rOutcome, rRow72, rRow56, rRow74, rRow5, rRow9, rMap91, rLog, ↓reduceIte, Nat.reduceMul, Nat.reduceAdd, Nat.reduceSub, Nat.reduceEqDiff, Nat.reduceBEq, Nat.reduceLeDiff, Nat.reduceLT, reduceCtorEq, Int.reduceAdd, Int.reduceSub, Int.reduceToNat, Int.reduceNeg, Int.reduceEq, Int.reduceLT, Int.reduceLE]
def H_laws_FnExactArrayText (E : En) (L : (List Int) → (List Int) → Option (Bool)) : Prop := E.Γ.mu 3 = false ∧ (∀ (a0_Shape : List Int) (a0_Data : List Int), E.Γ 3 [.agg [.d (lstT cI a0_Shape), .d (lstT cI a0_Data)]] = (L a0_Shape a0_Data).bind fun r => some (.ret (.d (.bool r)) []))
end Go.Vm
