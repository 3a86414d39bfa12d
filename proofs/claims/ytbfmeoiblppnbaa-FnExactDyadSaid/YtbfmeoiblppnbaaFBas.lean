/- The functions under laws_szArray, laws_toArray, laws_eqArray, laws_markArray, laws_heldArray, spec_ArrayOk, spec_l2Copy, impl_ArrayOk, impl_caught, impl_made: the abstract machine's codes, and what they come to in plain terms. Printed by a program of this session. -/
import Derived.Test.YtbfmeoiblppnbaaVmKind
set_option linter.all false
set_option maxRecDepth 100000
set_option maxHeartbeats 4000000
namespace Go.Vm
structure TFile where
  Name : List UInt8
  Data : List UInt8
  deriving DecidableEq
def encFile (x : TFile) : List D := [sD x.Name, sD x.Data]
def decFile : List D → Option TFile
  | [.str a0, .str a1] => some ⟨a0.data.toList, a1.data.toList⟩
  | _ => none
theorem decFile_ok : ∀ xs x, decFile xs = some x → xs = encFile x := by
  intro xs x h
  unfold decFile at h
  split at h
  · cases h; rfl
  · cases h
def cFile : Enc TFile := ⟨2, encFile, decFile, fun _ => rfl, by decide, decFile_ok, fun _ => rfl⟩
theorem cFile_enc (x : TFile) : cFile.enc x = [sD x.Name, sD x.Data] := rfl
theorem cFile_dec (x_Name : List UInt8) (x_Data : List UInt8) : cFile.dec [sD x_Name, sD x_Data] = some ⟨x_Name, x_Data⟩ := cFile.edc ⟨x_Name, x_Data⟩
theorem cFile_dec1 (a : D) : cFile.dec [a] = none := by cases a <;> rfl
def rFile := And.intro (cFile_dec1) <| And.intro (rKind cFile 2 rfl) <| And.intro (cFile_enc) <| And.intro (cFile_dec) <| And.intro (plain_T cFile (fun _ => rfl)) <| And.intro ((fun l m => k_get cFile 2 l m 1 (by decide) rfl)) <| ((fun e cap l m xs z hz => k_part' cFile 2 e cap l m 1 xs z hz rfl))
structure TArray where
  Shape : List Int
  Data : List Int
  deriving DecidableEq
def encArray (x : TArray) : List D := [lstT cI x.Shape, lstT cI x.Data]
def decArray : List D → Option TArray
  | [d0, d1] => (decL cI d0).bind fun a0 => (decL cI d1).bind fun a1 => some ⟨a0, a1⟩
  | _ => none
theorem decArray_ok : ∀ xs x, decArray xs = some x → xs = encArray x := by
  intro xs x h
  unfold decArray at h
  split at h
  · have hh := Option.bind_eq_some_iff.mp h; clear h; obtain ⟨a0, h0, h⟩ := hh; have e0 := decL_ok h0; clear h0; subst e0; have hh := Option.bind_eq_some_iff.mp h; clear h; obtain ⟨a1, h1, h⟩ := hh; have e1 := decL_ok h1; clear h1; subst e1; cases h; rfl
  · cases h
def cArray : Enc TArray := ⟨2, encArray, decArray, fun _ => rfl, by decide, decArray_ok, fun x => by simp only [encArray, decArray, decL_T, Option.bind_some]⟩
theorem cArray_enc (x : TArray) : cArray.enc x = [lstT cI x.Shape, lstT cI x.Data] := rfl
theorem cArray_dec (x_Shape : List Int) (x_Data : List Int) : cArray.dec [lstT cI x_Shape, lstT cI x_Data] = some ⟨x_Shape, x_Data⟩ := cArray.edc ⟨x_Shape, x_Data⟩
theorem cArray_dec1 (a : D) : cArray.dec [a] = none := by cases a <;> rfl
def rArray := And.intro (cArray_dec1) <| And.intro (rKind cArray 2 rfl) <| And.intro (cArray_enc) <| And.intro (cArray_dec) <| And.intro (plain_N cArray) <| And.intro ((fun l m => k_get cArray 2 l m 1 (by decide) rfl)) <| ((fun e cap l m xs z hz => k_part' cArray 2 e cap l m 1 xs z hz rfl))
def rRow78 := rRow cFile 78 2 rfl [sD [], sD []] ⟨[], []⟩ rfl
def rRow3 := rRow cI 3 1 rfl [iD 0] 0 rfl
def rRow53 := rRow cFile 53 2 rfl [sD [], sD []] ⟨[], []⟩ rfl
def rRow35 := rRow (cL cI) 35 1 rfl [.lst 0 []] [] rfl
def rRow39 := rRow cArray 39 2 rfl [.lst 0 [], .lst 0 []] ⟨[], []⟩ rfl
def rRow5 := rRow c8 5 1 rfl [.int .u8 0] 0 rfl
def rRow9 := rRow cS 9 1 rfl [sD []] [] rfl
def rMap97 := rMapI cI 97 none rfl [iD 0] 0 rfl
/-- the types of elements that lead to no memory -/
def flatIds (e : Nat) : Bool := e == 78 || e == 3 || e == 53 || e == 5 || e == 9
-- loop.example/s02135/laws.szIntS
def c_laws_szIntS : Cd :=
  sq (r [0, 1] [o 4 .mv [i 0]])
  (sq (r [1] [o 5 .mv [t 1], o 6 .mv [t 0], o 7 (.len false) [t 6], o 8 (.bin .sub) [t 5, t 7], o 1 .mv [t 8]])
   (sq (sq (r [1, 10] [o 9 .mv [t 1], o 10 (.bin .lss) [t 9, i 0]])
     (.cond (t 10) (sq (r [4] [o 4 .mv [i (-1)]])
       (.ret)) (.skip)))
    (sq (r [4] [o 11 .mv [t 1], o 4 .mv [t 11]])
     (.ret))))
def r_laws_szIntS : List RV := [.tmp 4]
def laws_szIntS_f (N : Nat) (a0 : List Int) (a1 : Int) : Option (Int) :=
  if w64 (a1 - (↑(List.length a0) : Int)) < 0 then some (-1)
  else some (w64 (a1 - (↑(List.length a0) : Int)))
theorem laws_szIntS_g (E : En) (hy : Hy E [] [] [] r_laws_szIntS none (fun y => nocap y) flatIds) (a0 : List Int) (a1 : Int) : G E c_laws_szIntS [] ⟨slotsOf [(0, .d (lstT cI a0)), (1, .d (.int .i64 a1))], obsOf []⟩ = (laws_szIntS_f E.n a0 a1).bind fun r => some (.ret (.d (.int .i64 r)) []) := by
  simp (config := {maxSteps := 2000000}) only [↓rPre, rPost, rCan, rObj, rI, rS, rB, r8, rLI, rEtc, hy.p, hy.l, hy.k, hy.r, hy.d, hy.w, hy.f, flatIds, oid, r_laws_szIntS, ↓G_unf _ _ c_laws_szIntS.eq_1, bind_ite, laws_szIntS_f, rFile, rRow78, rRow3, rRow53, rRow35, rArray, rRow39, rRow5, rRow9, rMap97, rLog, ↓reduceIte, Nat.reduceMul, Nat.reduceAdd, Nat.reduceSub, Nat.reduceEqDiff, Nat.reduceBEq, Nat.reduceLeDiff, Nat.reduceLT, reduceCtorEq, Int.reduceAdd, Int.reduceSub, Int.reduceToNat, Int.reduceNeg, Int.reduceEq, Int.reduceLT, Int.reduceLE]
def H_laws_szIntS (E : En) (L : (List Int) → Int → Option (Int)) : Prop := E.Γ.mu 35 = false ∧ (∀ (a0 : List Int) (a1 : Int), E.Γ 35 [.d (lstT cI a0), .d (.int .i64 a1)] = (L a0 a1).bind fun r => some (.ret (.d (.int .i64 r)) []))
-- loop.example/s02135/laws.szArray
def c_laws_szArray : Cd :=
  sq (r [1, 2] [o 2 .box [t 0], o 4 .mv [i 0]])
  (sq (r [1, 2] [o 5 (.fa 0) [t 2], o 6 (.ld none) [t 5], o 7 .mv [t 1], o 8 (.call 35) [t 6, t 7], o 1 .mv [t 8]])
   (sq (sq (r [1, 2, 10] [o 9 .mv [t 1], o 10 (.bin .lss) [t 9, i 0]])
     (.cond (t 10) (sq (r [4] [o 4 .mv [i (-1)]])
       (.ret)) (.skip)))
    (sq (r [1] [o 11 (.fa 1) [t 2], o 12 (.ld none) [t 11], o 13 .mv [t 1], o 14 (.call 35) [t 12, t 13], o 1 .mv [t 14]])
     (sq (sq (r [1, 16] [o 15 .mv [t 1], o 16 (.bin .lss) [t 15, i 0]])
       (.cond (t 16) (sq (r [4] [o 4 .mv [i (-1)]])
         (.ret)) (.skip)))
      (sq (r [4] [o 17 .mv [t 1], o 4 .mv [t 17]])
       (.ret))))))
def r_laws_szArray : List RV := [.tmp 4]
def laws_szArray_f (L_laws_szIntS : (List Int) → Int → Option (Int)) (N : Nat) (a0_Shape : List Int) (a0_Data : List Int) (a1 : Int) : Option (Int) :=
  (L_laws_szIntS a0_Shape a1).bind fun y0 =>
  if y0 < 0 then some (-1)
  else ((L_laws_szIntS a0_Data y0).bind fun y1 =>
   if y1 < 0 then some (-1)
   else some y1)
theorem laws_szArray_g (E : En) (hy : Hy E [] [] [] r_laws_szArray none (fun y => nocap y) flatIds) (L_laws_szIntS : (List Int) → Int → Option (Int)) (h_laws_szIntS : H_laws_szIntS E L_laws_szIntS) (a0_Shape : List Int) (a0_Data : List Int) (a1 : Int) : G E c_laws_szArray [] ⟨slotsOf [(0, .agg [.d (lstT cI a0_Shape), .d (lstT cI a0_Data)]), (1, .d (.int .i64 a1))], obsOf []⟩ = (laws_szArray_f L_laws_szIntS E.n a0_Shape a0_Data a1).bind fun r => some (.ret (.d (.int .i64 r)) []) := by
  simp (config := {maxSteps := 2000000}) only [↓rPre, rPost, rCan, rObj, rI, rS, rB, r8, rLI, rEtc, hy.p, hy.l, hy.k, hy.r, hy.d, hy.w, hy.f, flatIds, oid, r_laws_szArray, ↓G_unf _ _ c_laws_szArray.eq_1, h_laws_szIntS.2, h_laws_szIntS.1, bind_ite, laws_szArray_f, rFile, rRow78, rRow3, rRow53, rRow35, rArray, rRow39, rRow5, rRow9, rMap97, rLog, ↓reduceIte, Nat.reduceMul, Nat.reduceAdd, Nat.reduceSub, Nat.reduceEqDiff, Nat.reduceBEq, Nat.reduceLeDiff, Nat.reduceLT, reduceCtorEq, Int.reduceAdd, Int.reduceSub, Int.reduceToNat, Int.reduceNeg, Int.reduceEq, Int.reduceLT, Int.reduceLE]
def H_laws_szArray (E : En) (L : (List Int) → (List Int) → Int → Option (Int)) : Prop := E.Γ.mu 13 = false ∧ (∀ (a0_Shape : List Int) (a0_Data : List Int) (a1 : Int), E.Γ 13 [.agg [.d (lstT cI a0_Shape), .d (lstT cI a0_Data)], .d (.int .i64 a1)] = (L a0_Shape a0_Data a1).bind fun r => some (.ret (.d (.int .i64 r)) []))
-- loop.example/s02135/laws.toIntS
def b0_laws_toIntS : Cd :=
  sq (sq (r [0, 3, 4, 11] [o 8 .mv [t 4], o 9 .mv [t 0], o 10 (.len false) [t 9], o 11 (.bin .lss) [t 8, t 10]])
   (.cond (t 11) (.skip) (.exit 0)))
  (sq (.block 1 (r [0, 3, 4] [o 14 .mv [t 3], o 15 .mv [t 4], o 16 .mv [t 0], o 17 .mv [t 4], o 18 (.ia 1) [t 16, t 17], o 19 (.ld none) [t 18], o 20 (.ia 1) [t 14, t 15], e (.st 1) [t 20, t 19]]))
   (r [0, 3, 4] [o 12 .mv [t 4], o 13 (.bin .add) [t 12, i 1], o 4 .mv [t 13]]))
def k1_laws_toIntS : Cd :=
  sq (r [2] [o 21 .mv [t 3], o 2 .mv [t 21]])
  (.ret)
def c_laws_toIntS : Cd :=
  sq (r [0] [o 2 .mv [n]])
  (sq (r [0, 3] [o 5 .mv [t 0], o 6 (.len false) [t 5], o 7 (.mkS 3 1 8 [(iD 0)]) [t 6, t 6], o 3 .mv [t 7]])
   (sq (sq (r [0, 3, 4] [o 4 .mv [i 0]])
     (.block 0 (.loop [0, 3, 4] b0_laws_toIntS))) k1_laws_toIntS))
def r_laws_toIntS : List RV := [.tmp 2]
def laws_toIntS_l0 : Nat → (List Int) → Int → (List Int) → Option (List Int)
  | 0, _, _, _ => none
  | m0 + 1, x0, x4, o192 =>
    if x4 < (↑(List.length x0) : Int) then ((idx x0 x4).bind fun y0 =>
     if 0 ≤ x4 ∧ x4 < (↑(List.length o192) : Int) then ((setN o192 (Int.toNat x4) y0).bind fun y1 =>
      laws_toIntS_l0 m0 x0 (w64 (x4 + 1)) y1)
     else none)
    else some o192
def laws_toIntS_f (N : Nat) (a0 : List Int) : Option (List Int) :=
  if mkOk 8 (↑(List.length a0) : Int) (↑(List.length a0) : Int) then laws_toIntS_l0 N a0 0 (List.replicate (List.length a0) 0)
  else none
theorem laws_toIntS_l0_eq (E : En) (hy : Hy E [] [] [] r_laws_toIntS none (fun y => nocap y) flatIds) : ∀ (m0 : Nat) (x0 : List Int) (x4 : Int) (o192 : List Int), gH E [0, 3, 4] b0_laws_toIntS [KJ.b 0, KJ.c k1_laws_toIntS] m0 ⟨slotsOf [(0, .d (lstT (cI) x0)), (3, A.row 192 1), (4, .d (.int .i64 x4))], obsOf [(192, ⟨1, rowT (cI) 3 none o192, false⟩)]⟩ = (laws_toIntS_l0 m0 x0 x4 o192).bind fun r => some (.ret (ownT (cI) 3 none false r) []) := by
  intro m0
  induction m0 with
  | zero => intros; rfl
  | succ m0 ih =>
    intros
    simp (config := {maxSteps := 2000000}) only [↓rPre, rPost, rCan, rObj, rI, rS, rB, r8, rLI, rEtc, hy.p, hy.l, hy.k, hy.r, hy.d, hy.w, hy.f, flatIds, oid, r_laws_toIntS, ↓G_unf _ _ b0_laws_toIntS.eq_1, ↓G_unf _ _ k1_laws_toIntS.eq_1, ↓G_unf _ _ c_laws_toIntS.eq_1, gH_succ, ih, bind_ite, laws_toIntS_l0, rFile, rRow78, rRow3, rRow53, rRow35, rArray, rRow39, rRow5, rRow9, rMap97, rLog, ↓reduceIte, Nat.reduceMul, Nat.reduceAdd, Nat.reduceSub, Nat.reduceEqDiff, Nat.reduceBEq, Nat.reduceLeDiff, Nat.reduceLT, reduceCtorEq, Int.reduceAdd, Int.reduceSub, Int.reduceToNat, Int.reduceNeg, Int.reduceEq, Int.reduceLT, Int.reduceLE]
theorem laws_toIntS_g (E : En) (hy : Hy E [] [] [] r_laws_toIntS none (fun y => nocap y) flatIds) (a0 : List Int) : G E c_laws_toIntS [] ⟨slotsOf [(0, .d (lstT cI a0))], obsOf []⟩ = (laws_toIntS_f E.n a0).bind fun r => some (.ret (ownT (cI) 3 none false r) []) := by
  simp (config := {maxSteps := 2000000}) only [↓rPre, rPost, rCan, rObj, rI, rS, rB, r8, rLI, rEtc, hy.p, hy.l, hy.k, hy.r, hy.d, hy.w, hy.f, flatIds, oid, r_laws_toIntS, ↓G_unf _ _ b0_laws_toIntS.eq_1, ↓G_unf _ _ k1_laws_toIntS.eq_1, ↓G_unf _ _ c_laws_toIntS.eq_1, bind_ite, laws_toIntS_f, laws_toIntS_l0_eq E hy, rFile, rRow78, rRow3, rRow53, rRow35, rArray, rRow39, rRow5, rRow9, rMap97, rLog, ↓reduceIte, Nat.reduceMul, Nat.reduceAdd, Nat.reduceSub, Nat.reduceEqDiff, Nat.reduceBEq, Nat.reduceLeDiff, Nat.reduceLT, reduceCtorEq, Int.reduceAdd, Int.reduceSub, Int.reduceToNat, Int.reduceNeg, Int.reduceEq, Int.reduceLT, Int.reduceLE]
def H_laws_toIntS (E : En) (L : (List Int) → Option (List Int)) : Prop := E.Γ.mu 45 = false ∧ (∀ (a0 : List Int), E.Γ 45 [.d (lstT cI a0)] = (L a0).bind fun r => some (.ret (ownT (cI) 3 none false r) []))
-- loop.example/s02135/laws.toArray
def c_laws_toArray : Cd :=
  sq (r [1, 2] [o 1 .box [t 0], o 2 (.alloc [.nil, .nil]) []])
  (sq (r [1, 2, 3] [o 3 (.alloc [.nil, .nil]) []])
   (sq (r [1, 2, 3] [o 4 (.fa 0) [t 1], o 5 (.ld none) [t 4], o 6 (.call 45) [t 5], o 7 (.fa 0) [t 3], e (.st 1) [t 7, t 6]])
    (sq (r [2, 3] [o 8 (.fa 1) [t 1], o 9 (.ld none) [t 8], o 10 (.call 45) [t 9], o 11 (.fa 1) [t 3], e (.st 1) [t 11, t 10]])
     (sq (r [2] [o 12 (.ld (some 2)) [t 3], e (.st 2) [t 2, t 12]])
      (.ret)))))
def r_laws_toArray : List RV := [.cell 2 (some 2)]
def laws_toArray_f (L_laws_toIntS : (List Int) → Option (List Int)) (N : Nat) (a0_Shape : List Int) (a0_Data : List Int) : Option (List Int × List Int) :=
  (L_laws_toIntS a0_Shape).bind fun y0 =>
  (L_laws_toIntS a0_Data).bind fun y1 =>
  some ((y0, y1))
theorem laws_toArray_g (E : En) (hy : Hy E [] [] [] r_laws_toArray none (fun y => nocap y) flatIds) (L_laws_toIntS : (List Int) → Option (List Int)) (h_laws_toIntS : H_laws_toIntS E L_laws_toIntS) (a0_Shape : List Int) (a0_Data : List Int) : G E c_laws_toArray [] ⟨slotsOf [(0, .agg [.d (lstT cI a0_Shape), .d (lstT cI a0_Data)])], obsOf []⟩ = (laws_toArray_f L_laws_toIntS E.n a0_Shape a0_Data).bind fun r => some (.ret (.agg [ownT (cI) 3 none false r.1, ownT (cI) 3 none false r.2]) []) := by
  simp (config := {maxSteps := 2000000}) only [↓rPre, rPost, rCan, rObj, rI, rS, rB, r8, rLI, rEtc, hy.p, hy.l, hy.k, hy.r, hy.d, hy.w, hy.f, flatIds, oid, r_laws_toArray, ↓G_unf _ _ c_laws_toArray.eq_1, h_laws_toIntS.2, h_laws_toIntS.1, bind_ite, laws_toArray_f, rFile, rRow78, rRow3, rRow53, rRow35, rArray, rRow39, rRow5, rRow9, rMap97, rLog, ↓reduceIte, Nat.reduceMul, Nat.reduceAdd, Nat.reduceSub, Nat.reduceEqDiff, Nat.reduceBEq, Nat.reduceLeDiff, Nat.reduceLT, reduceCtorEq, Int.reduceAdd, Int.reduceSub, Int.reduceToNat, Int.reduceNeg, Int.reduceEq, Int.reduceLT, Int.reduceLE]
def H_laws_toArray (E : En) (L : (List Int) → (List Int) → Option (List Int × List Int)) : Prop := E.Γ.mu 15 = false ∧ (∀ (a0_Shape : List Int) (a0_Data : List Int), E.Γ 15 [.agg [.d (lstT cI a0_Shape), .d (lstT cI a0_Data)]] = (L a0_Shape a0_Data).bind fun r => some (.ret (.agg [ownT (cI) 3 none false r.1, ownT (cI) 3 none false r.2]) []))
-- loop.example/s02135/laws.eqIntS
def b0_laws_eqIntS : Cd :=
  sq (sq (r [0, 1, 5, 14] [o 11 .mv [t 5], o 12 .mv [t 0], o 13 (.len false) [t 12], o 14 (.bin .lss) [t 11, t 13]])
   (.cond (t 14) (.skip) (.exit 0)))
  (sq (.block 1 (sq (rd [] [0, 1, 5, 25] [o 17 .mv [t 0], o 18 .mv [t 5], o 19 (.ia 1) [t 17, t 18], o 20 (.ld none) [t 19], o 21 .mv [t 1], o 22 .mv [t 5], o 23 (.ia 1) [t 21, t 22], o 24 (.ld none) [t 23], o 25 (.bin .neq) [t 20, t 24]])
     (.cond (t 25) (sq (r [4] [o 4 .mv [b false]])
       (.ret)) (.skip))))
   (r [0, 1, 5] [o 15 .mv [t 5], o 16 (.bin .add) [t 15, i 1], o 5 .mv [t 16]]))
def k1_laws_eqIntS : Cd :=
  sq (r [4] [o 4 .mv [b true]])
  (.ret)
def c_laws_eqIntS : Cd :=
  sq (r [0, 1] [o 4 .mv [b false]])
  (sq (sq (r [0, 1, 10] [o 6 .mv [t 0], o 7 (.len false) [t 6], o 8 .mv [t 1], o 9 (.len false) [t 8], o 10 (.bin .neq) [t 7, t 9]])
    (.cond (t 10) (sq (r [4] [o 4 .mv [b false]])
      (.ret)) (.skip)))
   (sq (sq (r [0, 1, 5] [o 5 .mv [i 0]])
     (.block 0 (.loop [0, 1, 5] b0_laws_eqIntS))) k1_laws_eqIntS))
def r_laws_eqIntS : List RV := [.tmp 4]
def laws_eqIntS_l0 : Nat → (List Int) → (List Int) → Int → Option (Bool)
  | 0, _, _, _ => none
  | m0 + 1, x0, x1, x5 =>
    if x5 < (↑(List.length x0) : Int) then ((idx x0 x5).bind fun y0 =>
     (idx x1 x5).bind fun y1 =>
     if y0 = y1 then laws_eqIntS_l0 m0 x0 x1 (w64 (x5 + 1))
     else some false)
    else some true
def laws_eqIntS_f (N : Nat) (a0 : List Int) (a1 : List Int) : Option (Bool) :=
  if (↑(List.length a0) : Int) = (↑(List.length a1) : Int) then laws_eqIntS_l0 N a0 a1 0
  else some false
theorem laws_eqIntS_l0_eq (E : En) (hy : Hy E [] [] [] r_laws_eqIntS none (fun y => nocap y) flatIds) : ∀ (m0 : Nat) (x0 : List Int) (x1 : List Int) (x5 : Int), gH E [0, 1, 5] b0_laws_eqIntS [KJ.b 0, KJ.c k1_laws_eqIntS] m0 ⟨slotsOf [(0, .d (lstT (cI) x0)), (1, .d (lstT (cI) x1)), (5, .d (.int .i64 x5))], obsOf []⟩ = (laws_eqIntS_l0 m0 x0 x1 x5).bind fun r => some (.ret (.d (.bool r)) []) := by
  intro m0
  induction m0 with
  | zero => intros; rfl
  | succ m0 ih =>
    intros
    simp (config := {maxSteps := 2000000}) only [↓rPre, rPost, rCan, rObj, rI, rS, rB, r8, rLI, rEtc, hy.p, hy.l, hy.k, hy.r, hy.d, hy.w, hy.f, flatIds, oid, r_laws_eqIntS, ↓G_unf _ _ b0_laws_eqIntS.eq_1, ↓G_unf _ _ k1_laws_eqIntS.eq_1, ↓G_unf _ _ c_laws_eqIntS.eq_1, gH_succ, ih, bind_ite, laws_eqIntS_l0, rFile, rRow78, rRow3, rRow53, rRow35, rArray, rRow39, rRow5, rRow9, rMap97, rLog, ↓reduceIte, Nat.reduceMul, Nat.reduceAdd, Nat.reduceSub, Nat.reduceEqDiff, Nat.reduceBEq, Nat.reduceLeDiff, Nat.reduceLT, reduceCtorEq, Int.reduceAdd, Int.reduceSub, Int.reduceToNat, Int.reduceNeg, Int.reduceEq, Int.reduceLT, Int.reduceLE]
theorem laws_eqIntS_g (E : En) (hy : Hy E [] [] [] r_laws_eqIntS none (fun y => nocap y) flatIds) (a0 : List Int) (a1 : List Int) : G E c_laws_eqIntS [] ⟨slotsOf [(0, .d (lstT cI a0)), (1, .d (lstT cI a1))], obsOf []⟩ = (laws_eqIntS_f E.n a0 a1).bind fun r => some (.ret (.d (.bool r)) []) := by
  simp (config := {maxSteps := 2000000}) only [↓rPre, rPost, rCan, rObj, rI, rS, rB, r8, rLI, rEtc, hy.p, hy.l, hy.k, hy.r, hy.d, hy.w, hy.f, flatIds, oid, r_laws_eqIntS, ↓G_unf _ _ b0_laws_eqIntS.eq_1, ↓G_unf _ _ k1_laws_eqIntS.eq_1, ↓G_unf _ _ c_laws_eqIntS.eq_1, bind_ite, laws_eqIntS_f, laws_eqIntS_l0_eq E hy, rFile, rRow78, rRow3, rRow53, rRow35, rArray, rRow39, rRow5, rRow9, rMap97, rLog, ↓reduceIte, Nat.reduceMul, Nat.reduceAdd, Nat.reduceSub, Nat.reduceEqDiff, Nat.reduceBEq, Nat.reduceLeDiff, Nat.reduceLT, reduceCtorEq, Int.reduceAdd, Int.reduceSub, Int.reduceToNat, Int.reduceNeg, Int.reduceEq, Int.reduceLT, Int.reduceLE]
def H_laws_eqIntS (E : En) (L : (List Int) → (List Int) → Option (Bool)) : Prop := E.Γ.mu 58 = false ∧ (∀ (a0 : List Int) (a1 : List Int), E.Γ 58 [.d (lstT cI a0), .d (lstT cI a1)] = (L a0 a1).bind fun r => some (.ret (.d (.bool r)) []))
-- loop.example/s02135/laws.eqArray
def c_laws_eqArray : Cd :=
  sq (r [2, 3] [o 2 .box [t 0], o 3 .box [t 1], o 4 .mv [b false]])
  (sq (sq (r [2, 3, 10] [o 5 (.fa 0) [t 2], o 6 (.ld none) [t 5], o 7 (.fa 0) [t 3], o 8 (.ld none) [t 7], o 9 (.call 58) [t 6, t 8], o 10 .not [t 9]])
    (.cond (t 10) (sq (r [4] [o 4 .mv [b false]])
      (.ret)) (.skip)))
   (sq (sq (r [16] [o 11 (.fa 1) [t 2], o 12 (.ld none) [t 11], o 13 (.fa 1) [t 3], o 14 (.ld none) [t 13], o 15 (.call 58) [t 12, t 14], o 16 .not [t 15]])
     (.cond (t 16) (sq (r [4] [o 4 .mv [b false]])
       (.ret)) (.skip)))
    (sq (r [4] [o 4 .mv [b true]])
     (.ret))))
def r_laws_eqArray : List RV := [.tmp 4]
def laws_eqArray_f (L_laws_eqIntS : (List Int) → (List Int) → Option (Bool)) (N : Nat) (a0_Shape : List Int) (a0_Data : List Int) (a1_Shape : List Int) (a1_Data : List Int) : Option (Bool) :=
  (L_laws_eqIntS a0_Shape a1_Shape).bind fun y0 =>
  if y0 = false then some false
  else ((L_laws_eqIntS a0_Data a1_Data).bind fun y1 =>
   if y1 = false then some false
   else some true)
theorem laws_eqArray_g (E : En) (hy : Hy E [] [] [] r_laws_eqArray none (fun y => nocap y) flatIds) (L_laws_eqIntS : (List Int) → (List Int) → Option (Bool)) (h_laws_eqIntS : H_laws_eqIntS E L_laws_eqIntS) (a0_Shape : List Int) (a0_Data : List Int) (a1_Shape : List Int) (a1_Data : List Int) : G E c_laws_eqArray [] ⟨slotsOf [(0, .agg [.d (lstT cI a0_Shape), .d (lstT cI a0_Data)]), (1, .agg [.d (lstT cI a1_Shape), .d (lstT cI a1_Data)])], obsOf []⟩ = (laws_eqArray_f L_laws_eqIntS E.n a0_Shape a0_Data a1_Shape a1_Data).bind fun r => some (.ret (.d (.bool r)) []) := by
  simp (config := {maxSteps := 2000000}) only [↓rPre, rPost, rCan, rObj, rI, rS, rB, r8, rLI, rEtc, hy.p, hy.l, hy.k, hy.r, hy.d, hy.w, hy.f, flatIds, oid, r_laws_eqArray, ↓G_unf _ _ c_laws_eqArray.eq_1, h_laws_eqIntS.2, h_laws_eqIntS.1, bind_ite, laws_eqArray_f, rFile, rRow78, rRow3, rRow53, rRow35, rArray, rRow39, rRow5, rRow9, rMap97, rLog, ↓reduceIte, Nat.reduceMul, Nat.reduceAdd, Nat.reduceSub, Nat.reduceEqDiff, Nat.reduceBEq, Nat.reduceLeDiff, Nat.reduceLT, reduceCtorEq, Int.reduceAdd, Int.reduceSub, Int.reduceToNat, Int.reduceNeg, Int.reduceEq, Int.reduceLT, Int.reduceLE]
def H_laws_eqArray (E : En) (L : (List Int) → (List Int) → (List Int) → (List Int) → Option (Bool)) : Prop := E.Γ.mu 17 = false ∧ (∀ (a0_Shape : List Int) (a0_Data : List Int) (a1_Shape : List Int) (a1_Data : List Int), E.Γ 17 [.agg [.d (lstT cI a0_Shape), .d (lstT cI a0_Data)], .agg [.d (lstT cI a1_Shape), .d (lstT cI a1_Data)]] = (L a0_Shape a0_Data a1_Shape a1_Data).bind fun r => some (.ret (.d (.bool r)) []))
-- loop.example/s02135/laws.markIntS
def b0_laws_markIntS : Cd :=
  sq (sq (r [0, 1, 5, 9] [o 6 .mv [t 5], o 7 .mv [t 0], o 8 (.len false) [t 7], o 9 (.bin .lss) [t 6, t 8]])
   (.cond (t 9) (.skip) (.exit 0)))
  (sq (.block 1 (sq (r [0, 1, 5] [o 12 .mv [t 0], o 13 .mv [t 5], o 14 .mv [t 1], o 15 (.ia 1) [t 12, t 13], e (.st 1) [t 15, t 14]])
     (r [0, 1, 5] [o 16 .mv [t 1], o 17 (.bin .add) [t 16, i 1], o 1 .mv [t 17]])))
   (r [0, 1, 5] [o 10 .mv [t 5], o 11 (.bin .add) [t 10, i 1], o 5 .mv [t 11]]))
def k1_laws_markIntS : Cd :=
  sq (r [4] [o 18 .mv [t 1], o 4 .mv [t 18]])
  (.ret)
def c_laws_markIntS : Cd :=
  sq (r [0, 1] [o 4 .mv [i 0]])
  (sq (sq (r [0, 1, 5] [o 5 .mv [i 0]])
    (.block 0 (.loop [0, 1, 5] b0_laws_markIntS))) k1_laws_markIntS)
def r_laws_markIntS : List RV := [.tmp 4]
def laws_markIntS_l0 : Nat → Int → Int → (List Int) → Option (Int × List Int)
  | 0, _, _, _ => none
  | m0 + 1, x1, x5, o0 =>
    if x5 < (↑(List.length o0) : Int) then (if 0 ≤ x5 ∧ x5 < (↑(List.length o0) : Int) then ((setN o0 (Int.toNat x5) x1).bind fun y0 =>
      laws_markIntS_l0 m0 (w64 (x1 + 1)) (w64 (x5 + 1)) y0)
     else none)
    else some ((x1, o0))
def laws_markIntS_f (N : Nat) (a0 : List Int) (a1 : Int) : Option (Int × List Int) :=
  laws_markIntS_l0 N a1 0 a0
theorem laws_markIntS_l0_eq (E : En) (hy : Hy E [0] [0] [(0, .row 3 1)] r_laws_markIntS none (fun y => nocap y) flatIds) : ∀ (m0 : Nat) (x1 : Int) (x5 : Int) (o0 : List Int), gH E [0, 1, 5] b0_laws_markIntS [KJ.b 0, KJ.c k1_laws_markIntS] m0 ⟨slotsOf [(0, A.row 0 1), (1, .d (.int .i64 x1)), (5, .d (.int .i64 x5))], obsOf [(0, ⟨1, rowT (cI) 3 none o0, false⟩)]⟩ = (laws_markIntS_l0 m0 x1 x5 o0).bind fun r => some (.ret (.d (.int .i64 r.1)) [[lstT (cI) r.2]]) := by
  intro m0
  induction m0 with
  | zero => intros; rfl
  | succ m0 ih =>
    intros
    simp (config := {maxSteps := 2000000}) only [↓rPre, rPost, rCan, rObj, rI, rS, rB, r8, rLI, rEtc, hy.p, hy.l, hy.k, hy.r, hy.d, hy.w, hy.f, flatIds, oid, r_laws_markIntS, ↓G_unf _ _ b0_laws_markIntS.eq_1, ↓G_unf _ _ k1_laws_markIntS.eq_1, ↓G_unf _ _ c_laws_markIntS.eq_1, gH_succ, ih, bind_ite, laws_markIntS_l0, rFile, rRow78, rRow3, rRow53, rRow35, rArray, rRow39, rRow5, rRow9, rMap97, rLog, ↓reduceIte, Nat.reduceMul, Nat.reduceAdd, Nat.reduceSub, Nat.reduceEqDiff, Nat.reduceBEq, Nat.reduceLeDiff, Nat.reduceLT, reduceCtorEq, Int.reduceAdd, Int.reduceSub, Int.reduceToNat, Int.reduceNeg, Int.reduceEq, Int.reduceLT, Int.reduceLE]
theorem laws_markIntS_g (E : En) (hy : Hy E [0] [0] [(0, .row 3 1)] r_laws_markIntS none (fun y => nocap y) flatIds) (a0 : List Int) (a1 : Int) : G E c_laws_markIntS [] ⟨slotsOf [(0, .row 0 1), (1, .d (.int .i64 a1))], obsOf [(0, ⟨1, rowT cI 3 none a0, false⟩)]⟩ = (laws_markIntS_f E.n a0 a1).bind fun r => some (.ret (.d (.int .i64 r.1)) [[lstT (cI) r.2]]) := by
  simp (config := {maxSteps := 2000000}) only [↓rPre, rPost, rCan, rObj, rI, rS, rB, r8, rLI, rEtc, hy.p, hy.l, hy.k, hy.r, hy.d, hy.w, hy.f, flatIds, oid, r_laws_markIntS, ↓G_unf _ _ b0_laws_markIntS.eq_1, ↓G_unf _ _ k1_laws_markIntS.eq_1, ↓G_unf _ _ c_laws_markIntS.eq_1, bind_ite, laws_markIntS_f, laws_markIntS_l0_eq E hy, rFile, rRow78, rRow3, rRow53, rRow35, rArray, rRow39, rRow5, rRow9, rMap97, rLog, ↓reduceIte, Nat.reduceMul, Nat.reduceAdd, Nat.reduceSub, Nat.reduceEqDiff, Nat.reduceBEq, Nat.reduceLeDiff, Nat.reduceLT, reduceCtorEq, Int.reduceAdd, Int.reduceSub, Int.reduceToNat, Int.reduceNeg, Int.reduceEq, Int.reduceLT, Int.reduceLE]
def H_laws_markIntS (E : En) (L : (List Int) → Int → Option (Int × List Int)) : Prop := E.Γ.mu 59 = true ∧ (∀ (a0 : List Int) (a1 : Int), E.Γ 59 [ownT cI 3 none false a0, .d (.int .i64 a1)] = (L a0 a1).bind fun r => some (.ret (.d (.int .i64 r.1)) [[lstT (cI) r.2]]))
-- loop.example/s02135/laws.markArray
def c_laws_markArray : Cd :=
  sq (r [1, 2] [o 2 .box [t 0], o 4 .mv [i 0]])
  (sq (r [1, 2] [o 5 (.fa 0) [t 2], o 6 (.ld none) [t 5], o 7 .mv [t 1], o 8 (.call 59) [t 6, t 7], o 1 .mv [t 8]])
   (sq (r [1] [o 9 (.fa 1) [t 2], o 10 (.ld none) [t 9], o 11 .mv [t 1], o 12 (.call 59) [t 10, t 11], o 1 .mv [t 12]])
    (sq (r [4] [o 13 .mv [t 1], o 4 .mv [t 13]])
     (.ret))))
def r_laws_markArray : List RV := [.tmp 4]
def laws_markArray_f (L_laws_markIntS : (List Int) → Int → Option (Int × List Int)) (N : Nat) (a0_Shape : List Int) (a0_Data : List Int) (a1 : Int) : Option (Int × List Int × List Int) :=
  (L_laws_markIntS a0_Shape a1).bind fun y0 =>
  (L_laws_markIntS a0_Data y0.fst).bind fun y1 =>
  some ((y1.fst, y0.snd, y1.snd))
theorem laws_markArray_g (E : En) (hy : Hy E [0, 1] [0, 1] [(0, .row 3 1), (1, .row 3 1)] r_laws_markArray none (fun y => nocap y) flatIds) (L_laws_markIntS : (List Int) → Int → Option (Int × List Int)) (h_laws_markIntS : H_laws_markIntS E L_laws_markIntS) (a0_Shape : List Int) (a0_Data : List Int) (a1 : Int) : G E c_laws_markArray [] ⟨slotsOf [(0, .agg [.row 0 1, .row 1 1]), (1, .d (.int .i64 a1))], obsOf [(0, ⟨1, rowT cI 3 none a0_Shape, false⟩), (1, ⟨1, rowT cI 3 none a0_Data, false⟩)]⟩ = (laws_markArray_f L_laws_markIntS E.n a0_Shape a0_Data a1).bind fun r => some (.ret (.d (.int .i64 r.1)) [[lstT (cI) r.2.1], [lstT (cI) r.2.2]]) := by
  simp (config := {maxSteps := 2000000}) only [↓rPre, rPost, rCan, rObj, rI, rS, rB, r8, rLI, rEtc, hy.p, hy.l, hy.k, hy.r, hy.d, hy.w, hy.f, flatIds, oid, r_laws_markArray, ↓G_unf _ _ c_laws_markArray.eq_1, h_laws_markIntS.2, h_laws_markIntS.1, bind_ite, laws_markArray_f, rFile, rRow78, rRow3, rRow53, rRow35, rArray, rRow39, rRow5, rRow9, rMap97, rLog, ↓reduceIte, Nat.reduceMul, Nat.reduceAdd, Nat.reduceSub, Nat.reduceEqDiff, Nat.reduceBEq, Nat.reduceLeDiff, Nat.reduceLT, reduceCtorEq, Int.reduceAdd, Int.reduceSub, Int.reduceToNat, Int.reduceNeg, Int.reduceEq, Int.reduceLT, Int.reduceLE]
def H_laws_markArray (E : En) (L : (List Int) → (List Int) → Int → Option (Int × List Int × List Int)) : Prop := E.Γ.mu 18 = true ∧ (∀ (a0_Shape : List Int) (a0_Data : List Int) (a1 : Int), E.Γ 18 [.agg [ownT cI 3 none false a0_Shape, ownT cI 3 none false a0_Data], .d (.int .i64 a1)] = (L a0_Shape a0_Data a1).bind fun r => some (.ret (.d (.int .i64 r.1)) [[lstT (cI) r.2.1], [lstT (cI) r.2.2]]))
-- loop.example/s02135/laws.heldIntS
def b0_laws_heldIntS : Cd :=
  sq (sq (r [0, 1, 5, 9] [o 6 .mv [t 5], o 7 .mv [t 0], o 8 (.len false) [t 7], o 9 (.bin .lss) [t 6, t 8]])
   (.cond (t 9) (.skip) (.exit 0)))
  (sq (.block 1 (sq (sq (r [0, 1, 5, 17] [o 12 .mv [t 0], o 13 .mv [t 5], o 14 (.ia 1) [t 12, t 13], o 15 (.ld none) [t 14], o 16 .mv [t 1], o 17 (.bin .neq) [t 15, t 16]])
      (.cond (t 17) (sq (r [4] [o 4 .mv [i (-1)]])
        (.ret)) (.skip)))
     (r [0, 1, 5] [o 18 .mv [t 1], o 19 (.bin .add) [t 18, i 1], o 1 .mv [t 19]])))
   (r [0, 1, 5] [o 10 .mv [t 5], o 11 (.bin .add) [t 10, i 1], o 5 .mv [t 11]]))
def k1_laws_heldIntS : Cd :=
  sq (r [4] [o 20 .mv [t 1], o 4 .mv [t 20]])
  (.ret)
def c_laws_heldIntS : Cd :=
  sq (r [0, 1] [o 4 .mv [i 0]])
  (sq (sq (r [0, 1, 5] [o 5 .mv [i 0]])
    (.block 0 (.loop [0, 1, 5] b0_laws_heldIntS))) k1_laws_heldIntS)
def r_laws_heldIntS : List RV := [.tmp 4]
def laws_heldIntS_l0 : Nat → (List Int) → Int → Int → Option (Int)
  | 0, _, _, _ => none
  | m0 + 1, x0, x1, x5 =>
    if x5 < (↑(List.length x0) : Int) then ((idx x0 x5).bind fun y0 =>
     if y0 = x1 then laws_heldIntS_l0 m0 x0 (w64 (x1 + 1)) (w64 (x5 + 1))
     else some (-1))
    else some x1
def laws_heldIntS_f (N : Nat) (a0 : List Int) (a1 : Int) : Option (Int) :=
  laws_heldIntS_l0 N a0 a1 0
theorem laws_heldIntS_l0_eq (E : En) (hy : Hy E [] [] [] r_laws_heldIntS none (fun y => nocap y) flatIds) : ∀ (m0 : Nat) (x0 : List Int) (x1 : Int) (x5 : Int), gH E [0, 1, 5] b0_laws_heldIntS [KJ.b 0, KJ.c k1_laws_heldIntS] m0 ⟨slotsOf [(0, .d (lstT (cI) x0)), (1, .d (.int .i64 x1)), (5, .d (.int .i64 x5))], obsOf []⟩ = (laws_heldIntS_l0 m0 x0 x1 x5).bind fun r => some (.ret (.d (.int .i64 r)) []) := by
  intro m0
  induction m0 with
  | zero => intros; rfl
  | succ m0 ih =>
    intros
    simp (config := {maxSteps := 2000000}) only [↓rPre, rPost, rCan, rObj, rI, rS, rB, r8, rLI, rEtc, hy.p, hy.l, hy.k, hy.r, hy.d, hy.w, hy.f, flatIds, oid, r_laws_heldIntS, ↓G_unf _ _ b0_laws_heldIntS.eq_1, ↓G_unf _ _ k1_laws_heldIntS.eq_1, ↓G_unf _ _ c_laws_heldIntS.eq_1, gH_succ, ih, bind_ite, laws_heldIntS_l0, rFile, rRow78, rRow3, rRow53, rRow35, rArray, rRow39, rRow5, rRow9, rMap97, rLog, ↓reduceIte, Nat.reduceMul, Nat.reduceAdd, Nat.reduceSub, Nat.reduceEqDiff, Nat.reduceBEq, Nat.reduceLeDiff, Nat.reduceLT, reduceCtorEq, Int.reduceAdd, Int.reduceSub, Int.reduceToNat, Int.reduceNeg, Int.reduceEq, Int.reduceLT, Int.reduceLE]
theorem laws_heldIntS_g (E : En) (hy : Hy E [] [] [] r_laws_heldIntS none (fun y => nocap y) flatIds) (a0 : List Int) (a1 : Int) : G E c_laws_heldIntS [] ⟨slotsOf [(0, .d (lstT cI a0)), (1, .d (.int .i64 a1))], obsOf []⟩ = (laws_heldIntS_f E.n a0 a1).bind fun r => some (.ret (.d (.int .i64 r)) []) := by
  simp (config := {maxSteps := 2000000}) only [↓rPre, rPost, rCan, rObj, rI, rS, rB, r8, rLI, rEtc, hy.p, hy.l, hy.k, hy.r, hy.d, hy.w, hy.f, flatIds, oid, r_laws_heldIntS, ↓G_unf _ _ b0_laws_heldIntS.eq_1, ↓G_unf _ _ k1_laws_heldIntS.eq_1, ↓G_unf _ _ c_laws_heldIntS.eq_1, bind_ite, laws_heldIntS_f, laws_heldIntS_l0_eq E hy, rFile, rRow78, rRow3, rRow53, rRow35, rArray, rRow39, rRow5, rRow9, rMap97, rLog, ↓reduceIte, Nat.reduceMul, Nat.reduceAdd, Nat.reduceSub, Nat.reduceEqDiff, Nat.reduceBEq, Nat.reduceLeDiff, Nat.reduceLT, reduceCtorEq, Int.reduceAdd, Int.reduceSub, Int.reduceToNat, Int.reduceNeg, Int.reduceEq, Int.reduceLT, Int.reduceLE]
def H_laws_heldIntS (E : En) (L : (List Int) → Int → Option (Int)) : Prop := E.Γ.mu 60 = false ∧ (∀ (a0 : List Int) (a1 : Int), E.Γ 60 [.d (lstT cI a0), .d (.int .i64 a1)] = (L a0 a1).bind fun r => some (.ret (.d (.int .i64 r)) []))
-- loop.example/s02135/laws.heldArray
def c_laws_heldArray : Cd :=
  sq (r [1, 2] [o 2 .box [t 0], o 4 .mv [i 0]])
  (sq (r [1, 2] [o 5 (.fa 0) [t 2], o 6 (.ld none) [t 5], o 7 .mv [t 1], o 8 (.call 60) [t 6, t 7], o 1 .mv [t 8]])
   (sq (sq (r [1, 2, 10] [o 9 .mv [t 1], o 10 (.bin .lss) [t 9, i 0]])
     (.cond (t 10) (sq (r [4] [o 4 .mv [i (-1)]])
       (.ret)) (.skip)))
    (sq (r [1] [o 11 (.fa 1) [t 2], o 12 (.ld none) [t 11], o 13 .mv [t 1], o 14 (.call 60) [t 12, t 13], o 1 .mv [t 14]])
     (sq (sq (r [1, 16] [o 15 .mv [t 1], o 16 (.bin .lss) [t 15, i 0]])
       (.cond (t 16) (sq (r [4] [o 4 .mv [i (-1)]])
         (.ret)) (.skip)))
      (sq (r [4] [o 17 .mv [t 1], o 4 .mv [t 17]])
       (.ret))))))
def r_laws_heldArray : List RV := [.tmp 4]
def laws_heldArray_f (L_laws_heldIntS : (List Int) → Int → Option (Int)) (N : Nat) (a0_Shape : List Int) (a0_Data : List Int) (a1 : Int) : Option (Int) :=
  (L_laws_heldIntS a0_Shape a1).bind fun y0 =>
  if y0 < 0 then some (-1)
  else ((L_laws_heldIntS a0_Data y0).bind fun y1 =>
   if y1 < 0 then some (-1)
   else some y1)
theorem laws_heldArray_g (E : En) (hy : Hy E [] [] [] r_laws_heldArray none (fun y => nocap y) flatIds) (L_laws_heldIntS : (List Int) → Int → Option (Int)) (h_laws_heldIntS : H_laws_heldIntS E L_laws_heldIntS) (a0_Shape : List Int) (a0_Data : List Int) (a1 : Int) : G E c_laws_heldArray [] ⟨slotsOf [(0, .agg [.d (lstT cI a0_Shape), .d (lstT cI a0_Data)]), (1, .d (.int .i64 a1))], obsOf []⟩ = (laws_heldArray_f L_laws_heldIntS E.n a0_Shape a0_Data a1).bind fun r => some (.ret (.d (.int .i64 r)) []) := by
  simp (config := {maxSteps := 2000000}) only [↓rPre, rPost, rCan, rObj, rI, rS, rB, r8, rLI, rEtc, hy.p, hy.l, hy.k, hy.r, hy.d, hy.w, hy.f, flatIds, oid, r_laws_heldArray, ↓G_unf _ _ c_laws_heldArray.eq_1, h_laws_heldIntS.2, h_laws_heldIntS.1, bind_ite, laws_heldArray_f, rFile, rRow78, rRow3, rRow53, rRow35, rArray, rRow39, rRow5, rRow9, rMap97, rLog, ↓reduceIte, Nat.reduceMul, Nat.reduceAdd, Nat.reduceSub, Nat.reduceEqDiff, Nat.reduceBEq, Nat.reduceLeDiff, Nat.reduceLT, reduceCtorEq, Int.reduceAdd, Int.reduceSub, Int.reduceToNat, Int.reduceNeg, Int.reduceEq, Int.reduceLT, Int.reduceLE]
def H_laws_heldArray (E : En) (L : (List Int) → (List Int) → Int → Option (Int)) : Prop := E.Γ.mu 19 = false ∧ (∀ (a0_Shape : List Int) (a0_Data : List Int) (a1 : Int), E.Γ 19 [.agg [.d (lstT cI a0_Shape), .d (lstT cI a0_Data)], .d (.int .i64 a1)] = (L a0_Shape a0_Data a1).bind fun r => some (.ret (.d (.int .i64 r)) []))
-- loop.example/s02135/spec.l1Product
def b0_spec_l1Product : Cd :=
  sq (sq (r [0, 3, 4, 8] [o 5 .mv [t 4], o 6 .mv [t 0], o 7 (.len false) [t 6], o 8 (.bin .lss) [t 5, t 7]])
   (.cond (t 8) (.skip) (.exit 0)))
  (sq (.block 1 (sq (r [0, 3, 4] [o 11 .mv [t 3], o 12 .mv [t 0], o 13 .mv [t 4], o 14 (.ia 1) [t 12, t 13], o 15 (.ld none) [t 14], o 16 (.bin .mul) [t 11, t 15], o 3 .mv [t 16]])
     (sq (r [0, 3, 4, 18] [o 17 .mv [t 3], o 18 (.bin .gtr) [t 17, i 1000]])
      (.cond (t 18) (r [0, 3, 4] [o 3 .mv [i 1001]]) (.skip)))))
   (r [0, 3, 4] [o 9 .mv [t 4], o 10 (.bin .add) [t 9, i 1], o 4 .mv [t 10]]))
def k1_spec_l1Product : Cd :=
  sq (r [2] [o 19 .mv [t 3], o 2 .mv [t 19]])
  (.ret)
def c_spec_l1Product : Cd :=
  sq (r [0] [o 2 .mv [i 0]])
  (sq (r [0, 3] [o 3 .mv [i 1]])
   (sq (sq (r [0, 3, 4] [o 4 .mv [i 0]])
     (.block 0 (.loop [0, 3, 4] b0_spec_l1Product))) k1_spec_l1Product))
def r_spec_l1Product : List RV := [.tmp 2]
def spec_l1Product_l0 : Nat → (List Int) → Int → Int → Option (Int)
  | 0, _, _, _ => none
  | m0 + 1, x0, x3, x4 =>
    if x4 < (↑(List.length x0) : Int) then ((idx x0 x4).bind fun y0 =>
     if 1000 < w64 (x3 * y0) then spec_l1Product_l0 m0 x0 1001 (w64 (x4 + 1))
     else spec_l1Product_l0 m0 x0 (w64 (x3 * y0)) (w64 (x4 + 1)))
    else some x3
def spec_l1Product_f (N : Nat) (a0 : List Int) : Option (Int) :=
  spec_l1Product_l0 N a0 1 0
theorem spec_l1Product_l0_eq (E : En) (hy : Hy E [] [] [] r_spec_l1Product none (fun y => nocap y) flatIds) : ∀ (m0 : Nat) (x0 : List Int) (x3 : Int) (x4 : Int), gH E [0, 3, 4] b0_spec_l1Product [KJ.b 0, KJ.c k1_spec_l1Product] m0 ⟨slotsOf [(0, .d (lstT (cI) x0)), (3, .d (.int .i64 x3)), (4, .d (.int .i64 x4))], obsOf []⟩ = (spec_l1Product_l0 m0 x0 x3 x4).bind fun r => some (.ret (.d (.int .i64 r)) []) := by
  intro m0
  induction m0 with
  | zero => intros; rfl
  | succ m0 ih =>
    intros
    simp (config := {maxSteps := 2000000}) only [↓rPre, rPost, rCan, rObj, rI, rS, rB, r8, rLI, rEtc, hy.p, hy.l, hy.k, hy.r, hy.d, hy.w, hy.f, flatIds, oid, r_spec_l1Product, ↓G_unf _ _ b0_spec_l1Product.eq_1, ↓G_unf _ _ k1_spec_l1Product.eq_1, ↓G_unf _ _ c_spec_l1Product.eq_1, gH_succ, ih, bind_ite, spec_l1Product_l0, rFile, rRow78, rRow3, rRow53, rRow35, rArray, rRow39, rRow5, rRow9, rMap97, rLog, ↓reduceIte, Nat.reduceMul, Nat.reduceAdd, Nat.reduceSub, Nat.reduceEqDiff, Nat.reduceBEq, Nat.reduceLeDiff, Nat.reduceLT, reduceCtorEq, Int.reduceAdd, Int.reduceSub, Int.reduceToNat, Int.reduceNeg, Int.reduceEq, Int.reduceLT, Int.reduceLE]
theorem spec_l1Product_g (E : En) (hy : Hy E [] [] [] r_spec_l1Product none (fun y => nocap y) flatIds) (a0 : List Int) : G E c_spec_l1Product [] ⟨slotsOf [(0, .d (lstT cI a0))], obsOf []⟩ = (spec_l1Product_f E.n a0).bind fun r => some (.ret (.d (.int .i64 r)) []) := by
  simp (config := {maxSteps := 2000000}) only [↓rPre, rPost, rCan, rObj, rI, rS, rB, r8, rLI, rEtc, hy.p, hy.l, hy.k, hy.r, hy.d, hy.w, hy.f, flatIds, oid, r_spec_l1Product, ↓G_unf _ _ b0_spec_l1Product.eq_1, ↓G_unf _ _ k1_spec_l1Product.eq_1, ↓G_unf _ _ c_spec_l1Product.eq_1, bind_ite, spec_l1Product_f, spec_l1Product_l0_eq E hy, rFile, rRow78, rRow3, rRow53, rRow35, rArray, rRow39, rRow5, rRow9, rMap97, rLog, ↓reduceIte, Nat.reduceMul, Nat.reduceAdd, Nat.reduceSub, Nat.reduceEqDiff, Nat.reduceBEq, Nat.reduceLeDiff, Nat.reduceLT, reduceCtorEq, Int.reduceAdd, Int.reduceSub, Int.reduceToNat, Int.reduceNeg, Int.reduceEq, Int.reduceLT, Int.reduceLE]
def H_spec_l1Product (E : En) (L : (List Int) → Option (Int)) : Prop := E.Γ.mu 85 = false ∧ (∀ (a0 : List Int), E.Γ 85 [.d (lstT cI a0)] = (L a0).bind fun r => some (.ret (.d (.int .i64 r)) []))
-- loop.example/s02135/spec.l1Fits
def b0_spec_l1Fits : Cd :=
  sq (sq (r [0, 3, 10] [o 7 .mv [t 3], o 8 .mv [t 0], o 9 (.len false) [t 8], o 10 (.bin .lss) [t 7, t 9]])
   (.cond (t 10) (.skip) (.exit 0)))
  (sq (.block 1 (sq (r [0, 3, 24] [o 13 .mv [t 0], o 14 .mv [t 3], o 15 (.ia 1) [t 13, t 14], o 16 (.ld none) [t 15], o 17 (.bin .lss) [t 16, i 0], o 18 .mv [t 17], g 18 false 19 .mv [t 0], g 18 false 20 .mv [t 3], g 18 false 21 (.ia 1) [t 19, t 20], g 18 false 22 (.ld none) [t 21], g 18 false 23 (.bin .gtr) [t 22, i 1000], o 24 .pick [t 18, b true, t 23]])
     (.cond (t 24) (sq (r [2] [o 2 .mv [b false]])
       (.ret)) (.skip))))
   (r [0, 3] [o 11 .mv [t 3], o 12 (.bin .add) [t 11, i 1], o 3 .mv [t 12]]))
def k1_spec_l1Fits : Cd :=
  sq (r [2] [o 25 .mv [t 0], o 26 (.call 85) [t 25], o 27 (.bin .leq) [t 26, i 1000], o 2 .mv [t 27]])
  (.ret)
def c_spec_l1Fits : Cd :=
  sq (r [0] [o 2 .mv [b false]])
  (sq (sq (r [0, 6] [o 4 .mv [t 0], o 5 (.len false) [t 4], o 6 (.bin .gtr) [t 5, i 3]])
    (.cond (t 6) (sq (r [2] [o 2 .mv [b false]])
      (.ret)) (.skip)))
   (sq (sq (r [0, 3] [o 3 .mv [i 0]])
     (.block 0 (.loop [0, 3] b0_spec_l1Fits))) k1_spec_l1Fits))
def r_spec_l1Fits : List RV := [.tmp 2]
def spec_l1Fits_l0 (L_spec_l1Product : (List Int) → Option (Int)) : Nat → (List Int) → Int → Option (Bool)
  | 0, _, _ => none
  | m0 + 1, x0, x3 =>
    if x3 < (↑(List.length x0) : Int) then ((idx x0 x3).bind fun y0 =>
     if y0 < 0 then some false
     else ((idx x0 x3).bind fun y1 =>
      if 1000 < y1 then some false
      else spec_l1Fits_l0 L_spec_l1Product m0 x0 (w64 (x3 + 1))))
    else ((L_spec_l1Product x0).bind fun y2 =>
     some (Decidable.decide (y2 ≤ 1000)))
def spec_l1Fits_f (L_spec_l1Product : (List Int) → Option (Int)) (N : Nat) (a0 : List Int) : Option (Bool) :=
  if 3 < (↑(List.length a0) : Int) then some false
  else spec_l1Fits_l0 L_spec_l1Product N a0 0
theorem spec_l1Fits_l0_eq (E : En) (hy : Hy E [] [] [] r_spec_l1Fits none (fun y => nocap y) flatIds) (L_spec_l1Product : (List Int) → Option (Int)) (h_spec_l1Product : H_spec_l1Product E L_spec_l1Product) : ∀ (m0 : Nat) (x0 : List Int) (x3 : Int), gH E [0, 3] b0_spec_l1Fits [KJ.b 0, KJ.c k1_spec_l1Fits] m0 ⟨slotsOf [(0, .d (lstT (cI) x0)), (3, .d (.int .i64 x3))], obsOf []⟩ = (spec_l1Fits_l0 L_spec_l1Product m0 x0 x3).bind fun r => some (.ret (.d (.bool r)) []) := by
  intro m0
  induction m0 with
  | zero => intros; rfl
  | succ m0 ih =>
    intros
    simp (config := {maxSteps := 2000000}) only [↓rPre, rPost, rCan, rObj, rI, rS, rB, r8, rLI, rEtc, hy.p, hy.l, hy.k, hy.r, hy.d, hy.w, hy.f, flatIds, oid, r_spec_l1Fits, ↓G_unf _ _ b0_spec_l1Fits.eq_1, ↓G_unf _ _ k1_spec_l1Fits.eq_1, ↓G_unf _ _ c_spec_l1Fits.eq_1, h_spec_l1Product.2, h_spec_l1Product.1, gH_succ, ih, bind_ite, spec_l1Fits_l0, rFile, rRow78, rRow3, rRow53, rRow35, rArray, rRow39, rRow5, rRow9, rMap97, rLog, ↓reduceIte, Nat.reduceMul, Nat.reduceAdd, Nat.reduceSub, Nat.reduceEqDiff, Nat.reduceBEq, Nat.reduceLeDiff, Nat.reduceLT, reduceCtorEq, Int.reduceAdd, Int.reduceSub, Int.reduceToNat, Int.reduceNeg, Int.reduceEq, Int.reduceLT, Int.reduceLE]
theorem spec_l1Fits_g (E : En) (hy : Hy E [] [] [] r_spec_l1Fits none (fun y => nocap y) flatIds) (L_spec_l1Product : (List Int) → Option (Int)) (h_spec_l1Product : H_spec_l1Product E L_spec_l1Product) (a0 : List Int) : G E c_spec_l1Fits [] ⟨slotsOf [(0, .d (lstT cI a0))], obsOf []⟩ = (spec_l1Fits_f L_spec_l1Product E.n a0).bind fun r => some (.ret (.d (.bool r)) []) := by
  simp (config := {maxSteps := 2000000}) only [↓rPre, rPost, rCan, rObj, rI, rS, rB, r8, rLI, rEtc, hy.p, hy.l, hy.k, hy.r, hy.d, hy.w, hy.f, flatIds, oid, r_spec_l1Fits, ↓G_unf _ _ b0_spec_l1Fits.eq_1, ↓G_unf _ _ k1_spec_l1Fits.eq_1, ↓G_unf _ _ c_spec_l1Fits.eq_1, h_spec_l1Product.2, h_spec_l1Product.1, bind_ite, spec_l1Fits_f, spec_l1Fits_l0_eq E hy L_spec_l1Product h_spec_l1Product, rFile, rRow78, rRow3, rRow53, rRow35, rArray, rRow39, rRow5, rRow9, rMap97, rLog, ↓reduceIte, Nat.reduceMul, Nat.reduceAdd, Nat.reduceSub, Nat.reduceEqDiff, Nat.reduceBEq, Nat.reduceLeDiff, Nat.reduceLT, reduceCtorEq, Int.reduceAdd, Int.reduceSub, Int.reduceToNat, Int.reduceNeg, Int.reduceEq, Int.reduceLT, Int.reduceLE]
def H_spec_l1Fits (E : En) (L : (List Int) → Option (Bool)) : Prop := E.Γ.mu 84 = false ∧ (∀ (a0 : List Int), E.Γ 84 [.d (lstT cI a0)] = (L a0).bind fun r => some (.ret (.d (.bool r)) []))
-- loop.example/s02135/spec.ArrayOk
def b0_spec_ArrayOk : Cd :=
  sq (sq (r [1, 3, 21] [o 17 .mv [t 3], o 18 (.fa 1) [t 1], o 19 (.ld none) [t 18], o 20 (.len false) [t 19], o 21 (.bin .lss) [t 17, t 20]])
   (.cond (t 21) (.skip) (.exit 0)))
  (sq (.block 1 (sq (r [1, 3, 37] [o 24 (.fa 1) [t 1], o 25 (.ld none) [t 24], o 26 .mv [t 3], o 27 (.ia 1) [t 25, t 26], o 28 (.ld none) [t 27], o 29 (.bin .lss) [t 28, i (-3000000000)], o 30 .mv [t 29], g 30 false 31 (.fa 1) [t 1], g 30 false 32 (.ld none) [t 31], g 30 false 33 .mv [t 3], g 30 false 34 (.ia 1) [t 32, t 33], g 30 false 35 (.ld none) [t 34], g 30 false 36 (.bin .gtr) [t 35, i 3000000000], o 37 .pick [t 30, b true, t 36]])
     (.cond (t 37) (sq (r [2] [o 2 .mv [b false]])
       (.ret)) (.skip))))
   (r [1, 3] [o 22 .mv [t 3], o 23 (.bin .add) [t 22, i 1], o 3 .mv [t 23]]))
def k1_spec_ArrayOk : Cd :=
  sq (r [2] [o 2 .mv [b true]])
  (.ret)
def c_spec_ArrayOk : Cd :=
  sq (r [1] [o 1 .box [t 0], o 2 .mv [b false]])
  (sq (sq (rd [] [1, 16] [o 4 (.fa 0) [t 1], o 5 (.ld none) [t 4], o 6 (.call 84) [t 5], o 7 .not [t 6], o 8 .mv [t 7], g 8 false 9 (.fa 1) [t 1], g 8 false 10 (.ld none) [t 9], g 8 false 11 (.len false) [t 10], g 8 false 12 (.fa 0) [t 1], g 8 false 13 (.ld none) [t 12], ap [] false [1, 8, 9, 8, 10, 8] (g 8 false 14 (.call 85) [t 13]), g 8 false 15 (.bin .neq) [t 11, t 14], o 16 .pick [t 8, b true, t 15]])
    (.cond (t 16) (sq (r [2] [o 2 .mv [b false]])
      (.ret)) (.skip)))
   (sq (sq (r [1, 3] [o 3 .mv [i 0]])
     (.block 0 (.loop [1, 3] b0_spec_ArrayOk))) k1_spec_ArrayOk))
def r_spec_ArrayOk : List RV := [.tmp 2]
def spec_ArrayOk_l0 (L_spec_l1Fits : (List Int) → Option (Bool)) (L_spec_l1Product : (List Int) → Option (Int)) : Nat → Int → (List Int) → (List Int) → Option (Bool)
  | 0, _, _, _ => none
  | m0 + 1, x3, o64_0, o64_1 =>
    if x3 < (↑(List.length o64_1) : Int) then ((idx o64_1 x3).bind fun y0 =>
     if y0 < -3000000000 then some false
     else ((idx o64_1 x3).bind fun y1 =>
      if 3000000000 < y1 then some false
      else spec_ArrayOk_l0 L_spec_l1Fits L_spec_l1Product m0 (w64 (x3 + 1)) o64_0 o64_1))
    else some true
def spec_ArrayOk_f (L_spec_l1Fits : (List Int) → Option (Bool)) (L_spec_l1Product : (List Int) → Option (Int)) (N : Nat) (a0_Shape : List Int) (a0_Data : List Int) : Option (Bool) :=
  (L_spec_l1Fits a0_Shape).bind fun y0 =>
  if y0 = false then some false
  else ((L_spec_l1Product a0_Shape).bind fun y1 =>
   if (↑(List.length a0_Data) : Int) = y1 then spec_ArrayOk_l0 L_spec_l1Fits L_spec_l1Product N 0 a0_Shape a0_Data
   else some false)
theorem spec_ArrayOk_l0_eq (E : En) (hy : Hy E [] [] [] r_spec_ArrayOk none (fun y => nocap y) flatIds) (L_spec_l1Fits : (List Int) → Option (Bool)) (h_spec_l1Fits : H_spec_l1Fits E L_spec_l1Fits) (L_spec_l1Product : (List Int) → Option (Int)) (h_spec_l1Product : H_spec_l1Product E L_spec_l1Product) : ∀ (m0 : Nat) (x3 : Int) (o64_0 : List Int) (o64_1 : List Int), gH E [1, 3] b0_spec_ArrayOk [KJ.b 0, KJ.c k1_spec_ArrayOk] m0 ⟨slotsOf [(1, A.adr 64 1 0), (3, .d (.int .i64 x3))], obsOf [(64, ⟨1, .box [.d (lstT (cI) o64_0), .d (lstT (cI) o64_1)], false⟩)]⟩ = (spec_ArrayOk_l0 L_spec_l1Fits L_spec_l1Product m0 x3 o64_0 o64_1).bind fun r => some (.ret (.d (.bool r)) []) := by
  intro m0
  induction m0 with
  | zero => intros; rfl
  | succ m0 ih =>
    intros
    simp (config := {maxSteps := 2000000}) only [↓rPre, rPost, rCan, rObj, rI, rS, rB, r8, rLI, rEtc, hy.p, hy.l, hy.k, hy.r, hy.d, hy.w, hy.f, flatIds, oid, r_spec_ArrayOk, ↓G_unf _ _ b0_spec_ArrayOk.eq_1, ↓G_unf _ _ k1_spec_ArrayOk.eq_1, ↓G_unf _ _ c_spec_ArrayOk.eq_1, h_spec_l1Fits.2, h_spec_l1Fits.1, h_spec_l1Product.2, h_spec_l1Product.1, gH_succ, ih, bind_ite, spec_ArrayOk_l0, rFile, rRow78, rRow3, rRow53, rRow35, rArray, rRow39, rRow5, rRow9, rMap97, rLog, ↓reduceIte, Nat.reduceMul, Nat.reduceAdd, Nat.reduceSub, Nat.reduceEqDiff, Nat.reduceBEq, Nat.reduceLeDiff, Nat.reduceLT, reduceCtorEq, Int.reduceAdd, Int.reduceSub, Int.reduceToNat, Int.reduceNeg, Int.reduceEq, Int.reduceLT, Int.reduceLE]
theorem spec_ArrayOk_g (E : En) (hy : Hy E [] [] [] r_spec_ArrayOk none (fun y => nocap y) flatIds) (L_spec_l1Fits : (List Int) → Option (Bool)) (h_spec_l1Fits : H_spec_l1Fits E L_spec_l1Fits) (L_spec_l1Product : (List Int) → Option (Int)) (h_spec_l1Product : H_spec_l1Product E L_spec_l1Product) (a0_Shape : List Int) (a0_Data : List Int) : G E c_spec_ArrayOk [] ⟨slotsOf [(0, .agg [.d (lstT cI a0_Shape), .d (lstT cI a0_Data)])], obsOf []⟩ = (spec_ArrayOk_f L_spec_l1Fits L_spec_l1Product E.n a0_Shape a0_Data).bind fun r => some (.ret (.d (.bool r)) []) := by
  simp (config := {maxSteps := 2000000}) only [↓rPre, rPost, rCan, rObj, rI, rS, rB, r8, rLI, rEtc, hy.p, hy.l, hy.k, hy.r, hy.d, hy.w, hy.f, flatIds, oid, r_spec_ArrayOk, ↓G_unf _ _ b0_spec_ArrayOk.eq_1, ↓G_unf _ _ k1_spec_ArrayOk.eq_1, ↓G_unf _ _ c_spec_ArrayOk.eq_1, h_spec_l1Fits.2, h_spec_l1Fits.1, h_spec_l1Product.2, h_spec_l1Product.1, bind_ite, spec_ArrayOk_f, spec_ArrayOk_l0_eq E hy L_spec_l1Fits h_spec_l1Fits L_spec_l1Product h_spec_l1Product, rFile, rRow78, rRow3, rRow53, rRow35, rArray, rRow39, rRow5, rRow9, rMap97, rLog, ↓reduceIte, Nat.reduceMul, Nat.reduceAdd, Nat.reduceSub, Nat.reduceEqDiff, Nat.reduceBEq, Nat.reduceLeDiff, Nat.reduceLT, reduceCtorEq, Int.reduceAdd, Int.reduceSub, Int.reduceToNat, Int.reduceNeg, Int.reduceEq, Int.reduceLT, Int.reduceLE]
def H_spec_ArrayOk (E : En) (L : (List Int) → (List Int) → Option (Bool)) : Prop := E.Γ.mu 36 = false ∧ (∀ (a0_Shape : List Int) (a0_Data : List Int), E.Γ 36 [.agg [.d (lstT cI a0_Shape), .d (lstT cI a0_Data)]] = (L a0_Shape a0_Data).bind fun r => some (.ret (.d (.bool r)) []))
-- loop.example/s02135/spec.l2Copy
def c_spec_l2Copy : Cd :=
  sq (r [0] [o 2 .mv [n]])
  (sq (r [0, 3] [o 4 (lit 3 1 0) [], o 3 .mv [t 4]])
   (sq (r [2] [o 5 .mv [t 3], o 6 .mv [t 0], o 7 (.app 3 1 8) [t 5, t 6], o 2 .mv [t 7]])
    (.ret)))
def r_spec_l2Copy : List RV := [.tmp 2]
def spec_l2Copy_f (N : Nat) (a0 : List Int) : Option (List Int) :=
  if room 8 (List.length a0) then some a0
  else none
theorem spec_l2Copy_g (E : En) (hy : Hy E [] [] [] r_spec_l2Copy none (fun y => nocap y) flatIds) (a0 : List Int) : G E c_spec_l2Copy [] ⟨slotsOf [(0, .d (lstT cI a0))], obsOf []⟩ = (spec_l2Copy_f E.n a0).bind fun r => some (.ret (ownT (cI) 3 none false r) []) := by
  simp (config := {maxSteps := 2000000}) only [↓rPre, rPost, rCan, rObj, rI, rS, rB, r8, rLI, rEtc, hy.p, hy.l, hy.k, hy.r, hy.d, hy.w, hy.f, flatIds, oid, r_spec_l2Copy, ↓G_unf _ _ c_spec_l2Copy.eq_1, bind_ite, spec_l2Copy_f, rFile, rRow78, rRow3, rRow53, rRow35, rArray, rRow39, rRow5, rRow9, rMap97, rLog, ↓reduceIte, Nat.reduceMul, Nat.reduceAdd, Nat.reduceSub, Nat.reduceEqDiff, Nat.reduceBEq, Nat.reduceLeDiff, Nat.reduceLT, reduceCtorEq, Int.reduceAdd, Int.reduceSub, Int.reduceToNat, Int.reduceNeg, Int.reduceEq, Int.reduceLT, Int.reduceLE]
def H_spec_l2Copy (E : En) (L : (List Int) → Option (List Int)) : Prop := E.Γ.mu 43 = false ∧ (∀ (a0 : List Int), E.Γ 43 [.d (lstT cI a0)] = (L a0).bind fun r => some (.ret (ownT (cI) 3 none false r) []))
-- loop.example/s02135/impl.cellsOf
def b0_impl_cellsOf : Cd :=
  sq (r [4, 10, 11, 12, 13] [o 13 (.bin .lss) [t 12, t 11]])
  (sq (.cond (t 13) (.skip) (.exit 0))
   (sq (.block 1 (sq (r [4, 6, 10, 11, 12] [o 14 (.ia 1) [t 10, t 12], o 15 (.ld none) [t 14], o 6 .mv [t 15]])
      (sq (sq (r [4, 6, 10, 11, 12, 21] [o 16 .mv [t 6], o 17 (.bin .lss) [t 16, i 0], o 18 .mv [t 17], g 18 false 19 .mv [t 6], g 18 false 20 (.bin .gtr) [t 19, i 1000], o 21 .pick [t 18, b true, t 20]])
        (.cond (t 21) (sq (r [2, 3] [o 2 .mv [i 0], o 3 .mv [b false]])
          (.ret)) (.skip)))
       (r [4, 10, 11, 12] [o 22 .mv [t 4], o 23 .mv [t 6], o 24 (.bin .mul) [t 22, t 23], o 4 .mv [t 24]]))))
    (r [4, 10, 11, 12] [o 25 (.bin .add) [t 12, i 1], o 12 .mv [t 25]])))
def k1_impl_cellsOf : Cd :=
  sq (r [2, 3] [o 26 .mv [t 4], o 27 .mv [t 4], o 28 (.bin .leq) [t 27, i 1000], o 2 .mv [t 26], o 3 .mv [t 28]])
  (.ret)
def c_impl_cellsOf : Cd :=
  sq (r [0] [o 2 .mv [i 0], o 3 .mv [b false]])
  (sq (sq (r [0, 9] [o 7 .mv [t 0], o 8 (.len false) [t 7], o 9 (.bin .gtr) [t 8, i 3]])
    (.cond (t 9) (sq (r [2, 3] [o 2 .mv [i 0], o 3 .mv [b false]])
      (.ret)) (.skip)))
   (sq (r [0, 4] [o 4 .mv [i 1]])
    (sq (sq (r [4, 10, 11, 12] [o 10 .mv [t 0], o 11 (.len false) [t 10], o 12 .mv [i 0]])
      (.block 0 (.loop [4, 10, 11, 12] b0_impl_cellsOf))) k1_impl_cellsOf)))
def r_impl_cellsOf : List RV := [.tmp 2, .tmp 3]
def impl_cellsOf_l0 : Nat → Int → (List Int) → Int → Int → Option (Int × Bool)
  | 0, _, _, _, _ => none
  | m0 + 1, x4, x10, x11, x12 =>
    if x12 < x11 then ((idx x10 x12).bind fun y0 =>
     if y0 < 0 then some ((0, false))
     else (if 1000 < y0 then some ((0, false))
      else impl_cellsOf_l0 m0 (w64 (x4 * y0)) x10 x11 (w64 (x12 + 1))))
    else some ((x4, Decidable.decide (x4 ≤ 1000)))
def impl_cellsOf_f (N : Nat) (a0 : List Int) : Option (Int × Bool) :=
  if 3 < (↑(List.length a0) : Int) then some ((0, false))
  else impl_cellsOf_l0 N 1 a0 ((↑(List.length a0) : Int)) 0
theorem impl_cellsOf_l0_eq (E : En) (hy : Hy E [] [] [] r_impl_cellsOf none (fun y => nocap y) flatIds) : ∀ (m0 : Nat) (x4 : Int) (x10 : List Int) (x11 : Int) (x12 : Int), gH E [4, 10, 11, 12] b0_impl_cellsOf [KJ.b 0, KJ.c k1_impl_cellsOf] m0 ⟨slotsOf [(4, .d (.int .i64 x4)), (10, .d (lstT (cI) x10)), (11, .d (.int .i64 x11)), (12, .d (.int .i64 x12))], obsOf []⟩ = (impl_cellsOf_l0 m0 x4 x10 x11 x12).bind fun r => some (.ret (.tup [.d (.int .i64 r.1), .d (.bool r.2)]) []) := by
  intro m0
  induction m0 with
  | zero => intros; rfl
  | succ m0 ih =>
    intros
    simp (config := {maxSteps := 2000000}) only [↓rPre, rPost, rCan, rObj, rI, rS, rB, r8, rLI, rEtc, hy.p, hy.l, hy.k, hy.r, hy.d, hy.w, hy.f, flatIds, oid, r_impl_cellsOf, ↓G_unf _ _ b0_impl_cellsOf.eq_1, ↓G_unf _ _ k1_impl_cellsOf.eq_1, ↓G_unf _ _ c_impl_cellsOf.eq_1, gH_succ, ih, bind_ite, impl_cellsOf_l0, rFile, rRow78, rRow3, rRow53, rRow35, rArray, rRow39, rRow5, rRow9, rMap97, rLog, ↓reduceIte, Nat.reduceMul, Nat.reduceAdd, Nat.reduceSub, Nat.reduceEqDiff, Nat.reduceBEq, Nat.reduceLeDiff, Nat.reduceLT, reduceCtorEq, Int.reduceAdd, Int.reduceSub, Int.reduceToNat, Int.reduceNeg, Int.reduceEq, Int.reduceLT, Int.reduceLE]
theorem impl_cellsOf_g (E : En) (hy : Hy E [] [] [] r_impl_cellsOf none (fun y => nocap y) flatIds) (a0 : List Int) : G E c_impl_cellsOf [] ⟨slotsOf [(0, .d (lstT cI a0))], obsOf []⟩ = (impl_cellsOf_f E.n a0).bind fun r => some (.ret (.tup [.d (.int .i64 r.1), .d (.bool r.2)]) []) := by
  simp (config := {maxSteps := 2000000}) only [↓rPre, rPost, rCan, rObj, rI, rS, rB, r8, rLI, rEtc, hy.p, hy.l, hy.k, hy.r, hy.d, hy.w, hy.f, flatIds, oid, r_impl_cellsOf, ↓G_unf _ _ b0_impl_cellsOf.eq_1, ↓G_unf _ _ k1_impl_cellsOf.eq_1, ↓G_unf _ _ c_impl_cellsOf.eq_1, bind_ite, impl_cellsOf_f, impl_cellsOf_l0_eq E hy, rFile, rRow78, rRow3, rRow53, rRow35, rArray, rRow39, rRow5, rRow9, rMap97, rLog, ↓reduceIte, Nat.reduceMul, Nat.reduceAdd, Nat.reduceSub, Nat.reduceEqDiff, Nat.reduceBEq, Nat.reduceLeDiff, Nat.reduceLT, reduceCtorEq, Int.reduceAdd, Int.reduceSub, Int.reduceToNat, Int.reduceNeg, Int.reduceEq, Int.reduceLT, Int.reduceLE]
def H_impl_cellsOf (E : En) (L : (List Int) → Option (Int × Bool)) : Prop := E.Γ.mu 91 = false ∧ (∀ (a0 : List Int), E.Γ 91 [.d (lstT cI a0)] = (L a0).bind fun r => some (.ret (.tup [.d (.int .i64 r.1), .d (.bool r.2)]) []))
-- loop.example/s02135/impl.ArrayOk
def b0_impl_ArrayOk : Cd :=
  sq (r [23, 24, 25, 26] [o 26 (.bin .lss) [t 25, t 24]])
  (sq (.cond (t 26) (.skip) (.exit 0))
   (sq (.block 1 (sq (r [6, 23, 24, 25] [o 27 (.ia 1) [t 23, t 25], o 28 (.ld none) [t 27], o 6 .mv [t 28]])
      (sq (r [23, 24, 25, 34] [o 29 .mv [t 6], o 30 (.bin .lss) [t 29, i (-3000000000)], o 31 .mv [t 30], g 31 false 32 .mv [t 6], g 31 false 33 (.bin .gtr) [t 32, i 3000000000], o 34 .pick [t 31, b true, t 33]])
       (.cond (t 34) (sq (r [2] [o 2 .mv [b false]])
         (.ret)) (.skip)))))
    (r [23, 24, 25] [o 35 (.bin .add) [t 25, i 1], o 25 .mv [t 35]])))
def k1_impl_ArrayOk : Cd :=
  sq (r [2] [o 2 .mv [b true]])
  (.ret)
def c_impl_ArrayOk : Cd :=
  sq (r [1] [o 1 .box [t 0], o 2 .mv [b false]])
  (sq (r [1, 3, 4] [o 8 (.fa 0) [t 1], o 9 (.ld none) [t 8], o 10 (.call 91) [t 9], o 7 .mv [t 10], o 11 (.ext 0) [t 7], o 12 (.ext 1) [t 7], o 3 .mv [t 11], o 4 .mv [t 12]])
   (sq (sq (r [1, 21] [o 13 .mv [t 4], o 14 .not [t 13], o 15 .mv [t 14], g 15 false 16 .mv [t 3], g 15 false 17 (.fa 1) [t 1], g 15 false 18 (.ld none) [t 17], g 15 false 19 (.len false) [t 18], g 15 false 20 (.bin .neq) [t 16, t 19], o 21 .pick [t 15, b true, t 20]])
     (.cond (t 21) (sq (r [2] [o 2 .mv [b false]])
       (.ret)) (.skip)))
    (sq (sq (r [23, 24, 25] [o 22 (.fa 1) [t 1], o 23 (.ld none) [t 22], o 24 (.len false) [t 23], o 25 .mv [i 0]])
      (.block 0 (.loop [23, 24, 25] b0_impl_ArrayOk))) k1_impl_ArrayOk)))
def r_impl_ArrayOk : List RV := [.tmp 2]
def impl_ArrayOk_l0 (L_impl_cellsOf : (List Int) → Option (Int × Bool)) : Nat → (List Int) → Int → Int → Option (Bool)
  | 0, _, _, _ => none
  | m0 + 1, x23, x24, x25 =>
    if x25 < x24 then ((idx x23 x25).bind fun y0 =>
     if y0 < -3000000000 then some false
     else (if 3000000000 < y0 then some false
      else impl_ArrayOk_l0 L_impl_cellsOf m0 x23 x24 (w64 (x25 + 1))))
    else some true
def impl_ArrayOk_f (L_impl_cellsOf : (List Int) → Option (Int × Bool)) (N : Nat) (a0_Shape : List Int) (a0_Data : List Int) : Option (Bool) :=
  (L_impl_cellsOf a0_Shape).bind fun y0 =>
  if y0.snd = false then some false
  else (if y0.fst = (↑(List.length a0_Data) : Int) then impl_ArrayOk_l0 L_impl_cellsOf N a0_Data ((↑(List.length a0_Data) : Int)) 0
   else some false)
theorem impl_ArrayOk_l0_eq (E : En) (hy : Hy E [] [] [] r_impl_ArrayOk none (fun y => nocap y) flatIds) (L_impl_cellsOf : (List Int) → Option (Int × Bool)) (h_impl_cellsOf : H_impl_cellsOf E L_impl_cellsOf) : ∀ (m0 : Nat) (x23 : List Int) (x24 : Int) (x25 : Int), gH E [23, 24, 25] b0_impl_ArrayOk [KJ.b 0, KJ.c k1_impl_ArrayOk] m0 ⟨slotsOf [(23, .d (lstT (cI) x23)), (24, .d (.int .i64 x24)), (25, .d (.int .i64 x25))], obsOf []⟩ = (impl_ArrayOk_l0 L_impl_cellsOf m0 x23 x24 x25).bind fun r => some (.ret (.d (.bool r)) []) := by
  intro m0
  induction m0 with
  | zero => intros; rfl
  | succ m0 ih =>
    intros
    simp (config := {maxSteps := 2000000}) only [↓rPre, rPost, rCan, rObj, rI, rS, rB, r8, rLI, rEtc, hy.p, hy.l, hy.k, hy.r, hy.d, hy.w, hy.f, flatIds, oid, r_impl_ArrayOk, ↓G_unf _ _ b0_impl_ArrayOk.eq_1, ↓G_unf _ _ k1_impl_ArrayOk.eq_1, ↓G_unf _ _ c_impl_ArrayOk.eq_1, h_impl_cellsOf.2, h_impl_cellsOf.1, gH_succ, ih, bind_ite, impl_ArrayOk_l0, rFile, rRow78, rRow3, rRow53, rRow35, rArray, rRow39, rRow5, rRow9, rMap97, rLog, ↓reduceIte, Nat.reduceMul, Nat.reduceAdd, Nat.reduceSub, Nat.reduceEqDiff, Nat.reduceBEq, Nat.reduceLeDiff, Nat.reduceLT, reduceCtorEq, Int.reduceAdd, Int.reduceSub, Int.reduceToNat, Int.reduceNeg, Int.reduceEq, Int.reduceLT, Int.reduceLE]
theorem impl_ArrayOk_g (E : En) (hy : Hy E [] [] [] r_impl_ArrayOk none (fun y => nocap y) flatIds) (L_impl_cellsOf : (List Int) → Option (Int × Bool)) (h_impl_cellsOf : H_impl_cellsOf E L_impl_cellsOf) (a0_Shape : List Int) (a0_Data : List Int) : G E c_impl_ArrayOk [] ⟨slotsOf [(0, .agg [.d (lstT cI a0_Shape), .d (lstT cI a0_Data)])], obsOf []⟩ = (impl_ArrayOk_f L_impl_cellsOf E.n a0_Shape a0_Data).bind fun r => some (.ret (.d (.bool r)) []) := by
  simp (config := {maxSteps := 2000000}) only [↓rPre, rPost, rCan, rObj, rI, rS, rB, r8, rLI, rEtc, hy.p, hy.l, hy.k, hy.r, hy.d, hy.w, hy.f, flatIds, oid, r_impl_ArrayOk, ↓G_unf _ _ b0_impl_ArrayOk.eq_1, ↓G_unf _ _ k1_impl_ArrayOk.eq_1, ↓G_unf _ _ c_impl_ArrayOk.eq_1, h_impl_cellsOf.2, h_impl_cellsOf.1, bind_ite, impl_ArrayOk_f, impl_ArrayOk_l0_eq E hy L_impl_cellsOf h_impl_cellsOf, rFile, rRow78, rRow3, rRow53, rRow35, rArray, rRow39, rRow5, rRow9, rMap97, rLog, ↓reduceIte, Nat.reduceMul, Nat.reduceAdd, Nat.reduceSub, Nat.reduceEqDiff, Nat.reduceBEq, Nat.reduceLeDiff, Nat.reduceLT, reduceCtorEq, Int.reduceAdd, Int.reduceSub, Int.reduceToNat, Int.reduceNeg, Int.reduceEq, Int.reduceLT, Int.reduceLE]
def H_impl_ArrayOk (E : En) (L : (List Int) → (List Int) → Option (Bool)) : Prop := E.Γ.mu 56 = false ∧ (∀ (a0_Shape : List Int) (a0_Data : List Int), E.Γ 56 [.agg [.d (lstT cI a0_Shape), .d (lstT cI a0_Data)]] = (L a0_Shape a0_Data).bind fun r => some (.ret (.d (.bool r)) []))
-- loop.example/s02135/impl.caught
def c_impl_caught : Cd :=
  sq (r [0, 1, 4, 9] [o 8 .mv [t 4], o 9 (.inil true) [t 8]])
  (.cond (t 9) (sq (r [0, 1, 4, 5, 6] [o 11 .mv [t 4], o 12 (.ta 90) [t 11], o 10 .mv [t 12], o 13 (.ext 0) [t 10], o 14 (.ext 1) [t 10], o 5 (.alloc [(.d (iD 0))]) [], e (.st 1) [t 5, t 13], o 6 .mv [t 14]])
    (sq (sq (r [0, 1, 4, 5, 16] [o 15 .mv [t 6], o 16 .not [t 15]])
      (.cond (t 16) (r [0, 1, 5] [o 17 .mv [t 4], e .pan [t 17]]) (.skip)))
     (sq (r [0, 1] [o 18 .mv [t 0], o 19 (.fa 0) [t 5], o 20 (.ld none) [t 19], o 21 .nilck [t 18], e (.st 1) [t 21, t 20]])
      (r [0, 1] [o 22 .mv [t 1], o 23 (.bld [.nil, .nil] []) [], o 24 .nilck [t 22], e (.st 2) [t 24, t 23]])))) (.skip))
def r_impl_caught : List RV := []
def impl_caught_f (N : Nat) (x : Int) (a0 : Int) (a1_Shape : List Int) (a1_Data : List Int) : Option (Int) :=
  some x
theorem impl_caught_g (E : En) (hy : Hy E [0, 64] [0, 64] [(0, .box), (64, .box)] [] none (fun y => y) flatIds) (x : Int) (a0 : Int) (a1_Shape : List Int) (a1_Data : List Int) : G E c_impl_caught [] ⟨slotsOf [(4, .d (.ifaceS 90 [.int .i64 x])), (0, .adr 0 1 0), (1, .adr 64 1 0)], obsOf [(0, ⟨1, .box [.d (.int .i64 a0)], false⟩), (64, ⟨1, .box [.d (lstT cI a1_Shape), .d (lstT cI a1_Data)], false⟩)]⟩ = (impl_caught_f E.n x a0 a1_Shape a1_Data).bind fun r => some (.ret (.tup []) [[.int .i64 r], [D.nils, D.nils]]) := by
  simp (config := {maxSteps := 2000000}) only [↓rPre, rPost, rCan, rObj, rI, rS, rB, r8, rLI, rEtc, hy.p, hy.l, hy.k, hy.r, hy.d, hy.w, hy.f, flatIds, oid, ↓G_unf _ _ c_impl_caught.eq_1, bind_ite, impl_caught_f, rFile, rRow78, rRow3, rRow53, rRow35, rArray, rRow39, rRow5, rRow9, rMap97, rLog, ↓reduceIte, Nat.reduceMul, Nat.reduceAdd, Nat.reduceSub, Nat.reduceEqDiff, Nat.reduceBEq, Nat.reduceLeDiff, Nat.reduceLT, reduceCtorEq, Int.reduceAdd, Int.reduceSub, Int.reduceToNat, Int.reduceNeg, Int.reduceEq, Int.reduceLT, Int.reduceLE]
def pn_impl_caught (x : D) : Option Int := match x with
  | .ifaceS t [.int .i64 c] => if t = 90 then some c else none
  | _ => none
-- slices.Clone[[]int,int]
def c_slices_Clone___int_int_ : Cd :=
  sq (r [0] [o 2 .mv [n]])
  (sq (sq (r [0, 4] [o 3 .mv [t 0], o 4 (.snil false) [t 3]])
    (.cond (t 4) (sq (r [2] [o 2 .mv [n]])
      (.ret)) (.skip)))
   (sq (r [2] [o 5 (lit 3 1 0) [], o 6 .mv [t 0], o 7 (.app 3 1 8) [t 5, t 6], o 2 .mv [t 7]])
    (.ret)))
def r_slices_Clone___int_int_ : List RV := [.tmp 2]
def slices_Clone___int_int__S_f (N : Nat) (a0 : List Int) : Option (List Int) :=
  if room 8 (List.length a0) then some a0
  else none
theorem slices_Clone___int_int__S_g (E : En) (hy : Hy E [] [] [] r_slices_Clone___int_int_ none (fun y => nocap (asOwn (.own 3 1) y)) flatIds) (a0 : List Int) : G E c_slices_Clone___int_int_ [] ⟨slotsOf [(0, .d (lstST cI a0))], obsOf []⟩ = (slices_Clone___int_int__S_f E.n a0).bind fun r => some (.ret (ownT (cI) 3 none false r) []) := by
  simp (config := {maxSteps := 2000000}) only [↓rPre, rPost, rCan, rObj, rI, rS, rB, r8, rLI, rEtc, hy.p, hy.l, hy.k, hy.r, hy.d, hy.w, hy.f, flatIds, oid, r_slices_Clone___int_int_, ↓G_unf _ _ c_slices_Clone___int_int_.eq_1, bind_ite, slices_Clone___int_int__S_f, rFile, rRow78, rRow3, rRow53, rRow35, rArray, rRow39, rRow5, rRow9, rMap97, rLog, ↓reduceIte, Nat.reduceMul, Nat.reduceAdd, Nat.reduceSub, Nat.reduceEqDiff, Nat.reduceBEq, Nat.reduceLeDiff, Nat.reduceLT, reduceCtorEq, Int.reduceAdd, Int.reduceSub, Int.reduceToNat, Int.reduceNeg, Int.reduceEq, Int.reduceLT, Int.reduceLE]
def slices_Clone___int_int__N_f (N : Nat) : Option (List Int) :=
  some []
theorem slices_Clone___int_int__N_g (E : En) (hy : Hy E [] [] [] r_slices_Clone___int_int_ none (fun y => nocap (asOwn (.own 3 1) y)) flatIds)  : G E c_slices_Clone___int_int_ [] ⟨slotsOf [(0, .nil)], obsOf []⟩ = (slices_Clone___int_int__N_f E.n ).bind fun r => some (.ret (ownT (cI) 3 none false r) []) := by
  simp (config := {maxSteps := 2000000}) only [↓rPre, rPost, rCan, rObj, rI, rS, rB, r8, rLI, rEtc, hy.p, hy.l, hy.k, hy.r, hy.d, hy.w, hy.f, flatIds, oid, r_slices_Clone___int_int_, ↓G_unf _ _ c_slices_Clone___int_int_.eq_1, bind_ite, slices_Clone___int_int__N_f, rFile, rRow78, rRow3, rRow53, rRow35, rArray, rRow39, rRow5, rRow9, rMap97, rLog, ↓reduceIte, Nat.reduceMul, Nat.reduceAdd, Nat.reduceSub, Nat.reduceEqDiff, Nat.reduceBEq, Nat.reduceLeDiff, Nat.reduceLT, reduceCtorEq, Int.reduceAdd, Int.reduceSub, Int.reduceToNat, Int.reduceNeg, Int.reduceEq, Int.reduceLT, Int.reduceLE]
def H_slices_Clone___int_int_ (E : En) (L : (List Int) → Option (List Int)) : Prop := E.Γ.mu 100 = false ∧ (∀ (a0 : List Int), E.Γ 100 [.d (lstT cI a0)] = (L a0).bind fun r => some (.ret (ownT (cI) 3 none false r) []))
-- loop.example/s02135/impl.made
def c_impl_made : Cd :=
  sq (r [0, 2] [o 2 (.alloc [.nil, .nil]) []])
  (sq (r [0, 2, 3, 4] [o 6 .mv [t 0], o 7 (.call 91) [t 6], o 5 .mv [t 7], o 8 (.ext 0) [t 5], o 9 (.ext 1) [t 5], o 3 .mv [t 8], o 4 .mv [t 9]])
   (sq (sq (r [0, 2, 3, 11] [o 10 .mv [t 4], o 11 .not [t 10]])
     (.cond (t 11) (r [0, 2, 3] [o 12 (.bld [(.d (iD 0))] [(0, 1)]) [i 6], o 13 (.mkI 90) [t 12], e .pan [t 13]]) (.skip)))
    (sq (rd [] [2] [ap [1088] false [] (o 14 .mv [t 0]), o 16 .mv [t 3], ap [] true [] (o 17 (.mkS 3 1 8 [(iD 0)]) [i 0, t 16]), ap [1088] false [] (o 15 (.call 100) [t 14]), o 18 (.bld [.nil, .nil] [(0, 1), (1, 1)]) [t 15, t 17], e (.st 2) [t 2, t 18]])
     (.ret))))
def r_impl_made : List RV := [.cell 2 (some 2)]
def impl_made_f (L_impl_cellsOf : (List Int) → Option (Int × Bool)) (L_slices_Clone___int_int_ : (List Int) → Option (List Int)) (N : Nat) (a0 : List Int) : Option (Res (List Int × Option Nat × List Int)) :=
  (L_impl_cellsOf a0).bind fun y0 =>
  if y0.snd = false then some (.pan (D.ifaceS 90 [D.int .i64 6]))
  else (if mkOk 8 0 y0.fst then ((L_slices_Clone___int_int_ a0).bind fun y1 =>
    some (.ok ((y1, some (Int.toNat y0.fst), List.replicate 0 0))))
   else none)
theorem impl_made_g (E : En) (hy : Hy E [] [] [] r_impl_made none (fun y => y) flatIds) (L_impl_cellsOf : (List Int) → Option (Int × Bool)) (h_impl_cellsOf : H_impl_cellsOf E L_impl_cellsOf) (L_slices_Clone___int_int_ : (List Int) → Option (List Int)) (h_slices_Clone___int_int_ : H_slices_Clone___int_int_ E L_slices_Clone___int_int_) (a0 : List Int) : G E c_impl_made [] ⟨slotsOf [(0, .d (lstT cI a0))], obsOf []⟩ = (impl_made_f L_impl_cellsOf L_slices_Clone___int_int_ E.n a0).bind fun r => r.on (fun r => some (.ret (.agg [ownT (cI) 3 none false r.1, ownT (cI) 3 r.2.1 false r.2.2]) [])) (fun x => some (.pan x [])) := by
  simp (config := {maxSteps := 2000000}) only [↓rPre, rPost, rCan, rObj, rI, rS, rB, r8, rLI, rEtc, hy.p, hy.l, hy.k, hy.r, hy.d, hy.w, hy.f, flatIds, oid, r_impl_made, ↓G_unf _ _ c_impl_made.eq_1, h_impl_cellsOf.2, h_impl_cellsOf.1, h_slices_Clone___int_int_.2, h_slices_Clone___int_int_.1, bind_ite, impl_made_f, rFile, rRow78, rRow3, rRow53, rRow35, rArray, rRow39, rRow5, rRow9, rMap97, rLog, ↓reduceIte, Nat.reduceMul, Nat.reduceAdd, Nat.reduceSub, Nat.reduceEqDiff, Nat.reduceBEq, Nat.reduceLeDiff, Nat.reduceLT, reduceCtorEq, Int.reduceAdd, Int.reduceSub, Int.reduceToNat, Int.reduceNeg, Int.reduceEq, Int.reduceLT, Int.reduceLE]
def H_impl_made (E : En) (L : (List Int) → Option (Res (List Int × Option Nat × List Int))) : Prop := E.Γ.mu 90 = false ∧ (∀ (a0 : List Int), E.Γ 90 [.d (lstT cI a0)] = (L a0).bind fun r => r.on (fun r => some (.ret (.agg [ownT (cI) 3 none false r.1, ownT (cI) 3 r.2.1 false r.2.2]) [])) (fun x => some (.pan x [])))
end Go.Vm
