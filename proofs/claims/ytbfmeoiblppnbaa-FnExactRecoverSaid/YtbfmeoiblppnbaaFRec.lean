/- The functions under laws_FnExactRecover: the abstract machine's codes, and what they come to in plain terms. Printed by a program of this session. -/
import Derived.Test.YtbfmeoiblppnbaaVmKind
set_option linter.all false
set_option maxRecDepth 100000
set_option maxHeartbeats 4000000
namespace Go.Vm
structure TFile where
  Name : List UInt8
  Data : List UInt8
  deriving DecidableEq
def encFile (x : TFile) : List D := [sD x.Name, sD x.Data]
def decFile : List D → Option TFile
  | [.str a0, .str a1] => some ⟨a0.data.toList, a1.data.toList⟩
  | _ => none
theorem decFile_ok : ∀ xs x, decFile xs = some x → xs = encFile x := by
  intro xs x h
  unfold decFile at h
  split at h
  · cases h; rfl
  · cases h
def cFile : Enc TFile := ⟨2, encFile, decFile, fun _ => rfl, by decide, decFile_ok, fun _ => rfl⟩
theorem cFile_enc (x : TFile) : cFile.enc x = [sD x.Name, sD x.Data] := rfl
theorem cFile_dec (x_Name : List UInt8) (x_Data : List UInt8) : cFile.dec [sD x_Name, sD x_Data] = some ⟨x_Name, x_Data⟩ := cFile.edc ⟨x_Name, x_Data⟩
theorem cFile_dec1 (a : D) : cFile.dec [a] = none := by cases a <;> rfl
def rFile := And.intro (cFile_dec1) <| And.intro (rKind cFile 2 rfl) <| And.intro (cFile_enc) <| And.intro (cFile_dec) <| And.intro (plain_T cFile (fun _ => rfl)) <| And.intro ((fun l m => k_get cFile 2 l m 1 (by decide) rfl)) <| ((fun e cap l m xs z hz => k_part' cFile 2 e cap l m 1 xs z hz rfl))
structure TArray where
  Shape : List Int
  Data : List Int
  deriving DecidableEq
def encArray (x : TArray) : List D := [lstT cI x.Shape, lstT cI x.Data]
def decArray : List D → Option TArray
  | [d0, d1] => (decL cI d0).bind fun a0 => (decL cI d1).bind fun a1 => some ⟨a0, a1⟩
  | _ => none
theorem decArray_ok : ∀ xs x, decArray xs = some x → xs = encArray x := by
  intro xs x h
  unfold decArray at h
  split at h
  · have hh := Option.bind_eq_some_iff.mp h; clear h; obtain ⟨a0, h0, h⟩ := hh; have e0 := decL_ok h0; clear h0; subst e0; have hh := Option.bind_eq_some_iff.mp h; clear h; obtain ⟨a1, h1, h⟩ := hh; have e1 := decL_ok h1; clear h1; subst e1; cases h; rfl
  · cases h
def cArray : Enc TArray := ⟨2, encArray, decArray, fun _ => rfl, by decide, decArray_ok, fun x => by simp only [encArray, decArray, decL_T, Option.bind_some]⟩
theorem cArray_enc (x : TArray) : cArray.enc x = [lstT cI x.Shape, lstT cI x.Data] := rfl
theorem cArray_dec (x_Shape : List Int) (x_Data : List Int) : cArray.dec [lstT cI x_Shape, lstT cI x_Data] = some ⟨x_Shape, x_Data⟩ := cArray.edc ⟨x_Shape, x_Data⟩
theorem cArray_dec1 (a : D) : cArray.dec [a] = none := by cases a <;> rfl
def rArray := And.intro (cArray_dec1) <| And.intro (rKind cArray 2 rfl) <| And.intro (cArray_enc) <| And.intro (cArray_dec) <| And.intro (plain_N cArray) <| And.intro ((fun l m => k_get cArray 2 l m 1 (by decide) rfl)) <| ((fun e cap l m xs z hz => k_part' cArray 2 e cap l m 1 xs z hz rfl))
def rRow78 := rRow cFile 78 2 rfl [sD [], sD []] ⟨[], []⟩ rfl
def rRow3 := rRow cI 3 1 rfl [iD 0] 0 rfl
def rRow53 := rRow cFile 53 2 rfl [sD [], sD []] ⟨[], []⟩ rfl
def rRow35 := rRow (cL cI) 35 1 rfl [.lst 0 []] [] rfl
def rRow39 := rRow cArray 39 2 rfl [.lst 0 [], .lst 0 []] ⟨[], []⟩ rfl
def rRow5 := rRow c8 5 1 rfl [.int .u8 0] 0 rfl
def rRow9 := rRow cS 9 1 rfl [sD []] [] rfl
def rMap97 := rMapI cI 97 none rfl [iD 0] 0 rfl
/-- the types of elements that lead to no memory -/
def flatIds (e : Nat) : Bool := e == 78 || e == 3 || e == 53 || e == 5 || e == 9
-- loop.example/s02135/laws.szFile
def c_laws_szFile : Cd :=
  sq (r [1, 2] [o 2 .box [t 0], o 4 .mv [i 0]])
  (sq (r [1, 2] [o 5 .mv [t 1], o 6 (.fa 0) [t 2], o 7 (.ld none) [t 6], o 8 (.len true) [t 7], o 9 (.bin .sub) [t 5, t 8], o 1 .mv [t 9]])
   (sq (sq (r [1, 2, 11] [o 10 .mv [t 1], o 11 (.bin .lss) [t 10, i 0]])
     (.cond (t 11) (sq (r [4] [o 4 .mv [i (-1)]])
       (.ret)) (.skip)))
    (sq (r [1] [o 12 .mv [t 1], o 13 (.fa 1) [t 2], o 14 (.ld none) [t 13], o 15 (.len true) [t 14], o 16 (.bin .sub) [t 12, t 15], o 1 .mv [t 16]])
     (sq (sq (r [1, 18] [o 17 .mv [t 1], o 18 (.bin .lss) [t 17, i 0]])
       (.cond (t 18) (sq (r [4] [o 4 .mv [i (-1)]])
         (.ret)) (.skip)))
      (sq (r [4] [o 19 .mv [t 1], o 4 .mv [t 19]])
       (.ret))))))
def r_laws_szFile : List RV := [.tmp 4]
def laws_szFile_f (N : Nat) (a0_Name : List UInt8) (a0_Data : List UInt8) (a1 : Int) : Option (Int) :=
  if w64 (a1 - (↑(List.length a0_Name) : Int)) < 0 then some (-1)
  else (if w64 (w64 (a1 - (↑(List.length a0_Name) : Int)) - (↑(List.length a0_Data) : Int)) < 0 then some (-1)
   else some (w64 (w64 (a1 - (↑(List.length a0_Name) : Int)) - (↑(List.length a0_Data) : Int))))
theorem laws_szFile_g (E : En) (hy : Hy E [] [] [] r_laws_szFile none (fun y => nocap y) flatIds) (a0_Name : List UInt8) (a0_Data : List UInt8) (a1 : Int) : G E c_laws_szFile [] ⟨slotsOf [(0, .agg [.d (sD a0_Name), .d (sD a0_Data)]), (1, .d (.int .i64 a1))], obsOf []⟩ = (laws_szFile_f E.n a0_Name a0_Data a1).bind fun r => some (.ret (.d (.int .i64 r)) []) := by
  simp (config := {maxSteps := 2000000}) only [↓rPre, rPost, rCan, rObj, rI, rS, rB, r8, rLI, rEtc, hy.p, hy.l, hy.k, hy.r, hy.d, hy.w, hy.f, flatIds, oid, r_laws_szFile, ↓G_unf _ _ c_laws_szFile.eq_1, bind_ite, laws_szFile_f, rFile, rRow78, rRow3, rRow53, rRow35, rArray, rRow39, rRow5, rRow9, rMap97, rLog, ↓reduceIte, Nat.reduceMul, Nat.reduceAdd, Nat.reduceSub, Nat.reduceEqDiff, Nat.reduceBEq, Nat.reduceLeDiff, Nat.reduceLT, reduceCtorEq, Int.reduceAdd, Int.reduceSub, Int.reduceToNat, Int.reduceNeg, Int.reduceEq, Int.reduceLT, Int.reduceLE]
def H_laws_szFile (E : En) (L : (List UInt8) → (List UInt8) → Int → Option (Int)) : Prop := E.Γ.mu 75 = false ∧ (∀ (a0_Name : List UInt8) (a0_Data : List UInt8) (a1 : Int), E.Γ 75 [.agg [.d (sD a0_Name), .d (sD a0_Data)], .d (.int .i64 a1)] = (L a0_Name a0_Data a1).bind fun r => some (.ret (.d (.int .i64 r)) []))
-- loop.example/s02135/laws.szFileS
def b0_laws_szFileS : Cd :=
  sq (sq (r [0, 1, 5, 15] [o 12 .mv [t 5], o 13 .mv [t 0], o 14 (.len false) [t 13], o 15 (.bin .lss) [t 12, t 14]])
   (.cond (t 15) (.skip) (.exit 0)))
  (sq (.block 1 (sq (r [0, 1, 5] [o 18 .mv [t 0], o 19 .mv [t 5], o 20 (.ia 2) [t 18, t 19], o 21 (.ld (some 2)) [t 20], o 22 .mv [t 1], o 23 (.call 75) [t 21, t 22], o 1 .mv [t 23]])
     (sq (r [0, 1, 5, 25] [o 24 .mv [t 1], o 25 (.bin .lss) [t 24, i 0]])
      (.cond (t 25) (sq (r [4] [o 4 .mv [i (-1)]])
        (.ret)) (.skip)))))
   (r [0, 1, 5] [o 16 .mv [t 5], o 17 (.bin .add) [t 16, i 1], o 5 .mv [t 17]]))
def k1_laws_szFileS : Cd :=
  sq (r [4] [o 26 .mv [t 1], o 4 .mv [t 26]])
  (.ret)
def c_laws_szFileS : Cd :=
  sq (r [0, 1] [o 4 .mv [i 0]])
  (sq (r [0, 1] [o 6 .mv [t 1], o 7 .mv [t 0], o 8 (.len false) [t 7], o 9 (.bin .sub) [t 6, t 8], o 1 .mv [t 9]])
   (sq (sq (r [0, 1, 11] [o 10 .mv [t 1], o 11 (.bin .lss) [t 10, i 0]])
     (.cond (t 11) (sq (r [4] [o 4 .mv [i (-1)]])
       (.ret)) (.skip)))
    (sq (sq (r [0, 1, 5] [o 5 .mv [i 0]])
      (.block 0 (.loop [0, 1, 5] b0_laws_szFileS))) k1_laws_szFileS)))
def r_laws_szFileS : List RV := [.tmp 4]
def laws_szFileS_l0 (L_laws_szFile : (List UInt8) → (List UInt8) → Int → Option (Int)) : Nat → (List TFile) → Int → Int → Option (Int)
  | 0, _, _, _ => none
  | m0 + 1, x0, x1, x5 =>
    if x5 < (↑(List.length x0) : Int) then ((idx x0 x5).bind fun y0 =>
     (L_laws_szFile y0.Name y0.Data x1).bind fun y1 =>
     if y1 < 0 then some (-1)
     else laws_szFileS_l0 L_laws_szFile m0 x0 y1 (w64 (x5 + 1)))
    else some x1
def laws_szFileS_f (L_laws_szFile : (List UInt8) → (List UInt8) → Int → Option (Int)) (N : Nat) (a0 : List TFile) (a1 : Int) : Option (Int) :=
  if w64 (a1 - (↑(List.length a0) : Int)) < 0 then some (-1)
  else laws_szFileS_l0 L_laws_szFile N a0 (w64 (a1 - (↑(List.length a0) : Int))) 0
theorem laws_szFileS_l0_eq (E : En) (hy : Hy E [] [] [] r_laws_szFileS none (fun y => nocap y) flatIds) (L_laws_szFile : (List UInt8) → (List UInt8) → Int → Option (Int)) (h_laws_szFile : H_laws_szFile E L_laws_szFile) : ∀ (m0 : Nat) (x0 : List TFile) (x1 : Int) (x5 : Int), gH E [0, 1, 5] b0_laws_szFileS [KJ.b 0, KJ.c k1_laws_szFileS] m0 ⟨slotsOf [(0, .d (lstT (cFile) x0)), (1, .d (.int .i64 x1)), (5, .d (.int .i64 x5))], obsOf []⟩ = (laws_szFileS_l0 L_laws_szFile m0 x0 x1 x5).bind fun r => some (.ret (.d (.int .i64 r)) []) := by
  intro m0
  induction m0 with
  | zero => intros; rfl
  | succ m0 ih =>
    intros
    simp (config := {maxSteps := 2000000}) only [↓rPre, rPost, rCan, rObj, rI, rS, rB, r8, rLI, rEtc, hy.p, hy.l, hy.k, hy.r, hy.d, hy.w, hy.f, flatIds, oid, r_laws_szFileS, ↓G_unf _ _ b0_laws_szFileS.eq_1, ↓G_unf _ _ k1_laws_szFileS.eq_1, ↓G_unf _ _ c_laws_szFileS.eq_1, h_laws_szFile.2, h_laws_szFile.1, gH_succ, ih, bind_ite, laws_szFileS_l0, rFile, rRow78, rRow3, rRow53, rRow35, rArray, rRow39, rRow5, rRow9, rMap97, rLog, ↓reduceIte, Nat.reduceMul, Nat.reduceAdd, Nat.reduceSub, Nat.reduceEqDiff, Nat.reduceBEq, Nat.reduceLeDiff, Nat.reduceLT, reduceCtorEq, Int.reduceAdd, Int.reduceSub, Int.reduceToNat, Int.reduceNeg, Int.reduceEq, Int.reduceLT, Int.reduceLE]
theorem laws_szFileS_g (E : En) (hy : Hy E [] [] [] r_laws_szFileS none (fun y => nocap y) flatIds) (L_laws_szFile : (List UInt8) → (List UInt8) → Int → Option (Int)) (h_laws_szFile : H_laws_szFile E L_laws_szFile) (a0 : List TFile) (a1 : Int) : G E c_laws_szFileS [] ⟨slotsOf [(0, .d (lstT cFile a0)), (1, .d (.int .i64 a1))], obsOf []⟩ = (laws_szFileS_f L_laws_szFile E.n a0 a1).bind fun r => some (.ret (.d (.int .i64 r)) []) := by
  simp (config := {maxSteps := 2000000}) only [↓rPre, rPost, rCan, rObj, rI, rS, rB, r8, rLI, rEtc, hy.p, hy.l, hy.k, hy.r, hy.d, hy.w, hy.f, flatIds, oid, r_laws_szFileS, ↓G_unf _ _ b0_laws_szFileS.eq_1, ↓G_unf _ _ k1_laws_szFileS.eq_1, ↓G_unf _ _ c_laws_szFileS.eq_1, h_laws_szFile.2, h_laws_szFile.1, bind_ite, laws_szFileS_f, laws_szFileS_l0_eq E hy L_laws_szFile h_laws_szFile, rFile, rRow78, rRow3, rRow53, rRow35, rArray, rRow39, rRow5, rRow9, rMap97, rLog, ↓reduceIte, Nat.reduceMul, Nat.reduceAdd, Nat.reduceSub, Nat.reduceEqDiff, Nat.reduceBEq, Nat.reduceLeDiff, Nat.reduceLT, reduceCtorEq, Int.reduceAdd, Int.reduceSub, Int.reduceToNat, Int.reduceNeg, Int.reduceEq, Int.reduceLT, Int.reduceLE]
def H_laws_szFileS (E : En) (L : (List TFile) → Int → Option (Int)) : Prop := E.Γ.mu 22 = false ∧ (∀ (a0 : List TFile) (a1 : Int), E.Γ 22 [.d (lstT cFile a0), .d (.int .i64 a1)] = (L a0 a1).bind fun r => some (.ret (.d (.int .i64 r)) []))
-- loop.example/s02135/laws.szDisk
def c_laws_szDisk : Cd :=
  sq (r [1, 2] [o 2 .box [t 0], o 4 .mv [i 0]])
  (sq (r [1] [o 5 (.fa 0) [t 2], o 6 (.ld none) [t 5], o 7 .mv [t 1], o 8 (.call 22) [t 6, t 7], o 1 .mv [t 8]])
   (sq (sq (r [1, 10] [o 9 .mv [t 1], o 10 (.bin .lss) [t 9, i 0]])
     (.cond (t 10) (sq (r [4] [o 4 .mv [i (-1)]])
       (.ret)) (.skip)))
    (sq (r [4] [o 11 .mv [t 1], o 4 .mv [t 11]])
     (.ret))))
def r_laws_szDisk : List RV := [.tmp 4]
def laws_szDisk_f (L_laws_szFileS : (List TFile) → Int → Option (Int)) (N : Nat) (a0_Files : List TFile) (a1 : Int) : Option (Int) :=
  (L_laws_szFileS a0_Files a1).bind fun y0 =>
  if y0 < 0 then some (-1)
  else some y0
theorem laws_szDisk_g (E : En) (hy : Hy E [] [] [] r_laws_szDisk none (fun y => nocap y) flatIds) (L_laws_szFileS : (List TFile) → Int → Option (Int)) (h_laws_szFileS : H_laws_szFileS E L_laws_szFileS) (a0_Files : List TFile) (a1 : Int) : G E c_laws_szDisk [] ⟨slotsOf [(0, .agg [.d (lstT cFile a0_Files)]), (1, .d (.int .i64 a1))], obsOf []⟩ = (laws_szDisk_f L_laws_szFileS E.n a0_Files a1).bind fun r => some (.ret (.d (.int .i64 r)) []) := by
  simp (config := {maxSteps := 2000000}) only [↓rPre, rPost, rCan, rObj, rI, rS, rB, r8, rLI, rEtc, hy.p, hy.l, hy.k, hy.r, hy.d, hy.w, hy.f, flatIds, oid, r_laws_szDisk, ↓G_unf _ _ c_laws_szDisk.eq_1, h_laws_szFileS.2, h_laws_szFileS.1, bind_ite, laws_szDisk_f, rFile, rRow78, rRow3, rRow53, rRow35, rArray, rRow39, rRow5, rRow9, rMap97, rLog, ↓reduceIte, Nat.reduceMul, Nat.reduceAdd, Nat.reduceSub, Nat.reduceEqDiff, Nat.reduceBEq, Nat.reduceLeDiff, Nat.reduceLT, reduceCtorEq, Int.reduceAdd, Int.reduceSub, Int.reduceToNat, Int.reduceNeg, Int.reduceEq, Int.reduceLT, Int.reduceLE]
def H_laws_szDisk (E : En) (L : (List TFile) → Int → Option (Int)) : Prop := E.Γ.mu 6 = false ∧ (∀ (a0_Files : List TFile) (a1 : Int), E.Γ 6 [.agg [.d (lstT cFile a0_Files)], .d (.int .i64 a1)] = (L a0_Files a1).bind fun r => some (.ret (.d (.int .i64 r)) []))
-- loop.example/s02135/laws.toFile
def c_laws_toFile : Cd :=
  sq (r [1, 2] [o 1 .box [t 0], o 2 (.alloc [(.d (sD [])), (.d (sD []))]) []])
  (sq (r [1, 2, 3] [o 3 (.alloc [(.d (sD [])), (.d (sD []))]) []])
   (sq (r [1, 2, 3] [o 4 (.fa 0) [t 1], o 5 (.ld none) [t 4], o 6 (.fa 0) [t 3], e (.st 1) [t 6, t 5]])
    (sq (r [2, 3] [o 7 (.fa 1) [t 1], o 8 (.ld none) [t 7], o 9 (.fa 1) [t 3], e (.st 1) [t 9, t 8]])
     (sq (r [2] [o 10 (.ld (some 2)) [t 3], e (.st 2) [t 2, t 10]])
      (.ret)))))
def r_laws_toFile : List RV := [.cell 2 (some 2)]
def laws_toFile_f (N : Nat) (a0_Name : List UInt8) (a0_Data : List UInt8) : Option (List UInt8 × List UInt8) :=
  some ((a0_Name, a0_Data))
theorem laws_toFile_g (E : En) (hy : Hy E [] [] [] r_laws_toFile none (fun y => nocap y) flatIds) (a0_Name : List UInt8) (a0_Data : List UInt8) : G E c_laws_toFile [] ⟨slotsOf [(0, .agg [.d (sD a0_Name), .d (sD a0_Data)])], obsOf []⟩ = (laws_toFile_f E.n a0_Name a0_Data).bind fun r => some (.ret (.agg [.d (sD r.1), .d (sD r.2)]) []) := by
  simp (config := {maxSteps := 2000000}) only [↓rPre, rPost, rCan, rObj, rI, rS, rB, r8, rLI, rEtc, hy.p, hy.l, hy.k, hy.r, hy.d, hy.w, hy.f, flatIds, oid, r_laws_toFile, ↓G_unf _ _ c_laws_toFile.eq_1, bind_ite, laws_toFile_f, rFile, rRow78, rRow3, rRow53, rRow35, rArray, rRow39, rRow5, rRow9, rMap97, rLog, ↓reduceIte, Nat.reduceMul, Nat.reduceAdd, Nat.reduceSub, Nat.reduceEqDiff, Nat.reduceBEq, Nat.reduceLeDiff, Nat.reduceLT, reduceCtorEq, Int.reduceAdd, Int.reduceSub, Int.reduceToNat, Int.reduceNeg, Int.reduceEq, Int.reduceLT, Int.reduceLE]
def H_laws_toFile (E : En) (L : (List UInt8) → (List UInt8) → Option (List UInt8 × List UInt8)) : Prop := E.Γ.mu 77 = false ∧ (∀ (a0_Name : List UInt8) (a0_Data : List UInt8), E.Γ 77 [.agg [.d (sD a0_Name), .d (sD a0_Data)]] = (L a0_Name a0_Data).bind fun r => some (.ret (.agg [.d (sD r.1), .d (sD r.2)]) []))
-- loop.example/s02135/laws.toFileS
def b0_laws_toFileS : Cd :=
  sq (sq (r [0, 3, 4, 11] [o 8 .mv [t 4], o 9 .mv [t 0], o 10 (.len false) [t 9], o 11 (.bin .lss) [t 8, t 10]])
   (.cond (t 11) (.skip) (.exit 0)))
  (sq (.block 1 (r [0, 3, 4] [o 14 .mv [t 3], o 15 .mv [t 4], o 16 .mv [t 0], o 17 .mv [t 4], o 18 (.ia 2) [t 16, t 17], o 19 (.ld (some 2)) [t 18], o 20 (.call 77) [t 19], o 21 (.ia 2) [t 14, t 15], e (.st 2) [t 21, t 20]]))
   (r [0, 3, 4] [o 12 .mv [t 4], o 13 (.bin .add) [t 12, i 1], o 4 .mv [t 13]]))
def k1_laws_toFileS : Cd :=
  sq (r [2] [o 22 .mv [t 3], o 2 .mv [t 22]])
  (.ret)
def c_laws_toFileS : Cd :=
  sq (r [0] [o 2 .mv [n]])
  (sq (r [0, 3] [o 5 .mv [t 0], o 6 (.len false) [t 5], o 7 (.mkS 53 2 32 [(sD []), (sD [])]) [t 6, t 6], o 3 .mv [t 7]])
   (sq (sq (r [0, 3, 4] [o 4 .mv [i 0]])
     (.block 0 (.loop [0, 3, 4] b0_laws_toFileS))) k1_laws_toFileS))
def r_laws_toFileS : List RV := [.tmp 2]
def laws_toFileS_l0 (L_laws_toFile : (List UInt8) → (List UInt8) → Option (List UInt8 × List UInt8)) : Nat → (List TFile) → Int → (List TFile) → Option (List TFile)
  | 0, _, _, _ => none
  | m0 + 1, x0, x4, o192 =>
    if x4 < (↑(List.length x0) : Int) then ((idx x0 x4).bind fun y0 =>
     (L_laws_toFile y0.Name y0.Data).bind fun y1 =>
     if 0 ≤ x4 ∧ x4 < (↑(List.length o192) : Int) then ((setN o192 (Int.toNat x4) { Name := y1.fst, Data := y1.snd }).bind fun y2 =>
      laws_toFileS_l0 L_laws_toFile m0 x0 (w64 (x4 + 1)) y2)
     else none)
    else some o192
def laws_toFileS_f (L_laws_toFile : (List UInt8) → (List UInt8) → Option (List UInt8 × List UInt8)) (N : Nat) (a0 : List TFile) : Option (List TFile) :=
  if mkOk 32 (↑(List.length a0) : Int) (↑(List.length a0) : Int) then laws_toFileS_l0 L_laws_toFile N a0 0 (List.replicate (List.length a0) { Name := [], Data := [] })
  else none
theorem laws_toFileS_l0_eq (E : En) (hy : Hy E [] [] [] r_laws_toFileS none (fun y => nocap y) flatIds) (L_laws_toFile : (List UInt8) → (List UInt8) → Option (List UInt8 × List UInt8)) (h_laws_toFile : H_laws_toFile E L_laws_toFile) : ∀ (m0 : Nat) (x0 : List TFile) (x4 : Int) (o192 : List TFile), gH E [0, 3, 4] b0_laws_toFileS [KJ.b 0, KJ.c k1_laws_toFileS] m0 ⟨slotsOf [(0, .d (lstT (cFile) x0)), (3, A.row 192 1), (4, .d (.int .i64 x4))], obsOf [(192, ⟨1, rowT (cFile) 53 none o192, false⟩)]⟩ = (laws_toFileS_l0 L_laws_toFile m0 x0 x4 o192).bind fun r => some (.ret (ownT (cFile) 53 none false r) []) := by
  intro m0
  induction m0 with
  | zero => intros; rfl
  | succ m0 ih =>
    intros
    simp (config := {maxSteps := 2000000}) only [↓rPre, rPost, rCan, rObj, rI, rS, rB, r8, rLI, rEtc, hy.p, hy.l, hy.k, hy.r, hy.d, hy.w, hy.f, flatIds, oid, r_laws_toFileS, ↓G_unf _ _ b0_laws_toFileS.eq_1, ↓G_unf _ _ k1_laws_toFileS.eq_1, ↓G_unf _ _ c_laws_toFileS.eq_1, h_laws_toFile.2, h_laws_toFile.1, gH_succ, ih, bind_ite, laws_toFileS_l0, rFile, rRow78, rRow3, rRow53, rRow35, rArray, rRow39, rRow5, rRow9, rMap97, rLog, ↓reduceIte, Nat.reduceMul, Nat.reduceAdd, Nat.reduceSub, Nat.reduceEqDiff, Nat.reduceBEq, Nat.reduceLeDiff, Nat.reduceLT, reduceCtorEq, Int.reduceAdd, Int.reduceSub, Int.reduceToNat, Int.reduceNeg, Int.reduceEq, Int.reduceLT, Int.reduceLE]
theorem laws_toFileS_g (E : En) (hy : Hy E [] [] [] r_laws_toFileS none (fun y => nocap y) flatIds) (L_laws_toFile : (List UInt8) → (List UInt8) → Option (List UInt8 × List UInt8)) (h_laws_toFile : H_laws_toFile E L_laws_toFile) (a0 : List TFile) : G E c_laws_toFileS [] ⟨slotsOf [(0, .d (lstT cFile a0))], obsOf []⟩ = (laws_toFileS_f L_laws_toFile E.n a0).bind fun r => some (.ret (ownT (cFile) 53 none false r) []) := by
  simp (config := {maxSteps := 2000000}) only [↓rPre, rPost, rCan, rObj, rI, rS, rB, r8, rLI, rEtc, hy.p, hy.l, hy.k, hy.r, hy.d, hy.w, hy.f, flatIds, oid, r_laws_toFileS, ↓G_unf _ _ b0_laws_toFileS.eq_1, ↓G_unf _ _ k1_laws_toFileS.eq_1, ↓G_unf _ _ c_laws_toFileS.eq_1, h_laws_toFile.2, h_laws_toFile.1, bind_ite, laws_toFileS_f, laws_toFileS_l0_eq E hy L_laws_toFile h_laws_toFile, rFile, rRow78, rRow3, rRow53, rRow35, rArray, rRow39, rRow5, rRow9, rMap97, rLog, ↓reduceIte, Nat.reduceMul, Nat.reduceAdd, Nat.reduceSub, Nat.reduceEqDiff, Nat.reduceBEq, Nat.reduceLeDiff, Nat.reduceLT, reduceCtorEq, Int.reduceAdd, Int.reduceSub, Int.reduceToNat, Int.reduceNeg, Int.reduceEq, Int.reduceLT, Int.reduceLE]
def H_laws_toFileS (E : En) (L : (List TFile) → Option (List TFile)) : Prop := E.Γ.mu 26 = false ∧ (∀ (a0 : List TFile), E.Γ 26 [.d (lstT cFile a0)] = (L a0).bind fun r => some (.ret (ownT (cFile) 53 none false r) []))
-- loop.example/s02135/laws.toDisk
def c_laws_toDisk : Cd :=
  sq (r [1, 2] [o 1 .box [t 0], o 2 (.alloc [.nil]) []])
  (sq (r [1, 2, 3] [o 3 (.alloc [.nil]) []])
   (sq (r [2, 3] [o 4 (.fa 0) [t 1], o 5 (.ld none) [t 4], o 6 (.call 26) [t 5], o 7 (.fa 0) [t 3], e (.st 1) [t 7, t 6]])
    (sq (r [2] [o 8 (.ld (some 1)) [t 3], e (.st 1) [t 2, t 8]])
     (.ret))))
def r_laws_toDisk : List RV := [.cell 2 (some 1)]
def laws_toDisk_f (L_laws_toFileS : (List TFile) → Option (List TFile)) (N : Nat) (a0_Files : List TFile) : Option (List TFile) :=
  (L_laws_toFileS a0_Files).bind fun y0 =>
  some y0
theorem laws_toDisk_g (E : En) (hy : Hy E [] [] [] r_laws_toDisk none (fun y => nocap y) flatIds) (L_laws_toFileS : (List TFile) → Option (List TFile)) (h_laws_toFileS : H_laws_toFileS E L_laws_toFileS) (a0_Files : List TFile) : G E c_laws_toDisk [] ⟨slotsOf [(0, .agg [.d (lstT cFile a0_Files)])], obsOf []⟩ = (laws_toDisk_f L_laws_toFileS E.n a0_Files).bind fun r => some (.ret (.agg [ownT (cFile) 53 none false r]) []) := by
  simp (config := {maxSteps := 2000000}) only [↓rPre, rPost, rCan, rObj, rI, rS, rB, r8, rLI, rEtc, hy.p, hy.l, hy.k, hy.r, hy.d, hy.w, hy.f, flatIds, oid, r_laws_toDisk, ↓G_unf _ _ c_laws_toDisk.eq_1, h_laws_toFileS.2, h_laws_toFileS.1, bind_ite, laws_toDisk_f, rFile, rRow78, rRow3, rRow53, rRow35, rArray, rRow39, rRow5, rRow9, rMap97, rLog, ↓reduceIte, Nat.reduceMul, Nat.reduceAdd, Nat.reduceSub, Nat.reduceEqDiff, Nat.reduceBEq, Nat.reduceLeDiff, Nat.reduceLT, reduceCtorEq, Int.reduceAdd, Int.reduceSub, Int.reduceToNat, Int.reduceNeg, Int.reduceEq, Int.reduceLT, Int.reduceLE]
def H_laws_toDisk (E : En) (L : (List TFile) → Option (List TFile)) : Prop := E.Γ.mu 8 = false ∧ (∀ (a0_Files : List TFile), E.Γ 8 [.agg [.d (lstT cFile a0_Files)]] = (L a0_Files).bind fun r => some (.ret (.agg [ownT (cFile) 53 none false r]) []))
-- loop.example/s02135/spec.l3Digit
def c_spec_l3Digit : Cd :=
  sq (r [0] [o 2 .mv [b false]])
  (sq (r [2] [o 3 .mv [t 0], o 4 (.bin .geq) [t 3, .k (.d (.int .u8 48))], o 5 .mv [t 4], g 5 true 6 .mv [t 0], g 5 true 7 (.bin .leq) [t 6, .k (.d (.int .u8 57))], o 8 .pick [t 5, t 7, b false], o 2 .mv [t 8]])
   (.ret))
def r_spec_l3Digit : List RV := [.tmp 2]
def spec_l3Digit_f (N : Nat) (a0 : Int) : Option (Bool) :=
  if 48 ≤ a0 then some (Decidable.decide (a0 ≤ 57))
  else some false
theorem spec_l3Digit_g (E : En) (hy : Hy E [] [] [] r_spec_l3Digit none (fun y => nocap y) flatIds) (a0 : Int) : G E c_spec_l3Digit [] ⟨slotsOf [(0, .d (.int .u8 a0))], obsOf []⟩ = (spec_l3Digit_f E.n a0).bind fun r => some (.ret (.d (.bool r)) []) := by
  simp (config := {maxSteps := 2000000}) only [↓rPre, rPost, rCan, rObj, rI, rS, rB, r8, rLI, rEtc, hy.p, hy.l, hy.k, hy.r, hy.d, hy.w, hy.f, flatIds, oid, r_spec_l3Digit, ↓G_unf _ _ c_spec_l3Digit.eq_1, bind_ite, spec_l3Digit_f, rFile, rRow78, rRow3, rRow53, rRow35, rArray, rRow39, rRow5, rRow9, rMap97, rLog, ↓reduceIte, Nat.reduceMul, Nat.reduceAdd, Nat.reduceSub, Nat.reduceEqDiff, Nat.reduceBEq, Nat.reduceLeDiff, Nat.reduceLT, reduceCtorEq, Int.reduceAdd, Int.reduceSub, Int.reduceToNat, Int.reduceNeg, Int.reduceEq, Int.reduceLT, Int.reduceLE]
def H_spec_l3Digit (E : En) (L : Int → Option (Bool)) : Prop := E.Γ.mu 105 = false ∧ (∀ (a0 : Int), E.Γ 105 [.d (.int .u8 a0)] = (L a0).bind fun r => some (.ret (.d (.bool r)) []))
-- loop.example/s02135/spec.l3Letter
def c_spec_l3Letter : Cd :=
  sq (r [0] [o 2 .mv [b false]])
  (sq (r [2] [o 3 .mv [t 0], o 4 (.bin .geq) [t 3, .k (.d (.int .u8 97))], o 5 .mv [t 4], g 5 true 6 .mv [t 0], g 5 true 7 (.bin .leq) [t 6, .k (.d (.int .u8 122))], o 8 .pick [t 5, t 7, b false], o 9 .mv [t 8], g 9 false 10 .mv [t 0], g 9 false 11 (.bin .geq) [t 10, .k (.d (.int .u8 65))], g 9 false 12 .mv [t 11], g 12 true 13 .mv [t 0], g 12 true 14 (.bin .leq) [t 13, .k (.d (.int .u8 90))], g 9 false 15 .pick [t 12, t 14, b false], o 16 .pick [t 9, b true, t 15], o 2 .mv [t 16]])
   (.ret))
def r_spec_l3Letter : List RV := [.tmp 2]
def spec_l3Letter_f (N : Nat) (a0 : Int) : Option (Bool) :=
  if 97 ≤ a0 then (if a0 ≤ 122 then some true
   else (if 65 ≤ a0 then some (Decidable.decide (a0 ≤ 90))
    else some false))
  else (if 65 ≤ a0 then some (Decidable.decide (a0 ≤ 90))
   else some false)
theorem spec_l3Letter_g (E : En) (hy : Hy E [] [] [] r_spec_l3Letter none (fun y => nocap y) flatIds) (a0 : Int) : G E c_spec_l3Letter [] ⟨slotsOf [(0, .d (.int .u8 a0))], obsOf []⟩ = (spec_l3Letter_f E.n a0).bind fun r => some (.ret (.d (.bool r)) []) := by
  simp (config := {maxSteps := 2000000}) only [↓rPre, rPost, rCan, rObj, rI, rS, rB, r8, rLI, rEtc, hy.p, hy.l, hy.k, hy.r, hy.d, hy.w, hy.f, flatIds, oid, r_spec_l3Letter, ↓G_unf _ _ c_spec_l3Letter.eq_1, bind_ite, spec_l3Letter_f, rFile, rRow78, rRow3, rRow53, rRow35, rArray, rRow39, rRow5, rRow9, rMap97, rLog, ↓reduceIte, Nat.reduceMul, Nat.reduceAdd, Nat.reduceSub, Nat.reduceEqDiff, Nat.reduceBEq, Nat.reduceLeDiff, Nat.reduceLT, reduceCtorEq, Int.reduceAdd, Int.reduceSub, Int.reduceToNat, Int.reduceNeg, Int.reduceEq, Int.reduceLT, Int.reduceLE]
def H_spec_l3Letter (E : En) (L : Int → Option (Bool)) : Prop := E.Γ.mu 106 = false ∧ (∀ (a0 : Int), E.Γ 106 [.d (.int .u8 a0)] = (L a0).bind fun r => some (.ret (.d (.bool r)) []))
-- loop.example/s02135/spec.l7NameOk
def b0_spec_l7NameOk : Cd :=
  sq (sq (r [0, 3, 7] [o 4 .mv [t 3], o 5 .mv [t 0], o 6 (.len true) [t 5], o 7 (.bin .lss) [t 4, t 6]])
   (.cond (t 7) (.skip) (.exit 0)))
  (sq (.block 1 (sq (r [0, 3, 33] [o 10 .mv [t 0], o 11 .mv [t 3], o 12 .ixs [t 10, t 11], o 13 (.call 105) [t 12], o 14 .not [t 13], o 15 .mv [t 14], g 15 true 16 .mv [t 0], g 15 true 17 .mv [t 3], g 15 true 18 .ixs [t 16, t 17], g 15 true 19 (.call 106) [t 18], g 15 true 20 .not [t 19], o 21 .pick [t 15, t 20, b false], o 22 .mv [t 21], g 22 true 23 .mv [t 0], g 22 true 24 .mv [t 3], g 22 true 25 .ixs [t 23, t 24], g 22 true 26 (.bin .neq) [t 25, .k (.d (.int .u8 46))], o 27 .pick [t 22, t 26, b false], o 28 .mv [t 27], g 28 true 29 .mv [t 0], g 28 true 30 .mv [t 3], g 28 true 31 .ixs [t 29, t 30], g 28 true 32 (.bin .neq) [t 31, .k (.d (.int .u8 95))], o 33 .pick [t 28, t 32, b false]])
     (.cond (t 33) (sq (r [2] [o 2 .mv [b false]])
       (.ret)) (.skip))))
   (r [0, 3] [o 8 .mv [t 3], o 9 (.bin .add) [t 8, i 1], o 3 .mv [t 9]]))
def k1_spec_l7NameOk : Cd :=
  sq (r [2] [o 34 .mv [t 0], o 35 (.len true) [t 34], o 36 (.bin .geq) [t 35, i 1], o 37 .mv [t 36], g 37 true 38 .mv [t 0], g 37 true 39 (.len true) [t 38], g 37 true 40 (.bin .leq) [t 39, i 40], o 41 .pick [t 37, t 40, b false], o 2 .mv [t 41]])
  (.ret)
def c_spec_l7NameOk : Cd :=
  sq (r [0] [o 2 .mv [b false]])
  (sq (sq (r [0, 3] [o 3 .mv [i 0]])
    (.block 0 (.loop [0, 3] b0_spec_l7NameOk))) k1_spec_l7NameOk)
def r_spec_l7NameOk : List RV := [.tmp 2]
def spec_l7NameOk_l0 (L_spec_l3Digit : Int → Option (Bool)) (L_spec_l3Letter : Int → Option (Bool)) : Nat → (List UInt8) → Int → Option (Bool)
  | 0, _, _ => none
  | m0 + 1, x0, x3 =>
    if x3 < (↑(List.length x0) : Int) then ((idxB x0 x3).bind fun y0 =>
     (L_spec_l3Digit y0).bind fun y1 =>
     if y1 = false then ((idxB x0 x3).bind fun y2 =>
      (L_spec_l3Letter y2).bind fun y3 =>
      if y3 = false then ((idxB x0 x3).bind fun y4 =>
       if y4 = 46 then spec_l7NameOk_l0 L_spec_l3Digit L_spec_l3Letter m0 x0 (w64 (x3 + 1))
       else ((idxB x0 x3).bind fun y5 =>
        if y5 = 95 then spec_l7NameOk_l0 L_spec_l3Digit L_spec_l3Letter m0 x0 (w64 (x3 + 1))
        else some false))
      else spec_l7NameOk_l0 L_spec_l3Digit L_spec_l3Letter m0 x0 (w64 (x3 + 1)))
     else spec_l7NameOk_l0 L_spec_l3Digit L_spec_l3Letter m0 x0 (w64 (x3 + 1)))
    else (if 1 ≤ (↑(List.length x0) : Int) then some (Decidable.decide ((↑(List.length x0) : Int) ≤ 40))
     else some false)
def spec_l7NameOk_f (L_spec_l3Digit : Int → Option (Bool)) (L_spec_l3Letter : Int → Option (Bool)) (N : Nat) (a0 : List UInt8) : Option (Bool) :=
  spec_l7NameOk_l0 L_spec_l3Digit L_spec_l3Letter N a0 0
theorem spec_l7NameOk_l0_eq (E : En) (hy : Hy E [] [] [] r_spec_l7NameOk none (fun y => nocap y) flatIds) (L_spec_l3Digit : Int → Option (Bool)) (h_spec_l3Digit : H_spec_l3Digit E L_spec_l3Digit) (L_spec_l3Letter : Int → Option (Bool)) (h_spec_l3Letter : H_spec_l3Letter E L_spec_l3Letter) : ∀ (m0 : Nat) (x0 : List UInt8) (x3 : Int), gH E [0, 3] b0_spec_l7NameOk [KJ.b 0, KJ.c k1_spec_l7NameOk] m0 ⟨slotsOf [(0, .d (sD x0)), (3, .d (.int .i64 x3))], obsOf []⟩ = (spec_l7NameOk_l0 L_spec_l3Digit L_spec_l3Letter m0 x0 x3).bind fun r => some (.ret (.d (.bool r)) []) := by
  intro m0
  induction m0 with
  | zero => intros; rfl
  | succ m0 ih =>
    intros
    simp (config := {maxSteps := 2000000}) only [↓rPre, rPost, rCan, rObj, rI, rS, rB, r8, rLI, rEtc, hy.p, hy.l, hy.k, hy.r, hy.d, hy.w, hy.f, flatIds, oid, r_spec_l7NameOk, ↓G_unf _ _ b0_spec_l7NameOk.eq_1, ↓G_unf _ _ k1_spec_l7NameOk.eq_1, ↓G_unf _ _ c_spec_l7NameOk.eq_1, h_spec_l3Digit.2, h_spec_l3Digit.1, h_spec_l3Letter.2, h_spec_l3Letter.1, gH_succ, ih, bind_ite, spec_l7NameOk_l0, rFile, rRow78, rRow3, rRow53, rRow35, rArray, rRow39, rRow5, rRow9, rMap97, rLog, ↓reduceIte, Nat.reduceMul, Nat.reduceAdd, Nat.reduceSub, Nat.reduceEqDiff, Nat.reduceBEq, Nat.reduceLeDiff, Nat.reduceLT, reduceCtorEq, Int.reduceAdd, Int.reduceSub, Int.reduceToNat, Int.reduceNeg, Int.reduceEq, Int.reduceLT, Int.reduceLE]
theorem spec_l7NameOk_g (E : En) (hy : Hy E [] [] [] r_spec_l7NameOk none (fun y => nocap y) flatIds) (L_spec_l3Digit : Int → Option (Bool)) (h_spec_l3Digit : H_spec_l3Digit E L_spec_l3Digit) (L_spec_l3Letter : Int → Option (Bool)) (h_spec_l3Letter : H_spec_l3Letter E L_spec_l3Letter) (a0 : List UInt8) : G E c_spec_l7NameOk [] ⟨slotsOf [(0, .d (sD a0))], obsOf []⟩ = (spec_l7NameOk_f L_spec_l3Digit L_spec_l3Letter E.n a0).bind fun r => some (.ret (.d (.bool r)) []) := by
  simp (config := {maxSteps := 2000000}) only [↓rPre, rPost, rCan, rObj, rI, rS, rB, r8, rLI, rEtc, hy.p, hy.l, hy.k, hy.r, hy.d, hy.w, hy.f, flatIds, oid, r_spec_l7NameOk, ↓G_unf _ _ b0_spec_l7NameOk.eq_1, ↓G_unf _ _ k1_spec_l7NameOk.eq_1, ↓G_unf _ _ c_spec_l7NameOk.eq_1, h_spec_l3Digit.2, h_spec_l3Digit.1, h_spec_l3Letter.2, h_spec_l3Letter.1, bind_ite, spec_l7NameOk_f, spec_l7NameOk_l0_eq E hy L_spec_l3Digit h_spec_l3Digit L_spec_l3Letter h_spec_l3Letter, rFile, rRow78, rRow3, rRow53, rRow35, rArray, rRow39, rRow5, rRow9, rMap97, rLog, ↓reduceIte, Nat.reduceMul, Nat.reduceAdd, Nat.reduceSub, Nat.reduceEqDiff, Nat.reduceBEq, Nat.reduceLeDiff, Nat.reduceLT, reduceCtorEq, Int.reduceAdd, Int.reduceSub, Int.reduceToNat, Int.reduceNeg, Int.reduceEq, Int.reduceLT, Int.reduceLE]
def H_spec_l7NameOk (E : En) (L : (List UInt8) → Option (Bool)) : Prop := E.Γ.mu 76 = false ∧ (∀ (a0 : List UInt8), E.Γ 76 [.d (sD a0)] = (L a0).bind fun r => some (.ret (.d (.bool r)) []))
-- loop.example/s02135/spec.DiskOk
def b0_spec_DiskOk : Cd :=
  sq (sq (r [1, 3, 13] [o 9 .mv [t 3], o 10 (.fa 0) [t 1], o 11 (.ld none) [t 10], o 12 (.len false) [t 11], o 13 (.bin .lss) [t 9, t 12]])
   (.cond (t 13) (.skip) (.exit 0)))
  (sq (.block 1 (sq (r [1, 3, 4] [o 16 (.fa 0) [t 1], o 17 (.ld none) [t 16], o 18 .mv [t 3], o 19 (.ia 2) [t 17, t 18], o 20 (.ld (some 2)) [t 19], o 4 (.alloc [(.d (sD [])), (.d (sD []))]) [], e (.st 2) [t 4, t 20]])
     (sq (rd [] [1, 3, 46] [o 21 (.fa 0) [t 4], o 22 (.ld none) [t 21], o 23 (.call 76) [t 22], o 24 .not [t 23], o 25 .mv [t 24], g 25 false 26 (.fa 1) [t 4], g 25 false 27 (.ld none) [t 26], g 25 false 28 (.len true) [t 27], g 25 false 29 (.bin .gtr) [t 28, i 100000], o 30 .pick [t 25, b true, t 29], o 31 .mv [t 30], g 31 false 32 .mv [t 3], g 31 false 33 (.bin .gtr) [t 32, i 0], g 31 false 34 .mv [t 33], g 34 true 35 (.fa 0) [t 1], g 34 true 36 (.ld none) [t 35], g 34 true 37 .mv [t 3], g 34 true 38 (.bin .sub) [t 37, i 1], g 34 true 39 (.ia 2) [t 36, t 38], g 34 true 40 (.fa 0) [t 39], g 34 true 41 (.ld none) [t 40], g 34 true 42 (.fa 0) [t 4], g 34 true 43 (.ld none) [t 42], g 34 true 44 (.bin .geq) [t 41, t 43], g 31 false 45 .pick [t 34, t 44, b false], o 46 .pick [t 31, b true, t 45]])
      (.cond (t 46) (sq (r [2] [o 2 .mv [b false]])
        (.ret)) (.skip)))))
   (r [1, 3] [o 14 .mv [t 3], o 15 (.bin .add) [t 14, i 1], o 3 .mv [t 15]]))
def k1_spec_DiskOk : Cd :=
  sq (r [2] [o 2 .mv [b true]])
  (.ret)
def c_spec_DiskOk : Cd :=
  sq (r [1] [o 1 .box [t 0], o 2 .mv [b false]])
  (sq (sq (r [1, 8] [o 5 (.fa 0) [t 1], o 6 (.ld none) [t 5], o 7 (.len false) [t 6], o 8 (.bin .gtr) [t 7, i 400]])
    (.cond (t 8) (sq (r [2] [o 2 .mv [b false]])
      (.ret)) (.skip)))
   (sq (sq (r [1, 3] [o 3 .mv [i 0]])
     (.block 0 (.loop [1, 3] b0_spec_DiskOk))) k1_spec_DiskOk))
def r_spec_DiskOk : List RV := [.tmp 2]
def spec_DiskOk_l0 (L_spec_l7NameOk : (List UInt8) → Option (Bool)) : Nat → Int → (List TFile) → Option (Bool)
  | 0, _, _ => none
  | m0 + 1, x3, o64_0 =>
    if x3 < (↑(List.length o64_0) : Int) then ((idx o64_0 x3).bind fun y0 =>
     (L_spec_l7NameOk y0.Name).bind fun y1 =>
     if y1 = false then some false
     else (if 100000 < (↑(List.length y0.Data) : Int) then some false
      else (if 0 < x3 then ((idx o64_0 (w64 (x3 - 1))).bind fun y2 =>
        if lessS y2.Name y0.Name = false then some false
        else spec_DiskOk_l0 L_spec_l7NameOk m0 (w64 (x3 + 1)) o64_0)
       else spec_DiskOk_l0 L_spec_l7NameOk m0 (w64 (x3 + 1)) o64_0)))
    else some true
def spec_DiskOk_f (L_spec_l7NameOk : (List UInt8) → Option (Bool)) (N : Nat) (a0_Files : List TFile) : Option (Bool) :=
  if 400 < (↑(List.length a0_Files) : Int) then some false
  else spec_DiskOk_l0 L_spec_l7NameOk N 0 a0_Files
theorem spec_DiskOk_l0_eq (E : En) (hy : Hy E [] [] [] r_spec_DiskOk none (fun y => nocap y) flatIds) (L_spec_l7NameOk : (List UInt8) → Option (Bool)) (h_spec_l7NameOk : H_spec_l7NameOk E L_spec_l7NameOk) : ∀ (m0 : Nat) (x3 : Int) (o64_0 : List TFile), gH E [1, 3] b0_spec_DiskOk [KJ.b 0, KJ.c k1_spec_DiskOk] m0 ⟨slotsOf [(1, A.adr 64 1 0), (3, .d (.int .i64 x3))], obsOf [(64, ⟨1, .box [.d (lstT (cFile) o64_0)], false⟩)]⟩ = (spec_DiskOk_l0 L_spec_l7NameOk m0 x3 o64_0).bind fun r => some (.ret (.d (.bool r)) []) := by
  intro m0
  induction m0 with
  | zero => intros; rfl
  | succ m0 ih =>
    intros
    simp (config := {maxSteps := 2000000}) only [↓rPre, rPost, rCan, rObj, rI, rS, rB, r8, rLI, rEtc, hy.p, hy.l, hy.k, hy.r, hy.d, hy.w, hy.f, flatIds, oid, r_spec_DiskOk, ↓G_unf _ _ b0_spec_DiskOk.eq_1, ↓G_unf _ _ k1_spec_DiskOk.eq_1, ↓G_unf _ _ c_spec_DiskOk.eq_1, h_spec_l7NameOk.2, h_spec_l7NameOk.1, gH_succ, ih, bind_ite, spec_DiskOk_l0, rFile, rRow78, rRow3, rRow53, rRow35, rArray, rRow39, rRow5, rRow9, rMap97, rLog, ↓reduceIte, Nat.reduceMul, Nat.reduceAdd, Nat.reduceSub, Nat.reduceEqDiff, Nat.reduceBEq, Nat.reduceLeDiff, Nat.reduceLT, reduceCtorEq, Int.reduceAdd, Int.reduceSub, Int.reduceToNat, Int.reduceNeg, Int.reduceEq, Int.reduceLT, Int.reduceLE]
theorem spec_DiskOk_g (E : En) (hy : Hy E [] [] [] r_spec_DiskOk none (fun y => nocap y) flatIds) (L_spec_l7NameOk : (List UInt8) → Option (Bool)) (h_spec_l7NameOk : H_spec_l7NameOk E L_spec_l7NameOk) (a0_Files : List TFile) : G E c_spec_DiskOk [] ⟨slotsOf [(0, .agg [.d (lstT cFile a0_Files)])], obsOf []⟩ = (spec_DiskOk_f L_spec_l7NameOk E.n a0_Files).bind fun r => some (.ret (.d (.bool r)) []) := by
  simp (config := {maxSteps := 2000000}) only [↓rPre, rPost, rCan, rObj, rI, rS, rB, r8, rLI, rEtc, hy.p, hy.l, hy.k, hy.r, hy.d, hy.w, hy.f, flatIds, oid, r_spec_DiskOk, ↓G_unf _ _ b0_spec_DiskOk.eq_1, ↓G_unf _ _ k1_spec_DiskOk.eq_1, ↓G_unf _ _ c_spec_DiskOk.eq_1, h_spec_l7NameOk.2, h_spec_l7NameOk.1, bind_ite, spec_DiskOk_f, spec_DiskOk_l0_eq E hy L_spec_l7NameOk h_spec_l7NameOk, rFile, rRow78, rRow3, rRow53, rRow35, rArray, rRow39, rRow5, rRow9, rMap97, rLog, ↓reduceIte, Nat.reduceMul, Nat.reduceAdd, Nat.reduceSub, Nat.reduceEqDiff, Nat.reduceBEq, Nat.reduceLeDiff, Nat.reduceLT, reduceCtorEq, Int.reduceAdd, Int.reduceSub, Int.reduceToNat, Int.reduceNeg, Int.reduceEq, Int.reduceLT, Int.reduceLE]
def H_spec_DiskOk (E : En) (L : (List TFile) → Option (Bool)) : Prop := E.Γ.mu 23 = false ∧ (∀ (a0_Files : List TFile), E.Γ 23 [.agg [.d (lstT cFile a0_Files)]] = (L a0_Files).bind fun r => some (.ret (.d (.bool r)) []))
-- loop.example/s02135/spec.l7Copy
def c_spec_l7Copy : Cd :=
  sq (r [1, 2] [o 1 .box [t 0], o 2 (.alloc [.nil]) []])
  (sq (r [1, 2, 3] [o 4 (lit 53 2 0) [], o 3 .mv [t 4]])
   (sq (r [2] [o 5 .mv [t 3], o 6 (.fa 0) [t 1], o 7 (.ld none) [t 6], o 8 (.app 53 2 32) [t 5, t 7], o 9 (.bld [.nil] [(0, 1)]) [t 8], e (.st 1) [t 2, t 9]])
    (.ret)))
def r_spec_l7Copy : List RV := [.cell 2 (some 1)]
def spec_l7Copy_f (N : Nat) (a0_Files : List TFile) : Option (List TFile) :=
  if room 32 (List.length a0_Files) then some a0_Files
  else none
theorem spec_l7Copy_g (E : En) (hy : Hy E [] [] [] r_spec_l7Copy none (fun y => nocap y) flatIds) (a0_Files : List TFile) : G E c_spec_l7Copy [] ⟨slotsOf [(0, .agg [.d (lstT cFile a0_Files)])], obsOf []⟩ = (spec_l7Copy_f E.n a0_Files).bind fun r => some (.ret (.agg [ownT (cFile) 53 none false r]) []) := by
  simp (config := {maxSteps := 2000000}) only [↓rPre, rPost, rCan, rObj, rI, rS, rB, r8, rLI, rEtc, hy.p, hy.l, hy.k, hy.r, hy.d, hy.w, hy.f, flatIds, oid, r_spec_l7Copy, ↓G_unf _ _ c_spec_l7Copy.eq_1, bind_ite, spec_l7Copy_f, rFile, rRow78, rRow3, rRow53, rRow35, rArray, rRow39, rRow5, rRow9, rMap97, rLog, ↓reduceIte, Nat.reduceMul, Nat.reduceAdd, Nat.reduceSub, Nat.reduceEqDiff, Nat.reduceBEq, Nat.reduceLeDiff, Nat.reduceLT, reduceCtorEq, Int.reduceAdd, Int.reduceSub, Int.reduceToNat, Int.reduceNeg, Int.reduceEq, Int.reduceLT, Int.reduceLE]
def H_spec_l7Copy (E : En) (L : (List TFile) → Option (List TFile)) : Prop := E.Γ.mu 24 = false ∧ (∀ (a0_Files : List TFile), E.Γ 24 [.agg [.d (lstT cFile a0_Files)]] = (L a0_Files).bind fun r => some (.ret (.agg [ownT (cFile) 53 none false r]) []))
-- loop.example/s02135/spec.l7IsTmp
def c_spec_l7IsTmp : Cd :=
  sq (r [0] [o 2 .mv [b false]])
  (sq (r [2] [o 3 .mv [t 0], o 4 (.len true) [t 3], o 5 (.bin .geq) [t 4, i 4], o 6 .mv [t 5], g 6 true 7 .mv [t 0], g 6 true 8 .mv [t 0], g 6 true 9 (.len true) [t 8], g 6 true 10 (.bin .sub) [t 9, i 4], g 6 true 11 (.slc true 1 true false) [t 7, t 10], g 6 true 12 (.bin .eql) [t 11, s [46, 116, 109, 112]], o 13 .pick [t 6, t 12, b false], o 2 .mv [t 13]])
   (.ret))
def r_spec_l7IsTmp : List RV := [.tmp 2]
def spec_l7IsTmp_f (N : Nat) (a0 : List UInt8) : Option (Bool) :=
  if 4 ≤ (↑(List.length a0) : Int) then ((cut a0 (w64 ((↑(List.length a0) : Int) - 4)) (↑(List.length a0) : Int)).bind fun y0 =>
   some (Decidable.decide (y0 = [46, 116, 109, 112])))
  else some false
theorem spec_l7IsTmp_g (E : En) (hy : Hy E [] [] [] r_spec_l7IsTmp none (fun y => nocap y) flatIds) (a0 : List UInt8) : G E c_spec_l7IsTmp [] ⟨slotsOf [(0, .d (sD a0))], obsOf []⟩ = (spec_l7IsTmp_f E.n a0).bind fun r => some (.ret (.d (.bool r)) []) := by
  simp (config := {maxSteps := 2000000}) only [↓rPre, rPost, rCan, rObj, rI, rS, rB, r8, rLI, rEtc, hy.p, hy.l, hy.k, hy.r, hy.d, hy.w, hy.f, flatIds, oid, r_spec_l7IsTmp, ↓G_unf _ _ c_spec_l7IsTmp.eq_1, bind_ite, spec_l7IsTmp_f, rFile, rRow78, rRow3, rRow53, rRow35, rArray, rRow39, rRow5, rRow9, rMap97, rLog, ↓reduceIte, Nat.reduceMul, Nat.reduceAdd, Nat.reduceSub, Nat.reduceEqDiff, Nat.reduceBEq, Nat.reduceLeDiff, Nat.reduceLT, reduceCtorEq, Int.reduceAdd, Int.reduceSub, Int.reduceToNat, Int.reduceNeg, Int.reduceEq, Int.reduceLT, Int.reduceLE]
def H_spec_l7IsTmp (E : En) (L : (List UInt8) → Option (Bool)) : Prop := E.Γ.mu 25 = false ∧ (∀ (a0 : List UInt8), E.Γ 25 [.d (sD a0)] = (L a0).bind fun r => some (.ret (.d (.bool r)) []))
-- loop.example/s02135/spec.Recover
def b0_spec_Recover : Cd :=
  sq (sq (r [1, 2, 4, 5, 17] [o 13 .mv [t 5], o 14 (.fa 0) [t 1], o 15 (.ld none) [t 14], o 16 (.len false) [t 15], o 17 (.bin .lss) [t 13, t 16]])
   (.cond (t 17) (.skip) (.exit 0)))
  (sq (.block 1 (sq (r [1, 2, 4, 5, 27] [o 20 (.fa 0) [t 1], o 21 (.ld none) [t 20], o 22 .mv [t 5], o 23 (.ia 2) [t 21, t 22], o 24 (.fa 0) [t 23], o 25 (.ld none) [t 24], o 26 (.call 25) [t 25], o 27 .not [t 26]])
     (.cond (t 27) (rd [] [1, 2, 4, 5] [o 28 (.fa 0) [t 4], o 29 (.ld none) [t 28], o 30 (.fa 0) [t 1], o 31 (.ld none) [t 30], o 32 .mv [t 5], o 33 (.ia 2) [t 31, t 32], o 34 (.ld (some 2)) [t 33], ap [] false [4, 28] (o 35 (lit 53 2 1) [t 34]), o 36 (.app 53 2 32) [t 29, t 35], o 37 (.fa 0) [t 4], e (.st 1) [t 37, t 36]]) (.skip))))
   (r [1, 2, 4, 5] [o 18 .mv [t 5], o 19 (.bin .add) [t 18, i 1], o 5 .mv [t 19]]))
def k1_spec_Recover : Cd :=
  sq (r [2, 3] [o 38 (.ld (some 1)) [t 4], e (.st 1) [t 2, t 38], o 3 .mv [b true]])
  (.ret)
def c_spec_Recover : Cd :=
  sq (r [1, 2] [o 1 .box [t 0], o 2 (.alloc [.nil]) [], o 3 .mv [b false]])
  (sq (sq (r [1, 2, 8] [o 6 (.ld (some 1)) [t 1], o 7 (.call 23) [t 6], o 8 .not [t 7]])
    (.cond (t 8) (sq (r [2, 3] [o 9 (.ld (some 1)) [t 1], o 10 (.call 24) [t 9], e (.st 1) [t 2, t 10], o 3 .mv [b false]])
      (.ret)) (.skip)))
   (sq (r [1, 2, 4] [o 11 (lit 53 2 0) [], o 12 (.bld [.nil] [(0, 1)]) [t 11], o 4 (.alloc [.nil]) [], e (.st 1) [t 4, t 12]])
    (sq (sq (r [1, 2, 4, 5] [o 5 .mv [i 0]])
      (.block 0 (.loop [1, 2, 4, 5] b0_spec_Recover))) k1_spec_Recover)))
def r_spec_Recover : List RV := [.cell 2 (some 1), .tmp 3]
def spec_Recover_l0 (L_spec_DiskOk : (List TFile) → Option (Bool)) (L_spec_l7Copy : (List TFile) → Option (List TFile)) (L_spec_l7IsTmp : (List UInt8) → Option (Bool)) : Nat → Int → (List TFile) → (List TFile) → Option (List TFile × Bool)
  | 0, _, _, _ => none
  | m0 + 1, x5, o64_0, o257 =>
    if x5 < (↑(List.length o64_0) : Int) then ((idx o64_0 x5).bind fun y0 =>
     (L_spec_l7IsTmp y0.Name).bind fun y1 =>
     if y1 = false then ((idx o64_0 x5).bind fun y2 =>
      if room 32 (List.length (o257 ++ [{ Name := y2.Name, Data := y2.Data }])) then spec_Recover_l0 L_spec_DiskOk L_spec_l7Copy L_spec_l7IsTmp m0 (w64 (x5 + 1)) o64_0 (o257 ++ [{ Name := y2.Name, Data := y2.Data }])
      else none)
     else spec_Recover_l0 L_spec_DiskOk L_spec_l7Copy L_spec_l7IsTmp m0 (w64 (x5 + 1)) o64_0 o257)
    else some ((o257, true))
def spec_Recover_f (L_spec_DiskOk : (List TFile) → Option (Bool)) (L_spec_l7Copy : (List TFile) → Option (List TFile)) (L_spec_l7IsTmp : (List UInt8) → Option (Bool)) (N : Nat) (a0_Files : List TFile) : Option (List TFile × Bool) :=
  (L_spec_DiskOk a0_Files).bind fun y0 =>
  if y0 = false then ((L_spec_l7Copy a0_Files).bind fun y1 =>
   some ((y1, false)))
  else spec_Recover_l0 L_spec_DiskOk L_spec_l7Copy L_spec_l7IsTmp N 0 a0_Files []
theorem spec_Recover_l0_eq (E : En) (hy : Hy E [] [] [] r_spec_Recover none (fun y => nocap y) flatIds) (L_spec_DiskOk : (List TFile) → Option (Bool)) (h_spec_DiskOk : H_spec_DiskOk E L_spec_DiskOk) (L_spec_l7Copy : (List TFile) → Option (List TFile)) (h_spec_l7Copy : H_spec_l7Copy E L_spec_l7Copy) (L_spec_l7IsTmp : (List UInt8) → Option (Bool)) (h_spec_l7IsTmp : H_spec_l7IsTmp E L_spec_l7IsTmp) : ∀ (m0 : Nat) (x5 : Int) (o64_0 : List TFile) (o257 : List TFile), gH E [1, 2, 4, 5] b0_spec_Recover [KJ.b 0, KJ.c k1_spec_Recover] m0 ⟨slotsOf [(1, A.adr 64 1 0), (2, A.adr 128 1 0), (4, A.adr 256 1 0), (5, .d (.int .i64 x5))], obsOf [(64, ⟨1, .box [.d (lstT (cFile) o64_0)], false⟩), (128, ⟨1, .box [A.nil], false⟩), (256, ⟨1, .box [A.row 257 1], false⟩), (257, ⟨1, rowT (cFile) 53 none o257, false⟩)]⟩ = (spec_Recover_l0 L_spec_DiskOk L_spec_l7Copy L_spec_l7IsTmp m0 x5 o64_0 o257).bind fun r => some (.ret (.tup [.agg [ownT (cFile) 53 none false r.1], .d (.bool r.2)]) []) := by
  intro m0
  induction m0 with
  | zero => intros; rfl
  | succ m0 ih =>
    intros
    simp (config := {maxSteps := 2000000}) only [↓rPre, rPost, rCan, rObj, rI, rS, rB, r8, rLI, rEtc, hy.p, hy.l, hy.k, hy.r, hy.d, hy.w, hy.f, flatIds, oid, r_spec_Recover, ↓G_unf _ _ b0_spec_Recover.eq_1, ↓G_unf _ _ k1_spec_Recover.eq_1, ↓G_unf _ _ c_spec_Recover.eq_1, h_spec_DiskOk.2, h_spec_DiskOk.1, h_spec_l7Copy.2, h_spec_l7Copy.1, h_spec_l7IsTmp.2, h_spec_l7IsTmp.1, gH_succ, ih, bind_ite, spec_Recover_l0, rFile, rRow78, rRow3, rRow53, rRow35, rArray, rRow39, rRow5, rRow9, rMap97, rLog, ↓reduceIte, Nat.reduceMul, Nat.reduceAdd, Nat.reduceSub, Nat.reduceEqDiff, Nat.reduceBEq, Nat.reduceLeDiff, Nat.reduceLT, reduceCtorEq, Int.reduceAdd, Int.reduceSub, Int.reduceToNat, Int.reduceNeg, Int.reduceEq, Int.reduceLT, Int.reduceLE]
theorem spec_Recover_g (E : En) (hy : Hy E [] [] [] r_spec_Recover none (fun y => nocap y) flatIds) (L_spec_DiskOk : (List TFile) → Option (Bool)) (h_spec_DiskOk : H_spec_DiskOk E L_spec_DiskOk) (L_spec_l7Copy : (List TFile) → Option (List TFile)) (h_spec_l7Copy : H_spec_l7Copy E L_spec_l7Copy) (L_spec_l7IsTmp : (List UInt8) → Option (Bool)) (h_spec_l7IsTmp : H_spec_l7IsTmp E L_spec_l7IsTmp) (a0_Files : List TFile) : G E c_spec_Recover [] ⟨slotsOf [(0, .agg [.d (lstT cFile a0_Files)])], obsOf []⟩ = (spec_Recover_f L_spec_DiskOk L_spec_l7Copy L_spec_l7IsTmp E.n a0_Files).bind fun r => some (.ret (.tup [.agg [ownT (cFile) 53 none false r.1], .d (.bool r.2)]) []) := by
  simp (config := {maxSteps := 2000000}) only [↓rPre, rPost, rCan, rObj, rI, rS, rB, r8, rLI, rEtc, hy.p, hy.l, hy.k, hy.r, hy.d, hy.w, hy.f, flatIds, oid, r_spec_Recover, ↓G_unf _ _ b0_spec_Recover.eq_1, ↓G_unf _ _ k1_spec_Recover.eq_1, ↓G_unf _ _ c_spec_Recover.eq_1, h_spec_DiskOk.2, h_spec_DiskOk.1, h_spec_l7Copy.2, h_spec_l7Copy.1, h_spec_l7IsTmp.2, h_spec_l7IsTmp.1, bind_ite, spec_Recover_f, spec_Recover_l0_eq E hy L_spec_DiskOk h_spec_DiskOk L_spec_l7Copy h_spec_l7Copy L_spec_l7IsTmp h_spec_l7IsTmp, rFile, rRow78, rRow3, rRow53, rRow35, rArray, rRow39, rRow5, rRow9, rMap97, rLog, ↓reduceIte, Nat.reduceMul, Nat.reduceAdd, Nat.reduceSub, Nat.reduceEqDiff, Nat.reduceBEq, Nat.reduceLeDiff, Nat.reduceLT, reduceCtorEq, Int.reduceAdd, Int.reduceSub, Int.reduceToNat, Int.reduceNeg, Int.reduceEq, Int.reduceLT, Int.reduceLE]
def H_spec_Recover (E : En) (L : (List TFile) → Option (List TFile × Bool)) : Prop := E.Γ.mu 7 = false ∧ (∀ (a0_Files : List TFile), E.Γ 7 [.agg [.d (lstT cFile a0_Files)]] = (L a0_Files).bind fun r => some (.ret (.tup [.agg [ownT (cFile) 53 none false r.1], .d (.bool r.2)]) []))
-- loop.example/s02135/impl.isDigit
def c_impl_isDigit : Cd :=
  sq (r [0] [o 2 .mv [b false]])
  (sq (r [2] [o 3 .mv [t 0], o 4 (.bin .leq) [.k (.d (.int .u8 48)), t 3], o 5 .mv [t 4], g 5 true 6 .mv [t 0], g 5 true 7 (.bin .leq) [t 6, .k (.d (.int .u8 57))], o 8 .pick [t 5, t 7, b false], o 2 .mv [t 8]])
   (.ret))
def r_impl_isDigit : List RV := [.tmp 2]
def impl_isDigit_f (N : Nat) (a0 : Int) : Option (Bool) :=
  if 48 ≤ a0 then some (Decidable.decide (a0 ≤ 57))
  else some false
theorem impl_isDigit_g (E : En) (hy : Hy E [] [] [] r_impl_isDigit none (fun y => nocap y) flatIds) (a0 : Int) : G E c_impl_isDigit [] ⟨slotsOf [(0, .d (.int .u8 a0))], obsOf []⟩ = (impl_isDigit_f E.n a0).bind fun r => some (.ret (.d (.bool r)) []) := by
  simp (config := {maxSteps := 2000000}) only [↓rPre, rPost, rCan, rObj, rI, rS, rB, r8, rLI, rEtc, hy.p, hy.l, hy.k, hy.r, hy.d, hy.w, hy.f, flatIds, oid, r_impl_isDigit, ↓G_unf _ _ c_impl_isDigit.eq_1, bind_ite, impl_isDigit_f, rFile, rRow78, rRow3, rRow53, rRow35, rArray, rRow39, rRow5, rRow9, rMap97, rLog, ↓reduceIte, Nat.reduceMul, Nat.reduceAdd, Nat.reduceSub, Nat.reduceEqDiff, Nat.reduceBEq, Nat.reduceLeDiff, Nat.reduceLT, reduceCtorEq, Int.reduceAdd, Int.reduceSub, Int.reduceToNat, Int.reduceNeg, Int.reduceEq, Int.reduceLT, Int.reduceLE]
def H_impl_isDigit (E : En) (L : Int → Option (Bool)) : Prop := E.Γ.mu 107 = false ∧ (∀ (a0 : Int), E.Γ 107 [.d (.int .u8 a0)] = (L a0).bind fun r => some (.ret (.d (.bool r)) []))
-- loop.example/s02135/impl.isLetter
def c_impl_isLetter : Cd :=
  sq (r [0] [o 2 .mv [b false]])
  (sq (r [2] [o 3 .mv [t 0], o 4 (.bin .leq) [.k (.d (.int .u8 97)), t 3], o 5 .mv [t 4], g 5 true 6 .mv [t 0], g 5 true 7 (.bin .leq) [t 6, .k (.d (.int .u8 122))], o 8 .pick [t 5, t 7, b false], o 9 .mv [t 8], g 9 false 10 .mv [t 0], g 9 false 11 (.bin .leq) [.k (.d (.int .u8 65)), t 10], g 9 false 12 .mv [t 11], g 12 true 13 .mv [t 0], g 12 true 14 (.bin .leq) [t 13, .k (.d (.int .u8 90))], g 9 false 15 .pick [t 12, t 14, b false], o 16 .pick [t 9, b true, t 15], o 2 .mv [t 16]])
   (.ret))
def r_impl_isLetter : List RV := [.tmp 2]
def impl_isLetter_f (N : Nat) (a0 : Int) : Option (Bool) :=
  if 97 ≤ a0 then (if a0 ≤ 122 then some true
   else (if 65 ≤ a0 then some (Decidable.decide (a0 ≤ 90))
    else some false))
  else (if 65 ≤ a0 then some (Decidable.decide (a0 ≤ 90))
   else some false)
theorem impl_isLetter_g (E : En) (hy : Hy E [] [] [] r_impl_isLetter none (fun y => nocap y) flatIds) (a0 : Int) : G E c_impl_isLetter [] ⟨slotsOf [(0, .d (.int .u8 a0))], obsOf []⟩ = (impl_isLetter_f E.n a0).bind fun r => some (.ret (.d (.bool r)) []) := by
  simp (config := {maxSteps := 2000000}) only [↓rPre, rPost, rCan, rObj, rI, rS, rB, r8, rLI, rEtc, hy.p, hy.l, hy.k, hy.r, hy.d, hy.w, hy.f, flatIds, oid, r_impl_isLetter, ↓G_unf _ _ c_impl_isLetter.eq_1, bind_ite, impl_isLetter_f, rFile, rRow78, rRow3, rRow53, rRow35, rArray, rRow39, rRow5, rRow9, rMap97, rLog, ↓reduceIte, Nat.reduceMul, Nat.reduceAdd, Nat.reduceSub, Nat.reduceEqDiff, Nat.reduceBEq, Nat.reduceLeDiff, Nat.reduceLT, reduceCtorEq, Int.reduceAdd, Int.reduceSub, Int.reduceToNat, Int.reduceNeg, Int.reduceEq, Int.reduceLT, Int.reduceLE]
def H_impl_isLetter (E : En) (L : Int → Option (Bool)) : Prop := E.Γ.mu 108 = false ∧ (∀ (a0 : Int), E.Γ 108 [.d (.int .u8 a0)] = (L a0).bind fun r => some (.ret (.d (.bool r)) []))
-- loop.example/s02135/impl.fileNameOk
def b0_impl_fileNameOk : Cd :=
  sq (r [0, 13, 14, 15] [o 15 (.bin .lss) [t 14, t 13]])
  (sq (.cond (t 15) (.skip) (.exit 0))
   (sq (.block 1 (sq (r [0, 3, 13, 14] [o 16 .mv [t 14], o 3 .mv [t 16]])
      (sq (r [0, 13, 14, 40] [o 17 .mv [t 0], o 18 .mv [t 3], o 19 .ixs [t 17, t 18], o 20 (.call 107) [t 19], o 21 .not [t 20], o 22 .mv [t 21], g 22 true 23 .mv [t 0], g 22 true 24 .mv [t 3], g 22 true 25 .ixs [t 23, t 24], g 22 true 26 (.call 108) [t 25], g 22 true 27 .not [t 26], o 28 .pick [t 22, t 27, b false], o 29 .mv [t 28], g 29 true 30 .mv [t 0], g 29 true 31 .mv [t 3], g 29 true 32 .ixs [t 30, t 31], g 29 true 33 (.bin .neq) [t 32, .k (.d (.int .u8 46))], o 34 .pick [t 29, t 33, b false], o 35 .mv [t 34], g 35 true 36 .mv [t 0], g 35 true 37 .mv [t 3], g 35 true 38 .ixs [t 36, t 37], g 35 true 39 (.bin .neq) [t 38, .k (.d (.int .u8 95))], o 40 .pick [t 35, t 39, b false]])
       (.cond (t 40) (sq (r [2] [o 2 .mv [b false]])
         (.ret)) (.skip)))))
    (r [0, 13, 14] [o 41 (.bin .add) [t 14, i 1], o 14 .mv [t 41]])))
def k1_impl_fileNameOk : Cd :=
  sq (r [2] [o 2 .mv [b true]])
  (.ret)
def c_impl_fileNameOk : Cd :=
  sq (r [0] [o 2 .mv [b false]])
  (sq (sq (r [0, 11] [o 4 .mv [t 0], o 5 (.len true) [t 4], o 6 (.bin .lss) [t 5, i 1], o 7 .mv [t 6], g 7 false 8 .mv [t 0], g 7 false 9 (.len true) [t 8], g 7 false 10 (.bin .gtr) [t 9, i 40], o 11 .pick [t 7, b true, t 10]])
    (.cond (t 11) (sq (r [2] [o 2 .mv [b false]])
      (.ret)) (.skip)))
   (sq (sq (r [0, 13, 14] [o 12 .mv [t 0], o 13 (.len true) [t 12], o 14 .mv [i 0]])
     (.block 0 (.loop [0, 13, 14] b0_impl_fileNameOk))) k1_impl_fileNameOk))
def r_impl_fileNameOk : List RV := [.tmp 2]
def impl_fileNameOk_l0 (L_impl_isDigit : Int → Option (Bool)) (L_impl_isLetter : Int → Option (Bool)) : Nat → (List UInt8) → Int → Int → Option (Bool)
  | 0, _, _, _ => none
  | m0 + 1, x0, x13, x14 =>
    if x14 < x13 then ((idxB x0 x14).bind fun y0 =>
     (L_impl_isDigit y0).bind fun y1 =>
     if y1 = false then ((idxB x0 x14).bind fun y2 =>
      (L_impl_isLetter y2).bind fun y3 =>
      if y3 = false then ((idxB x0 x14).bind fun y4 =>
       if y4 = 46 then impl_fileNameOk_l0 L_impl_isDigit L_impl_isLetter m0 x0 x13 (w64 (x14 + 1))
       else ((idxB x0 x14).bind fun y5 =>
        if y5 = 95 then impl_fileNameOk_l0 L_impl_isDigit L_impl_isLetter m0 x0 x13 (w64 (x14 + 1))
        else some false))
      else impl_fileNameOk_l0 L_impl_isDigit L_impl_isLetter m0 x0 x13 (w64 (x14 + 1)))
     else impl_fileNameOk_l0 L_impl_isDigit L_impl_isLetter m0 x0 x13 (w64 (x14 + 1)))
    else some true
def impl_fileNameOk_f (L_impl_isDigit : Int → Option (Bool)) (L_impl_isLetter : Int → Option (Bool)) (N : Nat) (a0 : List UInt8) : Option (Bool) :=
  if (↑(List.length a0) : Int) < 1 then some false
  else (if 40 < (↑(List.length a0) : Int) then some false
   else impl_fileNameOk_l0 L_impl_isDigit L_impl_isLetter N a0 ((↑(List.length a0) : Int)) 0)
theorem impl_fileNameOk_l0_eq (E : En) (hy : Hy E [] [] [] r_impl_fileNameOk none (fun y => nocap y) flatIds) (L_impl_isDigit : Int → Option (Bool)) (h_impl_isDigit : H_impl_isDigit E L_impl_isDigit) (L_impl_isLetter : Int → Option (Bool)) (h_impl_isLetter : H_impl_isLetter E L_impl_isLetter) : ∀ (m0 : Nat) (x0 : List UInt8) (x13 : Int) (x14 : Int), gH E [0, 13, 14] b0_impl_fileNameOk [KJ.b 0, KJ.c k1_impl_fileNameOk] m0 ⟨slotsOf [(0, .d (sD x0)), (13, .d (.int .i64 x13)), (14, .d (.int .i64 x14))], obsOf []⟩ = (impl_fileNameOk_l0 L_impl_isDigit L_impl_isLetter m0 x0 x13 x14).bind fun r => some (.ret (.d (.bool r)) []) := by
  intro m0
  induction m0 with
  | zero => intros; rfl
  | succ m0 ih =>
    intros
    simp (config := {maxSteps := 2000000}) only [↓rPre, rPost, rCan, rObj, rI, rS, rB, r8, rLI, rEtc, hy.p, hy.l, hy.k, hy.r, hy.d, hy.w, hy.f, flatIds, oid, r_impl_fileNameOk, ↓G_unf _ _ b0_impl_fileNameOk.eq_1, ↓G_unf _ _ k1_impl_fileNameOk.eq_1, ↓G_unf _ _ c_impl_fileNameOk.eq_1, h_impl_isDigit.2, h_impl_isDigit.1, h_impl_isLetter.2, h_impl_isLetter.1, gH_succ, ih, bind_ite, impl_fileNameOk_l0, rFile, rRow78, rRow3, rRow53, rRow35, rArray, rRow39, rRow5, rRow9, rMap97, rLog, ↓reduceIte, Nat.reduceMul, Nat.reduceAdd, Nat.reduceSub, Nat.reduceEqDiff, Nat.reduceBEq, Nat.reduceLeDiff, Nat.reduceLT, reduceCtorEq, Int.reduceAdd, Int.reduceSub, Int.reduceToNat, Int.reduceNeg, Int.reduceEq, Int.reduceLT, Int.reduceLE]
theorem impl_fileNameOk_g (E : En) (hy : Hy E [] [] [] r_impl_fileNameOk none (fun y => nocap y) flatIds) (L_impl_isDigit : Int → Option (Bool)) (h_impl_isDigit : H_impl_isDigit E L_impl_isDigit) (L_impl_isLetter : Int → Option (Bool)) (h_impl_isLetter : H_impl_isLetter E L_impl_isLetter) (a0 : List UInt8) : G E c_impl_fileNameOk [] ⟨slotsOf [(0, .d (sD a0))], obsOf []⟩ = (impl_fileNameOk_f L_impl_isDigit L_impl_isLetter E.n a0).bind fun r => some (.ret (.d (.bool r)) []) := by
  simp (config := {maxSteps := 2000000}) only [↓rPre, rPost, rCan, rObj, rI, rS, rB, r8, rLI, rEtc, hy.p, hy.l, hy.k, hy.r, hy.d, hy.w, hy.f, flatIds, oid, r_impl_fileNameOk, ↓G_unf _ _ b0_impl_fileNameOk.eq_1, ↓G_unf _ _ k1_impl_fileNameOk.eq_1, ↓G_unf _ _ c_impl_fileNameOk.eq_1, h_impl_isDigit.2, h_impl_isDigit.1, h_impl_isLetter.2, h_impl_isLetter.1, bind_ite, impl_fileNameOk_f, impl_fileNameOk_l0_eq E hy L_impl_isDigit h_impl_isDigit L_impl_isLetter h_impl_isLetter, rFile, rRow78, rRow3, rRow53, rRow35, rArray, rRow39, rRow5, rRow9, rMap97, rLog, ↓reduceIte, Nat.reduceMul, Nat.reduceAdd, Nat.reduceSub, Nat.reduceEqDiff, Nat.reduceBEq, Nat.reduceLeDiff, Nat.reduceLT, reduceCtorEq, Int.reduceAdd, Int.reduceSub, Int.reduceToNat, Int.reduceNeg, Int.reduceEq, Int.reduceLT, Int.reduceLE]
def H_impl_fileNameOk (E : En) (L : (List UInt8) → Option (Bool)) : Prop := E.Γ.mu 78 = false ∧ (∀ (a0 : List UInt8), E.Γ 78 [.d (sD a0)] = (L a0).bind fun r => some (.ret (.d (.bool r)) []))
-- loop.example/s02135/impl.DiskOk
def b0_impl_DiskOk : Cd :=
  sq (r [1, 10, 11, 12, 13] [o 13 (.bin .lss) [t 12, t 11]])
  (sq (.cond (t 13) (.skip) (.exit 0))
   (sq (.block 1 (sq (r [1, 3, 4, 10, 11, 12] [o 14 .mv [t 12], o 15 (.ia 2) [t 10, t 12], o 16 (.ld (some 2)) [t 15], o 4 (.alloc [(.d (sD [])), (.d (sD []))]) [], o 3 .mv [t 14], e (.st 2) [t 4, t 16]])
      (sq (rd [] [1, 10, 11, 12, 42] [o 17 (.fa 0) [t 4], o 18 (.ld none) [t 17], o 19 (.call 78) [t 18], o 20 .not [t 19], o 21 .mv [t 20], g 21 false 22 (.fa 1) [t 4], g 21 false 23 (.ld none) [t 22], g 21 false 24 (.len true) [t 23], g 21 false 25 (.bin .gtr) [t 24, i 100000], o 26 .pick [t 21, b true, t 25], o 27 .mv [t 26], g 27 false 28 .mv [t 3], g 27 false 29 (.bin .gtr) [t 28, i 0], g 27 false 30 .mv [t 29], g 30 true 31 (.fa 0) [t 1], g 30 true 32 (.ld none) [t 31], g 30 true 33 .mv [t 3], g 30 true 34 (.bin .sub) [t 33, i 1], g 30 true 35 (.ia 2) [t 32, t 34], g 30 true 36 (.fa 0) [t 35], g 30 true 37 (.ld none) [t 36], g 30 true 38 (.fa 0) [t 4], g 30 true 39 (.ld none) [t 38], g 30 true 40 (.bin .geq) [t 37, t 39], g 27 false 41 .pick [t 30, t 40, b false], o 42 .pick [t 27, b true, t 41]])
       (.cond (t 42) (sq (r [2] [o 2 .mv [b false]])
         (.ret)) (.skip)))))
    (r [1, 10, 11, 12] [o 43 (.bin .add) [t 12, i 1], o 12 .mv [t 43]])))
def k1_impl_DiskOk : Cd :=
  sq (r [2] [o 2 .mv [b true]])
  (.ret)
def c_impl_DiskOk : Cd :=
  sq (r [1] [o 1 .box [t 0], o 2 .mv [b false]])
  (sq (sq (r [1, 8] [o 5 (.fa 0) [t 1], o 6 (.ld none) [t 5], o 7 (.len false) [t 6], o 8 (.bin .gtr) [t 7, i 400]])
    (.cond (t 8) (sq (r [2] [o 2 .mv [b false]])
      (.ret)) (.skip)))
   (sq (sq (r [1, 10, 11, 12] [o 9 (.fa 0) [t 1], o 10 (.ld none) [t 9], o 11 (.len false) [t 10], o 12 .mv [i 0]])
     (.block 0 (.loop [1, 10, 11, 12] b0_impl_DiskOk))) k1_impl_DiskOk))
def r_impl_DiskOk : List RV := [.tmp 2]
def impl_DiskOk_l0 (L_impl_fileNameOk : (List UInt8) → Option (Bool)) : Nat → (List TFile) → Int → Int → (List TFile) → Option (Bool)
  | 0, _, _, _, _ => none
  | m0 + 1, x10, x11, x12, o64_0 =>
    if x12 < x11 then ((idx x10 x12).bind fun y0 =>
     (L_impl_fileNameOk y0.Name).bind fun y1 =>
     if y1 = false then some false
     else (if 100000 < (↑(List.length y0.Data) : Int) then some false
      else (if 0 < x12 then ((idx o64_0 (w64 (x12 - 1))).bind fun y2 =>
        if lessS y2.Name y0.Name = false then some false
        else impl_DiskOk_l0 L_impl_fileNameOk m0 x10 x11 (w64 (x12 + 1)) o64_0)
       else impl_DiskOk_l0 L_impl_fileNameOk m0 x10 x11 (w64 (x12 + 1)) o64_0)))
    else some true
def impl_DiskOk_f (L_impl_fileNameOk : (List UInt8) → Option (Bool)) (N : Nat) (a0_Files : List TFile) : Option (Bool) :=
  if 400 < (↑(List.length a0_Files) : Int) then some false
  else impl_DiskOk_l0 L_impl_fileNameOk N a0_Files ((↑(List.length a0_Files) : Int)) 0 a0_Files
theorem impl_DiskOk_l0_eq (E : En) (hy : Hy E [] [] [] r_impl_DiskOk none (fun y => nocap y) flatIds) (L_impl_fileNameOk : (List UInt8) → Option (Bool)) (h_impl_fileNameOk : H_impl_fileNameOk E L_impl_fileNameOk) : ∀ (m0 : Nat) (x10 : List TFile) (x11 : Int) (x12 : Int) (o64_0 : List TFile), gH E [1, 10, 11, 12] b0_impl_DiskOk [KJ.b 0, KJ.c k1_impl_DiskOk] m0 ⟨slotsOf [(1, A.adr 64 1 0), (10, .d (lstT (cFile) x10)), (11, .d (.int .i64 x11)), (12, .d (.int .i64 x12))], obsOf [(64, ⟨1, .box [.d (lstT (cFile) o64_0)], false⟩)]⟩ = (impl_DiskOk_l0 L_impl_fileNameOk m0 x10 x11 x12 o64_0).bind fun r => some (.ret (.d (.bool r)) []) := by
  intro m0
  induction m0 with
  | zero => intros; rfl
  | succ m0 ih =>
    intros
    simp (config := {maxSteps := 2000000}) only [↓rPre, rPost, rCan, rObj, rI, rS, rB, r8, rLI, rEtc, hy.p, hy.l, hy.k, hy.r, hy.d, hy.w, hy.f, flatIds, oid, r_impl_DiskOk, ↓G_unf _ _ b0_impl_DiskOk.eq_1, ↓G_unf _ _ k1_impl_DiskOk.eq_1, ↓G_unf _ _ c_impl_DiskOk.eq_1, h_impl_fileNameOk.2, h_impl_fileNameOk.1, gH_succ, ih, bind_ite, impl_DiskOk_l0, rFile, rRow78, rRow3, rRow53, rRow35, rArray, rRow39, rRow5, rRow9, rMap97, rLog, ↓reduceIte, Nat.reduceMul, Nat.reduceAdd, Nat.reduceSub, Nat.reduceEqDiff, Nat.reduceBEq, Nat.reduceLeDiff, Nat.reduceLT, reduceCtorEq, Int.reduceAdd, Int.reduceSub, Int.reduceToNat, Int.reduceNeg, Int.reduceEq, Int.reduceLT, Int.reduceLE]
theorem impl_DiskOk_g (E : En) (hy : Hy E [] [] [] r_impl_DiskOk none (fun y => nocap y) flatIds) (L_impl_fileNameOk : (List UInt8) → Option (Bool)) (h_impl_fileNameOk : H_impl_fileNameOk E L_impl_fileNameOk) (a0_Files : List TFile) : G E c_impl_DiskOk [] ⟨slotsOf [(0, .agg [.d (lstT cFile a0_Files)])], obsOf []⟩ = (impl_DiskOk_f L_impl_fileNameOk E.n a0_Files).bind fun r => some (.ret (.d (.bool r)) []) := by
  simp (config := {maxSteps := 2000000}) only [↓rPre, rPost, rCan, rObj, rI, rS, rB, r8, rLI, rEtc, hy.p, hy.l, hy.k, hy.r, hy.d, hy.w, hy.f, flatIds, oid, r_impl_DiskOk, ↓G_unf _ _ b0_impl_DiskOk.eq_1, ↓G_unf _ _ k1_impl_DiskOk.eq_1, ↓G_unf _ _ c_impl_DiskOk.eq_1, h_impl_fileNameOk.2, h_impl_fileNameOk.1, bind_ite, impl_DiskOk_f, impl_DiskOk_l0_eq E hy L_impl_fileNameOk h_impl_fileNameOk, rFile, rRow78, rRow3, rRow53, rRow35, rArray, rRow39, rRow5, rRow9, rMap97, rLog, ↓reduceIte, Nat.reduceMul, Nat.reduceAdd, Nat.reduceSub, Nat.reduceEqDiff, Nat.reduceBEq, Nat.reduceLeDiff, Nat.reduceLT, reduceCtorEq, Int.reduceAdd, Int.reduceSub, Int.reduceToNat, Int.reduceNeg, Int.reduceEq, Int.reduceLT, Int.reduceLE]
def H_impl_DiskOk (E : En) (L : (List TFile) → Option (Bool)) : Prop := E.Γ.mu 27 = false ∧ (∀ (a0_Files : List TFile), E.Γ 27 [.agg [.d (lstT cFile a0_Files)]] = (L a0_Files).bind fun r => some (.ret (.d (.bool r)) []))
-- slices.Clone[[]loop.example/s02135/impl.File,loop.example/s02135/impl.File]
def c_slices_Clone___impl_File_impl_File_ : Cd :=
  sq (r [0] [o 2 .mv [n]])
  (sq (sq (r [0, 4] [o 3 .mv [t 0], o 4 (.snil false) [t 3]])
    (.cond (t 4) (sq (r [2] [o 2 .mv [n]])
      (.ret)) (.skip)))
   (sq (r [2] [o 5 (lit 53 2 0) [], o 6 .mv [t 0], o 7 (.app 53 2 32) [t 5, t 6], o 2 .mv [t 7]])
    (.ret)))
def r_slices_Clone___impl_File_impl_File_ : List RV := [.tmp 2]
def slices_Clone___impl_File_impl_File__S_f (N : Nat) (a0 : List TFile) : Option (List TFile) :=
  if room 32 (List.length a0) then some a0
  else none
theorem slices_Clone___impl_File_impl_File__S_g (E : En) (hy : Hy E [] [] [] r_slices_Clone___impl_File_impl_File_ none (fun y => nocap (asOwn (.own 53 2) y)) flatIds) (a0 : List TFile) : G E c_slices_Clone___impl_File_impl_File_ [] ⟨slotsOf [(0, .d (lstST cFile a0))], obsOf []⟩ = (slices_Clone___impl_File_impl_File__S_f E.n a0).bind fun r => some (.ret (ownT (cFile) 53 none false r) []) := by
  simp (config := {maxSteps := 2000000}) only [↓rPre, rPost, rCan, rObj, rI, rS, rB, r8, rLI, rEtc, hy.p, hy.l, hy.k, hy.r, hy.d, hy.w, hy.f, flatIds, oid, r_slices_Clone___impl_File_impl_File_, ↓G_unf _ _ c_slices_Clone___impl_File_impl_File_.eq_1, bind_ite, slices_Clone___impl_File_impl_File__S_f, rFile, rRow78, rRow3, rRow53, rRow35, rArray, rRow39, rRow5, rRow9, rMap97, rLog, ↓reduceIte, Nat.reduceMul, Nat.reduceAdd, Nat.reduceSub, Nat.reduceEqDiff, Nat.reduceBEq, Nat.reduceLeDiff, Nat.reduceLT, reduceCtorEq, Int.reduceAdd, Int.reduceSub, Int.reduceToNat, Int.reduceNeg, Int.reduceEq, Int.reduceLT, Int.reduceLE]
def slices_Clone___impl_File_impl_File__N_f (N : Nat) : Option (List TFile) :=
  some []
theorem slices_Clone___impl_File_impl_File__N_g (E : En) (hy : Hy E [] [] [] r_slices_Clone___impl_File_impl_File_ none (fun y => nocap (asOwn (.own 53 2) y)) flatIds)  : G E c_slices_Clone___impl_File_impl_File_ [] ⟨slotsOf [(0, .nil)], obsOf []⟩ = (slices_Clone___impl_File_impl_File__N_f E.n ).bind fun r => some (.ret (ownT (cFile) 53 none false r) []) := by
  simp (config := {maxSteps := 2000000}) only [↓rPre, rPost, rCan, rObj, rI, rS, rB, r8, rLI, rEtc, hy.p, hy.l, hy.k, hy.r, hy.d, hy.w, hy.f, flatIds, oid, r_slices_Clone___impl_File_impl_File_, ↓G_unf _ _ c_slices_Clone___impl_File_impl_File_.eq_1, bind_ite, slices_Clone___impl_File_impl_File__N_f, rFile, rRow78, rRow3, rRow53, rRow35, rArray, rRow39, rRow5, rRow9, rMap97, rLog, ↓reduceIte, Nat.reduceMul, Nat.reduceAdd, Nat.reduceSub, Nat.reduceEqDiff, Nat.reduceBEq, Nat.reduceLeDiff, Nat.reduceLT, reduceCtorEq, Int.reduceAdd, Int.reduceSub, Int.reduceToNat, Int.reduceNeg, Int.reduceEq, Int.reduceLT, Int.reduceLE]
def H_slices_Clone___impl_File_impl_File_ (E : En) (L : (List TFile) → Option (List TFile)) : Prop := E.Γ.mu 79 = false ∧ (∀ (a0 : List TFile), E.Γ 79 [.d (lstT cFile a0)] = (L a0).bind fun r => some (.ret (ownT (cFile) 53 none false r) []))
-- loop.example/s02135/impl.copied
def c_impl_copied : Cd :=
  sq (r [1, 2] [o 1 .box [t 0], o 2 (.alloc [.nil]) []])
  (sq (r [2] [o 3 (.fa 0) [t 1], o 4 (.ld none) [t 3], o 5 (.call 79) [t 4], o 6 (.bld [.nil] [(0, 1)]) [t 5], e (.st 1) [t 2, t 6]])
   (.ret))
def r_impl_copied : List RV := [.cell 2 (some 1)]
def impl_copied_f (L_slices_Clone___impl_File_impl_File_ : (List TFile) → Option (List TFile)) (N : Nat) (a0_Files : List TFile) : Option (List TFile) :=
  (L_slices_Clone___impl_File_impl_File_ a0_Files).bind fun y0 =>
  some y0
theorem impl_copied_g (E : En) (hy : Hy E [] [] [] r_impl_copied none (fun y => nocap y) flatIds) (L_slices_Clone___impl_File_impl_File_ : (List TFile) → Option (List TFile)) (h_slices_Clone___impl_File_impl_File_ : H_slices_Clone___impl_File_impl_File_ E L_slices_Clone___impl_File_impl_File_) (a0_Files : List TFile) : G E c_impl_copied [] ⟨slotsOf [(0, .agg [.d (lstT cFile a0_Files)])], obsOf []⟩ = (impl_copied_f L_slices_Clone___impl_File_impl_File_ E.n a0_Files).bind fun r => some (.ret (.agg [ownT (cFile) 53 none false r]) []) := by
  simp (config := {maxSteps := 2000000}) only [↓rPre, rPost, rCan, rObj, rI, rS, rB, r8, rLI, rEtc, hy.p, hy.l, hy.k, hy.r, hy.d, hy.w, hy.f, flatIds, oid, r_impl_copied, ↓G_unf _ _ c_impl_copied.eq_1, h_slices_Clone___impl_File_impl_File_.2, h_slices_Clone___impl_File_impl_File_.1, bind_ite, impl_copied_f, rFile, rRow78, rRow3, rRow53, rRow35, rArray, rRow39, rRow5, rRow9, rMap97, rLog, ↓reduceIte, Nat.reduceMul, Nat.reduceAdd, Nat.reduceSub, Nat.reduceEqDiff, Nat.reduceBEq, Nat.reduceLeDiff, Nat.reduceLT, reduceCtorEq, Int.reduceAdd, Int.reduceSub, Int.reduceToNat, Int.reduceNeg, Int.reduceEq, Int.reduceLT, Int.reduceLE]
def H_impl_copied (E : En) (L : (List TFile) → Option (List TFile)) : Prop := E.Γ.mu 28 = false ∧ (∀ (a0_Files : List TFile), E.Γ 28 [.agg [.d (lstT cFile a0_Files)]] = (L a0_Files).bind fun r => some (.ret (.agg [ownT (cFile) 53 none false r]) []))
-- internal/stringslite.HasSuffix
def c_internal_stringslite_HasSuffix : Cd :=
  sq (r [0, 1] [o 4 .mv [b false]])
  (sq (r [4] [o 5 .mv [t 0], o 6 (.len true) [t 5], o 7 .mv [t 1], o 8 (.len true) [t 7], o 9 (.bin .geq) [t 6, t 8], o 10 .mv [t 9], g 10 true 11 .mv [t 0], g 10 true 12 .mv [t 0], g 10 true 13 (.len true) [t 12], g 10 true 14 .mv [t 1], g 10 true 15 (.len true) [t 14], g 10 true 16 (.bin .sub) [t 13, t 15], g 10 true 17 (.slc true 1 true false) [t 11, t 16], g 10 true 18 .mv [t 1], g 10 true 19 (.bin .eql) [t 17, t 18], o 20 .pick [t 10, t 19, b false], o 4 .mv [t 20]])
   (.ret))
def r_internal_stringslite_HasSuffix : List RV := [.tmp 4]
def internal_stringslite_HasSuffix_f (N : Nat) (a0 : List UInt8) (a1 : List UInt8) : Option (Bool) :=
  if (↑(List.length a1) : Int) ≤ (↑(List.length a0) : Int) then ((cut a0 (w64 ((↑(List.length a0) : Int) - (↑(List.length a1) : Int))) (↑(List.length a0) : Int)).bind fun y0 =>
   some (Decidable.decide (y0 = a1)))
  else some false
theorem internal_stringslite_HasSuffix_g (E : En) (hy : Hy E [] [] [] r_internal_stringslite_HasSuffix none (fun y => nocap y) flatIds) (a0 : List UInt8) (a1 : List UInt8) : G E c_internal_stringslite_HasSuffix [] ⟨slotsOf [(0, .d (sD a0)), (1, .d (sD a1))], obsOf []⟩ = (internal_stringslite_HasSuffix_f E.n a0 a1).bind fun r => some (.ret (.d (.bool r)) []) := by
  simp (config := {maxSteps := 2000000}) only [↓rPre, rPost, rCan, rObj, rI, rS, rB, r8, rLI, rEtc, hy.p, hy.l, hy.k, hy.r, hy.d, hy.w, hy.f, flatIds, oid, r_internal_stringslite_HasSuffix, ↓G_unf _ _ c_internal_stringslite_HasSuffix.eq_1, bind_ite, internal_stringslite_HasSuffix_f, rFile, rRow78, rRow3, rRow53, rRow35, rArray, rRow39, rRow5, rRow9, rMap97, rLog, ↓reduceIte, Nat.reduceMul, Nat.reduceAdd, Nat.reduceSub, Nat.reduceEqDiff, Nat.reduceBEq, Nat.reduceLeDiff, Nat.reduceLT, reduceCtorEq, Int.reduceAdd, Int.reduceSub, Int.reduceToNat, Int.reduceNeg, Int.reduceEq, Int.reduceLT, Int.reduceLE]
def H_internal_stringslite_HasSuffix (E : En) (L : (List UInt8) → (List UInt8) → Option (Bool)) : Prop := E.Γ.mu 81 = false ∧ (∀ (a0 : List UInt8) (a1 : List UInt8), E.Γ 81 [.d (sD a0), .d (sD a1)] = (L a0 a1).bind fun r => some (.ret (.d (.bool r)) []))
-- strings.HasSuffix
def c_strings_HasSuffix : Cd :=
  sq (r [0, 1] [o 4 .mv [b false]])
  (sq (r [4] [o 5 .mv [t 0], o 6 .mv [t 1], o 7 (.call 81) [t 5, t 6], o 4 .mv [t 7]])
   (.ret))
def r_strings_HasSuffix : List RV := [.tmp 4]
def strings_HasSuffix_f (L_internal_stringslite_HasSuffix : (List UInt8) → (List UInt8) → Option (Bool)) (N : Nat) (a0 : List UInt8) (a1 : List UInt8) : Option (Bool) :=
  (L_internal_stringslite_HasSuffix a0 a1).bind fun y0 =>
  some y0
theorem strings_HasSuffix_g (E : En) (hy : Hy E [] [] [] r_strings_HasSuffix none (fun y => nocap y) flatIds) (L_internal_stringslite_HasSuffix : (List UInt8) → (List UInt8) → Option (Bool)) (h_internal_stringslite_HasSuffix : H_internal_stringslite_HasSuffix E L_internal_stringslite_HasSuffix) (a0 : List UInt8) (a1 : List UInt8) : G E c_strings_HasSuffix [] ⟨slotsOf [(0, .d (sD a0)), (1, .d (sD a1))], obsOf []⟩ = (strings_HasSuffix_f L_internal_stringslite_HasSuffix E.n a0 a1).bind fun r => some (.ret (.d (.bool r)) []) := by
  simp (config := {maxSteps := 2000000}) only [↓rPre, rPost, rCan, rObj, rI, rS, rB, r8, rLI, rEtc, hy.p, hy.l, hy.k, hy.r, hy.d, hy.w, hy.f, flatIds, oid, r_strings_HasSuffix, ↓G_unf _ _ c_strings_HasSuffix.eq_1, h_internal_stringslite_HasSuffix.2, h_internal_stringslite_HasSuffix.1, bind_ite, strings_HasSuffix_f, rFile, rRow78, rRow3, rRow53, rRow35, rArray, rRow39, rRow5, rRow9, rMap97, rLog, ↓reduceIte, Nat.reduceMul, Nat.reduceAdd, Nat.reduceSub, Nat.reduceEqDiff, Nat.reduceBEq, Nat.reduceLeDiff, Nat.reduceLT, reduceCtorEq, Int.reduceAdd, Int.reduceSub, Int.reduceToNat, Int.reduceNeg, Int.reduceEq, Int.reduceLT, Int.reduceLE]
def H_strings_HasSuffix (E : En) (L : (List UInt8) → (List UInt8) → Option (Bool)) : Prop := E.Γ.mu 31 = false ∧ (∀ (a0 : List UInt8) (a1 : List UInt8), E.Γ 31 [.d (sD a0), .d (sD a1)] = (L a0 a1).bind fun r => some (.ret (.d (.bool r)) []))
-- loop.example/s02135/impl.Recover$1
def c_impl_Recover_1 : Cd :=
  sq (r [1] [o 1 .box [t 0], o 2 .mv [b false]])
  (sq (r [2] [o 3 (.fa 0) [t 1], o 4 (.ld none) [t 3], o 5 (.call 31) [t 4, s [46, 116, 109, 112]], o 2 .mv [t 5]])
   (.ret))
def r_impl_Recover_1 : List RV := [.tmp 2]
def impl_Recover_1_f (L_strings_HasSuffix : (List UInt8) → (List UInt8) → Option (Bool)) (N : Nat) (a0_Name : List UInt8) (a0_Data : List UInt8) : Option (Bool) :=
  (L_strings_HasSuffix a0_Name [46, 116, 109, 112]).bind fun y0 =>
  some y0
theorem impl_Recover_1_g (E : En) (hy : Hy E [] [] [] r_impl_Recover_1 none (fun y => nocap y) flatIds) (L_strings_HasSuffix : (List UInt8) → (List UInt8) → Option (Bool)) (h_strings_HasSuffix : H_strings_HasSuffix E L_strings_HasSuffix) (a0_Name : List UInt8) (a0_Data : List UInt8) : G E c_impl_Recover_1 [] ⟨slotsOf [(0, .agg [.d (sD a0_Name), .d (sD a0_Data)])], obsOf []⟩ = (impl_Recover_1_f L_strings_HasSuffix E.n a0_Name a0_Data).bind fun r => some (.ret (.d (.bool r)) []) := by
  simp (config := {maxSteps := 2000000}) only [↓rPre, rPost, rCan, rObj, rI, rS, rB, r8, rLI, rEtc, hy.p, hy.l, hy.k, hy.r, hy.d, hy.w, hy.f, flatIds, oid, r_impl_Recover_1, ↓G_unf _ _ c_impl_Recover_1.eq_1, h_strings_HasSuffix.2, h_strings_HasSuffix.1, bind_ite, impl_Recover_1_f, rFile, rRow78, rRow3, rRow53, rRow35, rArray, rRow39, rRow5, rRow9, rMap97, rLog, ↓reduceIte, Nat.reduceMul, Nat.reduceAdd, Nat.reduceSub, Nat.reduceEqDiff, Nat.reduceBEq, Nat.reduceLeDiff, Nat.reduceLT, reduceCtorEq, Int.reduceAdd, Int.reduceSub, Int.reduceToNat, Int.reduceNeg, Int.reduceEq, Int.reduceLT, Int.reduceLE]
def H_impl_Recover_1 (E : En) (L : (List UInt8) → (List UInt8) → Option (Bool)) : Prop := E.Γ.mu 30 = false ∧ (∀ (a0_Name : List UInt8) (a0_Data : List UInt8), E.Γ 30 [.agg [.d (sD a0_Name), .d (sD a0_Data)]] = (L a0_Name a0_Data).bind fun r => some (.ret (.d (.bool r)) []))
-- slices.IndexFunc[[]loop.example/s02135/impl.File,loop.example/s02135/impl.File]
def b0_slices_IndexFunc___impl_File_impl_File_ : Cd :=
  sq (r [0, 1, 7, 8, 9] [o 9 (.bin .lss) [t 8, t 7]])
  (sq (.cond (t 9) (.skip) (.exit 0))
   (sq (.block 1 (sq (r [0, 1, 5, 7, 8] [o 10 .mv [t 8], o 5 .mv [t 10]])
      (sq (r [0, 1, 5, 7, 8, 16] [o 11 .mv [t 1], o 12 .mv [t 0], o 13 .mv [t 5], o 14 (.ia 2) [t 12, t 13], o 15 (.ld (some 2)) [t 14], o 16 .dyn [t 11, t 15]])
       (.cond (t 16) (sq (r [4] [o 17 .mv [t 5], o 4 .mv [t 17]])
         (.ret)) (.skip)))))
    (r [0, 1, 7, 8] [o 18 (.bin .add) [t 8, i 1], o 8 .mv [t 18]])))
def k1_slices_IndexFunc___impl_File_impl_File_ : Cd :=
  sq (r [4] [o 4 .mv [i (-1)]])
  (.ret)
def c_slices_IndexFunc___impl_File_impl_File_ : Cd :=
  sq (r [0, 1] [o 4 .mv [i 0]])
  (sq (sq (r [0, 1, 7, 8] [o 6 .mv [t 0], o 7 (.len false) [t 6], o 8 .mv [i 0]])
    (.block 0 (.loop [0, 1, 7, 8] b0_slices_IndexFunc___impl_File_impl_File_))) k1_slices_IndexFunc___impl_File_impl_File_)
def r_slices_IndexFunc___impl_File_impl_File_ : List RV := [.tmp 4]
def slices_IndexFunc___impl_File_impl_File__l0 (L_impl_Recover_1 : (List UInt8) → (List UInt8) → Option (Bool)) : Nat → (List TFile) → Int → Int → Option (Int)
  | 0, _, _, _ => none
  | m0 + 1, x0, x7, x8 =>
    if x8 < x7 then ((idx x0 x8).bind fun y0 =>
     (L_impl_Recover_1 y0.Name y0.Data).bind fun y1 =>
     if y1 = true then some x8
     else slices_IndexFunc___impl_File_impl_File__l0 L_impl_Recover_1 m0 x0 x7 (w64 (x8 + 1)))
    else some (-1)
def slices_IndexFunc___impl_File_impl_File__f (L_impl_Recover_1 : (List UInt8) → (List UInt8) → Option (Bool)) (N : Nat) (a0 : List TFile) : Option (Int) :=
  slices_IndexFunc___impl_File_impl_File__l0 L_impl_Recover_1 N a0 ((↑(List.length a0) : Int)) 0
theorem slices_IndexFunc___impl_File_impl_File__l0_eq (E : En) (hy : Hy E [] [] [] r_slices_IndexFunc___impl_File_impl_File_ none (fun y => nocap y) flatIds) (L_impl_Recover_1 : (List UInt8) → (List UInt8) → Option (Bool)) (h_impl_Recover_1 : H_impl_Recover_1 E L_impl_Recover_1) : ∀ (m0 : Nat) (x0 : List TFile) (x7 : Int) (x8 : Int), gH E [0, 1, 7, 8] b0_slices_IndexFunc___impl_File_impl_File_ [KJ.b 0, KJ.c k1_slices_IndexFunc___impl_File_impl_File_] m0 ⟨slotsOf [(0, .d (lstT (cFile) x0)), (1, A.d (D.fn 30)), (7, .d (.int .i64 x7)), (8, .d (.int .i64 x8))], obsOf []⟩ = (slices_IndexFunc___impl_File_impl_File__l0 L_impl_Recover_1 m0 x0 x7 x8).bind fun r => some (.ret (.d (.int .i64 r)) []) := by
  intro m0
  induction m0 with
  | zero => intros; rfl
  | succ m0 ih =>
    intros
    simp (config := {maxSteps := 2000000}) only [↓rPre, rPost, rCan, rObj, rI, rS, rB, r8, rLI, rEtc, hy.p, hy.l, hy.k, hy.r, hy.d, hy.w, hy.f, flatIds, oid, r_slices_IndexFunc___impl_File_impl_File_, ↓G_unf _ _ b0_slices_IndexFunc___impl_File_impl_File_.eq_1, ↓G_unf _ _ k1_slices_IndexFunc___impl_File_impl_File_.eq_1, ↓G_unf _ _ c_slices_IndexFunc___impl_File_impl_File_.eq_1, h_impl_Recover_1.2, h_impl_Recover_1.1, gH_succ, ih, bind_ite, slices_IndexFunc___impl_File_impl_File__l0, rFile, rRow78, rRow3, rRow53, rRow35, rArray, rRow39, rRow5, rRow9, rMap97, rLog, ↓reduceIte, Nat.reduceMul, Nat.reduceAdd, Nat.reduceSub, Nat.reduceEqDiff, Nat.reduceBEq, Nat.reduceLeDiff, Nat.reduceLT, reduceCtorEq, Int.reduceAdd, Int.reduceSub, Int.reduceToNat, Int.reduceNeg, Int.reduceEq, Int.reduceLT, Int.reduceLE]
theorem slices_IndexFunc___impl_File_impl_File__g (E : En) (hy : Hy E [] [] [] r_slices_IndexFunc___impl_File_impl_File_ none (fun y => nocap y) flatIds) (L_impl_Recover_1 : (List UInt8) → (List UInt8) → Option (Bool)) (h_impl_Recover_1 : H_impl_Recover_1 E L_impl_Recover_1) (a0 : List TFile) : G E c_slices_IndexFunc___impl_File_impl_File_ [] ⟨slotsOf [(0, .d (lstT cFile a0)), (1, .d (.fn 30))], obsOf []⟩ = (slices_IndexFunc___impl_File_impl_File__f L_impl_Recover_1 E.n a0).bind fun r => some (.ret (.d (.int .i64 r)) []) := by
  simp (config := {maxSteps := 2000000}) only [↓rPre, rPost, rCan, rObj, rI, rS, rB, r8, rLI, rEtc, hy.p, hy.l, hy.k, hy.r, hy.d, hy.w, hy.f, flatIds, oid, r_slices_IndexFunc___impl_File_impl_File_, ↓G_unf _ _ b0_slices_IndexFunc___impl_File_impl_File_.eq_1, ↓G_unf _ _ k1_slices_IndexFunc___impl_File_impl_File_.eq_1, ↓G_unf _ _ c_slices_IndexFunc___impl_File_impl_File_.eq_1, h_impl_Recover_1.2, h_impl_Recover_1.1, bind_ite, slices_IndexFunc___impl_File_impl_File__f, slices_IndexFunc___impl_File_impl_File__l0_eq E hy L_impl_Recover_1 h_impl_Recover_1, rFile, rRow78, rRow3, rRow53, rRow35, rArray, rRow39, rRow5, rRow9, rMap97, rLog, ↓reduceIte, Nat.reduceMul, Nat.reduceAdd, Nat.reduceSub, Nat.reduceEqDiff, Nat.reduceBEq, Nat.reduceLeDiff, Nat.reduceLT, reduceCtorEq, Int.reduceAdd, Int.reduceSub, Int.reduceToNat, Int.reduceNeg, Int.reduceEq, Int.reduceLT, Int.reduceLE]
def H_slices_IndexFunc___impl_File_impl_File_ (E : En) (L : (List TFile) → Option (Int)) : Prop := E.Γ.mu 80 = false ∧ (∀ (a0 : List TFile), E.Γ 80 [.d (lstT cFile a0), .d (.fn 30)] = (L a0).bind fun r => some (.ret (.d (.int .i64 r)) []))
-- slices.DeleteFunc[[]loop.example/s02135/impl.File,loop.example/s02135/impl.File]
def b0_slices_DeleteFunc___impl_File_impl_File_ : Cd :=
  sq (sq (r [0, 1, 5, 6, 19] [o 16 .mv [t 6], o 17 .mv [t 0], o 18 (.len false) [t 17], o 19 (.bin .lss) [t 16, t 18]])
   (.cond (t 19) (.skip) (.exit 0)))
  (sq (.block 1 (sq (r [0, 1, 5, 6, 7] [o 22 .mv [t 0], o 23 .mv [t 6], o 24 (.ia 2) [t 22, t 23], o 25 (.ld (some 2)) [t 24], o 7 (.alloc [(.d (sD [])), (.d (sD []))]) [], e (.st 2) [t 7, t 25]])
     (sq (r [0, 1, 5, 6, 7, 29] [o 26 .mv [t 1], o 27 (.ld (some 2)) [t 7], o 28 .dyn [t 26, t 27], o 29 .not [t 28]])
      (.cond (t 29) (sq (r [0, 1, 5, 6] [o 30 .mv [t 0], o 31 .mv [t 5], o 32 (.ld (some 2)) [t 7], o 33 (.ia 2) [t 30, t 31], e (.st 2) [t 33, t 32]])
        (r [0, 1, 5, 6] [o 34 .mv [t 5], o 35 (.bin .add) [t 34, i 1], o 5 .mv [t 35]])) (.skip)))))
   (r [0, 1, 5, 6] [o 20 .mv [t 6], o 21 (.bin .add) [t 20, i 1], o 6 .mv [t 21]]))
def k1_slices_DeleteFunc___impl_File_impl_File_ : Cd :=
  sq (r [0, 5] [o 36 .mv [t 0], o 37 .mv [t 5], o 38 (.vws 2) [t 36, t 37], e (.clr [(sD []), (sD [])]) [t 38]])
  (sq (r [4] [o 39 .mv [t 0], o 40 .mv [t 5], o 41 (.cut 2) [t 39, t 40], o 4 .mv [t 41]])
   (.ret))
def c_slices_DeleteFunc___impl_File_impl_File_ : Cd :=
  sq (r [0, 1] [o 4 .mv [n]])
  (sq (r [0, 1, 5] [o 8 .mv [t 0], o 9 .mv [t 1], o 10 (.call 80) [t 8, t 9], o 5 .mv [t 10]])
   (sq (sq (r [0, 1, 5, 12] [o 11 .mv [t 5], o 12 (.bin .eql) [t 11, i (-1)]])
     (.cond (t 12) (sq (r [4] [o 13 .mv [t 0], o 4 .mv [t 13]])
       (.ret)) (.skip)))
    (sq (sq (r [0, 1, 5, 6] [o 14 .mv [t 5], o 15 (.bin .add) [t 14, i 1], o 6 .mv [t 15]])
      (.block 0 (.loop [0, 1, 5, 6] b0_slices_DeleteFunc___impl_File_impl_File_))) k1_slices_DeleteFunc___impl_File_impl_File_)))
def r_slices_DeleteFunc___impl_File_impl_File_ : List RV := [.tmp 4]
def slices_DeleteFunc___impl_File_impl_File__l0 (L_slices_IndexFunc___impl_File_impl_File_ : (List TFile) → Option (Int)) (L_impl_Recover_1 : (List UInt8) → (List UInt8) → Option (Bool)) : Nat → Int → Int → (List TFile) → Option (List TFile)
  | 0, _, _, _ => none
  | m0 + 1, x5, x6, o0 =>
    if x6 < (↑(List.length o0) : Int) then (if 0 ≤ x6 ∧ x6 < (↑(List.length o0) : Int) then ((o0[Int.toNat x6]?).bind fun y0 =>
      (L_impl_Recover_1 y0.Name y0.Data).bind fun y1 =>
      if y1 = false then (if 0 ≤ x5 ∧ x5 < (↑(List.length o0) : Int) then ((setN o0 (Int.toNat x5) { Name := y0.Name, Data := y0.Data }).bind fun y2 =>
        slices_DeleteFunc___impl_File_impl_File__l0 L_slices_IndexFunc___impl_File_impl_File_ L_impl_Recover_1 m0 (w64 (x5 + 1)) (w64 (x6 + 1)) y2)
       else none)
      else slices_DeleteFunc___impl_File_impl_File__l0 L_slices_IndexFunc___impl_File_impl_File_ L_impl_Recover_1 m0 x5 (w64 (x6 + 1)) o0)
     else none)
    else (if cFile.sz = 2 ∧ 0 ≤ x5 ∧ x5 ≤ (↑(List.length o0) : Int) then (if Int.toNat x5 ≤ List.length o0 then (if 0 ≤ x5 ∧ x5 ≤ (↑(List.length (List.take (Int.toNat x5) o0 ++ List.replicate (List.length o0 - Int.toNat x5) { Name := [], Data := [] })) : Int) then some (List.take (Int.toNat x5) (List.take (Int.toNat x5) o0 ++ List.replicate (List.length o0 - Int.toNat x5) { Name := [], Data := [] }))
       else none)
      else none)
     else none)
def slices_DeleteFunc___impl_File_impl_File__f (L_slices_IndexFunc___impl_File_impl_File_ : (List TFile) → Option (Int)) (L_impl_Recover_1 : (List UInt8) → (List UInt8) → Option (Bool)) (N : Nat) (a0 : List TFile) : Option (List TFile) :=
  (L_slices_IndexFunc___impl_File_impl_File_ a0).bind fun y0 =>
  if y0 = -1 then some a0
  else slices_DeleteFunc___impl_File_impl_File__l0 L_slices_IndexFunc___impl_File_impl_File_ L_impl_Recover_1 N y0 (w64 (y0 + 1)) a0
theorem slices_DeleteFunc___impl_File_impl_File__l0_eq (E : En) (hy : Hy E [0] [0] [(0, .row 53 2)] r_slices_DeleteFunc___impl_File_impl_File_ none (fun y => markX [true] (nocap y)) flatIds) (L_slices_IndexFunc___impl_File_impl_File_ : (List TFile) → Option (Int)) (h_slices_IndexFunc___impl_File_impl_File_ : H_slices_IndexFunc___impl_File_impl_File_ E L_slices_IndexFunc___impl_File_impl_File_) (L_impl_Recover_1 : (List UInt8) → (List UInt8) → Option (Bool)) (h_impl_Recover_1 : H_impl_Recover_1 E L_impl_Recover_1) : ∀ (m0 : Nat) (x5 : Int) (x6 : Int) (o0 : List TFile), gH E [0, 1, 5, 6] b0_slices_DeleteFunc___impl_File_impl_File_ [KJ.b 0, KJ.c k1_slices_DeleteFunc___impl_File_impl_File_] m0 ⟨slotsOf [(0, A.row 0 1), (1, A.d (D.fn 30)), (5, .d (.int .i64 x5)), (6, .d (.int .i64 x6))], obsOf [(0, ⟨1, rowT (cFile) 53 none o0, false⟩)]⟩ = (slices_DeleteFunc___impl_File_impl_File__l0 L_slices_IndexFunc___impl_File_impl_File_ L_impl_Recover_1 m0 x5 x6 o0).bind fun r => some (.ret (.par 0) [[lstT (cFile) r, .bool true]]) := by
  intro m0
  induction m0 with
  | zero => intros; rfl
  | succ m0 ih =>
    intros
    simp (config := {maxSteps := 2000000}) only [↓rPre, rPost, rCan, rObj, rI, rS, rB, r8, rLI, rEtc, hy.p, hy.l, hy.k, hy.r, hy.d, hy.w, hy.f, flatIds, oid, r_slices_DeleteFunc___impl_File_impl_File_, ↓G_unf _ _ b0_slices_DeleteFunc___impl_File_impl_File_.eq_1, ↓G_unf _ _ k1_slices_DeleteFunc___impl_File_impl_File_.eq_1, ↓G_unf _ _ c_slices_DeleteFunc___impl_File_impl_File_.eq_1, h_slices_IndexFunc___impl_File_impl_File_.2, h_slices_IndexFunc___impl_File_impl_File_.1, h_impl_Recover_1.2, h_impl_Recover_1.1, gH_succ, ih, bind_ite, slices_DeleteFunc___impl_File_impl_File__l0, rFile, rRow78, rRow3, rRow53, rRow35, rArray, rRow39, rRow5, rRow9, rMap97, rLog, ↓reduceIte, Nat.reduceMul, Nat.reduceAdd, Nat.reduceSub, Nat.reduceEqDiff, Nat.reduceBEq, Nat.reduceLeDiff, Nat.reduceLT, reduceCtorEq, Int.reduceAdd, Int.reduceSub, Int.reduceToNat, Int.reduceNeg, Int.reduceEq, Int.reduceLT, Int.reduceLE]
theorem slices_DeleteFunc___impl_File_impl_File__g (E : En) (hy : Hy E [0] [0] [(0, .row 53 2)] r_slices_DeleteFunc___impl_File_impl_File_ none (fun y => markX [true] (nocap y)) flatIds) (L_slices_IndexFunc___impl_File_impl_File_ : (List TFile) → Option (Int)) (h_slices_IndexFunc___impl_File_impl_File_ : H_slices_IndexFunc___impl_File_impl_File_ E L_slices_IndexFunc___impl_File_impl_File_) (L_impl_Recover_1 : (List UInt8) → (List UInt8) → Option (Bool)) (h_impl_Recover_1 : H_impl_Recover_1 E L_impl_Recover_1) (a0 : List TFile) : G E c_slices_DeleteFunc___impl_File_impl_File_ [] ⟨slotsOf [(0, .row 0 1), (1, .d (.fn 30))], obsOf [(0, ⟨1, rowT cFile 53 none a0, false⟩)]⟩ = (slices_DeleteFunc___impl_File_impl_File__f L_slices_IndexFunc___impl_File_impl_File_ L_impl_Recover_1 E.n a0).bind fun r => some (.ret (.par 0) [[lstT (cFile) r, .bool true]]) := by
  simp (config := {maxSteps := 2000000}) only [↓rPre, rPost, rCan, rObj, rI, rS, rB, r8, rLI, rEtc, hy.p, hy.l, hy.k, hy.r, hy.d, hy.w, hy.f, flatIds, oid, r_slices_DeleteFunc___impl_File_impl_File_, ↓G_unf _ _ b0_slices_DeleteFunc___impl_File_impl_File_.eq_1, ↓G_unf _ _ k1_slices_DeleteFunc___impl_File_impl_File_.eq_1, ↓G_unf _ _ c_slices_DeleteFunc___impl_File_impl_File_.eq_1, h_slices_IndexFunc___impl_File_impl_File_.2, h_slices_IndexFunc___impl_File_impl_File_.1, h_impl_Recover_1.2, h_impl_Recover_1.1, bind_ite, slices_DeleteFunc___impl_File_impl_File__f, slices_DeleteFunc___impl_File_impl_File__l0_eq E hy L_slices_IndexFunc___impl_File_impl_File_ h_slices_IndexFunc___impl_File_impl_File_ L_impl_Recover_1 h_impl_Recover_1, rFile, rRow78, rRow3, rRow53, rRow35, rArray, rRow39, rRow5, rRow9, rMap97, rLog, ↓reduceIte, Nat.reduceMul, Nat.reduceAdd, Nat.reduceSub, Nat.reduceEqDiff, Nat.reduceBEq, Nat.reduceLeDiff, Nat.reduceLT, reduceCtorEq, Int.reduceAdd, Int.reduceSub, Int.reduceToNat, Int.reduceNeg, Int.reduceEq, Int.reduceLT, Int.reduceLE]
def H_slices_DeleteFunc___impl_File_impl_File_ (E : En) (L : (List TFile) → Option (List TFile)) : Prop := E.Γ.mu 29 = true ∧ (∀ (a0 : List TFile), E.Γ 29 [ownT cFile 53 none false a0, .d (.fn 30)] = (L a0).bind fun r => some (.ret (.par 0) [[lstT (cFile) r, .bool true]]))
-- loop.example/s02135/impl.Recover
def c_impl_Recover : Cd :=
  sq (r [1, 2] [o 1 .box [t 0], o 2 (.alloc [.nil]) [], o 3 .mv [b false]])
  (sq (sq (r [1, 2, 7] [o 5 (.ld (some 1)) [t 1], o 6 (.call 27) [t 5], o 7 .not [t 6]])
    (.cond (t 7) (sq (r [2, 3] [o 8 (.ld (some 1)) [t 1], o 9 (.call 28) [t 8], e (.st 1) [t 2, t 9], o 3 .mv [b false]])
      (.ret)) (.skip)))
   (sq (r [2, 4] [o 10 (.ld (some 1)) [t 1], o 11 (.call 28) [t 10], o 4 (.alloc [.nil]) [], e (.st 1) [t 4, t 11]])
    (sq (r [2, 4] [o 12 (.fa 0) [t 4], o 13 (.ld none) [t 12], o 14 (.call 29) [t 13, .k (.d (.fn 30))], o 15 (.fa 0) [t 4], e (.st 1) [t 15, t 14]])
     (sq (r [2, 3] [o 16 (.ld (some 1)) [t 4], e (.st 1) [t 2, t 16], o 3 .mv [b true]])
      (.ret)))))
def r_impl_Recover : List RV := [.cell 2 (some 1), .tmp 3]
def impl_Recover_f (L_impl_DiskOk : (List TFile) → Option (Bool)) (L_impl_copied : (List TFile) → Option (List TFile)) (L_slices_DeleteFunc___impl_File_impl_File_ : (List TFile) → Option (List TFile)) (L_impl_Recover_1 : (List UInt8) → (List UInt8) → Option (Bool)) (N : Nat) (a0_Files : List TFile) : Option (List TFile × Bool) :=
  (L_impl_DiskOk a0_Files).bind fun y0 =>
  if y0 = false then ((L_impl_copied a0_Files).bind fun y1 =>
   some ((y1, false)))
  else ((L_impl_copied a0_Files).bind fun y2 =>
   (L_slices_DeleteFunc___impl_File_impl_File_ y2).bind fun y3 =>
   some ((y3, true)))
theorem impl_Recover_g (E : En) (hy : Hy E [] [] [] r_impl_Recover none (fun y => nocap y) flatIds) (L_impl_DiskOk : (List TFile) → Option (Bool)) (h_impl_DiskOk : H_impl_DiskOk E L_impl_DiskOk) (L_impl_copied : (List TFile) → Option (List TFile)) (h_impl_copied : H_impl_copied E L_impl_copied) (L_slices_DeleteFunc___impl_File_impl_File_ : (List TFile) → Option (List TFile)) (h_slices_DeleteFunc___impl_File_impl_File_ : H_slices_DeleteFunc___impl_File_impl_File_ E L_slices_DeleteFunc___impl_File_impl_File_) (L_impl_Recover_1 : (List UInt8) → (List UInt8) → Option (Bool)) (h_impl_Recover_1 : H_impl_Recover_1 E L_impl_Recover_1) (a0_Files : List TFile) : G E c_impl_Recover [] ⟨slotsOf [(0, .agg [.d (lstT cFile a0_Files)])], obsOf []⟩ = (impl_Recover_f L_impl_DiskOk L_impl_copied L_slices_DeleteFunc___impl_File_impl_File_ L_impl_Recover_1 E.n a0_Files).bind fun r => some (.ret (.tup [.agg [ownT (cFile) 53 none false r.1], .d (.bool r.2)]) []) := by
  simp (config := {maxSteps := 2000000}) only [↓rPre, rPost, rCan, rObj, rI, rS, rB, r8, rLI, rEtc, hy.p, hy.l, hy.k, hy.r, hy.d, hy.w, hy.f, flatIds, oid, r_impl_Recover, ↓G_unf _ _ c_impl_Recover.eq_1, h_impl_DiskOk.2, h_impl_DiskOk.1, h_impl_copied.2, h_impl_copied.1, h_slices_DeleteFunc___impl_File_impl_File_.2, h_slices_DeleteFunc___impl_File_impl_File_.1, h_impl_Recover_1.2, h_impl_Recover_1.1, bind_ite, impl_Recover_f, rFile, rRow78, rRow3, rRow53, rRow35, rArray, rRow39, rRow5, rRow9, rMap97, rLog, ↓reduceIte, Nat.reduceMul, Nat.reduceAdd, Nat.reduceSub, Nat.reduceEqDiff, Nat.reduceBEq, Nat.reduceLeDiff, Nat.reduceLT, reduceCtorEq, Int.reduceAdd, Int.reduceSub, Int.reduceToNat, Int.reduceNeg, Int.reduceEq, Int.reduceLT, Int.reduceLE]
def H_impl_Recover (E : En) (L : (List TFile) → Option (List TFile × Bool)) : Prop := E.Γ.mu 9 = false ∧ (∀ (a0_Files : List TFile), E.Γ 9 [.agg [.d (lstT cFile a0_Files)]] = (L a0_Files).bind fun r => some (.ret (.tup [.agg [ownT (cFile) 53 none false r.1], .d (.bool r.2)]) []))
-- loop.example/s02135/laws.eqFile
def c_laws_eqFile : Cd :=
  sq (r [2, 3] [o 2 .box [t 0], o 3 .box [t 1], o 4 .mv [b false]])
  (sq (sq (r [2, 3, 9] [o 5 (.fa 0) [t 2], o 6 (.ld none) [t 5], o 7 (.fa 0) [t 3], o 8 (.ld none) [t 7], o 9 (.bin .neq) [t 6, t 8]])
    (.cond (t 9) (sq (r [4] [o 4 .mv [b false]])
      (.ret)) (.skip)))
   (sq (sq (r [14] [o 10 (.fa 1) [t 2], o 11 (.ld none) [t 10], o 12 (.fa 1) [t 3], o 13 (.ld none) [t 12], o 14 (.bin .neq) [t 11, t 13]])
     (.cond (t 14) (sq (r [4] [o 4 .mv [b false]])
       (.ret)) (.skip)))
    (sq (r [4] [o 4 .mv [b true]])
     (.ret))))
def r_laws_eqFile : List RV := [.tmp 4]
def laws_eqFile_f (N : Nat) (a0_Name : List UInt8) (a0_Data : List UInt8) (a1_Name : List UInt8) (a1_Data : List UInt8) : Option (Bool) :=
  if a0_Name = a1_Name then (if a0_Data = a1_Data then some true
   else some false)
  else some false
theorem laws_eqFile_g (E : En) (hy : Hy E [] [] [] r_laws_eqFile none (fun y => nocap y) flatIds) (a0_Name : List UInt8) (a0_Data : List UInt8) (a1_Name : List UInt8) (a1_Data : List UInt8) : G E c_laws_eqFile [] ⟨slotsOf [(0, .agg [.d (sD a0_Name), .d (sD a0_Data)]), (1, .agg [.d (sD a1_Name), .d (sD a1_Data)])], obsOf []⟩ = (laws_eqFile_f E.n a0_Name a0_Data a1_Name a1_Data).bind fun r => some (.ret (.d (.bool r)) []) := by
  simp (config := {maxSteps := 2000000}) only [↓rPre, rPost, rCan, rObj, rI, rS, rB, r8, rLI, rEtc, hy.p, hy.l, hy.k, hy.r, hy.d, hy.w, hy.f, flatIds, oid, r_laws_eqFile, ↓G_unf _ _ c_laws_eqFile.eq_1, bind_ite, laws_eqFile_f, rFile, rRow78, rRow3, rRow53, rRow35, rArray, rRow39, rRow5, rRow9, rMap97, rLog, ↓reduceIte, Nat.reduceMul, Nat.reduceAdd, Nat.reduceSub, Nat.reduceEqDiff, Nat.reduceBEq, Nat.reduceLeDiff, Nat.reduceLT, reduceCtorEq, Int.reduceAdd, Int.reduceSub, Int.reduceToNat, Int.reduceNeg, Int.reduceEq, Int.reduceLT, Int.reduceLE]
def H_laws_eqFile (E : En) (L : (List UInt8) → (List UInt8) → (List UInt8) → (List UInt8) → Option (Bool)) : Prop := E.Γ.mu 82 = false ∧ (∀ (a0_Name : List UInt8) (a0_Data : List UInt8) (a1_Name : List UInt8) (a1_Data : List UInt8), E.Γ 82 [.agg [.d (sD a0_Name), .d (sD a0_Data)], .agg [.d (sD a1_Name), .d (sD a1_Data)]] = (L a0_Name a0_Data a1_Name a1_Data).bind fun r => some (.ret (.d (.bool r)) []))
-- loop.example/s02135/laws.eqFileS
def b0_laws_eqFileS : Cd :=
  sq (sq (r [0, 1, 5, 14] [o 11 .mv [t 5], o 12 .mv [t 0], o 13 (.len false) [t 12], o 14 (.bin .lss) [t 11, t 13]])
   (.cond (t 14) (.skip) (.exit 0)))
  (sq (.block 1 (sq (rd [] [0, 1, 5, 26] [o 17 .mv [t 0], o 18 .mv [t 5], o 19 (.ia 2) [t 17, t 18], o 20 (.ld (some 2)) [t 19], o 21 .mv [t 1], o 22 .mv [t 5], o 23 (.ia 2) [t 21, t 22], o 24 (.ld (some 2)) [t 23], o 25 (.call 82) [t 20, t 24], o 26 .not [t 25]])
     (.cond (t 26) (sq (r [4] [o 4 .mv [b false]])
       (.ret)) (.skip))))
   (r [0, 1, 5] [o 15 .mv [t 5], o 16 (.bin .add) [t 15, i 1], o 5 .mv [t 16]]))
def k1_laws_eqFileS : Cd :=
  sq (r [4] [o 4 .mv [b true]])
  (.ret)
def c_laws_eqFileS : Cd :=
  sq (r [0, 1] [o 4 .mv [b false]])
  (sq (sq (r [0, 1, 10] [o 6 .mv [t 0], o 7 (.len false) [t 6], o 8 .mv [t 1], o 9 (.len false) [t 8], o 10 (.bin .neq) [t 7, t 9]])
    (.cond (t 10) (sq (r [4] [o 4 .mv [b false]])
      (.ret)) (.skip)))
   (sq (sq (r [0, 1, 5] [o 5 .mv [i 0]])
     (.block 0 (.loop [0, 1, 5] b0_laws_eqFileS))) k1_laws_eqFileS))
def r_laws_eqFileS : List RV := [.tmp 4]
def laws_eqFileS_l0 (L_laws_eqFile : (List UInt8) → (List UInt8) → (List UInt8) → (List UInt8) → Option (Bool)) : Nat → (List TFile) → (List TFile) → Int → Option (Bool)
  | 0, _, _, _ => none
  | m0 + 1, x0, x1, x5 =>
    if x5 < (↑(List.length x0) : Int) then ((idx x0 x5).bind fun y0 =>
     (idx x1 x5).bind fun y1 =>
     (L_laws_eqFile y0.Name y0.Data y1.Name y1.Data).bind fun y2 =>
     if y2 = false then some false
     else laws_eqFileS_l0 L_laws_eqFile m0 x0 x1 (w64 (x5 + 1)))
    else some true
def laws_eqFileS_f (L_laws_eqFile : (List UInt8) → (List UInt8) → (List UInt8) → (List UInt8) → Option (Bool)) (N : Nat) (a0 : List TFile) (a1 : List TFile) : Option (Bool) :=
  if (↑(List.length a0) : Int) = (↑(List.length a1) : Int) then laws_eqFileS_l0 L_laws_eqFile N a0 a1 0
  else some false
theorem laws_eqFileS_l0_eq (E : En) (hy : Hy E [] [] [] r_laws_eqFileS none (fun y => nocap y) flatIds) (L_laws_eqFile : (List UInt8) → (List UInt8) → (List UInt8) → (List UInt8) → Option (Bool)) (h_laws_eqFile : H_laws_eqFile E L_laws_eqFile) : ∀ (m0 : Nat) (x0 : List TFile) (x1 : List TFile) (x5 : Int), gH E [0, 1, 5] b0_laws_eqFileS [KJ.b 0, KJ.c k1_laws_eqFileS] m0 ⟨slotsOf [(0, .d (lstT (cFile) x0)), (1, .d (lstT (cFile) x1)), (5, .d (.int .i64 x5))], obsOf []⟩ = (laws_eqFileS_l0 L_laws_eqFile m0 x0 x1 x5).bind fun r => some (.ret (.d (.bool r)) []) := by
  intro m0
  induction m0 with
  | zero => intros; rfl
  | succ m0 ih =>
    intros
    simp (config := {maxSteps := 2000000}) only [↓rPre, rPost, rCan, rObj, rI, rS, rB, r8, rLI, rEtc, hy.p, hy.l, hy.k, hy.r, hy.d, hy.w, hy.f, flatIds, oid, r_laws_eqFileS, ↓G_unf _ _ b0_laws_eqFileS.eq_1, ↓G_unf _ _ k1_laws_eqFileS.eq_1, ↓G_unf _ _ c_laws_eqFileS.eq_1, h_laws_eqFile.2, h_laws_eqFile.1, gH_succ, ih, bind_ite, laws_eqFileS_l0, rFile, rRow78, rRow3, rRow53, rRow35, rArray, rRow39, rRow5, rRow9, rMap97, rLog, ↓reduceIte, Nat.reduceMul, Nat.reduceAdd, Nat.reduceSub, Nat.reduceEqDiff, Nat.reduceBEq, Nat.reduceLeDiff, Nat.reduceLT, reduceCtorEq, Int.reduceAdd, Int.reduceSub, Int.reduceToNat, Int.reduceNeg, Int.reduceEq, Int.reduceLT, Int.reduceLE]
theorem laws_eqFileS_g (E : En) (hy : Hy E [] [] [] r_laws_eqFileS none (fun y => nocap y) flatIds) (L_laws_eqFile : (List UInt8) → (List UInt8) → (List UInt8) → (List UInt8) → Option (Bool)) (h_laws_eqFile : H_laws_eqFile E L_laws_eqFile) (a0 : List TFile) (a1 : List TFile) : G E c_laws_eqFileS [] ⟨slotsOf [(0, .d (lstT cFile a0)), (1, .d (lstT cFile a1))], obsOf []⟩ = (laws_eqFileS_f L_laws_eqFile E.n a0 a1).bind fun r => some (.ret (.d (.bool r)) []) := by
  simp (config := {maxSteps := 2000000}) only [↓rPre, rPost, rCan, rObj, rI, rS, rB, r8, rLI, rEtc, hy.p, hy.l, hy.k, hy.r, hy.d, hy.w, hy.f, flatIds, oid, r_laws_eqFileS, ↓G_unf _ _ b0_laws_eqFileS.eq_1, ↓G_unf _ _ k1_laws_eqFileS.eq_1, ↓G_unf _ _ c_laws_eqFileS.eq_1, h_laws_eqFile.2, h_laws_eqFile.1, bind_ite, laws_eqFileS_f, laws_eqFileS_l0_eq E hy L_laws_eqFile h_laws_eqFile, rFile, rRow78, rRow3, rRow53, rRow35, rArray, rRow39, rRow5, rRow9, rMap97, rLog, ↓reduceIte, Nat.reduceMul, Nat.reduceAdd, Nat.reduceSub, Nat.reduceEqDiff, Nat.reduceBEq, Nat.reduceLeDiff, Nat.reduceLT, reduceCtorEq, Int.reduceAdd, Int.reduceSub, Int.reduceToNat, Int.reduceNeg, Int.reduceEq, Int.reduceLT, Int.reduceLE]
def H_laws_eqFileS (E : En) (L : (List TFile) → (List TFile) → Option (Bool)) : Prop := E.Γ.mu 32 = false ∧ (∀ (a0 : List TFile) (a1 : List TFile), E.Γ 32 [.d (lstT cFile a0), .d (lstT cFile a1)] = (L a0 a1).bind fun r => some (.ret (.d (.bool r)) []))
-- loop.example/s02135/laws.eqDisk
def c_laws_eqDisk : Cd :=
  sq (r [2, 3] [o 2 .box [t 0], o 3 .box [t 1], o 4 .mv [b false]])
  (sq (sq (r [10] [o 5 (.fa 0) [t 2], o 6 (.ld none) [t 5], o 7 (.fa 0) [t 3], o 8 (.ld none) [t 7], o 9 (.call 32) [t 6, t 8], o 10 .not [t 9]])
    (.cond (t 10) (sq (r [4] [o 4 .mv [b false]])
      (.ret)) (.skip)))
   (sq (r [4] [o 4 .mv [b true]])
    (.ret)))
def r_laws_eqDisk : List RV := [.tmp 4]
def laws_eqDisk_f (L_laws_eqFileS : (List TFile) → (List TFile) → Option (Bool)) (N : Nat) (a0_Files : List TFile) (a1_Files : List TFile) : Option (Bool) :=
  (L_laws_eqFileS a0_Files a1_Files).bind fun y0 =>
  if y0 = false then some false
  else some true
theorem laws_eqDisk_g (E : En) (hy : Hy E [] [] [] r_laws_eqDisk none (fun y => nocap y) flatIds) (L_laws_eqFileS : (List TFile) → (List TFile) → Option (Bool)) (h_laws_eqFileS : H_laws_eqFileS E L_laws_eqFileS) (a0_Files : List TFile) (a1_Files : List TFile) : G E c_laws_eqDisk [] ⟨slotsOf [(0, .agg [.d (lstT cFile a0_Files)]), (1, .agg [.d (lstT cFile a1_Files)])], obsOf []⟩ = (laws_eqDisk_f L_laws_eqFileS E.n a0_Files a1_Files).bind fun r => some (.ret (.d (.bool r)) []) := by
  simp (config := {maxSteps := 2000000}) only [↓rPre, rPost, rCan, rObj, rI, rS, rB, r8, rLI, rEtc, hy.p, hy.l, hy.k, hy.r, hy.d, hy.w, hy.f, flatIds, oid, r_laws_eqDisk, ↓G_unf _ _ c_laws_eqDisk.eq_1, h_laws_eqFileS.2, h_laws_eqFileS.1, bind_ite, laws_eqDisk_f, rFile, rRow78, rRow3, rRow53, rRow35, rArray, rRow39, rRow5, rRow9, rMap97, rLog, ↓reduceIte, Nat.reduceMul, Nat.reduceAdd, Nat.reduceSub, Nat.reduceEqDiff, Nat.reduceBEq, Nat.reduceLeDiff, Nat.reduceLT, reduceCtorEq, Int.reduceAdd, Int.reduceSub, Int.reduceToNat, Int.reduceNeg, Int.reduceEq, Int.reduceLT, Int.reduceLE]
def H_laws_eqDisk (E : En) (L : (List TFile) → (List TFile) → Option (Bool)) : Prop := E.Γ.mu 10 = false ∧ (∀ (a0_Files : List TFile) (a1_Files : List TFile), E.Γ 10 [.agg [.d (lstT cFile a0_Files)], .agg [.d (lstT cFile a1_Files)]] = (L a0_Files a1_Files).bind fun r => some (.ret (.d (.bool r)) []))
-- loop.example/s02135/laws.markText
def b0_laws_markText : Cd :=
  sq (sq (r [0, 3, 7] [o 6 .mv [t 0], o 7 (.bin .gtr) [t 6, i 0]])
   (.cond (t 7) (.skip) (.exit 0)))
  (.block 1 (sq (r [0, 3] [o 8 .mv [t 0], o 9 (.bin .rem) [t 8, i 10], o 10 (.bin .add) [i 48, t 9], o 11 (.cvt .u8) [t 10], o 12 (lit 5 1 1) [t 11], o 13 .b2s [t 12], o 14 .mv [t 3], o 15 (.bin .add) [t 13, t 14], o 3 .mv [t 15]])
    (r [0, 3] [o 16 .mv [t 0], o 17 (.bin .quo) [t 16, i 10], o 0 .mv [t 17]])))
def k1_laws_markText : Cd :=
  sq (r [2] [o 18 .mv [t 3], o 19 (.bin .add) [s [109], t 18], o 2 .mv [t 19]])
  (.ret)
def c_laws_markText : Cd :=
  sq (r [0] [o 2 .mv [s []]])
  (sq (sq (r [0, 5] [o 4 .mv [t 0], o 5 (.bin .leq) [t 4, i 0]])
    (.cond (t 5) (sq (r [2] [o 2 .mv [s [109, 48]]])
      (.ret)) (.skip)))
   (sq (r [0, 3] [o 3 .mv [s []]])
    (sq (.block 0 (.loop [0, 3] b0_laws_markText)) k1_laws_markText)))
def r_laws_markText : List RV := [.tmp 2]
def laws_markText_l0 : Nat → Int → (List UInt8) → Option (List UInt8)
  | 0, _, _ => none
  | m0 + 1, x0, x3 =>
    if 0 < x0 then (if roomS (List.length (bytes8 [Go.IntKind.wrap .u8 (w64 (48 + Int.tmod x0 10))] ++ x3)) then laws_markText_l0 m0 (w64 (Int.tdiv x0 10)) (bytes8 [Go.IntKind.wrap .u8 (w64 (48 + Int.tmod x0 10))] ++ x3)
     else none)
    else (if roomS (List.length x3 + 1) then some (109 :: x3)
     else none)
def laws_markText_f (N : Nat) (a0 : Int) : Option (List UInt8) :=
  if a0 ≤ 0 then some ([109, 48])
  else laws_markText_l0 N a0 []
theorem laws_markText_l0_eq (E : En) (hy : Hy E [] [] [] r_laws_markText none (fun y => nocap y) flatIds) : ∀ (m0 : Nat) (x0 : Int) (x3 : List UInt8), gH E [0, 3] b0_laws_markText [KJ.b 0, KJ.c k1_laws_markText] m0 ⟨slotsOf [(0, .d (.int .i64 x0)), (3, .d (sD x3))], obsOf []⟩ = (laws_markText_l0 m0 x0 x3).bind fun r => some (.ret (.d (sD r)) []) := by
  intro m0
  induction m0 with
  | zero => intros; rfl
  | succ m0 ih =>
    intros
    simp (config := {maxSteps := 2000000}) only [↓rPre, rPost, rCan, rObj, rI, rS, rB, r8, rLI, rEtc, hy.p, hy.l, hy.k, hy.r, hy.d, hy.w, hy.f, flatIds, oid, r_laws_markText, ↓G_unf _ _ b0_laws_markText.eq_1, ↓G_unf _ _ k1_laws_markText.eq_1, ↓G_unf _ _ c_laws_markText.eq_1, gH_succ, ih, bind_ite, laws_markText_l0, rFile, rRow78, rRow3, rRow53, rRow35, rArray, rRow39, rRow5, rRow9, rMap97, rLog, ↓reduceIte, Nat.reduceMul, Nat.reduceAdd, Nat.reduceSub, Nat.reduceEqDiff, Nat.reduceBEq, Nat.reduceLeDiff, Nat.reduceLT, reduceCtorEq, Int.reduceAdd, Int.reduceSub, Int.reduceToNat, Int.reduceNeg, Int.reduceEq, Int.reduceLT, Int.reduceLE]
theorem laws_markText_g (E : En) (hy : Hy E [] [] [] r_laws_markText none (fun y => nocap y) flatIds) (a0 : Int) : G E c_laws_markText [] ⟨slotsOf [(0, .d (.int .i64 a0))], obsOf []⟩ = (laws_markText_f E.n a0).bind fun r => some (.ret (.d (sD r)) []) := by
  simp (config := {maxSteps := 2000000}) only [↓rPre, rPost, rCan, rObj, rI, rS, rB, r8, rLI, rEtc, hy.p, hy.l, hy.k, hy.r, hy.d, hy.w, hy.f, flatIds, oid, r_laws_markText, ↓G_unf _ _ b0_laws_markText.eq_1, ↓G_unf _ _ k1_laws_markText.eq_1, ↓G_unf _ _ c_laws_markText.eq_1, bind_ite, laws_markText_f, laws_markText_l0_eq E hy, rFile, rRow78, rRow3, rRow53, rRow35, rArray, rRow39, rRow5, rRow9, rMap97, rLog, ↓reduceIte, Nat.reduceMul, Nat.reduceAdd, Nat.reduceSub, Nat.reduceEqDiff, Nat.reduceBEq, Nat.reduceLeDiff, Nat.reduceLT, reduceCtorEq, Int.reduceAdd, Int.reduceSub, Int.reduceToNat, Int.reduceNeg, Int.reduceEq, Int.reduceLT, Int.reduceLE]
def H_laws_markText (E : En) (L : Int → Option (List UInt8)) : Prop := E.Γ.mu 83 = false ∧ (∀ (a0 : Int), E.Γ 83 [.d (.int .i64 a0)] = (L a0).bind fun r => some (.ret (.d (sD r)) []))
-- loop.example/s02135/laws.markFileS
def b0_laws_markFileS : Cd :=
  sq (sq (r [0, 1, 5, 9] [o 6 .mv [t 5], o 7 .mv [t 0], o 8 (.len false) [t 7], o 9 (.bin .lss) [t 6, t 8]])
   (.cond (t 9) (.skip) (.exit 0)))
  (sq (.block 1 (sq (r [0, 1, 5] [o 12 .mv [t 0], o 13 .mv [t 5], o 14 .mv [t 1], o 15 (.call 83) [t 14], o 16 (.ia 2) [t 12, t 13], o 17 (.fa 0) [t 16], e (.st 1) [t 17, t 15]])
     (sq (r [0, 1, 5] [o 18 .mv [t 1], o 19 (.bin .add) [t 18, i 1], o 1 .mv [t 19]])
      (sq (r [0, 1, 5] [o 20 .mv [t 0], o 21 .mv [t 5], o 22 .mv [t 1], o 23 (.call 83) [t 22], o 24 (.ia 2) [t 20, t 21], o 25 (.fa 1) [t 24], e (.st 1) [t 25, t 23]])
       (r [0, 1, 5] [o 26 .mv [t 1], o 27 (.bin .add) [t 26, i 1], o 1 .mv [t 27]])))))
   (r [0, 1, 5] [o 10 .mv [t 5], o 11 (.bin .add) [t 10, i 1], o 5 .mv [t 11]]))
def k1_laws_markFileS : Cd :=
  sq (r [4] [o 28 .mv [t 1], o 4 .mv [t 28]])
  (.ret)
def c_laws_markFileS : Cd :=
  sq (r [0, 1] [o 4 .mv [i 0]])
  (sq (sq (r [0, 1, 5] [o 5 .mv [i 0]])
    (.block 0 (.loop [0, 1, 5] b0_laws_markFileS))) k1_laws_markFileS)
def r_laws_markFileS : List RV := [.tmp 4]
def laws_markFileS_l0 (L_laws_markText : Int → Option (List UInt8)) : Nat → Int → Int → (List TFile) → Option (Int × List TFile)
  | 0, _, _, _ => none
  | m0 + 1, x1, x5, o0 =>
    if x5 < (↑(List.length o0) : Int) then ((L_laws_markText x1).bind fun y0 =>
     if 0 ≤ x5 ∧ x5 < (↑(List.length o0) : Int) then ((o0[Int.toNat x5]?).bind fun y1 =>
      (L_laws_markText (w64 (x1 + 1))).bind fun y2 =>
      if 0 ≤ x5 ∧ x5 < (↑(List.length (List.set o0 (Int.toNat x5) { Name := y0, Data := y1.Data })) : Int) then (((List.set o0 (Int.toNat x5) { Name := y0, Data := y1.Data })[Int.toNat x5]?).bind fun y3 =>
       laws_markFileS_l0 L_laws_markText m0 (w64 (w64 (x1 + 1) + 1)) (w64 (x5 + 1)) (List.set (List.set o0 (Int.toNat x5) { Name := y0, Data := y1.Data }) (Int.toNat x5) { Name := y3.Name, Data := y2 }))
      else none)
     else none)
    else some ((x1, o0))
def laws_markFileS_f (L_laws_markText : Int → Option (List UInt8)) (N : Nat) (a0 : List TFile) (a1 : Int) : Option (Int × List TFile) :=
  laws_markFileS_l0 L_laws_markText N a1 0 a0
theorem laws_markFileS_l0_eq (E : En) (hy : Hy E [0] [0] [(0, .row 53 2)] r_laws_markFileS none (fun y => nocap y) flatIds) (L_laws_markText : Int → Option (List UInt8)) (h_laws_markText : H_laws_markText E L_laws_markText) : ∀ (m0 : Nat) (x1 : Int) (x5 : Int) (o0 : List TFile), gH E [0, 1, 5] b0_laws_markFileS [KJ.b 0, KJ.c k1_laws_markFileS] m0 ⟨slotsOf [(0, A.row 0 1), (1, .d (.int .i64 x1)), (5, .d (.int .i64 x5))], obsOf [(0, ⟨1, rowT (cFile) 53 none o0, false⟩)]⟩ = (laws_markFileS_l0 L_laws_markText m0 x1 x5 o0).bind fun r => some (.ret (.d (.int .i64 r.1)) [[lstT (cFile) r.2]]) := by
  intro m0
  induction m0 with
  | zero => intros; rfl
  | succ m0 ih =>
    intros
    simp (config := {maxSteps := 2000000}) only [↓rPre, rPost, rCan, rObj, rI, rS, rB, r8, rLI, rEtc, hy.p, hy.l, hy.k, hy.r, hy.d, hy.w, hy.f, flatIds, oid, r_laws_markFileS, ↓G_unf _ _ b0_laws_markFileS.eq_1, ↓G_unf _ _ k1_laws_markFileS.eq_1, ↓G_unf _ _ c_laws_markFileS.eq_1, h_laws_markText.2, h_laws_markText.1, gH_succ, ih, bind_ite, laws_markFileS_l0, rFile, rRow78, rRow3, rRow53, rRow35, rArray, rRow39, rRow5, rRow9, rMap97, rLog, ↓reduceIte, Nat.reduceMul, Nat.reduceAdd, Nat.reduceSub, Nat.reduceEqDiff, Nat.reduceBEq, Nat.reduceLeDiff, Nat.reduceLT, reduceCtorEq, Int.reduceAdd, Int.reduceSub, Int.reduceToNat, Int.reduceNeg, Int.reduceEq, Int.reduceLT, Int.reduceLE]
theorem laws_markFileS_g (E : En) (hy : Hy E [0] [0] [(0, .row 53 2)] r_laws_markFileS none (fun y => nocap y) flatIds) (L_laws_markText : Int → Option (List UInt8)) (h_laws_markText : H_laws_markText E L_laws_markText) (a0 : List TFile) (a1 : Int) : G E c_laws_markFileS [] ⟨slotsOf [(0, .row 0 1), (1, .d (.int .i64 a1))], obsOf [(0, ⟨1, rowT cFile 53 none a0, false⟩)]⟩ = (laws_markFileS_f L_laws_markText E.n a0 a1).bind fun r => some (.ret (.d (.int .i64 r.1)) [[lstT (cFile) r.2]]) := by
  simp (config := {maxSteps := 2000000}) only [↓rPre, rPost, rCan, rObj, rI, rS, rB, r8, rLI, rEtc, hy.p, hy.l, hy.k, hy.r, hy.d, hy.w, hy.f, flatIds, oid, r_laws_markFileS, ↓G_unf _ _ b0_laws_markFileS.eq_1, ↓G_unf _ _ k1_laws_markFileS.eq_1, ↓G_unf _ _ c_laws_markFileS.eq_1, h_laws_markText.2, h_laws_markText.1, bind_ite, laws_markFileS_f, laws_markFileS_l0_eq E hy L_laws_markText h_laws_markText, rFile, rRow78, rRow3, rRow53, rRow35, rArray, rRow39, rRow5, rRow9, rMap97, rLog, ↓reduceIte, Nat.reduceMul, Nat.reduceAdd, Nat.reduceSub, Nat.reduceEqDiff, Nat.reduceBEq, Nat.reduceLeDiff, Nat.reduceLT, reduceCtorEq, Int.reduceAdd, Int.reduceSub, Int.reduceToNat, Int.reduceNeg, Int.reduceEq, Int.reduceLT, Int.reduceLE]
def H_laws_markFileS (E : En) (L : (List TFile) → Int → Option (Int × List TFile)) : Prop := E.Γ.mu 33 = true ∧ (∀ (a0 : List TFile) (a1 : Int), E.Γ 33 [ownT cFile 53 none false a0, .d (.int .i64 a1)] = (L a0 a1).bind fun r => some (.ret (.d (.int .i64 r.1)) [[lstT (cFile) r.2]]))
-- loop.example/s02135/laws.markDisk
def c_laws_markDisk : Cd :=
  sq (r [1, 2] [o 2 .box [t 0], o 4 .mv [i 0]])
  (sq (r [1] [o 5 (.fa 0) [t 2], o 6 (.ld none) [t 5], o 7 .mv [t 1], o 8 (.call 33) [t 6, t 7], o 1 .mv [t 8]])
   (sq (r [4] [o 9 .mv [t 1], o 4 .mv [t 9]])
    (.ret)))
def r_laws_markDisk : List RV := [.tmp 4]
def laws_markDisk_f (L_laws_markFileS : (List TFile) → Int → Option (Int × List TFile)) (N : Nat) (a0_Files : List TFile) (a1 : Int) : Option (Int × List TFile) :=
  (L_laws_markFileS a0_Files a1).bind fun y0 =>
  some ((y0.fst, y0.snd))
theorem laws_markDisk_g (E : En) (hy : Hy E [0] [0] [(0, .row 53 2)] r_laws_markDisk none (fun y => nocap y) flatIds) (L_laws_markFileS : (List TFile) → Int → Option (Int × List TFile)) (h_laws_markFileS : H_laws_markFileS E L_laws_markFileS) (a0_Files : List TFile) (a1 : Int) : G E c_laws_markDisk [] ⟨slotsOf [(0, .agg [.row 0 1]), (1, .d (.int .i64 a1))], obsOf [(0, ⟨1, rowT cFile 53 none a0_Files, false⟩)]⟩ = (laws_markDisk_f L_laws_markFileS E.n a0_Files a1).bind fun r => some (.ret (.d (.int .i64 r.1)) [[lstT (cFile) r.2]]) := by
  simp (config := {maxSteps := 2000000}) only [↓rPre, rPost, rCan, rObj, rI, rS, rB, r8, rLI, rEtc, hy.p, hy.l, hy.k, hy.r, hy.d, hy.w, hy.f, flatIds, oid, r_laws_markDisk, ↓G_unf _ _ c_laws_markDisk.eq_1, h_laws_markFileS.2, h_laws_markFileS.1, bind_ite, laws_markDisk_f, rFile, rRow78, rRow3, rRow53, rRow35, rArray, rRow39, rRow5, rRow9, rMap97, rLog, ↓reduceIte, Nat.reduceMul, Nat.reduceAdd, Nat.reduceSub, Nat.reduceEqDiff, Nat.reduceBEq, Nat.reduceLeDiff, Nat.reduceLT, reduceCtorEq, Int.reduceAdd, Int.reduceSub, Int.reduceToNat, Int.reduceNeg, Int.reduceEq, Int.reduceLT, Int.reduceLE]
def H_laws_markDisk (E : En) (L : (List TFile) → Int → Option (Int × List TFile)) : Prop := E.Γ.mu 11 = true ∧ (∀ (a0_Files : List TFile) (a1 : Int), E.Γ 11 [.agg [ownT cFile 53 none false a0_Files], .d (.int .i64 a1)] = (L a0_Files a1).bind fun r => some (.ret (.d (.int .i64 r.1)) [[lstT (cFile) r.2]]))
-- loop.example/s02135/laws.heldFileS
def b0_laws_heldFileS : Cd :=
  sq (sq (r [0, 1, 5, 9] [o 6 .mv [t 5], o 7 .mv [t 0], o 8 (.len false) [t 7], o 9 (.bin .lss) [t 6, t 8]])
   (.cond (t 9) (.skip) (.exit 0)))
  (sq (.block 1 (sq (sq (rd [] [0, 1, 5, 19] [o 12 .mv [t 0], o 13 .mv [t 5], o 14 (.ia 2) [t 12, t 13], o 15 (.fa 0) [t 14], o 16 (.ld none) [t 15], o 17 .mv [t 1], ap [] false [12, 13, 14, 15] (o 18 (.call 83) [t 17]), o 19 (.bin .neq) [t 16, t 18]])
      (.cond (t 19) (sq (r [4] [o 4 .mv [i (-1)]])
        (.ret)) (.skip)))
     (sq (r [0, 1, 5] [o 20 .mv [t 1], o 21 (.bin .add) [t 20, i 1], o 1 .mv [t 21]])
      (sq (sq (rd [] [0, 1, 5, 29] [o 22 .mv [t 0], o 23 .mv [t 5], o 24 (.ia 2) [t 22, t 23], o 25 (.fa 1) [t 24], o 26 (.ld none) [t 25], o 27 .mv [t 1], ap [] false [22, 23, 24, 25] (o 28 (.call 83) [t 27]), o 29 (.bin .neq) [t 26, t 28]])
        (.cond (t 29) (sq (r [4] [o 4 .mv [i (-1)]])
          (.ret)) (.skip)))
       (r [0, 1, 5] [o 30 .mv [t 1], o 31 (.bin .add) [t 30, i 1], o 1 .mv [t 31]])))))
   (r [0, 1, 5] [o 10 .mv [t 5], o 11 (.bin .add) [t 10, i 1], o 5 .mv [t 11]]))
def k1_laws_heldFileS : Cd :=
  sq (r [4] [o 32 .mv [t 1], o 4 .mv [t 32]])
  (.ret)
def c_laws_heldFileS : Cd :=
  sq (r [0, 1] [o 4 .mv [i 0]])
  (sq (sq (r [0, 1, 5] [o 5 .mv [i 0]])
    (.block 0 (.loop [0, 1, 5] b0_laws_heldFileS))) k1_laws_heldFileS)
def r_laws_heldFileS : List RV := [.tmp 4]
def laws_heldFileS_l0 (L_laws_markText : Int → Option (List UInt8)) : Nat → (List TFile) → Int → Int → Option (Int)
  | 0, _, _, _ => none
  | m0 + 1, x0, x1, x5 =>
    if x5 < (↑(List.length x0) : Int) then ((idx x0 x5).bind fun y0 =>
     (L_laws_markText x1).bind fun y1 =>
     if y0.Name = y1 then ((idx x0 x5).bind fun y2 =>
      (L_laws_markText (w64 (x1 + 1))).bind fun y3 =>
      if y2.Data = y3 then laws_heldFileS_l0 L_laws_markText m0 x0 (w64 (w64 (x1 + 1) + 1)) (w64 (x5 + 1))
      else some (-1))
     else some (-1))
    else some x1
def laws_heldFileS_f (L_laws_markText : Int → Option (List UInt8)) (N : Nat) (a0 : List TFile) (a1 : Int) : Option (Int) :=
  laws_heldFileS_l0 L_laws_markText N a0 a1 0
theorem laws_heldFileS_l0_eq (E : En) (hy : Hy E [] [] [] r_laws_heldFileS none (fun y => nocap y) flatIds) (L_laws_markText : Int → Option (List UInt8)) (h_laws_markText : H_laws_markText E L_laws_markText) : ∀ (m0 : Nat) (x0 : List TFile) (x1 : Int) (x5 : Int), gH E [0, 1, 5] b0_laws_heldFileS [KJ.b 0, KJ.c k1_laws_heldFileS] m0 ⟨slotsOf [(0, .d (lstT (cFile) x0)), (1, .d (.int .i64 x1)), (5, .d (.int .i64 x5))], obsOf []⟩ = (laws_heldFileS_l0 L_laws_markText m0 x0 x1 x5).bind fun r => some (.ret (.d (.int .i64 r)) []) := by
  intro m0
  induction m0 with
  | zero => intros; rfl
  | succ m0 ih =>
    intros
    simp (config := {maxSteps := 2000000}) only [↓rPre, rPost, rCan, rObj, rI, rS, rB, r8, rLI, rEtc, hy.p, hy.l, hy.k, hy.r, hy.d, hy.w, hy.f, flatIds, oid, r_laws_heldFileS, ↓G_unf _ _ b0_laws_heldFileS.eq_1, ↓G_unf _ _ k1_laws_heldFileS.eq_1, ↓G_unf _ _ c_laws_heldFileS.eq_1, h_laws_markText.2, h_laws_markText.1, gH_succ, ih, bind_ite, laws_heldFileS_l0, rFile, rRow78, rRow3, rRow53, rRow35, rArray, rRow39, rRow5, rRow9, rMap97, rLog, ↓reduceIte, Nat.reduceMul, Nat.reduceAdd, Nat.reduceSub, Nat.reduceEqDiff, Nat.reduceBEq, Nat.reduceLeDiff, Nat.reduceLT, reduceCtorEq, Int.reduceAdd, Int.reduceSub, Int.reduceToNat, Int.reduceNeg, Int.reduceEq, Int.reduceLT, Int.reduceLE]
theorem laws_heldFileS_g (E : En) (hy : Hy E [] [] [] r_laws_heldFileS none (fun y => nocap y) flatIds) (L_laws_markText : Int → Option (List UInt8)) (h_laws_markText : H_laws_markText E L_laws_markText) (a0 : List TFile) (a1 : Int) : G E c_laws_heldFileS [] ⟨slotsOf [(0, .d (lstT cFile a0)), (1, .d (.int .i64 a1))], obsOf []⟩ = (laws_heldFileS_f L_laws_markText E.n a0 a1).bind fun r => some (.ret (.d (.int .i64 r)) []) := by
  simp (config := {maxSteps := 2000000}) only [↓rPre, rPost, rCan, rObj, rI, rS, rB, r8, rLI, rEtc, hy.p, hy.l, hy.k, hy.r, hy.d, hy.w, hy.f, flatIds, oid, r_laws_heldFileS, ↓G_unf _ _ b0_laws_heldFileS.eq_1, ↓G_unf _ _ k1_laws_heldFileS.eq_1, ↓G_unf _ _ c_laws_heldFileS.eq_1, h_laws_markText.2, h_laws_markText.1, bind_ite, laws_heldFileS_f, laws_heldFileS_l0_eq E hy L_laws_markText h_laws_markText, rFile, rRow78, rRow3, rRow53, rRow35, rArray, rRow39, rRow5, rRow9, rMap97, rLog, ↓reduceIte, Nat.reduceMul, Nat.reduceAdd, Nat.reduceSub, Nat.reduceEqDiff, Nat.reduceBEq, Nat.reduceLeDiff, Nat.reduceLT, reduceCtorEq, Int.reduceAdd, Int.reduceSub, Int.reduceToNat, Int.reduceNeg, Int.reduceEq, Int.reduceLT, Int.reduceLE]
def H_laws_heldFileS (E : En) (L : (List TFile) → Int → Option (Int)) : Prop := E.Γ.mu 34 = false ∧ (∀ (a0 : List TFile) (a1 : Int), E.Γ 34 [.d (lstT cFile a0), .d (.int .i64 a1)] = (L a0 a1).bind fun r => some (.ret (.d (.int .i64 r)) []))
-- loop.example/s02135/laws.heldDisk
def c_laws_heldDisk : Cd :=
  sq (r [1, 2] [o 2 .box [t 0], o 4 .mv [i 0]])
  (sq (r [1] [o 5 (.fa 0) [t 2], o 6 (.ld none) [t 5], o 7 .mv [t 1], o 8 (.call 34) [t 6, t 7], o 1 .mv [t 8]])
   (sq (sq (r [1, 10] [o 9 .mv [t 1], o 10 (.bin .lss) [t 9, i 0]])
     (.cond (t 10) (sq (r [4] [o 4 .mv [i (-1)]])
       (.ret)) (.skip)))
    (sq (r [4] [o 11 .mv [t 1], o 4 .mv [t 11]])
     (.ret))))
def r_laws_heldDisk : List RV := [.tmp 4]
def laws_heldDisk_f (L_laws_heldFileS : (List TFile) → Int → Option (Int)) (N : Nat) (a0_Files : List TFile) (a1 : Int) : Option (Int) :=
  (L_laws_heldFileS a0_Files a1).bind fun y0 =>
  if y0 < 0 then some (-1)
  else some y0
theorem laws_heldDisk_g (E : En) (hy : Hy E [] [] [] r_laws_heldDisk none (fun y => nocap y) flatIds) (L_laws_heldFileS : (List TFile) → Int → Option (Int)) (h_laws_heldFileS : H_laws_heldFileS E L_laws_heldFileS) (a0_Files : List TFile) (a1 : Int) : G E c_laws_heldDisk [] ⟨slotsOf [(0, .agg [.d (lstT cFile a0_Files)]), (1, .d (.int .i64 a1))], obsOf []⟩ = (laws_heldDisk_f L_laws_heldFileS E.n a0_Files a1).bind fun r => some (.ret (.d (.int .i64 r)) []) := by
  simp (config := {maxSteps := 2000000}) only [↓rPre, rPost, rCan, rObj, rI, rS, rB, r8, rLI, rEtc, hy.p, hy.l, hy.k, hy.r, hy.d, hy.w, hy.f, flatIds, oid, r_laws_heldDisk, ↓G_unf _ _ c_laws_heldDisk.eq_1, h_laws_heldFileS.2, h_laws_heldFileS.1, bind_ite, laws_heldDisk_f, rFile, rRow78, rRow3, rRow53, rRow35, rArray, rRow39, rRow5, rRow9, rMap97, rLog, ↓reduceIte, Nat.reduceMul, Nat.reduceAdd, Nat.reduceSub, Nat.reduceEqDiff, Nat.reduceBEq, Nat.reduceLeDiff, Nat.reduceLT, reduceCtorEq, Int.reduceAdd, Int.reduceSub, Int.reduceToNat, Int.reduceNeg, Int.reduceEq, Int.reduceLT, Int.reduceLE]
def H_laws_heldDisk (E : En) (L : (List TFile) → Int → Option (Int)) : Prop := E.Γ.mu 12 = false ∧ (∀ (a0_Files : List TFile) (a1 : Int), E.Γ 12 [.agg [.d (lstT cFile a0_Files)], .d (.int .i64 a1)] = (L a0_Files a1).bind fun r => some (.ret (.d (.int .i64 r)) []))
-- loop.example/s02135/laws.FnExactRecover
def c_laws_FnExactRecover : Cd :=
  sq (r [1] [o 1 .box [t 0], o 2 .mv [b false]])
  (sq (r [1, 3] [o 3 .mv [i 1048576]])
   (sq (r [1, 3] [o 14 (.ld (some 1)) [t 1], o 15 .mv [t 3], o 16 (.call 6) [t 14, t 15], o 3 .mv [t 16]])
    (sq (sq (r [1, 18] [o 17 .mv [t 3], o 18 (.bin .lss) [t 17, i 0]])
      (.cond (t 18) (sq (r [2] [o 2 .mv [b true]])
        (.ret)) (.skip)))
     (sq (r [1, 4, 5] [o 20 (.ld (some 1)) [t 1], o 21 (.call 8) [t 20], o 22 (.call 7) [t 21], o 19 .mv [t 22], o 23 (.ext 0) [t 19], o 24 (.ext 1) [t 19], o 4 (.alloc [.nil]) [], e (.st 1) [t 4, t 23], o 5 .mv [t 24]])
      (sq (r [1, 4, 5, 6] [o 25 (.ld (some 1)) [t 1], o 26 (.call 8) [t 25], o 6 (.alloc [.nil]) [], e (.st 1) [t 6, t 26]])
       (sq (r [1, 4, 5, 6, 7, 8] [o 28 (.ld (some 1)) [t 6], o 29 (.call 9) [t 28], o 27 .mv [t 29], o 30 (.ext 0) [t 27], o 31 (.ext 1) [t 27], o 7 (.alloc [.nil]) [], e (.st 1) [t 7, t 30], o 8 .mv [t 31]])
        (sq (sq (r [1, 4, 5, 6, 7, 8, 40] [o 32 (.ld (some 1)) [t 7], o 33 (.ld (some 1)) [t 4], o 34 (.call 10) [t 32, t 33], o 35 .not [t 34], o 36 .mv [t 35], g 36 false 37 .mv [t 8], g 36 false 38 .mv [t 5], g 36 false 39 (.beq true) [t 37, t 38], o 40 .pick [t 36, b true, t 39]])
          (.cond (t 40) (sq (r [2] [o 2 .mv [b false]])
            (.ret)) (.skip)))
         (sq (sq (rd [] [1, 4, 5, 6, 7, 8, 45] [o 41 (.ld (some 1)) [t 6], o 42 (.ld (some 1)) [t 1], ap [] false [6] (o 43 (.call 8) [t 42]), o 44 (.call 10) [t 41, t 43], o 45 .not [t 44]])
           (.cond (t 45) (sq (r [2] [o 2 .mv [b false]])
             (.ret)) (.skip)))
          (sq (r [1, 4, 5, 6, 7, 8, 9] [o 9 .mv [i 1]])
           (sq (r [1, 4, 5, 7, 8, 9] [o 46 (.ld (some 1)) [t 6], o 47 .mv [t 9], o 48 (.call 11) [t 46, t 47], o 9 .mv [t 48]])
            (sq (sq (r [1, 4, 5, 7, 61] [o 49 .mv [t 9], o 50 (.bin .lss) [t 49, i 0], o 51 .mv [t 50], g 51 false 52 (.ld (some 1)) [t 7], g 51 false 53 (.ld (some 1)) [t 4], g 51 false 54 (.call 10) [t 52, t 53], g 51 false 55 .not [t 54], o 56 .pick [t 51, b true, t 55], o 57 .mv [t 56], g 57 false 58 .mv [t 8], g 57 false 59 .mv [t 5], g 57 false 60 (.beq true) [t 58, t 59], o 61 .pick [t 57, b true, t 60]])
              (.cond (t 61) (sq (r [2] [o 2 .mv [b false]])
                (.ret)) (.skip)))
             (sq (r [1, 4, 5, 7, 10] [o 10 .mv [i 1]])
              (sq (r [1, 4, 5, 7, 10] [o 62 (.ld (some 1)) [t 7], o 63 .mv [t 10], o 64 (.call 11) [t 62, t 63], o 10 .mv [t 64]])
               (sq (r [1, 4, 5, 7, 10, 11] [o 11 .mv [i 1]])
                (sq (r [1, 4, 5, 7, 10, 11] [o 65 (.ld (some 1)) [t 7], o 66 .mv [t 11], o 67 (.call 12) [t 65, t 66], o 11 .mv [t 67]])
                 (sq (sq (r [1, 4, 5, 7, 10, 11, 69] [o 68 .mv [t 11], o 69 (.bin .lss) [t 68, i 0]])
                   (.cond (t 69) (sq (r [2] [o 2 .mv [b false]])
                     (.ret)) (.skip)))
                  (sq (sq (r [1, 4, 5, 7, 10, 72] [o 70 .mv [t 11], o 71 .mv [t 10], o 72 (.bin .neq) [t 70, t 71]])
                    (.cond (t 72) (sq (r [2] [o 2 .mv [b false]])
                      (.ret)) (.skip)))
                   (sq (r [4, 5, 7, 10, 12, 13] [o 74 (.ld (some 1)) [t 1], o 75 (.call 8) [t 74], o 76 (.call 9) [t 75], o 73 .mv [t 76], o 77 (.ext 0) [t 73], o 78 (.ext 1) [t 73], o 12 (.alloc [.nil]) [], e (.st 1) [t 12, t 77], o 13 .mv [t 78]])
                    (sq (sq (r [7, 10, 87] [o 79 (.ld (some 1)) [t 12], o 80 (.ld (some 1)) [t 4], o 81 (.call 10) [t 79, t 80], o 82 .not [t 81], o 83 .mv [t 82], g 83 false 84 .mv [t 13], g 83 false 85 .mv [t 5], g 83 false 86 (.beq true) [t 84, t 85], o 87 .pick [t 83, b true, t 86]])
                      (.cond (t 87) (sq (r [2] [o 2 .mv [b false]])
                        (.ret)) (.skip)))
                     (sq (r [7, 10, 11] [o 11 .mv [i 1]])
                      (sq (r [10, 11] [o 88 (.ld (some 1)) [t 7], o 89 .mv [t 11], o 90 (.call 12) [t 88, t 89], o 11 .mv [t 90]])
                       (sq (sq (r [10, 11, 92] [o 91 .mv [t 11], o 92 (.bin .lss) [t 91, i 0]])
                         (.cond (t 92) (sq (r [2] [o 2 .mv [b false]])
                           (.ret)) (.skip)))
                        (sq (sq (r [95] [o 93 .mv [t 11], o 94 .mv [t 10], o 95 (.bin .neq) [t 93, t 94]])
                          (.cond (t 95) (sq (r [2] [o 2 .mv [b false]])
                            (.ret)) (.skip)))
                         (sq (r [2] [o 2 .mv [b true]])
                          (.ret)))))))))))))))))))))))))
def r_laws_FnExactRecover : List RV := [.tmp 2]
def laws_FnExactRecover_f (L_laws_szDisk : (List TFile) → Int → Option (Int)) (L_laws_toDisk : (List TFile) → Option (List TFile)) (L_spec_Recover : (List TFile) → Option (List TFile × Bool)) (L_impl_Recover : (List TFile) → Option (List TFile × Bool)) (L_laws_eqDisk : (List TFile) → (List TFile) → Option (Bool)) (L_laws_markDisk : (List TFile) → Int → Option (Int × List TFile)) (L_laws_heldDisk : (List TFile) → Int → Option (Int)) (N : Nat) (a0_Files : List TFile) : Option (Bool) :=
  (L_laws_szDisk a0_Files 1048576).bind fun y0 =>
  if y0 < 0 then some true
  else ((L_laws_toDisk a0_Files).bind fun y1 =>
   (L_spec_Recover y1).bind fun y2 =>
   (L_laws_toDisk a0_Files).bind fun y3 =>
   (L_impl_Recover y3).bind fun y4 =>
   (L_laws_eqDisk y4.fst y2.fst).bind fun y5 =>
   if y5 = false then some false
   else (if (y4.snd == y2.snd) = false then some false
    else ((L_laws_toDisk a0_Files).bind fun y6 =>
     (L_laws_eqDisk y3 y6).bind fun y7 =>
     if y7 = false then some false
     else ((L_laws_markDisk y3 1).bind fun y8 =>
      if y8.fst < 0 then some false
      else ((L_laws_eqDisk y4.fst y2.fst).bind fun y9 =>
       if y9 = false then some false
       else (if (y4.snd == y2.snd) = false then some false
        else ((L_laws_markDisk y4.fst 1).bind fun y10 =>
         (L_laws_heldDisk y10.snd 1).bind fun y11 =>
         if y11 < 0 then some false
         else (if y11 = y10.fst then ((L_laws_toDisk a0_Files).bind fun y12 =>
           (L_impl_Recover y12).bind fun y13 =>
           (L_laws_eqDisk y13.fst y2.fst).bind fun y14 =>
           if y14 = false then some false
           else (if (y13.snd == y2.snd) = false then some false
            else ((L_laws_heldDisk y10.snd 1).bind fun y15 =>
             if y15 < 0 then some false
             else (if y15 = y10.fst then some true
              else some false))))
          else some false))))))))
theorem laws_FnExactRecover_g (E : En) (hy : Hy E [] [] [] r_laws_FnExactRecover none (fun y => nocap y) flatIds) (L_laws_szDisk : (List TFile) → Int → Option (Int)) (h_laws_szDisk : H_laws_szDisk E L_laws_szDisk) (L_laws_toDisk : (List TFile) → Option (List TFile)) (h_laws_toDisk : H_laws_toDisk E L_laws_toDisk) (L_spec_Recover : (List TFile) → Option (List TFile × Bool)) (h_spec_Recover : H_spec_Recover E L_spec_Recover) (L_impl_Recover : (List TFile) → Option (List TFile × Bool)) (h_impl_Recover : H_impl_Recover E L_impl_Recover) (L_laws_eqDisk : (List TFile) → (List TFile) → Option (Bool)) (h_laws_eqDisk : H_laws_eqDisk E L_laws_eqDisk) (L_laws_markDisk : (List TFile) → Int → Option (Int × List TFile)) (h_laws_markDisk : H_laws_markDisk E L_laws_markDisk) (L_laws_heldDisk : (List TFile) → Int → Option (Int)) (h_laws_heldDisk : H_laws_heldDisk E L_laws_heldDisk) (a0_Files : List TFile) : G E c_laws_FnExactRecover [] ⟨slotsOf [(0, .agg [.d (lstT cFile a0_Files)])], obsOf []⟩ = (laws_FnExactRecover_f L_laws_szDisk L_laws_toDisk L_spec_Recover L_impl_Recover L_laws_eqDisk L_laws_markDisk L_laws_heldDisk E.n a0_Files).bind fun r => some (.ret (.d (.bool r)) []) := by
  simp (config := {maxSteps := 2000000}) only [↓rPre, rPost, rCan, rObj, rI, rS, rB, r8, rLI, rEtc, hy.p, hy.l, hy.k, hy.r, hy.d, hy.w, hy.f, flatIds, oid, r_laws_FnExactRecover, ↓G_unf _ _ c_laws_FnExactRecover.eq_1, h_laws_szDisk.2, h_laws_szDisk.1, h_laws_toDisk.2, h_laws_toDisk.1, h_spec_Recover.2, h_spec_Recover.1, h_impl_Recover.2, h_impl_Recover.1, h_laws_eqDisk.2, h_laws_eqDisk.1, h_laws_markDisk.2, h_laws_markDisk.1, h_laws_heldDisk.2, h_laws_heldDisk.1, bind_ite, laws_FnExactRecover_f, rFile, rRow78, rRow3, rRow53, rRow35, rArray, rRow39, rRow5, rRow9, rMap97, rLog, ↓reduceIte, Nat.reduceMul, Nat.reduceAdd, Nat.reduceSub, Nat.reduceEqDiff, Nat.reduceBEq, Nat.reduceLeDiff, Nat.reduceLT, reduceCtorEq, Int.reduceAdd, Int.reduceSub, Int.reduceToNat, Int.reduceNeg, Int.reduceEq, Int.reduceLT, Int.reduceLE]
def H_laws_FnExactRecover (E : En) (L : (List TFile) → Option (Bool)) : Prop := E.Γ.mu 3 = false ∧ (∀ (a0_Files : List TFile), E.Γ 3 [.agg [.d (lstT cFile a0_Files)]] = (L a0_Files).bind fun r => some (.ret (.d (.bool r)) []))
end Go.Vm
