/- The functions under laws_FnExactDiskOk: the abstract machine's codes, and what they come to in plain terms. Printed by a program of this session. -/
import Derived.Test.YtejgcpankckdkaaVmKind
set_option linter.all false
set_option maxRecDepth 100000
set_option maxHeartbeats 4000000
namespace Go.Vm
structure TFile where
  Name : List UInt8
  Data : List UInt8
  deriving DecidableEq
def encFile (x : TFile) : List D := [sD x.Name, sD x.Data]
def decFile : List D → Option TFile
  | [.str a0, .str a1] => some ⟨a0.data.toList, a1.data.toList⟩
  | _ => none
theorem decFile_ok : ∀ xs x, decFile xs = some x → xs = encFile x := by
  intro xs x h
  unfold decFile at h
  split at h
  · cases h; rfl
  · cases h
def cFile : Enc TFile := ⟨2, encFile, decFile, fun _ => rfl, by decide, decFile_ok, fun _ => rfl⟩
theorem cFile_enc (x : TFile) : cFile.enc x = [sD x.Name, sD x.Data] := rfl
theorem cFile_dec (x_Name : List UInt8) (x_Data : List UInt8) : cFile.dec [sD x_Name, sD x_Data] = some ⟨x_Name, x_Data⟩ := cFile.edc ⟨x_Name, x_Data⟩
def rFile := And.intro (rKind cFile 2 rfl) <| And.intro (cFile_enc) <| And.intro (cFile_dec) <| (fun l m => k_get cFile 2 l m 1 (by decide) rfl)
structure TArray where
  Shape : List Int
  Data : List Int
  deriving DecidableEq
def encArray (x : TArray) : List D := [lstT cI x.Shape, lstT cI x.Data]
def decArray : List D → Option TArray
  | [d0, d1] => (decL cI d0).bind fun a0 => (decL cI d1).bind fun a1 => some ⟨a0, a1⟩
  | _ => none
theorem decArray_ok : ∀ xs x, decArray xs = some x → xs = encArray x := by
  intro xs x h
  unfold decArray at h
  split at h
  · have hh := Option.bind_eq_some_iff.mp h; clear h; obtain ⟨a0, h0, h⟩ := hh; have e0 := decL_ok h0; clear h0; subst e0; have hh := Option.bind_eq_some_iff.mp h; clear h; obtain ⟨a1, h1, h⟩ := hh; have e1 := decL_ok h1; clear h1; subst e1; cases h; rfl
  · cases h
def cArray : Enc TArray := ⟨2, encArray, decArray, fun _ => rfl, by decide, decArray_ok, fun x => by simp only [encArray, decArray, decL_T, Option.bind_some]⟩
theorem cArray_enc (x : TArray) : cArray.enc x = [lstT cI x.Shape, lstT cI x.Data] := rfl
theorem cArray_dec (x_Shape : List Int) (x_Data : List Int) : cArray.dec [lstT cI x_Shape, lstT cI x_Data] = some ⟨x_Shape, x_Data⟩ := cArray.edc ⟨x_Shape, x_Data⟩
def rArray := And.intro (rKind cArray 2 rfl) <| And.intro (cArray_enc) <| And.intro (cArray_dec) <| (fun l m => k_get cArray 2 l m 1 (by decide) rfl)
def rRow3 := rRow cI 3 1 rfl [iD 0] 0 rfl
def rRow104 := rRow cFile 104 2 rfl [sD [], sD []] ⟨[], []⟩ rfl
def rRow62 := rRow cFile 62 2 rfl [sD [], sD []] ⟨[], []⟩ rfl
def rRow27 := rRow cArray 27 2 rfl [.lst 0 [], .lst 0 []] ⟨[], []⟩ rfl
-- loop.example/s02135/laws.szFile
def c_laws_szFile : Cd :=
  sq (r [1, 2] [o 2 .box [t 0], o 4 .mv [i 0]])
  (sq (r [1, 2] [o 5 .mv [t 1], o 6 (.fa 0) [t 2], o 7 (.ld none) [t 6], o 8 (.len true) [t 7], o 9 (.bin .sub) [t 5, t 8], o 1 .mv [t 9]])
   (sq (sq (r [1, 2, 11] [o 10 .mv [t 1], o 11 (.bin .lss) [t 10, i 0]])
     (.cond (t 11) (sq (r [4] [o 4 .mv [i (-1)]])
       (.ret)) (.skip)))
    (sq (r [1] [o 12 .mv [t 1], o 13 (.fa 1) [t 2], o 14 (.ld none) [t 13], o 15 (.len true) [t 14], o 16 (.bin .sub) [t 12, t 15], o 1 .mv [t 16]])
     (sq (sq (r [1, 18] [o 17 .mv [t 1], o 18 (.bin .lss) [t 17, i 0]])
       (.cond (t 18) (sq (r [4] [o 4 .mv [i (-1)]])
         (.ret)) (.skip)))
      (sq (r [4] [o 19 .mv [t 1], o 4 .mv [t 19]])
       (.ret))))))
def r_laws_szFile : List RV := [.tmp 4]
def laws_szFile_f (N : Nat) (a0_Name : List UInt8) (a0_Data : List UInt8) (a1 : Int) : Option (Int) :=
  if w64 (a1 - (↑(List.length a0_Name) : Int)) < 0 then some (-1)
  else (if w64 (w64 (a1 - (↑(List.length a0_Name) : Int)) - (↑(List.length a0_Data) : Int)) < 0 then some (-1)
   else some (w64 (w64 (a1 - (↑(List.length a0_Name) : Int)) - (↑(List.length a0_Data) : Int))))
theorem laws_szFile_g (E : En) (hp : E.ps = []) (hr : E.rs = r_laws_szFile) (hw : ∀ y, E.wk y = some (nocap y)) (a0_Name : List UInt8) (a0_Data : List UInt8) (a1 : Int) : G E c_laws_szFile [] ⟨slotsOf [(0, .agg [.d (sD a0_Name), .d (sD a0_Data)]), (1, .d (.int .i64 a1))], obsOf []⟩ = (laws_szFile_f E.n a0_Name a0_Data a1).bind fun r => some (.ret (.d (.int .i64 r)) []) := by
  simp (config := {maxSteps := 2000000}) only [↓rPre, rPost, rCan, rObj, rI, rS, rB, rLI, rEtc, hp, hr, hw, oid, r_laws_szFile, ↓G_unf _ _ c_laws_szFile.eq_1, bind_ite, laws_szFile_f, rRow3, rFile, rRow104, rRow62, rArray, rRow27, ↓reduceIte, Nat.reduceMul, Nat.reduceAdd, Nat.reduceSub, Nat.reduceEqDiff, Nat.reduceBEq, Nat.reduceLeDiff, Nat.zero_add, Nat.add_zero, Bool.not_true, Bool.not_false, Bool.and_true, Bool.true_and, Bool.and_false, Bool.false_and, Bool.and_self, Bool.or_false, Bool.false_or, Bool.or_true, Bool.true_or, Bool.or_self, decide_eq_true_eq, Bool.not_eq_true', Bool.not_eq_eq_eq_not, decide_eq_false_iff_not, ite_not, List.nil_append, List.append_nil, and_self, and_true, true_and, Bool.false_eq_true, decide_true, decide_false, List.cons_append, reduceCtorEq, Int.reduceNeg, Int.reduceEq, Int.reduceLT, Int.reduceLE, not_true_eq_false, not_false_eq_true, eq_self]
-- loop.example/s02135/laws.szFileS
def b0_laws_szFileS : Cd :=
  sq (sq (r [0, 1, 5, 15] [o 12 .mv [t 5], o 13 .mv [t 0], o 14 (.len false) [t 13], o 15 (.bin .lss) [t 12, t 14]])
   (.cond (t 15) (.skip) (.exit 0)))
  (sq (.block 1 (sq (r [0, 1, 5] [o 18 .mv [t 0], o 19 .mv [t 5], o 20 (.ia 2) [t 18, t 19], o 21 (.ld (some 2)) [t 20], o 22 .mv [t 1], o 23 (.call 119) [t 21, t 22], o 1 .mv [t 23]])
     (sq (r [0, 1, 5, 25] [o 24 .mv [t 1], o 25 (.bin .lss) [t 24, i 0]])
      (.cond (t 25) (sq (r [4] [o 4 .mv [i (-1)]])
        (.ret)) (.skip)))))
   (r [0, 1, 5] [o 16 .mv [t 5], o 17 (.bin .add) [t 16, i 1], o 5 .mv [t 17]]))
def k1_laws_szFileS : Cd :=
  sq (r [4] [o 26 .mv [t 1], o 4 .mv [t 26]])
  (.ret)
def c_laws_szFileS : Cd :=
  sq (r [0, 1] [o 4 .mv [i 0]])
  (sq (r [0, 1] [o 6 .mv [t 1], o 7 .mv [t 0], o 8 (.len false) [t 7], o 9 (.bin .sub) [t 6, t 8], o 1 .mv [t 9]])
   (sq (sq (r [0, 1, 11] [o 10 .mv [t 1], o 11 (.bin .lss) [t 10, i 0]])
     (.cond (t 11) (sq (r [4] [o 4 .mv [i (-1)]])
       (.ret)) (.skip)))
    (sq (sq (r [0, 1, 5] [o 5 .mv [i 0]])
      (.block 0 (.loop [0, 1, 5] b0_laws_szFileS))) k1_laws_szFileS)))
def r_laws_szFileS : List RV := [.tmp 4]
def laws_szFileS_l0 (L_laws_szFile : (List UInt8) → (List UInt8) → Int → Option (Int)) : Nat → (List TFile) → Int → Int → Option (Int)
  | 0, _, _, _ => none
  | m0 + 1, x0, x1, x5 =>
    if x5 < (↑(List.length x0) : Int) then ((idx x0 x5).bind fun y0 =>
     (L_laws_szFile y0.Name y0.Data x1).bind fun y1 =>
     if y1 < 0 then some (-1)
     else laws_szFileS_l0 L_laws_szFile m0 x0 y1 (w64 (x5 + 1)))
    else some x1
def laws_szFileS_f (L_laws_szFile : (List UInt8) → (List UInt8) → Int → Option (Int)) (N : Nat) (a0 : List TFile) (a1 : Int) : Option (Int) :=
  if w64 (a1 - (↑(List.length a0) : Int)) < 0 then some (-1)
  else laws_szFileS_l0 L_laws_szFile N a0 (w64 (a1 - (↑(List.length a0) : Int))) 0
theorem laws_szFileS_l0_eq (E : En) (hp : E.ps = []) (hr : E.rs = r_laws_szFileS) (hw : ∀ y, E.wk y = some (nocap y)) (L_laws_szFile : (List UInt8) → (List UInt8) → Int → Option (Int)) (h_laws_szFile : ∀ (a0_Name : List UInt8) (a0_Data : List UInt8) (a1 : Int), E.Γ 119 [.agg [.d (sD a0_Name), .d (sD a0_Data)], .d (.int .i64 a1)] = (L_laws_szFile a0_Name a0_Data a1).bind fun r => some (.ret (.d (.int .i64 r)) [])) : ∀ (m0 : Nat) (x0 : List TFile) (x1 : Int) (x5 : Int), gH E [0, 1, 5] b0_laws_szFileS [KJ.b 0, KJ.c k1_laws_szFileS] m0 ⟨slotsOf [(0, .d (lstT (cFile) x0)), (1, .d (.int .i64 x1)), (5, .d (.int .i64 x5))], obsOf []⟩ = (laws_szFileS_l0 L_laws_szFile m0 x0 x1 x5).bind fun r => some (.ret (.d (.int .i64 r)) []) := by
  intro m0
  induction m0 with
  | zero => intros; rfl
  | succ m0 ih =>
    intros
    simp (config := {maxSteps := 2000000}) only [↓rPre, rPost, rCan, rObj, rI, rS, rB, rLI, rEtc, hp, hr, hw, oid, r_laws_szFileS, ↓G_unf _ _ b0_laws_szFileS.eq_1, ↓G_unf _ _ k1_laws_szFileS.eq_1, ↓G_unf _ _ c_laws_szFileS.eq_1, h_laws_szFile, gH_succ, ih, bind_ite, laws_szFileS_l0, rRow3, rFile, rRow104, rRow62, rArray, rRow27, ↓reduceIte, Nat.reduceMul, Nat.reduceAdd, Nat.reduceSub, Nat.reduceEqDiff, Nat.reduceBEq, Nat.reduceLeDiff, Nat.zero_add, Nat.add_zero, Bool.not_true, Bool.not_false, Bool.and_true, Bool.true_and, Bool.and_false, Bool.false_and, Bool.and_self, Bool.or_false, Bool.false_or, Bool.or_true, Bool.true_or, Bool.or_self, decide_eq_true_eq, Bool.not_eq_true', Bool.not_eq_eq_eq_not, decide_eq_false_iff_not, ite_not, List.nil_append, List.append_nil, and_self, and_true, true_and, Bool.false_eq_true, decide_true, decide_false, List.cons_append, reduceCtorEq, Int.reduceNeg, Int.reduceEq, Int.reduceLT, Int.reduceLE, not_true_eq_false, not_false_eq_true, eq_self]
theorem laws_szFileS_g (E : En) (hp : E.ps = []) (hr : E.rs = r_laws_szFileS) (hw : ∀ y, E.wk y = some (nocap y)) (L_laws_szFile : (List UInt8) → (List UInt8) → Int → Option (Int)) (h_laws_szFile : ∀ (a0_Name : List UInt8) (a0_Data : List UInt8) (a1 : Int), E.Γ 119 [.agg [.d (sD a0_Name), .d (sD a0_Data)], .d (.int .i64 a1)] = (L_laws_szFile a0_Name a0_Data a1).bind fun r => some (.ret (.d (.int .i64 r)) [])) (a0 : List TFile) (a1 : Int) : G E c_laws_szFileS [] ⟨slotsOf [(0, .d (lstT cFile a0)), (1, .d (.int .i64 a1))], obsOf []⟩ = (laws_szFileS_f L_laws_szFile E.n a0 a1).bind fun r => some (.ret (.d (.int .i64 r)) []) := by
  simp (config := {maxSteps := 2000000}) only [↓rPre, rPost, rCan, rObj, rI, rS, rB, rLI, rEtc, hp, hr, hw, oid, r_laws_szFileS, ↓G_unf _ _ b0_laws_szFileS.eq_1, ↓G_unf _ _ k1_laws_szFileS.eq_1, ↓G_unf _ _ c_laws_szFileS.eq_1, h_laws_szFile, bind_ite, laws_szFileS_f, laws_szFileS_l0_eq E hp hr hw L_laws_szFile h_laws_szFile, rRow3, rFile, rRow104, rRow62, rArray, rRow27, ↓reduceIte, Nat.reduceMul, Nat.reduceAdd, Nat.reduceSub, Nat.reduceEqDiff, Nat.reduceBEq, Nat.reduceLeDiff, Nat.zero_add, Nat.add_zero, Bool.not_true, Bool.not_false, Bool.and_true, Bool.true_and, Bool.and_false, Bool.false_and, Bool.and_self, Bool.or_false, Bool.false_or, Bool.or_true, Bool.true_or, Bool.or_self, decide_eq_true_eq, Bool.not_eq_true', Bool.not_eq_eq_eq_not, decide_eq_false_iff_not, ite_not, List.nil_append, List.append_nil, and_self, and_true, true_and, Bool.false_eq_true, decide_true, decide_false, List.cons_append, reduceCtorEq, Int.reduceNeg, Int.reduceEq, Int.reduceLT, Int.reduceLE, not_true_eq_false, not_false_eq_true, eq_self]
-- loop.example/s02135/laws.szDisk
def c_laws_szDisk : Cd :=
  sq (r [1, 2] [o 2 .box [t 0], o 4 .mv [i 0]])
  (sq (r [1] [o 5 (.fa 0) [t 2], o 6 (.ld none) [t 5], o 7 .mv [t 1], o 8 (.call 52) [t 6, t 7], o 1 .mv [t 8]])
   (sq (sq (r [1, 10] [o 9 .mv [t 1], o 10 (.bin .lss) [t 9, i 0]])
     (.cond (t 10) (sq (r [4] [o 4 .mv [i (-1)]])
       (.ret)) (.skip)))
    (sq (r [4] [o 11 .mv [t 1], o 4 .mv [t 11]])
     (.ret))))
def r_laws_szDisk : List RV := [.tmp 4]
def laws_szDisk_f (L_laws_szFileS : (List TFile) → Int → Option (Int)) (N : Nat) (a0_Files : List TFile) (a1 : Int) : Option (Int) :=
  (L_laws_szFileS a0_Files a1).bind fun y0 =>
  if y0 < 0 then some (-1)
  else some y0
theorem laws_szDisk_g (E : En) (hp : E.ps = []) (hr : E.rs = r_laws_szDisk) (hw : ∀ y, E.wk y = some (nocap y)) (L_laws_szFileS : (List TFile) → Int → Option (Int)) (h_laws_szFileS : ∀ (a0 : List TFile) (a1 : Int), E.Γ 52 [.d (lstT cFile a0), .d (.int .i64 a1)] = (L_laws_szFileS a0 a1).bind fun r => some (.ret (.d (.int .i64 r)) [])) (a0_Files : List TFile) (a1 : Int) : G E c_laws_szDisk [] ⟨slotsOf [(0, .agg [.d (lstT cFile a0_Files)]), (1, .d (.int .i64 a1))], obsOf []⟩ = (laws_szDisk_f L_laws_szFileS E.n a0_Files a1).bind fun r => some (.ret (.d (.int .i64 r)) []) := by
  simp (config := {maxSteps := 2000000}) only [↓rPre, rPost, rCan, rObj, rI, rS, rB, rLI, rEtc, hp, hr, hw, oid, r_laws_szDisk, ↓G_unf _ _ c_laws_szDisk.eq_1, h_laws_szFileS, bind_ite, laws_szDisk_f, rRow3, rFile, rRow104, rRow62, rArray, rRow27, ↓reduceIte, Nat.reduceMul, Nat.reduceAdd, Nat.reduceSub, Nat.reduceEqDiff, Nat.reduceBEq, Nat.reduceLeDiff, Nat.zero_add, Nat.add_zero, Bool.not_true, Bool.not_false, Bool.and_true, Bool.true_and, Bool.and_false, Bool.false_and, Bool.and_self, Bool.or_false, Bool.false_or, Bool.or_true, Bool.true_or, Bool.or_self, decide_eq_true_eq, Bool.not_eq_true', Bool.not_eq_eq_eq_not, decide_eq_false_iff_not, ite_not, List.nil_append, List.append_nil, and_self, and_true, true_and, Bool.false_eq_true, decide_true, decide_false, List.cons_append, reduceCtorEq, Int.reduceNeg, Int.reduceEq, Int.reduceLT, Int.reduceLE, not_true_eq_false, not_false_eq_true, eq_self]
-- loop.example/s02135/laws.toFile
def c_laws_toFile : Cd :=
  sq (r [1, 2] [o 1 .box [t 0], o 2 (.alloc [(.d (sD [])), (.d (sD []))]) []])
  (sq (r [1, 2, 3] [o 3 (.alloc [(.d (sD [])), (.d (sD []))]) []])
   (sq (r [1, 2, 3] [o 4 (.fa 0) [t 1], o 5 (.ld none) [t 4], o 6 (.fa 0) [t 3], e (.st 1) [t 6, t 5]])
    (sq (r [2, 3] [o 7 (.fa 1) [t 1], o 8 (.ld none) [t 7], o 9 (.fa 1) [t 3], e (.st 1) [t 9, t 8]])
     (sq (r [2] [o 10 (.ld (some 2)) [t 3], e (.st 2) [t 2, t 10]])
      (.ret)))))
def r_laws_toFile : List RV := [.cell 2 (some 2)]
def laws_toFile_f (N : Nat) (a0_Name : List UInt8) (a0_Data : List UInt8) : Option (List UInt8 × List UInt8) :=
  some ((a0_Name, a0_Data))
theorem laws_toFile_g (E : En) (hp : E.ps = []) (hr : E.rs = r_laws_toFile) (hw : ∀ y, E.wk y = some (nocap y)) (a0_Name : List UInt8) (a0_Data : List UInt8) : G E c_laws_toFile [] ⟨slotsOf [(0, .agg [.d (sD a0_Name), .d (sD a0_Data)])], obsOf []⟩ = (laws_toFile_f E.n a0_Name a0_Data).bind fun r => some (.ret (.agg [.d (sD r.1), .d (sD r.2)]) []) := by
  simp (config := {maxSteps := 2000000}) only [↓rPre, rPost, rCan, rObj, rI, rS, rB, rLI, rEtc, hp, hr, hw, oid, r_laws_toFile, ↓G_unf _ _ c_laws_toFile.eq_1, bind_ite, laws_toFile_f, rRow3, rFile, rRow104, rRow62, rArray, rRow27, ↓reduceIte, Nat.reduceMul, Nat.reduceAdd, Nat.reduceSub, Nat.reduceEqDiff, Nat.reduceBEq, Nat.reduceLeDiff, Nat.zero_add, Nat.add_zero, Bool.not_true, Bool.not_false, Bool.and_true, Bool.true_and, Bool.and_false, Bool.false_and, Bool.and_self, Bool.or_false, Bool.false_or, Bool.or_true, Bool.true_or, Bool.or_self, decide_eq_true_eq, Bool.not_eq_true', Bool.not_eq_eq_eq_not, decide_eq_false_iff_not, ite_not, List.nil_append, List.append_nil, and_self, and_true, true_and, Bool.false_eq_true, decide_true, decide_false, List.cons_append, reduceCtorEq, Int.reduceNeg, Int.reduceEq, Int.reduceLT, Int.reduceLE, not_true_eq_false, not_false_eq_true, eq_self]
-- loop.example/s02135/laws.toFileS
def b0_laws_toFileS : Cd :=
  sq (sq (r [0, 3, 4, 11] [o 8 .mv [t 4], o 9 .mv [t 0], o 10 (.len false) [t 9], o 11 (.bin .lss) [t 8, t 10]])
   (.cond (t 11) (.skip) (.exit 0)))
  (sq (.block 1 (r [0, 3, 4] [o 14 .mv [t 3], o 15 .mv [t 4], o 16 .mv [t 0], o 17 .mv [t 4], o 18 (.ia 2) [t 16, t 17], o 19 (.ld (some 2)) [t 18], o 20 (.call 122) [t 19], o 21 (.ia 2) [t 14, t 15], e (.st 2) [t 21, t 20]]))
   (r [0, 3, 4] [o 12 .mv [t 4], o 13 (.bin .add) [t 12, i 1], o 4 .mv [t 13]]))
def k1_laws_toFileS : Cd :=
  sq (r [2] [o 22 .mv [t 3], o 2 .mv [t 22]])
  (.ret)
def c_laws_toFileS : Cd :=
  sq (r [0] [o 2 .mv [n]])
  (sq (r [0, 3] [o 5 .mv [t 0], o 6 (.len false) [t 5], o 7 (.mkS 62 2 32 [(sD []), (sD [])]) [t 6, t 6], o 3 .mv [t 7]])
   (sq (sq (r [0, 3, 4] [o 4 .mv [i 0]])
     (.block 0 (.loop [0, 3, 4] b0_laws_toFileS))) k1_laws_toFileS))
def r_laws_toFileS : List RV := [.tmp 2]
def laws_toFileS_l0 (L_laws_toFile : (List UInt8) → (List UInt8) → Option (List UInt8 × List UInt8)) : Nat → (List TFile) → Int → (List TFile) → Option (List TFile)
  | 0, _, _, _ => none
  | m0 + 1, x0, x4, o192 =>
    if x4 < (↑(List.length x0) : Int) then ((idx x0 x4).bind fun y0 =>
     (L_laws_toFile y0.Name y0.Data).bind fun y1 =>
     if 0 ≤ x4 ∧ x4 < (↑(List.length o192) : Int) then ((setN o192 (Int.toNat x4) { Name := y1.fst, Data := y1.snd }).bind fun y2 =>
      laws_toFileS_l0 L_laws_toFile m0 x0 (w64 (x4 + 1)) y2)
     else none)
    else some o192
def laws_toFileS_f (L_laws_toFile : (List UInt8) → (List UInt8) → Option (List UInt8 × List UInt8)) (N : Nat) (a0 : List TFile) : Option (List TFile) :=
  if mkOk 32 (↑(List.length a0) : Int) (↑(List.length a0) : Int) then (if 0 < 2 then laws_toFileS_l0 L_laws_toFile N a0 0 (List.replicate (List.length a0) { Name := [], Data := [] })
   else none)
  else none
theorem laws_toFileS_l0_eq (E : En) (hp : E.ps = []) (hr : E.rs = r_laws_toFileS) (hw : ∀ y, E.wk y = some (nocap y)) (L_laws_toFile : (List UInt8) → (List UInt8) → Option (List UInt8 × List UInt8)) (h_laws_toFile : ∀ (a0_Name : List UInt8) (a0_Data : List UInt8), E.Γ 122 [.agg [.d (sD a0_Name), .d (sD a0_Data)]] = (L_laws_toFile a0_Name a0_Data).bind fun r => some (.ret (.agg [.d (sD r.1), .d (sD r.2)]) [])) : ∀ (m0 : Nat) (x0 : List TFile) (x4 : Int) (o192 : List TFile), gH E [0, 3, 4] b0_laws_toFileS [KJ.b 0, KJ.c k1_laws_toFileS] m0 ⟨slotsOf [(0, .d (lstT (cFile) x0)), (3, A.row 192 1), (4, .d (.int .i64 x4))], obsOf [(192, ⟨1, rowT (cFile) 62 none o192, false⟩)]⟩ = (laws_toFileS_l0 L_laws_toFile m0 x0 x4 o192).bind fun r => some (.ret (ownT (cFile) 62 none false r) []) := by
  intro m0
  induction m0 with
  | zero => intros; rfl
  | succ m0 ih =>
    intros
    simp (config := {maxSteps := 2000000}) only [↓rPre, rPost, rCan, rObj, rI, rS, rB, rLI, rEtc, hp, hr, hw, oid, r_laws_toFileS, ↓G_unf _ _ b0_laws_toFileS.eq_1, ↓G_unf _ _ k1_laws_toFileS.eq_1, ↓G_unf _ _ c_laws_toFileS.eq_1, h_laws_toFile, gH_succ, ih, bind_ite, laws_toFileS_l0, rRow3, rFile, rRow104, rRow62, rArray, rRow27, ↓reduceIte, Nat.reduceMul, Nat.reduceAdd, Nat.reduceSub, Nat.reduceEqDiff, Nat.reduceBEq, Nat.reduceLeDiff, Nat.zero_add, Nat.add_zero, Bool.not_true, Bool.not_false, Bool.and_true, Bool.true_and, Bool.and_false, Bool.false_and, Bool.and_self, Bool.or_false, Bool.false_or, Bool.or_true, Bool.true_or, Bool.or_self, decide_eq_true_eq, Bool.not_eq_true', Bool.not_eq_eq_eq_not, decide_eq_false_iff_not, ite_not, List.nil_append, List.append_nil, and_self, and_true, true_and, Bool.false_eq_true, decide_true, decide_false, List.cons_append, reduceCtorEq, Int.reduceNeg, Int.reduceEq, Int.reduceLT, Int.reduceLE, not_true_eq_false, not_false_eq_true, eq_self]
theorem laws_toFileS_g (E : En) (hp : E.ps = []) (hr : E.rs = r_laws_toFileS) (hw : ∀ y, E.wk y = some (nocap y)) (L_laws_toFile : (List UInt8) → (List UInt8) → Option (List UInt8 × List UInt8)) (h_laws_toFile : ∀ (a0_Name : List UInt8) (a0_Data : List UInt8), E.Γ 122 [.agg [.d (sD a0_Name), .d (sD a0_Data)]] = (L_laws_toFile a0_Name a0_Data).bind fun r => some (.ret (.agg [.d (sD r.1), .d (sD r.2)]) [])) (a0 : List TFile) : G E c_laws_toFileS [] ⟨slotsOf [(0, .d (lstT cFile a0))], obsOf []⟩ = (laws_toFileS_f L_laws_toFile E.n a0).bind fun r => some (.ret (ownT (cFile) 62 none false r) []) := by
  simp (config := {maxSteps := 2000000}) only [↓rPre, rPost, rCan, rObj, rI, rS, rB, rLI, rEtc, hp, hr, hw, oid, r_laws_toFileS, ↓G_unf _ _ b0_laws_toFileS.eq_1, ↓G_unf _ _ k1_laws_toFileS.eq_1, ↓G_unf _ _ c_laws_toFileS.eq_1, h_laws_toFile, bind_ite, laws_toFileS_f, laws_toFileS_l0_eq E hp hr hw L_laws_toFile h_laws_toFile, rRow3, rFile, rRow104, rRow62, rArray, rRow27, ↓reduceIte, Nat.reduceMul, Nat.reduceAdd, Nat.reduceSub, Nat.reduceEqDiff, Nat.reduceBEq, Nat.reduceLeDiff, Nat.zero_add, Nat.add_zero, Bool.not_true, Bool.not_false, Bool.and_true, Bool.true_and, Bool.and_false, Bool.false_and, Bool.and_self, Bool.or_false, Bool.false_or, Bool.or_true, Bool.true_or, Bool.or_self, decide_eq_true_eq, Bool.not_eq_true', Bool.not_eq_eq_eq_not, decide_eq_false_iff_not, ite_not, List.nil_append, List.append_nil, and_self, and_true, true_and, Bool.false_eq_true, decide_true, decide_false, List.cons_append, reduceCtorEq, Int.reduceNeg, Int.reduceEq, Int.reduceLT, Int.reduceLE, not_true_eq_false, not_false_eq_true, eq_self]
-- loop.example/s02135/laws.toDisk
def c_laws_toDisk : Cd :=
  sq (r [1, 2] [o 1 .box [t 0], o 2 (.alloc [.nil]) []])
  (sq (r [1, 2, 3] [o 3 (.alloc [.nil]) []])
   (sq (r [2, 3] [o 4 (.fa 0) [t 1], o 5 (.ld none) [t 4], o 6 (.call 54) [t 5], o 7 (.fa 0) [t 3], e (.st 1) [t 7, t 6]])
    (sq (r [2] [o 8 (.ld (some 1)) [t 3], e (.st 1) [t 2, t 8]])
     (.ret))))
def r_laws_toDisk : List RV := [.cell 2 (some 1)]
def laws_toDisk_f (L_laws_toFileS : (List TFile) → Option (List TFile)) (N : Nat) (a0_Files : List TFile) : Option (List TFile) :=
  (L_laws_toFileS a0_Files).bind fun y0 =>
  some y0
theorem laws_toDisk_g (E : En) (hp : E.ps = []) (hr : E.rs = r_laws_toDisk) (hw : ∀ y, E.wk y = some (nocap y)) (L_laws_toFileS : (List TFile) → Option (List TFile)) (h_laws_toFileS : ∀ (a0 : List TFile), E.Γ 54 [.d (lstT cFile a0)] = (L_laws_toFileS a0).bind fun r => some (.ret (ownT (cFile) 62 none false r) [])) (a0_Files : List TFile) : G E c_laws_toDisk [] ⟨slotsOf [(0, .agg [.d (lstT cFile a0_Files)])], obsOf []⟩ = (laws_toDisk_f L_laws_toFileS E.n a0_Files).bind fun r => some (.ret (.agg [ownT (cFile) 62 none false r]) []) := by
  simp (config := {maxSteps := 2000000}) only [↓rPre, rPost, rCan, rObj, rI, rS, rB, rLI, rEtc, hp, hr, hw, oid, r_laws_toDisk, ↓G_unf _ _ c_laws_toDisk.eq_1, h_laws_toFileS, bind_ite, laws_toDisk_f, rRow3, rFile, rRow104, rRow62, rArray, rRow27, ↓reduceIte, Nat.reduceMul, Nat.reduceAdd, Nat.reduceSub, Nat.reduceEqDiff, Nat.reduceBEq, Nat.reduceLeDiff, Nat.zero_add, Nat.add_zero, Bool.not_true, Bool.not_false, Bool.and_true, Bool.true_and, Bool.and_false, Bool.false_and, Bool.and_self, Bool.or_false, Bool.false_or, Bool.or_true, Bool.true_or, Bool.or_self, decide_eq_true_eq, Bool.not_eq_true', Bool.not_eq_eq_eq_not, decide_eq_false_iff_not, ite_not, List.nil_append, List.append_nil, and_self, and_true, true_and, Bool.false_eq_true, decide_true, decide_false, List.cons_append, reduceCtorEq, Int.reduceNeg, Int.reduceEq, Int.reduceLT, Int.reduceLE, not_true_eq_false, not_false_eq_true, eq_self]
-- loop.example/s02135/spec.l3Digit
def c_spec_l3Digit : Cd :=
  sq (r [0] [o 2 .mv [b false]])
  (sq (r [2] [o 3 .mv [t 0], o 4 (.bin .geq) [t 3, .k (.d (.int .u8 48))], o 5 .mv [t 4], g 5 true 6 .mv [t 0], g 5 true 7 (.bin .leq) [t 6, .k (.d (.int .u8 57))], o 8 .pick [t 5, t 7, b false], o 2 .mv [t 8]])
   (.ret))
def r_spec_l3Digit : List RV := [.tmp 2]
def spec_l3Digit_f (N : Nat) (a0 : Int) : Option (Bool) :=
  if 48 ≤ a0 then some (Decidable.decide (a0 ≤ 57))
  else some false
theorem spec_l3Digit_g (E : En) (hp : E.ps = []) (hr : E.rs = r_spec_l3Digit) (hw : ∀ y, E.wk y = some (nocap y)) (a0 : Int) : G E c_spec_l3Digit [] ⟨slotsOf [(0, .d (.int .u8 a0))], obsOf []⟩ = (spec_l3Digit_f E.n a0).bind fun r => some (.ret (.d (.bool r)) []) := by
  simp (config := {maxSteps := 2000000}) only [↓rPre, rPost, rCan, rObj, rI, rS, rB, rLI, rEtc, hp, hr, hw, oid, r_spec_l3Digit, ↓G_unf _ _ c_spec_l3Digit.eq_1, bind_ite, spec_l3Digit_f, rRow3, rFile, rRow104, rRow62, rArray, rRow27, ↓reduceIte, Nat.reduceMul, Nat.reduceAdd, Nat.reduceSub, Nat.reduceEqDiff, Nat.reduceBEq, Nat.reduceLeDiff, Nat.zero_add, Nat.add_zero, Bool.not_true, Bool.not_false, Bool.and_true, Bool.true_and, Bool.and_false, Bool.false_and, Bool.and_self, Bool.or_false, Bool.false_or, Bool.or_true, Bool.true_or, Bool.or_self, decide_eq_true_eq, Bool.not_eq_true', Bool.not_eq_eq_eq_not, decide_eq_false_iff_not, ite_not, List.nil_append, List.append_nil, and_self, and_true, true_and, Bool.false_eq_true, decide_true, decide_false, List.cons_append, reduceCtorEq, Int.reduceNeg, Int.reduceEq, Int.reduceLT, Int.reduceLE, not_true_eq_false, not_false_eq_true, eq_self]
-- loop.example/s02135/spec.l3Letter
def c_spec_l3Letter : Cd :=
  sq (r [0] [o 2 .mv [b false]])
  (sq (r [2] [o 3 .mv [t 0], o 4 (.bin .geq) [t 3, .k (.d (.int .u8 97))], o 5 .mv [t 4], g 5 true 6 .mv [t 0], g 5 true 7 (.bin .leq) [t 6, .k (.d (.int .u8 122))], o 8 .pick [t 5, t 7, b false], o 9 .mv [t 8], g 9 false 10 .mv [t 0], g 9 false 11 (.bin .geq) [t 10, .k (.d (.int .u8 65))], g 9 false 12 .mv [t 11], g 12 true 13 .mv [t 0], g 12 true 14 (.bin .leq) [t 13, .k (.d (.int .u8 90))], g 9 false 15 .pick [t 12, t 14, b false], o 16 .pick [t 9, b true, t 15], o 2 .mv [t 16]])
   (.ret))
def r_spec_l3Letter : List RV := [.tmp 2]
def spec_l3Letter_f (N : Nat) (a0 : Int) : Option (Bool) :=
  if 97 ≤ a0 then (if a0 ≤ 122 then some true
   else (if 65 ≤ a0 then some (Decidable.decide (a0 ≤ 90))
    else some false))
  else (if 65 ≤ a0 then some (Decidable.decide (a0 ≤ 90))
   else some false)
theorem spec_l3Letter_g (E : En) (hp : E.ps = []) (hr : E.rs = r_spec_l3Letter) (hw : ∀ y, E.wk y = some (nocap y)) (a0 : Int) : G E c_spec_l3Letter [] ⟨slotsOf [(0, .d (.int .u8 a0))], obsOf []⟩ = (spec_l3Letter_f E.n a0).bind fun r => some (.ret (.d (.bool r)) []) := by
  simp (config := {maxSteps := 2000000}) only [↓rPre, rPost, rCan, rObj, rI, rS, rB, rLI, rEtc, hp, hr, hw, oid, r_spec_l3Letter, ↓G_unf _ _ c_spec_l3Letter.eq_1, bind_ite, spec_l3Letter_f, rRow3, rFile, rRow104, rRow62, rArray, rRow27, ↓reduceIte, Nat.reduceMul, Nat.reduceAdd, Nat.reduceSub, Nat.reduceEqDiff, Nat.reduceBEq, Nat.reduceLeDiff, Nat.zero_add, Nat.add_zero, Bool.not_true, Bool.not_false, Bool.and_true, Bool.true_and, Bool.and_false, Bool.false_and, Bool.and_self, Bool.or_false, Bool.false_or, Bool.or_true, Bool.true_or, Bool.or_self, decide_eq_true_eq, Bool.not_eq_true', Bool.not_eq_eq_eq_not, decide_eq_false_iff_not, ite_not, List.nil_append, List.append_nil, and_self, and_true, true_and, Bool.false_eq_true, decide_true, decide_false, List.cons_append, reduceCtorEq, Int.reduceNeg, Int.reduceEq, Int.reduceLT, Int.reduceLE, not_true_eq_false, not_false_eq_true, eq_self]
-- loop.example/s02135/spec.l7NameOk
def b0_spec_l7NameOk : Cd :=
  sq (sq (r [0, 3, 7] [o 4 .mv [t 3], o 5 .mv [t 0], o 6 (.len true) [t 5], o 7 (.bin .lss) [t 4, t 6]])
   (.cond (t 7) (.skip) (.exit 0)))
  (sq (.block 1 (sq (r [0, 3, 33] [o 10 .mv [t 0], o 11 .mv [t 3], o 12 .ixs [t 10, t 11], o 13 (.call 120) [t 12], o 14 .not [t 13], o 15 .mv [t 14], g 15 true 16 .mv [t 0], g 15 true 17 .mv [t 3], g 15 true 18 .ixs [t 16, t 17], g 15 true 19 (.call 121) [t 18], g 15 true 20 .not [t 19], o 21 .pick [t 15, t 20, b false], o 22 .mv [t 21], g 22 true 23 .mv [t 0], g 22 true 24 .mv [t 3], g 22 true 25 .ixs [t 23, t 24], g 22 true 26 (.bin .neq) [t 25, .k (.d (.int .u8 46))], o 27 .pick [t 22, t 26, b false], o 28 .mv [t 27], g 28 true 29 .mv [t 0], g 28 true 30 .mv [t 3], g 28 true 31 .ixs [t 29, t 30], g 28 true 32 (.bin .neq) [t 31, .k (.d (.int .u8 95))], o 33 .pick [t 28, t 32, b false]])
     (.cond (t 33) (sq (r [2] [o 2 .mv [b false]])
       (.ret)) (.skip))))
   (r [0, 3] [o 8 .mv [t 3], o 9 (.bin .add) [t 8, i 1], o 3 .mv [t 9]]))
def k1_spec_l7NameOk : Cd :=
  sq (r [2] [o 34 .mv [t 0], o 35 (.len true) [t 34], o 36 (.bin .geq) [t 35, i 1], o 37 .mv [t 36], g 37 true 38 .mv [t 0], g 37 true 39 (.len true) [t 38], g 37 true 40 (.bin .leq) [t 39, i 40], o 41 .pick [t 37, t 40, b false], o 2 .mv [t 41]])
  (.ret)
def c_spec_l7NameOk : Cd :=
  sq (r [0] [o 2 .mv [b false]])
  (sq (sq (r [0, 3] [o 3 .mv [i 0]])
    (.block 0 (.loop [0, 3] b0_spec_l7NameOk))) k1_spec_l7NameOk)
def r_spec_l7NameOk : List RV := [.tmp 2]
def spec_l7NameOk_l0 (L_spec_l3Digit : Int → Option (Bool)) (L_spec_l3Letter : Int → Option (Bool)) : Nat → (List UInt8) → Int → Option (Bool)
  | 0, _, _ => none
  | m0 + 1, x0, x3 =>
    if x3 < (↑(List.length x0) : Int) then ((idxB x0 x3).bind fun y0 =>
     (L_spec_l3Digit y0).bind fun y1 =>
     if y1 = false then ((idxB x0 x3).bind fun y2 =>
      (L_spec_l3Letter y2).bind fun y3 =>
      if y3 = false then ((idxB x0 x3).bind fun y4 =>
       if y4 = 46 then spec_l7NameOk_l0 L_spec_l3Digit L_spec_l3Letter m0 x0 (w64 (x3 + 1))
       else ((idxB x0 x3).bind fun y5 =>
        if y5 = 95 then spec_l7NameOk_l0 L_spec_l3Digit L_spec_l3Letter m0 x0 (w64 (x3 + 1))
        else some false))
      else spec_l7NameOk_l0 L_spec_l3Digit L_spec_l3Letter m0 x0 (w64 (x3 + 1)))
     else spec_l7NameOk_l0 L_spec_l3Digit L_spec_l3Letter m0 x0 (w64 (x3 + 1)))
    else (if 1 ≤ (↑(List.length x0) : Int) then some (Decidable.decide ((↑(List.length x0) : Int) ≤ 40))
     else some false)
def spec_l7NameOk_f (L_spec_l3Digit : Int → Option (Bool)) (L_spec_l3Letter : Int → Option (Bool)) (N : Nat) (a0 : List UInt8) : Option (Bool) :=
  spec_l7NameOk_l0 L_spec_l3Digit L_spec_l3Letter N a0 0
theorem spec_l7NameOk_l0_eq (E : En) (hp : E.ps = []) (hr : E.rs = r_spec_l7NameOk) (hw : ∀ y, E.wk y = some (nocap y)) (L_spec_l3Digit : Int → Option (Bool)) (h_spec_l3Digit : ∀ (a0 : Int), E.Γ 120 [.d (.int .u8 a0)] = (L_spec_l3Digit a0).bind fun r => some (.ret (.d (.bool r)) [])) (L_spec_l3Letter : Int → Option (Bool)) (h_spec_l3Letter : ∀ (a0 : Int), E.Γ 121 [.d (.int .u8 a0)] = (L_spec_l3Letter a0).bind fun r => some (.ret (.d (.bool r)) [])) : ∀ (m0 : Nat) (x0 : List UInt8) (x3 : Int), gH E [0, 3] b0_spec_l7NameOk [KJ.b 0, KJ.c k1_spec_l7NameOk] m0 ⟨slotsOf [(0, .d (sD x0)), (3, .d (.int .i64 x3))], obsOf []⟩ = (spec_l7NameOk_l0 L_spec_l3Digit L_spec_l3Letter m0 x0 x3).bind fun r => some (.ret (.d (.bool r)) []) := by
  intro m0
  induction m0 with
  | zero => intros; rfl
  | succ m0 ih =>
    intros
    simp (config := {maxSteps := 2000000}) only [↓rPre, rPost, rCan, rObj, rI, rS, rB, rLI, rEtc, hp, hr, hw, oid, r_spec_l7NameOk, ↓G_unf _ _ b0_spec_l7NameOk.eq_1, ↓G_unf _ _ k1_spec_l7NameOk.eq_1, ↓G_unf _ _ c_spec_l7NameOk.eq_1, h_spec_l3Digit, h_spec_l3Letter, gH_succ, ih, bind_ite, spec_l7NameOk_l0, rRow3, rFile, rRow104, rRow62, rArray, rRow27, ↓reduceIte, Nat.reduceMul, Nat.reduceAdd, Nat.reduceSub, Nat.reduceEqDiff, Nat.reduceBEq, Nat.reduceLeDiff, Nat.zero_add, Nat.add_zero, Bool.not_true, Bool.not_false, Bool.and_true, Bool.true_and, Bool.and_false, Bool.false_and, Bool.and_self, Bool.or_false, Bool.false_or, Bool.or_true, Bool.true_or, Bool.or_self, decide_eq_true_eq, Bool.not_eq_true', Bool.not_eq_eq_eq_not, decide_eq_false_iff_not, ite_not, List.nil_append, List.append_nil, and_self, and_true, true_and, Bool.false_eq_true, decide_true, decide_false, List.cons_append, reduceCtorEq, Int.reduceNeg, Int.reduceEq, Int.reduceLT, Int.reduceLE, not_true_eq_false, not_false_eq_true, eq_self]
theorem spec_l7NameOk_g (E : En) (hp : E.ps = []) (hr : E.rs = r_spec_l7NameOk) (hw : ∀ y, E.wk y = some (nocap y)) (L_spec_l3Digit : Int → Option (Bool)) (h_spec_l3Digit : ∀ (a0 : Int), E.Γ 120 [.d (.int .u8 a0)] = (L_spec_l3Digit a0).bind fun r => some (.ret (.d (.bool r)) [])) (L_spec_l3Letter : Int → Option (Bool)) (h_spec_l3Letter : ∀ (a0 : Int), E.Γ 121 [.d (.int .u8 a0)] = (L_spec_l3Letter a0).bind fun r => some (.ret (.d (.bool r)) [])) (a0 : List UInt8) : G E c_spec_l7NameOk [] ⟨slotsOf [(0, .d (sD a0))], obsOf []⟩ = (spec_l7NameOk_f L_spec_l3Digit L_spec_l3Letter E.n a0).bind fun r => some (.ret (.d (.bool r)) []) := by
  simp (config := {maxSteps := 2000000}) only [↓rPre, rPost, rCan, rObj, rI, rS, rB, rLI, rEtc, hp, hr, hw, oid, r_spec_l7NameOk, ↓G_unf _ _ b0_spec_l7NameOk.eq_1, ↓G_unf _ _ k1_spec_l7NameOk.eq_1, ↓G_unf _ _ c_spec_l7NameOk.eq_1, h_spec_l3Digit, h_spec_l3Letter, bind_ite, spec_l7NameOk_f, spec_l7NameOk_l0_eq E hp hr hw L_spec_l3Digit h_spec_l3Digit L_spec_l3Letter h_spec_l3Letter, rRow3, rFile, rRow104, rRow62, rArray, rRow27, ↓reduceIte, Nat.reduceMul, Nat.reduceAdd, Nat.reduceSub, Nat.reduceEqDiff, Nat.reduceBEq, Nat.reduceLeDiff, Nat.zero_add, Nat.add_zero, Bool.not_true, Bool.not_false, Bool.and_true, Bool.true_and, Bool.and_false, Bool.false_and, Bool.and_self, Bool.or_false, Bool.false_or, Bool.or_true, Bool.true_or, Bool.or_self, decide_eq_true_eq, Bool.not_eq_true', Bool.not_eq_eq_eq_not, decide_eq_false_iff_not, ite_not, List.nil_append, List.append_nil, and_self, and_true, true_and, Bool.false_eq_true, decide_true, decide_false, List.cons_append, reduceCtorEq, Int.reduceNeg, Int.reduceEq, Int.reduceLT, Int.reduceLE, not_true_eq_false, not_false_eq_true, eq_self]
-- loop.example/s02135/spec.DiskOk
def b0_spec_DiskOk : Cd :=
  sq (sq (r [1, 3, 13] [o 9 .mv [t 3], o 10 (.fa 0) [t 1], o 11 (.ld none) [t 10], o 12 (.len false) [t 11], o 13 (.bin .lss) [t 9, t 12]])
   (.cond (t 13) (.skip) (.exit 0)))
  (sq (.block 1 (sq (r [1, 3, 4] [o 16 (.fa 0) [t 1], o 17 (.ld none) [t 16], o 18 .mv [t 3], o 19 (.ia 2) [t 17, t 18], o 20 (.ld (some 2)) [t 19], o 4 (.alloc [(.d (sD [])), (.d (sD []))]) [], e (.st 2) [t 4, t 20]])
     (sq (rd [] [1, 3, 46] [o 21 (.fa 0) [t 4], o 22 (.ld none) [t 21], o 23 (.call 53) [t 22], o 24 .not [t 23], o 25 .mv [t 24], g 25 false 26 (.fa 1) [t 4], g 25 false 27 (.ld none) [t 26], g 25 false 28 (.len true) [t 27], g 25 false 29 (.bin .gtr) [t 28, i 100000], o 30 .pick [t 25, b true, t 29], o 31 .mv [t 30], g 31 false 32 .mv [t 3], g 31 false 33 (.bin .gtr) [t 32, i 0], g 31 false 34 .mv [t 33], g 34 true 35 (.fa 0) [t 1], g 34 true 36 (.ld none) [t 35], g 34 true 37 .mv [t 3], g 34 true 38 (.bin .sub) [t 37, i 1], g 34 true 39 (.ia 2) [t 36, t 38], g 34 true 40 (.fa 0) [t 39], g 34 true 41 (.ld none) [t 40], g 34 true 42 (.fa 0) [t 4], g 34 true 43 (.ld none) [t 42], g 34 true 44 (.bin .geq) [t 41, t 43], g 31 false 45 .pick [t 34, t 44, b false], o 46 .pick [t 31, b true, t 45]])
      (.cond (t 46) (sq (r [2] [o 2 .mv [b false]])
        (.ret)) (.skip)))))
   (r [1, 3] [o 14 .mv [t 3], o 15 (.bin .add) [t 14, i 1], o 3 .mv [t 15]]))
def k1_spec_DiskOk : Cd :=
  sq (r [2] [o 2 .mv [b true]])
  (.ret)
def c_spec_DiskOk : Cd :=
  sq (r [1] [o 1 .box [t 0], o 2 .mv [b false]])
  (sq (sq (r [1, 8] [o 5 (.fa 0) [t 1], o 6 (.ld none) [t 5], o 7 (.len false) [t 6], o 8 (.bin .gtr) [t 7, i 400]])
    (.cond (t 8) (sq (r [2] [o 2 .mv [b false]])
      (.ret)) (.skip)))
   (sq (sq (r [1, 3] [o 3 .mv [i 0]])
     (.block 0 (.loop [1, 3] b0_spec_DiskOk))) k1_spec_DiskOk))
def r_spec_DiskOk : List RV := [.tmp 2]
def spec_DiskOk_l0 (L_spec_l7NameOk : (List UInt8) → Option (Bool)) : Nat → Int → (List TFile) → Option (Bool)
  | 0, _, _ => none
  | m0 + 1, x3, o64_0 =>
    if x3 < (↑(List.length o64_0) : Int) then ((idx o64_0 x3).bind fun y0 =>
     (L_spec_l7NameOk y0.Name).bind fun y1 =>
     if y1 = false then some false
     else (if 100000 < (↑(List.length y0.Data) : Int) then some false
      else (if 0 < x3 then ((idx o64_0 (w64 (x3 - 1))).bind fun y2 =>
        if lessS y2.Name y0.Name = false then some false
        else spec_DiskOk_l0 L_spec_l7NameOk m0 (w64 (x3 + 1)) o64_0)
       else spec_DiskOk_l0 L_spec_l7NameOk m0 (w64 (x3 + 1)) o64_0)))
    else some true
def spec_DiskOk_f (L_spec_l7NameOk : (List UInt8) → Option (Bool)) (N : Nat) (a0_Files : List TFile) : Option (Bool) :=
  if 400 < (↑(List.length a0_Files) : Int) then some false
  else spec_DiskOk_l0 L_spec_l7NameOk N 0 a0_Files
theorem spec_DiskOk_l0_eq (E : En) (hp : E.ps = []) (hr : E.rs = r_spec_DiskOk) (hw : ∀ y, E.wk y = some (nocap y)) (L_spec_l7NameOk : (List UInt8) → Option (Bool)) (h_spec_l7NameOk : ∀ (a0 : List UInt8), E.Γ 53 [.d (sD a0)] = (L_spec_l7NameOk a0).bind fun r => some (.ret (.d (.bool r)) [])) : ∀ (m0 : Nat) (x3 : Int) (o64_0 : List TFile), gH E [1, 3] b0_spec_DiskOk [KJ.b 0, KJ.c k1_spec_DiskOk] m0 ⟨slotsOf [(1, A.adr 64 1 0), (3, .d (.int .i64 x3))], obsOf [(64, ⟨1, .box [.d (lstT (cFile) o64_0)], false⟩)]⟩ = (spec_DiskOk_l0 L_spec_l7NameOk m0 x3 o64_0).bind fun r => some (.ret (.d (.bool r)) []) := by
  intro m0
  induction m0 with
  | zero => intros; rfl
  | succ m0 ih =>
    intros
    simp (config := {maxSteps := 2000000}) only [↓rPre, rPost, rCan, rObj, rI, rS, rB, rLI, rEtc, hp, hr, hw, oid, r_spec_DiskOk, ↓G_unf _ _ b0_spec_DiskOk.eq_1, ↓G_unf _ _ k1_spec_DiskOk.eq_1, ↓G_unf _ _ c_spec_DiskOk.eq_1, h_spec_l7NameOk, gH_succ, ih, bind_ite, spec_DiskOk_l0, rRow3, rFile, rRow104, rRow62, rArray, rRow27, ↓reduceIte, Nat.reduceMul, Nat.reduceAdd, Nat.reduceSub, Nat.reduceEqDiff, Nat.reduceBEq, Nat.reduceLeDiff, Nat.zero_add, Nat.add_zero, Bool.not_true, Bool.not_false, Bool.and_true, Bool.true_and, Bool.and_false, Bool.false_and, Bool.and_self, Bool.or_false, Bool.false_or, Bool.or_true, Bool.true_or, Bool.or_self, decide_eq_true_eq, Bool.not_eq_true', Bool.not_eq_eq_eq_not, decide_eq_false_iff_not, ite_not, List.nil_append, List.append_nil, and_self, and_true, true_and, Bool.false_eq_true, decide_true, decide_false, List.cons_append, reduceCtorEq, Int.reduceNeg, Int.reduceEq, Int.reduceLT, Int.reduceLE, not_true_eq_false, not_false_eq_true, eq_self]
theorem spec_DiskOk_g (E : En) (hp : E.ps = []) (hr : E.rs = r_spec_DiskOk) (hw : ∀ y, E.wk y = some (nocap y)) (L_spec_l7NameOk : (List UInt8) → Option (Bool)) (h_spec_l7NameOk : ∀ (a0 : List UInt8), E.Γ 53 [.d (sD a0)] = (L_spec_l7NameOk a0).bind fun r => some (.ret (.d (.bool r)) [])) (a0_Files : List TFile) : G E c_spec_DiskOk [] ⟨slotsOf [(0, .agg [.d (lstT cFile a0_Files)])], obsOf []⟩ = (spec_DiskOk_f L_spec_l7NameOk E.n a0_Files).bind fun r => some (.ret (.d (.bool r)) []) := by
  simp (config := {maxSteps := 2000000}) only [↓rPre, rPost, rCan, rObj, rI, rS, rB, rLI, rEtc, hp, hr, hw, oid, r_spec_DiskOk, ↓G_unf _ _ b0_spec_DiskOk.eq_1, ↓G_unf _ _ k1_spec_DiskOk.eq_1, ↓G_unf _ _ c_spec_DiskOk.eq_1, h_spec_l7NameOk, bind_ite, spec_DiskOk_f, spec_DiskOk_l0_eq E hp hr hw L_spec_l7NameOk h_spec_l7NameOk, rRow3, rFile, rRow104, rRow62, rArray, rRow27, ↓reduceIte, Nat.reduceMul, Nat.reduceAdd, Nat.reduceSub, Nat.reduceEqDiff, Nat.reduceBEq, Nat.reduceLeDiff, Nat.zero_add, Nat.add_zero, Bool.not_true, Bool.not_false, Bool.and_true, Bool.true_and, Bool.and_false, Bool.false_and, Bool.and_self, Bool.or_false, Bool.false_or, Bool.or_true, Bool.true_or, Bool.or_self, decide_eq_true_eq, Bool.not_eq_true', Bool.not_eq_eq_eq_not, decide_eq_false_iff_not, ite_not, List.nil_append, List.append_nil, and_self, and_true, true_and, Bool.false_eq_true, decide_true, decide_false, List.cons_append, reduceCtorEq, Int.reduceNeg, Int.reduceEq, Int.reduceLT, Int.reduceLE, not_true_eq_false, not_false_eq_true, eq_self]
-- loop.example/s02135/impl.isDigit
def c_impl_isDigit : Cd :=
  sq (r [0] [o 2 .mv [b false]])
  (sq (r [2] [o 3 .mv [t 0], o 4 (.bin .leq) [.k (.d (.int .u8 48)), t 3], o 5 .mv [t 4], g 5 true 6 .mv [t 0], g 5 true 7 (.bin .leq) [t 6, .k (.d (.int .u8 57))], o 8 .pick [t 5, t 7, b false], o 2 .mv [t 8]])
   (.ret))
def r_impl_isDigit : List RV := [.tmp 2]
def impl_isDigit_f (N : Nat) (a0 : Int) : Option (Bool) :=
  if 48 ≤ a0 then some (Decidable.decide (a0 ≤ 57))
  else some false
theorem impl_isDigit_g (E : En) (hp : E.ps = []) (hr : E.rs = r_impl_isDigit) (hw : ∀ y, E.wk y = some (nocap y)) (a0 : Int) : G E c_impl_isDigit [] ⟨slotsOf [(0, .d (.int .u8 a0))], obsOf []⟩ = (impl_isDigit_f E.n a0).bind fun r => some (.ret (.d (.bool r)) []) := by
  simp (config := {maxSteps := 2000000}) only [↓rPre, rPost, rCan, rObj, rI, rS, rB, rLI, rEtc, hp, hr, hw, oid, r_impl_isDigit, ↓G_unf _ _ c_impl_isDigit.eq_1, bind_ite, impl_isDigit_f, rRow3, rFile, rRow104, rRow62, rArray, rRow27, ↓reduceIte, Nat.reduceMul, Nat.reduceAdd, Nat.reduceSub, Nat.reduceEqDiff, Nat.reduceBEq, Nat.reduceLeDiff, Nat.zero_add, Nat.add_zero, Bool.not_true, Bool.not_false, Bool.and_true, Bool.true_and, Bool.and_false, Bool.false_and, Bool.and_self, Bool.or_false, Bool.false_or, Bool.or_true, Bool.true_or, Bool.or_self, decide_eq_true_eq, Bool.not_eq_true', Bool.not_eq_eq_eq_not, decide_eq_false_iff_not, ite_not, List.nil_append, List.append_nil, and_self, and_true, true_and, Bool.false_eq_true, decide_true, decide_false, List.cons_append, reduceCtorEq, Int.reduceNeg, Int.reduceEq, Int.reduceLT, Int.reduceLE, not_true_eq_false, not_false_eq_true, eq_self]
-- loop.example/s02135/impl.isLetter
def c_impl_isLetter : Cd :=
  sq (r [0] [o 2 .mv [b false]])
  (sq (r [2] [o 3 .mv [t 0], o 4 (.bin .leq) [.k (.d (.int .u8 97)), t 3], o 5 .mv [t 4], g 5 true 6 .mv [t 0], g 5 true 7 (.bin .leq) [t 6, .k (.d (.int .u8 122))], o 8 .pick [t 5, t 7, b false], o 9 .mv [t 8], g 9 false 10 .mv [t 0], g 9 false 11 (.bin .leq) [.k (.d (.int .u8 65)), t 10], g 9 false 12 .mv [t 11], g 12 true 13 .mv [t 0], g 12 true 14 (.bin .leq) [t 13, .k (.d (.int .u8 90))], g 9 false 15 .pick [t 12, t 14, b false], o 16 .pick [t 9, b true, t 15], o 2 .mv [t 16]])
   (.ret))
def r_impl_isLetter : List RV := [.tmp 2]
def impl_isLetter_f (N : Nat) (a0 : Int) : Option (Bool) :=
  if 97 ≤ a0 then (if a0 ≤ 122 then some true
   else (if 65 ≤ a0 then some (Decidable.decide (a0 ≤ 90))
    else some false))
  else (if 65 ≤ a0 then some (Decidable.decide (a0 ≤ 90))
   else some false)
theorem impl_isLetter_g (E : En) (hp : E.ps = []) (hr : E.rs = r_impl_isLetter) (hw : ∀ y, E.wk y = some (nocap y)) (a0 : Int) : G E c_impl_isLetter [] ⟨slotsOf [(0, .d (.int .u8 a0))], obsOf []⟩ = (impl_isLetter_f E.n a0).bind fun r => some (.ret (.d (.bool r)) []) := by
  simp (config := {maxSteps := 2000000}) only [↓rPre, rPost, rCan, rObj, rI, rS, rB, rLI, rEtc, hp, hr, hw, oid, r_impl_isLetter, ↓G_unf _ _ c_impl_isLetter.eq_1, bind_ite, impl_isLetter_f, rRow3, rFile, rRow104, rRow62, rArray, rRow27, ↓reduceIte, Nat.reduceMul, Nat.reduceAdd, Nat.reduceSub, Nat.reduceEqDiff, Nat.reduceBEq, Nat.reduceLeDiff, Nat.zero_add, Nat.add_zero, Bool.not_true, Bool.not_false, Bool.and_true, Bool.true_and, Bool.and_false, Bool.false_and, Bool.and_self, Bool.or_false, Bool.false_or, Bool.or_true, Bool.true_or, Bool.or_self, decide_eq_true_eq, Bool.not_eq_true', Bool.not_eq_eq_eq_not, decide_eq_false_iff_not, ite_not, List.nil_append, List.append_nil, and_self, and_true, true_and, Bool.false_eq_true, decide_true, decide_false, List.cons_append, reduceCtorEq, Int.reduceNeg, Int.reduceEq, Int.reduceLT, Int.reduceLE, not_true_eq_false, not_false_eq_true, eq_self]
-- loop.example/s02135/impl.fileNameOk
def b0_impl_fileNameOk : Cd :=
  sq (r [0, 13, 14, 15] [o 15 (.bin .lss) [t 14, t 13]])
  (sq (.cond (t 15) (.skip) (.exit 0))
   (sq (.block 1 (sq (r [0, 3, 13, 14] [o 16 .mv [t 14], o 3 .mv [t 16]])
      (sq (r [0, 13, 14, 40] [o 17 .mv [t 0], o 18 .mv [t 3], o 19 .ixs [t 17, t 18], o 20 (.call 123) [t 19], o 21 .not [t 20], o 22 .mv [t 21], g 22 true 23 .mv [t 0], g 22 true 24 .mv [t 3], g 22 true 25 .ixs [t 23, t 24], g 22 true 26 (.call 124) [t 25], g 22 true 27 .not [t 26], o 28 .pick [t 22, t 27, b false], o 29 .mv [t 28], g 29 true 30 .mv [t 0], g 29 true 31 .mv [t 3], g 29 true 32 .ixs [t 30, t 31], g 29 true 33 (.bin .neq) [t 32, .k (.d (.int .u8 46))], o 34 .pick [t 29, t 33, b false], o 35 .mv [t 34], g 35 true 36 .mv [t 0], g 35 true 37 .mv [t 3], g 35 true 38 .ixs [t 36, t 37], g 35 true 39 (.bin .neq) [t 38, .k (.d (.int .u8 95))], o 40 .pick [t 35, t 39, b false]])
       (.cond (t 40) (sq (r [2] [o 2 .mv [b false]])
         (.ret)) (.skip)))))
    (r [0, 13, 14] [o 41 (.bin .add) [t 14, i 1], o 14 .mv [t 41]])))
def k1_impl_fileNameOk : Cd :=
  sq (r [2] [o 2 .mv [b true]])
  (.ret)
def c_impl_fileNameOk : Cd :=
  sq (r [0] [o 2 .mv [b false]])
  (sq (sq (r [0, 11] [o 4 .mv [t 0], o 5 (.len true) [t 4], o 6 (.bin .lss) [t 5, i 1], o 7 .mv [t 6], g 7 false 8 .mv [t 0], g 7 false 9 (.len true) [t 8], g 7 false 10 (.bin .gtr) [t 9, i 40], o 11 .pick [t 7, b true, t 10]])
    (.cond (t 11) (sq (r [2] [o 2 .mv [b false]])
      (.ret)) (.skip)))
   (sq (sq (r [0, 13, 14] [o 12 .mv [t 0], o 13 (.len true) [t 12], o 14 .mv [i 0]])
     (.block 0 (.loop [0, 13, 14] b0_impl_fileNameOk))) k1_impl_fileNameOk))
def r_impl_fileNameOk : List RV := [.tmp 2]
def impl_fileNameOk_l0 (L_impl_isDigit : Int → Option (Bool)) (L_impl_isLetter : Int → Option (Bool)) : Nat → (List UInt8) → Int → Int → Option (Bool)
  | 0, _, _, _ => none
  | m0 + 1, x0, x13, x14 =>
    if x14 < x13 then ((idxB x0 x14).bind fun y0 =>
     (L_impl_isDigit y0).bind fun y1 =>
     if y1 = false then ((idxB x0 x14).bind fun y2 =>
      (L_impl_isLetter y2).bind fun y3 =>
      if y3 = false then ((idxB x0 x14).bind fun y4 =>
       if y4 = 46 then impl_fileNameOk_l0 L_impl_isDigit L_impl_isLetter m0 x0 x13 (w64 (x14 + 1))
       else ((idxB x0 x14).bind fun y5 =>
        if y5 = 95 then impl_fileNameOk_l0 L_impl_isDigit L_impl_isLetter m0 x0 x13 (w64 (x14 + 1))
        else some false))
      else impl_fileNameOk_l0 L_impl_isDigit L_impl_isLetter m0 x0 x13 (w64 (x14 + 1)))
     else impl_fileNameOk_l0 L_impl_isDigit L_impl_isLetter m0 x0 x13 (w64 (x14 + 1)))
    else some true
def impl_fileNameOk_f (L_impl_isDigit : Int → Option (Bool)) (L_impl_isLetter : Int → Option (Bool)) (N : Nat) (a0 : List UInt8) : Option (Bool) :=
  if (↑(List.length a0) : Int) < 1 then some false
  else (if 40 < (↑(List.length a0) : Int) then some false
   else impl_fileNameOk_l0 L_impl_isDigit L_impl_isLetter N a0 ((↑(List.length a0) : Int)) 0)
theorem impl_fileNameOk_l0_eq (E : En) (hp : E.ps = []) (hr : E.rs = r_impl_fileNameOk) (hw : ∀ y, E.wk y = some (nocap y)) (L_impl_isDigit : Int → Option (Bool)) (h_impl_isDigit : ∀ (a0 : Int), E.Γ 123 [.d (.int .u8 a0)] = (L_impl_isDigit a0).bind fun r => some (.ret (.d (.bool r)) [])) (L_impl_isLetter : Int → Option (Bool)) (h_impl_isLetter : ∀ (a0 : Int), E.Γ 124 [.d (.int .u8 a0)] = (L_impl_isLetter a0).bind fun r => some (.ret (.d (.bool r)) [])) : ∀ (m0 : Nat) (x0 : List UInt8) (x13 : Int) (x14 : Int), gH E [0, 13, 14] b0_impl_fileNameOk [KJ.b 0, KJ.c k1_impl_fileNameOk] m0 ⟨slotsOf [(0, .d (sD x0)), (13, .d (.int .i64 x13)), (14, .d (.int .i64 x14))], obsOf []⟩ = (impl_fileNameOk_l0 L_impl_isDigit L_impl_isLetter m0 x0 x13 x14).bind fun r => some (.ret (.d (.bool r)) []) := by
  intro m0
  induction m0 with
  | zero => intros; rfl
  | succ m0 ih =>
    intros
    simp (config := {maxSteps := 2000000}) only [↓rPre, rPost, rCan, rObj, rI, rS, rB, rLI, rEtc, hp, hr, hw, oid, r_impl_fileNameOk, ↓G_unf _ _ b0_impl_fileNameOk.eq_1, ↓G_unf _ _ k1_impl_fileNameOk.eq_1, ↓G_unf _ _ c_impl_fileNameOk.eq_1, h_impl_isDigit, h_impl_isLetter, gH_succ, ih, bind_ite, impl_fileNameOk_l0, rRow3, rFile, rRow104, rRow62, rArray, rRow27, ↓reduceIte, Nat.reduceMul, Nat.reduceAdd, Nat.reduceSub, Nat.reduceEqDiff, Nat.reduceBEq, Nat.reduceLeDiff, Nat.zero_add, Nat.add_zero, Bool.not_true, Bool.not_false, Bool.and_true, Bool.true_and, Bool.and_false, Bool.false_and, Bool.and_self, Bool.or_false, Bool.false_or, Bool.or_true, Bool.true_or, Bool.or_self, decide_eq_true_eq, Bool.not_eq_true', Bool.not_eq_eq_eq_not, decide_eq_false_iff_not, ite_not, List.nil_append, List.append_nil, and_self, and_true, true_and, Bool.false_eq_true, decide_true, decide_false, List.cons_append, reduceCtorEq, Int.reduceNeg, Int.reduceEq, Int.reduceLT, Int.reduceLE, not_true_eq_false, not_false_eq_true, eq_self]
theorem impl_fileNameOk_g (E : En) (hp : E.ps = []) (hr : E.rs = r_impl_fileNameOk) (hw : ∀ y, E.wk y = some (nocap y)) (L_impl_isDigit : Int → Option (Bool)) (h_impl_isDigit : ∀ (a0 : Int), E.Γ 123 [.d (.int .u8 a0)] = (L_impl_isDigit a0).bind fun r => some (.ret (.d (.bool r)) [])) (L_impl_isLetter : Int → Option (Bool)) (h_impl_isLetter : ∀ (a0 : Int), E.Γ 124 [.d (.int .u8 a0)] = (L_impl_isLetter a0).bind fun r => some (.ret (.d (.bool r)) [])) (a0 : List UInt8) : G E c_impl_fileNameOk [] ⟨slotsOf [(0, .d (sD a0))], obsOf []⟩ = (impl_fileNameOk_f L_impl_isDigit L_impl_isLetter E.n a0).bind fun r => some (.ret (.d (.bool r)) []) := by
  simp (config := {maxSteps := 2000000}) only [↓rPre, rPost, rCan, rObj, rI, rS, rB, rLI, rEtc, hp, hr, hw, oid, r_impl_fileNameOk, ↓G_unf _ _ b0_impl_fileNameOk.eq_1, ↓G_unf _ _ k1_impl_fileNameOk.eq_1, ↓G_unf _ _ c_impl_fileNameOk.eq_1, h_impl_isDigit, h_impl_isLetter, bind_ite, impl_fileNameOk_f, impl_fileNameOk_l0_eq E hp hr hw L_impl_isDigit h_impl_isDigit L_impl_isLetter h_impl_isLetter, rRow3, rFile, rRow104, rRow62, rArray, rRow27, ↓reduceIte, Nat.reduceMul, Nat.reduceAdd, Nat.reduceSub, Nat.reduceEqDiff, Nat.reduceBEq, Nat.reduceLeDiff, Nat.zero_add, Nat.add_zero, Bool.not_true, Bool.not_false, Bool.and_true, Bool.true_and, Bool.and_false, Bool.false_and, Bool.and_self, Bool.or_false, Bool.false_or, Bool.or_true, Bool.true_or, Bool.or_self, decide_eq_true_eq, Bool.not_eq_true', Bool.not_eq_eq_eq_not, decide_eq_false_iff_not, ite_not, List.nil_append, List.append_nil, and_self, and_true, true_and, Bool.false_eq_true, decide_true, decide_false, List.cons_append, reduceCtorEq, Int.reduceNeg, Int.reduceEq, Int.reduceLT, Int.reduceLE, not_true_eq_false, not_false_eq_true, eq_self]
-- loop.example/s02135/impl.DiskOk
def b0_impl_DiskOk : Cd :=
  sq (r [1, 10, 11, 12, 13] [o 13 (.bin .lss) [t 12, t 11]])
  (sq (.cond (t 13) (.skip) (.exit 0))
   (sq (.block 1 (sq (r [1, 3, 4, 10, 11, 12] [o 14 .mv [t 12], o 15 (.ia 2) [t 10, t 12], o 16 (.ld (some 2)) [t 15], o 4 (.alloc [(.d (sD [])), (.d (sD []))]) [], o 3 .mv [t 14], e (.st 2) [t 4, t 16]])
      (sq (rd [] [1, 10, 11, 12, 42] [o 17 (.fa 0) [t 4], o 18 (.ld none) [t 17], o 19 (.call 55) [t 18], o 20 .not [t 19], o 21 .mv [t 20], g 21 false 22 (.fa 1) [t 4], g 21 false 23 (.ld none) [t 22], g 21 false 24 (.len true) [t 23], g 21 false 25 (.bin .gtr) [t 24, i 100000], o 26 .pick [t 21, b true, t 25], o 27 .mv [t 26], g 27 false 28 .mv [t 3], g 27 false 29 (.bin .gtr) [t 28, i 0], g 27 false 30 .mv [t 29], g 30 true 31 (.fa 0) [t 1], g 30 true 32 (.ld none) [t 31], g 30 true 33 .mv [t 3], g 30 true 34 (.bin .sub) [t 33, i 1], g 30 true 35 (.ia 2) [t 32, t 34], g 30 true 36 (.fa 0) [t 35], g 30 true 37 (.ld none) [t 36], g 30 true 38 (.fa 0) [t 4], g 30 true 39 (.ld none) [t 38], g 30 true 40 (.bin .geq) [t 37, t 39], g 27 false 41 .pick [t 30, t 40, b false], o 42 .pick [t 27, b true, t 41]])
       (.cond (t 42) (sq (r [2] [o 2 .mv [b false]])
         (.ret)) (.skip)))))
    (r [1, 10, 11, 12] [o 43 (.bin .add) [t 12, i 1], o 12 .mv [t 43]])))
def k1_impl_DiskOk : Cd :=
  sq (r [2] [o 2 .mv [b true]])
  (.ret)
def c_impl_DiskOk : Cd :=
  sq (r [1] [o 1 .box [t 0], o 2 .mv [b false]])
  (sq (sq (r [1, 8] [o 5 (.fa 0) [t 1], o 6 (.ld none) [t 5], o 7 (.len false) [t 6], o 8 (.bin .gtr) [t 7, i 400]])
    (.cond (t 8) (sq (r [2] [o 2 .mv [b false]])
      (.ret)) (.skip)))
   (sq (sq (r [1, 10, 11, 12] [o 9 (.fa 0) [t 1], o 10 (.ld none) [t 9], o 11 (.len false) [t 10], o 12 .mv [i 0]])
     (.block 0 (.loop [1, 10, 11, 12] b0_impl_DiskOk))) k1_impl_DiskOk))
def r_impl_DiskOk : List RV := [.tmp 2]
def impl_DiskOk_l0 (L_impl_fileNameOk : (List UInt8) → Option (Bool)) : Nat → (List TFile) → Int → Int → (List TFile) → Option (Bool)
  | 0, _, _, _, _ => none
  | m0 + 1, x10, x11, x12, o64_0 =>
    if x12 < x11 then ((idx x10 x12).bind fun y0 =>
     (L_impl_fileNameOk y0.Name).bind fun y1 =>
     if y1 = false then some false
     else (if 100000 < (↑(List.length y0.Data) : Int) then some false
      else (if 0 < x12 then ((idx o64_0 (w64 (x12 - 1))).bind fun y2 =>
        if lessS y2.Name y0.Name = false then some false
        else impl_DiskOk_l0 L_impl_fileNameOk m0 x10 x11 (w64 (x12 + 1)) o64_0)
       else impl_DiskOk_l0 L_impl_fileNameOk m0 x10 x11 (w64 (x12 + 1)) o64_0)))
    else some true
def impl_DiskOk_f (L_impl_fileNameOk : (List UInt8) → Option (Bool)) (N : Nat) (a0_Files : List TFile) : Option (Bool) :=
  if 400 < (↑(List.length a0_Files) : Int) then some false
  else impl_DiskOk_l0 L_impl_fileNameOk N a0_Files ((↑(List.length a0_Files) : Int)) 0 a0_Files
theorem impl_DiskOk_l0_eq (E : En) (hp : E.ps = []) (hr : E.rs = r_impl_DiskOk) (hw : ∀ y, E.wk y = some (nocap y)) (L_impl_fileNameOk : (List UInt8) → Option (Bool)) (h_impl_fileNameOk : ∀ (a0 : List UInt8), E.Γ 55 [.d (sD a0)] = (L_impl_fileNameOk a0).bind fun r => some (.ret (.d (.bool r)) [])) : ∀ (m0 : Nat) (x10 : List TFile) (x11 : Int) (x12 : Int) (o64_0 : List TFile), gH E [1, 10, 11, 12] b0_impl_DiskOk [KJ.b 0, KJ.c k1_impl_DiskOk] m0 ⟨slotsOf [(1, A.adr 64 1 0), (10, .d (lstT (cFile) x10)), (11, .d (.int .i64 x11)), (12, .d (.int .i64 x12))], obsOf [(64, ⟨1, .box [.d (lstT (cFile) o64_0)], false⟩)]⟩ = (impl_DiskOk_l0 L_impl_fileNameOk m0 x10 x11 x12 o64_0).bind fun r => some (.ret (.d (.bool r)) []) := by
  intro m0
  induction m0 with
  | zero => intros; rfl
  | succ m0 ih =>
    intros
    simp (config := {maxSteps := 2000000}) only [↓rPre, rPost, rCan, rObj, rI, rS, rB, rLI, rEtc, hp, hr, hw, oid, r_impl_DiskOk, ↓G_unf _ _ b0_impl_DiskOk.eq_1, ↓G_unf _ _ k1_impl_DiskOk.eq_1, ↓G_unf _ _ c_impl_DiskOk.eq_1, h_impl_fileNameOk, gH_succ, ih, bind_ite, impl_DiskOk_l0, rRow3, rFile, rRow104, rRow62, rArray, rRow27, ↓reduceIte, Nat.reduceMul, Nat.reduceAdd, Nat.reduceSub, Nat.reduceEqDiff, Nat.reduceBEq, Nat.reduceLeDiff, Nat.zero_add, Nat.add_zero, Bool.not_true, Bool.not_false, Bool.and_true, Bool.true_and, Bool.and_false, Bool.false_and, Bool.and_self, Bool.or_false, Bool.false_or, Bool.or_true, Bool.true_or, Bool.or_self, decide_eq_true_eq, Bool.not_eq_true', Bool.not_eq_eq_eq_not, decide_eq_false_iff_not, ite_not, List.nil_append, List.append_nil, and_self, and_true, true_and, Bool.false_eq_true, decide_true, decide_false, List.cons_append, reduceCtorEq, Int.reduceNeg, Int.reduceEq, Int.reduceLT, Int.reduceLE, not_true_eq_false, not_false_eq_true, eq_self]
theorem impl_DiskOk_g (E : En) (hp : E.ps = []) (hr : E.rs = r_impl_DiskOk) (hw : ∀ y, E.wk y = some (nocap y)) (L_impl_fileNameOk : (List UInt8) → Option (Bool)) (h_impl_fileNameOk : ∀ (a0 : List UInt8), E.Γ 55 [.d (sD a0)] = (L_impl_fileNameOk a0).bind fun r => some (.ret (.d (.bool r)) [])) (a0_Files : List TFile) : G E c_impl_DiskOk [] ⟨slotsOf [(0, .agg [.d (lstT cFile a0_Files)])], obsOf []⟩ = (impl_DiskOk_f L_impl_fileNameOk E.n a0_Files).bind fun r => some (.ret (.d (.bool r)) []) := by
  simp (config := {maxSteps := 2000000}) only [↓rPre, rPost, rCan, rObj, rI, rS, rB, rLI, rEtc, hp, hr, hw, oid, r_impl_DiskOk, ↓G_unf _ _ b0_impl_DiskOk.eq_1, ↓G_unf _ _ k1_impl_DiskOk.eq_1, ↓G_unf _ _ c_impl_DiskOk.eq_1, h_impl_fileNameOk, bind_ite, impl_DiskOk_f, impl_DiskOk_l0_eq E hp hr hw L_impl_fileNameOk h_impl_fileNameOk, rRow3, rFile, rRow104, rRow62, rArray, rRow27, ↓reduceIte, Nat.reduceMul, Nat.reduceAdd, Nat.reduceSub, Nat.reduceEqDiff, Nat.reduceBEq, Nat.reduceLeDiff, Nat.zero_add, Nat.add_zero, Bool.not_true, Bool.not_false, Bool.and_true, Bool.true_and, Bool.and_false, Bool.false_and, Bool.and_self, Bool.or_false, Bool.false_or, Bool.or_true, Bool.true_or, Bool.or_self, decide_eq_true_eq, Bool.not_eq_true', Bool.not_eq_eq_eq_not, decide_eq_false_iff_not, ite_not, List.nil_append, List.append_nil, and_self, and_true, true_and, Bool.false_eq_true, decide_true, decide_false, List.cons_append, reduceCtorEq, Int.reduceNeg, Int.reduceEq, Int.reduceLT, Int.reduceLE, not_true_eq_false, not_false_eq_true, eq_self]
-- loop.example/s02135/laws.eqFile
def c_laws_eqFile : Cd :=
  sq (r [2, 3] [o 2 .box [t 0], o 3 .box [t 1], o 4 .mv [b false]])
  (sq (sq (r [2, 3, 9] [o 5 (.fa 0) [t 2], o 6 (.ld none) [t 5], o 7 (.fa 0) [t 3], o 8 (.ld none) [t 7], o 9 (.bin .neq) [t 6, t 8]])
    (.cond (t 9) (sq (r [4] [o 4 .mv [b false]])
      (.ret)) (.skip)))
   (sq (sq (r [14] [o 10 (.fa 1) [t 2], o 11 (.ld none) [t 10], o 12 (.fa 1) [t 3], o 13 (.ld none) [t 12], o 14 (.bin .neq) [t 11, t 13]])
     (.cond (t 14) (sq (r [4] [o 4 .mv [b false]])
       (.ret)) (.skip)))
    (sq (r [4] [o 4 .mv [b true]])
     (.ret))))
def r_laws_eqFile : List RV := [.tmp 4]
def laws_eqFile_f (N : Nat) (a0_Name : List UInt8) (a0_Data : List UInt8) (a1_Name : List UInt8) (a1_Data : List UInt8) : Option (Bool) :=
  if a0_Name = a1_Name then (if a0_Data = a1_Data then some true
   else some false)
  else some false
theorem laws_eqFile_g (E : En) (hp : E.ps = []) (hr : E.rs = r_laws_eqFile) (hw : ∀ y, E.wk y = some (nocap y)) (a0_Name : List UInt8) (a0_Data : List UInt8) (a1_Name : List UInt8) (a1_Data : List UInt8) : G E c_laws_eqFile [] ⟨slotsOf [(0, .agg [.d (sD a0_Name), .d (sD a0_Data)]), (1, .agg [.d (sD a1_Name), .d (sD a1_Data)])], obsOf []⟩ = (laws_eqFile_f E.n a0_Name a0_Data a1_Name a1_Data).bind fun r => some (.ret (.d (.bool r)) []) := by
  simp (config := {maxSteps := 2000000}) only [↓rPre, rPost, rCan, rObj, rI, rS, rB, rLI, rEtc, hp, hr, hw, oid, r_laws_eqFile, ↓G_unf _ _ c_laws_eqFile.eq_1, bind_ite, laws_eqFile_f, rRow3, rFile, rRow104, rRow62, rArray, rRow27, ↓reduceIte, Nat.reduceMul, Nat.reduceAdd, Nat.reduceSub, Nat.reduceEqDiff, Nat.reduceBEq, Nat.reduceLeDiff, Nat.zero_add, Nat.add_zero, Bool.not_true, Bool.not_false, Bool.and_true, Bool.true_and, Bool.and_false, Bool.false_and, Bool.and_self, Bool.or_false, Bool.false_or, Bool.or_true, Bool.true_or, Bool.or_self, decide_eq_true_eq, Bool.not_eq_true', Bool.not_eq_eq_eq_not, decide_eq_false_iff_not, ite_not, List.nil_append, List.append_nil, and_self, and_true, true_and, Bool.false_eq_true, decide_true, decide_false, List.cons_append, reduceCtorEq, Int.reduceNeg, Int.reduceEq, Int.reduceLT, Int.reduceLE, not_true_eq_false, not_false_eq_true, eq_self]
-- loop.example/s02135/laws.eqFileS
def b0_laws_eqFileS : Cd :=
  sq (sq (r [0, 1, 5, 14] [o 11 .mv [t 5], o 12 .mv [t 0], o 13 (.len false) [t 12], o 14 (.bin .lss) [t 11, t 13]])
   (.cond (t 14) (.skip) (.exit 0)))
  (sq (.block 1 (sq (rd [] [0, 1, 5, 26] [o 17 .mv [t 0], o 18 .mv [t 5], o 19 (.ia 2) [t 17, t 18], o 20 (.ld (some 2)) [t 19], o 21 .mv [t 1], o 22 .mv [t 5], o 23 (.ia 2) [t 21, t 22], o 24 (.ld (some 2)) [t 23], o 25 (.call 125) [t 20, t 24], o 26 .not [t 25]])
     (.cond (t 26) (sq (r [4] [o 4 .mv [b false]])
       (.ret)) (.skip))))
   (r [0, 1, 5] [o 15 .mv [t 5], o 16 (.bin .add) [t 15, i 1], o 5 .mv [t 16]]))
def k1_laws_eqFileS : Cd :=
  sq (r [4] [o 4 .mv [b true]])
  (.ret)
def c_laws_eqFileS : Cd :=
  sq (r [0, 1] [o 4 .mv [b false]])
  (sq (sq (r [0, 1, 10] [o 6 .mv [t 0], o 7 (.len false) [t 6], o 8 .mv [t 1], o 9 (.len false) [t 8], o 10 (.bin .neq) [t 7, t 9]])
    (.cond (t 10) (sq (r [4] [o 4 .mv [b false]])
      (.ret)) (.skip)))
   (sq (sq (r [0, 1, 5] [o 5 .mv [i 0]])
     (.block 0 (.loop [0, 1, 5] b0_laws_eqFileS))) k1_laws_eqFileS))
def r_laws_eqFileS : List RV := [.tmp 4]
def laws_eqFileS_l0 (L_laws_eqFile : (List UInt8) → (List UInt8) → (List UInt8) → (List UInt8) → Option (Bool)) : Nat → (List TFile) → (List TFile) → Int → Option (Bool)
  | 0, _, _, _ => none
  | m0 + 1, x0, x1, x5 =>
    if x5 < (↑(List.length x0) : Int) then ((idx x0 x5).bind fun y0 =>
     (idx x1 x5).bind fun y1 =>
     (L_laws_eqFile y0.Name y0.Data y1.Name y1.Data).bind fun y2 =>
     if y2 = false then some false
     else laws_eqFileS_l0 L_laws_eqFile m0 x0 x1 (w64 (x5 + 1)))
    else some true
def laws_eqFileS_f (L_laws_eqFile : (List UInt8) → (List UInt8) → (List UInt8) → (List UInt8) → Option (Bool)) (N : Nat) (a0 : List TFile) (a1 : List TFile) : Option (Bool) :=
  if (↑(List.length a0) : Int) = (↑(List.length a1) : Int) then laws_eqFileS_l0 L_laws_eqFile N a0 a1 0
  else some false
theorem laws_eqFileS_l0_eq (E : En) (hp : E.ps = []) (hr : E.rs = r_laws_eqFileS) (hw : ∀ y, E.wk y = some (nocap y)) (L_laws_eqFile : (List UInt8) → (List UInt8) → (List UInt8) → (List UInt8) → Option (Bool)) (h_laws_eqFile : ∀ (a0_Name : List UInt8) (a0_Data : List UInt8) (a1_Name : List UInt8) (a1_Data : List UInt8), E.Γ 125 [.agg [.d (sD a0_Name), .d (sD a0_Data)], .agg [.d (sD a1_Name), .d (sD a1_Data)]] = (L_laws_eqFile a0_Name a0_Data a1_Name a1_Data).bind fun r => some (.ret (.d (.bool r)) [])) : ∀ (m0 : Nat) (x0 : List TFile) (x1 : List TFile) (x5 : Int), gH E [0, 1, 5] b0_laws_eqFileS [KJ.b 0, KJ.c k1_laws_eqFileS] m0 ⟨slotsOf [(0, .d (lstT (cFile) x0)), (1, .d (lstT (cFile) x1)), (5, .d (.int .i64 x5))], obsOf []⟩ = (laws_eqFileS_l0 L_laws_eqFile m0 x0 x1 x5).bind fun r => some (.ret (.d (.bool r)) []) := by
  intro m0
  induction m0 with
  | zero => intros; rfl
  | succ m0 ih =>
    intros
    simp (config := {maxSteps := 2000000}) only [↓rPre, rPost, rCan, rObj, rI, rS, rB, rLI, rEtc, hp, hr, hw, oid, r_laws_eqFileS, ↓G_unf _ _ b0_laws_eqFileS.eq_1, ↓G_unf _ _ k1_laws_eqFileS.eq_1, ↓G_unf _ _ c_laws_eqFileS.eq_1, h_laws_eqFile, gH_succ, ih, bind_ite, laws_eqFileS_l0, rRow3, rFile, rRow104, rRow62, rArray, rRow27, ↓reduceIte, Nat.reduceMul, Nat.reduceAdd, Nat.reduceSub, Nat.reduceEqDiff, Nat.reduceBEq, Nat.reduceLeDiff, Nat.zero_add, Nat.add_zero, Bool.not_true, Bool.not_false, Bool.and_true, Bool.true_and, Bool.and_false, Bool.false_and, Bool.and_self, Bool.or_false, Bool.false_or, Bool.or_true, Bool.true_or, Bool.or_self, decide_eq_true_eq, Bool.not_eq_true', Bool.not_eq_eq_eq_not, decide_eq_false_iff_not, ite_not, List.nil_append, List.append_nil, and_self, and_true, true_and, Bool.false_eq_true, decide_true, decide_false, List.cons_append, reduceCtorEq, Int.reduceNeg, Int.reduceEq, Int.reduceLT, Int.reduceLE, not_true_eq_false, not_false_eq_true, eq_self]
theorem laws_eqFileS_g (E : En) (hp : E.ps = []) (hr : E.rs = r_laws_eqFileS) (hw : ∀ y, E.wk y = some (nocap y)) (L_laws_eqFile : (List UInt8) → (List UInt8) → (List UInt8) → (List UInt8) → Option (Bool)) (h_laws_eqFile : ∀ (a0_Name : List UInt8) (a0_Data : List UInt8) (a1_Name : List UInt8) (a1_Data : List UInt8), E.Γ 125 [.agg [.d (sD a0_Name), .d (sD a0_Data)], .agg [.d (sD a1_Name), .d (sD a1_Data)]] = (L_laws_eqFile a0_Name a0_Data a1_Name a1_Data).bind fun r => some (.ret (.d (.bool r)) [])) (a0 : List TFile) (a1 : List TFile) : G E c_laws_eqFileS [] ⟨slotsOf [(0, .d (lstT cFile a0)), (1, .d (lstT cFile a1))], obsOf []⟩ = (laws_eqFileS_f L_laws_eqFile E.n a0 a1).bind fun r => some (.ret (.d (.bool r)) []) := by
  simp (config := {maxSteps := 2000000}) only [↓rPre, rPost, rCan, rObj, rI, rS, rB, rLI, rEtc, hp, hr, hw, oid, r_laws_eqFileS, ↓G_unf _ _ b0_laws_eqFileS.eq_1, ↓G_unf _ _ k1_laws_eqFileS.eq_1, ↓G_unf _ _ c_laws_eqFileS.eq_1, h_laws_eqFile, bind_ite, laws_eqFileS_f, laws_eqFileS_l0_eq E hp hr hw L_laws_eqFile h_laws_eqFile, rRow3, rFile, rRow104, rRow62, rArray, rRow27, ↓reduceIte, Nat.reduceMul, Nat.reduceAdd, Nat.reduceSub, Nat.reduceEqDiff, Nat.reduceBEq, Nat.reduceLeDiff, Nat.zero_add, Nat.add_zero, Bool.not_true, Bool.not_false, Bool.and_true, Bool.true_and, Bool.and_false, Bool.false_and, Bool.and_self, Bool.or_false, Bool.false_or, Bool.or_true, Bool.true_or, Bool.or_self, decide_eq_true_eq, Bool.not_eq_true', Bool.not_eq_eq_eq_not, decide_eq_false_iff_not, ite_not, List.nil_append, List.append_nil, and_self, and_true, true_and, Bool.false_eq_true, decide_true, decide_false, List.cons_append, reduceCtorEq, Int.reduceNeg, Int.reduceEq, Int.reduceLT, Int.reduceLE, not_true_eq_false, not_false_eq_true, eq_self]
-- loop.example/s02135/laws.eqDisk
def c_laws_eqDisk : Cd :=
  sq (r [2, 3] [o 2 .box [t 0], o 3 .box [t 1], o 4 .mv [b false]])
  (sq (sq (r [10] [o 5 (.fa 0) [t 2], o 6 (.ld none) [t 5], o 7 (.fa 0) [t 3], o 8 (.ld none) [t 7], o 9 (.call 56) [t 6, t 8], o 10 .not [t 9]])
    (.cond (t 10) (sq (r [4] [o 4 .mv [b false]])
      (.ret)) (.skip)))
   (sq (r [4] [o 4 .mv [b true]])
    (.ret)))
def r_laws_eqDisk : List RV := [.tmp 4]
def laws_eqDisk_f (L_laws_eqFileS : (List TFile) → (List TFile) → Option (Bool)) (N : Nat) (a0_Files : List TFile) (a1_Files : List TFile) : Option (Bool) :=
  (L_laws_eqFileS a0_Files a1_Files).bind fun y0 =>
  if y0 = false then some false
  else some true
theorem laws_eqDisk_g (E : En) (hp : E.ps = []) (hr : E.rs = r_laws_eqDisk) (hw : ∀ y, E.wk y = some (nocap y)) (L_laws_eqFileS : (List TFile) → (List TFile) → Option (Bool)) (h_laws_eqFileS : ∀ (a0 : List TFile) (a1 : List TFile), E.Γ 56 [.d (lstT cFile a0), .d (lstT cFile a1)] = (L_laws_eqFileS a0 a1).bind fun r => some (.ret (.d (.bool r)) [])) (a0_Files : List TFile) (a1_Files : List TFile) : G E c_laws_eqDisk [] ⟨slotsOf [(0, .agg [.d (lstT cFile a0_Files)]), (1, .agg [.d (lstT cFile a1_Files)])], obsOf []⟩ = (laws_eqDisk_f L_laws_eqFileS E.n a0_Files a1_Files).bind fun r => some (.ret (.d (.bool r)) []) := by
  simp (config := {maxSteps := 2000000}) only [↓rPre, rPost, rCan, rObj, rI, rS, rB, rLI, rEtc, hp, hr, hw, oid, r_laws_eqDisk, ↓G_unf _ _ c_laws_eqDisk.eq_1, h_laws_eqFileS, bind_ite, laws_eqDisk_f, rRow3, rFile, rRow104, rRow62, rArray, rRow27, ↓reduceIte, Nat.reduceMul, Nat.reduceAdd, Nat.reduceSub, Nat.reduceEqDiff, Nat.reduceBEq, Nat.reduceLeDiff, Nat.zero_add, Nat.add_zero, Bool.not_true, Bool.not_false, Bool.and_true, Bool.true_and, Bool.and_false, Bool.false_and, Bool.and_self, Bool.or_false, Bool.false_or, Bool.or_true, Bool.true_or, Bool.or_self, decide_eq_true_eq, Bool.not_eq_true', Bool.not_eq_eq_eq_not, decide_eq_false_iff_not, ite_not, List.nil_append, List.append_nil, and_self, and_true, true_and, Bool.false_eq_true, decide_true, decide_false, List.cons_append, reduceCtorEq, Int.reduceNeg, Int.reduceEq, Int.reduceLT, Int.reduceLE, not_true_eq_false, not_false_eq_true, eq_self]
-- loop.example/s02135/laws.FnExactDiskOk
def c_laws_FnExactDiskOk : Cd :=
  sq (r [1] [o 1 .box [t 0], o 2 .mv [b false]])
  (sq (r [1, 3] [o 3 .mv [i 1048576]])
   (sq (r [1, 3] [o 7 (.ld (some 1)) [t 1], o 8 .mv [t 3], o 9 (.call 19) [t 7, t 8], o 3 .mv [t 9]])
    (sq (sq (r [1, 11] [o 10 .mv [t 3], o 11 (.bin .lss) [t 10, i 0]])
      (.cond (t 11) (sq (r [2] [o 2 .mv [b true]])
        (.ret)) (.skip)))
     (sq (r [1, 4] [o 12 (.ld (some 1)) [t 1], o 13 (.call 21) [t 12], o 14 (.call 20) [t 13], o 4 .mv [t 14]])
      (sq (r [1, 4, 5] [o 15 (.ld (some 1)) [t 1], o 16 (.call 21) [t 15], o 5 (.alloc [.nil]) [], e (.st 1) [t 5, t 16]])
       (sq (r [1, 4, 5, 6] [o 17 (.ld (some 1)) [t 5], o 18 (.call 22) [t 17], o 6 .mv [t 18]])
        (sq (sq (r [1, 5, 21] [o 19 .mv [t 6], o 20 .mv [t 4], o 21 (.beq true) [t 19, t 20]])
          (.cond (t 21) (sq (r [2] [o 2 .mv [b false]])
            (.ret)) (.skip)))
         (sq (sq (rd [5] [26] [o 22 (.ld (some 1)) [t 5], o 23 (.ld (some 1)) [t 1], o 24 (.call 21) [t 23], o 25 (.call 23) [t 22, t 24], o 26 .not [t 25]])
           (.cond (t 26) (sq (r [2] [o 2 .mv [b false]])
             (.ret)) (.skip)))
          (sq (r [2] [o 2 .mv [b true]])
           (.ret))))))))))
def r_laws_FnExactDiskOk : List RV := [.tmp 2]
def laws_FnExactDiskOk_f (L_laws_szDisk : (List TFile) → Int → Option (Int)) (L_laws_toDisk : (List TFile) → Option (List TFile)) (L_spec_DiskOk : (List TFile) → Option (Bool)) (L_impl_DiskOk : (List TFile) → Option (Bool)) (L_laws_eqDisk : (List TFile) → (List TFile) → Option (Bool)) (N : Nat) (a0_Files : List TFile) : Option (Bool) :=
  (L_laws_szDisk a0_Files 1048576).bind fun y0 =>
  if y0 < 0 then some true
  else ((L_laws_toDisk a0_Files).bind fun y1 =>
   (L_spec_DiskOk y1).bind fun y2 =>
   (L_laws_toDisk a0_Files).bind fun y3 =>
   (L_impl_DiskOk y3).bind fun y4 =>
   if (y4 == y2) = false then some false
   else ((L_laws_toDisk a0_Files).bind fun y5 =>
    (L_laws_eqDisk y3 y5).bind fun y6 =>
    if y6 = false then some false
    else some true))
theorem laws_FnExactDiskOk_g (E : En) (hp : E.ps = []) (hr : E.rs = r_laws_FnExactDiskOk) (hw : ∀ y, E.wk y = some (nocap y)) (L_laws_szDisk : (List TFile) → Int → Option (Int)) (h_laws_szDisk : ∀ (a0_Files : List TFile) (a1 : Int), E.Γ 19 [.agg [.d (lstT cFile a0_Files)], .d (.int .i64 a1)] = (L_laws_szDisk a0_Files a1).bind fun r => some (.ret (.d (.int .i64 r)) [])) (L_laws_toDisk : (List TFile) → Option (List TFile)) (h_laws_toDisk : ∀ (a0_Files : List TFile), E.Γ 21 [.agg [.d (lstT cFile a0_Files)]] = (L_laws_toDisk a0_Files).bind fun r => some (.ret (.agg [ownT (cFile) 62 none false r]) [])) (L_spec_DiskOk : (List TFile) → Option (Bool)) (h_spec_DiskOk : ∀ (a0_Files : List TFile), E.Γ 20 [.agg [.d (lstT cFile a0_Files)]] = (L_spec_DiskOk a0_Files).bind fun r => some (.ret (.d (.bool r)) [])) (L_impl_DiskOk : (List TFile) → Option (Bool)) (h_impl_DiskOk : ∀ (a0_Files : List TFile), E.Γ 22 [.agg [.d (lstT cFile a0_Files)]] = (L_impl_DiskOk a0_Files).bind fun r => some (.ret (.d (.bool r)) [])) (L_laws_eqDisk : (List TFile) → (List TFile) → Option (Bool)) (h_laws_eqDisk : ∀ (a0_Files : List TFile) (a1_Files : List TFile), E.Γ 23 [.agg [.d (lstT cFile a0_Files)], .agg [.d (lstT cFile a1_Files)]] = (L_laws_eqDisk a0_Files a1_Files).bind fun r => some (.ret (.d (.bool r)) [])) (a0_Files : List TFile) : G E c_laws_FnExactDiskOk [] ⟨slotsOf [(0, .agg [.d (lstT cFile a0_Files)])], obsOf []⟩ = (laws_FnExactDiskOk_f L_laws_szDisk L_laws_toDisk L_spec_DiskOk L_impl_DiskOk L_laws_eqDisk E.n a0_Files).bind fun r => some (.ret (.d (.bool r)) []) := by
  simp (config := {maxSteps := 2000000}) only [↓rPre, rPost, rCan, rObj, rI, rS, rB, rLI, rEtc, hp, hr, hw, oid, r_laws_FnExactDiskOk, ↓G_unf _ _ c_laws_FnExactDiskOk.eq_1, h_laws_szDisk, h_laws_toDisk, h_spec_DiskOk, h_impl_DiskOk, h_laws_eqDisk, bind_ite, laws_FnExactDiskOk_f, rRow3, rFile, rRow104, rRow62, rArray, rRow27, ↓reduceIte, Nat.reduceMul, Nat.reduceAdd, Nat.reduceSub, Nat.reduceEqDiff, Nat.reduceBEq, Nat.reduceLeDiff, Nat.zero_add, Nat.add_zero, Bool.not_true, Bool.not_false, Bool.and_true, Bool.true_and, Bool.and_false, Bool.false_and, Bool.and_self, Bool.or_false, Bool.false_or, Bool.or_true, Bool.true_or, Bool.or_self, decide_eq_true_eq, Bool.not_eq_true', Bool.not_eq_eq_eq_not, decide_eq_false_iff_not, ite_not, List.nil_append, List.append_nil, and_self, and_true, true_and, Bool.false_eq_true, decide_true, decide_false, List.cons_append, reduceCtorEq, Int.reduceNeg, Int.reduceEq, Int.reduceLT, Int.reduceLE, not_true_eq_false, not_false_eq_true, eq_self]
end Go.Vm
