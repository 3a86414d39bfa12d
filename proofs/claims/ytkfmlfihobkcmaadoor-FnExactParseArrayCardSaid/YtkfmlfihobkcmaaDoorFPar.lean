/- The functions under laws_FnExactParseArray: the abstract machine's codes, and what they come to in plain terms. Printed by a program of this session. -/
import Derived.Test.YtkfmlfihobkcmaaDoorVmKind
set_option linter.all false
set_option maxRecDepth 100000
set_option maxHeartbeats 4000000
namespace Go.Vm
structure TVerdict where
  Kind : Int
  Code : Int
  deriving DecidableEq
def encVerdict (x : TVerdict) : List D := [.int .i64 x.Kind, .int .i64 x.Code]
def decVerdict : List D → Option TVerdict
  | [.int .i64 a0, .int .i64 a1] => some ⟨a0, a1⟩
  | _ => none
theorem decVerdict_ok : ∀ xs x, decVerdict xs = some x → xs = encVerdict x := by
  intro xs x h
  unfold decVerdict at h
  split at h
  · cases h; rfl
  · cases h
def cVerdict : Enc TVerdict := ⟨2, encVerdict, decVerdict, fun _ => rfl, by decide, decVerdict_ok, fun _ => rfl⟩
theorem cVerdict_enc (x : TVerdict) : cVerdict.enc x = [.int .i64 x.Kind, .int .i64 x.Code] := rfl
theorem cVerdict_dec (x_Kind : Int) (x_Code : Int) : cVerdict.dec [.int .i64 x_Kind, .int .i64 x_Code] = some ⟨x_Kind, x_Code⟩ := cVerdict.edc ⟨x_Kind, x_Code⟩
theorem cVerdict_dec1 (a : D) : cVerdict.dec [a] = none := by cases a <;> first | rfl | (rename_i k n; cases k <;> rfl)
def rVerdict := And.intro (cVerdict_dec1) <| And.intro (rKind cVerdict 2 rfl) <| And.intro (cVerdict_enc) <| And.intro (cVerdict_dec) <| And.intro (plain_T cVerdict (fun _ => rfl)) <| And.intro ((fun l m => k_get cVerdict 2 l m 1 (by decide) rfl)) <| And.intro ((fun e cap l m xs z hz => k_part' cVerdict 2 e cap l m 1 xs z hz rfl)) <| And.intro (k_getK cVerdict 1 2 rfl) <| (k_getK cVerdict 2 4 rfl)
structure TTest where
  In_Shape : List Int
  In_Data : List Int
  Want_Shape : List Int
  Want_Data : List Int
  deriving DecidableEq
def encTest (x : TTest) : List D := [lstT cI x.In_Shape, lstT cI x.In_Data, lstT cI x.Want_Shape, lstT cI x.Want_Data]
def decTest : List D → Option TTest
  | [d0, d1, d2, d3] => (decL cI d0).bind fun a0 => (decL cI d1).bind fun a1 => (decL cI d2).bind fun a2 => (decL cI d3).bind fun a3 => some ⟨a0, a1, a2, a3⟩
  | _ => none
theorem decTest_ok : ∀ xs x, decTest xs = some x → xs = encTest x := by
  intro xs x h
  unfold decTest at h
  split at h
  · have hh := Option.bind_eq_some_iff.mp h; clear h; obtain ⟨a0, h0, h⟩ := hh; have e0 := decL_ok h0; clear h0; subst e0; have hh := Option.bind_eq_some_iff.mp h; clear h; obtain ⟨a1, h1, h⟩ := hh; have e1 := decL_ok h1; clear h1; subst e1; have hh := Option.bind_eq_some_iff.mp h; clear h; obtain ⟨a2, h2, h⟩ := hh; have e2 := decL_ok h2; clear h2; subst e2; have hh := Option.bind_eq_some_iff.mp h; clear h; obtain ⟨a3, h3, h⟩ := hh; have e3 := decL_ok h3; clear h3; subst e3; cases h; rfl
  · cases h
def cTest : Enc TTest := ⟨4, encTest, decTest, fun _ => rfl, by decide, decTest_ok, fun x => by simp only [encTest, decTest, decL_T, Option.bind_some]⟩
theorem cTest_enc (x : TTest) : cTest.enc x = [lstT cI x.In_Shape, lstT cI x.In_Data, lstT cI x.Want_Shape, lstT cI x.Want_Data] := rfl
theorem cTest_dec (x_In_Shape : List Int) (x_In_Data : List Int) (x_Want_Shape : List Int) (x_Want_Data : List Int) : cTest.dec [lstT cI x_In_Shape, lstT cI x_In_Data, lstT cI x_Want_Shape, lstT cI x_Want_Data] = some ⟨x_In_Shape, x_In_Data, x_Want_Shape, x_Want_Data⟩ := cTest.edc ⟨x_In_Shape, x_In_Data, x_Want_Shape, x_Want_Data⟩
theorem cTest_dec1 (a : D) : cTest.dec [a] = none := by cases a <;> first | rfl | (rename_i k n; cases k <;> rfl)
def rTest := And.intro (cTest_dec1) <| And.intro (rKind cTest 4 rfl) <| And.intro (cTest_enc) <| And.intro (cTest_dec) <| And.intro (plain_N cTest) <| And.intro ((fun l m => k_get cTest 4 l m 1 (by decide) rfl)) <| And.intro ((fun e cap l m xs z hz => k_part' cTest 4 e cap l m 1 xs z hz rfl)) <| And.intro ((fun l m => k_get cTest 4 l m 2 (by decide) rfl)) <| And.intro ((fun e cap l m xs z hz => k_part' cTest 4 e cap l m 2 xs z hz rfl)) <| And.intro ((fun l m => k_get cTest 4 l m 3 (by decide) rfl)) <| And.intro ((fun e cap l m xs z hz => k_part' cTest 4 e cap l m 3 xs z hz rfl)) <| And.intro (k_getK cTest 1 4 rfl) <| (k_getK cTest 2 8 rfl)
def rRow3 := rRow cI 3 1 rfl [iD 0] 0 rfl
def rRow51 := rRow cVerdict 51 2 rfl [iD 0, iD 0] ⟨0, 0⟩ rfl
def rRow63 := rRow cTest 63 4 rfl [.lst 0 [], .lst 0 [], .lst 0 [], .lst 0 []] ⟨[], [], [], []⟩ rfl
def rRow9 := rRow cS 9 1 rfl [sD []] [] rfl
def rRow5 := rRow c8 5 1 rfl [.int .u8 0] 0 rfl
def rMap83 := rMapS cI 83 none rfl [iD 0] 0 rfl
/-- the types of elements that lead to no memory -/
def flatIds (e : Nat) : Bool := e == 3 || e == 51 || e == 9 || e == 5
-- loop.example/s02135/spec.l1Cut
def b0_spec_l1Cut : Cd :=
  sq (sq (r [0, 1, 5, 6, 7, 12] [o 9 .mv [t 7], o 10 .mv [t 0], o 11 (.len true) [t 10], o 12 (.bin .leq) [t 9, t 11]])
   (.cond (t 12) (.skip) (.exit 0)))
  (sq (.block 1 (sq (r [0, 1, 5, 6, 7, 25] [o 15 .mv [t 7], o 16 .mv [t 0], o 17 (.len true) [t 16], o 18 (.bin .eql) [t 15, t 17], o 19 .mv [t 18], g 19 false 20 .mv [t 0], g 19 false 21 .mv [t 7], g 19 false 22 .ixs [t 20, t 21], g 19 false 23 .mv [t 1], g 19 false 24 (.bin .eql) [t 22, t 23], o 25 .pick [t 19, b true, t 24]])
     (.cond (t 25) (sq (r [0, 1, 5, 7] [o 26 .mv [t 5], o 27 .mv [t 0], o 28 .mv [t 6], o 29 .mv [t 7], o 30 (.slc true 1 true true) [t 27, t 28, t 29], o 31 (lit 9 1 1) [t 30], o 32 (.app 9 1 16) [t 26, t 31], o 5 .mv [t 32]])
       (r [0, 1, 5, 6, 7] [o 33 .mv [t 7], o 34 (.bin .add) [t 33, i 1], o 6 .mv [t 34]])) (.skip))))
   (r [0, 1, 5, 6, 7] [o 13 .mv [t 7], o 14 (.bin .add) [t 13, i 1], o 7 .mv [t 14]]))
def k1_spec_l1Cut : Cd :=
  sq (r [4] [o 35 .mv [t 5], o 4 .mv [t 35]])
  (.ret)
def c_spec_l1Cut : Cd :=
  sq (r [0, 1] [o 4 .mv [n]])
  (sq (r [0, 1, 5] [o 8 (lit 9 1 0) [], o 5 .mv [t 8]])
   (sq (r [0, 1, 5, 6] [o 6 .mv [i 0]])
    (sq (sq (r [0, 1, 5, 6, 7] [o 7 .mv [i 0]])
      (.block 0 (.loop [0, 1, 5, 6, 7] b0_spec_l1Cut))) k1_spec_l1Cut)))
def r_spec_l1Cut : List RV := [.tmp 4]
def spec_l1Cut_l0 : Nat → (List UInt8) → Int → Int → Int → (List (List UInt8)) → Option (List (List UInt8))
  | 0, _, _, _, _, _ => none
  | m0 + 1, x0, x1, x6, x7, o320 =>
    if x7 ≤ (↑(List.length x0) : Int) then (if x7 = (↑(List.length x0) : Int) then ((cut x0 x6 x7).bind fun y0 =>
      if room 16 (List.length (o320 ++ [y0])) then spec_l1Cut_l0 m0 x0 x1 (w64 (x7 + 1)) (w64 (x7 + 1)) (o320 ++ [y0])
      else none)
     else ((idxB x0 x7).bind fun y1 =>
      if y1 = x1 then ((cut x0 x6 x7).bind fun y2 =>
       if room 16 (List.length (o320 ++ [y2])) then spec_l1Cut_l0 m0 x0 x1 (w64 (x7 + 1)) (w64 (x7 + 1)) (o320 ++ [y2])
       else none)
      else spec_l1Cut_l0 m0 x0 x1 x6 (w64 (x7 + 1)) o320))
    else some o320
def spec_l1Cut_f (N : Nat) (a0 : List UInt8) (a1 : Int) : Option (List (List UInt8)) :=
  spec_l1Cut_l0 N a0 a1 0 0 []
theorem spec_l1Cut_l0_eq (E : En) (hy : Hy E [] [] [] r_spec_l1Cut none (fun y => nocap y) flatIds) : ∀ (m0 : Nat) (x0 : List UInt8) (x1 : Int) (x6 : Int) (x7 : Int) (o320 : List (List UInt8)), gH E [0, 1, 5, 6, 7] b0_spec_l1Cut [KJ.b 0, KJ.c k1_spec_l1Cut] m0 ⟨slotsOf [(0, .d (sD x0)), (1, .d (.int .u8 x1)), (5, A.row 320 1), (6, .d (.int .i64 x6)), (7, .d (.int .i64 x7))], obsOf [(320, ⟨1, rowT (cS) 9 none o320, false⟩)]⟩ = (spec_l1Cut_l0 m0 x0 x1 x6 x7 o320).bind fun r => some (.ret (ownT (cS) 9 none false r) []) := by
  intro m0
  induction m0 with
  | zero => intros; rfl
  | succ m0 ih =>
    intros
    simp (config := {maxSteps := 40000000}) only [↓rPre, rPost, rCan, rObj, rI, rS, rB, r8, rLI, rLit, rEtc, hy.p, hy.l, hy.k, hy.r, hy.d, hy.w, hy.f, flatIds, oid, r_spec_l1Cut, ↓G_unf _ _ b0_spec_l1Cut.eq_1, ↓G_unf _ _ k1_spec_l1Cut.eq_1, ↓G_unf _ _ c_spec_l1Cut.eq_1, gH_succ, ih, bind_ite, spec_l1Cut_l0, rRow3, rVerdict, rRow51, rTest, rRow63, rRow9, rRow5, rMap83, rLog, ↓reduceIte, Nat.reduceMul, Nat.reduceAdd, Nat.reduceSub, Nat.reduceEqDiff, Nat.reduceBEq, Nat.reduceLeDiff, Nat.reduceLT, reduceCtorEq, Int.reduceAdd, Int.reduceSub, Int.reduceToNat, Int.reduceNeg, Int.reduceEq, Int.reduceLT, Int.reduceLE]
theorem spec_l1Cut_g (E : En) (hy : Hy E [] [] [] r_spec_l1Cut none (fun y => nocap y) flatIds) (a0 : List UInt8) (a1 : Int) : G E c_spec_l1Cut [] ⟨slotsOf [(0, .d (sD a0)), (1, .d (.int .u8 a1))], obsOf []⟩ = (spec_l1Cut_f E.n a0 a1).bind fun r => some (.ret (ownT (cS) 9 none false r) []) := by
  simp (config := {maxSteps := 40000000}) only [↓rPre, rPost, rCan, rObj, rI, rS, rB, r8, rLI, rLit, rEtc, hy.p, hy.l, hy.k, hy.r, hy.d, hy.w, hy.f, flatIds, oid, r_spec_l1Cut, ↓G_unf _ _ b0_spec_l1Cut.eq_1, ↓G_unf _ _ k1_spec_l1Cut.eq_1, ↓G_unf _ _ c_spec_l1Cut.eq_1, bind_ite, spec_l1Cut_f, spec_l1Cut_l0_eq E hy, rRow3, rVerdict, rRow51, rTest, rRow63, rRow9, rRow5, rMap83, rLog, ↓reduceIte, Nat.reduceMul, Nat.reduceAdd, Nat.reduceSub, Nat.reduceEqDiff, Nat.reduceBEq, Nat.reduceLeDiff, Nat.reduceLT, reduceCtorEq, Int.reduceAdd, Int.reduceSub, Int.reduceToNat, Int.reduceNeg, Int.reduceEq, Int.reduceLT, Int.reduceLE]
def H_spec_l1Cut (E : En) (L : (List UInt8) → Int → Option (List (List UInt8))) : Prop := E.Γ.mu 21 = false ∧ (∀ (a0 : List UInt8) (a1 : Int), E.Γ 21 [.d (sD a0), .d (.int .u8 a1)] = (L a0 a1).bind fun r => some (.ret (ownT (cS) 9 none false r) []))
-- loop.example/s02135/spec.l1Dec
def c_spec_l1Dec : Cd :=
  sq (r [0] [o 2 .mv [s []]])
  (sq (sq (r [0, 4] [o 3 .mv [t 0], o 4 (.bin .lss) [t 3, i 0]])
    (.cond (t 4) (sq (r [2] [o 5 .mv [t 0], o 6 .neg [t 5], o 7 (.call 32) [t 6], o 8 (.bin .add) [s [45], t 7], o 2 .mv [t 8]])
      (.ret)) (.skip)))
   (sq (sq (r [0, 10] [o 9 .mv [t 0], o 10 (.bin .lss) [t 9, i 10]])
     (.cond (t 10) (sq (r [2] [o 11 .mv [t 0], o 12 (.bin .add) [i 48, t 11], o 13 (.cvt .u8) [t 12], o 14 (lit 5 1 1) [t 13], o 15 .b2s [t 14], o 2 .mv [t 15]])
       (.ret)) (.skip)))
    (sq (rd [] [2] [ap [1472] false [] (o 16 .mv [t 0]), ap [1472] false [] (o 17 (.bin .quo) [t 16, i 10]), o 19 .mv [t 0], o 20 (.bin .rem) [t 19, i 10], o 21 (.bin .add) [i 48, t 20], o 22 (.cvt .u8) [t 21], ap [] true [] (o 23 (lit 5 1 1) [t 22]), o 24 .b2s [t 23], ap [1472] false [23] (o 18 (.call 32) [t 17]), o 25 (.bin .add) [t 18, t 24], o 2 .mv [t 25]])
     (.ret))))
def r_spec_l1Dec : List RV := [.tmp 2]
def H_spec_l1Dec (E : En) (L : Int → Option (List UInt8)) : Prop := E.Γ.mu 32 = false ∧ (∀ (a0 : Int), E.Γ 32 [.d (.int .i64 a0)] = (L a0).bind fun r => some (.ret (.d (sD r)) []))
def spec_l1Dec_f (L_spec_l1Dec : Int → Option (List UInt8)) (N : Nat) (a0 : Int) : Option (List UInt8) :=
  if a0 < 0 then ((L_spec_l1Dec (w64 (0 - a0))).bind fun y0 =>
   if roomS (List.length y0 + 1) then some (45 :: y0)
   else none)
  else (if a0 < 10 then some (bytes8 [Go.IntKind.wrap .u8 (w64 (48 + a0))])
   else ((L_spec_l1Dec (w64 (Int.tdiv a0 10))).bind fun y1 =>
    if roomS (List.length (y1 ++ bytes8 [Go.IntKind.wrap .u8 (w64 (48 + Int.tmod a0 10))])) then some (y1 ++ bytes8 [Go.IntKind.wrap .u8 (w64 (48 + Int.tmod a0 10))])
    else none))
theorem spec_l1Dec_g (E : En) (hy : Hy E [] [] [] r_spec_l1Dec none (fun y => nocap y) flatIds) (L_spec_l1Dec : Int → Option (List UInt8)) (h_spec_l1Dec : H_spec_l1Dec E L_spec_l1Dec) (a0 : Int) : G E c_spec_l1Dec [] ⟨slotsOf [(0, .d (.int .i64 a0))], obsOf []⟩ = (spec_l1Dec_f L_spec_l1Dec E.n a0).bind fun r => some (.ret (.d (sD r)) []) := by
  simp (config := {maxSteps := 40000000}) only [↓rPre, rPost, rCan, rObj, rI, rS, rB, r8, rLI, rLit, rEtc, hy.p, hy.l, hy.k, hy.r, hy.d, hy.w, hy.f, flatIds, oid, r_spec_l1Dec, ↓G_unf _ _ c_spec_l1Dec.eq_1, h_spec_l1Dec.2, h_spec_l1Dec.1, bind_ite, spec_l1Dec_f, rRow3, rVerdict, rRow51, rTest, rRow63, rRow9, rRow5, rMap83, rLog, ↓reduceIte, Nat.reduceMul, Nat.reduceAdd, Nat.reduceSub, Nat.reduceEqDiff, Nat.reduceBEq, Nat.reduceLeDiff, Nat.reduceLT, reduceCtorEq, Int.reduceAdd, Int.reduceSub, Int.reduceToNat, Int.reduceNeg, Int.reduceEq, Int.reduceLT, Int.reduceLE]
-- loop.example/s02135/spec.l1Num
def b0_spec_l1Num : Cd :=
  sq (sq (r [0, 4, 5, 6, 10] [o 7 .mv [t 6], o 8 .mv [t 0], o 9 (.len true) [t 8], o 10 (.bin .lss) [t 7, t 9]])
   (.cond (t 10) (.skip) (.exit 0)))
  (sq (.block 1 (sq (r [0, 4, 5, 6, 26] [o 13 .mv [t 0], o 14 .mv [t 6], o 15 .ixs [t 13, t 14], o 16 (.bin .geq) [t 15, .k (.d (.int .u8 48))], o 17 .mv [t 16], g 17 true 18 .mv [t 0], g 17 true 19 .mv [t 6], g 17 true 20 .ixs [t 18, t 19], g 17 true 21 (.bin .leq) [t 20, .k (.d (.int .u8 57))], o 22 .pick [t 17, t 21, b false], o 23 .mv [t 22], g 23 true 24 .mv [t 5], g 23 true 25 (.bin .lss) [t 24, i 10], o 26 .pick [t 23, t 25, b false]])
     (.cond (t 26) (sq (r [0, 4, 5, 6] [o 27 .mv [t 4], o 28 (.bin .mul) [t 27, i 10], o 29 .mv [t 0], o 30 .mv [t 6], o 31 .ixs [t 29, t 30], o 32 (.bin .sub) [t 31, .k (.d (.int .u8 48))], o 33 (.cvt .i64) [t 32], o 34 (.bin .add) [t 28, t 33], o 4 .mv [t 34]])
       (r [0, 4, 5, 6] [o 35 .mv [t 5], o 36 (.bin .add) [t 35, i 1], o 5 .mv [t 36]])) (sq (r [0, 4, 5, 6, 44] [o 37 .mv [t 6], o 38 (.bin .gtr) [t 37, i 0], o 39 .mv [t 38], g 39 false 40 .mv [t 0], g 39 false 41 .mv [t 6], g 39 false 42 .ixs [t 40, t 41], g 39 false 43 (.bin .neq) [t 42, .k (.d (.int .u8 45))], o 44 .pick [t 39, b true, t 43]])
       (.cond (t 44) (sq (r [2, 3] [o 2 .mv [i 0], o 3 .mv [b false]])
         (.ret)) (.skip))))))
   (r [0, 4, 5, 6] [o 11 .mv [t 6], o 12 (.bin .add) [t 11, i 1], o 6 .mv [t 12]]))
def k1_spec_l1Num : Cd :=
  sq (sq (r [0, 4, 5, 52] [o 45 .mv [t 0], o 46 (.len true) [t 45], o 47 (.bin .gtr) [t 46, i 0], o 48 .mv [t 47], g 48 true 49 .mv [t 0], g 48 true 50 .ixs [t 49, i 0], g 48 true 51 (.bin .eql) [t 50, .k (.d (.int .u8 45))], o 52 .pick [t 48, t 51, b false]])
   (.cond (t 52) (r [0, 4, 5] [o 53 .mv [t 4], o 54 .neg [t 53], o 4 .mv [t 54]]) (.skip)))
  (sq (r [2, 3] [o 55 .mv [t 4], o 56 .mv [t 5], o 57 (.bin .gtr) [t 56, i 0], o 58 .mv [t 57], g 58 true 59 .mv [t 4], g 58 true 60 (.call 32) [t 59], g 58 true 61 .mv [t 0], g 58 true 62 (.bin .eql) [t 60, t 61], o 63 .pick [t 58, t 62, b false], o 2 .mv [t 55], o 3 .mv [t 63]])
   (.ret))
def c_spec_l1Num : Cd :=
  sq (r [0] [o 2 .mv [i 0], o 3 .mv [b false]])
  (sq (r [0, 4] [o 4 .mv [i 0]])
   (sq (r [0, 4, 5] [o 5 .mv [i 0]])
    (sq (sq (r [0, 4, 5, 6] [o 6 .mv [i 0]])
      (.block 0 (.loop [0, 4, 5, 6] b0_spec_l1Num))) k1_spec_l1Num)))
def r_spec_l1Num : List RV := [.tmp 2, .tmp 3]
def spec_l1Num_l0 (L_spec_l1Dec : Int → Option (List UInt8)) : Nat → (List UInt8) → Int → Int → Int → Option (Int × Bool)
  | 0, _, _, _, _ => none
  | m0 + 1, x0, x4, x5, x6 =>
    if x6 < (↑(List.length x0) : Int) then ((idxB x0 x6).bind fun y0 =>
     if 48 ≤ y0 then ((idxB x0 x6).bind fun y1 =>
      if y1 ≤ 57 then (if x5 < 10 then ((idxB x0 x6).bind fun y2 =>
        spec_l1Num_l0 L_spec_l1Dec m0 x0 (w64 (w64 (x4 * 10) + w64 (Go.IntKind.wrap .u8 (y2 - 48)))) (w64 (x5 + 1)) (w64 (x6 + 1)))
       else (if 0 < x6 then some ((0, false))
        else ((idxB x0 x6).bind fun y3 =>
         if y3 = 45 then spec_l1Num_l0 L_spec_l1Dec m0 x0 x4 x5 (w64 (x6 + 1))
         else some ((0, false)))))
      else (if 0 < x6 then some ((0, false))
       else ((idxB x0 x6).bind fun y4 =>
        if y4 = 45 then spec_l1Num_l0 L_spec_l1Dec m0 x0 x4 x5 (w64 (x6 + 1))
        else some ((0, false)))))
     else (if 0 < x6 then some ((0, false))
      else ((idxB x0 x6).bind fun y5 =>
       if y5 = 45 then spec_l1Num_l0 L_spec_l1Dec m0 x0 x4 x5 (w64 (x6 + 1))
       else some ((0, false)))))
    else (if 0 < (↑(List.length x0) : Int) then ((idxB x0 0).bind fun y6 =>
      if y6 = 45 then (if 0 < x5 then ((L_spec_l1Dec (w64 (0 - x4))).bind fun y7 =>
        some ((w64 (0 - x4), Decidable.decide (y7 = x0))))
       else some ((w64 (0 - x4), false)))
      else (if 0 < x5 then ((L_spec_l1Dec x4).bind fun y8 =>
        some ((x4, Decidable.decide (y8 = x0))))
       else some ((x4, false))))
     else (if 0 < x5 then ((L_spec_l1Dec x4).bind fun y9 =>
       some ((x4, Decidable.decide (y9 = x0))))
      else some ((x4, false))))
def spec_l1Num_f (L_spec_l1Dec : Int → Option (List UInt8)) (N : Nat) (a0 : List UInt8) : Option (Int × Bool) :=
  spec_l1Num_l0 L_spec_l1Dec N a0 0 0 0
theorem spec_l1Num_l0_eq (E : En) (hy : Hy E [] [] [] r_spec_l1Num none (fun y => nocap y) flatIds) (L_spec_l1Dec : Int → Option (List UInt8)) (h_spec_l1Dec : H_spec_l1Dec E L_spec_l1Dec) : ∀ (m0 : Nat) (x0 : List UInt8) (x4 : Int) (x5 : Int) (x6 : Int), gH E [0, 4, 5, 6] b0_spec_l1Num [KJ.b 0, KJ.c k1_spec_l1Num] m0 ⟨slotsOf [(0, .d (sD x0)), (4, .d (.int .i64 x4)), (5, .d (.int .i64 x5)), (6, .d (.int .i64 x6))], obsOf []⟩ = (spec_l1Num_l0 L_spec_l1Dec m0 x0 x4 x5 x6).bind fun r => some (.ret (.tup [.d (.int .i64 r.1), .d (.bool r.2)]) []) := by
  intro m0
  induction m0 with
  | zero => intros; rfl
  | succ m0 ih =>
    intros
    simp (config := {maxSteps := 40000000}) only [↓rPre, rPost, rCan, rObj, rI, rS, rB, r8, rLI, rLit, rEtc, hy.p, hy.l, hy.k, hy.r, hy.d, hy.w, hy.f, flatIds, oid, r_spec_l1Num, ↓G_unf _ _ b0_spec_l1Num.eq_1, ↓G_unf _ _ k1_spec_l1Num.eq_1, ↓G_unf _ _ c_spec_l1Num.eq_1, h_spec_l1Dec.2, h_spec_l1Dec.1, gH_succ, ih, bind_ite, spec_l1Num_l0, rRow3, rVerdict, rRow51, rTest, rRow63, rRow9, rRow5, rMap83, rLog, ↓reduceIte, Nat.reduceMul, Nat.reduceAdd, Nat.reduceSub, Nat.reduceEqDiff, Nat.reduceBEq, Nat.reduceLeDiff, Nat.reduceLT, reduceCtorEq, Int.reduceAdd, Int.reduceSub, Int.reduceToNat, Int.reduceNeg, Int.reduceEq, Int.reduceLT, Int.reduceLE]
theorem spec_l1Num_g (E : En) (hy : Hy E [] [] [] r_spec_l1Num none (fun y => nocap y) flatIds) (L_spec_l1Dec : Int → Option (List UInt8)) (h_spec_l1Dec : H_spec_l1Dec E L_spec_l1Dec) (a0 : List UInt8) : G E c_spec_l1Num [] ⟨slotsOf [(0, .d (sD a0))], obsOf []⟩ = (spec_l1Num_f L_spec_l1Dec E.n a0).bind fun r => some (.ret (.tup [.d (.int .i64 r.1), .d (.bool r.2)]) []) := by
  simp (config := {maxSteps := 40000000}) only [↓rPre, rPost, rCan, rObj, rI, rS, rB, r8, rLI, rLit, rEtc, hy.p, hy.l, hy.k, hy.r, hy.d, hy.w, hy.f, flatIds, oid, r_spec_l1Num, ↓G_unf _ _ b0_spec_l1Num.eq_1, ↓G_unf _ _ k1_spec_l1Num.eq_1, ↓G_unf _ _ c_spec_l1Num.eq_1, h_spec_l1Dec.2, h_spec_l1Dec.1, bind_ite, spec_l1Num_f, spec_l1Num_l0_eq E hy L_spec_l1Dec h_spec_l1Dec, rRow3, rVerdict, rRow51, rTest, rRow63, rRow9, rRow5, rMap83, rLog, ↓reduceIte, Nat.reduceMul, Nat.reduceAdd, Nat.reduceSub, Nat.reduceEqDiff, Nat.reduceBEq, Nat.reduceLeDiff, Nat.reduceLT, reduceCtorEq, Int.reduceAdd, Int.reduceSub, Int.reduceToNat, Int.reduceNeg, Int.reduceEq, Int.reduceLT, Int.reduceLE]
def H_spec_l1Num (E : En) (L : (List UInt8) → Option (Int × Bool)) : Prop := E.Γ.mu 44 = false ∧ (∀ (a0 : List UInt8), E.Γ 44 [.d (sD a0)] = (L a0).bind fun r => some (.ret (.tup [.d (.int .i64 r.1), .d (.bool r.2)]) []))
-- loop.example/s02135/spec.l1Nums
def b0_spec_l1Nums : Cd :=
  sq (sq (r [4, 5, 6, 18] [o 15 .mv [t 6], o 16 .mv [t 5], o 17 (.len false) [t 16], o 18 (.bin .lss) [t 15, t 17]])
   (.cond (t 18) (.skip) (.exit 0)))
  (sq (.block 1 (sq (r [4, 5, 6, 7, 8] [o 22 .mv [t 5], o 23 .mv [t 6], o 24 (.ia 1) [t 22, t 23], o 25 (.ld none) [t 24], o 26 (.call 44) [t 25], o 21 .mv [t 26], o 27 (.ext 0) [t 21], o 28 (.ext 1) [t 21], o 7 .mv [t 27], o 8 .mv [t 28]])
     (sq (sq (r [4, 5, 6, 7, 30] [o 29 .mv [t 8], o 30 .not [t 29]])
       (.cond (t 30) (sq (r [2, 3] [o 31 .mv [t 4], o 2 .mv [t 31], o 3 .mv [b false]])
         (.ret)) (.skip)))
      (r [4, 5, 6] [o 32 .mv [t 4], o 33 .mv [t 7], o 34 (lit 3 1 1) [t 33], o 35 (.app 3 1 8) [t 32, t 34], o 4 .mv [t 35]]))))
   (r [4, 5, 6] [o 19 .mv [t 6], o 20 (.bin .add) [t 19, i 1], o 6 .mv [t 20]]))
def k1_spec_l1Nums : Cd :=
  sq (r [2, 3] [o 36 .mv [t 4], o 2 .mv [t 36], o 3 .mv [b true]])
  (.ret)
def c_spec_l1Nums : Cd :=
  sq (r [0] [o 2 .mv [n], o 3 .mv [b false]])
  (sq (r [0, 4] [o 9 (lit 3 1 0) [], o 4 .mv [t 9]])
   (sq (sq (r [0, 4, 11] [o 10 .mv [t 0], o 11 (.bin .eql) [t 10, s []]])
     (.cond (t 11) (sq (r [2, 3] [o 12 .mv [t 4], o 2 .mv [t 12], o 3 .mv [b true]])
       (.ret)) (.skip)))
    (sq (r [4, 5] [o 13 .mv [t 0], o 14 (.call 21) [t 13, .k (.d (.int .u8 32))], o 5 .mv [t 14]])
     (sq (sq (r [4, 5, 6] [o 6 .mv [i 0]])
       (.block 0 (.loop [4, 5, 6] b0_spec_l1Nums))) k1_spec_l1Nums))))
def r_spec_l1Nums : List RV := [.tmp 2, .tmp 3]
def spec_l1Nums_l0 (L_spec_l1Cut : (List UInt8) → Int → Option (List (List UInt8))) (L_spec_l1Num : (List UInt8) → Option (Int × Bool)) : Nat → Int → (List Int) → (List (List UInt8)) → Option (List Int × Bool)
  | 0, _, _, _ => none
  | m0 + 1, x6, o256, o320 =>
    if x6 < (↑(List.length o320) : Int) then (if 0 ≤ x6 ∧ x6 < (↑(List.length o320) : Int) then ((o320[Int.toNat x6]?).bind fun y0 =>
      (L_spec_l1Num y0).bind fun y1 =>
      if y1.snd = false then some ((o256, false))
      else (if room 8 (List.length (o256 ++ [y1.fst])) then spec_l1Nums_l0 L_spec_l1Cut L_spec_l1Num m0 (w64 (x6 + 1)) (o256 ++ [y1.fst]) o320
       else none))
     else none)
    else some ((o256, true))
def spec_l1Nums_f (L_spec_l1Cut : (List UInt8) → Int → Option (List (List UInt8))) (L_spec_l1Num : (List UInt8) → Option (Int × Bool)) (N : Nat) (a0 : List UInt8) : Option (List Int × Bool) :=
  if a0 = [] then some (([], true))
  else ((L_spec_l1Cut a0 32).bind fun y0 =>
   spec_l1Nums_l0 L_spec_l1Cut L_spec_l1Num N 0 [] y0)
theorem spec_l1Nums_l0_eq (E : En) (hy : Hy E [] [] [] r_spec_l1Nums none (fun y => nocap y) flatIds) (L_spec_l1Cut : (List UInt8) → Int → Option (List (List UInt8))) (h_spec_l1Cut : H_spec_l1Cut E L_spec_l1Cut) (L_spec_l1Num : (List UInt8) → Option (Int × Bool)) (h_spec_l1Num : H_spec_l1Num E L_spec_l1Num) : ∀ (m0 : Nat) (x6 : Int) (o256 : List Int) (o320 : List (List UInt8)), gH E [4, 5, 6] b0_spec_l1Nums [KJ.b 0, KJ.c k1_spec_l1Nums] m0 ⟨slotsOf [(4, A.row 256 1), (5, A.row 320 1), (6, .d (.int .i64 x6))], obsOf [(256, ⟨1, rowT (cI) 3 none o256, false⟩), (320, ⟨1, rowT (cS) 9 none o320, false⟩)]⟩ = (spec_l1Nums_l0 L_spec_l1Cut L_spec_l1Num m0 x6 o256 o320).bind fun r => some (.ret (.tup [ownT (cI) 3 none false r.1, .d (.bool r.2)]) []) := by
  intro m0
  induction m0 with
  | zero => intros; rfl
  | succ m0 ih =>
    intros
    simp (config := {maxSteps := 40000000}) only [↓rPre, rPost, rCan, rObj, rI, rS, rB, r8, rLI, rLit, rEtc, hy.p, hy.l, hy.k, hy.r, hy.d, hy.w, hy.f, flatIds, oid, r_spec_l1Nums, ↓G_unf _ _ b0_spec_l1Nums.eq_1, ↓G_unf _ _ k1_spec_l1Nums.eq_1, ↓G_unf _ _ c_spec_l1Nums.eq_1, h_spec_l1Cut.2, h_spec_l1Cut.1, h_spec_l1Num.2, h_spec_l1Num.1, gH_succ, ih, bind_ite, spec_l1Nums_l0, rRow3, rVerdict, rRow51, rTest, rRow63, rRow9, rRow5, rMap83, rLog, ↓reduceIte, Nat.reduceMul, Nat.reduceAdd, Nat.reduceSub, Nat.reduceEqDiff, Nat.reduceBEq, Nat.reduceLeDiff, Nat.reduceLT, reduceCtorEq, Int.reduceAdd, Int.reduceSub, Int.reduceToNat, Int.reduceNeg, Int.reduceEq, Int.reduceLT, Int.reduceLE]
theorem spec_l1Nums_g (E : En) (hy : Hy E [] [] [] r_spec_l1Nums none (fun y => nocap y) flatIds) (L_spec_l1Cut : (List UInt8) → Int → Option (List (List UInt8))) (h_spec_l1Cut : H_spec_l1Cut E L_spec_l1Cut) (L_spec_l1Num : (List UInt8) → Option (Int × Bool)) (h_spec_l1Num : H_spec_l1Num E L_spec_l1Num) (a0 : List UInt8) : G E c_spec_l1Nums [] ⟨slotsOf [(0, .d (sD a0))], obsOf []⟩ = (spec_l1Nums_f L_spec_l1Cut L_spec_l1Num E.n a0).bind fun r => some (.ret (.tup [ownT (cI) 3 none false r.1, .d (.bool r.2)]) []) := by
  simp (config := {maxSteps := 40000000}) only [↓rPre, rPost, rCan, rObj, rI, rS, rB, r8, rLI, rLit, rEtc, hy.p, hy.l, hy.k, hy.r, hy.d, hy.w, hy.f, flatIds, oid, r_spec_l1Nums, ↓G_unf _ _ b0_spec_l1Nums.eq_1, ↓G_unf _ _ k1_spec_l1Nums.eq_1, ↓G_unf _ _ c_spec_l1Nums.eq_1, h_spec_l1Cut.2, h_spec_l1Cut.1, h_spec_l1Num.2, h_spec_l1Num.1, bind_ite, spec_l1Nums_f, spec_l1Nums_l0_eq E hy L_spec_l1Cut h_spec_l1Cut L_spec_l1Num h_spec_l1Num, rRow3, rVerdict, rRow51, rTest, rRow63, rRow9, rRow5, rMap83, rLog, ↓reduceIte, Nat.reduceMul, Nat.reduceAdd, Nat.reduceSub, Nat.reduceEqDiff, Nat.reduceBEq, Nat.reduceLeDiff, Nat.reduceLT, reduceCtorEq, Int.reduceAdd, Int.reduceSub, Int.reduceToNat, Int.reduceNeg, Int.reduceEq, Int.reduceLT, Int.reduceLE]
def H_spec_l1Nums (E : En) (L : (List UInt8) → Option (List Int × Bool)) : Prop := E.Γ.mu 22 = false ∧ (∀ (a0 : List UInt8), E.Γ 22 [.d (sD a0)] = (L a0).bind fun r => some (.ret (.tup [ownT (cI) 3 none false r.1, .d (.bool r.2)]) []))
-- loop.example/s02135/spec.l1Product
def b0_spec_l1Product : Cd :=
  sq (sq (r [0, 3, 4, 8] [o 5 .mv [t 4], o 6 .mv [t 0], o 7 (.len false) [t 6], o 8 (.bin .lss) [t 5, t 7]])
   (.cond (t 8) (.skip) (.exit 0)))
  (sq (.block 1 (sq (r [0, 3, 4] [o 11 .mv [t 3], o 12 .mv [t 0], o 13 .mv [t 4], o 14 (.ia 1) [t 12, t 13], o 15 (.ld none) [t 14], o 16 (.bin .mul) [t 11, t 15], o 3 .mv [t 16]])
     (sq (r [0, 3, 4, 18] [o 17 .mv [t 3], o 18 (.bin .gtr) [t 17, i 1000]])
      (.cond (t 18) (r [0, 3, 4] [o 3 .mv [i 1001]]) (.skip)))))
   (r [0, 3, 4] [o 9 .mv [t 4], o 10 (.bin .add) [t 9, i 1], o 4 .mv [t 10]]))
def k1_spec_l1Product : Cd :=
  sq (r [2] [o 19 .mv [t 3], o 2 .mv [t 19]])
  (.ret)
def c_spec_l1Product : Cd :=
  sq (r [0] [o 2 .mv [i 0]])
  (sq (r [0, 3] [o 3 .mv [i 1]])
   (sq (sq (r [0, 3, 4] [o 4 .mv [i 0]])
     (.block 0 (.loop [0, 3, 4] b0_spec_l1Product))) k1_spec_l1Product))
def r_spec_l1Product : List RV := [.tmp 2]
def spec_l1Product_l0 : Nat → (List Int) → Int → Int → Option (Int)
  | 0, _, _, _ => none
  | m0 + 1, x0, x3, x4 =>
    if x4 < (↑(List.length x0) : Int) then ((idx x0 x4).bind fun y0 =>
     if 1000 < w64 (x3 * y0) then spec_l1Product_l0 m0 x0 1001 (w64 (x4 + 1))
     else spec_l1Product_l0 m0 x0 (w64 (x3 * y0)) (w64 (x4 + 1)))
    else some x3
def spec_l1Product_f (N : Nat) (a0 : List Int) : Option (Int) :=
  spec_l1Product_l0 N a0 1 0
theorem spec_l1Product_l0_eq (E : En) (hy : Hy E [] [] [] r_spec_l1Product none (fun y => nocap y) flatIds) : ∀ (m0 : Nat) (x0 : List Int) (x3 : Int) (x4 : Int), gH E [0, 3, 4] b0_spec_l1Product [KJ.b 0, KJ.c k1_spec_l1Product] m0 ⟨slotsOf [(0, .d (lstT (cI) x0)), (3, .d (.int .i64 x3)), (4, .d (.int .i64 x4))], obsOf []⟩ = (spec_l1Product_l0 m0 x0 x3 x4).bind fun r => some (.ret (.d (.int .i64 r)) []) := by
  intro m0
  induction m0 with
  | zero => intros; rfl
  | succ m0 ih =>
    intros
    simp (config := {maxSteps := 40000000}) only [↓rPre, rPost, rCan, rObj, rI, rS, rB, r8, rLI, rLit, rEtc, hy.p, hy.l, hy.k, hy.r, hy.d, hy.w, hy.f, flatIds, oid, r_spec_l1Product, ↓G_unf _ _ b0_spec_l1Product.eq_1, ↓G_unf _ _ k1_spec_l1Product.eq_1, ↓G_unf _ _ c_spec_l1Product.eq_1, gH_succ, ih, bind_ite, spec_l1Product_l0, rRow3, rVerdict, rRow51, rTest, rRow63, rRow9, rRow5, rMap83, rLog, ↓reduceIte, Nat.reduceMul, Nat.reduceAdd, Nat.reduceSub, Nat.reduceEqDiff, Nat.reduceBEq, Nat.reduceLeDiff, Nat.reduceLT, reduceCtorEq, Int.reduceAdd, Int.reduceSub, Int.reduceToNat, Int.reduceNeg, Int.reduceEq, Int.reduceLT, Int.reduceLE]
theorem spec_l1Product_g (E : En) (hy : Hy E [] [] [] r_spec_l1Product none (fun y => nocap y) flatIds) (a0 : List Int) : G E c_spec_l1Product [] ⟨slotsOf [(0, .d (lstT cI a0))], obsOf []⟩ = (spec_l1Product_f E.n a0).bind fun r => some (.ret (.d (.int .i64 r)) []) := by
  simp (config := {maxSteps := 40000000}) only [↓rPre, rPost, rCan, rObj, rI, rS, rB, r8, rLI, rLit, rEtc, hy.p, hy.l, hy.k, hy.r, hy.d, hy.w, hy.f, flatIds, oid, r_spec_l1Product, ↓G_unf _ _ b0_spec_l1Product.eq_1, ↓G_unf _ _ k1_spec_l1Product.eq_1, ↓G_unf _ _ c_spec_l1Product.eq_1, bind_ite, spec_l1Product_f, spec_l1Product_l0_eq E hy, rRow3, rVerdict, rRow51, rTest, rRow63, rRow9, rRow5, rMap83, rLog, ↓reduceIte, Nat.reduceMul, Nat.reduceAdd, Nat.reduceSub, Nat.reduceEqDiff, Nat.reduceBEq, Nat.reduceLeDiff, Nat.reduceLT, reduceCtorEq, Int.reduceAdd, Int.reduceSub, Int.reduceToNat, Int.reduceNeg, Int.reduceEq, Int.reduceLT, Int.reduceLE]
def H_spec_l1Product (E : En) (L : (List Int) → Option (Int)) : Prop := E.Γ.mu 46 = false ∧ (∀ (a0 : List Int), E.Γ 46 [.d (lstT cI a0)] = (L a0).bind fun r => some (.ret (.d (.int .i64 r)) []))
-- loop.example/s02135/spec.l1Fits
def b0_spec_l1Fits : Cd :=
  sq (sq (r [0, 3, 10] [o 7 .mv [t 3], o 8 .mv [t 0], o 9 (.len false) [t 8], o 10 (.bin .lss) [t 7, t 9]])
   (.cond (t 10) (.skip) (.exit 0)))
  (sq (.block 1 (sq (r [0, 3, 24] [o 13 .mv [t 0], o 14 .mv [t 3], o 15 (.ia 1) [t 13, t 14], o 16 (.ld none) [t 15], o 17 (.bin .lss) [t 16, i 0], o 18 .mv [t 17], g 18 false 19 .mv [t 0], g 18 false 20 .mv [t 3], g 18 false 21 (.ia 1) [t 19, t 20], g 18 false 22 (.ld none) [t 21], g 18 false 23 (.bin .gtr) [t 22, i 1000], o 24 .pick [t 18, b true, t 23]])
     (.cond (t 24) (sq (r [2] [o 2 .mv [b false]])
       (.ret)) (.skip))))
   (r [0, 3] [o 11 .mv [t 3], o 12 (.bin .add) [t 11, i 1], o 3 .mv [t 12]]))
def k1_spec_l1Fits : Cd :=
  sq (r [2] [o 25 .mv [t 0], o 26 (.call 46) [t 25], o 27 (.bin .leq) [t 26, i 1000], o 2 .mv [t 27]])
  (.ret)
def c_spec_l1Fits : Cd :=
  sq (r [0] [o 2 .mv [b false]])
  (sq (sq (r [0, 6] [o 4 .mv [t 0], o 5 (.len false) [t 4], o 6 (.bin .gtr) [t 5, i 3]])
    (.cond (t 6) (sq (r [2] [o 2 .mv [b false]])
      (.ret)) (.skip)))
   (sq (sq (r [0, 3] [o 3 .mv [i 0]])
     (.block 0 (.loop [0, 3] b0_spec_l1Fits))) k1_spec_l1Fits))
def r_spec_l1Fits : List RV := [.tmp 2]
def spec_l1Fits_l0 (L_spec_l1Product : (List Int) → Option (Int)) : Nat → (List Int) → Int → Option (Bool)
  | 0, _, _ => none
  | m0 + 1, x0, x3 =>
    if x3 < (↑(List.length x0) : Int) then ((idx x0 x3).bind fun y0 =>
     if y0 < 0 then some false
     else ((idx x0 x3).bind fun y1 =>
      if 1000 < y1 then some false
      else spec_l1Fits_l0 L_spec_l1Product m0 x0 (w64 (x3 + 1))))
    else ((L_spec_l1Product x0).bind fun y2 =>
     some (Decidable.decide (y2 ≤ 1000)))
def spec_l1Fits_f (L_spec_l1Product : (List Int) → Option (Int)) (N : Nat) (a0 : List Int) : Option (Bool) :=
  if 3 < (↑(List.length a0) : Int) then some false
  else spec_l1Fits_l0 L_spec_l1Product N a0 0
theorem spec_l1Fits_l0_eq (E : En) (hy : Hy E [] [] [] r_spec_l1Fits none (fun y => nocap y) flatIds) (L_spec_l1Product : (List Int) → Option (Int)) (h_spec_l1Product : H_spec_l1Product E L_spec_l1Product) : ∀ (m0 : Nat) (x0 : List Int) (x3 : Int), gH E [0, 3] b0_spec_l1Fits [KJ.b 0, KJ.c k1_spec_l1Fits] m0 ⟨slotsOf [(0, .d (lstT (cI) x0)), (3, .d (.int .i64 x3))], obsOf []⟩ = (spec_l1Fits_l0 L_spec_l1Product m0 x0 x3).bind fun r => some (.ret (.d (.bool r)) []) := by
  intro m0
  induction m0 with
  | zero => intros; rfl
  | succ m0 ih =>
    intros
    simp (config := {maxSteps := 40000000}) only [↓rPre, rPost, rCan, rObj, rI, rS, rB, r8, rLI, rLit, rEtc, hy.p, hy.l, hy.k, hy.r, hy.d, hy.w, hy.f, flatIds, oid, r_spec_l1Fits, ↓G_unf _ _ b0_spec_l1Fits.eq_1, ↓G_unf _ _ k1_spec_l1Fits.eq_1, ↓G_unf _ _ c_spec_l1Fits.eq_1, h_spec_l1Product.2, h_spec_l1Product.1, gH_succ, ih, bind_ite, spec_l1Fits_l0, rRow3, rVerdict, rRow51, rTest, rRow63, rRow9, rRow5, rMap83, rLog, ↓reduceIte, Nat.reduceMul, Nat.reduceAdd, Nat.reduceSub, Nat.reduceEqDiff, Nat.reduceBEq, Nat.reduceLeDiff, Nat.reduceLT, reduceCtorEq, Int.reduceAdd, Int.reduceSub, Int.reduceToNat, Int.reduceNeg, Int.reduceEq, Int.reduceLT, Int.reduceLE]
theorem spec_l1Fits_g (E : En) (hy : Hy E [] [] [] r_spec_l1Fits none (fun y => nocap y) flatIds) (L_spec_l1Product : (List Int) → Option (Int)) (h_spec_l1Product : H_spec_l1Product E L_spec_l1Product) (a0 : List Int) : G E c_spec_l1Fits [] ⟨slotsOf [(0, .d (lstT cI a0))], obsOf []⟩ = (spec_l1Fits_f L_spec_l1Product E.n a0).bind fun r => some (.ret (.d (.bool r)) []) := by
  simp (config := {maxSteps := 40000000}) only [↓rPre, rPost, rCan, rObj, rI, rS, rB, r8, rLI, rLit, rEtc, hy.p, hy.l, hy.k, hy.r, hy.d, hy.w, hy.f, flatIds, oid, r_spec_l1Fits, ↓G_unf _ _ b0_spec_l1Fits.eq_1, ↓G_unf _ _ k1_spec_l1Fits.eq_1, ↓G_unf _ _ c_spec_l1Fits.eq_1, h_spec_l1Product.2, h_spec_l1Product.1, bind_ite, spec_l1Fits_f, spec_l1Fits_l0_eq E hy L_spec_l1Product h_spec_l1Product, rRow3, rVerdict, rRow51, rTest, rRow63, rRow9, rRow5, rMap83, rLog, ↓reduceIte, Nat.reduceMul, Nat.reduceAdd, Nat.reduceSub, Nat.reduceEqDiff, Nat.reduceBEq, Nat.reduceLeDiff, Nat.reduceLT, reduceCtorEq, Int.reduceAdd, Int.reduceSub, Int.reduceToNat, Int.reduceNeg, Int.reduceEq, Int.reduceLT, Int.reduceLE]
def H_spec_l1Fits (E : En) (L : (List Int) → Option (Bool)) : Prop := E.Γ.mu 45 = false ∧ (∀ (a0 : List Int), E.Γ 45 [.d (lstT cI a0)] = (L a0).bind fun r => some (.ret (.d (.bool r)) []))
-- loop.example/s02135/spec.ArrayOk
def b0_spec_ArrayOk : Cd :=
  sq (sq (r [1, 3, 21] [o 17 .mv [t 3], o 18 (.fa 1) [t 1], o 19 (.ld none) [t 18], o 20 (.len false) [t 19], o 21 (.bin .lss) [t 17, t 20]])
   (.cond (t 21) (.skip) (.exit 0)))
  (sq (.block 1 (sq (r [1, 3, 37] [o 24 (.fa 1) [t 1], o 25 (.ld none) [t 24], o 26 .mv [t 3], o 27 (.ia 1) [t 25, t 26], o 28 (.ld none) [t 27], o 29 (.bin .lss) [t 28, i (-3000000000)], o 30 .mv [t 29], g 30 false 31 (.fa 1) [t 1], g 30 false 32 (.ld none) [t 31], g 30 false 33 .mv [t 3], g 30 false 34 (.ia 1) [t 32, t 33], g 30 false 35 (.ld none) [t 34], g 30 false 36 (.bin .gtr) [t 35, i 3000000000], o 37 .pick [t 30, b true, t 36]])
     (.cond (t 37) (sq (r [2] [o 2 .mv [b false]])
       (.ret)) (.skip))))
   (r [1, 3] [o 22 .mv [t 3], o 23 (.bin .add) [t 22, i 1], o 3 .mv [t 23]]))
def k1_spec_ArrayOk : Cd :=
  sq (r [2] [o 2 .mv [b true]])
  (.ret)
def c_spec_ArrayOk : Cd :=
  sq (r [1] [o 1 .box [t 0], o 2 .mv [b false]])
  (sq (sq (rd [] [1, 16] [o 4 (.fa 0) [t 1], o 5 (.ld none) [t 4], o 6 (.call 45) [t 5], o 7 .not [t 6], o 8 .mv [t 7], g 8 false 9 (.fa 1) [t 1], g 8 false 10 (.ld none) [t 9], g 8 false 11 (.len false) [t 10], g 8 false 12 (.fa 0) [t 1], g 8 false 13 (.ld none) [t 12], ap [] false [1, 8, 9, 8, 10, 8] (g 8 false 14 (.call 46) [t 13]), g 8 false 15 (.bin .neq) [t 11, t 14], o 16 .pick [t 8, b true, t 15]])
    (.cond (t 16) (sq (r [2] [o 2 .mv [b false]])
      (.ret)) (.skip)))
   (sq (sq (r [1, 3] [o 3 .mv [i 0]])
     (.block 0 (.loop [1, 3] b0_spec_ArrayOk))) k1_spec_ArrayOk))
def r_spec_ArrayOk : List RV := [.tmp 2]
def spec_ArrayOk_l0 (L_spec_l1Fits : (List Int) → Option (Bool)) (L_spec_l1Product : (List Int) → Option (Int)) : Nat → Int → (List Int) → (List Int) → Option (Bool)
  | 0, _, _, _ => none
  | m0 + 1, x3, o64_0, o64_1 =>
    if x3 < (↑(List.length o64_1) : Int) then ((idx o64_1 x3).bind fun y0 =>
     if y0 < -3000000000 then some false
     else ((idx o64_1 x3).bind fun y1 =>
      if 3000000000 < y1 then some false
      else spec_ArrayOk_l0 L_spec_l1Fits L_spec_l1Product m0 (w64 (x3 + 1)) o64_0 o64_1))
    else some true
def spec_ArrayOk_f (L_spec_l1Fits : (List Int) → Option (Bool)) (L_spec_l1Product : (List Int) → Option (Int)) (N : Nat) (a0_Shape : List Int) (a0_Data : List Int) : Option (Bool) :=
  (L_spec_l1Fits a0_Shape).bind fun y0 =>
  if y0 = false then some false
  else ((L_spec_l1Product a0_Shape).bind fun y1 =>
   if (↑(List.length a0_Data) : Int) = y1 then spec_ArrayOk_l0 L_spec_l1Fits L_spec_l1Product N 0 a0_Shape a0_Data
   else some false)
theorem spec_ArrayOk_l0_eq (E : En) (hy : Hy E [] [] [] r_spec_ArrayOk none (fun y => nocap y) flatIds) (L_spec_l1Fits : (List Int) → Option (Bool)) (h_spec_l1Fits : H_spec_l1Fits E L_spec_l1Fits) (L_spec_l1Product : (List Int) → Option (Int)) (h_spec_l1Product : H_spec_l1Product E L_spec_l1Product) : ∀ (m0 : Nat) (x3 : Int) (o64_0 : List Int) (o64_1 : List Int), gH E [1, 3] b0_spec_ArrayOk [KJ.b 0, KJ.c k1_spec_ArrayOk] m0 ⟨slotsOf [(1, A.adr 64 1 0), (3, .d (.int .i64 x3))], obsOf [(64, ⟨1, .box [.d (lstT (cI) o64_0), .d (lstT (cI) o64_1)], false⟩)]⟩ = (spec_ArrayOk_l0 L_spec_l1Fits L_spec_l1Product m0 x3 o64_0 o64_1).bind fun r => some (.ret (.d (.bool r)) []) := by
  intro m0
  induction m0 with
  | zero => intros; rfl
  | succ m0 ih =>
    intros
    simp (config := {maxSteps := 40000000}) only [↓rPre, rPost, rCan, rObj, rI, rS, rB, r8, rLI, rLit, rEtc, hy.p, hy.l, hy.k, hy.r, hy.d, hy.w, hy.f, flatIds, oid, r_spec_ArrayOk, ↓G_unf _ _ b0_spec_ArrayOk.eq_1, ↓G_unf _ _ k1_spec_ArrayOk.eq_1, ↓G_unf _ _ c_spec_ArrayOk.eq_1, h_spec_l1Fits.2, h_spec_l1Fits.1, h_spec_l1Product.2, h_spec_l1Product.1, gH_succ, ih, bind_ite, spec_ArrayOk_l0, rRow3, rVerdict, rRow51, rTest, rRow63, rRow9, rRow5, rMap83, rLog, ↓reduceIte, Nat.reduceMul, Nat.reduceAdd, Nat.reduceSub, Nat.reduceEqDiff, Nat.reduceBEq, Nat.reduceLeDiff, Nat.reduceLT, reduceCtorEq, Int.reduceAdd, Int.reduceSub, Int.reduceToNat, Int.reduceNeg, Int.reduceEq, Int.reduceLT, Int.reduceLE]
theorem spec_ArrayOk_g (E : En) (hy : Hy E [] [] [] r_spec_ArrayOk none (fun y => nocap y) flatIds) (L_spec_l1Fits : (List Int) → Option (Bool)) (h_spec_l1Fits : H_spec_l1Fits E L_spec_l1Fits) (L_spec_l1Product : (List Int) → Option (Int)) (h_spec_l1Product : H_spec_l1Product E L_spec_l1Product) (a0_Shape : List Int) (a0_Data : List Int) : G E c_spec_ArrayOk [] ⟨slotsOf [(0, .agg [.d (lstT cI a0_Shape), .d (lstT cI a0_Data)])], obsOf []⟩ = (spec_ArrayOk_f L_spec_l1Fits L_spec_l1Product E.n a0_Shape a0_Data).bind fun r => some (.ret (.d (.bool r)) []) := by
  simp (config := {maxSteps := 40000000}) only [↓rPre, rPost, rCan, rObj, rI, rS, rB, r8, rLI, rLit, rEtc, hy.p, hy.l, hy.k, hy.r, hy.d, hy.w, hy.f, flatIds, oid, r_spec_ArrayOk, ↓G_unf _ _ b0_spec_ArrayOk.eq_1, ↓G_unf _ _ k1_spec_ArrayOk.eq_1, ↓G_unf _ _ c_spec_ArrayOk.eq_1, h_spec_l1Fits.2, h_spec_l1Fits.1, h_spec_l1Product.2, h_spec_l1Product.1, bind_ite, spec_ArrayOk_f, spec_ArrayOk_l0_eq E hy L_spec_l1Fits h_spec_l1Fits L_spec_l1Product h_spec_l1Product, rRow3, rVerdict, rRow51, rTest, rRow63, rRow9, rRow5, rMap83, rLog, ↓reduceIte, Nat.reduceMul, Nat.reduceAdd, Nat.reduceSub, Nat.reduceEqDiff, Nat.reduceBEq, Nat.reduceLeDiff, Nat.reduceLT, reduceCtorEq, Int.reduceAdd, Int.reduceSub, Int.reduceToNat, Int.reduceNeg, Int.reduceEq, Int.reduceLT, Int.reduceLE]
def H_spec_ArrayOk (E : En) (L : (List Int) → (List Int) → Option (Bool)) : Prop := E.Γ.mu 23 = false ∧ (∀ (a0_Shape : List Int) (a0_Data : List Int), E.Γ 23 [.agg [.d (lstT cI a0_Shape), .d (lstT cI a0_Data)]] = (L a0_Shape a0_Data).bind fun r => some (.ret (.d (.bool r)) []))
-- loop.example/s02135/spec.ParseArray
def c_spec_ParseArray : Cd :=
  sq (r [0, 2] [o 2 (.alloc [.nil, .nil]) [], o 3 .mv [i 0]])
  (sq (sq (r [0, 2, 12] [o 10 .mv [t 0], o 11 (.len true) [t 10], o 12 (.bin .gtr) [t 11, i 20000]])
    (.cond (t 12) (sq (r [2, 3] [o 13 (.bld [.nil, .nil] []) [], e (.st 2) [t 2, t 13], o 3 .mv [i 1]])
      (.ret)) (.skip)))
   (sq (r [2, 4] [o 14 .mv [t 0], o 15 (.call 21) [t 14, .k (.d (.int .u8 58))], o 4 .mv [t 15]])
    (sq (sq (r [2, 4, 18] [o 16 .mv [t 4], o 17 (.len false) [t 16], o 18 (.bin .neq) [t 17, i 2]])
      (.cond (t 18) (sq (r [2, 3] [o 19 (.bld [.nil, .nil] []) [], e (.st 2) [t 2, t 19], o 3 .mv [i 1]])
        (.ret)) (.skip)))
     (sq (r [2, 4, 5, 6] [o 21 .mv [t 4], o 22 (.ia 1) [t 21, i 0], o 23 (.ld none) [t 22], o 24 (.call 22) [t 23], o 20 .mv [t 24], o 25 (.ext 0) [t 20], o 26 (.ext 1) [t 20], o 5 .mv [t 25], o 6 .mv [t 26]])
      (sq (r [2, 5, 6, 7, 8] [o 28 .mv [t 4], o 29 (.ia 1) [t 28, i 1], o 30 (.ld none) [t 29], o 31 (.call 22) [t 30], o 27 .mv [t 31], o 32 (.ext 0) [t 27], o 33 (.ext 1) [t 27], o 7 .mv [t 32], o 8 .mv [t 33]])
       (sq (r [2, 6, 8, 9] [o 34 .mv [t 5], o 35 .mv [t 7], o 36 (.bld [.nil, .nil] [(0, 1), (1, 1)]) [t 34, t 35], o 9 (.alloc [.nil, .nil]) [], e (.st 2) [t 9, t 36]])
        (sq (sq (r [2, 9, 47] [o 37 .mv [t 6], o 38 .not [t 37], o 39 .mv [t 38], g 39 false 40 .mv [t 8], g 39 false 41 .not [t 40], o 42 .pick [t 39, b true, t 41], o 43 .mv [t 42], g 43 false 44 (.ld (some 2)) [t 9], g 43 false 45 (.call 23) [t 44], g 43 false 46 .not [t 45], o 47 .pick [t 43, b true, t 46]])
          (.cond (t 47) (sq (r [2, 3] [o 48 (.bld [.nil, .nil] []) [], e (.st 2) [t 2, t 48], o 3 .mv [i 1]])
            (.ret)) (.skip)))
         (sq (r [2, 3] [o 49 (.ld (some 2)) [t 9], e (.st 2) [t 2, t 49], o 3 .mv [i 0]])
          (.ret)))))))))
def r_spec_ParseArray : List RV := [.cell 2 (some 2), .tmp 3]
def spec_ParseArray_f (L_spec_l1Cut : (List UInt8) → Int → Option (List (List UInt8))) (L_spec_l1Nums : (List UInt8) → Option (List Int × Bool)) (L_spec_ArrayOk : (List Int) → (List Int) → Option (Bool)) (N : Nat) (a0 : List UInt8) : Option (List Int × List Int × Int) :=
  if 20000 < (↑(List.length a0) : Int) then some (([], [], 1))
  else ((L_spec_l1Cut a0 58).bind fun y0 =>
   if (↑(List.length y0) : Int) = 2 then (if 0 < (↑(List.length y0) : Int) then ((y0[0]?).bind fun y1 =>
     (L_spec_l1Nums y1).bind fun y2 =>
     if 1 < (↑(List.length y0) : Int) then ((y0[1]?).bind fun y3 =>
      (L_spec_l1Nums y3).bind fun y4 =>
      if y2.snd = false then some (([], [], 1))
      else (if y4.snd = false then some (([], [], 1))
       else ((L_spec_ArrayOk y2.fst y4.fst).bind fun y5 =>
        if y5 = false then some (([], [], 1))
        else some ((y2.fst, y4.fst, 0)))))
     else none)
    else none)
   else some (([], [], 1)))
theorem spec_ParseArray_g (E : En) (hy : Hy E [] [] [] r_spec_ParseArray none (fun y => nocap (asOwn (.node [.node [.own 3 1, .own 3 1], .k]) y)) flatIds) (L_spec_l1Cut : (List UInt8) → Int → Option (List (List UInt8))) (h_spec_l1Cut : H_spec_l1Cut E L_spec_l1Cut) (L_spec_l1Nums : (List UInt8) → Option (List Int × Bool)) (h_spec_l1Nums : H_spec_l1Nums E L_spec_l1Nums) (L_spec_ArrayOk : (List Int) → (List Int) → Option (Bool)) (h_spec_ArrayOk : H_spec_ArrayOk E L_spec_ArrayOk) (a0 : List UInt8) : G E c_spec_ParseArray [] ⟨slotsOf [(0, .d (sD a0))], obsOf []⟩ = (spec_ParseArray_f L_spec_l1Cut L_spec_l1Nums L_spec_ArrayOk E.n a0).bind fun r => some (.ret (.tup [.agg [ownT (cI) 3 none false r.1, ownT (cI) 3 none false r.2.1], .d (.int .i64 r.2.2)]) []) := by
  simp (config := {maxSteps := 40000000}) only [↓rPre, rPost, rCan, rObj, rI, rS, rB, r8, rLI, rLit, rEtc, hy.p, hy.l, hy.k, hy.r, hy.d, hy.w, hy.f, flatIds, oid, r_spec_ParseArray, ↓G_unf _ _ c_spec_ParseArray.eq_1, h_spec_l1Cut.2, h_spec_l1Cut.1, h_spec_l1Nums.2, h_spec_l1Nums.1, h_spec_ArrayOk.2, h_spec_ArrayOk.1, bind_ite, spec_ParseArray_f, rRow3, rVerdict, rRow51, rTest, rRow63, rRow9, rRow5, rMap83, rLog, ↓reduceIte, Nat.reduceMul, Nat.reduceAdd, Nat.reduceSub, Nat.reduceEqDiff, Nat.reduceBEq, Nat.reduceLeDiff, Nat.reduceLT, reduceCtorEq, Int.reduceAdd, Int.reduceSub, Int.reduceToNat, Int.reduceNeg, Int.reduceEq, Int.reduceLT, Int.reduceLE]
def H_spec_ParseArray (E : En) (L : (List UInt8) → Option (List Int × List Int × Int)) : Prop := E.Γ.mu 6 = false ∧ (∀ (a0 : List UInt8), E.Γ 6 [.d (sD a0)] = (L a0).bind fun r => some (.ret (.tup [.agg [ownT (cI) 3 none false r.1, ownT (cI) 3 none false r.2.1], .d (.int .i64 r.2.2)]) []))
-- strings.Cut
def H_strings_Cut (E : En) (L : (List UInt8) → (List UInt8) → Option (List UInt8 × List UInt8 × Bool)) : Prop := E.Γ.mu 24 = false ∧ (∀ (a0 : List UInt8) (a1 : List UInt8), E.Γ 24 [.d (sD a0), .d (sD a1)] = (L a0 a1).bind fun r => some (.ret (.tup [.d (sD r.1), .d (sD r.2.1), .d (.bool r.2.2)]) []))
-- strings.Split
def H_strings_Split (E : En) (L : (List UInt8) → (List UInt8) → Option (List (List UInt8))) : Prop := E.Γ.mu 35 = false ∧ (∀ (a0 : List UInt8) (a1 : List UInt8), E.Γ 35 [.d (sD a0), .d (sD a1)] = (L a0 a1).bind fun r => some (.ret (.d (lstT cS r)) []))
-- strconv.Atoi
def H_strconv_Atoi (E : En) (L : (List UInt8) → Option (Alt Int Int)) : Prop := E.Γ.mu 48 = false ∧ (∀ (a0 : List UInt8), E.Γ 48 [.d (sD a0)] = (L a0).bind fun r => r.on (fun r => some (.ret (.tup [.d (.int .i64 r), .d .nili]) [])) (fun r => some (.ret (.tup [.d (.int .i64 r), .d (.iface 94 .opq)]) [])))
-- strconv.Itoa
def H_strconv_Itoa (E : En) (L : Int → Option (List UInt8)) : Prop := E.Γ.mu 39 = false ∧ (∀ (a0 : Int), E.Γ 39 [.d (.int .i64 a0)] = (L a0).bind fun r => some (.ret (.d (sD r)) []))
-- loop.example/s02135/impl.numbers
def b0_impl_numbers : Cd :=
  sq (r [4, 13, 14, 15, 16] [o 16 (.bin .lss) [t 15, t 14]])
  (sq (.cond (t 16) (.skip) (.exit 0))
   (sq (.block 1 (sq (r [4, 6, 13, 14, 15] [o 17 (.ia 1) [t 13, t 15], o 18 (.ld none) [t 17], o 6 .mv [t 18]])
      (sq (r [4, 6, 7, 8, 13, 14, 15] [o 20 .mv [t 6], o 21 (.call 48) [t 20], o 19 .mv [t 21], o 22 (.ext 0) [t 19], o 23 (.ext 1) [t 19], o 7 .mv [t 22], o 8 .mv [t 23]])
       (sq (sq (r [4, 7, 13, 14, 15, 31] [o 24 .mv [t 8], o 25 (.inil true) [t 24], o 26 .mv [t 25], g 26 false 27 .mv [t 7], g 26 false 28 (.call 39) [t 27], g 26 false 29 .mv [t 6], g 26 false 30 (.bin .neq) [t 28, t 29], o 31 .pick [t 26, b true, t 30]])
         (.cond (t 31) (sq (r [2, 3] [o 2 .mv [n], o 3 .mv [b false]])
           (.ret)) (.skip)))
        (r [4, 13, 14, 15] [o 32 .mv [t 4], o 33 .mv [t 7], o 34 (lit 3 1 1) [t 33], o 35 (.app 3 1 8) [t 32, t 34], o 4 .mv [t 35]])))))
    (r [4, 13, 14, 15] [o 36 (.bin .add) [t 15, i 1], o 15 .mv [t 36]])))
def k1_impl_numbers : Cd :=
  sq (r [2, 3] [o 37 .mv [t 4], o 2 .mv [t 37], o 3 .mv [b true]])
  (.ret)
def c_impl_numbers : Cd :=
  sq (r [0] [o 2 .mv [n], o 3 .mv [b false]])
  (sq (sq (r [0, 10] [o 9 .mv [t 0], o 10 (.bin .eql) [t 9, s []]])
    (.cond (t 10) (sq (r [2, 3] [o 2 .mv [n], o 3 .mv [b true]])
      (.ret)) (.skip)))
   (sq (r [0, 4] [o 11 (lit 3 1 0) [], o 4 .mv [t 11]])
    (sq (sq (r [4, 13, 14, 15] [o 12 .mv [t 0], o 13 (.call 35) [t 12, s [32]], o 14 (.len false) [t 13], o 15 .mv [i 0]])
      (.block 0 (.loop [4, 13, 14, 15] b0_impl_numbers))) k1_impl_numbers)))
def r_impl_numbers : List RV := [.tmp 2, .tmp 3]
def impl_numbers_l0 (L_strings_Split : (List UInt8) → (List UInt8) → Option (List (List UInt8))) (L_strconv_Atoi : (List UInt8) → Option (Alt Int Int)) (L_strconv_Itoa : Int → Option (List UInt8)) : Nat → (List (List UInt8)) → Int → Int → (List Int) → Option (List Int × Bool)
  | 0, _, _, _, _ => none
  | m0 + 1, x13, x14, x15, o256 =>
    if x15 < x14 then ((idx x13 x15).bind fun y0 =>
     (L_strconv_Atoi y0).bind fun y1 =>
     (y1).on (fun y2 => (L_strconv_Itoa y2).bind fun y3 =>
      if y3 = y0 then (if room 8 (List.length (o256 ++ [y2])) then impl_numbers_l0 L_strings_Split L_strconv_Atoi L_strconv_Itoa m0 x13 x14 (w64 (x15 + 1)) (o256 ++ [y2])
       else none)
      else some (([], false))) (fun y2 => some (([], false))))
    else some ((o256, true))
def impl_numbers_f (L_strings_Split : (List UInt8) → (List UInt8) → Option (List (List UInt8))) (L_strconv_Atoi : (List UInt8) → Option (Alt Int Int)) (L_strconv_Itoa : Int → Option (List UInt8)) (N : Nat) (a0 : List UInt8) : Option (List Int × Bool) :=
  if a0 = [] then some (([], true))
  else ((L_strings_Split a0 [32]).bind fun y0 =>
   impl_numbers_l0 L_strings_Split L_strconv_Atoi L_strconv_Itoa N y0 ((↑(List.length y0) : Int)) 0 [])
theorem impl_numbers_l0_eq (E : En) (hy : Hy E [] [] [] r_impl_numbers none (fun y => nocap (asOwn (.node [.own 3 1, .k]) y)) flatIds) (L_strings_Split : (List UInt8) → (List UInt8) → Option (List (List UInt8))) (h_strings_Split : H_strings_Split E L_strings_Split) (L_strconv_Atoi : (List UInt8) → Option (Alt Int Int)) (h_strconv_Atoi : H_strconv_Atoi E L_strconv_Atoi) (L_strconv_Itoa : Int → Option (List UInt8)) (h_strconv_Itoa : H_strconv_Itoa E L_strconv_Itoa) : ∀ (m0 : Nat) (x13 : List (List UInt8)) (x14 : Int) (x15 : Int) (o256 : List Int), gH E [4, 13, 14, 15] b0_impl_numbers [KJ.b 0, KJ.c k1_impl_numbers] m0 ⟨slotsOf [(4, A.row 256 1), (13, .d (lstT (cS) x13)), (14, .d (.int .i64 x14)), (15, .d (.int .i64 x15))], obsOf [(256, ⟨1, rowT (cI) 3 none o256, false⟩)]⟩ = (impl_numbers_l0 L_strings_Split L_strconv_Atoi L_strconv_Itoa m0 x13 x14 x15 o256).bind fun r => some (.ret (.tup [ownT (cI) 3 none false r.1, .d (.bool r.2)]) []) := by
  intro m0
  induction m0 with
  | zero => intros; rfl
  | succ m0 ih =>
    intros
    simp (config := {maxSteps := 40000000}) only [↓rPre, rPost, rCan, rObj, rI, rS, rB, r8, rLI, rLit, rEtc, hy.p, hy.l, hy.k, hy.r, hy.d, hy.w, hy.f, flatIds, oid, r_impl_numbers, ↓G_unf _ _ b0_impl_numbers.eq_1, ↓G_unf _ _ k1_impl_numbers.eq_1, ↓G_unf _ _ c_impl_numbers.eq_1, h_strings_Split.2, h_strings_Split.1, h_strconv_Atoi.2, h_strconv_Atoi.1, h_strconv_Itoa.2, h_strconv_Itoa.1, gH_succ, ih, bind_ite, impl_numbers_l0, rRow3, rVerdict, rRow51, rTest, rRow63, rRow9, rRow5, rMap83, rLog, ↓reduceIte, Nat.reduceMul, Nat.reduceAdd, Nat.reduceSub, Nat.reduceEqDiff, Nat.reduceBEq, Nat.reduceLeDiff, Nat.reduceLT, reduceCtorEq, Int.reduceAdd, Int.reduceSub, Int.reduceToNat, Int.reduceNeg, Int.reduceEq, Int.reduceLT, Int.reduceLE]
theorem impl_numbers_g (E : En) (hy : Hy E [] [] [] r_impl_numbers none (fun y => nocap (asOwn (.node [.own 3 1, .k]) y)) flatIds) (L_strings_Split : (List UInt8) → (List UInt8) → Option (List (List UInt8))) (h_strings_Split : H_strings_Split E L_strings_Split) (L_strconv_Atoi : (List UInt8) → Option (Alt Int Int)) (h_strconv_Atoi : H_strconv_Atoi E L_strconv_Atoi) (L_strconv_Itoa : Int → Option (List UInt8)) (h_strconv_Itoa : H_strconv_Itoa E L_strconv_Itoa) (a0 : List UInt8) : G E c_impl_numbers [] ⟨slotsOf [(0, .d (sD a0))], obsOf []⟩ = (impl_numbers_f L_strings_Split L_strconv_Atoi L_strconv_Itoa E.n a0).bind fun r => some (.ret (.tup [ownT (cI) 3 none false r.1, .d (.bool r.2)]) []) := by
  simp (config := {maxSteps := 40000000}) only [↓rPre, rPost, rCan, rObj, rI, rS, rB, r8, rLI, rLit, rEtc, hy.p, hy.l, hy.k, hy.r, hy.d, hy.w, hy.f, flatIds, oid, r_impl_numbers, ↓G_unf _ _ b0_impl_numbers.eq_1, ↓G_unf _ _ k1_impl_numbers.eq_1, ↓G_unf _ _ c_impl_numbers.eq_1, h_strings_Split.2, h_strings_Split.1, h_strconv_Atoi.2, h_strconv_Atoi.1, h_strconv_Itoa.2, h_strconv_Itoa.1, bind_ite, impl_numbers_f, impl_numbers_l0_eq E hy L_strings_Split h_strings_Split L_strconv_Atoi h_strconv_Atoi L_strconv_Itoa h_strconv_Itoa, rRow3, rVerdict, rRow51, rTest, rRow63, rRow9, rRow5, rMap83, rLog, ↓reduceIte, Nat.reduceMul, Nat.reduceAdd, Nat.reduceSub, Nat.reduceEqDiff, Nat.reduceBEq, Nat.reduceLeDiff, Nat.reduceLT, reduceCtorEq, Int.reduceAdd, Int.reduceSub, Int.reduceToNat, Int.reduceNeg, Int.reduceEq, Int.reduceLT, Int.reduceLE]
def H_impl_numbers (E : En) (L : (List UInt8) → Option (List Int × Bool)) : Prop := E.Γ.mu 25 = false ∧ (∀ (a0 : List UInt8), E.Γ 25 [.d (sD a0)] = (L a0).bind fun r => some (.ret (.tup [ownT (cI) 3 none false r.1, .d (.bool r.2)]) []))
-- loop.example/s02135/impl.cellsOf
def b0_impl_cellsOf : Cd :=
  sq (r [4, 10, 11, 12, 13] [o 13 (.bin .lss) [t 12, t 11]])
  (sq (.cond (t 13) (.skip) (.exit 0))
   (sq (.block 1 (sq (r [4, 6, 10, 11, 12] [o 14 (.ia 1) [t 10, t 12], o 15 (.ld none) [t 14], o 6 .mv [t 15]])
      (sq (sq (r [4, 6, 10, 11, 12, 21] [o 16 .mv [t 6], o 17 (.bin .lss) [t 16, i 0], o 18 .mv [t 17], g 18 false 19 .mv [t 6], g 18 false 20 (.bin .gtr) [t 19, i 1000], o 21 .pick [t 18, b true, t 20]])
        (.cond (t 21) (sq (r [2, 3] [o 2 .mv [i 0], o 3 .mv [b false]])
          (.ret)) (.skip)))
       (r [4, 10, 11, 12] [o 22 .mv [t 4], o 23 .mv [t 6], o 24 (.bin .mul) [t 22, t 23], o 4 .mv [t 24]]))))
    (r [4, 10, 11, 12] [o 25 (.bin .add) [t 12, i 1], o 12 .mv [t 25]])))
def k1_impl_cellsOf : Cd :=
  sq (r [2, 3] [o 26 .mv [t 4], o 27 .mv [t 4], o 28 (.bin .leq) [t 27, i 1000], o 2 .mv [t 26], o 3 .mv [t 28]])
  (.ret)
def c_impl_cellsOf : Cd :=
  sq (r [0] [o 2 .mv [i 0], o 3 .mv [b false]])
  (sq (sq (r [0, 9] [o 7 .mv [t 0], o 8 (.len false) [t 7], o 9 (.bin .gtr) [t 8, i 3]])
    (.cond (t 9) (sq (r [2, 3] [o 2 .mv [i 0], o 3 .mv [b false]])
      (.ret)) (.skip)))
   (sq (r [0, 4] [o 4 .mv [i 1]])
    (sq (sq (r [4, 10, 11, 12] [o 10 .mv [t 0], o 11 (.len false) [t 10], o 12 .mv [i 0]])
      (.block 0 (.loop [4, 10, 11, 12] b0_impl_cellsOf))) k1_impl_cellsOf)))
def r_impl_cellsOf : List RV := [.tmp 2, .tmp 3]
def impl_cellsOf_l0 : Nat → Int → (List Int) → Int → Int → Option (Int × Bool)
  | 0, _, _, _, _ => none
  | m0 + 1, x4, x10, x11, x12 =>
    if x12 < x11 then ((idx x10 x12).bind fun y0 =>
     if y0 < 0 then some ((0, false))
     else (if 1000 < y0 then some ((0, false))
      else impl_cellsOf_l0 m0 (w64 (x4 * y0)) x10 x11 (w64 (x12 + 1))))
    else some ((x4, Decidable.decide (x4 ≤ 1000)))
def impl_cellsOf_f (N : Nat) (a0 : List Int) : Option (Int × Bool) :=
  if 3 < (↑(List.length a0) : Int) then some ((0, false))
  else impl_cellsOf_l0 N 1 a0 ((↑(List.length a0) : Int)) 0
theorem impl_cellsOf_l0_eq (E : En) (hy : Hy E [] [] [] r_impl_cellsOf none (fun y => nocap y) flatIds) : ∀ (m0 : Nat) (x4 : Int) (x10 : List Int) (x11 : Int) (x12 : Int), gH E [4, 10, 11, 12] b0_impl_cellsOf [KJ.b 0, KJ.c k1_impl_cellsOf] m0 ⟨slotsOf [(4, .d (.int .i64 x4)), (10, .d (lstT (cI) x10)), (11, .d (.int .i64 x11)), (12, .d (.int .i64 x12))], obsOf []⟩ = (impl_cellsOf_l0 m0 x4 x10 x11 x12).bind fun r => some (.ret (.tup [.d (.int .i64 r.1), .d (.bool r.2)]) []) := by
  intro m0
  induction m0 with
  | zero => intros; rfl
  | succ m0 ih =>
    intros
    simp (config := {maxSteps := 40000000}) only [↓rPre, rPost, rCan, rObj, rI, rS, rB, r8, rLI, rLit, rEtc, hy.p, hy.l, hy.k, hy.r, hy.d, hy.w, hy.f, flatIds, oid, r_impl_cellsOf, ↓G_unf _ _ b0_impl_cellsOf.eq_1, ↓G_unf _ _ k1_impl_cellsOf.eq_1, ↓G_unf _ _ c_impl_cellsOf.eq_1, gH_succ, ih, bind_ite, impl_cellsOf_l0, rRow3, rVerdict, rRow51, rTest, rRow63, rRow9, rRow5, rMap83, rLog, ↓reduceIte, Nat.reduceMul, Nat.reduceAdd, Nat.reduceSub, Nat.reduceEqDiff, Nat.reduceBEq, Nat.reduceLeDiff, Nat.reduceLT, reduceCtorEq, Int.reduceAdd, Int.reduceSub, Int.reduceToNat, Int.reduceNeg, Int.reduceEq, Int.reduceLT, Int.reduceLE]
theorem impl_cellsOf_g (E : En) (hy : Hy E [] [] [] r_impl_cellsOf none (fun y => nocap y) flatIds) (a0 : List Int) : G E c_impl_cellsOf [] ⟨slotsOf [(0, .d (lstT cI a0))], obsOf []⟩ = (impl_cellsOf_f E.n a0).bind fun r => some (.ret (.tup [.d (.int .i64 r.1), .d (.bool r.2)]) []) := by
  simp (config := {maxSteps := 40000000}) only [↓rPre, rPost, rCan, rObj, rI, rS, rB, r8, rLI, rLit, rEtc, hy.p, hy.l, hy.k, hy.r, hy.d, hy.w, hy.f, flatIds, oid, r_impl_cellsOf, ↓G_unf _ _ b0_impl_cellsOf.eq_1, ↓G_unf _ _ k1_impl_cellsOf.eq_1, ↓G_unf _ _ c_impl_cellsOf.eq_1, bind_ite, impl_cellsOf_f, impl_cellsOf_l0_eq E hy, rRow3, rVerdict, rRow51, rTest, rRow63, rRow9, rRow5, rMap83, rLog, ↓reduceIte, Nat.reduceMul, Nat.reduceAdd, Nat.reduceSub, Nat.reduceEqDiff, Nat.reduceBEq, Nat.reduceLeDiff, Nat.reduceLT, reduceCtorEq, Int.reduceAdd, Int.reduceSub, Int.reduceToNat, Int.reduceNeg, Int.reduceEq, Int.reduceLT, Int.reduceLE]
def H_impl_cellsOf (E : En) (L : (List Int) → Option (Int × Bool)) : Prop := E.Γ.mu 49 = false ∧ (∀ (a0 : List Int), E.Γ 49 [.d (lstT cI a0)] = (L a0).bind fun r => some (.ret (.tup [.d (.int .i64 r.1), .d (.bool r.2)]) []))
-- loop.example/s02135/impl.ArrayOk
def b0_impl_ArrayOk : Cd :=
  sq (r [23, 24, 25, 26] [o 26 (.bin .lss) [t 25, t 24]])
  (sq (.cond (t 26) (.skip) (.exit 0))
   (sq (.block 1 (sq (r [6, 23, 24, 25] [o 27 (.ia 1) [t 23, t 25], o 28 (.ld none) [t 27], o 6 .mv [t 28]])
      (sq (r [23, 24, 25, 34] [o 29 .mv [t 6], o 30 (.bin .lss) [t 29, i (-3000000000)], o 31 .mv [t 30], g 31 false 32 .mv [t 6], g 31 false 33 (.bin .gtr) [t 32, i 3000000000], o 34 .pick [t 31, b true, t 33]])
       (.cond (t 34) (sq (r [2] [o 2 .mv [b false]])
         (.ret)) (.skip)))))
    (r [23, 24, 25] [o 35 (.bin .add) [t 25, i 1], o 25 .mv [t 35]])))
def k1_impl_ArrayOk : Cd :=
  sq (r [2] [o 2 .mv [b true]])
  (.ret)
def c_impl_ArrayOk : Cd :=
  sq (r [1] [o 1 .box [t 0], o 2 .mv [b false]])
  (sq (r [1, 3, 4] [o 8 (.fa 0) [t 1], o 9 (.ld none) [t 8], o 10 (.call 49) [t 9], o 7 .mv [t 10], o 11 (.ext 0) [t 7], o 12 (.ext 1) [t 7], o 3 .mv [t 11], o 4 .mv [t 12]])
   (sq (sq (r [1, 21] [o 13 .mv [t 4], o 14 .not [t 13], o 15 .mv [t 14], g 15 false 16 .mv [t 3], g 15 false 17 (.fa 1) [t 1], g 15 false 18 (.ld none) [t 17], g 15 false 19 (.len false) [t 18], g 15 false 20 (.bin .neq) [t 16, t 19], o 21 .pick [t 15, b true, t 20]])
     (.cond (t 21) (sq (r [2] [o 2 .mv [b false]])
       (.ret)) (.skip)))
    (sq (sq (r [23, 24, 25] [o 22 (.fa 1) [t 1], o 23 (.ld none) [t 22], o 24 (.len false) [t 23], o 25 .mv [i 0]])
      (.block 0 (.loop [23, 24, 25] b0_impl_ArrayOk))) k1_impl_ArrayOk)))
def r_impl_ArrayOk : List RV := [.tmp 2]
def impl_ArrayOk_l0 (L_impl_cellsOf : (List Int) → Option (Int × Bool)) : Nat → (List Int) → Int → Int → Option (Bool)
  | 0, _, _, _ => none
  | m0 + 1, x23, x24, x25 =>
    if x25 < x24 then ((idx x23 x25).bind fun y0 =>
     if y0 < -3000000000 then some false
     else (if 3000000000 < y0 then some false
      else impl_ArrayOk_l0 L_impl_cellsOf m0 x23 x24 (w64 (x25 + 1))))
    else some true
def impl_ArrayOk_f (L_impl_cellsOf : (List Int) → Option (Int × Bool)) (N : Nat) (a0_Shape : List Int) (a0_Data : List Int) : Option (Bool) :=
  (L_impl_cellsOf a0_Shape).bind fun y0 =>
  if y0.snd = false then some false
  else (if y0.fst = (↑(List.length a0_Data) : Int) then impl_ArrayOk_l0 L_impl_cellsOf N a0_Data ((↑(List.length a0_Data) : Int)) 0
   else some false)
theorem impl_ArrayOk_l0_eq (E : En) (hy : Hy E [] [] [] r_impl_ArrayOk none (fun y => nocap y) flatIds) (L_impl_cellsOf : (List Int) → Option (Int × Bool)) (h_impl_cellsOf : H_impl_cellsOf E L_impl_cellsOf) : ∀ (m0 : Nat) (x23 : List Int) (x24 : Int) (x25 : Int), gH E [23, 24, 25] b0_impl_ArrayOk [KJ.b 0, KJ.c k1_impl_ArrayOk] m0 ⟨slotsOf [(23, .d (lstT (cI) x23)), (24, .d (.int .i64 x24)), (25, .d (.int .i64 x25))], obsOf []⟩ = (impl_ArrayOk_l0 L_impl_cellsOf m0 x23 x24 x25).bind fun r => some (.ret (.d (.bool r)) []) := by
  intro m0
  induction m0 with
  | zero => intros; rfl
  | succ m0 ih =>
    intros
    simp (config := {maxSteps := 40000000}) only [↓rPre, rPost, rCan, rObj, rI, rS, rB, r8, rLI, rLit, rEtc, hy.p, hy.l, hy.k, hy.r, hy.d, hy.w, hy.f, flatIds, oid, r_impl_ArrayOk, ↓G_unf _ _ b0_impl_ArrayOk.eq_1, ↓G_unf _ _ k1_impl_ArrayOk.eq_1, ↓G_unf _ _ c_impl_ArrayOk.eq_1, h_impl_cellsOf.2, h_impl_cellsOf.1, gH_succ, ih, bind_ite, impl_ArrayOk_l0, rRow3, rVerdict, rRow51, rTest, rRow63, rRow9, rRow5, rMap83, rLog, ↓reduceIte, Nat.reduceMul, Nat.reduceAdd, Nat.reduceSub, Nat.reduceEqDiff, Nat.reduceBEq, Nat.reduceLeDiff, Nat.reduceLT, reduceCtorEq, Int.reduceAdd, Int.reduceSub, Int.reduceToNat, Int.reduceNeg, Int.reduceEq, Int.reduceLT, Int.reduceLE]
theorem impl_ArrayOk_g (E : En) (hy : Hy E [] [] [] r_impl_ArrayOk none (fun y => nocap y) flatIds) (L_impl_cellsOf : (List Int) → Option (Int × Bool)) (h_impl_cellsOf : H_impl_cellsOf E L_impl_cellsOf) (a0_Shape : List Int) (a0_Data : List Int) : G E c_impl_ArrayOk [] ⟨slotsOf [(0, .agg [.d (lstT cI a0_Shape), .d (lstT cI a0_Data)])], obsOf []⟩ = (impl_ArrayOk_f L_impl_cellsOf E.n a0_Shape a0_Data).bind fun r => some (.ret (.d (.bool r)) []) := by
  simp (config := {maxSteps := 40000000}) only [↓rPre, rPost, rCan, rObj, rI, rS, rB, r8, rLI, rLit, rEtc, hy.p, hy.l, hy.k, hy.r, hy.d, hy.w, hy.f, flatIds, oid, r_impl_ArrayOk, ↓G_unf _ _ b0_impl_ArrayOk.eq_1, ↓G_unf _ _ k1_impl_ArrayOk.eq_1, ↓G_unf _ _ c_impl_ArrayOk.eq_1, h_impl_cellsOf.2, h_impl_cellsOf.1, bind_ite, impl_ArrayOk_f, impl_ArrayOk_l0_eq E hy L_impl_cellsOf h_impl_cellsOf, rRow3, rVerdict, rRow51, rTest, rRow63, rRow9, rRow5, rMap83, rLog, ↓reduceIte, Nat.reduceMul, Nat.reduceAdd, Nat.reduceSub, Nat.reduceEqDiff, Nat.reduceBEq, Nat.reduceLeDiff, Nat.reduceLT, reduceCtorEq, Int.reduceAdd, Int.reduceSub, Int.reduceToNat, Int.reduceNeg, Int.reduceEq, Int.reduceLT, Int.reduceLE]
def H_impl_ArrayOk (E : En) (L : (List Int) → (List Int) → Option (Bool)) : Prop := E.Γ.mu 26 = false ∧ (∀ (a0_Shape : List Int) (a0_Data : List Int), E.Γ 26 [.agg [.d (lstT cI a0_Shape), .d (lstT cI a0_Data)]] = (L a0_Shape a0_Data).bind fun r => some (.ret (.d (.bool r)) []))
-- loop.example/s02135/impl.ParseArray
def c_impl_ParseArray : Cd :=
  sq (r [0, 2] [o 2 (.alloc [.nil, .nil]) [], o 3 .mv [i 0]])
  (sq (sq (r [0, 2, 14] [o 12 .mv [t 0], o 13 (.len true) [t 12], o 14 (.bin .gtr) [t 13, i 20000]])
    (.cond (t 14) (sq (r [2, 3] [o 15 (.bld [.nil, .nil] []) [], e (.st 2) [t 2, t 15], o 3 .mv [i 1]])
      (.ret)) (.skip)))
   (sq (r [2, 4, 5, 6] [o 17 .mv [t 0], o 18 (.call 24) [t 17, s [58]], o 16 .mv [t 18], o 19 (.ext 0) [t 16], o 20 (.ext 1) [t 16], o 21 (.ext 2) [t 16], o 4 .mv [t 19], o 5 .mv [t 20], o 6 .mv [t 21]])
    (sq (sq (r [2, 4, 5, 23] [o 22 .mv [t 6], o 23 .not [t 22]])
      (.cond (t 23) (sq (r [2, 3] [o 24 (.bld [.nil, .nil] []) [], e (.st 2) [t 2, t 24], o 3 .mv [i 1]])
        (.ret)) (.skip)))
     (sq (r [2, 5, 7, 8] [o 26 .mv [t 4], o 27 (.call 25) [t 26], o 25 .mv [t 27], o 28 (.ext 0) [t 25], o 29 (.ext 1) [t 25], o 7 .mv [t 28], o 8 .mv [t 29]])
      (sq (r [2, 7, 8, 9, 10] [o 31 .mv [t 5], o 32 (.call 25) [t 31], o 30 .mv [t 32], o 33 (.ext 0) [t 30], o 34 (.ext 1) [t 30], o 9 .mv [t 33], o 10 .mv [t 34]])
       (sq (r [2, 8, 10, 11] [o 35 .mv [t 7], o 36 .mv [t 9], o 37 (.bld [.nil, .nil] [(0, 1), (1, 1)]) [t 35, t 36], o 11 (.alloc [.nil, .nil]) [], e (.st 2) [t 11, t 37]])
        (sq (sq (r [2, 11, 48] [o 38 .mv [t 8], o 39 .not [t 38], o 40 .mv [t 39], g 40 false 41 .mv [t 10], g 40 false 42 .not [t 41], o 43 .pick [t 40, b true, t 42], o 44 .mv [t 43], g 44 false 45 (.ld (some 2)) [t 11], g 44 false 46 (.call 26) [t 45], g 44 false 47 .not [t 46], o 48 .pick [t 44, b true, t 47]])
          (.cond (t 48) (sq (r [2, 3] [o 49 (.bld [.nil, .nil] []) [], e (.st 2) [t 2, t 49], o 3 .mv [i 1]])
            (.ret)) (.skip)))
         (sq (r [2, 3] [o 50 (.ld (some 2)) [t 11], e (.st 2) [t 2, t 50], o 3 .mv [i 0]])
          (.ret)))))))))
def r_impl_ParseArray : List RV := [.cell 2 (some 2), .tmp 3]
def impl_ParseArray_f (L_strings_Cut : (List UInt8) → (List UInt8) → Option (List UInt8 × List UInt8 × Bool)) (L_impl_numbers : (List UInt8) → Option (List Int × Bool)) (L_impl_ArrayOk : (List Int) → (List Int) → Option (Bool)) (N : Nat) (a0 : List UInt8) : Option (List Int × List Int × Int) :=
  if 20000 < (↑(List.length a0) : Int) then some (([], [], 1))
  else ((L_strings_Cut a0 [58]).bind fun y0 =>
   if y0.snd.snd = false then some (([], [], 1))
   else ((L_impl_numbers y0.fst).bind fun y1 =>
    (L_impl_numbers y0.snd.fst).bind fun y2 =>
    if y1.snd = false then some (([], [], 1))
    else (if y2.snd = false then some (([], [], 1))
     else ((L_impl_ArrayOk y1.fst y2.fst).bind fun y3 =>
      if y3 = false then some (([], [], 1))
      else some ((y1.fst, y2.fst, 0))))))
theorem impl_ParseArray_g (E : En) (hy : Hy E [] [] [] r_impl_ParseArray none (fun y => nocap (asOwn (.node [.node [.own 3 1, .own 3 1], .k]) y)) flatIds) (L_strings_Cut : (List UInt8) → (List UInt8) → Option (List UInt8 × List UInt8 × Bool)) (h_strings_Cut : H_strings_Cut E L_strings_Cut) (L_impl_numbers : (List UInt8) → Option (List Int × Bool)) (h_impl_numbers : H_impl_numbers E L_impl_numbers) (L_impl_ArrayOk : (List Int) → (List Int) → Option (Bool)) (h_impl_ArrayOk : H_impl_ArrayOk E L_impl_ArrayOk) (a0 : List UInt8) : G E c_impl_ParseArray [] ⟨slotsOf [(0, .d (sD a0))], obsOf []⟩ = (impl_ParseArray_f L_strings_Cut L_impl_numbers L_impl_ArrayOk E.n a0).bind fun r => some (.ret (.tup [.agg [ownT (cI) 3 none false r.1, ownT (cI) 3 none false r.2.1], .d (.int .i64 r.2.2)]) []) := by
  simp (config := {maxSteps := 40000000}) only [↓rPre, rPost, rCan, rObj, rI, rS, rB, r8, rLI, rLit, rEtc, hy.p, hy.l, hy.k, hy.r, hy.d, hy.w, hy.f, flatIds, oid, r_impl_ParseArray, ↓G_unf _ _ c_impl_ParseArray.eq_1, h_strings_Cut.2, h_strings_Cut.1, h_impl_numbers.2, h_impl_numbers.1, h_impl_ArrayOk.2, h_impl_ArrayOk.1, bind_ite, impl_ParseArray_f, rRow3, rVerdict, rRow51, rTest, rRow63, rRow9, rRow5, rMap83, rLog, ↓reduceIte, Nat.reduceMul, Nat.reduceAdd, Nat.reduceSub, Nat.reduceEqDiff, Nat.reduceBEq, Nat.reduceLeDiff, Nat.reduceLT, reduceCtorEq, Int.reduceAdd, Int.reduceSub, Int.reduceToNat, Int.reduceNeg, Int.reduceEq, Int.reduceLT, Int.reduceLE]
def H_impl_ParseArray (E : En) (L : (List UInt8) → Option (List Int × List Int × Int)) : Prop := E.Γ.mu 7 = false ∧ (∀ (a0 : List UInt8), E.Γ 7 [.d (sD a0)] = (L a0).bind fun r => some (.ret (.tup [.agg [ownT (cI) 3 none false r.1, ownT (cI) 3 none false r.2.1], .d (.int .i64 r.2.2)]) []))
-- loop.example/s02135/laws.eqIntS
def b0_laws_eqIntS : Cd :=
  sq (sq (r [0, 1, 5, 14] [o 11 .mv [t 5], o 12 .mv [t 0], o 13 (.len false) [t 12], o 14 (.bin .lss) [t 11, t 13]])
   (.cond (t 14) (.skip) (.exit 0)))
  (sq (.block 1 (sq (rd [] [0, 1, 5, 25] [o 17 .mv [t 0], o 18 .mv [t 5], o 19 (.ia 1) [t 17, t 18], o 20 (.ld none) [t 19], o 21 .mv [t 1], o 22 .mv [t 5], o 23 (.ia 1) [t 21, t 22], o 24 (.ld none) [t 23], o 25 (.bin .neq) [t 20, t 24]])
     (.cond (t 25) (sq (r [4] [o 4 .mv [b false]])
       (.ret)) (.skip))))
   (r [0, 1, 5] [o 15 .mv [t 5], o 16 (.bin .add) [t 15, i 1], o 5 .mv [t 16]]))
def k1_laws_eqIntS : Cd :=
  sq (r [4] [o 4 .mv [b true]])
  (.ret)
def c_laws_eqIntS : Cd :=
  sq (r [0, 1] [o 4 .mv [b false]])
  (sq (sq (r [0, 1, 10] [o 6 .mv [t 0], o 7 (.len false) [t 6], o 8 .mv [t 1], o 9 (.len false) [t 8], o 10 (.bin .neq) [t 7, t 9]])
    (.cond (t 10) (sq (r [4] [o 4 .mv [b false]])
      (.ret)) (.skip)))
   (sq (sq (r [0, 1, 5] [o 5 .mv [i 0]])
     (.block 0 (.loop [0, 1, 5] b0_laws_eqIntS))) k1_laws_eqIntS))
def r_laws_eqIntS : List RV := [.tmp 4]
def laws_eqIntS_l0 : Nat → (List Int) → (List Int) → Int → Option (Bool)
  | 0, _, _, _ => none
  | m0 + 1, x0, x1, x5 =>
    if x5 < (↑(List.length x0) : Int) then ((idx x0 x5).bind fun y0 =>
     (idx x1 x5).bind fun y1 =>
     if y0 = y1 then laws_eqIntS_l0 m0 x0 x1 (w64 (x5 + 1))
     else some false)
    else some true
def laws_eqIntS_f (N : Nat) (a0 : List Int) (a1 : List Int) : Option (Bool) :=
  if (↑(List.length a0) : Int) = (↑(List.length a1) : Int) then laws_eqIntS_l0 N a0 a1 0
  else some false
theorem laws_eqIntS_l0_eq (E : En) (hy : Hy E [] [] [] r_laws_eqIntS none (fun y => nocap y) flatIds) : ∀ (m0 : Nat) (x0 : List Int) (x1 : List Int) (x5 : Int), gH E [0, 1, 5] b0_laws_eqIntS [KJ.b 0, KJ.c k1_laws_eqIntS] m0 ⟨slotsOf [(0, .d (lstT (cI) x0)), (1, .d (lstT (cI) x1)), (5, .d (.int .i64 x5))], obsOf []⟩ = (laws_eqIntS_l0 m0 x0 x1 x5).bind fun r => some (.ret (.d (.bool r)) []) := by
  intro m0
  induction m0 with
  | zero => intros; rfl
  | succ m0 ih =>
    intros
    simp (config := {maxSteps := 40000000}) only [↓rPre, rPost, rCan, rObj, rI, rS, rB, r8, rLI, rLit, rEtc, hy.p, hy.l, hy.k, hy.r, hy.d, hy.w, hy.f, flatIds, oid, r_laws_eqIntS, ↓G_unf _ _ b0_laws_eqIntS.eq_1, ↓G_unf _ _ k1_laws_eqIntS.eq_1, ↓G_unf _ _ c_laws_eqIntS.eq_1, gH_succ, ih, bind_ite, laws_eqIntS_l0, rRow3, rVerdict, rRow51, rTest, rRow63, rRow9, rRow5, rMap83, rLog, ↓reduceIte, Nat.reduceMul, Nat.reduceAdd, Nat.reduceSub, Nat.reduceEqDiff, Nat.reduceBEq, Nat.reduceLeDiff, Nat.reduceLT, reduceCtorEq, Int.reduceAdd, Int.reduceSub, Int.reduceToNat, Int.reduceNeg, Int.reduceEq, Int.reduceLT, Int.reduceLE]
theorem laws_eqIntS_g (E : En) (hy : Hy E [] [] [] r_laws_eqIntS none (fun y => nocap y) flatIds) (a0 : List Int) (a1 : List Int) : G E c_laws_eqIntS [] ⟨slotsOf [(0, .d (lstT cI a0)), (1, .d (lstT cI a1))], obsOf []⟩ = (laws_eqIntS_f E.n a0 a1).bind fun r => some (.ret (.d (.bool r)) []) := by
  simp (config := {maxSteps := 40000000}) only [↓rPre, rPost, rCan, rObj, rI, rS, rB, r8, rLI, rLit, rEtc, hy.p, hy.l, hy.k, hy.r, hy.d, hy.w, hy.f, flatIds, oid, r_laws_eqIntS, ↓G_unf _ _ b0_laws_eqIntS.eq_1, ↓G_unf _ _ k1_laws_eqIntS.eq_1, ↓G_unf _ _ c_laws_eqIntS.eq_1, bind_ite, laws_eqIntS_f, laws_eqIntS_l0_eq E hy, rRow3, rVerdict, rRow51, rTest, rRow63, rRow9, rRow5, rMap83, rLog, ↓reduceIte, Nat.reduceMul, Nat.reduceAdd, Nat.reduceSub, Nat.reduceEqDiff, Nat.reduceBEq, Nat.reduceLeDiff, Nat.reduceLT, reduceCtorEq, Int.reduceAdd, Int.reduceSub, Int.reduceToNat, Int.reduceNeg, Int.reduceEq, Int.reduceLT, Int.reduceLE]
def H_laws_eqIntS (E : En) (L : (List Int) → (List Int) → Option (Bool)) : Prop := E.Γ.mu 27 = false ∧ (∀ (a0 : List Int) (a1 : List Int), E.Γ 27 [.d (lstT cI a0), .d (lstT cI a1)] = (L a0 a1).bind fun r => some (.ret (.d (.bool r)) []))
-- loop.example/s02135/laws.eqArray
def c_laws_eqArray : Cd :=
  sq (r [2, 3] [o 2 .box [t 0], o 3 .box [t 1], o 4 .mv [b false]])
  (sq (sq (r [2, 3, 10] [o 5 (.fa 0) [t 2], o 6 (.ld none) [t 5], o 7 (.fa 0) [t 3], o 8 (.ld none) [t 7], o 9 (.call 27) [t 6, t 8], o 10 .not [t 9]])
    (.cond (t 10) (sq (r [4] [o 4 .mv [b false]])
      (.ret)) (.skip)))
   (sq (sq (r [16] [o 11 (.fa 1) [t 2], o 12 (.ld none) [t 11], o 13 (.fa 1) [t 3], o 14 (.ld none) [t 13], o 15 (.call 27) [t 12, t 14], o 16 .not [t 15]])
     (.cond (t 16) (sq (r [4] [o 4 .mv [b false]])
       (.ret)) (.skip)))
    (sq (r [4] [o 4 .mv [b true]])
     (.ret))))
def r_laws_eqArray : List RV := [.tmp 4]
def laws_eqArray_f (L_laws_eqIntS : (List Int) → (List Int) → Option (Bool)) (N : Nat) (a0_Shape : List Int) (a0_Data : List Int) (a1_Shape : List Int) (a1_Data : List Int) : Option (Bool) :=
  (L_laws_eqIntS a0_Shape a1_Shape).bind fun y0 =>
  if y0 = false then some false
  else ((L_laws_eqIntS a0_Data a1_Data).bind fun y1 =>
   if y1 = false then some false
   else some true)
theorem laws_eqArray_g (E : En) (hy : Hy E [] [] [] r_laws_eqArray none (fun y => nocap y) flatIds) (L_laws_eqIntS : (List Int) → (List Int) → Option (Bool)) (h_laws_eqIntS : H_laws_eqIntS E L_laws_eqIntS) (a0_Shape : List Int) (a0_Data : List Int) (a1_Shape : List Int) (a1_Data : List Int) : G E c_laws_eqArray [] ⟨slotsOf [(0, .agg [.d (lstT cI a0_Shape), .d (lstT cI a0_Data)]), (1, .agg [.d (lstT cI a1_Shape), .d (lstT cI a1_Data)])], obsOf []⟩ = (laws_eqArray_f L_laws_eqIntS E.n a0_Shape a0_Data a1_Shape a1_Data).bind fun r => some (.ret (.d (.bool r)) []) := by
  simp (config := {maxSteps := 40000000}) only [↓rPre, rPost, rCan, rObj, rI, rS, rB, r8, rLI, rLit, rEtc, hy.p, hy.l, hy.k, hy.r, hy.d, hy.w, hy.f, flatIds, oid, r_laws_eqArray, ↓G_unf _ _ c_laws_eqArray.eq_1, h_laws_eqIntS.2, h_laws_eqIntS.1, bind_ite, laws_eqArray_f, rRow3, rVerdict, rRow51, rTest, rRow63, rRow9, rRow5, rMap83, rLog, ↓reduceIte, Nat.reduceMul, Nat.reduceAdd, Nat.reduceSub, Nat.reduceEqDiff, Nat.reduceBEq, Nat.reduceLeDiff, Nat.reduceLT, reduceCtorEq, Int.reduceAdd, Int.reduceSub, Int.reduceToNat, Int.reduceNeg, Int.reduceEq, Int.reduceLT, Int.reduceLE]
def H_laws_eqArray (E : En) (L : (List Int) → (List Int) → (List Int) → (List Int) → Option (Bool)) : Prop := E.Γ.mu 8 = false ∧ (∀ (a0_Shape : List Int) (a0_Data : List Int) (a1_Shape : List Int) (a1_Data : List Int), E.Γ 8 [.agg [.d (lstT cI a0_Shape), .d (lstT cI a0_Data)], .agg [.d (lstT cI a1_Shape), .d (lstT cI a1_Data)]] = (L a0_Shape a0_Data a1_Shape a1_Data).bind fun r => some (.ret (.d (.bool r)) []))
-- loop.example/s02135/laws.markIntS
def b0_laws_markIntS : Cd :=
  sq (sq (r [0, 1, 5, 9] [o 6 .mv [t 5], o 7 .mv [t 0], o 8 (.len false) [t 7], o 9 (.bin .lss) [t 6, t 8]])
   (.cond (t 9) (.skip) (.exit 0)))
  (sq (.block 1 (sq (r [0, 1, 5] [o 12 .mv [t 0], o 13 .mv [t 5], o 14 .mv [t 1], o 15 (.ia 1) [t 12, t 13], e (.st 1) [t 15, t 14]])
     (r [0, 1, 5] [o 16 .mv [t 1], o 17 (.bin .add) [t 16, i 1], o 1 .mv [t 17]])))
   (r [0, 1, 5] [o 10 .mv [t 5], o 11 (.bin .add) [t 10, i 1], o 5 .mv [t 11]]))
def k1_laws_markIntS : Cd :=
  sq (r [4] [o 18 .mv [t 1], o 4 .mv [t 18]])
  (.ret)
def c_laws_markIntS : Cd :=
  sq (r [0, 1] [o 4 .mv [i 0]])
  (sq (sq (r [0, 1, 5] [o 5 .mv [i 0]])
    (.block 0 (.loop [0, 1, 5] b0_laws_markIntS))) k1_laws_markIntS)
def r_laws_markIntS : List RV := [.tmp 4]
def laws_markIntS_l0 : Nat → Int → Int → (List Int) → Option (Int × List Int)
  | 0, _, _, _ => none
  | m0 + 1, x1, x5, o0 =>
    if x5 < (↑(List.length o0) : Int) then (if 0 ≤ x5 ∧ x5 < (↑(List.length o0) : Int) then ((setN o0 (Int.toNat x5) x1).bind fun y0 =>
      laws_markIntS_l0 m0 (w64 (x1 + 1)) (w64 (x5 + 1)) y0)
     else none)
    else some ((x1, o0))
def laws_markIntS_f (N : Nat) (a0 : List Int) (a1 : Int) : Option (Int × List Int) :=
  laws_markIntS_l0 N a1 0 a0
theorem laws_markIntS_l0_eq (E : En) (hy : Hy E [0] [0] [(0, .row 3 1)] r_laws_markIntS none (fun y => nocap y) flatIds) : ∀ (m0 : Nat) (x1 : Int) (x5 : Int) (o0 : List Int), gH E [0, 1, 5] b0_laws_markIntS [KJ.b 0, KJ.c k1_laws_markIntS] m0 ⟨slotsOf [(0, A.row 0 1), (1, .d (.int .i64 x1)), (5, .d (.int .i64 x5))], obsOf [(0, ⟨1, rowT (cI) 3 none o0, false⟩)]⟩ = (laws_markIntS_l0 m0 x1 x5 o0).bind fun r => some (.ret (.d (.int .i64 r.1)) [[lstT (cI) r.2]]) := by
  intro m0
  induction m0 with
  | zero => intros; rfl
  | succ m0 ih =>
    intros
    simp (config := {maxSteps := 40000000}) only [↓rPre, rPost, rCan, rObj, rI, rS, rB, r8, rLI, rLit, rEtc, hy.p, hy.l, hy.k, hy.r, hy.d, hy.w, hy.f, flatIds, oid, r_laws_markIntS, ↓G_unf _ _ b0_laws_markIntS.eq_1, ↓G_unf _ _ k1_laws_markIntS.eq_1, ↓G_unf _ _ c_laws_markIntS.eq_1, gH_succ, ih, bind_ite, laws_markIntS_l0, rRow3, rVerdict, rRow51, rTest, rRow63, rRow9, rRow5, rMap83, rLog, ↓reduceIte, Nat.reduceMul, Nat.reduceAdd, Nat.reduceSub, Nat.reduceEqDiff, Nat.reduceBEq, Nat.reduceLeDiff, Nat.reduceLT, reduceCtorEq, Int.reduceAdd, Int.reduceSub, Int.reduceToNat, Int.reduceNeg, Int.reduceEq, Int.reduceLT, Int.reduceLE]
theorem laws_markIntS_g (E : En) (hy : Hy E [0] [0] [(0, .row 3 1)] r_laws_markIntS none (fun y => nocap y) flatIds) (a0 : List Int) (a1 : Int) : G E c_laws_markIntS [] ⟨slotsOf [(0, .row 0 1), (1, .d (.int .i64 a1))], obsOf [(0, ⟨1, rowT cI 3 none a0, false⟩)]⟩ = (laws_markIntS_f E.n a0 a1).bind fun r => some (.ret (.d (.int .i64 r.1)) [[lstT (cI) r.2]]) := by
  simp (config := {maxSteps := 40000000}) only [↓rPre, rPost, rCan, rObj, rI, rS, rB, r8, rLI, rLit, rEtc, hy.p, hy.l, hy.k, hy.r, hy.d, hy.w, hy.f, flatIds, oid, r_laws_markIntS, ↓G_unf _ _ b0_laws_markIntS.eq_1, ↓G_unf _ _ k1_laws_markIntS.eq_1, ↓G_unf _ _ c_laws_markIntS.eq_1, bind_ite, laws_markIntS_f, laws_markIntS_l0_eq E hy, rRow3, rVerdict, rRow51, rTest, rRow63, rRow9, rRow5, rMap83, rLog, ↓reduceIte, Nat.reduceMul, Nat.reduceAdd, Nat.reduceSub, Nat.reduceEqDiff, Nat.reduceBEq, Nat.reduceLeDiff, Nat.reduceLT, reduceCtorEq, Int.reduceAdd, Int.reduceSub, Int.reduceToNat, Int.reduceNeg, Int.reduceEq, Int.reduceLT, Int.reduceLE]
def H_laws_markIntS (E : En) (L : (List Int) → Int → Option (Int × List Int)) : Prop := E.Γ.mu 28 = true ∧ (∀ (a0 : List Int) (a1 : Int), E.Γ 28 [ownT cI 3 none false a0, .d (.int .i64 a1)] = (L a0 a1).bind fun r => some (.ret (.d (.int .i64 r.1)) [[lstT (cI) r.2]]))
-- loop.example/s02135/laws.markArray
def c_laws_markArray : Cd :=
  sq (r [1, 2] [o 2 .box [t 0], o 4 .mv [i 0]])
  (sq (r [1, 2] [o 5 (.fa 0) [t 2], o 6 (.ld none) [t 5], o 7 .mv [t 1], o 8 (.call 28) [t 6, t 7], o 1 .mv [t 8]])
   (sq (r [1] [o 9 (.fa 1) [t 2], o 10 (.ld none) [t 9], o 11 .mv [t 1], o 12 (.call 28) [t 10, t 11], o 1 .mv [t 12]])
    (sq (r [4] [o 13 .mv [t 1], o 4 .mv [t 13]])
     (.ret))))
def r_laws_markArray : List RV := [.tmp 4]
def laws_markArray_f (L_laws_markIntS : (List Int) → Int → Option (Int × List Int)) (N : Nat) (a0_Shape : List Int) (a0_Data : List Int) (a1 : Int) : Option (Int × List Int × List Int) :=
  (L_laws_markIntS a0_Shape a1).bind fun y0 =>
  (L_laws_markIntS a0_Data y0.fst).bind fun y1 =>
  some ((y1.fst, y0.snd, y1.snd))
theorem laws_markArray_g (E : En) (hy : Hy E [0, 1] [0, 1] [(0, .row 3 1), (1, .row 3 1)] r_laws_markArray none (fun y => nocap y) flatIds) (L_laws_markIntS : (List Int) → Int → Option (Int × List Int)) (h_laws_markIntS : H_laws_markIntS E L_laws_markIntS) (a0_Shape : List Int) (a0_Data : List Int) (a1 : Int) : G E c_laws_markArray [] ⟨slotsOf [(0, .agg [.row 0 1, .row 1 1]), (1, .d (.int .i64 a1))], obsOf [(0, ⟨1, rowT cI 3 none a0_Shape, false⟩), (1, ⟨1, rowT cI 3 none a0_Data, false⟩)]⟩ = (laws_markArray_f L_laws_markIntS E.n a0_Shape a0_Data a1).bind fun r => some (.ret (.d (.int .i64 r.1)) [[lstT (cI) r.2.1], [lstT (cI) r.2.2]]) := by
  simp (config := {maxSteps := 40000000}) only [↓rPre, rPost, rCan, rObj, rI, rS, rB, r8, rLI, rLit, rEtc, hy.p, hy.l, hy.k, hy.r, hy.d, hy.w, hy.f, flatIds, oid, r_laws_markArray, ↓G_unf _ _ c_laws_markArray.eq_1, h_laws_markIntS.2, h_laws_markIntS.1, bind_ite, laws_markArray_f, rRow3, rVerdict, rRow51, rTest, rRow63, rRow9, rRow5, rMap83, rLog, ↓reduceIte, Nat.reduceMul, Nat.reduceAdd, Nat.reduceSub, Nat.reduceEqDiff, Nat.reduceBEq, Nat.reduceLeDiff, Nat.reduceLT, reduceCtorEq, Int.reduceAdd, Int.reduceSub, Int.reduceToNat, Int.reduceNeg, Int.reduceEq, Int.reduceLT, Int.reduceLE]
def H_laws_markArray (E : En) (L : (List Int) → (List Int) → Int → Option (Int × List Int × List Int)) : Prop := E.Γ.mu 9 = true ∧ (∀ (a0_Shape : List Int) (a0_Data : List Int) (a1 : Int), E.Γ 9 [.agg [ownT cI 3 none false a0_Shape, ownT cI 3 none false a0_Data], .d (.int .i64 a1)] = (L a0_Shape a0_Data a1).bind fun r => some (.ret (.d (.int .i64 r.1)) [[lstT (cI) r.2.1], [lstT (cI) r.2.2]]))
-- loop.example/s02135/laws.heldIntS
def b0_laws_heldIntS : Cd :=
  sq (sq (r [0, 1, 5, 9] [o 6 .mv [t 5], o 7 .mv [t 0], o 8 (.len false) [t 7], o 9 (.bin .lss) [t 6, t 8]])
   (.cond (t 9) (.skip) (.exit 0)))
  (sq (.block 1 (sq (sq (r [0, 1, 5, 17] [o 12 .mv [t 0], o 13 .mv [t 5], o 14 (.ia 1) [t 12, t 13], o 15 (.ld none) [t 14], o 16 .mv [t 1], o 17 (.bin .neq) [t 15, t 16]])
      (.cond (t 17) (sq (r [4] [o 4 .mv [i (-1)]])
        (.ret)) (.skip)))
     (r [0, 1, 5] [o 18 .mv [t 1], o 19 (.bin .add) [t 18, i 1], o 1 .mv [t 19]])))
   (r [0, 1, 5] [o 10 .mv [t 5], o 11 (.bin .add) [t 10, i 1], o 5 .mv [t 11]]))
def k1_laws_heldIntS : Cd :=
  sq (r [4] [o 20 .mv [t 1], o 4 .mv [t 20]])
  (.ret)
def c_laws_heldIntS : Cd :=
  sq (r [0, 1] [o 4 .mv [i 0]])
  (sq (sq (r [0, 1, 5] [o 5 .mv [i 0]])
    (.block 0 (.loop [0, 1, 5] b0_laws_heldIntS))) k1_laws_heldIntS)
def r_laws_heldIntS : List RV := [.tmp 4]
def laws_heldIntS_l0 : Nat → (List Int) → Int → Int → Option (Int)
  | 0, _, _, _ => none
  | m0 + 1, x0, x1, x5 =>
    if x5 < (↑(List.length x0) : Int) then ((idx x0 x5).bind fun y0 =>
     if y0 = x1 then laws_heldIntS_l0 m0 x0 (w64 (x1 + 1)) (w64 (x5 + 1))
     else some (-1))
    else some x1
def laws_heldIntS_f (N : Nat) (a0 : List Int) (a1 : Int) : Option (Int) :=
  laws_heldIntS_l0 N a0 a1 0
theorem laws_heldIntS_l0_eq (E : En) (hy : Hy E [] [] [] r_laws_heldIntS none (fun y => nocap y) flatIds) : ∀ (m0 : Nat) (x0 : List Int) (x1 : Int) (x5 : Int), gH E [0, 1, 5] b0_laws_heldIntS [KJ.b 0, KJ.c k1_laws_heldIntS] m0 ⟨slotsOf [(0, .d (lstT (cI) x0)), (1, .d (.int .i64 x1)), (5, .d (.int .i64 x5))], obsOf []⟩ = (laws_heldIntS_l0 m0 x0 x1 x5).bind fun r => some (.ret (.d (.int .i64 r)) []) := by
  intro m0
  induction m0 with
  | zero => intros; rfl
  | succ m0 ih =>
    intros
    simp (config := {maxSteps := 40000000}) only [↓rPre, rPost, rCan, rObj, rI, rS, rB, r8, rLI, rLit, rEtc, hy.p, hy.l, hy.k, hy.r, hy.d, hy.w, hy.f, flatIds, oid, r_laws_heldIntS, ↓G_unf _ _ b0_laws_heldIntS.eq_1, ↓G_unf _ _ k1_laws_heldIntS.eq_1, ↓G_unf _ _ c_laws_heldIntS.eq_1, gH_succ, ih, bind_ite, laws_heldIntS_l0, rRow3, rVerdict, rRow51, rTest, rRow63, rRow9, rRow5, rMap83, rLog, ↓reduceIte, Nat.reduceMul, Nat.reduceAdd, Nat.reduceSub, Nat.reduceEqDiff, Nat.reduceBEq, Nat.reduceLeDiff, Nat.reduceLT, reduceCtorEq, Int.reduceAdd, Int.reduceSub, Int.reduceToNat, Int.reduceNeg, Int.reduceEq, Int.reduceLT, Int.reduceLE]
theorem laws_heldIntS_g (E : En) (hy : Hy E [] [] [] r_laws_heldIntS none (fun y => nocap y) flatIds) (a0 : List Int) (a1 : Int) : G E c_laws_heldIntS [] ⟨slotsOf [(0, .d (lstT cI a0)), (1, .d (.int .i64 a1))], obsOf []⟩ = (laws_heldIntS_f E.n a0 a1).bind fun r => some (.ret (.d (.int .i64 r)) []) := by
  simp (config := {maxSteps := 40000000}) only [↓rPre, rPost, rCan, rObj, rI, rS, rB, r8, rLI, rLit, rEtc, hy.p, hy.l, hy.k, hy.r, hy.d, hy.w, hy.f, flatIds, oid, r_laws_heldIntS, ↓G_unf _ _ b0_laws_heldIntS.eq_1, ↓G_unf _ _ k1_laws_heldIntS.eq_1, ↓G_unf _ _ c_laws_heldIntS.eq_1, bind_ite, laws_heldIntS_f, laws_heldIntS_l0_eq E hy, rRow3, rVerdict, rRow51, rTest, rRow63, rRow9, rRow5, rMap83, rLog, ↓reduceIte, Nat.reduceMul, Nat.reduceAdd, Nat.reduceSub, Nat.reduceEqDiff, Nat.reduceBEq, Nat.reduceLeDiff, Nat.reduceLT, reduceCtorEq, Int.reduceAdd, Int.reduceSub, Int.reduceToNat, Int.reduceNeg, Int.reduceEq, Int.reduceLT, Int.reduceLE]
def H_laws_heldIntS (E : En) (L : (List Int) → Int → Option (Int)) : Prop := E.Γ.mu 29 = false ∧ (∀ (a0 : List Int) (a1 : Int), E.Γ 29 [.d (lstT cI a0), .d (.int .i64 a1)] = (L a0 a1).bind fun r => some (.ret (.d (.int .i64 r)) []))
-- loop.example/s02135/laws.heldArray
def c_laws_heldArray : Cd :=
  sq (r [1, 2] [o 2 .box [t 0], o 4 .mv [i 0]])
  (sq (r [1, 2] [o 5 (.fa 0) [t 2], o 6 (.ld none) [t 5], o 7 .mv [t 1], o 8 (.call 29) [t 6, t 7], o 1 .mv [t 8]])
   (sq (sq (r [1, 2, 10] [o 9 .mv [t 1], o 10 (.bin .lss) [t 9, i 0]])
     (.cond (t 10) (sq (r [4] [o 4 .mv [i (-1)]])
       (.ret)) (.skip)))
    (sq (r [1] [o 11 (.fa 1) [t 2], o 12 (.ld none) [t 11], o 13 .mv [t 1], o 14 (.call 29) [t 12, t 13], o 1 .mv [t 14]])
     (sq (sq (r [1, 16] [o 15 .mv [t 1], o 16 (.bin .lss) [t 15, i 0]])
       (.cond (t 16) (sq (r [4] [o 4 .mv [i (-1)]])
         (.ret)) (.skip)))
      (sq (r [4] [o 17 .mv [t 1], o 4 .mv [t 17]])
       (.ret))))))
def r_laws_heldArray : List RV := [.tmp 4]
def laws_heldArray_f (L_laws_heldIntS : (List Int) → Int → Option (Int)) (N : Nat) (a0_Shape : List Int) (a0_Data : List Int) (a1 : Int) : Option (Int) :=
  (L_laws_heldIntS a0_Shape a1).bind fun y0 =>
  if y0 < 0 then some (-1)
  else ((L_laws_heldIntS a0_Data y0).bind fun y1 =>
   if y1 < 0 then some (-1)
   else some y1)
theorem laws_heldArray_g (E : En) (hy : Hy E [] [] [] r_laws_heldArray none (fun y => nocap y) flatIds) (L_laws_heldIntS : (List Int) → Int → Option (Int)) (h_laws_heldIntS : H_laws_heldIntS E L_laws_heldIntS) (a0_Shape : List Int) (a0_Data : List Int) (a1 : Int) : G E c_laws_heldArray [] ⟨slotsOf [(0, .agg [.d (lstT cI a0_Shape), .d (lstT cI a0_Data)]), (1, .d (.int .i64 a1))], obsOf []⟩ = (laws_heldArray_f L_laws_heldIntS E.n a0_Shape a0_Data a1).bind fun r => some (.ret (.d (.int .i64 r)) []) := by
  simp (config := {maxSteps := 40000000}) only [↓rPre, rPost, rCan, rObj, rI, rS, rB, r8, rLI, rLit, rEtc, hy.p, hy.l, hy.k, hy.r, hy.d, hy.w, hy.f, flatIds, oid, r_laws_heldArray, ↓G_unf _ _ c_laws_heldArray.eq_1, h_laws_heldIntS.2, h_laws_heldIntS.1, bind_ite, laws_heldArray_f, rRow3, rVerdict, rRow51, rTest, rRow63, rRow9, rRow5, rMap83, rLog, ↓reduceIte, Nat.reduceMul, Nat.reduceAdd, Nat.reduceSub, Nat.reduceEqDiff, Nat.reduceBEq, Nat.reduceLeDiff, Nat.reduceLT, reduceCtorEq, Int.reduceAdd, Int.reduceSub, Int.reduceToNat, Int.reduceNeg, Int.reduceEq, Int.reduceLT, Int.reduceLE]
def H_laws_heldArray (E : En) (L : (List Int) → (List Int) → Int → Option (Int)) : Prop := E.Γ.mu 10 = false ∧ (∀ (a0_Shape : List Int) (a0_Data : List Int) (a1 : Int), E.Γ 10 [.agg [.d (lstT cI a0_Shape), .d (lstT cI a0_Data)], .d (.int .i64 a1)] = (L a0_Shape a0_Data a1).bind fun r => some (.ret (.d (.int .i64 r)) []))
-- loop.example/s02135/laws.FnExactParseArray
def c_laws_FnExactParseArray : Cd :=
  sq (r [0] [o 2 .mv [b false]])
  (sq (sq (r [0, 13] [o 11 .mv [t 0], o 12 (.len true) [t 11], o 13 (.bin .gtr) [t 12, i 1048576]])
    (.cond (t 13) (sq (r [2] [o 2 .mv [b true]])
      (.ret)) (.skip)))
   (sq (r [0, 3, 4] [o 15 .mv [t 0], o 16 (.call 6) [t 15], o 14 .mv [t 16], o 17 (.ext 0) [t 14], o 18 (.ext 1) [t 14], o 3 (.alloc [.nil, .nil]) [], e (.st 2) [t 3, t 17], o 4 .mv [t 18]])
    (sq (r [0, 3, 4, 5, 6] [o 20 .mv [t 0], o 21 (.call 7) [t 20], o 19 .mv [t 21], o 22 (.ext 0) [t 19], o 23 (.ext 1) [t 19], o 5 (.alloc [.nil, .nil]) [], e (.st 2) [t 5, t 22], o 6 .mv [t 23]])
     (sq (sq (r [0, 3, 4, 5, 32] [o 24 (.ld (some 2)) [t 5], o 25 (.ld (some 2)) [t 3], o 26 (.call 8) [t 24, t 25], o 27 .not [t 26], o 28 .mv [t 27], g 28 false 29 .mv [t 6], g 28 false 30 .mv [t 4], g 28 false 31 (.bin .neq) [t 29, t 30], o 32 .pick [t 28, b true, t 31]])
       (.cond (t 32) (sq (r [2] [o 2 .mv [b false]])
         (.ret)) (.skip)))
      (sq (r [0, 3, 4, 5, 7] [o 7 .mv [i 1]])
       (sq (r [0, 3, 4, 5, 7] [o 33 (.ld (some 2)) [t 5], o 34 .mv [t 7], o 35 (.call 9) [t 33, t 34], o 7 .mv [t 35]])
        (sq (r [0, 3, 4, 5, 7, 8] [o 8 .mv [i 1]])
         (sq (r [0, 3, 4, 5, 7, 8] [o 36 (.ld (some 2)) [t 5], o 37 .mv [t 8], o 38 (.call 10) [t 36, t 37], o 8 .mv [t 38]])
          (sq (sq (r [0, 3, 4, 5, 7, 8, 40] [o 39 .mv [t 8], o 40 (.bin .lss) [t 39, i 0]])
            (.cond (t 40) (sq (r [2] [o 2 .mv [b false]])
              (.ret)) (.skip)))
           (sq (sq (r [0, 3, 4, 5, 7, 43] [o 41 .mv [t 8], o 42 .mv [t 7], o 43 (.bin .neq) [t 41, t 42]])
             (.cond (t 43) (sq (r [2] [o 2 .mv [b false]])
               (.ret)) (.skip)))
            (sq (r [3, 4, 5, 7, 9, 10] [o 45 .mv [t 0], o 46 (.call 7) [t 45], o 44 .mv [t 46], o 47 (.ext 0) [t 44], o 48 (.ext 1) [t 44], o 9 (.alloc [.nil, .nil]) [], e (.st 2) [t 9, t 47], o 10 .mv [t 48]])
             (sq (sq (r [5, 7, 57] [o 49 (.ld (some 2)) [t 9], o 50 (.ld (some 2)) [t 3], o 51 (.call 8) [t 49, t 50], o 52 .not [t 51], o 53 .mv [t 52], g 53 false 54 .mv [t 10], g 53 false 55 .mv [t 4], g 53 false 56 (.bin .neq) [t 54, t 55], o 57 .pick [t 53, b true, t 56]])
               (.cond (t 57) (sq (r [2] [o 2 .mv [b false]])
                 (.ret)) (.skip)))
              (sq (r [5, 7, 8] [o 8 .mv [i 1]])
               (sq (r [7, 8] [o 58 (.ld (some 2)) [t 5], o 59 .mv [t 8], o 60 (.call 10) [t 58, t 59], o 8 .mv [t 60]])
                (sq (sq (r [7, 8, 62] [o 61 .mv [t 8], o 62 (.bin .lss) [t 61, i 0]])
                  (.cond (t 62) (sq (r [2] [o 2 .mv [b false]])
                    (.ret)) (.skip)))
                 (sq (sq (r [65] [o 63 .mv [t 8], o 64 .mv [t 7], o 65 (.bin .neq) [t 63, t 64]])
                   (.cond (t 65) (sq (r [2] [o 2 .mv [b false]])
                     (.ret)) (.skip)))
                  (sq (r [2] [o 2 .mv [b true]])
                   (.ret))))))))))))))))))
def r_laws_FnExactParseArray : List RV := [.tmp 2]
def laws_FnExactParseArray_f (L_spec_ParseArray : (List UInt8) → Option (List Int × List Int × Int)) (L_impl_ParseArray : (List UInt8) → Option (List Int × List Int × Int)) (L_laws_eqArray : (List Int) → (List Int) → (List Int) → (List Int) → Option (Bool)) (L_laws_markArray : (List Int) → (List Int) → Int → Option (Int × List Int × List Int)) (L_laws_heldArray : (List Int) → (List Int) → Int → Option (Int)) (N : Nat) (a0 : List UInt8) : Option (Bool) :=
  if 1048576 < (↑(List.length a0) : Int) then some true
  else ((L_spec_ParseArray a0).bind fun y0 =>
   (L_impl_ParseArray a0).bind fun y1 =>
   (L_laws_eqArray y1.fst y1.snd.fst y0.fst y0.snd.fst).bind fun y2 =>
   if y2 = false then some false
   else (if y1.snd.snd = y0.snd.snd then ((L_laws_markArray y1.fst y1.snd.fst 1).bind fun y3 =>
     (L_laws_heldArray y3.snd.fst y3.snd.snd 1).bind fun y4 =>
     if y4 < 0 then some false
     else (if y4 = y3.fst then ((L_impl_ParseArray a0).bind fun y5 =>
       (L_laws_eqArray y5.fst y5.snd.fst y0.fst y0.snd.fst).bind fun y6 =>
       if y6 = false then some false
       else (if y5.snd.snd = y0.snd.snd then ((L_laws_heldArray y3.snd.fst y3.snd.snd 1).bind fun y7 =>
         if y7 < 0 then some false
         else (if y7 = y3.fst then some true
          else some false))
        else some false))
      else some false))
    else some false))
theorem laws_FnExactParseArray_g (E : En) (hy : Hy E [] [] [] r_laws_FnExactParseArray none (fun y => nocap y) flatIds) (L_spec_ParseArray : (List UInt8) → Option (List Int × List Int × Int)) (h_spec_ParseArray : H_spec_ParseArray E L_spec_ParseArray) (L_impl_ParseArray : (List UInt8) → Option (List Int × List Int × Int)) (h_impl_ParseArray : H_impl_ParseArray E L_impl_ParseArray) (L_laws_eqArray : (List Int) → (List Int) → (List Int) → (List Int) → Option (Bool)) (h_laws_eqArray : H_laws_eqArray E L_laws_eqArray) (L_laws_markArray : (List Int) → (List Int) → Int → Option (Int × List Int × List Int)) (h_laws_markArray : H_laws_markArray E L_laws_markArray) (L_laws_heldArray : (List Int) → (List Int) → Int → Option (Int)) (h_laws_heldArray : H_laws_heldArray E L_laws_heldArray) (a0 : List UInt8) : G E c_laws_FnExactParseArray [] ⟨slotsOf [(0, .d (sD a0))], obsOf []⟩ = (laws_FnExactParseArray_f L_spec_ParseArray L_impl_ParseArray L_laws_eqArray L_laws_markArray L_laws_heldArray E.n a0).bind fun r => some (.ret (.d (.bool r)) []) := by
  simp (config := {maxSteps := 40000000}) only [↓rPre, rPost, rCan, rObj, rI, rS, rB, r8, rLI, rLit, rEtc, hy.p, hy.l, hy.k, hy.r, hy.d, hy.w, hy.f, flatIds, oid, r_laws_FnExactParseArray, ↓G_unf _ _ c_laws_FnExactParseArray.eq_1, h_spec_ParseArray.2, h_spec_ParseArray.1, h_impl_ParseArray.2, h_impl_ParseArray.1, h_laws_eqArray.2, h_laws_eqArray.1, h_laws_markArray.2, h_laws_markArray.1, h_laws_heldArray.2, h_laws_heldArray.1, bind_ite, laws_FnExactParseArray_f, rRow3, rVerdict, rRow51, rTest, rRow63, rRow9, rRow5, rMap83, rLog, ↓reduceIte, Nat.reduceMul, Nat.reduceAdd, Nat.reduceSub, Nat.reduceEqDiff, Nat.reduceBEq, Nat.reduceLeDiff, Nat.reduceLT, reduceCtorEq, Int.reduceAdd, Int.reduceSub, Int.reduceToNat, Int.reduceNeg, Int.reduceEq, Int.reduceLT, Int.reduceLE]
def H_laws_FnExactParseArray (E : En) (L : (List UInt8) → Option (Bool)) : Prop := E.Γ.mu 3 = false ∧ (∀ (a0 : List UInt8), E.Γ 3 [.d (sD a0)] = (L a0).bind fun r => some (.ret (.d (.bool r)) []))
end Go.Vm
