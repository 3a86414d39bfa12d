/- The functions under laws_FnExactReadReport: the abstract machine's codes, and what they come to in plain terms. Printed by a program of this session. -/
import Derived.Test.YtkfmlfihobkcmaaDoorVmKind
set_option linter.all false
set_option maxRecDepth 100000
set_option maxHeartbeats 4000000
namespace Go.Vm
structure TVerdict where
  Kind : Int
  Code : Int
  deriving DecidableEq
def encVerdict (x : TVerdict) : List D := [.int .i64 x.Kind, .int .i64 x.Code]
def decVerdict : List D → Option TVerdict
  | [.int .i64 a0, .int .i64 a1] => some ⟨a0, a1⟩
  | _ => none
theorem decVerdict_ok : ∀ xs x, decVerdict xs = some x → xs = encVerdict x := by
  intro xs x h
  unfold decVerdict at h
  split at h
  · cases h; rfl
  · cases h
def cVerdict : Enc TVerdict := ⟨2, encVerdict, decVerdict, fun _ => rfl, by decide, decVerdict_ok, fun _ => rfl⟩
theorem cVerdict_enc (x : TVerdict) : cVerdict.enc x = [.int .i64 x.Kind, .int .i64 x.Code] := rfl
theorem cVerdict_dec (x_Kind : Int) (x_Code : Int) : cVerdict.dec [.int .i64 x_Kind, .int .i64 x_Code] = some ⟨x_Kind, x_Code⟩ := cVerdict.edc ⟨x_Kind, x_Code⟩
theorem cVerdict_dec1 (a : D) : cVerdict.dec [a] = none := by cases a <;> first | rfl | (rename_i k n; cases k <;> rfl)
def rVerdict := And.intro (cVerdict_dec1) <| And.intro (rKind cVerdict 2 rfl) <| And.intro (cVerdict_enc) <| And.intro (cVerdict_dec) <| And.intro (plain_T cVerdict (fun _ => rfl)) <| And.intro ((fun l m => k_get cVerdict 2 l m 1 (by decide) rfl)) <| And.intro ((fun e cap l m xs z hz => k_part' cVerdict 2 e cap l m 1 xs z hz rfl)) <| And.intro (k_getK cVerdict 1 2 rfl) <| (k_getK cVerdict 2 4 rfl)
structure TTest where
  In_Shape : List Int
  In_Data : List Int
  Want_Shape : List Int
  Want_Data : List Int
  deriving DecidableEq
def encTest (x : TTest) : List D := [lstT cI x.In_Shape, lstT cI x.In_Data, lstT cI x.Want_Shape, lstT cI x.Want_Data]
def decTest : List D → Option TTest
  | [d0, d1, d2, d3] => (decL cI d0).bind fun a0 => (decL cI d1).bind fun a1 => (decL cI d2).bind fun a2 => (decL cI d3).bind fun a3 => some ⟨a0, a1, a2, a3⟩
  | _ => none
theorem decTest_ok : ∀ xs x, decTest xs = some x → xs = encTest x := by
  intro xs x h
  unfold decTest at h
  split at h
  · have hh := Option.bind_eq_some_iff.mp h; clear h; obtain ⟨a0, h0, h⟩ := hh; have e0 := decL_ok h0; clear h0; subst e0; have hh := Option.bind_eq_some_iff.mp h; clear h; obtain ⟨a1, h1, h⟩ := hh; have e1 := decL_ok h1; clear h1; subst e1; have hh := Option.bind_eq_some_iff.mp h; clear h; obtain ⟨a2, h2, h⟩ := hh; have e2 := decL_ok h2; clear h2; subst e2; have hh := Option.bind_eq_some_iff.mp h; clear h; obtain ⟨a3, h3, h⟩ := hh; have e3 := decL_ok h3; clear h3; subst e3; cases h; rfl
  · cases h
def cTest : Enc TTest := ⟨4, encTest, decTest, fun _ => rfl, by decide, decTest_ok, fun x => by simp only [encTest, decTest, decL_T, Option.bind_some]⟩
theorem cTest_enc (x : TTest) : cTest.enc x = [lstT cI x.In_Shape, lstT cI x.In_Data, lstT cI x.Want_Shape, lstT cI x.Want_Data] := rfl
theorem cTest_dec (x_In_Shape : List Int) (x_In_Data : List Int) (x_Want_Shape : List Int) (x_Want_Data : List Int) : cTest.dec [lstT cI x_In_Shape, lstT cI x_In_Data, lstT cI x_Want_Shape, lstT cI x_Want_Data] = some ⟨x_In_Shape, x_In_Data, x_Want_Shape, x_Want_Data⟩ := cTest.edc ⟨x_In_Shape, x_In_Data, x_Want_Shape, x_Want_Data⟩
theorem cTest_dec1 (a : D) : cTest.dec [a] = none := by cases a <;> first | rfl | (rename_i k n; cases k <;> rfl)
def rTest := And.intro (cTest_dec1) <| And.intro (rKind cTest 4 rfl) <| And.intro (cTest_enc) <| And.intro (cTest_dec) <| And.intro (plain_N cTest) <| And.intro ((fun l m => k_get cTest 4 l m 1 (by decide) rfl)) <| And.intro ((fun e cap l m xs z hz => k_part' cTest 4 e cap l m 1 xs z hz rfl)) <| And.intro ((fun l m => k_get cTest 4 l m 2 (by decide) rfl)) <| And.intro ((fun e cap l m xs z hz => k_part' cTest 4 e cap l m 2 xs z hz rfl)) <| And.intro ((fun l m => k_get cTest 4 l m 3 (by decide) rfl)) <| And.intro ((fun e cap l m xs z hz => k_part' cTest 4 e cap l m 3 xs z hz rfl)) <| And.intro (k_getK cTest 1 4 rfl) <| (k_getK cTest 2 8 rfl)
def rRow3 := rRow cI 3 1 rfl [iD 0] 0 rfl
def rRow51 := rRow cVerdict 51 2 rfl [iD 0, iD 0] ⟨0, 0⟩ rfl
def rRow63 := rRow cTest 63 4 rfl [.lst 0 [], .lst 0 [], .lst 0 [], .lst 0 []] ⟨[], [], [], []⟩ rfl
def rRow9 := rRow cS 9 1 rfl [sD []] [] rfl
def rRow5 := rRow c8 5 1 rfl [.int .u8 0] 0 rfl
def rMap83 := rMapS cI 83 none rfl [iD 0] 0 rfl
/-- the types of elements that lead to no memory -/
def flatIds (e : Nat) : Bool := e == 3 || e == 51 || e == 9 || e == 5
-- loop.example/s02135/spec.l1Cut
def b0_spec_l1Cut : Cd :=
  sq (sq (r [0, 1, 5, 6, 7, 12] [o 9 .mv [t 7], o 10 .mv [t 0], o 11 (.len true) [t 10], o 12 (.bin .leq) [t 9, t 11]])
   (.cond (t 12) (.skip) (.exit 0)))
  (sq (.block 1 (sq (r [0, 1, 5, 6, 7, 25] [o 15 .mv [t 7], o 16 .mv [t 0], o 17 (.len true) [t 16], o 18 (.bin .eql) [t 15, t 17], o 19 .mv [t 18], g 19 false 20 .mv [t 0], g 19 false 21 .mv [t 7], g 19 false 22 .ixs [t 20, t 21], g 19 false 23 .mv [t 1], g 19 false 24 (.bin .eql) [t 22, t 23], o 25 .pick [t 19, b true, t 24]])
     (.cond (t 25) (sq (r [0, 1, 5, 7] [o 26 .mv [t 5], o 27 .mv [t 0], o 28 .mv [t 6], o 29 .mv [t 7], o 30 (.slc true 1 true true) [t 27, t 28, t 29], o 31 (lit 9 1 1) [t 30], o 32 (.app 9 1 16) [t 26, t 31], o 5 .mv [t 32]])
       (r [0, 1, 5, 6, 7] [o 33 .mv [t 7], o 34 (.bin .add) [t 33, i 1], o 6 .mv [t 34]])) (.skip))))
   (r [0, 1, 5, 6, 7] [o 13 .mv [t 7], o 14 (.bin .add) [t 13, i 1], o 7 .mv [t 14]]))
def k1_spec_l1Cut : Cd :=
  sq (r [4] [o 35 .mv [t 5], o 4 .mv [t 35]])
  (.ret)
def c_spec_l1Cut : Cd :=
  sq (r [0, 1] [o 4 .mv [n]])
  (sq (r [0, 1, 5] [o 8 (lit 9 1 0) [], o 5 .mv [t 8]])
   (sq (r [0, 1, 5, 6] [o 6 .mv [i 0]])
    (sq (sq (r [0, 1, 5, 6, 7] [o 7 .mv [i 0]])
      (.block 0 (.loop [0, 1, 5, 6, 7] b0_spec_l1Cut))) k1_spec_l1Cut)))
def r_spec_l1Cut : List RV := [.tmp 4]
def spec_l1Cut_l0 : Nat → (List UInt8) → Int → Int → Int → (List (List UInt8)) → Option (List (List UInt8))
  | 0, _, _, _, _, _ => none
  | m0 + 1, x0, x1, x6, x7, o320 =>
    if x7 ≤ (↑(List.length x0) : Int) then (if x7 = (↑(List.length x0) : Int) then ((cut x0 x6 x7).bind fun y0 =>
      if room 16 (List.length (o320 ++ [y0])) then spec_l1Cut_l0 m0 x0 x1 (w64 (x7 + 1)) (w64 (x7 + 1)) (o320 ++ [y0])
      else none)
     else ((idxB x0 x7).bind fun y1 =>
      if y1 = x1 then ((cut x0 x6 x7).bind fun y2 =>
       if room 16 (List.length (o320 ++ [y2])) then spec_l1Cut_l0 m0 x0 x1 (w64 (x7 + 1)) (w64 (x7 + 1)) (o320 ++ [y2])
       else none)
      else spec_l1Cut_l0 m0 x0 x1 x6 (w64 (x7 + 1)) o320))
    else some o320
def spec_l1Cut_f (N : Nat) (a0 : List UInt8) (a1 : Int) : Option (List (List UInt8)) :=
  spec_l1Cut_l0 N a0 a1 0 0 []
theorem spec_l1Cut_l0_eq (E : En) (hy : Hy E [] [] [] r_spec_l1Cut none (fun y => nocap y) flatIds) : ∀ (m0 : Nat) (x0 : List UInt8) (x1 : Int) (x6 : Int) (x7 : Int) (o320 : List (List UInt8)), gH E [0, 1, 5, 6, 7] b0_spec_l1Cut [KJ.b 0, KJ.c k1_spec_l1Cut] m0 ⟨slotsOf [(0, .d (sD x0)), (1, .d (.int .u8 x1)), (5, A.row 320 1), (6, .d (.int .i64 x6)), (7, .d (.int .i64 x7))], obsOf [(320, ⟨1, rowT (cS) 9 none o320, false⟩)]⟩ = (spec_l1Cut_l0 m0 x0 x1 x6 x7 o320).bind fun r => some (.ret (ownT (cS) 9 none false r) []) := by
  intro m0
  induction m0 with
  | zero => intros; rfl
  | succ m0 ih =>
    intros
    simp (config := {maxSteps := 40000000}) only [↓rPre, rPost, rCan, rObj, rI, rS, rB, r8, rLI, rLit, rEtc, hy.p, hy.l, hy.k, hy.r, hy.d, hy.w, hy.f, flatIds, oid, r_spec_l1Cut, ↓G_unf _ _ b0_spec_l1Cut.eq_1, ↓G_unf _ _ k1_spec_l1Cut.eq_1, ↓G_unf _ _ c_spec_l1Cut.eq_1, gH_succ, ih, bind_ite, spec_l1Cut_l0, rRow3, rVerdict, rRow51, rTest, rRow63, rRow9, rRow5, rMap83, rLog, ↓reduceIte, Nat.reduceMul, Nat.reduceAdd, Nat.reduceSub, Nat.reduceEqDiff, Nat.reduceBEq, Nat.reduceLeDiff, Nat.reduceLT, reduceCtorEq, Int.reduceAdd, Int.reduceSub, Int.reduceToNat, Int.reduceNeg, Int.reduceEq, Int.reduceLT, Int.reduceLE]
theorem spec_l1Cut_g (E : En) (hy : Hy E [] [] [] r_spec_l1Cut none (fun y => nocap y) flatIds) (a0 : List UInt8) (a1 : Int) : G E c_spec_l1Cut [] ⟨slotsOf [(0, .d (sD a0)), (1, .d (.int .u8 a1))], obsOf []⟩ = (spec_l1Cut_f E.n a0 a1).bind fun r => some (.ret (ownT (cS) 9 none false r) []) := by
  simp (config := {maxSteps := 40000000}) only [↓rPre, rPost, rCan, rObj, rI, rS, rB, r8, rLI, rLit, rEtc, hy.p, hy.l, hy.k, hy.r, hy.d, hy.w, hy.f, flatIds, oid, r_spec_l1Cut, ↓G_unf _ _ b0_spec_l1Cut.eq_1, ↓G_unf _ _ k1_spec_l1Cut.eq_1, ↓G_unf _ _ c_spec_l1Cut.eq_1, bind_ite, spec_l1Cut_f, spec_l1Cut_l0_eq E hy, rRow3, rVerdict, rRow51, rTest, rRow63, rRow9, rRow5, rMap83, rLog, ↓reduceIte, Nat.reduceMul, Nat.reduceAdd, Nat.reduceSub, Nat.reduceEqDiff, Nat.reduceBEq, Nat.reduceLeDiff, Nat.reduceLT, reduceCtorEq, Int.reduceAdd, Int.reduceSub, Int.reduceToNat, Int.reduceNeg, Int.reduceEq, Int.reduceLT, Int.reduceLE]
def H_spec_l1Cut (E : En) (L : (List UInt8) → Int → Option (List (List UInt8))) : Prop := E.Γ.mu 21 = false ∧ (∀ (a0 : List UInt8) (a1 : Int), E.Γ 21 [.d (sD a0), .d (.int .u8 a1)] = (L a0 a1).bind fun r => some (.ret (ownT (cS) 9 none false r) []))
-- loop.example/s02135/spec.l6After
def c_spec_l6After : Cd :=
  sq (r [0, 1] [o 4 .mv [s []]])
  (sq (sq (r [0, 1, 17] [o 5 .mv [t 0], o 6 (.len true) [t 5], o 7 .mv [t 1], o 8 (.len true) [t 7], o 9 (.bin .lss) [t 6, t 8], o 10 .mv [t 9], g 10 false 11 .mv [t 0], g 10 false 12 .mv [t 1], g 10 false 13 (.len true) [t 12], g 10 false 14 (.slc true 1 false true) [t 11, t 13], g 10 false 15 .mv [t 1], g 10 false 16 (.bin .neq) [t 14, t 15], o 17 .pick [t 10, b true, t 16]])
    (.cond (t 17) (sq (r [4] [o 4 .mv [s []]])
      (.ret)) (.skip)))
   (sq (r [4] [o 18 .mv [t 0], o 19 .mv [t 1], o 20 (.len true) [t 19], o 21 (.slc true 1 true false) [t 18, t 20], o 4 .mv [t 21]])
    (.ret)))
def r_spec_l6After : List RV := [.tmp 4]
def spec_l6After_f (N : Nat) (a0 : List UInt8) (a1 : List UInt8) : Option (List UInt8) :=
  if (↑(List.length a0) : Int) < (↑(List.length a1) : Int) then some []
  else ((cut a0 0 (↑(List.length a1) : Int)).bind fun y0 =>
   if y0 = a1 then ((cut a0 (↑(List.length a1) : Int) (↑(List.length a0) : Int)).bind fun y1 =>
    some y1)
   else some [])
theorem spec_l6After_g (E : En) (hy : Hy E [] [] [] r_spec_l6After none (fun y => nocap y) flatIds) (a0 : List UInt8) (a1 : List UInt8) : G E c_spec_l6After [] ⟨slotsOf [(0, .d (sD a0)), (1, .d (sD a1))], obsOf []⟩ = (spec_l6After_f E.n a0 a1).bind fun r => some (.ret (.d (sD r)) []) := by
  simp (config := {maxSteps := 40000000}) only [↓rPre, rPost, rCan, rObj, rI, rS, rB, r8, rLI, rLit, rEtc, hy.p, hy.l, hy.k, hy.r, hy.d, hy.w, hy.f, flatIds, oid, r_spec_l6After, ↓G_unf _ _ c_spec_l6After.eq_1, bind_ite, spec_l6After_f, rRow3, rVerdict, rRow51, rTest, rRow63, rRow9, rRow5, rMap83, rLog, ↓reduceIte, Nat.reduceMul, Nat.reduceAdd, Nat.reduceSub, Nat.reduceEqDiff, Nat.reduceBEq, Nat.reduceLeDiff, Nat.reduceLT, reduceCtorEq, Int.reduceAdd, Int.reduceSub, Int.reduceToNat, Int.reduceNeg, Int.reduceEq, Int.reduceLT, Int.reduceLE]
def H_spec_l6After (E : En) (L : (List UInt8) → (List UInt8) → Option (List UInt8)) : Prop := E.Γ.mu 30 = false ∧ (∀ (a0 : List UInt8) (a1 : List UInt8), E.Γ 30 [.d (sD a0), .d (sD a1)] = (L a0 a1).bind fun r => some (.ret (.d (sD r)) []))
-- loop.example/s02135/spec.l1Dec
def c_spec_l1Dec : Cd :=
  sq (r [0] [o 2 .mv [s []]])
  (sq (sq (r [0, 4] [o 3 .mv [t 0], o 4 (.bin .lss) [t 3, i 0]])
    (.cond (t 4) (sq (r [2] [o 5 .mv [t 0], o 6 .neg [t 5], o 7 (.call 32) [t 6], o 8 (.bin .add) [s [45], t 7], o 2 .mv [t 8]])
      (.ret)) (.skip)))
   (sq (sq (r [0, 10] [o 9 .mv [t 0], o 10 (.bin .lss) [t 9, i 10]])
     (.cond (t 10) (sq (r [2] [o 11 .mv [t 0], o 12 (.bin .add) [i 48, t 11], o 13 (.cvt .u8) [t 12], o 14 (lit 5 1 1) [t 13], o 15 .b2s [t 14], o 2 .mv [t 15]])
       (.ret)) (.skip)))
    (sq (rd [] [2] [ap [1472] false [] (o 16 .mv [t 0]), ap [1472] false [] (o 17 (.bin .quo) [t 16, i 10]), o 19 .mv [t 0], o 20 (.bin .rem) [t 19, i 10], o 21 (.bin .add) [i 48, t 20], o 22 (.cvt .u8) [t 21], ap [] true [] (o 23 (lit 5 1 1) [t 22]), o 24 .b2s [t 23], ap [1472] false [23] (o 18 (.call 32) [t 17]), o 25 (.bin .add) [t 18, t 24], o 2 .mv [t 25]])
     (.ret))))
def r_spec_l1Dec : List RV := [.tmp 2]
def H_spec_l1Dec (E : En) (L : Int → Option (List UInt8)) : Prop := E.Γ.mu 32 = false ∧ (∀ (a0 : Int), E.Γ 32 [.d (.int .i64 a0)] = (L a0).bind fun r => some (.ret (.d (sD r)) []))
def spec_l1Dec_f (L_spec_l1Dec : Int → Option (List UInt8)) (N : Nat) (a0 : Int) : Option (List UInt8) :=
  if a0 < 0 then ((L_spec_l1Dec (w64 (0 - a0))).bind fun y0 =>
   if roomS (List.length y0 + 1) then some (45 :: y0)
   else none)
  else (if a0 < 10 then some (bytes8 [Go.IntKind.wrap .u8 (w64 (48 + a0))])
   else ((L_spec_l1Dec (w64 (Int.tdiv a0 10))).bind fun y1 =>
    if roomS (List.length (y1 ++ bytes8 [Go.IntKind.wrap .u8 (w64 (48 + Int.tmod a0 10))])) then some (y1 ++ bytes8 [Go.IntKind.wrap .u8 (w64 (48 + Int.tmod a0 10))])
    else none))
theorem spec_l1Dec_g (E : En) (hy : Hy E [] [] [] r_spec_l1Dec none (fun y => nocap y) flatIds) (L_spec_l1Dec : Int → Option (List UInt8)) (h_spec_l1Dec : H_spec_l1Dec E L_spec_l1Dec) (a0 : Int) : G E c_spec_l1Dec [] ⟨slotsOf [(0, .d (.int .i64 a0))], obsOf []⟩ = (spec_l1Dec_f L_spec_l1Dec E.n a0).bind fun r => some (.ret (.d (sD r)) []) := by
  simp (config := {maxSteps := 40000000}) only [↓rPre, rPost, rCan, rObj, rI, rS, rB, r8, rLI, rLit, rEtc, hy.p, hy.l, hy.k, hy.r, hy.d, hy.w, hy.f, flatIds, oid, r_spec_l1Dec, ↓G_unf _ _ c_spec_l1Dec.eq_1, h_spec_l1Dec.2, h_spec_l1Dec.1, bind_ite, spec_l1Dec_f, rRow3, rVerdict, rRow51, rTest, rRow63, rRow9, rRow5, rMap83, rLog, ↓reduceIte, Nat.reduceMul, Nat.reduceAdd, Nat.reduceSub, Nat.reduceEqDiff, Nat.reduceBEq, Nat.reduceLeDiff, Nat.reduceLT, reduceCtorEq, Int.reduceAdd, Int.reduceSub, Int.reduceToNat, Int.reduceNeg, Int.reduceEq, Int.reduceLT, Int.reduceLE]
-- loop.example/s02135/spec.l6Word
def c_spec_l6Word : Cd :=
  sq (r [1] [o 1 .box [t 0], o 2 .mv [s []]])
  (sq (sq (r [1, 5] [o 3 (.fa 0) [t 1], o 4 (.ld none) [t 3], o 5 (.bin .eql) [t 4, i 3]])
    (.cond (t 5) (sq (r [2] [o 6 (.fa 1) [t 1], o 7 (.ld none) [t 6], o 8 (.call 32) [t 7], o 9 (.bin .add) [s [101, 114, 114, 111, 114, 32], t 8], o 2 .mv [t 9]])
      (.ret)) (.skip)))
   (sq (r [2] [o 10 (lit 9 1 5) [s [112, 97, 115, 115], s [102, 97, 105, 108], s [], s [102, 117, 101, 108], s [99, 101, 108, 108, 115]], o 11 (.fa 0) [t 1], o 12 (.ld none) [t 11], o 13 (.bin .sub) [t 12, i 1], o 14 (.ia 1) [t 10, t 13], o 15 (.ld none) [t 14], o 2 .mv [t 15]])
    (.ret)))
def r_spec_l6Word : List RV := [.tmp 2]
def spec_l6Word_f (L_spec_l1Dec : Int → Option (List UInt8)) (N : Nat) (a0_Kind : Int) (a0_Code : Int) : Option (List UInt8) :=
  if a0_Kind = 3 then ((L_spec_l1Dec a0_Code).bind fun y0 =>
   if roomS (List.length y0 + 1 + 1 + 1 + 1 + 1 + 1) then some (101 :: 114 :: 114 :: 111 :: 114 :: 32 :: y0)
   else none)
  else (if 0 ≤ w64 (a0_Kind - 1) ∧ w64 (a0_Kind - 1) < 5 then (if Int.toNat (w64 (a0_Kind - 1)) = 0 then some ([112, 97, 115, 115])
    else (if Int.toNat (w64 (a0_Kind - 1)) = 1 then some ([102, 97, 105, 108])
     else (if Int.toNat (w64 (a0_Kind - 1)) = 2 then some []
      else (if Int.toNat (w64 (a0_Kind - 1)) = 3 then some ([102, 117, 101, 108])
       else (if Int.toNat (w64 (a0_Kind - 1)) = 4 then some ([99, 101, 108, 108, 115])
        else none)))))
   else none)
theorem spec_l6Word_g (E : En) (hy : Hy E [] [] [] r_spec_l6Word none (fun y => nocap y) flatIds) (L_spec_l1Dec : Int → Option (List UInt8)) (h_spec_l1Dec : H_spec_l1Dec E L_spec_l1Dec) (a0_Kind : Int) (a0_Code : Int) : G E c_spec_l6Word [] ⟨slotsOf [(0, .agg [.d (.int .i64 a0_Kind), .d (.int .i64 a0_Code)])], obsOf []⟩ = (spec_l6Word_f L_spec_l1Dec E.n a0_Kind a0_Code).bind fun r => some (.ret (.d (sD r)) []) := by
  simp (config := {maxSteps := 40000000}) only [↓rPre, rPost, rCan, rObj, rI, rS, rB, r8, rLI, rLit, rEtc, hy.p, hy.l, hy.k, hy.r, hy.d, hy.w, hy.f, flatIds, oid, r_spec_l6Word, ↓G_unf _ _ c_spec_l6Word.eq_1, h_spec_l1Dec.2, h_spec_l1Dec.1, bind_ite, spec_l6Word_f, rRow3, rVerdict, rRow51, rTest, rRow63, rRow9, rRow5, rMap83, rLog, ↓reduceIte, Nat.reduceMul, Nat.reduceAdd, Nat.reduceSub, Nat.reduceEqDiff, Nat.reduceBEq, Nat.reduceLeDiff, Nat.reduceLT, reduceCtorEq, Int.reduceAdd, Int.reduceSub, Int.reduceToNat, Int.reduceNeg, Int.reduceEq, Int.reduceLT, Int.reduceLE]
def H_spec_l6Word (E : En) (L : Int → Int → Option (List UInt8)) : Prop := E.Γ.mu 50 = false ∧ (∀ (a0_Kind : Int) (a0_Code : Int), E.Γ 50 [.agg [.d (.int .i64 a0_Kind), .d (.int .i64 a0_Code)]] = (L a0_Kind a0_Code).bind fun r => some (.ret (.d (sD r)) []))
-- loop.example/s02135/spec.l6Verdict
def b0_spec_l6Verdict : Cd :=
  sq (sq (r [0, 2, 3, 7] [o 6 .mv [t 3], o 7 (.bin .leq) [t 6, i 5]])
   (.cond (t 7) (.skip) (.exit 0)))
  (sq (.block 1 (sq (r [0, 2, 3, 18] [o 10 .mv [t 3], o 11 (.bin .neq) [t 10, i 3], o 12 .mv [t 11], g 12 true 13 .mv [t 0], g 12 true 14 .mv [t 3], g 12 true 15 (.bld [(.d (iD 0)), (.d (iD 0))] [(0, 1)]) [t 14], g 12 true 16 (.call 50) [t 15], g 12 true 17 (.bin .eql) [t 13, t 16], o 18 .pick [t 12, t 17, b false]])
     (.cond (t 18) (sq (r [2] [o 19 .mv [t 3], o 20 (.bld [(.d (iD 0)), (.d (iD 0))] [(0, 1)]) [t 19], e (.st 2) [t 2, t 20]])
       (.ret)) (.skip))))
   (r [0, 2, 3] [o 8 .mv [t 3], o 9 (.bin .add) [t 8, i 1], o 3 .mv [t 9]]))
def b1_spec_l6Verdict : Cd :=
  sq (sq (r [0, 2, 4, 22] [o 21 .mv [t 4], o 22 (.bin .leq) [t 21, i 99]])
   (.cond (t 22) (.skip) (.exit 2)))
  (sq (.block 3 (sq (r [0, 2, 4, 5] [o 25 .mv [t 4], o 26 (.bld [(.d (iD 0)), (.d (iD 0))] [(0, 1), (1, 1)]) [i 3, t 25], o 5 (.alloc [(.d (iD 0)), (.d (iD 0))]) [], e (.st 2) [t 5, t 26]])
     (sq (r [0, 2, 4, 5, 30] [o 27 .mv [t 0], o 28 (.ld (some 2)) [t 5], o 29 (.call 50) [t 28], o 30 (.bin .eql) [t 27, t 29]])
      (.cond (t 30) (sq (r [2] [o 31 (.ld (some 2)) [t 5], e (.st 2) [t 2, t 31]])
        (.ret)) (.skip)))))
   (r [0, 2, 4] [o 23 .mv [t 4], o 24 (.bin .add) [t 23, i 1], o 4 .mv [t 24]]))
def k2_spec_l6Verdict : Cd :=
  sq (r [2] [o 32 (.bld [(.d (iD 0)), (.d (iD 0))] []) [], e (.st 2) [t 2, t 32]])
  (.ret)
def k3_spec_l6Verdict : Cd :=
  sq (sq (r [0, 2, 4] [o 4 .mv [i 1]])
   (.block 2 (.loop [0, 2, 4] b1_spec_l6Verdict))) k2_spec_l6Verdict
def c_spec_l6Verdict : Cd :=
  sq (r [0, 2] [o 2 (.alloc [(.d (iD 0)), (.d (iD 0))]) []])
  (sq (sq (r [0, 2, 3] [o 3 .mv [i 1]])
    (.block 0 (.loop [0, 2, 3] b0_spec_l6Verdict))) k3_spec_l6Verdict)
def r_spec_l6Verdict : List RV := [.cell 2 (some 2)]
def spec_l6Verdict_l1 (L_spec_l6Word : Int → Int → Option (List UInt8)) : Nat → (List UInt8) → Int → Int → Int → Option (Int × Int)
  | 0, _, _, _, _ => none
  | m1 + 1, x0, x4, o128_0, o128_1 =>
    if x4 ≤ 99 then ((L_spec_l6Word 3 x4).bind fun y0 =>
     if x0 = y0 then some ((3, x4))
     else spec_l6Verdict_l1 L_spec_l6Word m1 x0 (w64 (x4 + 1)) o128_0 o128_1)
    else some ((0, 0))
def spec_l6Verdict_l0 (L_spec_l6Word : Int → Int → Option (List UInt8)) (N : Nat) : Nat → (List UInt8) → Int → Int → Int → Option (Int × Int)
  | 0, _, _, _, _ => none
  | m0 + 1, x0, x3, o128_0, o128_1 =>
    if x3 ≤ 5 then (if x3 = 3 then spec_l6Verdict_l0 L_spec_l6Word N m0 x0 (w64 (x3 + 1)) o128_0 o128_1
     else ((L_spec_l6Word x3 0).bind fun y0 =>
      if x0 = y0 then some ((x3, 0))
      else spec_l6Verdict_l0 L_spec_l6Word N m0 x0 (w64 (x3 + 1)) o128_0 o128_1))
    else spec_l6Verdict_l1 L_spec_l6Word N x0 1 o128_0 o128_1
def spec_l6Verdict_f (L_spec_l6Word : Int → Int → Option (List UInt8)) (N : Nat) (a0 : List UInt8) : Option (Int × Int) :=
  spec_l6Verdict_l0 L_spec_l6Word N N a0 1 0 0
theorem spec_l6Verdict_l1_eq (E : En) (hy : Hy E [] [] [] r_spec_l6Verdict none (fun y => nocap y) flatIds) (L_spec_l6Word : Int → Int → Option (List UInt8)) (h_spec_l6Word : H_spec_l6Word E L_spec_l6Word) : ∀ (m1 : Nat) (x0 : List UInt8) (x4 : Int) (o128_0 : Int) (o128_1 : Int), gH E [0, 2, 4] b1_spec_l6Verdict [KJ.b 2, KJ.c k2_spec_l6Verdict] m1 ⟨slotsOf [(0, .d (sD x0)), (2, A.adr 128 1 0), (4, .d (.int .i64 x4))], obsOf [(128, ⟨1, .box [.d (.int .i64 o128_0), .d (.int .i64 o128_1)], false⟩)]⟩ = (spec_l6Verdict_l1 L_spec_l6Word m1 x0 x4 o128_0 o128_1).bind fun r => some (.ret (.agg [.d (.int .i64 r.1), .d (.int .i64 r.2)]) []) := by
  intro m1
  induction m1 with
  | zero => intros; rfl
  | succ m1 ih =>
    intros
    simp (config := {maxSteps := 40000000}) only [↓rPre, rPost, rCan, rObj, rI, rS, rB, r8, rLI, rLit, rEtc, hy.p, hy.l, hy.k, hy.r, hy.d, hy.w, hy.f, flatIds, oid, r_spec_l6Verdict, ↓G_unf _ _ b0_spec_l6Verdict.eq_1, ↓G_unf _ _ b1_spec_l6Verdict.eq_1, ↓G_unf _ _ k2_spec_l6Verdict.eq_1, ↓G_unf _ _ k3_spec_l6Verdict.eq_1, ↓G_unf _ _ c_spec_l6Verdict.eq_1, h_spec_l6Word.2, h_spec_l6Word.1, gH_succ, ih, bind_ite, spec_l6Verdict_l1, rRow3, rVerdict, rRow51, rTest, rRow63, rRow9, rRow5, rMap83, rLog, ↓reduceIte, Nat.reduceMul, Nat.reduceAdd, Nat.reduceSub, Nat.reduceEqDiff, Nat.reduceBEq, Nat.reduceLeDiff, Nat.reduceLT, reduceCtorEq, Int.reduceAdd, Int.reduceSub, Int.reduceToNat, Int.reduceNeg, Int.reduceEq, Int.reduceLT, Int.reduceLE]
theorem spec_l6Verdict_l0_eq (E : En) (hy : Hy E [] [] [] r_spec_l6Verdict none (fun y => nocap y) flatIds) (L_spec_l6Word : Int → Int → Option (List UInt8)) (h_spec_l6Word : H_spec_l6Word E L_spec_l6Word) : ∀ (m0 : Nat) (x0 : List UInt8) (x3 : Int) (o128_0 : Int) (o128_1 : Int), gH E [0, 2, 3] b0_spec_l6Verdict [KJ.b 0, KJ.c k3_spec_l6Verdict] m0 ⟨slotsOf [(0, .d (sD x0)), (2, A.adr 128 1 0), (3, .d (.int .i64 x3))], obsOf [(128, ⟨1, .box [.d (.int .i64 o128_0), .d (.int .i64 o128_1)], false⟩)]⟩ = (spec_l6Verdict_l0 L_spec_l6Word E.n m0 x0 x3 o128_0 o128_1).bind fun r => some (.ret (.agg [.d (.int .i64 r.1), .d (.int .i64 r.2)]) []) := by
  intro m0
  induction m0 with
  | zero => intros; rfl
  | succ m0 ih =>
    intros
    simp (config := {maxSteps := 40000000}) only [↓rPre, rPost, rCan, rObj, rI, rS, rB, r8, rLI, rLit, rEtc, hy.p, hy.l, hy.k, hy.r, hy.d, hy.w, hy.f, flatIds, oid, r_spec_l6Verdict, ↓G_unf _ _ b0_spec_l6Verdict.eq_1, ↓G_unf _ _ b1_spec_l6Verdict.eq_1, ↓G_unf _ _ k2_spec_l6Verdict.eq_1, ↓G_unf _ _ k3_spec_l6Verdict.eq_1, ↓G_unf _ _ c_spec_l6Verdict.eq_1, h_spec_l6Word.2, h_spec_l6Word.1, gH_succ, ih, bind_ite, spec_l6Verdict_l0, spec_l6Verdict_l1_eq E hy L_spec_l6Word h_spec_l6Word, rRow3, rVerdict, rRow51, rTest, rRow63, rRow9, rRow5, rMap83, rLog, ↓reduceIte, Nat.reduceMul, Nat.reduceAdd, Nat.reduceSub, Nat.reduceEqDiff, Nat.reduceBEq, Nat.reduceLeDiff, Nat.reduceLT, reduceCtorEq, Int.reduceAdd, Int.reduceSub, Int.reduceToNat, Int.reduceNeg, Int.reduceEq, Int.reduceLT, Int.reduceLE]
theorem spec_l6Verdict_g (E : En) (hy : Hy E [] [] [] r_spec_l6Verdict none (fun y => nocap y) flatIds) (L_spec_l6Word : Int → Int → Option (List UInt8)) (h_spec_l6Word : H_spec_l6Word E L_spec_l6Word) (a0 : List UInt8) : G E c_spec_l6Verdict [] ⟨slotsOf [(0, .d (sD a0))], obsOf []⟩ = (spec_l6Verdict_f L_spec_l6Word E.n a0).bind fun r => some (.ret (.agg [.d (.int .i64 r.1), .d (.int .i64 r.2)]) []) := by
  simp (config := {maxSteps := 40000000}) only [↓rPre, rPost, rCan, rObj, rI, rS, rB, r8, rLI, rLit, rEtc, hy.p, hy.l, hy.k, hy.r, hy.d, hy.w, hy.f, flatIds, oid, r_spec_l6Verdict, ↓G_unf _ _ b0_spec_l6Verdict.eq_1, ↓G_unf _ _ b1_spec_l6Verdict.eq_1, ↓G_unf _ _ k2_spec_l6Verdict.eq_1, ↓G_unf _ _ k3_spec_l6Verdict.eq_1, ↓G_unf _ _ c_spec_l6Verdict.eq_1, h_spec_l6Word.2, h_spec_l6Word.1, bind_ite, spec_l6Verdict_f, spec_l6Verdict_l0_eq E hy L_spec_l6Word h_spec_l6Word, rRow3, rVerdict, rRow51, rTest, rRow63, rRow9, rRow5, rMap83, rLog, ↓reduceIte, Nat.reduceMul, Nat.reduceAdd, Nat.reduceSub, Nat.reduceEqDiff, Nat.reduceBEq, Nat.reduceLeDiff, Nat.reduceLT, reduceCtorEq, Int.reduceAdd, Int.reduceSub, Int.reduceToNat, Int.reduceNeg, Int.reduceEq, Int.reduceLT, Int.reduceLE]
def H_spec_l6Verdict (E : En) (L : (List UInt8) → Option (Int × Int)) : Prop := E.Γ.mu 31 = false ∧ (∀ (a0 : List UInt8), E.Γ 31 [.d (sD a0)] = (L a0).bind fun r => some (.ret (.agg [.d (.int .i64 r.1), .d (.int .i64 r.2)]) []))
-- loop.example/s02135/spec.l3Digit
def c_spec_l3Digit : Cd :=
  sq (r [0] [o 2 .mv [b false]])
  (sq (r [2] [o 3 .mv [t 0], o 4 (.bin .geq) [t 3, .k (.d (.int .u8 48))], o 5 .mv [t 4], g 5 true 6 .mv [t 0], g 5 true 7 (.bin .leq) [t 6, .k (.d (.int .u8 57))], o 8 .pick [t 5, t 7, b false], o 2 .mv [t 8]])
   (.ret))
def r_spec_l3Digit : List RV := [.tmp 2]
def spec_l3Digit_f (N : Nat) (a0 : Int) : Option (Bool) :=
  if 48 ≤ a0 then some (Decidable.decide (a0 ≤ 57))
  else some false
theorem spec_l3Digit_g (E : En) (hy : Hy E [] [] [] r_spec_l3Digit none (fun y => nocap y) flatIds) (a0 : Int) : G E c_spec_l3Digit [] ⟨slotsOf [(0, .d (.int .u8 a0))], obsOf []⟩ = (spec_l3Digit_f E.n a0).bind fun r => some (.ret (.d (.bool r)) []) := by
  simp (config := {maxSteps := 40000000}) only [↓rPre, rPost, rCan, rObj, rI, rS, rB, r8, rLI, rLit, rEtc, hy.p, hy.l, hy.k, hy.r, hy.d, hy.w, hy.f, flatIds, oid, r_spec_l3Digit, ↓G_unf _ _ c_spec_l3Digit.eq_1, bind_ite, spec_l3Digit_f, rRow3, rVerdict, rRow51, rTest, rRow63, rRow9, rRow5, rMap83, rLog, ↓reduceIte, Nat.reduceMul, Nat.reduceAdd, Nat.reduceSub, Nat.reduceEqDiff, Nat.reduceBEq, Nat.reduceLeDiff, Nat.reduceLT, reduceCtorEq, Int.reduceAdd, Int.reduceSub, Int.reduceToNat, Int.reduceNeg, Int.reduceEq, Int.reduceLT, Int.reduceLE]
def H_spec_l3Digit (E : En) (L : Int → Option (Bool)) : Prop := E.Γ.mu 65 = false ∧ (∀ (a0 : Int), E.Γ 65 [.d (.int .u8 a0)] = (L a0).bind fun r => some (.ret (.d (.bool r)) []))
-- loop.example/s02135/spec.l3Letter
def c_spec_l3Letter : Cd :=
  sq (r [0] [o 2 .mv [b false]])
  (sq (r [2] [o 3 .mv [t 0], o 4 (.bin .geq) [t 3, .k (.d (.int .u8 97))], o 5 .mv [t 4], g 5 true 6 .mv [t 0], g 5 true 7 (.bin .leq) [t 6, .k (.d (.int .u8 122))], o 8 .pick [t 5, t 7, b false], o 9 .mv [t 8], g 9 false 10 .mv [t 0], g 9 false 11 (.bin .geq) [t 10, .k (.d (.int .u8 65))], g 9 false 12 .mv [t 11], g 12 true 13 .mv [t 0], g 12 true 14 (.bin .leq) [t 13, .k (.d (.int .u8 90))], g 9 false 15 .pick [t 12, t 14, b false], o 16 .pick [t 9, b true, t 15], o 2 .mv [t 16]])
   (.ret))
def r_spec_l3Letter : List RV := [.tmp 2]
def spec_l3Letter_f (N : Nat) (a0 : Int) : Option (Bool) :=
  if 97 ≤ a0 then (if a0 ≤ 122 then some true
   else (if 65 ≤ a0 then some (Decidable.decide (a0 ≤ 90))
    else some false))
  else (if 65 ≤ a0 then some (Decidable.decide (a0 ≤ 90))
   else some false)
theorem spec_l3Letter_g (E : En) (hy : Hy E [] [] [] r_spec_l3Letter none (fun y => nocap y) flatIds) (a0 : Int) : G E c_spec_l3Letter [] ⟨slotsOf [(0, .d (.int .u8 a0))], obsOf []⟩ = (spec_l3Letter_f E.n a0).bind fun r => some (.ret (.d (.bool r)) []) := by
  simp (config := {maxSteps := 40000000}) only [↓rPre, rPost, rCan, rObj, rI, rS, rB, r8, rLI, rLit, rEtc, hy.p, hy.l, hy.k, hy.r, hy.d, hy.w, hy.f, flatIds, oid, r_spec_l3Letter, ↓G_unf _ _ c_spec_l3Letter.eq_1, bind_ite, spec_l3Letter_f, rRow3, rVerdict, rRow51, rTest, rRow63, rRow9, rRow5, rMap83, rLog, ↓reduceIte, Nat.reduceMul, Nat.reduceAdd, Nat.reduceSub, Nat.reduceEqDiff, Nat.reduceBEq, Nat.reduceLeDiff, Nat.reduceLT, reduceCtorEq, Int.reduceAdd, Int.reduceSub, Int.reduceToNat, Int.reduceNeg, Int.reduceEq, Int.reduceLT, Int.reduceLE]
def H_spec_l3Letter (E : En) (L : Int → Option (Bool)) : Prop := E.Γ.mu 66 = false ∧ (∀ (a0 : Int), E.Γ 66 [.d (.int .u8 a0)] = (L a0).bind fun r => some (.ret (.d (.bool r)) []))
-- loop.example/s02135/spec.l6IdOk
def b0_spec_l6IdOk : Cd :=
  sq (sq (r [0, 3, 7] [o 4 .mv [t 3], o 5 .mv [t 0], o 6 (.len true) [t 5], o 7 (.bin .lss) [t 4, t 6]])
   (.cond (t 7) (.skip) (.exit 0)))
  (sq (.block 1 (sq (r [0, 3, 21] [o 10 .mv [t 0], o 11 .mv [t 3], o 12 .ixs [t 10, t 11], o 13 (.call 65) [t 12], o 14 .not [t 13], o 15 .mv [t 14], g 15 true 16 .mv [t 0], g 15 true 17 .mv [t 3], g 15 true 18 .ixs [t 16, t 17], g 15 true 19 (.call 66) [t 18], g 15 true 20 .not [t 19], o 21 .pick [t 15, t 20, b false]])
     (.cond (t 21) (sq (r [2] [o 2 .mv [b false]])
       (.ret)) (.skip))))
   (r [0, 3] [o 8 .mv [t 3], o 9 (.bin .add) [t 8, i 1], o 3 .mv [t 9]]))
def k1_spec_l6IdOk : Cd :=
  sq (r [2] [o 22 .mv [t 0], o 23 (.len true) [t 22], o 24 (.bin .geq) [t 23, i 1], o 25 .mv [t 24], g 25 true 26 .mv [t 0], g 25 true 27 (.len true) [t 26], g 25 true 28 (.bin .leq) [t 27, i 20], o 29 .pick [t 25, t 28, b false], o 2 .mv [t 29]])
  (.ret)
def c_spec_l6IdOk : Cd :=
  sq (r [0] [o 2 .mv [b false]])
  (sq (sq (r [0, 3] [o 3 .mv [i 0]])
    (.block 0 (.loop [0, 3] b0_spec_l6IdOk))) k1_spec_l6IdOk)
def r_spec_l6IdOk : List RV := [.tmp 2]
def spec_l6IdOk_l0 (L_spec_l3Digit : Int → Option (Bool)) (L_spec_l3Letter : Int → Option (Bool)) : Nat → (List UInt8) → Int → Option (Bool)
  | 0, _, _ => none
  | m0 + 1, x0, x3 =>
    if x3 < (↑(List.length x0) : Int) then ((idxB x0 x3).bind fun y0 =>
     (L_spec_l3Digit y0).bind fun y1 =>
     if y1 = false then ((idxB x0 x3).bind fun y2 =>
      (L_spec_l3Letter y2).bind fun y3 =>
      if y3 = false then some false
      else spec_l6IdOk_l0 L_spec_l3Digit L_spec_l3Letter m0 x0 (w64 (x3 + 1)))
     else spec_l6IdOk_l0 L_spec_l3Digit L_spec_l3Letter m0 x0 (w64 (x3 + 1)))
    else (if 1 ≤ (↑(List.length x0) : Int) then some (Decidable.decide ((↑(List.length x0) : Int) ≤ 20))
     else some false)
def spec_l6IdOk_f (L_spec_l3Digit : Int → Option (Bool)) (L_spec_l3Letter : Int → Option (Bool)) (N : Nat) (a0 : List UInt8) : Option (Bool) :=
  spec_l6IdOk_l0 L_spec_l3Digit L_spec_l3Letter N a0 0
theorem spec_l6IdOk_l0_eq (E : En) (hy : Hy E [] [] [] r_spec_l6IdOk none (fun y => nocap y) flatIds) (L_spec_l3Digit : Int → Option (Bool)) (h_spec_l3Digit : H_spec_l3Digit E L_spec_l3Digit) (L_spec_l3Letter : Int → Option (Bool)) (h_spec_l3Letter : H_spec_l3Letter E L_spec_l3Letter) : ∀ (m0 : Nat) (x0 : List UInt8) (x3 : Int), gH E [0, 3] b0_spec_l6IdOk [KJ.b 0, KJ.c k1_spec_l6IdOk] m0 ⟨slotsOf [(0, .d (sD x0)), (3, .d (.int .i64 x3))], obsOf []⟩ = (spec_l6IdOk_l0 L_spec_l3Digit L_spec_l3Letter m0 x0 x3).bind fun r => some (.ret (.d (.bool r)) []) := by
  intro m0
  induction m0 with
  | zero => intros; rfl
  | succ m0 ih =>
    intros
    simp (config := {maxSteps := 40000000}) only [↓rPre, rPost, rCan, rObj, rI, rS, rB, r8, rLI, rLit, rEtc, hy.p, hy.l, hy.k, hy.r, hy.d, hy.w, hy.f, flatIds, oid, r_spec_l6IdOk, ↓G_unf _ _ b0_spec_l6IdOk.eq_1, ↓G_unf _ _ k1_spec_l6IdOk.eq_1, ↓G_unf _ _ c_spec_l6IdOk.eq_1, h_spec_l3Digit.2, h_spec_l3Digit.1, h_spec_l3Letter.2, h_spec_l3Letter.1, gH_succ, ih, bind_ite, spec_l6IdOk_l0, rRow3, rVerdict, rRow51, rTest, rRow63, rRow9, rRow5, rMap83, rLog, ↓reduceIte, Nat.reduceMul, Nat.reduceAdd, Nat.reduceSub, Nat.reduceEqDiff, Nat.reduceBEq, Nat.reduceLeDiff, Nat.reduceLT, reduceCtorEq, Int.reduceAdd, Int.reduceSub, Int.reduceToNat, Int.reduceNeg, Int.reduceEq, Int.reduceLT, Int.reduceLE]
theorem spec_l6IdOk_g (E : En) (hy : Hy E [] [] [] r_spec_l6IdOk none (fun y => nocap y) flatIds) (L_spec_l3Digit : Int → Option (Bool)) (h_spec_l3Digit : H_spec_l3Digit E L_spec_l3Digit) (L_spec_l3Letter : Int → Option (Bool)) (h_spec_l3Letter : H_spec_l3Letter E L_spec_l3Letter) (a0 : List UInt8) : G E c_spec_l6IdOk [] ⟨slotsOf [(0, .d (sD a0))], obsOf []⟩ = (spec_l6IdOk_f L_spec_l3Digit L_spec_l3Letter E.n a0).bind fun r => some (.ret (.d (.bool r)) []) := by
  simp (config := {maxSteps := 40000000}) only [↓rPre, rPost, rCan, rObj, rI, rS, rB, r8, rLI, rLit, rEtc, hy.p, hy.l, hy.k, hy.r, hy.d, hy.w, hy.f, flatIds, oid, r_spec_l6IdOk, ↓G_unf _ _ b0_spec_l6IdOk.eq_1, ↓G_unf _ _ k1_spec_l6IdOk.eq_1, ↓G_unf _ _ c_spec_l6IdOk.eq_1, h_spec_l3Digit.2, h_spec_l3Digit.1, h_spec_l3Letter.2, h_spec_l3Letter.1, bind_ite, spec_l6IdOk_f, spec_l6IdOk_l0_eq E hy L_spec_l3Digit h_spec_l3Digit L_spec_l3Letter h_spec_l3Letter, rRow3, rVerdict, rRow51, rTest, rRow63, rRow9, rRow5, rMap83, rLog, ↓reduceIte, Nat.reduceMul, Nat.reduceAdd, Nat.reduceSub, Nat.reduceEqDiff, Nat.reduceBEq, Nat.reduceLeDiff, Nat.reduceLT, reduceCtorEq, Int.reduceAdd, Int.reduceSub, Int.reduceToNat, Int.reduceNeg, Int.reduceEq, Int.reduceLT, Int.reduceLE]
def H_spec_l6IdOk (E : En) (L : (List UInt8) → Option (Bool)) : Prop := E.Γ.mu 51 = false ∧ (∀ (a0 : List UInt8), E.Γ 51 [.d (sD a0)] = (L a0).bind fun r => some (.ret (.d (.bool r)) []))
-- loop.example/s02135/spec.l6VerdictsOk
def b0_spec_l6VerdictsOk : Cd :=
  sq (sq (r [0, 3, 11] [o 8 .mv [t 3], o 9 .mv [t 0], o 10 (.len false) [t 9], o 11 (.bin .lss) [t 8, t 10]])
   (.cond (t 11) (.skip) (.exit 0)))
  (sq (.block 1 (sq (r [0, 3, 4] [o 14 .mv [t 0], o 15 .mv [t 3], o 16 (.ia 2) [t 14, t 15], o 17 (.ld (some 2)) [t 16], o 4 (.alloc [(.d (iD 0)), (.d (iD 0))]) [], e (.st 2) [t 4, t 17]])
     (sq (r [0, 3, 50] [o 18 (.fa 0) [t 4], o 19 (.ld none) [t 18], o 20 (.bin .lss) [t 19, i 1], o 21 .mv [t 20], g 21 false 22 (.fa 0) [t 4], g 21 false 23 (.ld none) [t 22], g 21 false 24 (.bin .gtr) [t 23, i 5], o 25 .pick [t 21, b true, t 24], o 26 .mv [t 25], g 26 false 27 (.fa 0) [t 4], g 26 false 28 (.ld none) [t 27], g 26 false 29 (.bin .neq) [t 28, i 3], g 26 false 30 .mv [t 29], g 30 true 31 (.fa 1) [t 4], g 30 true 32 (.ld none) [t 31], g 30 true 33 (.bin .neq) [t 32, i 0], g 26 false 34 .pick [t 30, t 33, b false], o 35 .pick [t 26, b true, t 34], o 36 .mv [t 35], g 36 false 37 (.fa 0) [t 4], g 36 false 38 (.ld none) [t 37], g 36 false 39 (.bin .eql) [t 38, i 3], g 36 false 40 .mv [t 39], g 40 true 41 (.fa 1) [t 4], g 40 true 42 (.ld none) [t 41], g 40 true 43 (.bin .lss) [t 42, i 1], g 40 true 44 .mv [t 43], g 44 false 45 (.fa 1) [t 4], g 44 false 46 (.ld none) [t 45], g 44 false 47 (.bin .gtr) [t 46, i 99], g 40 true 48 .pick [t 44, b true, t 47], g 36 false 49 .pick [t 40, t 48, b false], o 50 .pick [t 36, b true, t 49]])
      (.cond (t 50) (sq (r [2] [o 2 .mv [b false]])
        (.ret)) (.skip)))))
   (r [0, 3] [o 12 .mv [t 3], o 13 (.bin .add) [t 12, i 1], o 3 .mv [t 13]]))
def k1_spec_l6VerdictsOk : Cd :=
  sq (r [2] [o 2 .mv [b true]])
  (.ret)
def c_spec_l6VerdictsOk : Cd :=
  sq (r [0] [o 2 .mv [b false]])
  (sq (sq (r [0, 7] [o 5 .mv [t 0], o 6 (.len false) [t 5], o 7 (.bin .gtr) [t 6, i 20]])
    (.cond (t 7) (sq (r [2] [o 2 .mv [b false]])
      (.ret)) (.skip)))
   (sq (sq (r [0, 3] [o 3 .mv [i 0]])
     (.block 0 (.loop [0, 3] b0_spec_l6VerdictsOk))) k1_spec_l6VerdictsOk))
def r_spec_l6VerdictsOk : List RV := [.tmp 2]
def spec_l6VerdictsOk_l0 : Nat → (List TVerdict) → Int → Option (Bool)
  | 0, _, _ => none
  | m0 + 1, x0, x3 =>
    if x3 < (↑(List.length x0) : Int) then ((idx x0 x3).bind fun y0 =>
     if y0.Kind < 1 then some false
     else (if 5 < y0.Kind then some false
      else (if y0.Kind = 3 then (if y0.Kind = 3 then (if y0.Code < 1 then some false
         else (if 99 < y0.Code then some false
          else spec_l6VerdictsOk_l0 m0 x0 (w64 (x3 + 1))))
        else spec_l6VerdictsOk_l0 m0 x0 (w64 (x3 + 1)))
       else (if y0.Code = 0 then (if y0.Kind = 3 then (if y0.Code < 1 then some false
          else (if 99 < y0.Code then some false
           else spec_l6VerdictsOk_l0 m0 x0 (w64 (x3 + 1))))
         else spec_l6VerdictsOk_l0 m0 x0 (w64 (x3 + 1)))
        else some false))))
    else some true
def spec_l6VerdictsOk_f (N : Nat) (a0 : List TVerdict) : Option (Bool) :=
  if 20 < (↑(List.length a0) : Int) then some false
  else spec_l6VerdictsOk_l0 N a0 0
theorem spec_l6VerdictsOk_l0_eq (E : En) (hy : Hy E [] [] [] r_spec_l6VerdictsOk none (fun y => nocap y) flatIds) : ∀ (m0 : Nat) (x0 : List TVerdict) (x3 : Int), gH E [0, 3] b0_spec_l6VerdictsOk [KJ.b 0, KJ.c k1_spec_l6VerdictsOk] m0 ⟨slotsOf [(0, .d (lstT (cVerdict) x0)), (3, .d (.int .i64 x3))], obsOf []⟩ = (spec_l6VerdictsOk_l0 m0 x0 x3).bind fun r => some (.ret (.d (.bool r)) []) := by
  intro m0
  induction m0 with
  | zero => intros; rfl
  | succ m0 ih =>
    intros
    simp (config := {maxSteps := 40000000}) only [↓rPre, rPost, rCan, rObj, rI, rS, rB, r8, rLI, rLit, rEtc, hy.p, hy.l, hy.k, hy.r, hy.d, hy.w, hy.f, flatIds, oid, r_spec_l6VerdictsOk, ↓G_unf _ _ b0_spec_l6VerdictsOk.eq_1, ↓G_unf _ _ k1_spec_l6VerdictsOk.eq_1, ↓G_unf _ _ c_spec_l6VerdictsOk.eq_1, gH_succ, ih, bind_ite, spec_l6VerdictsOk_l0, rRow3, rVerdict, rRow51, rTest, rRow63, rRow9, rRow5, rMap83, rLog, ↓reduceIte, Nat.reduceMul, Nat.reduceAdd, Nat.reduceSub, Nat.reduceEqDiff, Nat.reduceBEq, Nat.reduceLeDiff, Nat.reduceLT, reduceCtorEq, Int.reduceAdd, Int.reduceSub, Int.reduceToNat, Int.reduceNeg, Int.reduceEq, Int.reduceLT, Int.reduceLE]
theorem spec_l6VerdictsOk_g (E : En) (hy : Hy E [] [] [] r_spec_l6VerdictsOk none (fun y => nocap y) flatIds) (a0 : List TVerdict) : G E c_spec_l6VerdictsOk [] ⟨slotsOf [(0, .d (lstT cVerdict a0))], obsOf []⟩ = (spec_l6VerdictsOk_f E.n a0).bind fun r => some (.ret (.d (.bool r)) []) := by
  simp (config := {maxSteps := 40000000}) only [↓rPre, rPost, rCan, rObj, rI, rS, rB, r8, rLI, rLit, rEtc, hy.p, hy.l, hy.k, hy.r, hy.d, hy.w, hy.f, flatIds, oid, r_spec_l6VerdictsOk, ↓G_unf _ _ b0_spec_l6VerdictsOk.eq_1, ↓G_unf _ _ k1_spec_l6VerdictsOk.eq_1, ↓G_unf _ _ c_spec_l6VerdictsOk.eq_1, bind_ite, spec_l6VerdictsOk_f, spec_l6VerdictsOk_l0_eq E hy, rRow3, rVerdict, rRow51, rTest, rRow63, rRow9, rRow5, rMap83, rLog, ↓reduceIte, Nat.reduceMul, Nat.reduceAdd, Nat.reduceSub, Nat.reduceEqDiff, Nat.reduceBEq, Nat.reduceLeDiff, Nat.reduceLT, reduceCtorEq, Int.reduceAdd, Int.reduceSub, Int.reduceToNat, Int.reduceNeg, Int.reduceEq, Int.reduceLT, Int.reduceLE]
def H_spec_l6VerdictsOk (E : En) (L : (List TVerdict) → Option (Bool)) : Prop := E.Γ.mu 52 = false ∧ (∀ (a0 : List TVerdict), E.Γ 52 [.d (lstT cVerdict a0)] = (L a0).bind fun r => some (.ret (.d (.bool r)) []))
-- loop.example/s02135/spec.l2Bool
def c_spec_l2Bool : Cd :=
  sq (r [0] [o 2 .mv [i 0]])
  (sq (sq (r [3] [o 3 .mv [t 0]])
    (.cond (t 3) (sq (r [2] [o 2 .mv [i 1]])
      (.ret)) (.skip)))
   (sq (r [2] [o 2 .mv [i 0]])
    (.ret)))
def r_spec_l2Bool : List RV := [.tmp 2]
def spec_l2Bool_f (N : Nat) (a0 : Bool) : Option (Int) :=
  if a0 = true then some 1
  else some 0
theorem spec_l2Bool_g (E : En) (hy : Hy E [] [] [] r_spec_l2Bool none (fun y => nocap y) flatIds) (a0 : Bool) : G E c_spec_l2Bool [] ⟨slotsOf [(0, .d (.bool a0))], obsOf []⟩ = (spec_l2Bool_f E.n a0).bind fun r => some (.ret (.d (.int .i64 r)) []) := by
  simp (config := {maxSteps := 40000000}) only [↓rPre, rPost, rCan, rObj, rI, rS, rB, r8, rLI, rLit, rEtc, hy.p, hy.l, hy.k, hy.r, hy.d, hy.w, hy.f, flatIds, oid, r_spec_l2Bool, ↓G_unf _ _ c_spec_l2Bool.eq_1, bind_ite, spec_l2Bool_f, rRow3, rVerdict, rRow51, rTest, rRow63, rRow9, rRow5, rMap83, rLog, ↓reduceIte, Nat.reduceMul, Nat.reduceAdd, Nat.reduceSub, Nat.reduceEqDiff, Nat.reduceBEq, Nat.reduceLeDiff, Nat.reduceLT, reduceCtorEq, Int.reduceAdd, Int.reduceSub, Int.reduceToNat, Int.reduceNeg, Int.reduceEq, Int.reduceLT, Int.reduceLE]
def H_spec_l2Bool (E : En) (L : Bool → Option (Int)) : Prop := E.Γ.mu 53 = false ∧ (∀ (a0 : Bool), E.Γ 53 [.d (.bool a0)] = (L a0).bind fun r => some (.ret (.d (.int .i64 r)) []))
-- loop.example/s02135/spec.Report
def b0_spec_Report : Cd :=
  sq (sq (r [1, 6, 7, 8, 23] [o 20 .mv [t 8], o 21 .mv [t 1], o 22 (.len false) [t 21], o 23 (.bin .lss) [t 20, t 22]])
   (.cond (t 23) (.skip) (.exit 0)))
  (sq (.block 1 (sq (rd [] [1, 6, 7, 8] [o 26 .mv [t 6], o 27 (.bin .add) [t 26, s [116, 101, 115, 116, 32]], o 28 .mv [t 8], o 29 (.bin .add) [t 28, i 1], o 33 .mv [t 1], o 34 .mv [t 8], o 35 (.ia 2) [t 33, t 34], o 36 (.ld (some 2)) [t 35], ap [] false [33, 34, 35] (o 30 (.call 32) [t 29]), o 31 (.bin .add) [t 27, t 30], o 32 (.bin .add) [t 31, s [32]], o 37 (.call 50) [t 36], o 38 (.bin .add) [t 32, t 37], o 39 (.bin .add) [t 38, s [10]], o 6 .mv [t 39]])
     (r [1, 6, 7, 8] [o 40 .mv [t 7], o 41 .mv [t 1], o 42 .mv [t 8], o 43 (.ia 2) [t 41, t 42], o 44 (.fa 0) [t 43], o 45 (.ld none) [t 44], o 46 (.bin .eql) [t 45, i 1], o 47 (.call 53) [t 46], o 48 (.bin .add) [t 40, t 47], o 7 .mv [t 48]])))
   (r [1, 6, 7, 8] [o 24 .mv [t 8], o 25 (.bin .add) [t 24, i 1], o 8 .mv [t 25]]))
def k1_spec_Report : Cd :=
  sq (r [4, 5] [o 49 .mv [t 6], o 50 (.bin .add) [t 49, s [112, 97, 115, 115, 101, 100, 32]], o 51 .mv [t 7], o 52 (.call 32) [t 51], o 53 (.bin .add) [t 50, t 52], o 54 (.bin .add) [t 53, s [32, 111, 102, 32]], o 55 .mv [t 1], o 56 (.len false) [t 55], o 57 (.call 32) [t 56], o 58 (.bin .add) [t 54, t 57], o 59 (.bin .add) [t 58, s [10]], o 4 .mv [t 59], o 5 .mv [b true]])
  (.ret)
def c_spec_Report : Cd :=
  sq (r [0, 1] [o 4 .mv [s []], o 5 .mv [b false]])
  (sq (sq (r [0, 1, 16] [o 9 .mv [t 0], o 10 (.call 51) [t 9], o 11 .not [t 10], o 12 .mv [t 11], g 12 false 13 .mv [t 1], g 12 false 14 (.call 52) [t 13], g 12 false 15 .not [t 14], o 16 .pick [t 12, b true, t 15]])
    (.cond (t 16) (sq (r [4, 5] [o 4 .mv [s []], o 5 .mv [b false]])
      (.ret)) (.skip)))
   (sq (r [1, 6] [o 17 .mv [t 0], o 18 (.bin .add) [s [115, 116, 117, 100, 101, 110, 116, 32], t 17], o 19 (.bin .add) [t 18, s [10]], o 6 .mv [t 19]])
    (sq (r [1, 6, 7] [o 7 .mv [i 0]])
     (sq (sq (r [1, 6, 7, 8] [o 8 .mv [i 0]])
       (.block 0 (.loop [1, 6, 7, 8] b0_spec_Report))) k1_spec_Report))))
def r_spec_Report : List RV := [.tmp 4, .tmp 5]
def spec_Report_l0 (L_spec_l6IdOk : (List UInt8) → Option (Bool)) (L_spec_l6VerdictsOk : (List TVerdict) → Option (Bool)) (L_spec_l1Dec : Int → Option (List UInt8)) (L_spec_l6Word : Int → Int → Option (List UInt8)) (L_spec_l2Bool : Bool → Option (Int)) : Nat → (List TVerdict) → (List UInt8) → Int → Int → Option (List UInt8 × Bool)
  | 0, _, _, _, _ => none
  | m0 + 1, x1, x6, x7, x8 =>
    if x8 < (↑(List.length x1) : Int) then (if roomS (List.length (x6 ++ [116, 101, 115, 116, 32])) then ((idx x1 x8).bind fun y0 =>
      (L_spec_l1Dec (w64 (x8 + 1))).bind fun y1 =>
      if roomS (List.length (x6 ++ [116, 101, 115, 116, 32] ++ y1)) then (if roomS (List.length (x6 ++ [116, 101, 115, 116, 32] ++ y1 ++ [32])) then ((L_spec_l6Word y0.Kind y0.Code).bind fun y2 =>
        if roomS (List.length (x6 ++ [116, 101, 115, 116, 32] ++ y1 ++ [32] ++ y2)) then (if roomS (List.length (x6 ++ [116, 101, 115, 116, 32] ++ y1 ++ [32] ++ y2 ++ [10])) then ((idx x1 x8).bind fun y3 =>
          (L_spec_l2Bool (Decidable.decide (y3.Kind = 1))).bind fun y4 =>
          spec_Report_l0 L_spec_l6IdOk L_spec_l6VerdictsOk L_spec_l1Dec L_spec_l6Word L_spec_l2Bool m0 x1 (x6 ++ [116, 101, 115, 116, 32] ++ y1 ++ [32] ++ y2 ++ [10]) (w64 (x7 + y4)) (w64 (x8 + 1)))
         else none)
        else none)
       else none)
      else none)
     else none)
    else (if roomS (List.length (x6 ++ [112, 97, 115, 115, 101, 100, 32])) then ((L_spec_l1Dec x7).bind fun y5 =>
      if roomS (List.length (x6 ++ [112, 97, 115, 115, 101, 100, 32] ++ y5)) then (if roomS (List.length (x6 ++ [112, 97, 115, 115, 101, 100, 32] ++ y5 ++ [32, 111, 102, 32])) then ((L_spec_l1Dec (↑(List.length x1) : Int)).bind fun y6 =>
        if roomS (List.length (x6 ++ [112, 97, 115, 115, 101, 100, 32] ++ y5 ++ [32, 111, 102, 32] ++ y6)) then (if roomS (List.length (x6 ++ [112, 97, 115, 115, 101, 100, 32] ++ y5 ++ [32, 111, 102, 32] ++ y6 ++ [10])) then some ((x6 ++ [112, 97, 115, 115, 101, 100, 32] ++ y5 ++ [32, 111, 102, 32] ++ y6 ++ [10], true))
         else none)
        else none)
       else none)
      else none)
     else none)
def spec_Report_f (L_spec_l6IdOk : (List UInt8) → Option (Bool)) (L_spec_l6VerdictsOk : (List TVerdict) → Option (Bool)) (L_spec_l1Dec : Int → Option (List UInt8)) (L_spec_l6Word : Int → Int → Option (List UInt8)) (L_spec_l2Bool : Bool → Option (Int)) (N : Nat) (a0 : List UInt8) (a1 : List TVerdict) : Option (List UInt8 × Bool) :=
  (L_spec_l6IdOk a0).bind fun y0 =>
  if y0 = false then some (([], false))
  else ((L_spec_l6VerdictsOk a1).bind fun y1 =>
   if y1 = false then some (([], false))
   else (if roomS (List.length a0 + 1 + 1 + 1 + 1 + 1 + 1 + 1 + 1) then (if roomS (List.length (a0 ++ [10]) + 1 + 1 + 1 + 1 + 1 + 1 + 1 + 1) then spec_Report_l0 L_spec_l6IdOk L_spec_l6VerdictsOk L_spec_l1Dec L_spec_l6Word L_spec_l2Bool N a1 (115 :: 116 :: 117 :: 100 :: 101 :: 110 :: 116 :: 32 :: (a0 ++ [10])) 0 0
     else none)
    else none))
theorem spec_Report_l0_eq (E : En) (hy : Hy E [] [] [] r_spec_Report none (fun y => nocap y) flatIds) (L_spec_l6IdOk : (List UInt8) → Option (Bool)) (h_spec_l6IdOk : H_spec_l6IdOk E L_spec_l6IdOk) (L_spec_l6VerdictsOk : (List TVerdict) → Option (Bool)) (h_spec_l6VerdictsOk : H_spec_l6VerdictsOk E L_spec_l6VerdictsOk) (L_spec_l1Dec : Int → Option (List UInt8)) (h_spec_l1Dec : H_spec_l1Dec E L_spec_l1Dec) (L_spec_l6Word : Int → Int → Option (List UInt8)) (h_spec_l6Word : H_spec_l6Word E L_spec_l6Word) (L_spec_l2Bool : Bool → Option (Int)) (h_spec_l2Bool : H_spec_l2Bool E L_spec_l2Bool) : ∀ (m0 : Nat) (x1 : List TVerdict) (x6 : List UInt8) (x7 : Int) (x8 : Int), gH E [1, 6, 7, 8] b0_spec_Report [KJ.b 0, KJ.c k1_spec_Report] m0 ⟨slotsOf [(1, .d (lstT (cVerdict) x1)), (6, .d (sD x6)), (7, .d (.int .i64 x7)), (8, .d (.int .i64 x8))], obsOf []⟩ = (spec_Report_l0 L_spec_l6IdOk L_spec_l6VerdictsOk L_spec_l1Dec L_spec_l6Word L_spec_l2Bool m0 x1 x6 x7 x8).bind fun r => some (.ret (.tup [.d (sD r.1), .d (.bool r.2)]) []) := by
  intro m0
  induction m0 with
  | zero => intros; rfl
  | succ m0 ih =>
    intros
    simp (config := {maxSteps := 40000000}) only [↓rPre, rPost, rCan, rObj, rI, rS, rB, r8, rLI, rLit, rEtc, hy.p, hy.l, hy.k, hy.r, hy.d, hy.w, hy.f, flatIds, oid, r_spec_Report, ↓G_unf _ _ b0_spec_Report.eq_1, ↓G_unf _ _ k1_spec_Report.eq_1, ↓G_unf _ _ c_spec_Report.eq_1, h_spec_l6IdOk.2, h_spec_l6IdOk.1, h_spec_l6VerdictsOk.2, h_spec_l6VerdictsOk.1, h_spec_l1Dec.2, h_spec_l1Dec.1, h_spec_l6Word.2, h_spec_l6Word.1, h_spec_l2Bool.2, h_spec_l2Bool.1, gH_succ, ih, bind_ite, spec_Report_l0, rRow3, rVerdict, rRow51, rTest, rRow63, rRow9, rRow5, rMap83, rLog, ↓reduceIte, Nat.reduceMul, Nat.reduceAdd, Nat.reduceSub, Nat.reduceEqDiff, Nat.reduceBEq, Nat.reduceLeDiff, Nat.reduceLT, reduceCtorEq, Int.reduceAdd, Int.reduceSub, Int.reduceToNat, Int.reduceNeg, Int.reduceEq, Int.reduceLT, Int.reduceLE]
theorem spec_Report_g (E : En) (hy : Hy E [] [] [] r_spec_Report none (fun y => nocap y) flatIds) (L_spec_l6IdOk : (List UInt8) → Option (Bool)) (h_spec_l6IdOk : H_spec_l6IdOk E L_spec_l6IdOk) (L_spec_l6VerdictsOk : (List TVerdict) → Option (Bool)) (h_spec_l6VerdictsOk : H_spec_l6VerdictsOk E L_spec_l6VerdictsOk) (L_spec_l1Dec : Int → Option (List UInt8)) (h_spec_l1Dec : H_spec_l1Dec E L_spec_l1Dec) (L_spec_l6Word : Int → Int → Option (List UInt8)) (h_spec_l6Word : H_spec_l6Word E L_spec_l6Word) (L_spec_l2Bool : Bool → Option (Int)) (h_spec_l2Bool : H_spec_l2Bool E L_spec_l2Bool) (a0 : List UInt8) (a1 : List TVerdict) : G E c_spec_Report [] ⟨slotsOf [(0, .d (sD a0)), (1, .d (lstT cVerdict a1))], obsOf []⟩ = (spec_Report_f L_spec_l6IdOk L_spec_l6VerdictsOk L_spec_l1Dec L_spec_l6Word L_spec_l2Bool E.n a0 a1).bind fun r => some (.ret (.tup [.d (sD r.1), .d (.bool r.2)]) []) := by
  simp (config := {maxSteps := 40000000}) only [↓rPre, rPost, rCan, rObj, rI, rS, rB, r8, rLI, rLit, rEtc, hy.p, hy.l, hy.k, hy.r, hy.d, hy.w, hy.f, flatIds, oid, r_spec_Report, ↓G_unf _ _ b0_spec_Report.eq_1, ↓G_unf _ _ k1_spec_Report.eq_1, ↓G_unf _ _ c_spec_Report.eq_1, h_spec_l6IdOk.2, h_spec_l6IdOk.1, h_spec_l6VerdictsOk.2, h_spec_l6VerdictsOk.1, h_spec_l1Dec.2, h_spec_l1Dec.1, h_spec_l6Word.2, h_spec_l6Word.1, h_spec_l2Bool.2, h_spec_l2Bool.1, bind_ite, spec_Report_f, spec_Report_l0_eq E hy L_spec_l6IdOk h_spec_l6IdOk L_spec_l6VerdictsOk h_spec_l6VerdictsOk L_spec_l1Dec h_spec_l1Dec L_spec_l6Word h_spec_l6Word L_spec_l2Bool h_spec_l2Bool, rRow3, rVerdict, rRow51, rTest, rRow63, rRow9, rRow5, rMap83, rLog, ↓reduceIte, Nat.reduceMul, Nat.reduceAdd, Nat.reduceSub, Nat.reduceEqDiff, Nat.reduceBEq, Nat.reduceLeDiff, Nat.reduceLT, reduceCtorEq, Int.reduceAdd, Int.reduceSub, Int.reduceToNat, Int.reduceNeg, Int.reduceEq, Int.reduceLT, Int.reduceLE]
def H_spec_Report (E : En) (L : (List UInt8) → (List TVerdict) → Option (List UInt8 × Bool)) : Prop := E.Γ.mu 33 = false ∧ (∀ (a0 : List UInt8) (a1 : List TVerdict), E.Γ 33 [.d (sD a0), .d (lstT cVerdict a1)] = (L a0 a1).bind fun r => some (.ret (.tup [.d (sD r.1), .d (.bool r.2)]) []))
-- loop.example/s02135/spec.ReadReport
def b0_spec_ReadReport : Cd :=
  sq (sq (r [0, 5, 6, 7, 8, 9, 32] [o 28 .mv [t 9], o 29 (.bin .add) [t 28, i 2], o 30 .mv [t 6], o 31 (.len false) [t 30], o 32 (.bin .lss) [t 29, t 31]])
   (.cond (t 32) (.skip) (.exit 0)))
  (sq (.block 1 (rd [] [0, 5, 6, 7, 8, 9] [o 35 .mv [t 8], o 36 .mv [t 6], o 37 .mv [t 9], o 38 (.ia 1) [t 36, t 37], o 39 (.ld none) [t 38], o 40 .mv [t 9], ap [] false [36, 37, 38] (o 41 (.call 32) [t 40]), o 42 (.bin .add) [s [116, 101, 115, 116, 32], t 41], o 43 (.bin .add) [t 42, s [32]], o 44 (.call 30) [t 39, t 43], o 45 (.call 31) [t 44], o 46 (lit 51 2 1) [t 45], o 47 (.app 51 2 16) [t 35, t 46], o 8 .mv [t 47]]))
   (r [0, 5, 6, 7, 8, 9] [o 33 .mv [t 9], o 34 (.bin .add) [t 33, i 1], o 9 .mv [t 34]]))
def k1_spec_ReadReport : Cd :=
  sq (r [0, 5, 7, 8, 10, 11] [o 49 .mv [t 7], o 50 .mv [t 8], o 51 (.call 33) [t 49, t 50], o 48 .mv [t 51], o 52 (.ext 0) [t 48], o 53 (.ext 1) [t 48], o 10 .mv [t 52], o 11 .mv [t 53]])
  (sq (sq (r [5, 7, 8, 60] [o 54 .mv [t 11], o 55 .not [t 54], o 56 .mv [t 55], g 56 false 57 .mv [t 10], g 56 false 58 .mv [t 0], g 56 false 59 (.bin .neq) [t 57, t 58], o 60 .pick [t 56, b true, t 59]])
    (.cond (t 60) (sq (r [2, 3, 4] [o 61 .mv [t 5], o 2 .mv [s []], o 3 .mv [t 61], o 4 .mv [b false]])
      (.ret)) (.skip)))
   (sq (r [2, 3, 4] [o 62 .mv [t 7], o 63 .mv [t 8], o 2 .mv [t 62], o 3 .mv [t 63], o 4 .mv [b true]])
    (.ret)))
def c_spec_ReadReport : Cd :=
  sq (r [0] [o 2 .mv [s []], o 3 .mv [n], o 4 .mv [b false]])
  (sq (r [0, 5] [o 12 (lit 51 2 0) [], o 5 .mv [t 12]])
   (sq (sq (r [0, 5, 15] [o 13 .mv [t 0], o 14 (.len true) [t 13], o 15 (.bin .gtr) [t 14, i 2000]])
     (.cond (t 15) (sq (r [2, 3, 4] [o 16 .mv [t 5], o 2 .mv [s []], o 3 .mv [t 16], o 4 .mv [b false]])
       (.ret)) (.skip)))
    (sq (r [0, 5, 6] [o 17 .mv [t 0], o 18 (.call 21) [t 17, .k (.d (.int .u8 10))], o 6 .mv [t 18]])
     (sq (sq (r [0, 5, 6, 21] [o 19 .mv [t 6], o 20 (.len false) [t 19], o 21 (.bin .lss) [t 20, i 3]])
       (.cond (t 21) (sq (r [2, 3, 4] [o 22 .mv [t 5], o 2 .mv [s []], o 3 .mv [t 22], o 4 .mv [b false]])
         (.ret)) (.skip)))
      (sq (r [0, 5, 6, 7] [o 23 .mv [t 6], o 24 (.ia 1) [t 23, i 0], o 25 (.ld none) [t 24], o 26 (.call 30) [t 25, s [115, 116, 117, 100, 101, 110, 116, 32]], o 7 .mv [t 26]])
       (sq (r [0, 5, 6, 7, 8] [o 27 (lit 51 2 0) [], o 8 .mv [t 27]])
        (sq (sq (r [0, 5, 6, 7, 8, 9] [o 9 .mv [i 1]])
          (.block 0 (.loop [0, 5, 6, 7, 8, 9] b0_spec_ReadReport))) k1_spec_ReadReport)))))))
def r_spec_ReadReport : List RV := [.tmp 2, .tmp 3, .tmp 4]
def spec_ReadReport_l0 (L_spec_l1Cut : (List UInt8) → Int → Option (List (List UInt8))) (L_spec_l6After : (List UInt8) → (List UInt8) → Option (List UInt8)) (L_spec_l1Dec : Int → Option (List UInt8)) (L_spec_l6Verdict : (List UInt8) → Option (Int × Int)) (L_spec_Report : (List UInt8) → (List TVerdict) → Option (List UInt8 × Bool)) : Nat → (List UInt8) → (List UInt8) → Int → (List TVerdict) → (List (List UInt8)) → (List TVerdict) → Option (List UInt8 × List TVerdict × Bool)
  | 0, _, _, _, _, _, _ => none
  | m0 + 1, x0, x7, x9, o320, o384, o512 =>
    if w64 (x9 + 2) < (↑(List.length o384) : Int) then (if 0 ≤ x9 ∧ x9 < (↑(List.length o384) : Int) then ((o384[Int.toNat x9]?).bind fun y0 =>
      (L_spec_l1Dec x9).bind fun y1 =>
      if roomS (List.length y1 + 1 + 1 + 1 + 1 + 1) then (if roomS (List.length (y1 ++ [32]) + 1 + 1 + 1 + 1 + 1) then ((L_spec_l6After y0 (116 :: 101 :: 115 :: 116 :: 32 :: (y1 ++ [32]))).bind fun y2 =>
        (L_spec_l6Verdict y2).bind fun y3 =>
        if room 16 (List.length (o512 ++ [{ Kind := y3.fst, Code := y3.snd }])) then spec_ReadReport_l0 L_spec_l1Cut L_spec_l6After L_spec_l1Dec L_spec_l6Verdict L_spec_Report m0 x0 x7 (w64 (x9 + 1)) o320 o384 (o512 ++ [{ Kind := y3.fst, Code := y3.snd }])
        else none)
       else none)
      else none)
     else none)
    else ((L_spec_Report x7 o512).bind fun y4 =>
     if y4.snd = false then some (([], o320, false))
     else (if y4.fst = x0 then some ((x7, o512, true))
      else some (([], o320, false))))
def spec_ReadReport_f (L_spec_l1Cut : (List UInt8) → Int → Option (List (List UInt8))) (L_spec_l6After : (List UInt8) → (List UInt8) → Option (List UInt8)) (L_spec_l1Dec : Int → Option (List UInt8)) (L_spec_l6Verdict : (List UInt8) → Option (Int × Int)) (L_spec_Report : (List UInt8) → (List TVerdict) → Option (List UInt8 × Bool)) (N : Nat) (a0 : List UInt8) : Option (List UInt8 × List TVerdict × Bool) :=
  if 2000 < (↑(List.length a0) : Int) then some (([], [], false))
  else ((L_spec_l1Cut a0 10).bind fun y0 =>
   if (↑(List.length y0) : Int) < 3 then some (([], [], false))
   else (if 0 < (↑(List.length y0) : Int) then ((y0[0]?).bind fun y1 =>
     (L_spec_l6After y1 [115, 116, 117, 100, 101, 110, 116, 32]).bind fun y2 =>
     spec_ReadReport_l0 L_spec_l1Cut L_spec_l6After L_spec_l1Dec L_spec_l6Verdict L_spec_Report N a0 y2 1 [] y0 [])
    else none))
theorem spec_ReadReport_l0_eq (E : En) (hy : Hy E [] [] [] r_spec_ReadReport none (fun y => nocap y) flatIds) (L_spec_l1Cut : (List UInt8) → Int → Option (List (List UInt8))) (h_spec_l1Cut : H_spec_l1Cut E L_spec_l1Cut) (L_spec_l6After : (List UInt8) → (List UInt8) → Option (List UInt8)) (h_spec_l6After : H_spec_l6After E L_spec_l6After) (L_spec_l1Dec : Int → Option (List UInt8)) (h_spec_l1Dec : H_spec_l1Dec E L_spec_l1Dec) (L_spec_l6Verdict : (List UInt8) → Option (Int × Int)) (h_spec_l6Verdict : H_spec_l6Verdict E L_spec_l6Verdict) (L_spec_Report : (List UInt8) → (List TVerdict) → Option (List UInt8 × Bool)) (h_spec_Report : H_spec_Report E L_spec_Report) : ∀ (m0 : Nat) (x0 : List UInt8) (x7 : List UInt8) (x9 : Int) (o320 : List TVerdict) (o384 : List (List UInt8)) (o512 : List TVerdict), gH E [0, 5, 6, 7, 8, 9] b0_spec_ReadReport [KJ.b 0, KJ.c k1_spec_ReadReport] m0 ⟨slotsOf [(0, .d (sD x0)), (5, A.row 320 1), (6, A.row 384 1), (7, .d (sD x7)), (8, A.row 512 1), (9, .d (.int .i64 x9))], obsOf [(320, ⟨1, rowT (cVerdict) 51 none o320, false⟩), (384, ⟨1, rowT (cS) 9 none o384, false⟩), (512, ⟨1, rowT (cVerdict) 51 none o512, false⟩)]⟩ = (spec_ReadReport_l0 L_spec_l1Cut L_spec_l6After L_spec_l1Dec L_spec_l6Verdict L_spec_Report m0 x0 x7 x9 o320 o384 o512).bind fun r => some (.ret (.tup [.d (sD r.1), ownT (cVerdict) 51 none false r.2.1, .d (.bool r.2.2)]) []) := by
  intro m0
  induction m0 with
  | zero => intros; rfl
  | succ m0 ih =>
    intros
    simp (config := {maxSteps := 40000000}) only [↓rPre, rPost, rCan, rObj, rI, rS, rB, r8, rLI, rLit, rEtc, hy.p, hy.l, hy.k, hy.r, hy.d, hy.w, hy.f, flatIds, oid, r_spec_ReadReport, ↓G_unf _ _ b0_spec_ReadReport.eq_1, ↓G_unf _ _ k1_spec_ReadReport.eq_1, ↓G_unf _ _ c_spec_ReadReport.eq_1, h_spec_l1Cut.2, h_spec_l1Cut.1, h_spec_l6After.2, h_spec_l6After.1, h_spec_l1Dec.2, h_spec_l1Dec.1, h_spec_l6Verdict.2, h_spec_l6Verdict.1, h_spec_Report.2, h_spec_Report.1, gH_succ, ih, bind_ite, spec_ReadReport_l0, rRow3, rVerdict, rRow51, rTest, rRow63, rRow9, rRow5, rMap83, rLog, ↓reduceIte, Nat.reduceMul, Nat.reduceAdd, Nat.reduceSub, Nat.reduceEqDiff, Nat.reduceBEq, Nat.reduceLeDiff, Nat.reduceLT, reduceCtorEq, Int.reduceAdd, Int.reduceSub, Int.reduceToNat, Int.reduceNeg, Int.reduceEq, Int.reduceLT, Int.reduceLE]
theorem spec_ReadReport_g (E : En) (hy : Hy E [] [] [] r_spec_ReadReport none (fun y => nocap y) flatIds) (L_spec_l1Cut : (List UInt8) → Int → Option (List (List UInt8))) (h_spec_l1Cut : H_spec_l1Cut E L_spec_l1Cut) (L_spec_l6After : (List UInt8) → (List UInt8) → Option (List UInt8)) (h_spec_l6After : H_spec_l6After E L_spec_l6After) (L_spec_l1Dec : Int → Option (List UInt8)) (h_spec_l1Dec : H_spec_l1Dec E L_spec_l1Dec) (L_spec_l6Verdict : (List UInt8) → Option (Int × Int)) (h_spec_l6Verdict : H_spec_l6Verdict E L_spec_l6Verdict) (L_spec_Report : (List UInt8) → (List TVerdict) → Option (List UInt8 × Bool)) (h_spec_Report : H_spec_Report E L_spec_Report) (a0 : List UInt8) : G E c_spec_ReadReport [] ⟨slotsOf [(0, .d (sD a0))], obsOf []⟩ = (spec_ReadReport_f L_spec_l1Cut L_spec_l6After L_spec_l1Dec L_spec_l6Verdict L_spec_Report E.n a0).bind fun r => some (.ret (.tup [.d (sD r.1), ownT (cVerdict) 51 none false r.2.1, .d (.bool r.2.2)]) []) := by
  simp (config := {maxSteps := 40000000}) only [↓rPre, rPost, rCan, rObj, rI, rS, rB, r8, rLI, rLit, rEtc, hy.p, hy.l, hy.k, hy.r, hy.d, hy.w, hy.f, flatIds, oid, r_spec_ReadReport, ↓G_unf _ _ b0_spec_ReadReport.eq_1, ↓G_unf _ _ k1_spec_ReadReport.eq_1, ↓G_unf _ _ c_spec_ReadReport.eq_1, h_spec_l1Cut.2, h_spec_l1Cut.1, h_spec_l6After.2, h_spec_l6After.1, h_spec_l1Dec.2, h_spec_l1Dec.1, h_spec_l6Verdict.2, h_spec_l6Verdict.1, h_spec_Report.2, h_spec_Report.1, bind_ite, spec_ReadReport_f, spec_ReadReport_l0_eq E hy L_spec_l1Cut h_spec_l1Cut L_spec_l6After h_spec_l6After L_spec_l1Dec h_spec_l1Dec L_spec_l6Verdict h_spec_l6Verdict L_spec_Report h_spec_Report, rRow3, rVerdict, rRow51, rTest, rRow63, rRow9, rRow5, rMap83, rLog, ↓reduceIte, Nat.reduceMul, Nat.reduceAdd, Nat.reduceSub, Nat.reduceEqDiff, Nat.reduceBEq, Nat.reduceLeDiff, Nat.reduceLT, reduceCtorEq, Int.reduceAdd, Int.reduceSub, Int.reduceToNat, Int.reduceNeg, Int.reduceEq, Int.reduceLT, Int.reduceLE]
def H_spec_ReadReport (E : En) (L : (List UInt8) → Option (List UInt8 × List TVerdict × Bool)) : Prop := E.Γ.mu 11 = false ∧ (∀ (a0 : List UInt8), E.Γ 11 [.d (sD a0)] = (L a0).bind fun r => some (.ret (.tup [.d (sD r.1), ownT (cVerdict) 51 none false r.2.1, .d (.bool r.2.2)]) []))
-- internal/stringslite.HasSuffix
def c_internal_stringslite_HasSuffix : Cd :=
  sq (r [0, 1] [o 4 .mv [b false]])
  (sq (r [4] [o 5 .mv [t 0], o 6 (.len true) [t 5], o 7 .mv [t 1], o 8 (.len true) [t 7], o 9 (.bin .geq) [t 6, t 8], o 10 .mv [t 9], g 10 true 11 .mv [t 0], g 10 true 12 .mv [t 0], g 10 true 13 (.len true) [t 12], g 10 true 14 .mv [t 1], g 10 true 15 (.len true) [t 14], g 10 true 16 (.bin .sub) [t 13, t 15], g 10 true 17 (.slc true 1 true false) [t 11, t 16], g 10 true 18 .mv [t 1], g 10 true 19 (.bin .eql) [t 17, t 18], o 20 .pick [t 10, t 19, b false], o 4 .mv [t 20]])
   (.ret))
def r_internal_stringslite_HasSuffix : List RV := [.tmp 4]
def internal_stringslite_HasSuffix_f (N : Nat) (a0 : List UInt8) (a1 : List UInt8) : Option (Bool) :=
  if (↑(List.length a1) : Int) ≤ (↑(List.length a0) : Int) then ((cut a0 (w64 ((↑(List.length a0) : Int) - (↑(List.length a1) : Int))) (↑(List.length a0) : Int)).bind fun y0 =>
   some (Decidable.decide (y0 = a1)))
  else some false
theorem internal_stringslite_HasSuffix_g (E : En) (hy : Hy E [] [] [] r_internal_stringslite_HasSuffix none (fun y => nocap y) flatIds) (a0 : List UInt8) (a1 : List UInt8) : G E c_internal_stringslite_HasSuffix [] ⟨slotsOf [(0, .d (sD a0)), (1, .d (sD a1))], obsOf []⟩ = (internal_stringslite_HasSuffix_f E.n a0 a1).bind fun r => some (.ret (.d (.bool r)) []) := by
  simp (config := {maxSteps := 40000000}) only [↓rPre, rPost, rCan, rObj, rI, rS, rB, r8, rLI, rLit, rEtc, hy.p, hy.l, hy.k, hy.r, hy.d, hy.w, hy.f, flatIds, oid, r_internal_stringslite_HasSuffix, ↓G_unf _ _ c_internal_stringslite_HasSuffix.eq_1, bind_ite, internal_stringslite_HasSuffix_f, rRow3, rVerdict, rRow51, rTest, rRow63, rRow9, rRow5, rMap83, rLog, ↓reduceIte, Nat.reduceMul, Nat.reduceAdd, Nat.reduceSub, Nat.reduceEqDiff, Nat.reduceBEq, Nat.reduceLeDiff, Nat.reduceLT, reduceCtorEq, Int.reduceAdd, Int.reduceSub, Int.reduceToNat, Int.reduceNeg, Int.reduceEq, Int.reduceLT, Int.reduceLE]
def H_internal_stringslite_HasSuffix (E : En) (L : (List UInt8) → (List UInt8) → Option (Bool)) : Prop := E.Γ.mu 54 = false ∧ (∀ (a0 : List UInt8) (a1 : List UInt8), E.Γ 54 [.d (sD a0), .d (sD a1)] = (L a0 a1).bind fun r => some (.ret (.d (.bool r)) []))
-- strings.HasSuffix
def c_strings_HasSuffix : Cd :=
  sq (r [0, 1] [o 4 .mv [b false]])
  (sq (r [4] [o 5 .mv [t 0], o 6 .mv [t 1], o 7 (.call 54) [t 5, t 6], o 4 .mv [t 7]])
   (.ret))
def r_strings_HasSuffix : List RV := [.tmp 4]
def strings_HasSuffix_f (L_internal_stringslite_HasSuffix : (List UInt8) → (List UInt8) → Option (Bool)) (N : Nat) (a0 : List UInt8) (a1 : List UInt8) : Option (Bool) :=
  (L_internal_stringslite_HasSuffix a0 a1).bind fun y0 =>
  some y0
theorem strings_HasSuffix_g (E : En) (hy : Hy E [] [] [] r_strings_HasSuffix none (fun y => nocap y) flatIds) (L_internal_stringslite_HasSuffix : (List UInt8) → (List UInt8) → Option (Bool)) (h_internal_stringslite_HasSuffix : H_internal_stringslite_HasSuffix E L_internal_stringslite_HasSuffix) (a0 : List UInt8) (a1 : List UInt8) : G E c_strings_HasSuffix [] ⟨slotsOf [(0, .d (sD a0)), (1, .d (sD a1))], obsOf []⟩ = (strings_HasSuffix_f L_internal_stringslite_HasSuffix E.n a0 a1).bind fun r => some (.ret (.d (.bool r)) []) := by
  simp (config := {maxSteps := 40000000}) only [↓rPre, rPost, rCan, rObj, rI, rS, rB, r8, rLI, rLit, rEtc, hy.p, hy.l, hy.k, hy.r, hy.d, hy.w, hy.f, flatIds, oid, r_strings_HasSuffix, ↓G_unf _ _ c_strings_HasSuffix.eq_1, h_internal_stringslite_HasSuffix.2, h_internal_stringslite_HasSuffix.1, bind_ite, strings_HasSuffix_f, rRow3, rVerdict, rRow51, rTest, rRow63, rRow9, rRow5, rMap83, rLog, ↓reduceIte, Nat.reduceMul, Nat.reduceAdd, Nat.reduceSub, Nat.reduceEqDiff, Nat.reduceBEq, Nat.reduceLeDiff, Nat.reduceLT, reduceCtorEq, Int.reduceAdd, Int.reduceSub, Int.reduceToNat, Int.reduceNeg, Int.reduceEq, Int.reduceLT, Int.reduceLE]
def H_strings_HasSuffix (E : En) (L : (List UInt8) → (List UInt8) → Option (Bool)) : Prop := E.Γ.mu 34 = false ∧ (∀ (a0 : List UInt8) (a1 : List UInt8), E.Γ 34 [.d (sD a0), .d (sD a1)] = (L a0 a1).bind fun r => some (.ret (.d (.bool r)) []))
-- internal/stringslite.TrimSuffix
def c_internal_stringslite_TrimSuffix : Cd :=
  sq (r [0, 1] [o 4 .mv [s []]])
  (sq (sq (r [0, 1, 7] [o 5 .mv [t 0], o 6 .mv [t 1], o 7 (.call 54) [t 5, t 6]])
    (.cond (t 7) (sq (r [4] [o 8 .mv [t 0], o 9 .mv [t 0], o 10 (.len true) [t 9], o 11 .mv [t 1], o 12 (.len true) [t 11], o 13 (.bin .sub) [t 10, t 12], o 14 (.slc true 1 false true) [t 8, t 13], o 4 .mv [t 14]])
      (.ret)) (.skip)))
   (sq (r [4] [o 15 .mv [t 0], o 4 .mv [t 15]])
    (.ret)))
def r_internal_stringslite_TrimSuffix : List RV := [.tmp 4]
def internal_stringslite_TrimSuffix_f (L_internal_stringslite_HasSuffix : (List UInt8) → (List UInt8) → Option (Bool)) (N : Nat) (a0 : List UInt8) (a1 : List UInt8) : Option (List UInt8) :=
  (L_internal_stringslite_HasSuffix a0 a1).bind fun y0 =>
  if y0 = true then ((cut a0 0 (w64 ((↑(List.length a0) : Int) - (↑(List.length a1) : Int)))).bind fun y1 =>
   some y1)
  else some a0
theorem internal_stringslite_TrimSuffix_g (E : En) (hy : Hy E [] [] [] r_internal_stringslite_TrimSuffix none (fun y => nocap y) flatIds) (L_internal_stringslite_HasSuffix : (List UInt8) → (List UInt8) → Option (Bool)) (h_internal_stringslite_HasSuffix : H_internal_stringslite_HasSuffix E L_internal_stringslite_HasSuffix) (a0 : List UInt8) (a1 : List UInt8) : G E c_internal_stringslite_TrimSuffix [] ⟨slotsOf [(0, .d (sD a0)), (1, .d (sD a1))], obsOf []⟩ = (internal_stringslite_TrimSuffix_f L_internal_stringslite_HasSuffix E.n a0 a1).bind fun r => some (.ret (.d (sD r)) []) := by
  simp (config := {maxSteps := 40000000}) only [↓rPre, rPost, rCan, rObj, rI, rS, rB, r8, rLI, rLit, rEtc, hy.p, hy.l, hy.k, hy.r, hy.d, hy.w, hy.f, flatIds, oid, r_internal_stringslite_TrimSuffix, ↓G_unf _ _ c_internal_stringslite_TrimSuffix.eq_1, h_internal_stringslite_HasSuffix.2, h_internal_stringslite_HasSuffix.1, bind_ite, internal_stringslite_TrimSuffix_f, rRow3, rVerdict, rRow51, rTest, rRow63, rRow9, rRow5, rMap83, rLog, ↓reduceIte, Nat.reduceMul, Nat.reduceAdd, Nat.reduceSub, Nat.reduceEqDiff, Nat.reduceBEq, Nat.reduceLeDiff, Nat.reduceLT, reduceCtorEq, Int.reduceAdd, Int.reduceSub, Int.reduceToNat, Int.reduceNeg, Int.reduceEq, Int.reduceLT, Int.reduceLE]
def H_internal_stringslite_TrimSuffix (E : En) (L : (List UInt8) → (List UInt8) → Option (List UInt8)) : Prop := E.Γ.mu 56 = false ∧ (∀ (a0 : List UInt8) (a1 : List UInt8), E.Γ 56 [.d (sD a0), .d (sD a1)] = (L a0 a1).bind fun r => some (.ret (.d (sD r)) []))
-- strings.TrimSuffix
def c_strings_TrimSuffix : Cd :=
  sq (r [0, 1] [o 4 .mv [s []]])
  (sq (r [4] [o 5 .mv [t 0], o 6 .mv [t 1], o 7 (.call 56) [t 5, t 6], o 4 .mv [t 7]])
   (.ret))
def r_strings_TrimSuffix : List RV := [.tmp 4]
def strings_TrimSuffix_f (L_internal_stringslite_TrimSuffix : (List UInt8) → (List UInt8) → Option (List UInt8)) (N : Nat) (a0 : List UInt8) (a1 : List UInt8) : Option (List UInt8) :=
  (L_internal_stringslite_TrimSuffix a0 a1).bind fun y0 =>
  some y0
theorem strings_TrimSuffix_g (E : En) (hy : Hy E [] [] [] r_strings_TrimSuffix none (fun y => nocap y) flatIds) (L_internal_stringslite_TrimSuffix : (List UInt8) → (List UInt8) → Option (List UInt8)) (h_internal_stringslite_TrimSuffix : H_internal_stringslite_TrimSuffix E L_internal_stringslite_TrimSuffix) (a0 : List UInt8) (a1 : List UInt8) : G E c_strings_TrimSuffix [] ⟨slotsOf [(0, .d (sD a0)), (1, .d (sD a1))], obsOf []⟩ = (strings_TrimSuffix_f L_internal_stringslite_TrimSuffix E.n a0 a1).bind fun r => some (.ret (.d (sD r)) []) := by
  simp (config := {maxSteps := 40000000}) only [↓rPre, rPost, rCan, rObj, rI, rS, rB, r8, rLI, rLit, rEtc, hy.p, hy.l, hy.k, hy.r, hy.d, hy.w, hy.f, flatIds, oid, r_strings_TrimSuffix, ↓G_unf _ _ c_strings_TrimSuffix.eq_1, h_internal_stringslite_TrimSuffix.2, h_internal_stringslite_TrimSuffix.1, bind_ite, strings_TrimSuffix_f, rRow3, rVerdict, rRow51, rTest, rRow63, rRow9, rRow5, rMap83, rLog, ↓reduceIte, Nat.reduceMul, Nat.reduceAdd, Nat.reduceSub, Nat.reduceEqDiff, Nat.reduceBEq, Nat.reduceLeDiff, Nat.reduceLT, reduceCtorEq, Int.reduceAdd, Int.reduceSub, Int.reduceToNat, Int.reduceNeg, Int.reduceEq, Int.reduceLT, Int.reduceLE]
def H_strings_TrimSuffix (E : En) (L : (List UInt8) → (List UInt8) → Option (List UInt8)) : Prop := E.Γ.mu 36 = false ∧ (∀ (a0 : List UInt8) (a1 : List UInt8), E.Γ 36 [.d (sD a0), .d (sD a1)] = (L a0 a1).bind fun r => some (.ret (.d (sD r)) []))
-- strings.Split
def H_strings_Split (E : En) (L : (List UInt8) → (List UInt8) → Option (List (List UInt8))) : Prop := E.Γ.mu 35 = false ∧ (∀ (a0 : List UInt8) (a1 : List UInt8), E.Γ 35 [.d (sD a0), .d (sD a1)] = (L a0 a1).bind fun r => some (.ret (.d (lstT cS r)) []))
-- internal/stringslite.HasPrefix
def c_internal_stringslite_HasPrefix : Cd :=
  sq (r [0, 1] [o 4 .mv [b false]])
  (sq (r [4] [o 5 .mv [t 0], o 6 (.len true) [t 5], o 7 .mv [t 1], o 8 (.len true) [t 7], o 9 (.bin .geq) [t 6, t 8], o 10 .mv [t 9], g 10 true 11 .mv [t 0], g 10 true 12 .mv [t 1], g 10 true 13 (.len true) [t 12], g 10 true 14 (.slc true 1 false true) [t 11, t 13], g 10 true 15 .mv [t 1], g 10 true 16 (.bin .eql) [t 14, t 15], o 17 .pick [t 10, t 16, b false], o 4 .mv [t 17]])
   (.ret))
def r_internal_stringslite_HasPrefix : List RV := [.tmp 4]
def internal_stringslite_HasPrefix_f (N : Nat) (a0 : List UInt8) (a1 : List UInt8) : Option (Bool) :=
  if (↑(List.length a1) : Int) ≤ (↑(List.length a0) : Int) then ((cut a0 0 (↑(List.length a1) : Int)).bind fun y0 =>
   some (Decidable.decide (y0 = a1)))
  else some false
theorem internal_stringslite_HasPrefix_g (E : En) (hy : Hy E [] [] [] r_internal_stringslite_HasPrefix none (fun y => nocap y) flatIds) (a0 : List UInt8) (a1 : List UInt8) : G E c_internal_stringslite_HasPrefix [] ⟨slotsOf [(0, .d (sD a0)), (1, .d (sD a1))], obsOf []⟩ = (internal_stringslite_HasPrefix_f E.n a0 a1).bind fun r => some (.ret (.d (.bool r)) []) := by
  simp (config := {maxSteps := 40000000}) only [↓rPre, rPost, rCan, rObj, rI, rS, rB, r8, rLI, rLit, rEtc, hy.p, hy.l, hy.k, hy.r, hy.d, hy.w, hy.f, flatIds, oid, r_internal_stringslite_HasPrefix, ↓G_unf _ _ c_internal_stringslite_HasPrefix.eq_1, bind_ite, internal_stringslite_HasPrefix_f, rRow3, rVerdict, rRow51, rTest, rRow63, rRow9, rRow5, rMap83, rLog, ↓reduceIte, Nat.reduceMul, Nat.reduceAdd, Nat.reduceSub, Nat.reduceEqDiff, Nat.reduceBEq, Nat.reduceLeDiff, Nat.reduceLT, reduceCtorEq, Int.reduceAdd, Int.reduceSub, Int.reduceToNat, Int.reduceNeg, Int.reduceEq, Int.reduceLT, Int.reduceLE]
def H_internal_stringslite_HasPrefix (E : En) (L : (List UInt8) → (List UInt8) → Option (Bool)) : Prop := E.Γ.mu 70 = false ∧ (∀ (a0 : List UInt8) (a1 : List UInt8), E.Γ 70 [.d (sD a0), .d (sD a1)] = (L a0 a1).bind fun r => some (.ret (.d (.bool r)) []))
-- internal/stringslite.CutPrefix
def c_internal_stringslite_CutPrefix : Cd :=
  sq (r [0, 1] [o 4 .mv [s []], o 5 .mv [b false]])
  (sq (sq (r [0, 1, 9] [o 6 .mv [t 0], o 7 .mv [t 1], o 8 (.call 70) [t 6, t 7], o 9 .not [t 8]])
    (.cond (t 9) (sq (r [4, 5] [o 10 .mv [t 0], o 4 .mv [t 10], o 5 .mv [b false]])
      (.ret)) (.skip)))
   (sq (r [4, 5] [o 11 .mv [t 0], o 12 .mv [t 1], o 13 (.len true) [t 12], o 14 (.slc true 1 true false) [t 11, t 13], o 4 .mv [t 14], o 5 .mv [b true]])
    (.ret)))
def r_internal_stringslite_CutPrefix : List RV := [.tmp 4, .tmp 5]
def internal_stringslite_CutPrefix_f (L_internal_stringslite_HasPrefix : (List UInt8) → (List UInt8) → Option (Bool)) (N : Nat) (a0 : List UInt8) (a1 : List UInt8) : Option (List UInt8 × Bool) :=
  (L_internal_stringslite_HasPrefix a0 a1).bind fun y0 =>
  if y0 = false then some ((a0, false))
  else ((cut a0 (↑(List.length a1) : Int) (↑(List.length a0) : Int)).bind fun y1 =>
   some ((y1, true)))
theorem internal_stringslite_CutPrefix_g (E : En) (hy : Hy E [] [] [] r_internal_stringslite_CutPrefix none (fun y => nocap y) flatIds) (L_internal_stringslite_HasPrefix : (List UInt8) → (List UInt8) → Option (Bool)) (h_internal_stringslite_HasPrefix : H_internal_stringslite_HasPrefix E L_internal_stringslite_HasPrefix) (a0 : List UInt8) (a1 : List UInt8) : G E c_internal_stringslite_CutPrefix [] ⟨slotsOf [(0, .d (sD a0)), (1, .d (sD a1))], obsOf []⟩ = (internal_stringslite_CutPrefix_f L_internal_stringslite_HasPrefix E.n a0 a1).bind fun r => some (.ret (.tup [.d (sD r.1), .d (.bool r.2)]) []) := by
  simp (config := {maxSteps := 40000000}) only [↓rPre, rPost, rCan, rObj, rI, rS, rB, r8, rLI, rLit, rEtc, hy.p, hy.l, hy.k, hy.r, hy.d, hy.w, hy.f, flatIds, oid, r_internal_stringslite_CutPrefix, ↓G_unf _ _ c_internal_stringslite_CutPrefix.eq_1, h_internal_stringslite_HasPrefix.2, h_internal_stringslite_HasPrefix.1, bind_ite, internal_stringslite_CutPrefix_f, rRow3, rVerdict, rRow51, rTest, rRow63, rRow9, rRow5, rMap83, rLog, ↓reduceIte, Nat.reduceMul, Nat.reduceAdd, Nat.reduceSub, Nat.reduceEqDiff, Nat.reduceBEq, Nat.reduceLeDiff, Nat.reduceLT, reduceCtorEq, Int.reduceAdd, Int.reduceSub, Int.reduceToNat, Int.reduceNeg, Int.reduceEq, Int.reduceLT, Int.reduceLE]
def H_internal_stringslite_CutPrefix (E : En) (L : (List UInt8) → (List UInt8) → Option (List UInt8 × Bool)) : Prop := E.Γ.mu 57 = false ∧ (∀ (a0 : List UInt8) (a1 : List UInt8), E.Γ 57 [.d (sD a0), .d (sD a1)] = (L a0 a1).bind fun r => some (.ret (.tup [.d (sD r.1), .d (.bool r.2)]) []))
-- strings.CutPrefix
def c_strings_CutPrefix : Cd :=
  sq (r [0, 1] [o 4 .mv [s []], o 5 .mv [b false]])
  (sq (r [4, 5] [o 6 .mv [t 0], o 7 .mv [t 1], o 8 (.call 57) [t 6, t 7], o 9 (.ext 0) [t 8], o 10 (.ext 1) [t 8], o 4 .mv [t 9], o 5 .mv [t 10]])
   (.ret))
def r_strings_CutPrefix : List RV := [.tmp 4, .tmp 5]
def strings_CutPrefix_f (L_internal_stringslite_CutPrefix : (List UInt8) → (List UInt8) → Option (List UInt8 × Bool)) (N : Nat) (a0 : List UInt8) (a1 : List UInt8) : Option (List UInt8 × Bool) :=
  (L_internal_stringslite_CutPrefix a0 a1).bind fun y0 =>
  some ((y0.fst, y0.snd))
theorem strings_CutPrefix_g (E : En) (hy : Hy E [] [] [] r_strings_CutPrefix none (fun y => nocap y) flatIds) (L_internal_stringslite_CutPrefix : (List UInt8) → (List UInt8) → Option (List UInt8 × Bool)) (h_internal_stringslite_CutPrefix : H_internal_stringslite_CutPrefix E L_internal_stringslite_CutPrefix) (a0 : List UInt8) (a1 : List UInt8) : G E c_strings_CutPrefix [] ⟨slotsOf [(0, .d (sD a0)), (1, .d (sD a1))], obsOf []⟩ = (strings_CutPrefix_f L_internal_stringslite_CutPrefix E.n a0 a1).bind fun r => some (.ret (.tup [.d (sD r.1), .d (.bool r.2)]) []) := by
  simp (config := {maxSteps := 40000000}) only [↓rPre, rPost, rCan, rObj, rI, rS, rB, r8, rLI, rLit, rEtc, hy.p, hy.l, hy.k, hy.r, hy.d, hy.w, hy.f, flatIds, oid, r_strings_CutPrefix, ↓G_unf _ _ c_strings_CutPrefix.eq_1, h_internal_stringslite_CutPrefix.2, h_internal_stringslite_CutPrefix.1, bind_ite, strings_CutPrefix_f, rRow3, rVerdict, rRow51, rTest, rRow63, rRow9, rRow5, rMap83, rLog, ↓reduceIte, Nat.reduceMul, Nat.reduceAdd, Nat.reduceSub, Nat.reduceEqDiff, Nat.reduceBEq, Nat.reduceLeDiff, Nat.reduceLT, reduceCtorEq, Int.reduceAdd, Int.reduceSub, Int.reduceToNat, Int.reduceNeg, Int.reduceEq, Int.reduceLT, Int.reduceLE]
def H_strings_CutPrefix (E : En) (L : (List UInt8) → (List UInt8) → Option (List UInt8 × Bool)) : Prop := E.Γ.mu 37 = false ∧ (∀ (a0 : List UInt8) (a1 : List UInt8), E.Γ 37 [.d (sD a0), .d (sD a1)] = (L a0 a1).bind fun r => some (.ret (.tup [.d (sD r.1), .d (.bool r.2)]) []))
-- loop.example/s02135/impl.isDigit
def c_impl_isDigit : Cd :=
  sq (r [0] [o 2 .mv [b false]])
  (sq (r [2] [o 3 .mv [t 0], o 4 (.bin .leq) [.k (.d (.int .u8 48)), t 3], o 5 .mv [t 4], g 5 true 6 .mv [t 0], g 5 true 7 (.bin .leq) [t 6, .k (.d (.int .u8 57))], o 8 .pick [t 5, t 7, b false], o 2 .mv [t 8]])
   (.ret))
def r_impl_isDigit : List RV := [.tmp 2]
def impl_isDigit_f (N : Nat) (a0 : Int) : Option (Bool) :=
  if 48 ≤ a0 then some (Decidable.decide (a0 ≤ 57))
  else some false
theorem impl_isDigit_g (E : En) (hy : Hy E [] [] [] r_impl_isDigit none (fun y => nocap y) flatIds) (a0 : Int) : G E c_impl_isDigit [] ⟨slotsOf [(0, .d (.int .u8 a0))], obsOf []⟩ = (impl_isDigit_f E.n a0).bind fun r => some (.ret (.d (.bool r)) []) := by
  simp (config := {maxSteps := 40000000}) only [↓rPre, rPost, rCan, rObj, rI, rS, rB, r8, rLI, rLit, rEtc, hy.p, hy.l, hy.k, hy.r, hy.d, hy.w, hy.f, flatIds, oid, r_impl_isDigit, ↓G_unf _ _ c_impl_isDigit.eq_1, bind_ite, impl_isDigit_f, rRow3, rVerdict, rRow51, rTest, rRow63, rRow9, rRow5, rMap83, rLog, ↓reduceIte, Nat.reduceMul, Nat.reduceAdd, Nat.reduceSub, Nat.reduceEqDiff, Nat.reduceBEq, Nat.reduceLeDiff, Nat.reduceLT, reduceCtorEq, Int.reduceAdd, Int.reduceSub, Int.reduceToNat, Int.reduceNeg, Int.reduceEq, Int.reduceLT, Int.reduceLE]
def H_impl_isDigit (E : En) (L : Int → Option (Bool)) : Prop := E.Γ.mu 58 = false ∧ (∀ (a0 : Int), E.Γ 58 [.d (.int .u8 a0)] = (L a0).bind fun r => some (.ret (.d (.bool r)) []))
-- loop.example/s02135/impl.isLetter
def c_impl_isLetter : Cd :=
  sq (r [0] [o 2 .mv [b false]])
  (sq (r [2] [o 3 .mv [t 0], o 4 (.bin .leq) [.k (.d (.int .u8 97)), t 3], o 5 .mv [t 4], g 5 true 6 .mv [t 0], g 5 true 7 (.bin .leq) [t 6, .k (.d (.int .u8 122))], o 8 .pick [t 5, t 7, b false], o 9 .mv [t 8], g 9 false 10 .mv [t 0], g 9 false 11 (.bin .leq) [.k (.d (.int .u8 65)), t 10], g 9 false 12 .mv [t 11], g 12 true 13 .mv [t 0], g 12 true 14 (.bin .leq) [t 13, .k (.d (.int .u8 90))], g 9 false 15 .pick [t 12, t 14, b false], o 16 .pick [t 9, b true, t 15], o 2 .mv [t 16]])
   (.ret))
def r_impl_isLetter : List RV := [.tmp 2]
def impl_isLetter_f (N : Nat) (a0 : Int) : Option (Bool) :=
  if 97 ≤ a0 then (if a0 ≤ 122 then some true
   else (if 65 ≤ a0 then some (Decidable.decide (a0 ≤ 90))
    else some false))
  else (if 65 ≤ a0 then some (Decidable.decide (a0 ≤ 90))
   else some false)
theorem impl_isLetter_g (E : En) (hy : Hy E [] [] [] r_impl_isLetter none (fun y => nocap y) flatIds) (a0 : Int) : G E c_impl_isLetter [] ⟨slotsOf [(0, .d (.int .u8 a0))], obsOf []⟩ = (impl_isLetter_f E.n a0).bind fun r => some (.ret (.d (.bool r)) []) := by
  simp (config := {maxSteps := 40000000}) only [↓rPre, rPost, rCan, rObj, rI, rS, rB, r8, rLI, rLit, rEtc, hy.p, hy.l, hy.k, hy.r, hy.d, hy.w, hy.f, flatIds, oid, r_impl_isLetter, ↓G_unf _ _ c_impl_isLetter.eq_1, bind_ite, impl_isLetter_f, rRow3, rVerdict, rRow51, rTest, rRow63, rRow9, rRow5, rMap83, rLog, ↓reduceIte, Nat.reduceMul, Nat.reduceAdd, Nat.reduceSub, Nat.reduceEqDiff, Nat.reduceBEq, Nat.reduceLeDiff, Nat.reduceLT, reduceCtorEq, Int.reduceAdd, Int.reduceSub, Int.reduceToNat, Int.reduceNeg, Int.reduceEq, Int.reduceLT, Int.reduceLE]
def H_impl_isLetter (E : En) (L : Int → Option (Bool)) : Prop := E.Γ.mu 59 = false ∧ (∀ (a0 : Int), E.Γ 59 [.d (.int .u8 a0)] = (L a0).bind fun r => some (.ret (.d (.bool r)) []))
-- loop.example/s02135/impl.idOk
def b0_impl_idOk : Cd :=
  sq (r [0, 13, 14, 15] [o 15 (.bin .lss) [t 14, t 13]])
  (sq (.cond (t 15) (.skip) (.exit 0))
   (sq (.block 1 (sq (r [0, 3, 13, 14] [o 16 .mv [t 14], o 3 .mv [t 16]])
      (sq (r [0, 13, 14, 28] [o 17 .mv [t 0], o 18 .mv [t 3], o 19 .ixs [t 17, t 18], o 20 (.call 58) [t 19], o 21 .not [t 20], o 22 .mv [t 21], g 22 true 23 .mv [t 0], g 22 true 24 .mv [t 3], g 22 true 25 .ixs [t 23, t 24], g 22 true 26 (.call 59) [t 25], g 22 true 27 .not [t 26], o 28 .pick [t 22, t 27, b false]])
       (.cond (t 28) (sq (r [2] [o 2 .mv [b false]])
         (.ret)) (.skip)))))
    (r [0, 13, 14] [o 29 (.bin .add) [t 14, i 1], o 14 .mv [t 29]])))
def k1_impl_idOk : Cd :=
  sq (r [2] [o 2 .mv [b true]])
  (.ret)
def c_impl_idOk : Cd :=
  sq (r [0] [o 2 .mv [b false]])
  (sq (sq (r [0, 11] [o 4 .mv [t 0], o 5 (.len true) [t 4], o 6 (.bin .lss) [t 5, i 1], o 7 .mv [t 6], g 7 false 8 .mv [t 0], g 7 false 9 (.len true) [t 8], g 7 false 10 (.bin .gtr) [t 9, i 20], o 11 .pick [t 7, b true, t 10]])
    (.cond (t 11) (sq (r [2] [o 2 .mv [b false]])
      (.ret)) (.skip)))
   (sq (sq (r [0, 13, 14] [o 12 .mv [t 0], o 13 (.len true) [t 12], o 14 .mv [i 0]])
     (.block 0 (.loop [0, 13, 14] b0_impl_idOk))) k1_impl_idOk))
def r_impl_idOk : List RV := [.tmp 2]
def impl_idOk_l0 (L_impl_isDigit : Int → Option (Bool)) (L_impl_isLetter : Int → Option (Bool)) : Nat → (List UInt8) → Int → Int → Option (Bool)
  | 0, _, _, _ => none
  | m0 + 1, x0, x13, x14 =>
    if x14 < x13 then ((idxB x0 x14).bind fun y0 =>
     (L_impl_isDigit y0).bind fun y1 =>
     if y1 = false then ((idxB x0 x14).bind fun y2 =>
      (L_impl_isLetter y2).bind fun y3 =>
      if y3 = false then some false
      else impl_idOk_l0 L_impl_isDigit L_impl_isLetter m0 x0 x13 (w64 (x14 + 1)))
     else impl_idOk_l0 L_impl_isDigit L_impl_isLetter m0 x0 x13 (w64 (x14 + 1)))
    else some true
def impl_idOk_f (L_impl_isDigit : Int → Option (Bool)) (L_impl_isLetter : Int → Option (Bool)) (N : Nat) (a0 : List UInt8) : Option (Bool) :=
  if (↑(List.length a0) : Int) < 1 then some false
  else (if 20 < (↑(List.length a0) : Int) then some false
   else impl_idOk_l0 L_impl_isDigit L_impl_isLetter N a0 ((↑(List.length a0) : Int)) 0)
theorem impl_idOk_l0_eq (E : En) (hy : Hy E [] [] [] r_impl_idOk none (fun y => nocap y) flatIds) (L_impl_isDigit : Int → Option (Bool)) (h_impl_isDigit : H_impl_isDigit E L_impl_isDigit) (L_impl_isLetter : Int → Option (Bool)) (h_impl_isLetter : H_impl_isLetter E L_impl_isLetter) : ∀ (m0 : Nat) (x0 : List UInt8) (x13 : Int) (x14 : Int), gH E [0, 13, 14] b0_impl_idOk [KJ.b 0, KJ.c k1_impl_idOk] m0 ⟨slotsOf [(0, .d (sD x0)), (13, .d (.int .i64 x13)), (14, .d (.int .i64 x14))], obsOf []⟩ = (impl_idOk_l0 L_impl_isDigit L_impl_isLetter m0 x0 x13 x14).bind fun r => some (.ret (.d (.bool r)) []) := by
  intro m0
  induction m0 with
  | zero => intros; rfl
  | succ m0 ih =>
    intros
    simp (config := {maxSteps := 40000000}) only [↓rPre, rPost, rCan, rObj, rI, rS, rB, r8, rLI, rLit, rEtc, hy.p, hy.l, hy.k, hy.r, hy.d, hy.w, hy.f, flatIds, oid, r_impl_idOk, ↓G_unf _ _ b0_impl_idOk.eq_1, ↓G_unf _ _ k1_impl_idOk.eq_1, ↓G_unf _ _ c_impl_idOk.eq_1, h_impl_isDigit.2, h_impl_isDigit.1, h_impl_isLetter.2, h_impl_isLetter.1, gH_succ, ih, bind_ite, impl_idOk_l0, rRow3, rVerdict, rRow51, rTest, rRow63, rRow9, rRow5, rMap83, rLog, ↓reduceIte, Nat.reduceMul, Nat.reduceAdd, Nat.reduceSub, Nat.reduceEqDiff, Nat.reduceBEq, Nat.reduceLeDiff, Nat.reduceLT, reduceCtorEq, Int.reduceAdd, Int.reduceSub, Int.reduceToNat, Int.reduceNeg, Int.reduceEq, Int.reduceLT, Int.reduceLE]
theorem impl_idOk_g (E : En) (hy : Hy E [] [] [] r_impl_idOk none (fun y => nocap y) flatIds) (L_impl_isDigit : Int → Option (Bool)) (h_impl_isDigit : H_impl_isDigit E L_impl_isDigit) (L_impl_isLetter : Int → Option (Bool)) (h_impl_isLetter : H_impl_isLetter E L_impl_isLetter) (a0 : List UInt8) : G E c_impl_idOk [] ⟨slotsOf [(0, .d (sD a0))], obsOf []⟩ = (impl_idOk_f L_impl_isDigit L_impl_isLetter E.n a0).bind fun r => some (.ret (.d (.bool r)) []) := by
  simp (config := {maxSteps := 40000000}) only [↓rPre, rPost, rCan, rObj, rI, rS, rB, r8, rLI, rLit, rEtc, hy.p, hy.l, hy.k, hy.r, hy.d, hy.w, hy.f, flatIds, oid, r_impl_idOk, ↓G_unf _ _ b0_impl_idOk.eq_1, ↓G_unf _ _ k1_impl_idOk.eq_1, ↓G_unf _ _ c_impl_idOk.eq_1, h_impl_isDigit.2, h_impl_isDigit.1, h_impl_isLetter.2, h_impl_isLetter.1, bind_ite, impl_idOk_f, impl_idOk_l0_eq E hy L_impl_isDigit h_impl_isDigit L_impl_isLetter h_impl_isLetter, rRow3, rVerdict, rRow51, rTest, rRow63, rRow9, rRow5, rMap83, rLog, ↓reduceIte, Nat.reduceMul, Nat.reduceAdd, Nat.reduceSub, Nat.reduceEqDiff, Nat.reduceBEq, Nat.reduceLeDiff, Nat.reduceLT, reduceCtorEq, Int.reduceAdd, Int.reduceSub, Int.reduceToNat, Int.reduceNeg, Int.reduceEq, Int.reduceLT, Int.reduceLE]
def H_impl_idOk (E : En) (L : (List UInt8) → Option (Bool)) : Prop := E.Γ.mu 38 = false ∧ (∀ (a0 : List UInt8), E.Γ 38 [.d (sD a0)] = (L a0).bind fun r => some (.ret (.d (.bool r)) []))
-- strconv.Itoa
def H_strconv_Itoa (E : En) (L : Int → Option (List UInt8)) : Prop := E.Γ.mu 39 = false ∧ (∀ (a0 : Int), E.Γ 39 [.d (.int .i64 a0)] = (L a0).bind fun r => some (.ret (.d (sD r)) []))
-- strconv.Atoi
def H_strconv_Atoi (E : En) (L : (List UInt8) → Option (Alt Int Int)) : Prop := E.Γ.mu 48 = false ∧ (∀ (a0 : List UInt8), E.Γ 48 [.d (sD a0)] = (L a0).bind fun r => r.on (fun r => some (.ret (.tup [.d (.int .i64 r), .d .nili]) [])) (fun r => some (.ret (.tup [.d (.int .i64 r), .d (.iface 94 .opq)]) [])))
-- loop.example/s02135/impl.verdictOk
def c_impl_verdictOk : Cd :=
  sq (r [1] [o 1 .box [t 0], o 2 .mv [b false]])
  (sq (sq (r [1, 5] [o 3 (.fa 0) [t 1], o 4 (.ld none) [t 3], o 5 (.bin .eql) [t 4, i 3]])
    (.cond (t 5) (sq (r [2] [o 6 (.fa 1) [t 1], o 7 (.ld none) [t 6], o 8 (.bin .geq) [t 7, i 1], o 9 .mv [t 8], g 9 true 10 (.fa 1) [t 1], g 9 true 11 (.ld none) [t 10], g 9 true 12 (.bin .leq) [t 11, i 99], o 13 .pick [t 9, t 12, b false], o 2 .mv [t 13]])
      (.ret)) (.skip)))
   (sq (r [2] [o 14 (.fa 0) [t 1], o 15 (.ld none) [t 14], o 16 (.bin .geq) [t 15, i 1], o 17 .mv [t 16], g 17 true 18 (.fa 0) [t 1], g 17 true 19 (.ld none) [t 18], g 17 true 20 (.bin .leq) [t 19, i 5], o 21 .pick [t 17, t 20, b false], o 22 .mv [t 21], g 22 true 23 (.fa 1) [t 1], g 22 true 24 (.ld none) [t 23], g 22 true 25 (.bin .eql) [t 24, i 0], o 26 .pick [t 22, t 25, b false], o 2 .mv [t 26]])
    (.ret)))
def r_impl_verdictOk : List RV := [.tmp 2]
def impl_verdictOk_f (N : Nat) (a0_Kind : Int) (a0_Code : Int) : Option (Bool) :=
  if a0_Kind = 3 then (if 1 ≤ a0_Code then some (Decidable.decide (a0_Code ≤ 99))
   else some false)
  else (if 1 ≤ a0_Kind then (if a0_Kind ≤ 5 then some (Decidable.decide (a0_Code = 0))
    else some false)
   else some false)
theorem impl_verdictOk_g (E : En) (hy : Hy E [] [] [] r_impl_verdictOk none (fun y => nocap y) flatIds) (a0_Kind : Int) (a0_Code : Int) : G E c_impl_verdictOk [] ⟨slotsOf [(0, .agg [.d (.int .i64 a0_Kind), .d (.int .i64 a0_Code)])], obsOf []⟩ = (impl_verdictOk_f E.n a0_Kind a0_Code).bind fun r => some (.ret (.d (.bool r)) []) := by
  simp (config := {maxSteps := 40000000}) only [↓rPre, rPost, rCan, rObj, rI, rS, rB, r8, rLI, rLit, rEtc, hy.p, hy.l, hy.k, hy.r, hy.d, hy.w, hy.f, flatIds, oid, r_impl_verdictOk, ↓G_unf _ _ c_impl_verdictOk.eq_1, bind_ite, impl_verdictOk_f, rRow3, rVerdict, rRow51, rTest, rRow63, rRow9, rRow5, rMap83, rLog, ↓reduceIte, Nat.reduceMul, Nat.reduceAdd, Nat.reduceSub, Nat.reduceEqDiff, Nat.reduceBEq, Nat.reduceLeDiff, Nat.reduceLT, reduceCtorEq, Int.reduceAdd, Int.reduceSub, Int.reduceToNat, Int.reduceNeg, Int.reduceEq, Int.reduceLT, Int.reduceLE]
def H_impl_verdictOk (E : En) (L : Int → Int → Option (Bool)) : Prop := E.Γ.mu 61 = false ∧ (∀ (a0_Kind : Int) (a0_Code : Int), E.Γ 61 [.agg [.d (.int .i64 a0_Kind), .d (.int .i64 a0_Code)]] = (L a0_Kind a0_Code).bind fun r => some (.ret (.d (.bool r)) []))
-- loop.example/s02135/impl.verdictOfWords
def c_impl_verdictOfWords : Cd :=
  sq (r [0, 2] [o 2 (.alloc [(.d (iD 0)), (.d (iD 0))]) [], o 3 .mv [b false]])
  (sq (sq (r [0, 2, 18] [o 10 .mv [t 0], o 11 (.len false) [t 10], o 12 (.bin .eql) [t 11, i 2], o 13 .mv [t 12], g 13 true 14 .mv [t 0], g 13 true 15 (.ia 1) [t 14, i 0], g 13 true 16 (.ld none) [t 15], g 13 true 17 (.bin .eql) [t 16, s [101, 114, 114, 111, 114]], o 18 .pick [t 13, t 17, b false]])
    (.cond (t 18) (sq (r [0, 2, 4, 5] [o 20 .mv [t 0], o 21 (.ia 1) [t 20, i 1], o 22 (.ld none) [t 21], o 23 (.call 48) [t 22], o 19 .mv [t 23], o 24 (.ext 0) [t 19], o 25 (.ext 1) [t 19], o 4 .mv [t 24], o 5 .mv [t 25]])
      (sq (r [0, 2, 4, 5, 6] [o 26 .mv [t 4], o 27 (.bld [(.d (iD 0)), (.d (iD 0))] [(0, 1), (1, 1)]) [i 3, t 26], o 6 (.alloc [(.d (iD 0)), (.d (iD 0))]) [], e (.st 2) [t 6, t 27]])
       (sq (rd [] [2, 3] [o 28 (.ld (some 2)) [t 6], o 29 .mv [t 5], o 30 (.inil false) [t 29], o 31 .mv [t 30], g 31 true 32 .mv [t 4], g 31 true 34 .mv [t 0], g 31 true 35 (.ia 1) [t 34, i 1], g 31 true 36 (.ld none) [t 35], ap [] false [6, 34, 31, 35, 31] (g 31 true 33 (.call 39) [t 32]), g 31 true 37 (.bin .eql) [t 33, t 36], o 38 .pick [t 31, t 37, b false], o 39 .mv [t 38], g 39 true 40 (.ld (some 2)) [t 6], ap [] false [6] (g 39 true 41 (.call 61) [t 40]), o 42 .pick [t 39, t 41, b false], e (.st 2) [t 2, t 28], o 3 .mv [t 42]])
        (.ret)))) (.skip)))
   (sq (r [0, 2, 7] [o 43 (.mkR (.map 83 none)) [], e (.mset 83 1 none) [t 43, s [112, 97, 115, 115], i 1], e (.mset 83 1 none) [t 43, s [102, 97, 105, 108], i 2], e (.mset 83 1 none) [t 43, s [102, 117, 101, 108], i 4], e (.mset 83 1 none) [t 43, s [99, 101, 108, 108, 115], i 5], o 44 .mv [t 43], o 7 .mv [t 44]])
    (sq (sq (r [0, 2, 7, 47] [o 45 .mv [t 0], o 46 (.len false) [t 45], o 47 (.bin .neq) [t 46, i 1]])
      (.cond (t 47) (sq (r [2, 3] [o 48 (.bld [(.d (iD 0)), (.d (iD 0))] []) [], e (.st 2) [t 2, t 48], o 3 .mv [b false]])
        (.ret)) (.skip)))
     (sq (r [2, 8, 9] [o 50 .mv [t 7], o 51 .mv [t 0], o 52 (.ia 1) [t 51, i 0], o 53 (.ld none) [t 52], o 54 (.mget 83 1 none [(iD 0)] true) [t 50, t 53], o 49 .mv [t 54], o 55 (.ext 0) [t 49], o 56 (.ext 1) [t 49], o 8 .mv [t 55], o 9 .mv [t 56]])
      (sq (r [2, 3] [o 57 .mv [t 8], o 58 (.bld [(.d (iD 0)), (.d (iD 0))] [(0, 1)]) [t 57], o 59 .mv [t 9], e (.st 2) [t 2, t 58], o 3 .mv [t 59]])
       (.ret))))))
def r_impl_verdictOfWords : List RV := [.cell 2 (some 2), .tmp 3]
def impl_verdictOfWords_f (L_strconv_Atoi : (List UInt8) → Option (Alt Int Int)) (L_strconv_Itoa : Int → Option (List UInt8)) (L_impl_verdictOk : Int → Int → Option (Bool)) (N : Nat) (a0 : List (List UInt8)) : Option (Int × Int × Bool) :=
  if (↑(List.length a0) : Int) = 2 then ((idx a0 0).bind fun y0 =>
   if y0 = [101, 114, 114, 111, 114] then ((idx a0 1).bind fun y1 =>
    (L_strconv_Atoi y1).bind fun y2 =>
    (y2).on (fun y3 => (idx a0 1).bind fun y4 =>
     (L_strconv_Itoa y3).bind fun y5 =>
     if y5 = y4 then ((L_impl_verdictOk 3 y3).bind fun y6 =>
      some ((3, y3, y6)))
     else some ((3, y3, false))) (fun y3 => some ((3, y3, false))))
   else (if (↑(List.length a0) : Int) = 1 then ((idx a0 0).bind fun y7 =>
     some ((Option.getD (look (putM (putM (putM (putM ([] : List (List UInt8 × Int)) [112, 97, 115, 115] 1) [102, 97, 105, 108] 2) [102, 117, 101, 108] 4) [99, 101, 108, 108, 115] 5) y7) 0, 0, Option.isSome (look (putM (putM (putM (putM ([] : List (List UInt8 × Int)) [112, 97, 115, 115] 1) [102, 97, 105, 108] 2) [102, 117, 101, 108] 4) [99, 101, 108, 108, 115] 5) y7))))
    else some ((0, 0, false))))
  else (if (↑(List.length a0) : Int) = 1 then ((idx a0 0).bind fun y8 =>
    some ((Option.getD (look (putM (putM (putM (putM ([] : List (List UInt8 × Int)) [112, 97, 115, 115] 1) [102, 97, 105, 108] 2) [102, 117, 101, 108] 4) [99, 101, 108, 108, 115] 5) y8) 0, 0, Option.isSome (look (putM (putM (putM (putM ([] : List (List UInt8 × Int)) [112, 97, 115, 115] 1) [102, 97, 105, 108] 2) [102, 117, 101, 108] 4) [99, 101, 108, 108, 115] 5) y8))))
   else some ((0, 0, false)))
theorem impl_verdictOfWords_g (E : En) (hy : Hy E [] [] [] r_impl_verdictOfWords none (fun y => nocap y) flatIds) (L_strconv_Atoi : (List UInt8) → Option (Alt Int Int)) (h_strconv_Atoi : H_strconv_Atoi E L_strconv_Atoi) (L_strconv_Itoa : Int → Option (List UInt8)) (h_strconv_Itoa : H_strconv_Itoa E L_strconv_Itoa) (L_impl_verdictOk : Int → Int → Option (Bool)) (h_impl_verdictOk : H_impl_verdictOk E L_impl_verdictOk) (a0 : List (List UInt8)) : G E c_impl_verdictOfWords [] ⟨slotsOf [(0, .d (lstT cS a0))], obsOf []⟩ = (impl_verdictOfWords_f L_strconv_Atoi L_strconv_Itoa L_impl_verdictOk E.n a0).bind fun r => some (.ret (.tup [.agg [.d (.int .i64 r.1), .d (.int .i64 r.2.1)], .d (.bool r.2.2)]) []) := by
  simp (config := {maxSteps := 40000000}) only [↓rPre, rPost, rCan, rObj, rI, rS, rB, r8, rLI, rLit, rEtc, hy.p, hy.l, hy.k, hy.r, hy.d, hy.w, hy.f, flatIds, oid, r_impl_verdictOfWords, ↓G_unf _ _ c_impl_verdictOfWords.eq_1, h_strconv_Atoi.2, h_strconv_Atoi.1, h_strconv_Itoa.2, h_strconv_Itoa.1, h_impl_verdictOk.2, h_impl_verdictOk.1, bind_ite, impl_verdictOfWords_f, rRow3, rVerdict, rRow51, rTest, rRow63, rRow9, rRow5, rMap83, rLog, ↓reduceIte, Nat.reduceMul, Nat.reduceAdd, Nat.reduceSub, Nat.reduceEqDiff, Nat.reduceBEq, Nat.reduceLeDiff, Nat.reduceLT, reduceCtorEq, Int.reduceAdd, Int.reduceSub, Int.reduceToNat, Int.reduceNeg, Int.reduceEq, Int.reduceLT, Int.reduceLE]
def H_impl_verdictOfWords (E : En) (L : (List (List UInt8)) → Option (Int × Int × Bool)) : Prop := E.Γ.mu 40 = false ∧ (∀ (a0 : List (List UInt8)), E.Γ 40 [.d (lstT cS a0)] = (L a0).bind fun r => some (.ret (.tup [.agg [.d (.int .i64 r.1), .d (.int .i64 r.2.1)], .d (.bool r.2.2)]) []))
-- loop.example/s02135/impl.ReadReport
def b0_impl_ReadReport : Cd :=
  sq (r [5, 6, 8, 9, 56, 57, 58, 59] [o 59 (.bin .lss) [t 58, t 57]])
  (sq (.cond (t 59) (.skip) (.exit 0))
   (sq (.block 1 (sq (r [5, 6, 8, 9, 10, 11, 56, 57, 58] [o 60 .mv [t 58], o 61 (.ia 1) [t 56, t 58], o 62 (.ld none) [t 61], o 10 .mv [t 60], o 11 .mv [t 62]])
      (sq (r [5, 6, 8, 9, 10, 12, 56, 57, 58] [o 63 .mv [t 11], o 64 (.call 35) [t 63, s [32]], o 12 .mv [t 64]])
       (sq (sq (rd [] [5, 6, 8, 9, 12, 56, 57, 58, 82] [o 65 .mv [t 12], o 66 (.len false) [t 65], o 67 (.bin .lss) [t 66, i 3], o 68 .mv [t 67], g 68 false 69 .mv [t 12], g 68 false 70 (.ia 1) [t 69, i 0], g 68 false 71 (.ld none) [t 70], g 68 false 72 (.bin .neq) [t 71, s [116, 101, 115, 116]], o 73 .pick [t 68, b true, t 72], o 74 .mv [t 73], g 74 false 75 .mv [t 12], g 74 false 76 (.ia 1) [t 75, i 1], g 74 false 77 (.ld none) [t 76], g 74 false 78 .mv [t 10], g 74 false 79 (.bin .add) [t 78, i 1], ap [] false [75, 74, 76, 74] (g 74 false 80 (.call 39) [t 79]), g 74 false 81 (.bin .neq) [t 77, t 80], o 82 .pick [t 74, b true, t 81]])
         (.cond (t 82) (sq (r [2, 3, 4] [o 2 .mv [s []], o 3 .mv [n], o 4 .mv [b false]])
           (.ret)) (.skip)))
        (sq (r [5, 6, 8, 9, 13, 14, 56, 57, 58] [o 84 .mv [t 12], o 85 (.slc false 1 true false) [t 84, i 2], o 86 (.call 40) [t 85], o 83 .mv [t 86], o 87 (.ext 0) [t 83], o 88 (.ext 1) [t 83], o 13 (.alloc [(.d (iD 0)), (.d (iD 0))]) [], e (.st 2) [t 13, t 87], o 14 .mv [t 88]])
         (sq (sq (r [5, 6, 8, 9, 13, 56, 57, 58, 90] [o 89 .mv [t 14], o 90 .not [t 89]])
           (.cond (t 90) (sq (r [2, 3, 4] [o 2 .mv [s []], o 3 .mv [n], o 4 .mv [b false]])
             (.ret)) (.skip)))
          (sq (sq (r [5, 6, 8, 9, 13, 56, 57, 58, 93] [o 91 (.fa 0) [t 13], o 92 (.ld none) [t 91], o 93 (.bin .eql) [t 92, i 1]])
            (.cond (t 93) (r [5, 6, 8, 9, 13, 56, 57, 58] [o 94 .mv [t 9], o 95 (.bin .add) [t 94, i 1], o 9 .mv [t 95]]) (.skip)))
           (r [5, 6, 8, 9, 56, 57, 58] [o 96 .mv [t 8], o 97 (.ld (some 2)) [t 13], o 98 (lit 51 2 1) [t 97], o 99 (.app 51 2 16) [t 96, t 98], o 8 .mv [t 99]]))))))))
    (r [5, 6, 8, 9, 56, 57, 58] [o 100 (.bin .add) [t 58, i 1], o 58 .mv [t 100]])))
def k1_impl_ReadReport : Cd :=
  sq (sq (rd [] [6, 8, 115] [o 101 .mv [t 5], o 102 .mv [t 5], o 103 (.len false) [t 102], o 104 (.bin .sub) [t 103, i 1], o 105 (.ia 1) [t 101, t 104], o 106 (.ld none) [t 105], o 107 .mv [t 9], o 111 .mv [t 8], o 112 (.len false) [t 111], ap [] false [102, 101, 104, 105, 111] (o 108 (.call 39) [t 107]), o 109 (.bin .add) [s [112, 97, 115, 115, 101, 100, 32], t 108], o 110 (.bin .add) [t 109, s [32, 111, 102, 32]], ap [] false [102, 101, 104, 105] (o 113 (.call 39) [t 112]), o 114 (.bin .add) [t 110, t 113], o 115 (.bin .neq) [t 106, t 114]])
   (.cond (t 115) (sq (r [2, 3, 4] [o 2 .mv [s []], o 3 .mv [n], o 4 .mv [b false]])
     (.ret)) (.skip)))
  (sq (r [2, 3, 4] [o 116 .mv [t 6], o 117 .mv [t 8], o 2 .mv [t 116], o 3 .mv [t 117], o 4 .mv [b true]])
   (.ret))
def c_impl_ReadReport : Cd :=
  sq (r [0] [o 2 .mv [s []], o 3 .mv [n], o 4 .mv [b false]])
  (sq (sq (r [0, 22] [o 15 .mv [t 0], o 16 (.len true) [t 15], o 17 (.bin .gtr) [t 16, i 10000], o 18 .mv [t 17], g 18 false 19 .mv [t 0], g 18 false 20 (.call 34) [t 19, s [10]], g 18 false 21 .not [t 20], o 22 .pick [t 18, b true, t 21]])
    (.cond (t 22) (sq (r [2, 3, 4] [o 2 .mv [s []], o 3 .mv [n], o 4 .mv [b false]])
      (.ret)) (.skip)))
   (sq (r [5] [o 23 .mv [t 0], o 24 (.call 36) [t 23, s [10]], o 25 (.call 35) [t 24, s [10]], o 5 .mv [t 25]])
    (sq (r [5, 6, 7] [o 27 .mv [t 5], o 28 (.ia 1) [t 27, i 0], o 29 (.ld none) [t 28], o 30 (.call 37) [t 29, s [115, 116, 117, 100, 101, 110, 116, 32]], o 26 .mv [t 30], o 31 (.ext 0) [t 26], o 32 (.ext 1) [t 26], o 6 .mv [t 31], o 7 .mv [t 32]])
     (sq (sq (r [5, 6, 50] [o 33 .mv [t 7], o 34 .not [t 33], o 35 .mv [t 34], g 35 false 36 .mv [t 6], g 35 false 37 (.call 38) [t 36], g 35 false 38 .not [t 37], o 39 .pick [t 35, b true, t 38], o 40 .mv [t 39], g 40 false 41 .mv [t 5], g 40 false 42 (.len false) [t 41], g 40 false 43 (.bin .lss) [t 42, i 2], o 44 .pick [t 40, b true, t 43], o 45 .mv [t 44], g 45 false 46 .mv [t 5], g 45 false 47 (.len false) [t 46], g 45 false 48 (.bin .sub) [t 47, i 2], g 45 false 49 (.bin .gtr) [t 48, i 20], o 50 .pick [t 45, b true, t 49]])
       (.cond (t 50) (sq (r [2, 3, 4] [o 2 .mv [s []], o 3 .mv [n], o 4 .mv [b false]])
         (.ret)) (.skip)))
      (sq (r [5, 6, 8] [o 51 (lit 51 2 0) [], o 8 .mv [t 51]])
       (sq (r [5, 6, 8, 9] [o 9 .mv [i 0]])
        (sq (sq (r [5, 6, 8, 9, 56, 57, 58] [o 52 .mv [t 5], o 53 .mv [t 5], o 54 (.len false) [t 53], o 55 (.bin .sub) [t 54, i 1], o 56 (.slc false 1 true true) [t 52, i 1, t 55], o 57 (.len false) [t 56], o 58 .mv [i 0]])
          (.block 0 (.loop [5, 6, 8, 9, 56, 57, 58] b0_impl_ReadReport))) k1_impl_ReadReport)))))))
def r_impl_ReadReport : List RV := [.tmp 2, .tmp 3, .tmp 4]
def impl_ReadReport_l0 (L_strings_HasSuffix : (List UInt8) → (List UInt8) → Option (Bool)) (L_strings_TrimSuffix : (List UInt8) → (List UInt8) → Option (List UInt8)) (L_strings_Split : (List UInt8) → (List UInt8) → Option (List (List UInt8))) (L_strings_CutPrefix : (List UInt8) → (List UInt8) → Option (List UInt8 × Bool)) (L_impl_idOk : (List UInt8) → Option (Bool)) (L_strconv_Itoa : Int → Option (List UInt8)) (L_impl_verdictOfWords : (List (List UInt8)) → Option (Int × Int × Bool)) : Nat → (List (List UInt8)) → (List UInt8) → Int → (List (List UInt8)) → Int → Int → (List TVerdict) → Option (List UInt8 × List TVerdict × Bool)
  | 0, _, _, _, _, _, _, _ => none
  | m0 + 1, x5, x6, x9, x56, x57, x58, o512 =>
    if x58 < x57 then ((idx x56 x58).bind fun y0 =>
     (L_strings_Split y0 [32]).bind fun y1 =>
     if (↑(List.length y1) : Int) < 3 then some (([], [], false))
     else ((idx y1 0).bind fun y2 =>
      if y2 = [116, 101, 115, 116] then ((idx y1 1).bind fun y3 =>
       (L_strconv_Itoa (w64 (x58 + 1))).bind fun y4 =>
       if y3 = y4 then ((cut y1 2 (↑(List.length y1) : Int)).bind fun y5 =>
        (L_impl_verdictOfWords y5).bind fun y6 =>
        if y6.snd.snd = false then some (([], [], false))
        else (if y6.fst = 1 then (if room 16 (List.length (o512 ++ [{ Kind := y6.fst, Code := y6.snd.fst }])) then impl_ReadReport_l0 L_strings_HasSuffix L_strings_TrimSuffix L_strings_Split L_strings_CutPrefix L_impl_idOk L_strconv_Itoa L_impl_verdictOfWords m0 x5 x6 (w64 (x9 + 1)) x56 x57 (w64 (x58 + 1)) (o512 ++ [{ Kind := y6.fst, Code := y6.snd.fst }])
          else none)
         else (if room 16 (List.length (o512 ++ [{ Kind := y6.fst, Code := y6.snd.fst }])) then impl_ReadReport_l0 L_strings_HasSuffix L_strings_TrimSuffix L_strings_Split L_strings_CutPrefix L_impl_idOk L_strconv_Itoa L_impl_verdictOfWords m0 x5 x6 x9 x56 x57 (w64 (x58 + 1)) (o512 ++ [{ Kind := y6.fst, Code := y6.snd.fst }])
          else none)))
       else some (([], [], false)))
      else some (([], [], false))))
    else ((idx x5 (w64 ((↑(List.length x5) : Int) - 1))).bind fun y7 =>
     (L_strconv_Itoa x9).bind fun y8 =>
     if roomS (List.length y8 + 1 + 1 + 1 + 1 + 1 + 1 + 1) then (if roomS (List.length (y8 ++ [32, 111, 102, 32]) + 1 + 1 + 1 + 1 + 1 + 1 + 1) then ((L_strconv_Itoa (↑(List.length o512) : Int)).bind fun y9 =>
       if roomS (List.length (y8 ++ [32, 111, 102, 32] ++ y9) + 1 + 1 + 1 + 1 + 1 + 1 + 1) then (if y7 = 112 :: 97 :: 115 :: 115 :: 101 :: 100 :: 32 :: (y8 ++ [32, 111, 102, 32] ++ y9) then some ((x6, o512, true))
        else some (([], [], false)))
       else none)
      else none)
     else none)
def impl_ReadReport_f (L_strings_HasSuffix : (List UInt8) → (List UInt8) → Option (Bool)) (L_strings_TrimSuffix : (List UInt8) → (List UInt8) → Option (List UInt8)) (L_strings_Split : (List UInt8) → (List UInt8) → Option (List (List UInt8))) (L_strings_CutPrefix : (List UInt8) → (List UInt8) → Option (List UInt8 × Bool)) (L_impl_idOk : (List UInt8) → Option (Bool)) (L_strconv_Itoa : Int → Option (List UInt8)) (L_impl_verdictOfWords : (List (List UInt8)) → Option (Int × Int × Bool)) (N : Nat) (a0 : List UInt8) : Option (List UInt8 × List TVerdict × Bool) :=
  if 10000 < (↑(List.length a0) : Int) then some (([], [], false))
  else ((L_strings_HasSuffix a0 [10]).bind fun y0 =>
   if y0 = false then some (([], [], false))
   else ((L_strings_TrimSuffix a0 [10]).bind fun y1 =>
    (L_strings_Split y1 [10]).bind fun y2 =>
    (idx y2 0).bind fun y3 =>
    (L_strings_CutPrefix y3 [115, 116, 117, 100, 101, 110, 116, 32]).bind fun y4 =>
    if y4.snd = false then some (([], [], false))
    else ((L_impl_idOk y4.fst).bind fun y5 =>
     if y5 = false then some (([], [], false))
     else (if (↑(List.length y2) : Int) < 2 then some (([], [], false))
      else (if 20 < w64 ((↑(List.length y2) : Int) - 2) then some (([], [], false))
       else ((cut y2 1 (w64 ((↑(List.length y2) : Int) - 1))).bind fun y6 =>
        impl_ReadReport_l0 L_strings_HasSuffix L_strings_TrimSuffix L_strings_Split L_strings_CutPrefix L_impl_idOk L_strconv_Itoa L_impl_verdictOfWords N y2 y4.fst 0 y6 ((↑(List.length y6) : Int)) 0 []))))))
theorem impl_ReadReport_l0_eq (E : En) (hy : Hy E [] [] [] r_impl_ReadReport none (fun y => nocap (asOwn (.node [.k, .own 51 2, .k]) y)) flatIds) (L_strings_HasSuffix : (List UInt8) → (List UInt8) → Option (Bool)) (h_strings_HasSuffix : H_strings_HasSuffix E L_strings_HasSuffix) (L_strings_TrimSuffix : (List UInt8) → (List UInt8) → Option (List UInt8)) (h_strings_TrimSuffix : H_strings_TrimSuffix E L_strings_TrimSuffix) (L_strings_Split : (List UInt8) → (List UInt8) → Option (List (List UInt8))) (h_strings_Split : H_strings_Split E L_strings_Split) (L_strings_CutPrefix : (List UInt8) → (List UInt8) → Option (List UInt8 × Bool)) (h_strings_CutPrefix : H_strings_CutPrefix E L_strings_CutPrefix) (L_impl_idOk : (List UInt8) → Option (Bool)) (h_impl_idOk : H_impl_idOk E L_impl_idOk) (L_strconv_Itoa : Int → Option (List UInt8)) (h_strconv_Itoa : H_strconv_Itoa E L_strconv_Itoa) (L_impl_verdictOfWords : (List (List UInt8)) → Option (Int × Int × Bool)) (h_impl_verdictOfWords : H_impl_verdictOfWords E L_impl_verdictOfWords) : ∀ (m0 : Nat) (x5 : List (List UInt8)) (x6 : List UInt8) (x9 : Int) (x56 : List (List UInt8)) (x57 : Int) (x58 : Int) (o512 : List TVerdict), gH E [5, 6, 8, 9, 56, 57, 58] b0_impl_ReadReport [KJ.b 0, KJ.c k1_impl_ReadReport] m0 ⟨slotsOf [(5, .d (lstT (cS) x5)), (6, .d (sD x6)), (8, A.row 512 1), (9, .d (.int .i64 x9)), (56, .d (lstT (cS) x56)), (57, .d (.int .i64 x57)), (58, .d (.int .i64 x58))], obsOf [(512, ⟨1, rowT (cVerdict) 51 none o512, false⟩)]⟩ = (impl_ReadReport_l0 L_strings_HasSuffix L_strings_TrimSuffix L_strings_Split L_strings_CutPrefix L_impl_idOk L_strconv_Itoa L_impl_verdictOfWords m0 x5 x6 x9 x56 x57 x58 o512).bind fun r => some (.ret (.tup [.d (sD r.1), ownT (cVerdict) 51 none false r.2.1, .d (.bool r.2.2)]) []) := by
  intro m0
  induction m0 with
  | zero => intros; rfl
  | succ m0 ih =>
    intros
    simp (config := {maxSteps := 40000000}) only [↓rPre, rPost, rCan, rObj, rI, rS, rB, r8, rLI, rLit, rEtc, hy.p, hy.l, hy.k, hy.r, hy.d, hy.w, hy.f, flatIds, oid, r_impl_ReadReport, ↓G_unf _ _ b0_impl_ReadReport.eq_1, ↓G_unf _ _ k1_impl_ReadReport.eq_1, ↓G_unf _ _ c_impl_ReadReport.eq_1, h_strings_HasSuffix.2, h_strings_HasSuffix.1, h_strings_TrimSuffix.2, h_strings_TrimSuffix.1, h_strings_Split.2, h_strings_Split.1, h_strings_CutPrefix.2, h_strings_CutPrefix.1, h_impl_idOk.2, h_impl_idOk.1, h_strconv_Itoa.2, h_strconv_Itoa.1, h_impl_verdictOfWords.2, h_impl_verdictOfWords.1, gH_succ, ih, bind_ite, impl_ReadReport_l0, rRow3, rVerdict, rRow51, rTest, rRow63, rRow9, rRow5, rMap83, rLog, ↓reduceIte, Nat.reduceMul, Nat.reduceAdd, Nat.reduceSub, Nat.reduceEqDiff, Nat.reduceBEq, Nat.reduceLeDiff, Nat.reduceLT, reduceCtorEq, Int.reduceAdd, Int.reduceSub, Int.reduceToNat, Int.reduceNeg, Int.reduceEq, Int.reduceLT, Int.reduceLE]
theorem impl_ReadReport_g (E : En) (hy : Hy E [] [] [] r_impl_ReadReport none (fun y => nocap (asOwn (.node [.k, .own 51 2, .k]) y)) flatIds) (L_strings_HasSuffix : (List UInt8) → (List UInt8) → Option (Bool)) (h_strings_HasSuffix : H_strings_HasSuffix E L_strings_HasSuffix) (L_strings_TrimSuffix : (List UInt8) → (List UInt8) → Option (List UInt8)) (h_strings_TrimSuffix : H_strings_TrimSuffix E L_strings_TrimSuffix) (L_strings_Split : (List UInt8) → (List UInt8) → Option (List (List UInt8))) (h_strings_Split : H_strings_Split E L_strings_Split) (L_strings_CutPrefix : (List UInt8) → (List UInt8) → Option (List UInt8 × Bool)) (h_strings_CutPrefix : H_strings_CutPrefix E L_strings_CutPrefix) (L_impl_idOk : (List UInt8) → Option (Bool)) (h_impl_idOk : H_impl_idOk E L_impl_idOk) (L_strconv_Itoa : Int → Option (List UInt8)) (h_strconv_Itoa : H_strconv_Itoa E L_strconv_Itoa) (L_impl_verdictOfWords : (List (List UInt8)) → Option (Int × Int × Bool)) (h_impl_verdictOfWords : H_impl_verdictOfWords E L_impl_verdictOfWords) (a0 : List UInt8) : G E c_impl_ReadReport [] ⟨slotsOf [(0, .d (sD a0))], obsOf []⟩ = (impl_ReadReport_f L_strings_HasSuffix L_strings_TrimSuffix L_strings_Split L_strings_CutPrefix L_impl_idOk L_strconv_Itoa L_impl_verdictOfWords E.n a0).bind fun r => some (.ret (.tup [.d (sD r.1), ownT (cVerdict) 51 none false r.2.1, .d (.bool r.2.2)]) []) := by
  simp (config := {maxSteps := 40000000}) only [↓rPre, rPost, rCan, rObj, rI, rS, rB, r8, rLI, rLit, rEtc, hy.p, hy.l, hy.k, hy.r, hy.d, hy.w, hy.f, flatIds, oid, r_impl_ReadReport, ↓G_unf _ _ b0_impl_ReadReport.eq_1, ↓G_unf _ _ k1_impl_ReadReport.eq_1, ↓G_unf _ _ c_impl_ReadReport.eq_1, h_strings_HasSuffix.2, h_strings_HasSuffix.1, h_strings_TrimSuffix.2, h_strings_TrimSuffix.1, h_strings_Split.2, h_strings_Split.1, h_strings_CutPrefix.2, h_strings_CutPrefix.1, h_impl_idOk.2, h_impl_idOk.1, h_strconv_Itoa.2, h_strconv_Itoa.1, h_impl_verdictOfWords.2, h_impl_verdictOfWords.1, bind_ite, impl_ReadReport_f, impl_ReadReport_l0_eq E hy L_strings_HasSuffix h_strings_HasSuffix L_strings_TrimSuffix h_strings_TrimSuffix L_strings_Split h_strings_Split L_strings_CutPrefix h_strings_CutPrefix L_impl_idOk h_impl_idOk L_strconv_Itoa h_strconv_Itoa L_impl_verdictOfWords h_impl_verdictOfWords, rRow3, rVerdict, rRow51, rTest, rRow63, rRow9, rRow5, rMap83, rLog, ↓reduceIte, Nat.reduceMul, Nat.reduceAdd, Nat.reduceSub, Nat.reduceEqDiff, Nat.reduceBEq, Nat.reduceLeDiff, Nat.reduceLT, reduceCtorEq, Int.reduceAdd, Int.reduceSub, Int.reduceToNat, Int.reduceNeg, Int.reduceEq, Int.reduceLT, Int.reduceLE]
def H_impl_ReadReport (E : En) (L : (List UInt8) → Option (List UInt8 × List TVerdict × Bool)) : Prop := E.Γ.mu 12 = false ∧ (∀ (a0 : List UInt8), E.Γ 12 [.d (sD a0)] = (L a0).bind fun r => some (.ret (.tup [.d (sD r.1), ownT (cVerdict) 51 none false r.2.1, .d (.bool r.2.2)]) []))
-- loop.example/s02135/laws.eqVerdict
def c_laws_eqVerdict : Cd :=
  sq (r [2, 3] [o 2 .box [t 0], o 3 .box [t 1], o 4 .mv [b false]])
  (sq (sq (r [2, 3, 9] [o 5 (.fa 0) [t 2], o 6 (.ld none) [t 5], o 7 (.fa 0) [t 3], o 8 (.ld none) [t 7], o 9 (.bin .neq) [t 6, t 8]])
    (.cond (t 9) (sq (r [4] [o 4 .mv [b false]])
      (.ret)) (.skip)))
   (sq (sq (r [14] [o 10 (.fa 1) [t 2], o 11 (.ld none) [t 10], o 12 (.fa 1) [t 3], o 13 (.ld none) [t 12], o 14 (.bin .neq) [t 11, t 13]])
     (.cond (t 14) (sq (r [4] [o 4 .mv [b false]])
       (.ret)) (.skip)))
    (sq (r [4] [o 4 .mv [b true]])
     (.ret))))
def r_laws_eqVerdict : List RV := [.tmp 4]
def laws_eqVerdict_f (N : Nat) (a0_Kind : Int) (a0_Code : Int) (a1_Kind : Int) (a1_Code : Int) : Option (Bool) :=
  if a0_Kind = a1_Kind then (if a0_Code = a1_Code then some true
   else some false)
  else some false
theorem laws_eqVerdict_g (E : En) (hy : Hy E [] [] [] r_laws_eqVerdict none (fun y => nocap y) flatIds) (a0_Kind : Int) (a0_Code : Int) (a1_Kind : Int) (a1_Code : Int) : G E c_laws_eqVerdict [] ⟨slotsOf [(0, .agg [.d (.int .i64 a0_Kind), .d (.int .i64 a0_Code)]), (1, .agg [.d (.int .i64 a1_Kind), .d (.int .i64 a1_Code)])], obsOf []⟩ = (laws_eqVerdict_f E.n a0_Kind a0_Code a1_Kind a1_Code).bind fun r => some (.ret (.d (.bool r)) []) := by
  simp (config := {maxSteps := 40000000}) only [↓rPre, rPost, rCan, rObj, rI, rS, rB, r8, rLI, rLit, rEtc, hy.p, hy.l, hy.k, hy.r, hy.d, hy.w, hy.f, flatIds, oid, r_laws_eqVerdict, ↓G_unf _ _ c_laws_eqVerdict.eq_1, bind_ite, laws_eqVerdict_f, rRow3, rVerdict, rRow51, rTest, rRow63, rRow9, rRow5, rMap83, rLog, ↓reduceIte, Nat.reduceMul, Nat.reduceAdd, Nat.reduceSub, Nat.reduceEqDiff, Nat.reduceBEq, Nat.reduceLeDiff, Nat.reduceLT, reduceCtorEq, Int.reduceAdd, Int.reduceSub, Int.reduceToNat, Int.reduceNeg, Int.reduceEq, Int.reduceLT, Int.reduceLE]
def H_laws_eqVerdict (E : En) (L : Int → Int → Int → Int → Option (Bool)) : Prop := E.Γ.mu 41 = false ∧ (∀ (a0_Kind : Int) (a0_Code : Int) (a1_Kind : Int) (a1_Code : Int), E.Γ 41 [.agg [.d (.int .i64 a0_Kind), .d (.int .i64 a0_Code)], .agg [.d (.int .i64 a1_Kind), .d (.int .i64 a1_Code)]] = (L a0_Kind a0_Code a1_Kind a1_Code).bind fun r => some (.ret (.d (.bool r)) []))
-- loop.example/s02135/laws.eqVerdictS
def b0_laws_eqVerdictS : Cd :=
  sq (sq (r [0, 1, 5, 14] [o 11 .mv [t 5], o 12 .mv [t 0], o 13 (.len false) [t 12], o 14 (.bin .lss) [t 11, t 13]])
   (.cond (t 14) (.skip) (.exit 0)))
  (sq (.block 1 (sq (rd [] [0, 1, 5, 26] [o 17 .mv [t 0], o 18 .mv [t 5], o 19 (.ia 2) [t 17, t 18], o 20 (.ld (some 2)) [t 19], o 21 .mv [t 1], o 22 .mv [t 5], o 23 (.ia 2) [t 21, t 22], o 24 (.ld (some 2)) [t 23], o 25 (.call 41) [t 20, t 24], o 26 .not [t 25]])
     (.cond (t 26) (sq (r [4] [o 4 .mv [b false]])
       (.ret)) (.skip))))
   (r [0, 1, 5] [o 15 .mv [t 5], o 16 (.bin .add) [t 15, i 1], o 5 .mv [t 16]]))
def k1_laws_eqVerdictS : Cd :=
  sq (r [4] [o 4 .mv [b true]])
  (.ret)
def c_laws_eqVerdictS : Cd :=
  sq (r [0, 1] [o 4 .mv [b false]])
  (sq (sq (r [0, 1, 10] [o 6 .mv [t 0], o 7 (.len false) [t 6], o 8 .mv [t 1], o 9 (.len false) [t 8], o 10 (.bin .neq) [t 7, t 9]])
    (.cond (t 10) (sq (r [4] [o 4 .mv [b false]])
      (.ret)) (.skip)))
   (sq (sq (r [0, 1, 5] [o 5 .mv [i 0]])
     (.block 0 (.loop [0, 1, 5] b0_laws_eqVerdictS))) k1_laws_eqVerdictS))
def r_laws_eqVerdictS : List RV := [.tmp 4]
def laws_eqVerdictS_l0 (L_laws_eqVerdict : Int → Int → Int → Int → Option (Bool)) : Nat → (List TVerdict) → (List TVerdict) → Int → Option (Bool)
  | 0, _, _, _ => none
  | m0 + 1, x0, x1, x5 =>
    if x5 < (↑(List.length x0) : Int) then ((idx x0 x5).bind fun y0 =>
     (idx x1 x5).bind fun y1 =>
     (L_laws_eqVerdict y0.Kind y0.Code y1.Kind y1.Code).bind fun y2 =>
     if y2 = false then some false
     else laws_eqVerdictS_l0 L_laws_eqVerdict m0 x0 x1 (w64 (x5 + 1)))
    else some true
def laws_eqVerdictS_f (L_laws_eqVerdict : Int → Int → Int → Int → Option (Bool)) (N : Nat) (a0 : List TVerdict) (a1 : List TVerdict) : Option (Bool) :=
  if (↑(List.length a0) : Int) = (↑(List.length a1) : Int) then laws_eqVerdictS_l0 L_laws_eqVerdict N a0 a1 0
  else some false
theorem laws_eqVerdictS_l0_eq (E : En) (hy : Hy E [] [] [] r_laws_eqVerdictS none (fun y => nocap y) flatIds) (L_laws_eqVerdict : Int → Int → Int → Int → Option (Bool)) (h_laws_eqVerdict : H_laws_eqVerdict E L_laws_eqVerdict) : ∀ (m0 : Nat) (x0 : List TVerdict) (x1 : List TVerdict) (x5 : Int), gH E [0, 1, 5] b0_laws_eqVerdictS [KJ.b 0, KJ.c k1_laws_eqVerdictS] m0 ⟨slotsOf [(0, .d (lstT (cVerdict) x0)), (1, .d (lstT (cVerdict) x1)), (5, .d (.int .i64 x5))], obsOf []⟩ = (laws_eqVerdictS_l0 L_laws_eqVerdict m0 x0 x1 x5).bind fun r => some (.ret (.d (.bool r)) []) := by
  intro m0
  induction m0 with
  | zero => intros; rfl
  | succ m0 ih =>
    intros
    simp (config := {maxSteps := 40000000}) only [↓rPre, rPost, rCan, rObj, rI, rS, rB, r8, rLI, rLit, rEtc, hy.p, hy.l, hy.k, hy.r, hy.d, hy.w, hy.f, flatIds, oid, r_laws_eqVerdictS, ↓G_unf _ _ b0_laws_eqVerdictS.eq_1, ↓G_unf _ _ k1_laws_eqVerdictS.eq_1, ↓G_unf _ _ c_laws_eqVerdictS.eq_1, h_laws_eqVerdict.2, h_laws_eqVerdict.1, gH_succ, ih, bind_ite, laws_eqVerdictS_l0, rRow3, rVerdict, rRow51, rTest, rRow63, rRow9, rRow5, rMap83, rLog, ↓reduceIte, Nat.reduceMul, Nat.reduceAdd, Nat.reduceSub, Nat.reduceEqDiff, Nat.reduceBEq, Nat.reduceLeDiff, Nat.reduceLT, reduceCtorEq, Int.reduceAdd, Int.reduceSub, Int.reduceToNat, Int.reduceNeg, Int.reduceEq, Int.reduceLT, Int.reduceLE]
theorem laws_eqVerdictS_g (E : En) (hy : Hy E [] [] [] r_laws_eqVerdictS none (fun y => nocap y) flatIds) (L_laws_eqVerdict : Int → Int → Int → Int → Option (Bool)) (h_laws_eqVerdict : H_laws_eqVerdict E L_laws_eqVerdict) (a0 : List TVerdict) (a1 : List TVerdict) : G E c_laws_eqVerdictS [] ⟨slotsOf [(0, .d (lstT cVerdict a0)), (1, .d (lstT cVerdict a1))], obsOf []⟩ = (laws_eqVerdictS_f L_laws_eqVerdict E.n a0 a1).bind fun r => some (.ret (.d (.bool r)) []) := by
  simp (config := {maxSteps := 40000000}) only [↓rPre, rPost, rCan, rObj, rI, rS, rB, r8, rLI, rLit, rEtc, hy.p, hy.l, hy.k, hy.r, hy.d, hy.w, hy.f, flatIds, oid, r_laws_eqVerdictS, ↓G_unf _ _ b0_laws_eqVerdictS.eq_1, ↓G_unf _ _ k1_laws_eqVerdictS.eq_1, ↓G_unf _ _ c_laws_eqVerdictS.eq_1, h_laws_eqVerdict.2, h_laws_eqVerdict.1, bind_ite, laws_eqVerdictS_f, laws_eqVerdictS_l0_eq E hy L_laws_eqVerdict h_laws_eqVerdict, rRow3, rVerdict, rRow51, rTest, rRow63, rRow9, rRow5, rMap83, rLog, ↓reduceIte, Nat.reduceMul, Nat.reduceAdd, Nat.reduceSub, Nat.reduceEqDiff, Nat.reduceBEq, Nat.reduceLeDiff, Nat.reduceLT, reduceCtorEq, Int.reduceAdd, Int.reduceSub, Int.reduceToNat, Int.reduceNeg, Int.reduceEq, Int.reduceLT, Int.reduceLE]
def H_laws_eqVerdictS (E : En) (L : (List TVerdict) → (List TVerdict) → Option (Bool)) : Prop := E.Γ.mu 13 = false ∧ (∀ (a0 : List TVerdict) (a1 : List TVerdict), E.Γ 13 [.d (lstT cVerdict a0), .d (lstT cVerdict a1)] = (L a0 a1).bind fun r => some (.ret (.d (.bool r)) []))
-- loop.example/s02135/laws.markVerdictS
def b0_laws_markVerdictS : Cd :=
  sq (sq (r [0, 1, 5, 9] [o 6 .mv [t 5], o 7 .mv [t 0], o 8 (.len false) [t 7], o 9 (.bin .lss) [t 6, t 8]])
   (.cond (t 9) (.skip) (.exit 0)))
  (sq (.block 1 (sq (r [0, 1, 5] [o 12 .mv [t 0], o 13 .mv [t 5], o 14 .mv [t 1], o 15 (.ia 2) [t 12, t 13], o 16 (.fa 0) [t 15], e (.st 1) [t 16, t 14]])
     (sq (r [0, 1, 5] [o 17 .mv [t 1], o 18 (.bin .add) [t 17, i 1], o 1 .mv [t 18]])
      (sq (r [0, 1, 5] [o 19 .mv [t 0], o 20 .mv [t 5], o 21 .mv [t 1], o 22 (.ia 2) [t 19, t 20], o 23 (.fa 1) [t 22], e (.st 1) [t 23, t 21]])
       (r [0, 1, 5] [o 24 .mv [t 1], o 25 (.bin .add) [t 24, i 1], o 1 .mv [t 25]])))))
   (r [0, 1, 5] [o 10 .mv [t 5], o 11 (.bin .add) [t 10, i 1], o 5 .mv [t 11]]))
def k1_laws_markVerdictS : Cd :=
  sq (r [4] [o 26 .mv [t 1], o 4 .mv [t 26]])
  (.ret)
def c_laws_markVerdictS : Cd :=
  sq (r [0, 1] [o 4 .mv [i 0]])
  (sq (sq (r [0, 1, 5] [o 5 .mv [i 0]])
    (.block 0 (.loop [0, 1, 5] b0_laws_markVerdictS))) k1_laws_markVerdictS)
def r_laws_markVerdictS : List RV := [.tmp 4]
def laws_markVerdictS_l0 : Nat → Int → Int → (List TVerdict) → Option (Int × List TVerdict)
  | 0, _, _, _ => none
  | m0 + 1, x1, x5, o0 =>
    if x5 < (↑(List.length o0) : Int) then (if 0 ≤ x5 ∧ x5 < (↑(List.length o0) : Int) then ((o0[Int.toNat x5]?).bind fun y0 =>
      if 0 ≤ x5 ∧ x5 < (↑(List.length (List.set o0 (Int.toNat x5) { Kind := x1, Code := y0.Code })) : Int) then (((List.set o0 (Int.toNat x5) { Kind := x1, Code := y0.Code })[Int.toNat x5]?).bind fun y1 =>
       laws_markVerdictS_l0 m0 (w64 (w64 (x1 + 1) + 1)) (w64 (x5 + 1)) (List.set (List.set o0 (Int.toNat x5) { Kind := x1, Code := y0.Code }) (Int.toNat x5) { Kind := y1.Kind, Code := w64 (x1 + 1) }))
      else none)
     else none)
    else some ((x1, o0))
def laws_markVerdictS_f (N : Nat) (a0 : List TVerdict) (a1 : Int) : Option (Int × List TVerdict) :=
  laws_markVerdictS_l0 N a1 0 a0
theorem laws_markVerdictS_l0_eq (E : En) (hy : Hy E [0] [0] [(0, .row 51 2)] r_laws_markVerdictS none (fun y => nocap y) flatIds) : ∀ (m0 : Nat) (x1 : Int) (x5 : Int) (o0 : List TVerdict), gH E [0, 1, 5] b0_laws_markVerdictS [KJ.b 0, KJ.c k1_laws_markVerdictS] m0 ⟨slotsOf [(0, A.row 0 1), (1, .d (.int .i64 x1)), (5, .d (.int .i64 x5))], obsOf [(0, ⟨1, rowT (cVerdict) 51 none o0, false⟩)]⟩ = (laws_markVerdictS_l0 m0 x1 x5 o0).bind fun r => some (.ret (.d (.int .i64 r.1)) [[lstT (cVerdict) r.2]]) := by
  intro m0
  induction m0 with
  | zero => intros; rfl
  | succ m0 ih =>
    intros
    simp (config := {maxSteps := 40000000}) only [↓rPre, rPost, rCan, rObj, rI, rS, rB, r8, rLI, rLit, rEtc, hy.p, hy.l, hy.k, hy.r, hy.d, hy.w, hy.f, flatIds, oid, r_laws_markVerdictS, ↓G_unf _ _ b0_laws_markVerdictS.eq_1, ↓G_unf _ _ k1_laws_markVerdictS.eq_1, ↓G_unf _ _ c_laws_markVerdictS.eq_1, gH_succ, ih, bind_ite, laws_markVerdictS_l0, rRow3, rVerdict, rRow51, rTest, rRow63, rRow9, rRow5, rMap83, rLog, ↓reduceIte, Nat.reduceMul, Nat.reduceAdd, Nat.reduceSub, Nat.reduceEqDiff, Nat.reduceBEq, Nat.reduceLeDiff, Nat.reduceLT, reduceCtorEq, Int.reduceAdd, Int.reduceSub, Int.reduceToNat, Int.reduceNeg, Int.reduceEq, Int.reduceLT, Int.reduceLE]
theorem laws_markVerdictS_g (E : En) (hy : Hy E [0] [0] [(0, .row 51 2)] r_laws_markVerdictS none (fun y => nocap y) flatIds) (a0 : List TVerdict) (a1 : Int) : G E c_laws_markVerdictS [] ⟨slotsOf [(0, .row 0 1), (1, .d (.int .i64 a1))], obsOf [(0, ⟨1, rowT cVerdict 51 none a0, false⟩)]⟩ = (laws_markVerdictS_f E.n a0 a1).bind fun r => some (.ret (.d (.int .i64 r.1)) [[lstT (cVerdict) r.2]]) := by
  simp (config := {maxSteps := 40000000}) only [↓rPre, rPost, rCan, rObj, rI, rS, rB, r8, rLI, rLit, rEtc, hy.p, hy.l, hy.k, hy.r, hy.d, hy.w, hy.f, flatIds, oid, r_laws_markVerdictS, ↓G_unf _ _ b0_laws_markVerdictS.eq_1, ↓G_unf _ _ k1_laws_markVerdictS.eq_1, ↓G_unf _ _ c_laws_markVerdictS.eq_1, bind_ite, laws_markVerdictS_f, laws_markVerdictS_l0_eq E hy, rRow3, rVerdict, rRow51, rTest, rRow63, rRow9, rRow5, rMap83, rLog, ↓reduceIte, Nat.reduceMul, Nat.reduceAdd, Nat.reduceSub, Nat.reduceEqDiff, Nat.reduceBEq, Nat.reduceLeDiff, Nat.reduceLT, reduceCtorEq, Int.reduceAdd, Int.reduceSub, Int.reduceToNat, Int.reduceNeg, Int.reduceEq, Int.reduceLT, Int.reduceLE]
def H_laws_markVerdictS (E : En) (L : (List TVerdict) → Int → Option (Int × List TVerdict)) : Prop := E.Γ.mu 14 = true ∧ (∀ (a0 : List TVerdict) (a1 : Int), E.Γ 14 [ownT cVerdict 51 none false a0, .d (.int .i64 a1)] = (L a0 a1).bind fun r => some (.ret (.d (.int .i64 r.1)) [[lstT (cVerdict) r.2]]))
-- loop.example/s02135/laws.heldVerdictS
def b0_laws_heldVerdictS : Cd :=
  sq (sq (r [0, 1, 5, 9] [o 6 .mv [t 5], o 7 .mv [t 0], o 8 (.len false) [t 7], o 9 (.bin .lss) [t 6, t 8]])
   (.cond (t 9) (.skip) (.exit 0)))
  (sq (.block 1 (sq (sq (r [0, 1, 5, 18] [o 12 .mv [t 0], o 13 .mv [t 5], o 14 (.ia 2) [t 12, t 13], o 15 (.fa 0) [t 14], o 16 (.ld none) [t 15], o 17 .mv [t 1], o 18 (.bin .neq) [t 16, t 17]])
      (.cond (t 18) (sq (r [4] [o 4 .mv [i (-1)]])
        (.ret)) (.skip)))
     (sq (r [0, 1, 5] [o 19 .mv [t 1], o 20 (.bin .add) [t 19, i 1], o 1 .mv [t 20]])
      (sq (sq (r [0, 1, 5, 27] [o 21 .mv [t 0], o 22 .mv [t 5], o 23 (.ia 2) [t 21, t 22], o 24 (.fa 1) [t 23], o 25 (.ld none) [t 24], o 26 .mv [t 1], o 27 (.bin .neq) [t 25, t 26]])
        (.cond (t 27) (sq (r [4] [o 4 .mv [i (-1)]])
          (.ret)) (.skip)))
       (r [0, 1, 5] [o 28 .mv [t 1], o 29 (.bin .add) [t 28, i 1], o 1 .mv [t 29]])))))
   (r [0, 1, 5] [o 10 .mv [t 5], o 11 (.bin .add) [t 10, i 1], o 5 .mv [t 11]]))
def k1_laws_heldVerdictS : Cd :=
  sq (r [4] [o 30 .mv [t 1], o 4 .mv [t 30]])
  (.ret)
def c_laws_heldVerdictS : Cd :=
  sq (r [0, 1] [o 4 .mv [i 0]])
  (sq (sq (r [0, 1, 5] [o 5 .mv [i 0]])
    (.block 0 (.loop [0, 1, 5] b0_laws_heldVerdictS))) k1_laws_heldVerdictS)
def r_laws_heldVerdictS : List RV := [.tmp 4]
def laws_heldVerdictS_l0 : Nat → (List TVerdict) → Int → Int → Option (Int)
  | 0, _, _, _ => none
  | m0 + 1, x0, x1, x5 =>
    if x5 < (↑(List.length x0) : Int) then ((idx x0 x5).bind fun y0 =>
     if y0.Kind = x1 then ((idx x0 x5).bind fun y1 =>
      if y1.Code = w64 (x1 + 1) then laws_heldVerdictS_l0 m0 x0 (w64 (w64 (x1 + 1) + 1)) (w64 (x5 + 1))
      else some (-1))
     else some (-1))
    else some x1
def laws_heldVerdictS_f (N : Nat) (a0 : List TVerdict) (a1 : Int) : Option (Int) :=
  laws_heldVerdictS_l0 N a0 a1 0
theorem laws_heldVerdictS_l0_eq (E : En) (hy : Hy E [] [] [] r_laws_heldVerdictS none (fun y => nocap y) flatIds) : ∀ (m0 : Nat) (x0 : List TVerdict) (x1 : Int) (x5 : Int), gH E [0, 1, 5] b0_laws_heldVerdictS [KJ.b 0, KJ.c k1_laws_heldVerdictS] m0 ⟨slotsOf [(0, .d (lstT (cVerdict) x0)), (1, .d (.int .i64 x1)), (5, .d (.int .i64 x5))], obsOf []⟩ = (laws_heldVerdictS_l0 m0 x0 x1 x5).bind fun r => some (.ret (.d (.int .i64 r)) []) := by
  intro m0
  induction m0 with
  | zero => intros; rfl
  | succ m0 ih =>
    intros
    simp (config := {maxSteps := 40000000}) only [↓rPre, rPost, rCan, rObj, rI, rS, rB, r8, rLI, rLit, rEtc, hy.p, hy.l, hy.k, hy.r, hy.d, hy.w, hy.f, flatIds, oid, r_laws_heldVerdictS, ↓G_unf _ _ b0_laws_heldVerdictS.eq_1, ↓G_unf _ _ k1_laws_heldVerdictS.eq_1, ↓G_unf _ _ c_laws_heldVerdictS.eq_1, gH_succ, ih, bind_ite, laws_heldVerdictS_l0, rRow3, rVerdict, rRow51, rTest, rRow63, rRow9, rRow5, rMap83, rLog, ↓reduceIte, Nat.reduceMul, Nat.reduceAdd, Nat.reduceSub, Nat.reduceEqDiff, Nat.reduceBEq, Nat.reduceLeDiff, Nat.reduceLT, reduceCtorEq, Int.reduceAdd, Int.reduceSub, Int.reduceToNat, Int.reduceNeg, Int.reduceEq, Int.reduceLT, Int.reduceLE]
theorem laws_heldVerdictS_g (E : En) (hy : Hy E [] [] [] r_laws_heldVerdictS none (fun y => nocap y) flatIds) (a0 : List TVerdict) (a1 : Int) : G E c_laws_heldVerdictS [] ⟨slotsOf [(0, .d (lstT cVerdict a0)), (1, .d (.int .i64 a1))], obsOf []⟩ = (laws_heldVerdictS_f E.n a0 a1).bind fun r => some (.ret (.d (.int .i64 r)) []) := by
  simp (config := {maxSteps := 40000000}) only [↓rPre, rPost, rCan, rObj, rI, rS, rB, r8, rLI, rLit, rEtc, hy.p, hy.l, hy.k, hy.r, hy.d, hy.w, hy.f, flatIds, oid, r_laws_heldVerdictS, ↓G_unf _ _ b0_laws_heldVerdictS.eq_1, ↓G_unf _ _ k1_laws_heldVerdictS.eq_1, ↓G_unf _ _ c_laws_heldVerdictS.eq_1, bind_ite, laws_heldVerdictS_f, laws_heldVerdictS_l0_eq E hy, rRow3, rVerdict, rRow51, rTest, rRow63, rRow9, rRow5, rMap83, rLog, ↓reduceIte, Nat.reduceMul, Nat.reduceAdd, Nat.reduceSub, Nat.reduceEqDiff, Nat.reduceBEq, Nat.reduceLeDiff, Nat.reduceLT, reduceCtorEq, Int.reduceAdd, Int.reduceSub, Int.reduceToNat, Int.reduceNeg, Int.reduceEq, Int.reduceLT, Int.reduceLE]
def H_laws_heldVerdictS (E : En) (L : (List TVerdict) → Int → Option (Int)) : Prop := E.Γ.mu 15 = false ∧ (∀ (a0 : List TVerdict) (a1 : Int), E.Γ 15 [.d (lstT cVerdict a0), .d (.int .i64 a1)] = (L a0 a1).bind fun r => some (.ret (.d (.int .i64 r)) []))
-- loop.example/s02135/laws.FnExactReadReport
def c_laws_FnExactReadReport : Cd :=
  sq (r [0] [o 2 .mv [b false]])
  (sq (sq (r [0, 16] [o 14 .mv [t 0], o 15 (.len true) [t 14], o 16 (.bin .gtr) [t 15, i 1048576]])
    (.cond (t 16) (sq (r [2] [o 2 .mv [b true]])
      (.ret)) (.skip)))
   (sq (r [0, 3, 4, 5] [o 18 .mv [t 0], o 19 (.call 11) [t 18], o 17 .mv [t 19], o 20 (.ext 0) [t 17], o 21 (.ext 1) [t 17], o 22 (.ext 2) [t 17], o 3 .mv [t 20], o 4 .mv [t 21], o 5 .mv [t 22]])
    (sq (r [0, 3, 4, 5, 6, 7, 8] [o 24 .mv [t 0], o 25 (.call 12) [t 24], o 23 .mv [t 25], o 26 (.ext 0) [t 23], o 27 (.ext 1) [t 23], o 28 (.ext 2) [t 23], o 6 .mv [t 26], o 7 .mv [t 27], o 8 .mv [t 28]])
     (sq (sq (r [0, 3, 4, 5, 7, 42] [o 29 .mv [t 6], o 30 .mv [t 3], o 31 (.bin .neq) [t 29, t 30], o 32 .mv [t 31], g 32 false 33 .mv [t 7], g 32 false 34 .mv [t 4], g 32 false 35 (.call 13) [t 33, t 34], g 32 false 36 .not [t 35], o 37 .pick [t 32, b true, t 36], o 38 .mv [t 37], g 38 false 39 .mv [t 8], g 38 false 40 .mv [t 5], g 38 false 41 (.beq true) [t 39, t 40], o 42 .pick [t 38, b true, t 41]])
       (.cond (t 42) (sq (r [2] [o 2 .mv [b false]])
         (.ret)) (.skip)))
      (sq (r [0, 3, 4, 5, 7, 9] [o 9 .mv [i 1]])
       (sq (r [0, 3, 4, 5, 7, 9] [o 43 .mv [t 7], o 44 .mv [t 9], o 45 (.call 14) [t 43, t 44], o 9 .mv [t 45]])
        (sq (r [0, 3, 4, 5, 7, 9, 10] [o 10 .mv [i 1]])
         (sq (r [0, 3, 4, 5, 7, 9, 10] [o 46 .mv [t 7], o 47 .mv [t 10], o 48 (.call 15) [t 46, t 47], o 10 .mv [t 48]])
          (sq (sq (r [0, 3, 4, 5, 7, 9, 10, 50] [o 49 .mv [t 10], o 50 (.bin .lss) [t 49, i 0]])
            (.cond (t 50) (sq (r [2] [o 2 .mv [b false]])
              (.ret)) (.skip)))
           (sq (sq (r [0, 3, 4, 5, 7, 9, 53] [o 51 .mv [t 10], o 52 .mv [t 9], o 53 (.bin .neq) [t 51, t 52]])
             (.cond (t 53) (sq (r [2] [o 2 .mv [b false]])
               (.ret)) (.skip)))
            (sq (r [3, 4, 5, 7, 9, 11, 12, 13] [o 55 .mv [t 0], o 56 (.call 12) [t 55], o 54 .mv [t 56], o 57 (.ext 0) [t 54], o 58 (.ext 1) [t 54], o 59 (.ext 2) [t 54], o 11 .mv [t 57], o 12 .mv [t 58], o 13 .mv [t 59]])
             (sq (sq (r [7, 9, 73] [o 60 .mv [t 11], o 61 .mv [t 3], o 62 (.bin .neq) [t 60, t 61], o 63 .mv [t 62], g 63 false 64 .mv [t 12], g 63 false 65 .mv [t 4], g 63 false 66 (.call 13) [t 64, t 65], g 63 false 67 .not [t 66], o 68 .pick [t 63, b true, t 67], o 69 .mv [t 68], g 69 false 70 .mv [t 13], g 69 false 71 .mv [t 5], g 69 false 72 (.beq true) [t 70, t 71], o 73 .pick [t 69, b true, t 72]])
               (.cond (t 73) (sq (r [2] [o 2 .mv [b false]])
                 (.ret)) (.skip)))
              (sq (r [7, 9, 10] [o 10 .mv [i 1]])
               (sq (r [9, 10] [o 74 .mv [t 7], o 75 .mv [t 10], o 76 (.call 15) [t 74, t 75], o 10 .mv [t 76]])
                (sq (sq (r [9, 10, 78] [o 77 .mv [t 10], o 78 (.bin .lss) [t 77, i 0]])
                  (.cond (t 78) (sq (r [2] [o 2 .mv [b false]])
                    (.ret)) (.skip)))
                 (sq (sq (r [81] [o 79 .mv [t 10], o 80 .mv [t 9], o 81 (.bin .neq) [t 79, t 80]])
                   (.cond (t 81) (sq (r [2] [o 2 .mv [b false]])
                     (.ret)) (.skip)))
                  (sq (r [2] [o 2 .mv [b true]])
                   (.ret))))))))))))))))))
def r_laws_FnExactReadReport : List RV := [.tmp 2]
def laws_FnExactReadReport_f (L_spec_ReadReport : (List UInt8) → Option (List UInt8 × List TVerdict × Bool)) (L_impl_ReadReport : (List UInt8) → Option (List UInt8 × List TVerdict × Bool)) (L_laws_eqVerdictS : (List TVerdict) → (List TVerdict) → Option (Bool)) (L_laws_markVerdictS : (List TVerdict) → Int → Option (Int × List TVerdict)) (L_laws_heldVerdictS : (List TVerdict) → Int → Option (Int)) (N : Nat) (a0 : List UInt8) : Option (Bool) :=
  if 1048576 < (↑(List.length a0) : Int) then some true
  else ((L_spec_ReadReport a0).bind fun y0 =>
   (L_impl_ReadReport a0).bind fun y1 =>
   if y1.fst = y0.fst then ((L_laws_eqVerdictS y1.snd.fst y0.snd.fst).bind fun y2 =>
    if y2 = false then some false
    else (if (y1.snd.snd == y0.snd.snd) = false then some false
     else ((L_laws_markVerdictS y1.snd.fst 1).bind fun y3 =>
      (L_laws_heldVerdictS y3.snd 1).bind fun y4 =>
      if y4 < 0 then some false
      else (if y4 = y3.fst then ((L_impl_ReadReport a0).bind fun y5 =>
        if y5.fst = y0.fst then ((L_laws_eqVerdictS y5.snd.fst y0.snd.fst).bind fun y6 =>
         if y6 = false then some false
         else (if (y5.snd.snd == y0.snd.snd) = false then some false
          else ((L_laws_heldVerdictS y3.snd 1).bind fun y7 =>
           if y7 < 0 then some false
           else (if y7 = y3.fst then some true
            else some false))))
        else some false)
       else some false))))
   else some false)
theorem laws_FnExactReadReport_g (E : En) (hy : Hy E [] [] [] r_laws_FnExactReadReport none (fun y => nocap y) flatIds) (L_spec_ReadReport : (List UInt8) → Option (List UInt8 × List TVerdict × Bool)) (h_spec_ReadReport : H_spec_ReadReport E L_spec_ReadReport) (L_impl_ReadReport : (List UInt8) → Option (List UInt8 × List TVerdict × Bool)) (h_impl_ReadReport : H_impl_ReadReport E L_impl_ReadReport) (L_laws_eqVerdictS : (List TVerdict) → (List TVerdict) → Option (Bool)) (h_laws_eqVerdictS : H_laws_eqVerdictS E L_laws_eqVerdictS) (L_laws_markVerdictS : (List TVerdict) → Int → Option (Int × List TVerdict)) (h_laws_markVerdictS : H_laws_markVerdictS E L_laws_markVerdictS) (L_laws_heldVerdictS : (List TVerdict) → Int → Option (Int)) (h_laws_heldVerdictS : H_laws_heldVerdictS E L_laws_heldVerdictS) (a0 : List UInt8) : G E c_laws_FnExactReadReport [] ⟨slotsOf [(0, .d (sD a0))], obsOf []⟩ = (laws_FnExactReadReport_f L_spec_ReadReport L_impl_ReadReport L_laws_eqVerdictS L_laws_markVerdictS L_laws_heldVerdictS E.n a0).bind fun r => some (.ret (.d (.bool r)) []) := by
  simp (config := {maxSteps := 40000000}) only [↓rPre, rPost, rCan, rObj, rI, rS, rB, r8, rLI, rLit, rEtc, hy.p, hy.l, hy.k, hy.r, hy.d, hy.w, hy.f, flatIds, oid, r_laws_FnExactReadReport, ↓G_unf _ _ c_laws_FnExactReadReport.eq_1, h_spec_ReadReport.2, h_spec_ReadReport.1, h_impl_ReadReport.2, h_impl_ReadReport.1, h_laws_eqVerdictS.2, h_laws_eqVerdictS.1, h_laws_markVerdictS.2, h_laws_markVerdictS.1, h_laws_heldVerdictS.2, h_laws_heldVerdictS.1, bind_ite, laws_FnExactReadReport_f, rRow3, rVerdict, rRow51, rTest, rRow63, rRow9, rRow5, rMap83, rLog, ↓reduceIte, Nat.reduceMul, Nat.reduceAdd, Nat.reduceSub, Nat.reduceEqDiff, Nat.reduceBEq, Nat.reduceLeDiff, Nat.reduceLT, reduceCtorEq, Int.reduceAdd, Int.reduceSub, Int.reduceToNat, Int.reduceNeg, Int.reduceEq, Int.reduceLT, Int.reduceLE]
def H_laws_FnExactReadReport (E : En) (L : (List UInt8) → Option (Bool)) : Prop := E.Γ.mu 4 = false ∧ (∀ (a0 : List UInt8), E.Γ 4 [.d (sD a0)] = (L a0).bind fun r => some (.ret (.d (.bool r)) []))
end Go.Vm
