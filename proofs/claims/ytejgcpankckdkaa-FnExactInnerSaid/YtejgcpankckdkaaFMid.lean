/- The functions under spec_l2Two, spec_l2OpOk, impl_opOf, spec_l2Each, spec_l2Reduce, impl_fold, impl_cloned, slices_Concat___int_int_: the abstract machine's codes, and what they come to in plain terms. Printed by a program of this session. -/
import Derived.Test.YtejgcpankckdkaaFBas
set_option linter.all false
set_option maxRecDepth 100000
set_option maxHeartbeats 4000000
namespace Go.Vm
def rRow22 := rRow (cL cI) 22 1 rfl [.lst 0 []] [] rfl
-- loop.example/s02135/spec.l2In
def c_spec_l2In : Cd :=
  sq (r [0] [o 2 .mv [i 0], o 3 .mv [i 0]])
  (sq (sq (r [0, 9] [o 4 .mv [t 0], o 5 (.bin .lss) [t 4, i (-3000000000)], o 6 .mv [t 5], g 6 false 7 .mv [t 0], g 6 false 8 (.bin .gtr) [t 7, i 3000000000], o 9 .pick [t 6, b true, t 8]])
    (.cond (t 9) (sq (r [2, 3] [o 2 .mv [i 0], o 3 .mv [i 5]])
      (.ret)) (.skip)))
   (sq (r [2, 3] [o 10 .mv [t 0], o 2 .mv [t 10], o 3 .mv [i 0]])
    (.ret)))
def r_spec_l2In : List RV := [.tmp 2, .tmp 3]
def spec_l2In_f (N : Nat) (a0 : Int) : Option (Int × Int) :=
  if a0 < -3000000000 then some ((0, 5))
  else (if 3000000000 < a0 then some ((0, 5))
   else some ((a0, 0)))
theorem spec_l2In_g (E : En) (hp : E.ps = []) (hl : E.pl = []) (hk : E.ck = []) (hr : E.rs = r_spec_l2In) (hd : E.dd = none) (hw : ∀ y, E.wk y = some (nocap y)) (hfl : ∀ e, E.Γ.fl e = flatIds e) (a0 : Int) : G E c_spec_l2In [] ⟨slotsOf [(0, .d (.int .i64 a0))], obsOf []⟩ = (spec_l2In_f E.n a0).bind fun r => some (.ret (.tup [.d (.int .i64 r.1), .d (.int .i64 r.2)]) []) := by
  simp (config := {maxSteps := 2000000}) only [↓rPre, rPost, rCan, rObj, rI, rS, rB, r8, rLI, rEtc, hp, hl, hk, hr, hd, hw, hfl, flatIds, oid, r_spec_l2In, ↓G_unf _ _ c_spec_l2In.eq_1, bind_ite, spec_l2In_f, rRow3, rFile, rRow104, rRow62, rArray, rRow27, rRow5, rRow9, ↓reduceIte, Option.some_beq_some, Nat.reduceMul, Nat.reduceAdd, Nat.reduceSub, Nat.reduceEqDiff, Nat.reduceBEq, Nat.reduceLeDiff, Nat.reduceLT, Nat.zero_add, Nat.add_zero, Bool.not_true, Bool.not_false, Bool.and_true, Bool.true_and, Bool.and_false, Bool.false_and, Bool.and_self, Bool.or_false, Bool.false_or, Bool.or_true, Bool.true_or, Bool.or_self, decide_eq_true_eq, Bool.not_eq_true', Bool.not_eq_eq_eq_not, decide_eq_false_iff_not, ite_not, ite_self, List.nil_append, List.append_nil, Option.map_some, Option.map_none, List.length_replicate, Int.natCast_nonneg, and_self, and_true, true_and, Bool.false_eq_true, decide_true, decide_false, List.cons_append, reduceCtorEq, Int.reduceAdd, Int.reduceSub, Int.reduceToNat, Int.cast_ofNat_Int, Int.reduceNeg, Int.reduceEq, Int.reduceLT, Int.reduceLE, not_true_eq_false, not_false_eq_true, eq_self]
-- loop.example/s02135/spec.l2Floor
def c_spec_l2Floor : Cd :=
  sq (r [0, 1] [o 4 .mv [i 0]])
  (sq (r [0, 1, 5] [o 6 .mv [t 0], o 7 .mv [t 1], o 8 (.bin .quo) [t 6, t 7], o 5 .mv [t 8]])
   (sq (sq (r [5, 20] [o 9 .mv [t 5], o 10 .mv [t 1], o 11 (.bin .mul) [t 9, t 10], o 12 .mv [t 0], o 13 (.bin .neq) [t 11, t 12], o 14 .mv [t 13], g 14 true 15 .mv [t 0], g 14 true 16 (.bin .lss) [t 15, i 0], g 14 true 17 .mv [t 1], g 14 true 18 (.bin .lss) [t 17, i 0], g 14 true 19 (.beq true) [t 16, t 18], o 20 .pick [t 14, t 19, b false]])
     (.cond (t 20) (sq (r [4] [o 21 .mv [t 5], o 22 (.bin .sub) [t 21, i 1], o 4 .mv [t 22]])
       (.ret)) (.skip)))
    (sq (r [4] [o 23 .mv [t 5], o 4 .mv [t 23]])
     (.ret))))
def r_spec_l2Floor : List RV := [.tmp 4]
def spec_l2Floor_f (N : Nat) (a0 : Int) (a1 : Int) : Option (Int) :=
  if a1 = 0 then none
  else (if w64 (w64 (Int.tdiv a0 a1) * a1) = a0 then some (w64 (Int.tdiv a0 a1))
   else (if (Decidable.decide (a0 < 0) == Decidable.decide (a1 < 0)) = false then some (w64 (w64 (Int.tdiv a0 a1) - 1))
    else some (w64 (Int.tdiv a0 a1))))
theorem spec_l2Floor_g (E : En) (hp : E.ps = []) (hl : E.pl = []) (hk : E.ck = []) (hr : E.rs = r_spec_l2Floor) (hd : E.dd = none) (hw : ∀ y, E.wk y = some (nocap y)) (hfl : ∀ e, E.Γ.fl e = flatIds e) (a0 : Int) (a1 : Int) : G E c_spec_l2Floor [] ⟨slotsOf [(0, .d (.int .i64 a0)), (1, .d (.int .i64 a1))], obsOf []⟩ = (spec_l2Floor_f E.n a0 a1).bind fun r => some (.ret (.d (.int .i64 r)) []) := by
  simp (config := {maxSteps := 2000000}) only [↓rPre, rPost, rCan, rObj, rI, rS, rB, r8, rLI, rEtc, hp, hl, hk, hr, hd, hw, hfl, flatIds, oid, r_spec_l2Floor, ↓G_unf _ _ c_spec_l2Floor.eq_1, bind_ite, spec_l2Floor_f, rRow3, rFile, rRow104, rRow62, rArray, rRow27, rRow5, rRow9, ↓reduceIte, Option.some_beq_some, Nat.reduceMul, Nat.reduceAdd, Nat.reduceSub, Nat.reduceEqDiff, Nat.reduceBEq, Nat.reduceLeDiff, Nat.reduceLT, Nat.zero_add, Nat.add_zero, Bool.not_true, Bool.not_false, Bool.and_true, Bool.true_and, Bool.and_false, Bool.false_and, Bool.and_self, Bool.or_false, Bool.false_or, Bool.or_true, Bool.true_or, Bool.or_self, decide_eq_true_eq, Bool.not_eq_true', Bool.not_eq_eq_eq_not, decide_eq_false_iff_not, ite_not, ite_self, List.nil_append, List.append_nil, Option.map_some, Option.map_none, List.length_replicate, Int.natCast_nonneg, and_self, and_true, true_and, Bool.false_eq_true, decide_true, decide_false, List.cons_append, reduceCtorEq, Int.reduceAdd, Int.reduceSub, Int.reduceToNat, Int.cast_ofNat_Int, Int.reduceNeg, Int.reduceEq, Int.reduceLT, Int.reduceLE, not_true_eq_false, not_false_eq_true, eq_self]
-- loop.example/s02135/spec.l2Bool
def c_spec_l2Bool : Cd :=
  sq (r [0] [o 2 .mv [i 0]])
  (sq (sq (r [3] [o 3 .mv [t 0]])
    (.cond (t 3) (sq (r [2] [o 2 .mv [i 1]])
      (.ret)) (.skip)))
   (sq (r [2] [o 2 .mv [i 0]])
    (.ret)))
def r_spec_l2Bool : List RV := [.tmp 2]
def spec_l2Bool_f (N : Nat) (a0 : Bool) : Option (Int) :=
  if a0 = true then some 1
  else some 0
theorem spec_l2Bool_g (E : En) (hp : E.ps = []) (hl : E.pl = []) (hk : E.ck = []) (hr : E.rs = r_spec_l2Bool) (hd : E.dd = none) (hw : ∀ y, E.wk y = some (nocap y)) (hfl : ∀ e, E.Γ.fl e = flatIds e) (a0 : Bool) : G E c_spec_l2Bool [] ⟨slotsOf [(0, .d (.bool a0))], obsOf []⟩ = (spec_l2Bool_f E.n a0).bind fun r => some (.ret (.d (.int .i64 r)) []) := by
  simp (config := {maxSteps := 2000000}) only [↓rPre, rPost, rCan, rObj, rI, rS, rB, r8, rLI, rEtc, hp, hl, hk, hr, hd, hw, hfl, flatIds, oid, r_spec_l2Bool, ↓G_unf _ _ c_spec_l2Bool.eq_1, bind_ite, spec_l2Bool_f, rRow3, rFile, rRow104, rRow62, rArray, rRow27, rRow5, rRow9, ↓reduceIte, Option.some_beq_some, Nat.reduceMul, Nat.reduceAdd, Nat.reduceSub, Nat.reduceEqDiff, Nat.reduceBEq, Nat.reduceLeDiff, Nat.reduceLT, Nat.zero_add, Nat.add_zero, Bool.not_true, Bool.not_false, Bool.and_true, Bool.true_and, Bool.and_false, Bool.false_and, Bool.and_self, Bool.or_false, Bool.false_or, Bool.or_true, Bool.true_or, Bool.or_self, decide_eq_true_eq, Bool.not_eq_true', Bool.not_eq_eq_eq_not, decide_eq_false_iff_not, ite_not, ite_self, List.nil_append, List.append_nil, Option.map_some, Option.map_none, List.length_replicate, Int.natCast_nonneg, and_self, and_true, true_and, Bool.false_eq_true, decide_true, decide_false, List.cons_append, reduceCtorEq, Int.reduceAdd, Int.reduceSub, Int.reduceToNat, Int.cast_ofNat_Int, Int.reduceNeg, Int.reduceEq, Int.reduceLT, Int.reduceLE, not_true_eq_false, not_false_eq_true, eq_self]
-- loop.example/s02135/spec.l2Two
def c_spec_l2Two : Cd :=
  sq (r [0, 1, 2] [o 6 .mv [i 0], o 7 .mv [i 0]])
  (sq (sq (r [0, 1, 2, 9] [o 8 .mv [t 0], o 9 (.bin .eql) [t 8, i 1]])
    (.cond (t 9) (sq (r [6, 7] [o 10 .mv [t 1], o 11 .mv [t 2], o 12 (.bin .add) [t 10, t 11], o 13 (.call 129) [t 12], o 14 (.ext 0) [t 13], o 15 (.ext 1) [t 13], o 6 .mv [t 14], o 7 .mv [t 15]])
      (.ret)) (.skip)))
   (sq (sq (r [0, 1, 2, 17] [o 16 .mv [t 0], o 17 (.bin .eql) [t 16, i 2]])
     (.cond (t 17) (sq (r [6, 7] [o 18 .mv [t 1], o 19 .mv [t 2], o 20 (.bin .sub) [t 18, t 19], o 21 (.call 129) [t 20], o 22 (.ext 0) [t 21], o 23 (.ext 1) [t 21], o 6 .mv [t 22], o 7 .mv [t 23]])
       (.ret)) (.skip)))
    (sq (sq (r [0, 1, 2, 25] [o 24 .mv [t 0], o 25 (.bin .eql) [t 24, i 3]])
      (.cond (t 25) (sq (r [6, 7] [o 26 .mv [t 1], o 27 .mv [t 2], o 28 (.bin .mul) [t 26, t 27], o 29 (.call 129) [t 28], o 30 (.ext 0) [t 29], o 31 (.ext 1) [t 29], o 6 .mv [t 30], o 7 .mv [t 31]])
        (.ret)) (.skip)))
     (sq (sq (r [0, 1, 2, 33] [o 32 .mv [t 0], o 33 (.bin .eql) [t 32, i 4]])
       (.cond (t 33) (sq (sq (r [1, 2, 35] [o 34 .mv [t 2], o 35 (.bin .eql) [t 34, i 0]])
          (.cond (t 35) (sq (r [6, 7] [o 6 .mv [i 0], o 7 .mv [i 1]])
            (.ret)) (.skip)))
         (sq (r [6, 7] [o 36 .mv [t 1], o 37 .mv [t 2], o 38 (.call 130) [t 36, t 37], o 39 (.call 129) [t 38], o 40 (.ext 0) [t 39], o 41 (.ext 1) [t 39], o 6 .mv [t 40], o 7 .mv [t 41]])
          (.ret))) (.skip)))
      (sq (sq (r [0, 1, 2, 43] [o 42 .mv [t 0], o 43 (.bin .eql) [t 42, i 5]])
        (.cond (t 43) (sq (sq (r [1, 2, 45] [o 44 .mv [t 2], o 45 (.bin .eql) [t 44, i 0]])
           (.cond (t 45) (sq (r [6, 7] [o 46 .mv [t 1], o 6 .mv [t 46], o 7 .mv [i 0]])
             (.ret)) (.skip)))
          (sq (r [6, 7] [o 47 .mv [t 1], o 48 .mv [t 2], o 49 .mv [t 1], o 50 .mv [t 2], o 51 (.call 130) [t 49, t 50], o 52 (.bin .mul) [t 48, t 51], o 53 (.bin .sub) [t 47, t 52], o 54 (.call 129) [t 53], o 55 (.ext 0) [t 54], o 56 (.ext 1) [t 54], o 6 .mv [t 55], o 7 .mv [t 56]])
           (.ret))) (.skip)))
       (sq (sq (r [0, 1, 2, 58] [o 57 .mv [t 0], o 58 (.bin .eql) [t 57, i 8]])
         (.cond (t 58) (sq (r [6, 7] [o 59 .mv [t 1], o 60 .mv [t 2], o 61 (.bin .lss) [t 59, t 60], o 62 (.call 107) [t 61], o 6 .mv [t 62], o 7 .mv [i 0]])
           (.ret)) (.skip)))
        (sq (sq (r [0, 1, 2, 64] [o 63 .mv [t 0], o 64 (.bin .eql) [t 63, i 9]])
          (.cond (t 64) (sq (r [6, 7] [o 65 .mv [t 1], o 66 .mv [t 2], o 67 (.bin .eql) [t 65, t 66], o 68 (.call 107) [t 67], o 6 .mv [t 68], o 7 .mv [i 0]])
            (.ret)) (.skip)))
         (sq (sq (r [0, 1, 2, 70] [o 69 .mv [t 0], o 70 (.bin .eql) [t 69, i 10]])
           (.cond (t 70) (sq (r [6, 7] [o 71 .mv [t 1], o 72 .mv [t 2], o 73 (.bin .gtr) [t 71, t 72], o 74 (.call 107) [t 73], o 6 .mv [t 74], o 7 .mv [i 0]])
             (.ret)) (.skip)))
          (sq (sq (r [1, 2, 80] [o 75 .mv [t 0], o 76 (.bin .eql) [t 75, i 6], o 77 .mv [t 1], o 78 .mv [t 2], o 79 (.bin .lss) [t 77, t 78], o 80 (.beq false) [t 76, t 79]])
            (.cond (t 80) (sq (r [6, 7] [o 81 .mv [t 1], o 6 .mv [t 81], o 7 .mv [i 0]])
              (.ret)) (.skip)))
           (sq (r [6, 7] [o 82 .mv [t 2], o 6 .mv [t 82], o 7 .mv [i 0]])
            (.ret)))))))))))
def r_spec_l2Two : List RV := [.tmp 6, .tmp 7]
def spec_l2Two_f (L_spec_l2In : Int → Option (Int × Int)) (L_spec_l2Floor : Int → Int → Option (Int)) (L_spec_l2Bool : Bool → Option (Int)) (N : Nat) (a0 : Int) (a1 : Int) (a2 : Int) : Option (Int × Int) :=
  if a0 = 1 then ((L_spec_l2In (w64 (a1 + a2))).bind fun y0 =>
   some ((y0.fst, y0.snd)))
  else (if a0 = 2 then ((L_spec_l2In (w64 (a1 - a2))).bind fun y1 =>
    some ((y1.fst, y1.snd)))
   else (if a0 = 3 then ((L_spec_l2In (w64 (a1 * a2))).bind fun y2 =>
     some ((y2.fst, y2.snd)))
    else (if a0 = 4 then (if a2 = 0 then some ((0, 1))
      else ((L_spec_l2Floor a1 a2).bind fun y3 =>
       (L_spec_l2In y3).bind fun y4 =>
       some ((y4.fst, y4.snd))))
     else (if a0 = 5 then (if a2 = 0 then some ((a1, 0))
       else ((L_spec_l2Floor a1 a2).bind fun y5 =>
        (L_spec_l2In (w64 (a1 - w64 (a2 * y5)))).bind fun y6 =>
        some ((y6.fst, y6.snd))))
      else (if a0 = 8 then ((L_spec_l2Bool (Decidable.decide (a1 < a2))).bind fun y7 =>
        some ((y7, 0)))
       else (if a0 = 9 then ((L_spec_l2Bool (Decidable.decide (a1 = a2))).bind fun y8 =>
         some ((y8, 0)))
        else (if a0 = 10 then ((L_spec_l2Bool (Decidable.decide (a2 < a1))).bind fun y9 =>
          some ((y9, 0)))
         else (if (Decidable.decide (a0 = 6) == Decidable.decide (a1 < a2)) = true then some ((a1, 0))
          else some ((a2, 0))))))))))
theorem spec_l2Two_g (E : En) (hp : E.ps = []) (hl : E.pl = []) (hk : E.ck = []) (hr : E.rs = r_spec_l2Two) (hd : E.dd = none) (hw : ∀ y, E.wk y = some (nocap y)) (hfl : ∀ e, E.Γ.fl e = flatIds e) (m_spec_l2In : E.Γ.mu 129 = false) (L_spec_l2In : Int → Option (Int × Int)) (h_spec_l2In : ∀ (a0 : Int), E.Γ 129 [.d (.int .i64 a0)] = (L_spec_l2In a0).bind fun r => some (.ret (.tup [.d (.int .i64 r.1), .d (.int .i64 r.2)]) [])) (m_spec_l2Floor : E.Γ.mu 130 = false) (L_spec_l2Floor : Int → Int → Option (Int)) (h_spec_l2Floor : ∀ (a0 : Int) (a1 : Int), E.Γ 130 [.d (.int .i64 a0), .d (.int .i64 a1)] = (L_spec_l2Floor a0 a1).bind fun r => some (.ret (.d (.int .i64 r)) [])) (m_spec_l2Bool : E.Γ.mu 107 = false) (L_spec_l2Bool : Bool → Option (Int)) (h_spec_l2Bool : ∀ (a0 : Bool), E.Γ 107 [.d (.bool a0)] = (L_spec_l2Bool a0).bind fun r => some (.ret (.d (.int .i64 r)) [])) (a0 : Int) (a1 : Int) (a2 : Int) : G E c_spec_l2Two [] ⟨slotsOf [(0, .d (.int .i64 a0)), (1, .d (.int .i64 a1)), (2, .d (.int .i64 a2))], obsOf []⟩ = (spec_l2Two_f L_spec_l2In L_spec_l2Floor L_spec_l2Bool E.n a0 a1 a2).bind fun r => some (.ret (.tup [.d (.int .i64 r.1), .d (.int .i64 r.2)]) []) := by
  simp (config := {maxSteps := 2000000}) only [↓rPre, rPost, rCan, rObj, rI, rS, rB, r8, rLI, rEtc, hp, hl, hk, hr, hd, hw, hfl, flatIds, oid, r_spec_l2Two, ↓G_unf _ _ c_spec_l2Two.eq_1, h_spec_l2In, m_spec_l2In, h_spec_l2Floor, m_spec_l2Floor, h_spec_l2Bool, m_spec_l2Bool, bind_ite, spec_l2Two_f, rRow3, rFile, rRow104, rRow62, rArray, rRow27, rRow5, rRow9, ↓reduceIte, Option.some_beq_some, Nat.reduceMul, Nat.reduceAdd, Nat.reduceSub, Nat.reduceEqDiff, Nat.reduceBEq, Nat.reduceLeDiff, Nat.reduceLT, Nat.zero_add, Nat.add_zero, Bool.not_true, Bool.not_false, Bool.and_true, Bool.true_and, Bool.and_false, Bool.false_and, Bool.and_self, Bool.or_false, Bool.false_or, Bool.or_true, Bool.true_or, Bool.or_self, decide_eq_true_eq, Bool.not_eq_true', Bool.not_eq_eq_eq_not, decide_eq_false_iff_not, ite_not, ite_self, List.nil_append, List.append_nil, Option.map_some, Option.map_none, List.length_replicate, Int.natCast_nonneg, and_self, and_true, true_and, Bool.false_eq_true, decide_true, decide_false, List.cons_append, reduceCtorEq, Int.reduceAdd, Int.reduceSub, Int.reduceToNat, Int.cast_ofNat_Int, Int.reduceNeg, Int.reduceEq, Int.reduceLT, Int.reduceLE, not_true_eq_false, not_false_eq_true, eq_self]
-- loop.example/s02135/spec.l2OpOk
def c_spec_l2OpOk : Cd :=
  sq (r [0] [o 2 .mv [b false]])
  (sq (r [2] [o 3 .mv [t 0], o 4 (.bin .geq) [t 3, i 1], o 5 .mv [t 4], g 5 true 6 .mv [t 0], g 5 true 7 (.bin .leq) [t 6, i 10], o 8 .pick [t 5, t 7, b false], o 2 .mv [t 8]])
   (.ret))
def r_spec_l2OpOk : List RV := [.tmp 2]
def spec_l2OpOk_f (N : Nat) (a0 : Int) : Option (Bool) :=
  if 1 ≤ a0 then some (Decidable.decide (a0 ≤ 10))
  else some false
theorem spec_l2OpOk_g (E : En) (hp : E.ps = []) (hl : E.pl = []) (hk : E.ck = []) (hr : E.rs = r_spec_l2OpOk) (hd : E.dd = none) (hw : ∀ y, E.wk y = some (nocap y)) (hfl : ∀ e, E.Γ.fl e = flatIds e) (a0 : Int) : G E c_spec_l2OpOk [] ⟨slotsOf [(0, .d (.int .i64 a0))], obsOf []⟩ = (spec_l2OpOk_f E.n a0).bind fun r => some (.ret (.d (.bool r)) []) := by
  simp (config := {maxSteps := 2000000}) only [↓rPre, rPost, rCan, rObj, rI, rS, rB, r8, rLI, rEtc, hp, hl, hk, hr, hd, hw, hfl, flatIds, oid, r_spec_l2OpOk, ↓G_unf _ _ c_spec_l2OpOk.eq_1, bind_ite, spec_l2OpOk_f, rRow3, rFile, rRow104, rRow62, rArray, rRow27, rRow5, rRow9, ↓reduceIte, Option.some_beq_some, Nat.reduceMul, Nat.reduceAdd, Nat.reduceSub, Nat.reduceEqDiff, Nat.reduceBEq, Nat.reduceLeDiff, Nat.reduceLT, Nat.zero_add, Nat.add_zero, Bool.not_true, Bool.not_false, Bool.and_true, Bool.true_and, Bool.and_false, Bool.false_and, Bool.and_self, Bool.or_false, Bool.false_or, Bool.or_true, Bool.true_or, Bool.or_self, decide_eq_true_eq, Bool.not_eq_true', Bool.not_eq_eq_eq_not, decide_eq_false_iff_not, ite_not, ite_self, List.nil_append, List.append_nil, Option.map_some, Option.map_none, List.length_replicate, Int.natCast_nonneg, and_self, and_true, true_and, Bool.false_eq_true, decide_true, decide_false, List.cons_append, reduceCtorEq, Int.reduceAdd, Int.reduceSub, Int.reduceToNat, Int.cast_ofNat_Int, Int.reduceNeg, Int.reduceEq, Int.reduceLT, Int.reduceLE, not_true_eq_false, not_false_eq_true, eq_self]
-- loop.example/s02135/impl.inRange
def c_impl_inRange : Cd :=
  sq (r [0] [o 2 .mv [i 0]])
  (sq (sq (r [0, 8] [o 3 .mv [t 0], o 4 (.bin .lss) [t 3, i (-3000000000)], o 5 .mv [t 4], g 5 false 6 .mv [t 0], g 5 false 7 (.bin .gtr) [t 6, i 3000000000], o 8 .pick [t 5, b true, t 7]])
    (.cond (t 8) (r [0] [o 9 (.bld [(.d (iD 0))] [(0, 1)]) [i 5], o 10 (.mkI 70) [t 9], e .pan [t 10]]) (.skip)))
   (sq (r [2] [o 11 .mv [t 0], o 2 .mv [t 11]])
    (.ret)))
def r_impl_inRange : List RV := [.tmp 2]
def impl_inRange_f (N : Nat) (a0 : Int) : Option (Res (Int)) :=
  if a0 < -3000000000 then some (.pan (D.ifaceS 70 [D.int .i64 5]))
  else (if 3000000000 < a0 then some (.pan (D.ifaceS 70 [D.int .i64 5]))
   else some (.ok a0))
theorem impl_inRange_g (E : En) (hp : E.ps = []) (hl : E.pl = []) (hk : E.ck = []) (hr : E.rs = r_impl_inRange) (hd : E.dd = none) (hw : ∀ y, E.wk y = some (nocap y)) (hfl : ∀ e, E.Γ.fl e = flatIds e) (a0 : Int) : G E c_impl_inRange [] ⟨slotsOf [(0, .d (.int .i64 a0))], obsOf []⟩ = (impl_inRange_f E.n a0).bind fun r => r.on (fun r => some (.ret (.d (.int .i64 r)) [])) (fun x => some (.pan x [])) := by
  simp (config := {maxSteps := 2000000}) only [↓rPre, rPost, rCan, rObj, rI, rS, rB, r8, rLI, rEtc, hp, hl, hk, hr, hd, hw, hfl, flatIds, oid, r_impl_inRange, ↓G_unf _ _ c_impl_inRange.eq_1, bind_ite, impl_inRange_f, rRow3, rFile, rRow104, rRow62, rArray, rRow27, rRow5, rRow9, ↓reduceIte, Option.some_beq_some, Nat.reduceMul, Nat.reduceAdd, Nat.reduceSub, Nat.reduceEqDiff, Nat.reduceBEq, Nat.reduceLeDiff, Nat.reduceLT, Nat.zero_add, Nat.add_zero, Bool.not_true, Bool.not_false, Bool.and_true, Bool.true_and, Bool.and_false, Bool.false_and, Bool.and_self, Bool.or_false, Bool.false_or, Bool.or_true, Bool.true_or, Bool.or_self, decide_eq_true_eq, Bool.not_eq_true', Bool.not_eq_eq_eq_not, decide_eq_false_iff_not, ite_not, ite_self, List.nil_append, List.append_nil, Option.map_some, Option.map_none, List.length_replicate, Int.natCast_nonneg, and_self, and_true, true_and, Bool.false_eq_true, decide_true, decide_false, List.cons_append, reduceCtorEq, Int.reduceAdd, Int.reduceSub, Int.reduceToNat, Int.cast_ofNat_Int, Int.reduceNeg, Int.reduceEq, Int.reduceLT, Int.reduceLE, not_true_eq_false, not_false_eq_true, eq_self]
-- loop.example/s02135/impl.cellOps$1
def c_impl_cellOps_1 : Cd :=
  sq (r [0, 1] [o 4 .mv [i 0]])
  (sq (r [4] [o 5 .mv [t 0], o 6 .mv [t 1], o 7 (.bin .add) [t 5, t 6], o 8 (.call 151) [t 7], o 4 .mv [t 8]])
   (.ret))
def r_impl_cellOps_1 : List RV := [.tmp 4]
def impl_cellOps_1_f (L_impl_inRange : Int → Option (Res (Int))) (N : Nat) (a0 : Int) (a1 : Int) : Option (Res (Int)) :=
  (L_impl_inRange (w64 (a0 + a1))).bind fun y0 =>
  (y0).on (fun y1 => some (.ok y1)) (fun y1 => some (.pan (y1)))
theorem impl_cellOps_1_g (E : En) (hp : E.ps = []) (hl : E.pl = []) (hk : E.ck = []) (hr : E.rs = r_impl_cellOps_1) (hd : E.dd = none) (hw : ∀ y, E.wk y = some (nocap y)) (hfl : ∀ e, E.Γ.fl e = flatIds e) (m_impl_inRange : E.Γ.mu 151 = false) (L_impl_inRange : Int → Option (Res (Int))) (h_impl_inRange : ∀ (a0 : Int), E.Γ 151 [.d (.int .i64 a0)] = (L_impl_inRange a0).bind fun r => r.on (fun r => some (.ret (.d (.int .i64 r)) [])) (fun x => some (.pan x []))) (a0 : Int) (a1 : Int) : G E c_impl_cellOps_1 [] ⟨slotsOf [(0, .d (.int .i64 a0)), (1, .d (.int .i64 a1))], obsOf []⟩ = (impl_cellOps_1_f L_impl_inRange E.n a0 a1).bind fun r => r.on (fun r => some (.ret (.d (.int .i64 r)) [])) (fun x => some (.pan x [])) := by
  simp (config := {maxSteps := 2000000}) only [↓rPre, rPost, rCan, rObj, rI, rS, rB, r8, rLI, rEtc, hp, hl, hk, hr, hd, hw, hfl, flatIds, oid, r_impl_cellOps_1, ↓G_unf _ _ c_impl_cellOps_1.eq_1, h_impl_inRange, m_impl_inRange, bind_ite, impl_cellOps_1_f, rRow3, rFile, rRow104, rRow62, rArray, rRow27, rRow5, rRow9, ↓reduceIte, Option.some_beq_some, Nat.reduceMul, Nat.reduceAdd, Nat.reduceSub, Nat.reduceEqDiff, Nat.reduceBEq, Nat.reduceLeDiff, Nat.reduceLT, Nat.zero_add, Nat.add_zero, Bool.not_true, Bool.not_false, Bool.and_true, Bool.true_and, Bool.and_false, Bool.false_and, Bool.and_self, Bool.or_false, Bool.false_or, Bool.or_true, Bool.true_or, Bool.or_self, decide_eq_true_eq, Bool.not_eq_true', Bool.not_eq_eq_eq_not, decide_eq_false_iff_not, ite_not, ite_self, List.nil_append, List.append_nil, Option.map_some, Option.map_none, List.length_replicate, Int.natCast_nonneg, and_self, and_true, true_and, Bool.false_eq_true, decide_true, decide_false, List.cons_append, reduceCtorEq, Int.reduceAdd, Int.reduceSub, Int.reduceToNat, Int.cast_ofNat_Int, Int.reduceNeg, Int.reduceEq, Int.reduceLT, Int.reduceLE, not_true_eq_false, not_false_eq_true, eq_self]
-- loop.example/s02135/impl.cellOps$2
def c_impl_cellOps_2 : Cd :=
  sq (r [0, 1] [o 4 .mv [i 0]])
  (sq (r [4] [o 5 .mv [t 0], o 6 .mv [t 1], o 7 (.bin .sub) [t 5, t 6], o 8 (.call 151) [t 7], o 4 .mv [t 8]])
   (.ret))
def r_impl_cellOps_2 : List RV := [.tmp 4]
def impl_cellOps_2_f (L_impl_inRange : Int → Option (Res (Int))) (N : Nat) (a0 : Int) (a1 : Int) : Option (Res (Int)) :=
  (L_impl_inRange (w64 (a0 - a1))).bind fun y0 =>
  (y0).on (fun y1 => some (.ok y1)) (fun y1 => some (.pan (y1)))
theorem impl_cellOps_2_g (E : En) (hp : E.ps = []) (hl : E.pl = []) (hk : E.ck = []) (hr : E.rs = r_impl_cellOps_2) (hd : E.dd = none) (hw : ∀ y, E.wk y = some (nocap y)) (hfl : ∀ e, E.Γ.fl e = flatIds e) (m_impl_inRange : E.Γ.mu 151 = false) (L_impl_inRange : Int → Option (Res (Int))) (h_impl_inRange : ∀ (a0 : Int), E.Γ 151 [.d (.int .i64 a0)] = (L_impl_inRange a0).bind fun r => r.on (fun r => some (.ret (.d (.int .i64 r)) [])) (fun x => some (.pan x []))) (a0 : Int) (a1 : Int) : G E c_impl_cellOps_2 [] ⟨slotsOf [(0, .d (.int .i64 a0)), (1, .d (.int .i64 a1))], obsOf []⟩ = (impl_cellOps_2_f L_impl_inRange E.n a0 a1).bind fun r => r.on (fun r => some (.ret (.d (.int .i64 r)) [])) (fun x => some (.pan x [])) := by
  simp (config := {maxSteps := 2000000}) only [↓rPre, rPost, rCan, rObj, rI, rS, rB, r8, rLI, rEtc, hp, hl, hk, hr, hd, hw, hfl, flatIds, oid, r_impl_cellOps_2, ↓G_unf _ _ c_impl_cellOps_2.eq_1, h_impl_inRange, m_impl_inRange, bind_ite, impl_cellOps_2_f, rRow3, rFile, rRow104, rRow62, rArray, rRow27, rRow5, rRow9, ↓reduceIte, Option.some_beq_some, Nat.reduceMul, Nat.reduceAdd, Nat.reduceSub, Nat.reduceEqDiff, Nat.reduceBEq, Nat.reduceLeDiff, Nat.reduceLT, Nat.zero_add, Nat.add_zero, Bool.not_true, Bool.not_false, Bool.and_true, Bool.true_and, Bool.and_false, Bool.false_and, Bool.and_self, Bool.or_false, Bool.false_or, Bool.or_true, Bool.true_or, Bool.or_self, decide_eq_true_eq, Bool.not_eq_true', Bool.not_eq_eq_eq_not, decide_eq_false_iff_not, ite_not, ite_self, List.nil_append, List.append_nil, Option.map_some, Option.map_none, List.length_replicate, Int.natCast_nonneg, and_self, and_true, true_and, Bool.false_eq_true, decide_true, decide_false, List.cons_append, reduceCtorEq, Int.reduceAdd, Int.reduceSub, Int.reduceToNat, Int.cast_ofNat_Int, Int.reduceNeg, Int.reduceEq, Int.reduceLT, Int.reduceLE, not_true_eq_false, not_false_eq_true, eq_self]
-- loop.example/s02135/impl.cellOps$3
def c_impl_cellOps_3 : Cd :=
  sq (r [0, 1] [o 4 .mv [i 0]])
  (sq (r [4] [o 5 .mv [t 0], o 6 .mv [t 1], o 7 (.bin .mul) [t 5, t 6], o 8 (.call 151) [t 7], o 4 .mv [t 8]])
   (.ret))
def r_impl_cellOps_3 : List RV := [.tmp 4]
def impl_cellOps_3_f (L_impl_inRange : Int → Option (Res (Int))) (N : Nat) (a0 : Int) (a1 : Int) : Option (Res (Int)) :=
  (L_impl_inRange (w64 (a0 * a1))).bind fun y0 =>
  (y0).on (fun y1 => some (.ok y1)) (fun y1 => some (.pan (y1)))
theorem impl_cellOps_3_g (E : En) (hp : E.ps = []) (hl : E.pl = []) (hk : E.ck = []) (hr : E.rs = r_impl_cellOps_3) (hd : E.dd = none) (hw : ∀ y, E.wk y = some (nocap y)) (hfl : ∀ e, E.Γ.fl e = flatIds e) (m_impl_inRange : E.Γ.mu 151 = false) (L_impl_inRange : Int → Option (Res (Int))) (h_impl_inRange : ∀ (a0 : Int), E.Γ 151 [.d (.int .i64 a0)] = (L_impl_inRange a0).bind fun r => r.on (fun r => some (.ret (.d (.int .i64 r)) [])) (fun x => some (.pan x []))) (a0 : Int) (a1 : Int) : G E c_impl_cellOps_3 [] ⟨slotsOf [(0, .d (.int .i64 a0)), (1, .d (.int .i64 a1))], obsOf []⟩ = (impl_cellOps_3_f L_impl_inRange E.n a0 a1).bind fun r => r.on (fun r => some (.ret (.d (.int .i64 r)) [])) (fun x => some (.pan x [])) := by
  simp (config := {maxSteps := 2000000}) only [↓rPre, rPost, rCan, rObj, rI, rS, rB, r8, rLI, rEtc, hp, hl, hk, hr, hd, hw, hfl, flatIds, oid, r_impl_cellOps_3, ↓G_unf _ _ c_impl_cellOps_3.eq_1, h_impl_inRange, m_impl_inRange, bind_ite, impl_cellOps_3_f, rRow3, rFile, rRow104, rRow62, rArray, rRow27, rRow5, rRow9, ↓reduceIte, Option.some_beq_some, Nat.reduceMul, Nat.reduceAdd, Nat.reduceSub, Nat.reduceEqDiff, Nat.reduceBEq, Nat.reduceLeDiff, Nat.reduceLT, Nat.zero_add, Nat.add_zero, Bool.not_true, Bool.not_false, Bool.and_true, Bool.true_and, Bool.and_false, Bool.false_and, Bool.and_self, Bool.or_false, Bool.false_or, Bool.or_true, Bool.true_or, Bool.or_self, decide_eq_true_eq, Bool.not_eq_true', Bool.not_eq_eq_eq_not, decide_eq_false_iff_not, ite_not, ite_self, List.nil_append, List.append_nil, Option.map_some, Option.map_none, List.length_replicate, Int.natCast_nonneg, and_self, and_true, true_and, Bool.false_eq_true, decide_true, decide_false, List.cons_append, reduceCtorEq, Int.reduceAdd, Int.reduceSub, Int.reduceToNat, Int.cast_ofNat_Int, Int.reduceNeg, Int.reduceEq, Int.reduceLT, Int.reduceLE, not_true_eq_false, not_false_eq_true, eq_self]
-- loop.example/s02135/impl.floorDiv
def c_impl_floorDiv : Cd :=
  sq (r [0, 1] [o 4 .mv [i 0]])
  (sq (sq (r [0, 1, 8] [o 7 .mv [t 1], o 8 (.bin .eql) [t 7, i 0]])
    (.cond (t 8) (r [0, 1] [o 9 (.bld [(.d (iD 0))] [(0, 1)]) [i 1], o 10 (.mkI 70) [t 9], e .pan [t 10]]) (.skip)))
   (sq (rd [] [1, 5, 6] [o 11 .mv [t 0], o 12 .mv [t 1], o 13 (.bin .quo) [t 11, t 12], o 14 .mv [t 0], o 15 .mv [t 1], o 16 (.bin .rem) [t 14, t 15], o 5 .mv [t 13], o 6 .mv [t 16]])
    (sq (sq (r [5, 25] [o 17 .mv [t 6], o 18 (.bin .neq) [t 17, i 0], o 19 .mv [t 18], g 19 true 20 .mv [t 6], g 19 true 21 (.bin .lss) [t 20, i 0], g 19 true 22 .mv [t 1], g 19 true 23 (.bin .lss) [t 22, i 0], g 19 true 24 (.beq true) [t 21, t 23], o 25 .pick [t 19, t 24, b false]])
      (.cond (t 25) (r [5] [o 26 .mv [t 5], o 27 (.bin .sub) [t 26, i 1], o 5 .mv [t 27]]) (.skip)))
     (sq (r [4] [o 28 .mv [t 5], o 4 .mv [t 28]])
      (.ret)))))
def r_impl_floorDiv : List RV := [.tmp 4]
def impl_floorDiv_f (N : Nat) (a0 : Int) (a1 : Int) : Option (Res (Int)) :=
  if a1 = 0 then some (.pan (D.ifaceS 70 [D.int .i64 1]))
  else (if a1 = 0 then none
   else (if a1 = 0 then none
    else (if Int.tmod a0 a1 = 0 then some (.ok (w64 (Int.tdiv a0 a1)))
     else (if (Decidable.decide (Int.tmod a0 a1 < 0) == Decidable.decide (a1 < 0)) = false then some (.ok (w64 (w64 (Int.tdiv a0 a1) - 1)))
      else some (.ok (w64 (Int.tdiv a0 a1)))))))
theorem impl_floorDiv_g (E : En) (hp : E.ps = []) (hl : E.pl = []) (hk : E.ck = []) (hr : E.rs = r_impl_floorDiv) (hd : E.dd = none) (hw : ∀ y, E.wk y = some (nocap y)) (hfl : ∀ e, E.Γ.fl e = flatIds e) (a0 : Int) (a1 : Int) : G E c_impl_floorDiv [] ⟨slotsOf [(0, .d (.int .i64 a0)), (1, .d (.int .i64 a1))], obsOf []⟩ = (impl_floorDiv_f E.n a0 a1).bind fun r => r.on (fun r => some (.ret (.d (.int .i64 r)) [])) (fun x => some (.pan x [])) := by
  simp (config := {maxSteps := 2000000}) only [↓rPre, rPost, rCan, rObj, rI, rS, rB, r8, rLI, rEtc, hp, hl, hk, hr, hd, hw, hfl, flatIds, oid, r_impl_floorDiv, ↓G_unf _ _ c_impl_floorDiv.eq_1, bind_ite, impl_floorDiv_f, rRow3, rFile, rRow104, rRow62, rArray, rRow27, rRow5, rRow9, ↓reduceIte, Option.some_beq_some, Nat.reduceMul, Nat.reduceAdd, Nat.reduceSub, Nat.reduceEqDiff, Nat.reduceBEq, Nat.reduceLeDiff, Nat.reduceLT, Nat.zero_add, Nat.add_zero, Bool.not_true, Bool.not_false, Bool.and_true, Bool.true_and, Bool.and_false, Bool.false_and, Bool.and_self, Bool.or_false, Bool.false_or, Bool.or_true, Bool.true_or, Bool.or_self, decide_eq_true_eq, Bool.not_eq_true', Bool.not_eq_eq_eq_not, decide_eq_false_iff_not, ite_not, ite_self, List.nil_append, List.append_nil, Option.map_some, Option.map_none, List.length_replicate, Int.natCast_nonneg, and_self, and_true, true_and, Bool.false_eq_true, decide_true, decide_false, List.cons_append, reduceCtorEq, Int.reduceAdd, Int.reduceSub, Int.reduceToNat, Int.cast_ofNat_Int, Int.reduceNeg, Int.reduceEq, Int.reduceLT, Int.reduceLE, not_true_eq_false, not_false_eq_true, eq_self]
-- loop.example/s02135/impl.cellOps$4
def c_impl_cellOps_4 : Cd :=
  sq (r [0, 1] [o 4 .mv [i 0]])
  (sq (r [4] [o 5 .mv [t 0], o 6 .mv [t 1], o 7 (.call 155) [t 5, t 6], o 8 (.call 151) [t 7], o 4 .mv [t 8]])
   (.ret))
def r_impl_cellOps_4 : List RV := [.tmp 4]
def impl_cellOps_4_f (L_impl_floorDiv : Int → Int → Option (Res (Int))) (L_impl_inRange : Int → Option (Res (Int))) (N : Nat) (a0 : Int) (a1 : Int) : Option (Res (Int)) :=
  (L_impl_floorDiv a0 a1).bind fun y0 =>
  (y0).on (fun y1 => (L_impl_inRange y1).bind fun y2 =>
   (y2).on (fun y3 => some (.ok y3)) (fun y3 => some (.pan (y3)))) (fun y1 => some (.pan (y1)))
theorem impl_cellOps_4_g (E : En) (hp : E.ps = []) (hl : E.pl = []) (hk : E.ck = []) (hr : E.rs = r_impl_cellOps_4) (hd : E.dd = none) (hw : ∀ y, E.wk y = some (nocap y)) (hfl : ∀ e, E.Γ.fl e = flatIds e) (m_impl_floorDiv : E.Γ.mu 155 = false) (L_impl_floorDiv : Int → Int → Option (Res (Int))) (h_impl_floorDiv : ∀ (a0 : Int) (a1 : Int), E.Γ 155 [.d (.int .i64 a0), .d (.int .i64 a1)] = (L_impl_floorDiv a0 a1).bind fun r => r.on (fun r => some (.ret (.d (.int .i64 r)) [])) (fun x => some (.pan x []))) (m_impl_inRange : E.Γ.mu 151 = false) (L_impl_inRange : Int → Option (Res (Int))) (h_impl_inRange : ∀ (a0 : Int), E.Γ 151 [.d (.int .i64 a0)] = (L_impl_inRange a0).bind fun r => r.on (fun r => some (.ret (.d (.int .i64 r)) [])) (fun x => some (.pan x []))) (a0 : Int) (a1 : Int) : G E c_impl_cellOps_4 [] ⟨slotsOf [(0, .d (.int .i64 a0)), (1, .d (.int .i64 a1))], obsOf []⟩ = (impl_cellOps_4_f L_impl_floorDiv L_impl_inRange E.n a0 a1).bind fun r => r.on (fun r => some (.ret (.d (.int .i64 r)) [])) (fun x => some (.pan x [])) := by
  simp (config := {maxSteps := 2000000}) only [↓rPre, rPost, rCan, rObj, rI, rS, rB, r8, rLI, rEtc, hp, hl, hk, hr, hd, hw, hfl, flatIds, oid, r_impl_cellOps_4, ↓G_unf _ _ c_impl_cellOps_4.eq_1, h_impl_floorDiv, m_impl_floorDiv, h_impl_inRange, m_impl_inRange, bind_ite, impl_cellOps_4_f, rRow3, rFile, rRow104, rRow62, rArray, rRow27, rRow5, rRow9, ↓reduceIte, Option.some_beq_some, Nat.reduceMul, Nat.reduceAdd, Nat.reduceSub, Nat.reduceEqDiff, Nat.reduceBEq, Nat.reduceLeDiff, Nat.reduceLT, Nat.zero_add, Nat.add_zero, Bool.not_true, Bool.not_false, Bool.and_true, Bool.true_and, Bool.and_false, Bool.false_and, Bool.and_self, Bool.or_false, Bool.false_or, Bool.or_true, Bool.true_or, Bool.or_self, decide_eq_true_eq, Bool.not_eq_true', Bool.not_eq_eq_eq_not, decide_eq_false_iff_not, ite_not, ite_self, List.nil_append, List.append_nil, Option.map_some, Option.map_none, List.length_replicate, Int.natCast_nonneg, and_self, and_true, true_and, Bool.false_eq_true, decide_true, decide_false, List.cons_append, reduceCtorEq, Int.reduceAdd, Int.reduceSub, Int.reduceToNat, Int.cast_ofNat_Int, Int.reduceNeg, Int.reduceEq, Int.reduceLT, Int.reduceLE, not_true_eq_false, not_false_eq_true, eq_self]
-- loop.example/s02135/impl.residue
def c_impl_residue : Cd :=
  sq (r [0, 1] [o 4 .mv [i 0]])
  (sq (sq (r [0, 1, 7] [o 6 .mv [t 1], o 7 (.bin .eql) [t 6, i 0]])
    (.cond (t 7) (sq (r [4] [o 8 .mv [t 0], o 4 .mv [t 8]])
      (.ret)) (.skip)))
   (sq (r [1, 5] [o 9 .mv [t 0], o 10 .mv [t 1], o 11 (.bin .rem) [t 9, t 10], o 5 .mv [t 11]])
    (sq (sq (r [1, 5, 20] [o 12 .mv [t 5], o 13 (.bin .neq) [t 12, i 0], o 14 .mv [t 13], g 14 true 15 .mv [t 5], g 14 true 16 (.bin .lss) [t 15, i 0], g 14 true 17 .mv [t 1], g 14 true 18 (.bin .lss) [t 17, i 0], g 14 true 19 (.beq true) [t 16, t 18], o 20 .pick [t 14, t 19, b false]])
      (.cond (t 20) (r [5] [o 21 .mv [t 5], o 22 .mv [t 1], o 23 (.bin .add) [t 21, t 22], o 5 .mv [t 23]]) (.skip)))
     (sq (r [4] [o 24 .mv [t 5], o 4 .mv [t 24]])
      (.ret)))))
def r_impl_residue : List RV := [.tmp 4]
def impl_residue_f (N : Nat) (a0 : Int) (a1 : Int) : Option (Int) :=
  if a1 = 0 then some a0
  else (if a1 = 0 then none
   else (if Int.tmod a0 a1 = 0 then some (Int.tmod a0 a1)
    else (if (Decidable.decide (Int.tmod a0 a1 < 0) == Decidable.decide (a1 < 0)) = false then some (w64 (Int.tmod a0 a1 + a1))
     else some (Int.tmod a0 a1))))
theorem impl_residue_g (E : En) (hp : E.ps = []) (hl : E.pl = []) (hk : E.ck = []) (hr : E.rs = r_impl_residue) (hd : E.dd = none) (hw : ∀ y, E.wk y = some (nocap y)) (hfl : ∀ e, E.Γ.fl e = flatIds e) (a0 : Int) (a1 : Int) : G E c_impl_residue [] ⟨slotsOf [(0, .d (.int .i64 a0)), (1, .d (.int .i64 a1))], obsOf []⟩ = (impl_residue_f E.n a0 a1).bind fun r => some (.ret (.d (.int .i64 r)) []) := by
  simp (config := {maxSteps := 2000000}) only [↓rPre, rPost, rCan, rObj, rI, rS, rB, r8, rLI, rEtc, hp, hl, hk, hr, hd, hw, hfl, flatIds, oid, r_impl_residue, ↓G_unf _ _ c_impl_residue.eq_1, bind_ite, impl_residue_f, rRow3, rFile, rRow104, rRow62, rArray, rRow27, rRow5, rRow9, ↓reduceIte, Option.some_beq_some, Nat.reduceMul, Nat.reduceAdd, Nat.reduceSub, Nat.reduceEqDiff, Nat.reduceBEq, Nat.reduceLeDiff, Nat.reduceLT, Nat.zero_add, Nat.add_zero, Bool.not_true, Bool.not_false, Bool.and_true, Bool.true_and, Bool.and_false, Bool.false_and, Bool.and_self, Bool.or_false, Bool.false_or, Bool.or_true, Bool.true_or, Bool.or_self, decide_eq_true_eq, Bool.not_eq_true', Bool.not_eq_eq_eq_not, decide_eq_false_iff_not, ite_not, ite_self, List.nil_append, List.append_nil, Option.map_some, Option.map_none, List.length_replicate, Int.natCast_nonneg, and_self, and_true, true_and, Bool.false_eq_true, decide_true, decide_false, List.cons_append, reduceCtorEq, Int.reduceAdd, Int.reduceSub, Int.reduceToNat, Int.cast_ofNat_Int, Int.reduceNeg, Int.reduceEq, Int.reduceLT, Int.reduceLE, not_true_eq_false, not_false_eq_true, eq_self]
-- loop.example/s02135/impl.cellOps$5
def c_impl_cellOps_5 : Cd :=
  sq (r [0, 1] [o 4 .mv [i 0]])
  (sq (r [4] [o 5 .mv [t 0], o 6 .mv [t 1], o 7 (.mm false) [t 5, t 6], o 4 .mv [t 7]])
   (.ret))
def r_impl_cellOps_5 : List RV := [.tmp 4]
def impl_cellOps_5_f (N : Nat) (a0 : Int) (a1 : Int) : Option (Int) :=
  some (if a1 < a0 then a1 else a0)
theorem impl_cellOps_5_g (E : En) (hp : E.ps = []) (hl : E.pl = []) (hk : E.ck = []) (hr : E.rs = r_impl_cellOps_5) (hd : E.dd = none) (hw : ∀ y, E.wk y = some (nocap y)) (hfl : ∀ e, E.Γ.fl e = flatIds e) (a0 : Int) (a1 : Int) : G E c_impl_cellOps_5 [] ⟨slotsOf [(0, .d (.int .i64 a0)), (1, .d (.int .i64 a1))], obsOf []⟩ = (impl_cellOps_5_f E.n a0 a1).bind fun r => some (.ret (.d (.int .i64 r)) []) := by
  simp (config := {maxSteps := 2000000}) only [↓rPre, rPost, rCan, rObj, rI, rS, rB, r8, rLI, rEtc, hp, hl, hk, hr, hd, hw, hfl, flatIds, oid, r_impl_cellOps_5, ↓G_unf _ _ c_impl_cellOps_5.eq_1, bind_ite, impl_cellOps_5_f, rRow3, rFile, rRow104, rRow62, rArray, rRow27, rRow5, rRow9, ↓reduceIte, Option.some_beq_some, Nat.reduceMul, Nat.reduceAdd, Nat.reduceSub, Nat.reduceEqDiff, Nat.reduceBEq, Nat.reduceLeDiff, Nat.reduceLT, Nat.zero_add, Nat.add_zero, Bool.not_true, Bool.not_false, Bool.and_true, Bool.true_and, Bool.and_false, Bool.false_and, Bool.and_self, Bool.or_false, Bool.false_or, Bool.or_true, Bool.true_or, Bool.or_self, decide_eq_true_eq, Bool.not_eq_true', Bool.not_eq_eq_eq_not, decide_eq_false_iff_not, ite_not, ite_self, List.nil_append, List.append_nil, Option.map_some, Option.map_none, List.length_replicate, Int.natCast_nonneg, and_self, and_true, true_and, Bool.false_eq_true, decide_true, decide_false, List.cons_append, reduceCtorEq, Int.reduceAdd, Int.reduceSub, Int.reduceToNat, Int.cast_ofNat_Int, Int.reduceNeg, Int.reduceEq, Int.reduceLT, Int.reduceLE, not_true_eq_false, not_false_eq_true, eq_self]
-- loop.example/s02135/impl.cellOps$6
def c_impl_cellOps_6 : Cd :=
  sq (r [0, 1] [o 4 .mv [i 0]])
  (sq (r [4] [o 5 .mv [t 0], o 6 .mv [t 1], o 7 (.mm true) [t 5, t 6], o 4 .mv [t 7]])
   (.ret))
def r_impl_cellOps_6 : List RV := [.tmp 4]
def impl_cellOps_6_f (N : Nat) (a0 : Int) (a1 : Int) : Option (Int) :=
  some (if a0 < a1 then a1 else a0)
theorem impl_cellOps_6_g (E : En) (hp : E.ps = []) (hl : E.pl = []) (hk : E.ck = []) (hr : E.rs = r_impl_cellOps_6) (hd : E.dd = none) (hw : ∀ y, E.wk y = some (nocap y)) (hfl : ∀ e, E.Γ.fl e = flatIds e) (a0 : Int) (a1 : Int) : G E c_impl_cellOps_6 [] ⟨slotsOf [(0, .d (.int .i64 a0)), (1, .d (.int .i64 a1))], obsOf []⟩ = (impl_cellOps_6_f E.n a0 a1).bind fun r => some (.ret (.d (.int .i64 r)) []) := by
  simp (config := {maxSteps := 2000000}) only [↓rPre, rPost, rCan, rObj, rI, rS, rB, r8, rLI, rEtc, hp, hl, hk, hr, hd, hw, hfl, flatIds, oid, r_impl_cellOps_6, ↓G_unf _ _ c_impl_cellOps_6.eq_1, bind_ite, impl_cellOps_6_f, rRow3, rFile, rRow104, rRow62, rArray, rRow27, rRow5, rRow9, ↓reduceIte, Option.some_beq_some, Nat.reduceMul, Nat.reduceAdd, Nat.reduceSub, Nat.reduceEqDiff, Nat.reduceBEq, Nat.reduceLeDiff, Nat.reduceLT, Nat.zero_add, Nat.add_zero, Bool.not_true, Bool.not_false, Bool.and_true, Bool.true_and, Bool.and_false, Bool.false_and, Bool.and_self, Bool.or_false, Bool.false_or, Bool.or_true, Bool.true_or, Bool.or_self, decide_eq_true_eq, Bool.not_eq_true', Bool.not_eq_eq_eq_not, decide_eq_false_iff_not, ite_not, ite_self, List.nil_append, List.append_nil, Option.map_some, Option.map_none, List.length_replicate, Int.natCast_nonneg, and_self, and_true, true_and, Bool.false_eq_true, decide_true, decide_false, List.cons_append, reduceCtorEq, Int.reduceAdd, Int.reduceSub, Int.reduceToNat, Int.cast_ofNat_Int, Int.reduceNeg, Int.reduceEq, Int.reduceLT, Int.reduceLE, not_true_eq_false, not_false_eq_true, eq_self]
-- loop.example/s02135/impl.truth
def c_impl_truth : Cd :=
  sq (r [0] [o 2 .mv [i 0]])
  (sq (sq (r [3] [o 3 .mv [t 0]])
    (.cond (t 3) (sq (r [2] [o 2 .mv [i 1]])
      (.ret)) (.skip)))
   (sq (r [2] [o 2 .mv [i 0]])
    (.ret)))
def r_impl_truth : List RV := [.tmp 2]
def impl_truth_f (N : Nat) (a0 : Bool) : Option (Int) :=
  if a0 = true then some 1
  else some 0
theorem impl_truth_g (E : En) (hp : E.ps = []) (hl : E.pl = []) (hk : E.ck = []) (hr : E.rs = r_impl_truth) (hd : E.dd = none) (hw : ∀ y, E.wk y = some (nocap y)) (hfl : ∀ e, E.Γ.fl e = flatIds e) (a0 : Bool) : G E c_impl_truth [] ⟨slotsOf [(0, .d (.bool a0))], obsOf []⟩ = (impl_truth_f E.n a0).bind fun r => some (.ret (.d (.int .i64 r)) []) := by
  simp (config := {maxSteps := 2000000}) only [↓rPre, rPost, rCan, rObj, rI, rS, rB, r8, rLI, rEtc, hp, hl, hk, hr, hd, hw, hfl, flatIds, oid, r_impl_truth, ↓G_unf _ _ c_impl_truth.eq_1, bind_ite, impl_truth_f, rRow3, rFile, rRow104, rRow62, rArray, rRow27, rRow5, rRow9, ↓reduceIte, Option.some_beq_some, Nat.reduceMul, Nat.reduceAdd, Nat.reduceSub, Nat.reduceEqDiff, Nat.reduceBEq, Nat.reduceLeDiff, Nat.reduceLT, Nat.zero_add, Nat.add_zero, Bool.not_true, Bool.not_false, Bool.and_true, Bool.true_and, Bool.and_false, Bool.false_and, Bool.and_self, Bool.or_false, Bool.false_or, Bool.or_true, Bool.true_or, Bool.or_self, decide_eq_true_eq, Bool.not_eq_true', Bool.not_eq_eq_eq_not, decide_eq_false_iff_not, ite_not, ite_self, List.nil_append, List.append_nil, Option.map_some, Option.map_none, List.length_replicate, Int.natCast_nonneg, and_self, and_true, true_and, Bool.false_eq_true, decide_true, decide_false, List.cons_append, reduceCtorEq, Int.reduceAdd, Int.reduceSub, Int.reduceToNat, Int.cast_ofNat_Int, Int.reduceNeg, Int.reduceEq, Int.reduceLT, Int.reduceLE, not_true_eq_false, not_false_eq_true, eq_self]
-- loop.example/s02135/impl.cellOps$7
def c_impl_cellOps_7 : Cd :=
  sq (r [0, 1] [o 4 .mv [i 0]])
  (sq (r [4] [o 5 .mv [t 0], o 6 .mv [t 1], o 7 (.bin .lss) [t 5, t 6], o 8 (.call 117) [t 7], o 4 .mv [t 8]])
   (.ret))
def r_impl_cellOps_7 : List RV := [.tmp 4]
def impl_cellOps_7_f (L_impl_truth : Bool → Option (Int)) (N : Nat) (a0 : Int) (a1 : Int) : Option (Int) :=
  (L_impl_truth (Decidable.decide (a0 < a1))).bind fun y0 =>
  some y0
theorem impl_cellOps_7_g (E : En) (hp : E.ps = []) (hl : E.pl = []) (hk : E.ck = []) (hr : E.rs = r_impl_cellOps_7) (hd : E.dd = none) (hw : ∀ y, E.wk y = some (nocap y)) (hfl : ∀ e, E.Γ.fl e = flatIds e) (m_impl_truth : E.Γ.mu 117 = false) (L_impl_truth : Bool → Option (Int)) (h_impl_truth : ∀ (a0 : Bool), E.Γ 117 [.d (.bool a0)] = (L_impl_truth a0).bind fun r => some (.ret (.d (.int .i64 r)) [])) (a0 : Int) (a1 : Int) : G E c_impl_cellOps_7 [] ⟨slotsOf [(0, .d (.int .i64 a0)), (1, .d (.int .i64 a1))], obsOf []⟩ = (impl_cellOps_7_f L_impl_truth E.n a0 a1).bind fun r => some (.ret (.d (.int .i64 r)) []) := by
  simp (config := {maxSteps := 2000000}) only [↓rPre, rPost, rCan, rObj, rI, rS, rB, r8, rLI, rEtc, hp, hl, hk, hr, hd, hw, hfl, flatIds, oid, r_impl_cellOps_7, ↓G_unf _ _ c_impl_cellOps_7.eq_1, h_impl_truth, m_impl_truth, bind_ite, impl_cellOps_7_f, rRow3, rFile, rRow104, rRow62, rArray, rRow27, rRow5, rRow9, ↓reduceIte, Option.some_beq_some, Nat.reduceMul, Nat.reduceAdd, Nat.reduceSub, Nat.reduceEqDiff, Nat.reduceBEq, Nat.reduceLeDiff, Nat.reduceLT, Nat.zero_add, Nat.add_zero, Bool.not_true, Bool.not_false, Bool.and_true, Bool.true_and, Bool.and_false, Bool.false_and, Bool.and_self, Bool.or_false, Bool.false_or, Bool.or_true, Bool.true_or, Bool.or_self, decide_eq_true_eq, Bool.not_eq_true', Bool.not_eq_eq_eq_not, decide_eq_false_iff_not, ite_not, ite_self, List.nil_append, List.append_nil, Option.map_some, Option.map_none, List.length_replicate, Int.natCast_nonneg, and_self, and_true, true_and, Bool.false_eq_true, decide_true, decide_false, List.cons_append, reduceCtorEq, Int.reduceAdd, Int.reduceSub, Int.reduceToNat, Int.cast_ofNat_Int, Int.reduceNeg, Int.reduceEq, Int.reduceLT, Int.reduceLE, not_true_eq_false, not_false_eq_true, eq_self]
-- loop.example/s02135/impl.cellOps$8
def c_impl_cellOps_8 : Cd :=
  sq (r [0, 1] [o 4 .mv [i 0]])
  (sq (r [4] [o 5 .mv [t 0], o 6 .mv [t 1], o 7 (.bin .eql) [t 5, t 6], o 8 (.call 117) [t 7], o 4 .mv [t 8]])
   (.ret))
def r_impl_cellOps_8 : List RV := [.tmp 4]
def impl_cellOps_8_f (L_impl_truth : Bool → Option (Int)) (N : Nat) (a0 : Int) (a1 : Int) : Option (Int) :=
  (L_impl_truth (Decidable.decide (a0 = a1))).bind fun y0 =>
  some y0
theorem impl_cellOps_8_g (E : En) (hp : E.ps = []) (hl : E.pl = []) (hk : E.ck = []) (hr : E.rs = r_impl_cellOps_8) (hd : E.dd = none) (hw : ∀ y, E.wk y = some (nocap y)) (hfl : ∀ e, E.Γ.fl e = flatIds e) (m_impl_truth : E.Γ.mu 117 = false) (L_impl_truth : Bool → Option (Int)) (h_impl_truth : ∀ (a0 : Bool), E.Γ 117 [.d (.bool a0)] = (L_impl_truth a0).bind fun r => some (.ret (.d (.int .i64 r)) [])) (a0 : Int) (a1 : Int) : G E c_impl_cellOps_8 [] ⟨slotsOf [(0, .d (.int .i64 a0)), (1, .d (.int .i64 a1))], obsOf []⟩ = (impl_cellOps_8_f L_impl_truth E.n a0 a1).bind fun r => some (.ret (.d (.int .i64 r)) []) := by
  simp (config := {maxSteps := 2000000}) only [↓rPre, rPost, rCan, rObj, rI, rS, rB, r8, rLI, rEtc, hp, hl, hk, hr, hd, hw, hfl, flatIds, oid, r_impl_cellOps_8, ↓G_unf _ _ c_impl_cellOps_8.eq_1, h_impl_truth, m_impl_truth, bind_ite, impl_cellOps_8_f, rRow3, rFile, rRow104, rRow62, rArray, rRow27, rRow5, rRow9, ↓reduceIte, Option.some_beq_some, Nat.reduceMul, Nat.reduceAdd, Nat.reduceSub, Nat.reduceEqDiff, Nat.reduceBEq, Nat.reduceLeDiff, Nat.reduceLT, Nat.zero_add, Nat.add_zero, Bool.not_true, Bool.not_false, Bool.and_true, Bool.true_and, Bool.and_false, Bool.false_and, Bool.and_self, Bool.or_false, Bool.false_or, Bool.or_true, Bool.true_or, Bool.or_self, decide_eq_true_eq, Bool.not_eq_true', Bool.not_eq_eq_eq_not, decide_eq_false_iff_not, ite_not, ite_self, List.nil_append, List.append_nil, Option.map_some, Option.map_none, List.length_replicate, Int.natCast_nonneg, and_self, and_true, true_and, Bool.false_eq_true, decide_true, decide_false, List.cons_append, reduceCtorEq, Int.reduceAdd, Int.reduceSub, Int.reduceToNat, Int.cast_ofNat_Int, Int.reduceNeg, Int.reduceEq, Int.reduceLT, Int.reduceLE, not_true_eq_false, not_false_eq_true, eq_self]
-- loop.example/s02135/impl.cellOps$9
def c_impl_cellOps_9 : Cd :=
  sq (r [0, 1] [o 4 .mv [i 0]])
  (sq (r [4] [o 5 .mv [t 0], o 6 .mv [t 1], o 7 (.bin .gtr) [t 5, t 6], o 8 (.call 117) [t 7], o 4 .mv [t 8]])
   (.ret))
def r_impl_cellOps_9 : List RV := [.tmp 4]
def impl_cellOps_9_f (L_impl_truth : Bool → Option (Int)) (N : Nat) (a0 : Int) (a1 : Int) : Option (Int) :=
  (L_impl_truth (Decidable.decide (a1 < a0))).bind fun y0 =>
  some y0
theorem impl_cellOps_9_g (E : En) (hp : E.ps = []) (hl : E.pl = []) (hk : E.ck = []) (hr : E.rs = r_impl_cellOps_9) (hd : E.dd = none) (hw : ∀ y, E.wk y = some (nocap y)) (hfl : ∀ e, E.Γ.fl e = flatIds e) (m_impl_truth : E.Γ.mu 117 = false) (L_impl_truth : Bool → Option (Int)) (h_impl_truth : ∀ (a0 : Bool), E.Γ 117 [.d (.bool a0)] = (L_impl_truth a0).bind fun r => some (.ret (.d (.int .i64 r)) [])) (a0 : Int) (a1 : Int) : G E c_impl_cellOps_9 [] ⟨slotsOf [(0, .d (.int .i64 a0)), (1, .d (.int .i64 a1))], obsOf []⟩ = (impl_cellOps_9_f L_impl_truth E.n a0 a1).bind fun r => some (.ret (.d (.int .i64 r)) []) := by
  simp (config := {maxSteps := 2000000}) only [↓rPre, rPost, rCan, rObj, rI, rS, rB, r8, rLI, rEtc, hp, hl, hk, hr, hd, hw, hfl, flatIds, oid, r_impl_cellOps_9, ↓G_unf _ _ c_impl_cellOps_9.eq_1, h_impl_truth, m_impl_truth, bind_ite, impl_cellOps_9_f, rRow3, rFile, rRow104, rRow62, rArray, rRow27, rRow5, rRow9, ↓reduceIte, Option.some_beq_some, Nat.reduceMul, Nat.reduceAdd, Nat.reduceSub, Nat.reduceEqDiff, Nat.reduceBEq, Nat.reduceLeDiff, Nat.reduceLT, Nat.zero_add, Nat.add_zero, Bool.not_true, Bool.not_false, Bool.and_true, Bool.true_and, Bool.and_false, Bool.false_and, Bool.and_self, Bool.or_false, Bool.false_or, Bool.or_true, Bool.true_or, Bool.or_self, decide_eq_true_eq, Bool.not_eq_true', Bool.not_eq_eq_eq_not, decide_eq_false_iff_not, ite_not, ite_self, List.nil_append, List.append_nil, Option.map_some, Option.map_none, List.length_replicate, Int.natCast_nonneg, and_self, and_true, true_and, Bool.false_eq_true, decide_true, decide_false, List.cons_append, reduceCtorEq, Int.reduceAdd, Int.reduceSub, Int.reduceToNat, Int.cast_ofNat_Int, Int.reduceNeg, Int.reduceEq, Int.reduceLT, Int.reduceLE, not_true_eq_false, not_false_eq_true, eq_self]
-- loop.example/s02135/impl.cellOps
def c_impl_cellOps : Cd :=
  sq (r [0] [o 0 (.alloc [(.d .nilf), (.d .nilf), (.d .nilf), (.d .nilf), (.d .nilf), (.d .nilf), (.d .nilf), (.d .nilf), (.d .nilf), (.d .nilf), (.d .nilf)]) []])
  (sq (r [0] [o 1 (.bld [(.d .nilf), (.d .nilf), (.d .nilf), (.d .nilf), (.d .nilf), (.d .nilf), (.d .nilf), (.d .nilf), (.d .nilf), (.d .nilf), (.d .nilf)] [(1, 1), (2, 1), (3, 1), (4, 1), (5, 1), (6, 1), (7, 1), (8, 1), (9, 1), (10, 1)]) [.k (.d (.fn 150)), .k (.d (.fn 152)), .k (.d (.fn 153)), .k (.d (.fn 154)), .k (.d (.fn 156)), .k (.d (.fn 157)), .k (.d (.fn 158)), .k (.d (.fn 159)), .k (.d (.fn 160)), .k (.d (.fn 161))], e (.st 11) [t 0, t 1]])
   (.ret))
def r_impl_cellOps : List RV := [.cell 0 (some 11)]
def impl_cellOps_f (L_impl_cellOps_1 : Int → Int → Option (Res (Int))) (L_impl_cellOps_2 : Int → Int → Option (Res (Int))) (L_impl_cellOps_3 : Int → Int → Option (Res (Int))) (L_impl_cellOps_4 : Int → Int → Option (Res (Int))) (L_impl_residue : Int → Int → Option (Int)) (L_impl_cellOps_5 : Int → Int → Option (Int)) (L_impl_cellOps_6 : Int → Int → Option (Int)) (L_impl_cellOps_7 : Int → Int → Option (Int)) (L_impl_cellOps_8 : Int → Int → Option (Int)) (L_impl_cellOps_9 : Int → Int → Option (Int)) (N : Nat) : Option (Unit) :=
  some (())
theorem impl_cellOps_g (E : En) (hp : E.ps = []) (hl : E.pl = []) (hk : E.ck = []) (hr : E.rs = r_impl_cellOps) (hd : E.dd = none) (hw : ∀ y, E.wk y = some (nocap y)) (hfl : ∀ e, E.Γ.fl e = flatIds e) (m_impl_cellOps_1 : E.Γ.mu 150 = false) (L_impl_cellOps_1 : Int → Int → Option (Res (Int))) (h_impl_cellOps_1 : ∀ (a0 : Int) (a1 : Int), E.Γ 150 [.d (.int .i64 a0), .d (.int .i64 a1)] = (L_impl_cellOps_1 a0 a1).bind fun r => r.on (fun r => some (.ret (.d (.int .i64 r)) [])) (fun x => some (.pan x []))) (m_impl_cellOps_2 : E.Γ.mu 152 = false) (L_impl_cellOps_2 : Int → Int → Option (Res (Int))) (h_impl_cellOps_2 : ∀ (a0 : Int) (a1 : Int), E.Γ 152 [.d (.int .i64 a0), .d (.int .i64 a1)] = (L_impl_cellOps_2 a0 a1).bind fun r => r.on (fun r => some (.ret (.d (.int .i64 r)) [])) (fun x => some (.pan x []))) (m_impl_cellOps_3 : E.Γ.mu 153 = false) (L_impl_cellOps_3 : Int → Int → Option (Res (Int))) (h_impl_cellOps_3 : ∀ (a0 : Int) (a1 : Int), E.Γ 153 [.d (.int .i64 a0), .d (.int .i64 a1)] = (L_impl_cellOps_3 a0 a1).bind fun r => r.on (fun r => some (.ret (.d (.int .i64 r)) [])) (fun x => some (.pan x []))) (m_impl_cellOps_4 : E.Γ.mu 154 = false) (L_impl_cellOps_4 : Int → Int → Option (Res (Int))) (h_impl_cellOps_4 : ∀ (a0 : Int) (a1 : Int), E.Γ 154 [.d (.int .i64 a0), .d (.int .i64 a1)] = (L_impl_cellOps_4 a0 a1).bind fun r => r.on (fun r => some (.ret (.d (.int .i64 r)) [])) (fun x => some (.pan x []))) (m_impl_residue : E.Γ.mu 156 = false) (L_impl_residue : Int → Int → Option (Int)) (h_impl_residue : ∀ (a0 : Int) (a1 : Int), E.Γ 156 [.d (.int .i64 a0), .d (.int .i64 a1)] = (L_impl_residue a0 a1).bind fun r => some (.ret (.d (.int .i64 r)) [])) (m_impl_cellOps_5 : E.Γ.mu 157 = false) (L_impl_cellOps_5 : Int → Int → Option (Int)) (h_impl_cellOps_5 : ∀ (a0 : Int) (a1 : Int), E.Γ 157 [.d (.int .i64 a0), .d (.int .i64 a1)] = (L_impl_cellOps_5 a0 a1).bind fun r => some (.ret (.d (.int .i64 r)) [])) (m_impl_cellOps_6 : E.Γ.mu 158 = false) (L_impl_cellOps_6 : Int → Int → Option (Int)) (h_impl_cellOps_6 : ∀ (a0 : Int) (a1 : Int), E.Γ 158 [.d (.int .i64 a0), .d (.int .i64 a1)] = (L_impl_cellOps_6 a0 a1).bind fun r => some (.ret (.d (.int .i64 r)) [])) (m_impl_cellOps_7 : E.Γ.mu 159 = false) (L_impl_cellOps_7 : Int → Int → Option (Int)) (h_impl_cellOps_7 : ∀ (a0 : Int) (a1 : Int), E.Γ 159 [.d (.int .i64 a0), .d (.int .i64 a1)] = (L_impl_cellOps_7 a0 a1).bind fun r => some (.ret (.d (.int .i64 r)) [])) (m_impl_cellOps_8 : E.Γ.mu 160 = false) (L_impl_cellOps_8 : Int → Int → Option (Int)) (h_impl_cellOps_8 : ∀ (a0 : Int) (a1 : Int), E.Γ 160 [.d (.int .i64 a0), .d (.int .i64 a1)] = (L_impl_cellOps_8 a0 a1).bind fun r => some (.ret (.d (.int .i64 r)) [])) (m_impl_cellOps_9 : E.Γ.mu 161 = false) (L_impl_cellOps_9 : Int → Int → Option (Int)) (h_impl_cellOps_9 : ∀ (a0 : Int) (a1 : Int), E.Γ 161 [.d (.int .i64 a0), .d (.int .i64 a1)] = (L_impl_cellOps_9 a0 a1).bind fun r => some (.ret (.d (.int .i64 r)) []))  : G E c_impl_cellOps [] ⟨slotsOf [], obsOf []⟩ = (impl_cellOps_f L_impl_cellOps_1 L_impl_cellOps_2 L_impl_cellOps_3 L_impl_cellOps_4 L_impl_residue L_impl_cellOps_5 L_impl_cellOps_6 L_impl_cellOps_7 L_impl_cellOps_8 L_impl_cellOps_9 E.n ).bind fun r => some (.ret (.agg [.d (D.nilf), .d (.fn 150), .d (.fn 152), .d (.fn 153), .d (.fn 154), .d (.fn 156), .d (.fn 157), .d (.fn 158), .d (.fn 159), .d (.fn 160), .d (.fn 161)]) []) := by
  simp (config := {maxSteps := 2000000}) only [↓rPre, rPost, rCan, rObj, rI, rS, rB, r8, rLI, rEtc, hp, hl, hk, hr, hd, hw, hfl, flatIds, oid, r_impl_cellOps, ↓G_unf _ _ c_impl_cellOps.eq_1, h_impl_cellOps_1, m_impl_cellOps_1, h_impl_cellOps_2, m_impl_cellOps_2, h_impl_cellOps_3, m_impl_cellOps_3, h_impl_cellOps_4, m_impl_cellOps_4, h_impl_residue, m_impl_residue, h_impl_cellOps_5, m_impl_cellOps_5, h_impl_cellOps_6, m_impl_cellOps_6, h_impl_cellOps_7, m_impl_cellOps_7, h_impl_cellOps_8, m_impl_cellOps_8, h_impl_cellOps_9, m_impl_cellOps_9, bind_ite, impl_cellOps_f, rRow3, rFile, rRow104, rRow62, rArray, rRow27, rRow5, rRow9, ↓reduceIte, Option.some_beq_some, Nat.reduceMul, Nat.reduceAdd, Nat.reduceSub, Nat.reduceEqDiff, Nat.reduceBEq, Nat.reduceLeDiff, Nat.reduceLT, Nat.zero_add, Nat.add_zero, Bool.not_true, Bool.not_false, Bool.and_true, Bool.true_and, Bool.and_false, Bool.false_and, Bool.and_self, Bool.or_false, Bool.false_or, Bool.or_true, Bool.true_or, Bool.or_self, decide_eq_true_eq, Bool.not_eq_true', Bool.not_eq_eq_eq_not, decide_eq_false_iff_not, ite_not, ite_self, List.nil_append, List.append_nil, Option.map_some, Option.map_none, List.length_replicate, Int.natCast_nonneg, and_self, and_true, true_and, Bool.false_eq_true, decide_true, decide_false, List.cons_append, reduceCtorEq, Int.reduceAdd, Int.reduceSub, Int.reduceToNat, Int.cast_ofNat_Int, Int.reduceNeg, Int.reduceEq, Int.reduceLT, Int.reduceLE, not_true_eq_false, not_false_eq_true, eq_self]
-- loop.example/s02135/impl.opOf
def c_impl_opOf : Cd :=
  sq (r [0] [o 2 .mv [.k (.d .nilf)], o 3 .mv [b false]])
  (sq (sq (r [0, 9] [o 4 .mv [t 0], o 5 (.bin .lss) [t 4, i 1], o 6 .mv [t 5], g 6 false 7 .mv [t 0], g 6 false 8 (.bin .gtr) [t 7, i 10], o 9 .pick [t 6, b true, t 8]])
    (.cond (t 9) (sq (r [2, 3] [o 2 .mv [.k (.d .nilf)], o 3 .mv [b false]])
      (.ret)) (.skip)))
   (sq (r [2, 3] [o 10 (.call 128) [], o 11 .mv [t 0], o 12 (.ixa 11 1 none) [t 10, t 11], o 2 .mv [t 12], o 3 .mv [b true]])
    (.ret)))
def r_impl_opOf : List RV := [.tmp 2, .tmp 3]
def impl_opOf_f (L_impl_cellOps : Option (Unit)) (N : Nat) (a0 : Int) : Option (Alt Unit Nat) :=
  if a0 < 1 then some ((.a (())))
  else (if 10 < a0 then some ((.a (())))
   else ((L_impl_cellOps).bind fun y0 =>
    if 0 ≤ a0 ∧ a0 < 11 then (if Int.toNat a0 * 1 = 1 then some ((.b 150))
     else (if Int.toNat a0 * 1 = 2 then some ((.b 152))
      else (if Int.toNat a0 * 1 = 3 then some ((.b 153))
       else (if Int.toNat a0 * 1 = 4 then some ((.b 154))
        else (if Int.toNat a0 * 1 = 5 then some ((.b 156))
         else (if Int.toNat a0 * 1 = 6 then some ((.b 157))
          else (if Int.toNat a0 * 1 = 7 then some ((.b 158))
           else (if Int.toNat a0 * 1 = 8 then some ((.b 159))
            else (if Int.toNat a0 * 1 = 9 then some ((.b 160))
             else (if Int.toNat a0 * 1 = 10 then some ((.b 161))
              else none))))))))))
    else none))
theorem impl_opOf_g (E : En) (hp : E.ps = []) (hl : E.pl = []) (hk : E.ck = []) (hr : E.rs = r_impl_opOf) (hd : E.dd = none) (hw : ∀ y, E.wk y = some (nocap y)) (hfl : ∀ e, E.Γ.fl e = flatIds e) (m_impl_cellOps : E.Γ.mu 128 = false) (L_impl_cellOps : Option (Unit)) (h_impl_cellOps : E.Γ 128 [] = (L_impl_cellOps).bind fun r => some (.ret (.agg [.d (D.nilf), .d (.fn 150), .d (.fn 152), .d (.fn 153), .d (.fn 154), .d (.fn 156), .d (.fn 157), .d (.fn 158), .d (.fn 159), .d (.fn 160), .d (.fn 161)]) [])) (a0 : Int) : G E c_impl_opOf [] ⟨slotsOf [(0, .d (.int .i64 a0))], obsOf []⟩ = (impl_opOf_f L_impl_cellOps E.n a0).bind fun r => r.on (fun r => some (.ret (.tup [.d (D.nilf), .d (.bool false)]) [])) (fun r => some (.ret (.tup [.d (.fn r), .d (.bool true)]) [])) := by
  simp (config := {maxSteps := 2000000}) only [↓rPre, rPost, rCan, rObj, rI, rS, rB, r8, rLI, rEtc, hp, hl, hk, hr, hd, hw, hfl, flatIds, oid, r_impl_opOf, ↓G_unf _ _ c_impl_opOf.eq_1, h_impl_cellOps, m_impl_cellOps, bind_ite, impl_opOf_f, rRow3, rFile, rRow104, rRow62, rRow22, rArray, rRow27, rRow5, rRow9, ↓reduceIte, Option.some_beq_some, Nat.reduceMul, Nat.reduceAdd, Nat.reduceSub, Nat.reduceEqDiff, Nat.reduceBEq, Nat.reduceLeDiff, Nat.reduceLT, Nat.zero_add, Nat.add_zero, Bool.not_true, Bool.not_false, Bool.and_true, Bool.true_and, Bool.and_false, Bool.false_and, Bool.and_self, Bool.or_false, Bool.false_or, Bool.or_true, Bool.true_or, Bool.or_self, decide_eq_true_eq, Bool.not_eq_true', Bool.not_eq_eq_eq_not, decide_eq_false_iff_not, ite_not, ite_self, List.nil_append, List.append_nil, Option.map_some, Option.map_none, List.length_replicate, Int.natCast_nonneg, and_self, and_true, true_and, Bool.false_eq_true, decide_true, decide_false, List.cons_append, reduceCtorEq, Int.reduceAdd, Int.reduceSub, Int.reduceToNat, Int.cast_ofNat_Int, Int.reduceNeg, Int.reduceEq, Int.reduceLT, Int.reduceLE, not_true_eq_false, not_false_eq_true, eq_self]; simp only [tn_pos]
-- loop.example/s02135/spec.l2Wide
def b0_spec_l2Wide : Cd :=
  sq (sq (r [1, 2, 4, 5, 6, 14] [o 11 .mv [t 6], o 12 .mv [t 1], o 13 (.call 48) [t 12], o 14 (.bin .lss) [t 11, t 13]])
   (.cond (t 14) (.skip) (.exit 0)))
  (sq (.block 1 (rd [] [1, 2, 4, 5, 6] [o 17 (.fa 1) [t 5], o 18 (.ld none) [t 17], o 19 (.fa 1) [t 2], o 20 (.ld none) [t 19], o 21 (.ia 1) [t 20, i 0], o 22 (.ld none) [t 21], ap [] false [5, 17] (o 23 (lit 3 1 1) [t 22]), o 24 (.app 3 1 8) [t 18, t 23], o 25 (.fa 1) [t 5], e (.st 1) [t 25, t 24]]))
   (r [1, 2, 4, 5, 6] [o 15 .mv [t 6], o 16 (.bin .add) [t 15, i 1], o 6 .mv [t 16]]))
def k1_spec_l2Wide : Cd :=
  sq (r [4] [o 26 (.ld (some 2)) [t 5], e (.st 2) [t 4, t 26]])
  (.ret)
def c_spec_l2Wide : Cd :=
  sq (r [1, 2, 4] [o 2 .box [t 0], o 4 (.alloc [.nil, .nil]) []])
  (sq (r [1, 2, 4, 5] [o 7 .mv [t 1], o 8 (.call 57) [t 7], o 9 (lit 3 1 0) [], o 10 (.bld [.nil, .nil] [(0, 1), (1, 1)]) [t 8, t 9], o 5 (.alloc [.nil, .nil]) [], e (.st 2) [t 5, t 10]])
   (sq (sq (r [1, 2, 4, 5, 6] [o 6 .mv [i 0]])
     (.block 0 (.loop [1, 2, 4, 5, 6] b0_spec_l2Wide))) k1_spec_l2Wide))
def r_spec_l2Wide : List RV := [.cell 4 (some 2)]
def spec_l2Wide_l0 (L_spec_l2Copy : (List Int) → Option (List Int)) (L_spec_l1Product : (List Int) → Option (Int)) : Nat → (List Int) → Int → (List Int) → (List Int) → (List Int) → (List Int) → Option (List Int × List Int)
  | 0, _, _, _, _, _, _ => none
  | m0 + 1, x1, x6, o128_0, o128_1, o321, o322 =>
    (L_spec_l1Product x1).bind fun y0 =>
    if x6 < y0 then ((idx o128_1 0).bind fun y1 =>
     if room 8 (List.length (o322 ++ [y1])) then spec_l2Wide_l0 L_spec_l2Copy L_spec_l1Product m0 x1 (w64 (x6 + 1)) o128_0 o128_1 o321 (o322 ++ [y1])
     else none)
    else some ((o321, o322))
def spec_l2Wide_f (L_spec_l2Copy : (List Int) → Option (List Int)) (L_spec_l1Product : (List Int) → Option (Int)) (N : Nat) (a0_Shape : List Int) (a0_Data : List Int) (a1 : List Int) : Option (List Int × List Int) :=
  (L_spec_l2Copy a1).bind fun y0 =>
  spec_l2Wide_l0 L_spec_l2Copy L_spec_l1Product N a1 0 a0_Shape a0_Data y0 []
theorem spec_l2Wide_l0_eq (E : En) (hp : E.ps = []) (hl : E.pl = []) (hk : E.ck = []) (hr : E.rs = r_spec_l2Wide) (hd : E.dd = none) (hw : ∀ y, E.wk y = some (nocap y)) (hfl : ∀ e, E.Γ.fl e = flatIds e) (m_spec_l2Copy : E.Γ.mu 57 = false) (L_spec_l2Copy : (List Int) → Option (List Int)) (h_spec_l2Copy : ∀ (a0 : List Int), E.Γ 57 [.d (lstT cI a0)] = (L_spec_l2Copy a0).bind fun r => some (.ret (ownT (cI) 3 none false r) [])) (m_spec_l1Product : E.Γ.mu 48 = false) (L_spec_l1Product : (List Int) → Option (Int)) (h_spec_l1Product : ∀ (a0 : List Int), E.Γ 48 [.d (lstT cI a0)] = (L_spec_l1Product a0).bind fun r => some (.ret (.d (.int .i64 r)) [])) : ∀ (m0 : Nat) (x1 : List Int) (x6 : Int) (o128_0 : List Int) (o128_1 : List Int) (o321 : List Int) (o322 : List Int), gH E [1, 2, 4, 5, 6] b0_spec_l2Wide [KJ.b 0, KJ.c k1_spec_l2Wide] m0 ⟨slotsOf [(1, .d (lstT (cI) x1)), (2, A.adr 128 1 0), (4, A.adr 256 1 0), (5, A.adr 320 1 0), (6, .d (.int .i64 x6))], obsOf [(128, ⟨1, .box [.d (lstT (cI) o128_0), .d (lstT (cI) o128_1)], false⟩), (256, ⟨1, .box [A.nil, A.nil], false⟩), (320, ⟨1, .box [A.row 321 1, A.row 322 1], false⟩), (321, ⟨1, rowT (cI) 3 none o321, false⟩), (322, ⟨1, rowT (cI) 3 none o322, false⟩)]⟩ = (spec_l2Wide_l0 L_spec_l2Copy L_spec_l1Product m0 x1 x6 o128_0 o128_1 o321 o322).bind fun r => some (.ret (.agg [ownT (cI) 3 none false r.1, ownT (cI) 3 none false r.2]) []) := by
  intro m0
  induction m0 with
  | zero => intros; rfl
  | succ m0 ih =>
    intros
    simp (config := {maxSteps := 2000000}) only [↓rPre, rPost, rCan, rObj, rI, rS, rB, r8, rLI, rEtc, hp, hl, hk, hr, hd, hw, hfl, flatIds, oid, r_spec_l2Wide, ↓G_unf _ _ b0_spec_l2Wide.eq_1, ↓G_unf _ _ k1_spec_l2Wide.eq_1, ↓G_unf _ _ c_spec_l2Wide.eq_1, h_spec_l2Copy, m_spec_l2Copy, h_spec_l1Product, m_spec_l1Product, gH_succ, ih, bind_ite, spec_l2Wide_l0, rRow3, rFile, rRow104, rRow62, rArray, rRow27, rRow5, rRow9, ↓reduceIte, Option.some_beq_some, Nat.reduceMul, Nat.reduceAdd, Nat.reduceSub, Nat.reduceEqDiff, Nat.reduceBEq, Nat.reduceLeDiff, Nat.reduceLT, Nat.zero_add, Nat.add_zero, Bool.not_true, Bool.not_false, Bool.and_true, Bool.true_and, Bool.and_false, Bool.false_and, Bool.and_self, Bool.or_false, Bool.false_or, Bool.or_true, Bool.true_or, Bool.or_self, decide_eq_true_eq, Bool.not_eq_true', Bool.not_eq_eq_eq_not, decide_eq_false_iff_not, ite_not, ite_self, List.nil_append, List.append_nil, Option.map_some, Option.map_none, List.length_replicate, Int.natCast_nonneg, and_self, and_true, true_and, Bool.false_eq_true, decide_true, decide_false, List.cons_append, reduceCtorEq, Int.reduceAdd, Int.reduceSub, Int.reduceToNat, Int.cast_ofNat_Int, Int.reduceNeg, Int.reduceEq, Int.reduceLT, Int.reduceLE, not_true_eq_false, not_false_eq_true, eq_self]
theorem spec_l2Wide_g (E : En) (hp : E.ps = []) (hl : E.pl = []) (hk : E.ck = []) (hr : E.rs = r_spec_l2Wide) (hd : E.dd = none) (hw : ∀ y, E.wk y = some (nocap y)) (hfl : ∀ e, E.Γ.fl e = flatIds e) (m_spec_l2Copy : E.Γ.mu 57 = false) (L_spec_l2Copy : (List Int) → Option (List Int)) (h_spec_l2Copy : ∀ (a0 : List Int), E.Γ 57 [.d (lstT cI a0)] = (L_spec_l2Copy a0).bind fun r => some (.ret (ownT (cI) 3 none false r) [])) (m_spec_l1Product : E.Γ.mu 48 = false) (L_spec_l1Product : (List Int) → Option (Int)) (h_spec_l1Product : ∀ (a0 : List Int), E.Γ 48 [.d (lstT cI a0)] = (L_spec_l1Product a0).bind fun r => some (.ret (.d (.int .i64 r)) [])) (a0_Shape : List Int) (a0_Data : List Int) (a1 : List Int) : G E c_spec_l2Wide [] ⟨slotsOf [(0, .agg [.d (lstT cI a0_Shape), .d (lstT cI a0_Data)]), (1, .d (lstT cI a1))], obsOf []⟩ = (spec_l2Wide_f L_spec_l2Copy L_spec_l1Product E.n a0_Shape a0_Data a1).bind fun r => some (.ret (.agg [ownT (cI) 3 none false r.1, ownT (cI) 3 none false r.2]) []) := by
  simp (config := {maxSteps := 2000000}) only [↓rPre, rPost, rCan, rObj, rI, rS, rB, r8, rLI, rEtc, hp, hl, hk, hr, hd, hw, hfl, flatIds, oid, r_spec_l2Wide, ↓G_unf _ _ b0_spec_l2Wide.eq_1, ↓G_unf _ _ k1_spec_l2Wide.eq_1, ↓G_unf _ _ c_spec_l2Wide.eq_1, h_spec_l2Copy, m_spec_l2Copy, h_spec_l1Product, m_spec_l1Product, bind_ite, spec_l2Wide_f, spec_l2Wide_l0_eq E hp hl hk hr hd hw hfl m_spec_l2Copy L_spec_l2Copy h_spec_l2Copy m_spec_l1Product L_spec_l1Product h_spec_l1Product, rRow3, rFile, rRow104, rRow62, rArray, rRow27, rRow5, rRow9, ↓reduceIte, Option.some_beq_some, Nat.reduceMul, Nat.reduceAdd, Nat.reduceSub, Nat.reduceEqDiff, Nat.reduceBEq, Nat.reduceLeDiff, Nat.reduceLT, Nat.zero_add, Nat.add_zero, Bool.not_true, Bool.not_false, Bool.and_true, Bool.true_and, Bool.and_false, Bool.false_and, Bool.and_self, Bool.or_false, Bool.false_or, Bool.or_true, Bool.true_or, Bool.or_self, decide_eq_true_eq, Bool.not_eq_true', Bool.not_eq_eq_eq_not, decide_eq_false_iff_not, ite_not, ite_self, List.nil_append, List.append_nil, Option.map_some, Option.map_none, List.length_replicate, Int.natCast_nonneg, and_self, and_true, true_and, Bool.false_eq_true, decide_true, decide_false, List.cons_append, reduceCtorEq, Int.reduceAdd, Int.reduceSub, Int.reduceToNat, Int.cast_ofNat_Int, Int.reduceNeg, Int.reduceEq, Int.reduceLT, Int.reduceLE, not_true_eq_false, not_false_eq_true, eq_self]
-- loop.example/s02135/spec.l2Same
def b0_spec_l2Same : Cd :=
  sq (sq (r [0, 1, 5, 14] [o 11 .mv [t 5], o 12 .mv [t 0], o 13 (.len false) [t 12], o 14 (.bin .lss) [t 11, t 13]])
   (.cond (t 14) (.skip) (.exit 0)))
  (sq (.block 1 (sq (rd [] [0, 1, 5, 25] [o 17 .mv [t 0], o 18 .mv [t 5], o 19 (.ia 1) [t 17, t 18], o 20 (.ld none) [t 19], o 21 .mv [t 1], o 22 .mv [t 5], o 23 (.ia 1) [t 21, t 22], o 24 (.ld none) [t 23], o 25 (.bin .neq) [t 20, t 24]])
     (.cond (t 25) (sq (r [4] [o 4 .mv [b false]])
       (.ret)) (.skip))))
   (r [0, 1, 5] [o 15 .mv [t 5], o 16 (.bin .add) [t 15, i 1], o 5 .mv [t 16]]))
def k1_spec_l2Same : Cd :=
  sq (r [4] [o 4 .mv [b true]])
  (.ret)
def c_spec_l2Same : Cd :=
  sq (r [0, 1] [o 4 .mv [b false]])
  (sq (sq (r [0, 1, 10] [o 6 .mv [t 0], o 7 (.len false) [t 6], o 8 .mv [t 1], o 9 (.len false) [t 8], o 10 (.bin .neq) [t 7, t 9]])
    (.cond (t 10) (sq (r [4] [o 4 .mv [b false]])
      (.ret)) (.skip)))
   (sq (sq (r [0, 1, 5] [o 5 .mv [i 0]])
     (.block 0 (.loop [0, 1, 5] b0_spec_l2Same))) k1_spec_l2Same))
def r_spec_l2Same : List RV := [.tmp 4]
def spec_l2Same_l0 : Nat → (List Int) → (List Int) → Int → Option (Bool)
  | 0, _, _, _ => none
  | m0 + 1, x0, x1, x5 =>
    if x5 < (↑(List.length x0) : Int) then ((idx x0 x5).bind fun y0 =>
     (idx x1 x5).bind fun y1 =>
     if y0 = y1 then spec_l2Same_l0 m0 x0 x1 (w64 (x5 + 1))
     else some false)
    else some true
def spec_l2Same_f (N : Nat) (a0 : List Int) (a1 : List Int) : Option (Bool) :=
  if (↑(List.length a0) : Int) = (↑(List.length a1) : Int) then spec_l2Same_l0 N a0 a1 0
  else some false
theorem spec_l2Same_l0_eq (E : En) (hp : E.ps = []) (hl : E.pl = []) (hk : E.ck = []) (hr : E.rs = r_spec_l2Same) (hd : E.dd = none) (hw : ∀ y, E.wk y = some (nocap y)) (hfl : ∀ e, E.Γ.fl e = flatIds e) : ∀ (m0 : Nat) (x0 : List Int) (x1 : List Int) (x5 : Int), gH E [0, 1, 5] b0_spec_l2Same [KJ.b 0, KJ.c k1_spec_l2Same] m0 ⟨slotsOf [(0, .d (lstT (cI) x0)), (1, .d (lstT (cI) x1)), (5, .d (.int .i64 x5))], obsOf []⟩ = (spec_l2Same_l0 m0 x0 x1 x5).bind fun r => some (.ret (.d (.bool r)) []) := by
  intro m0
  induction m0 with
  | zero => intros; rfl
  | succ m0 ih =>
    intros
    simp (config := {maxSteps := 2000000}) only [↓rPre, rPost, rCan, rObj, rI, rS, rB, r8, rLI, rEtc, hp, hl, hk, hr, hd, hw, hfl, flatIds, oid, r_spec_l2Same, ↓G_unf _ _ b0_spec_l2Same.eq_1, ↓G_unf _ _ k1_spec_l2Same.eq_1, ↓G_unf _ _ c_spec_l2Same.eq_1, gH_succ, ih, bind_ite, spec_l2Same_l0, rRow3, rFile, rRow104, rRow62, rArray, rRow27, rRow5, rRow9, ↓reduceIte, Option.some_beq_some, Nat.reduceMul, Nat.reduceAdd, Nat.reduceSub, Nat.reduceEqDiff, Nat.reduceBEq, Nat.reduceLeDiff, Nat.reduceLT, Nat.zero_add, Nat.add_zero, Bool.not_true, Bool.not_false, Bool.and_true, Bool.true_and, Bool.and_false, Bool.false_and, Bool.and_self, Bool.or_false, Bool.false_or, Bool.or_true, Bool.true_or, Bool.or_self, decide_eq_true_eq, Bool.not_eq_true', Bool.not_eq_eq_eq_not, decide_eq_false_iff_not, ite_not, ite_self, List.nil_append, List.append_nil, Option.map_some, Option.map_none, List.length_replicate, Int.natCast_nonneg, and_self, and_true, true_and, Bool.false_eq_true, decide_true, decide_false, List.cons_append, reduceCtorEq, Int.reduceAdd, Int.reduceSub, Int.reduceToNat, Int.cast_ofNat_Int, Int.reduceNeg, Int.reduceEq, Int.reduceLT, Int.reduceLE, not_true_eq_false, not_false_eq_true, eq_self]
theorem spec_l2Same_g (E : En) (hp : E.ps = []) (hl : E.pl = []) (hk : E.ck = []) (hr : E.rs = r_spec_l2Same) (hd : E.dd = none) (hw : ∀ y, E.wk y = some (nocap y)) (hfl : ∀ e, E.Γ.fl e = flatIds e) (a0 : List Int) (a1 : List Int) : G E c_spec_l2Same [] ⟨slotsOf [(0, .d (lstT cI a0)), (1, .d (lstT cI a1))], obsOf []⟩ = (spec_l2Same_f E.n a0 a1).bind fun r => some (.ret (.d (.bool r)) []) := by
  simp (config := {maxSteps := 2000000}) only [↓rPre, rPost, rCan, rObj, rI, rS, rB, r8, rLI, rEtc, hp, hl, hk, hr, hd, hw, hfl, flatIds, oid, r_spec_l2Same, ↓G_unf _ _ b0_spec_l2Same.eq_1, ↓G_unf _ _ k1_spec_l2Same.eq_1, ↓G_unf _ _ c_spec_l2Same.eq_1, bind_ite, spec_l2Same_f, spec_l2Same_l0_eq E hp hl hk hr hd hw hfl, rRow3, rFile, rRow104, rRow62, rArray, rRow27, rRow5, rRow9, ↓reduceIte, Option.some_beq_some, Nat.reduceMul, Nat.reduceAdd, Nat.reduceSub, Nat.reduceEqDiff, Nat.reduceBEq, Nat.reduceLeDiff, Nat.reduceLT, Nat.zero_add, Nat.add_zero, Bool.not_true, Bool.not_false, Bool.and_true, Bool.true_and, Bool.and_false, Bool.false_and, Bool.and_self, Bool.or_false, Bool.false_or, Bool.or_true, Bool.true_or, Bool.or_self, decide_eq_true_eq, Bool.not_eq_true', Bool.not_eq_eq_eq_not, decide_eq_false_iff_not, ite_not, ite_self, List.nil_append, List.append_nil, Option.map_some, Option.map_none, List.length_replicate, Int.natCast_nonneg, and_self, and_true, true_and, Bool.false_eq_true, decide_true, decide_false, List.cons_append, reduceCtorEq, Int.reduceAdd, Int.reduceSub, Int.reduceToNat, Int.cast_ofNat_Int, Int.reduceNeg, Int.reduceEq, Int.reduceLT, Int.reduceLE, not_true_eq_false, not_false_eq_true, eq_self]
-- loop.example/s02135/spec.l2Each
def b0_spec_l2Each : Cd :=
  sq (sq (r [0, 4, 5, 6, 8, 9, 52] [o 48 .mv [t 9], o 49 (.fa 1) [t 4], o 50 (.ld none) [t 49], o 51 (.len false) [t 50], o 52 (.bin .lss) [t 48, t 51]])
   (.cond (t 52) (.skip) (.exit 0)))
  (sq (.block 1 (sq (rd [] [0, 4, 5, 6, 8, 9, 10, 11] [o 56 .mv [t 0], o 57 (.fa 1) [t 4], o 58 (.ld none) [t 57], o 59 .mv [t 9], o 60 (.ia 1) [t 58, t 59], o 61 (.ld none) [t 60], o 62 (.fa 1) [t 5], o 63 (.ld none) [t 62], o 64 .mv [t 9], o 65 (.ia 1) [t 63, t 64], o 66 (.ld none) [t 65], o 67 (.call 72) [t 56, t 61, t 66], o 55 .mv [t 67], o 68 (.ext 0) [t 55], o 69 (.ext 1) [t 55], o 10 .mv [t 68], o 11 .mv [t 69]])
     (sq (sq (r [0, 4, 5, 6, 8, 9, 10, 11, 71] [o 70 .mv [t 11], o 71 (.bin .neq) [t 70, i 0]])
       (.cond (t 71) (sq (r [6, 7] [o 72 (.bld [.nil, .nil] []) [], o 73 .mv [t 11], e (.st 2) [t 6, t 72], o 7 .mv [t 73]])
         (.ret)) (.skip)))
      (r [0, 4, 5, 6, 8, 9] [o 74 (.fa 1) [t 8], o 75 (.ld none) [t 74], o 76 .mv [t 10], o 77 (lit 3 1 1) [t 76], o 78 (.app 3 1 8) [t 75, t 77], o 79 (.fa 1) [t 8], e (.st 1) [t 79, t 78]]))))
   (r [0, 4, 5, 6, 8, 9] [o 53 .mv [t 9], o 54 (.bin .add) [t 53, i 1], o 9 .mv [t 54]]))
def k1_spec_l2Each : Cd :=
  sq (r [6, 7] [o 80 (.ld (some 2)) [t 8], e (.st 2) [t 6, t 80], o 7 .mv [i 0]])
  (.ret)
def c_spec_l2Each : Cd :=
  sq (r [0, 4, 5, 6] [o 4 .box [t 1], o 5 .box [t 2], o 6 (.alloc [.nil, .nil]) [], o 7 .mv [i 0]])
  (sq (sq (r [0, 4, 5, 6, 15] [o 12 (.fa 0) [t 4], o 13 (.ld none) [t 12], o 14 (.len false) [t 13], o 15 (.bin .eql) [t 14, i 0]])
    (.cond (t 15) (r [0, 4, 5, 6] [o 16 (.ld (some 2)) [t 4], o 17 (.fa 0) [t 5], o 18 (.ld none) [t 17], o 19 (.call 127) [t 16, t 18], e (.st 2) [t 4, t 19]]) (sq (r [0, 4, 5, 6, 23] [o 20 (.fa 0) [t 5], o 21 (.ld none) [t 20], o 22 (.len false) [t 21], o 23 (.bin .eql) [t 22, i 0]])
      (.cond (t 23) (r [0, 4, 5, 6] [o 24 (.ld (some 2)) [t 5], o 25 (.fa 0) [t 4], o 26 (.ld none) [t 25], o 27 (.call 127) [t 24, t 26], e (.st 2) [t 5, t 27]]) (.skip)))))
   (sq (sq (r [0, 4, 5, 6, 34] [o 28 (.fa 0) [t 4], o 29 (.ld none) [t 28], o 30 (.len false) [t 29], o 31 (.fa 0) [t 5], o 32 (.ld none) [t 31], o 33 (.len false) [t 32], o 34 (.bin .neq) [t 30, t 33]])
     (.cond (t 34) (sq (r [6, 7] [o 35 (.bld [.nil, .nil] []) [], e (.st 2) [t 6, t 35], o 7 .mv [i 2]])
       (.ret)) (.skip)))
    (sq (sq (r [0, 4, 5, 6, 41] [o 36 (.fa 0) [t 4], o 37 (.ld none) [t 36], o 38 (.fa 0) [t 5], o 39 (.ld none) [t 38], o 40 (.call 108) [t 37, t 39], o 41 .not [t 40]])
      (.cond (t 41) (sq (r [6, 7] [o 42 (.bld [.nil, .nil] []) [], e (.st 2) [t 6, t 42], o 7 .mv [i 3]])
        (.ret)) (.skip)))
     (sq (r [0, 4, 5, 6, 8] [o 43 (.fa 0) [t 4], o 44 (.ld none) [t 43], o 45 (.call 57) [t 44], o 46 (lit 3 1 0) [], o 47 (.bld [.nil, .nil] [(0, 1), (1, 1)]) [t 45, t 46], o 8 (.alloc [.nil, .nil]) [], e (.st 2) [t 8, t 47]])
      (sq (sq (r [0, 4, 5, 6, 8, 9] [o 9 .mv [i 0]])
        (.block 0 (.loop [0, 4, 5, 6, 8, 9] b0_spec_l2Each))) k1_spec_l2Each)))))
def r_spec_l2Each : List RV := [.cell 6 (some 2), .tmp 7]
def spec_l2Each_l2 (L_spec_l2Wide : (List Int) → (List Int) → (List Int) → Option (List Int × List Int)) (L_spec_l2Same : (List Int) → (List Int) → Option (Bool)) (L_spec_l2Copy : (List Int) → Option (List Int)) (L_spec_l2Two : Int → Int → Int → Option (Int × Int)) : Nat → Int → Int → (List Int) → (List Int) → (List Int) → (List Int) → (List Int) → (List Int) → Option (List Int × List Int × Int)
  | 0, _, _, _, _, _, _, _, _ => none
  | m2 + 1, x0, x9, o256_0, o256_1, o320_0, o320_1, o513, o514 =>
    if x9 < (↑(List.length o256_1) : Int) then ((idx o256_1 x9).bind fun y0 =>
     (idx o320_1 x9).bind fun y1 =>
     (L_spec_l2Two x0 y0 y1).bind fun y2 =>
     if y2.snd = 0 then (if room 8 (List.length (o514 ++ [y2.fst])) then spec_l2Each_l2 L_spec_l2Wide L_spec_l2Same L_spec_l2Copy L_spec_l2Two m2 x0 (w64 (x9 + 1)) o256_0 o256_1 o320_0 o320_1 o513 (o514 ++ [y2.fst])
      else none)
     else some (([], [], y2.snd)))
    else some ((o513, o514, 0))
def spec_l2Each_l1 (L_spec_l2Wide : (List Int) → (List Int) → (List Int) → Option (List Int × List Int)) (L_spec_l2Same : (List Int) → (List Int) → Option (Bool)) (L_spec_l2Copy : (List Int) → Option (List Int)) (L_spec_l2Two : Int → Int → Int → Option (Int × Int)) : Nat → Int → Int → (List Int) → (List Int) → (List Int) → (List Int) → (List Int) → (List Int) → Option (List Int × List Int × Int)
  | 0, _, _, _, _, _, _, _, _ => none
  | m1 + 1, x0, x9, o256_0, o256_1, o321, o322, o513, o514 =>
    if x9 < (↑(List.length o256_1) : Int) then ((idx o256_1 x9).bind fun y0 =>
     if 0 ≤ x9 ∧ x9 < (↑(List.length o322) : Int) then ((o322[Int.toNat x9]?).bind fun y1 =>
      (L_spec_l2Two x0 y0 y1).bind fun y2 =>
      if y2.snd = 0 then (if room 8 (List.length (o514 ++ [y2.fst])) then spec_l2Each_l1 L_spec_l2Wide L_spec_l2Same L_spec_l2Copy L_spec_l2Two m1 x0 (w64 (x9 + 1)) o256_0 o256_1 o321 o322 o513 (o514 ++ [y2.fst])
       else none)
      else some (([], [], y2.snd)))
     else none)
    else some ((o513, o514, 0))
def spec_l2Each_l0 (L_spec_l2Wide : (List Int) → (List Int) → (List Int) → Option (List Int × List Int)) (L_spec_l2Same : (List Int) → (List Int) → Option (Bool)) (L_spec_l2Copy : (List Int) → Option (List Int)) (L_spec_l2Two : Int → Int → Int → Option (Int × Int)) : Nat → Int → Int → (List Int) → (List Int) → (List Int) → (List Int) → (List Int) → (List Int) → Option (List Int × List Int × Int)
  | 0, _, _, _, _, _, _, _, _ => none
  | m0 + 1, x0, x9, o257, o258, o320_0, o320_1, o513, o514 =>
    if x9 < (↑(List.length o258) : Int) then (if 0 ≤ x9 ∧ x9 < (↑(List.length o258) : Int) then ((o258[Int.toNat x9]?).bind fun y0 =>
      (idx o320_1 x9).bind fun y1 =>
      (L_spec_l2Two x0 y0 y1).bind fun y2 =>
      if y2.snd = 0 then (if room 8 (List.length (o514 ++ [y2.fst])) then spec_l2Each_l0 L_spec_l2Wide L_spec_l2Same L_spec_l2Copy L_spec_l2Two m0 x0 (w64 (x9 + 1)) o257 o258 o320_0 o320_1 o513 (o514 ++ [y2.fst])
       else none)
      else some (([], [], y2.snd)))
     else none)
    else some ((o513, o514, 0))
def spec_l2Each_f (L_spec_l2Wide : (List Int) → (List Int) → (List Int) → Option (List Int × List Int)) (L_spec_l2Same : (List Int) → (List Int) → Option (Bool)) (L_spec_l2Copy : (List Int) → Option (List Int)) (L_spec_l2Two : Int → Int → Int → Option (Int × Int)) (N : Nat) (a0 : Int) (a1_Shape : List Int) (a1_Data : List Int) (a2_Shape : List Int) (a2_Data : List Int) : Option (List Int × List Int × Int) :=
  if (↑(List.length a1_Shape) : Int) = 0 then ((L_spec_l2Wide a1_Shape a1_Data a2_Shape).bind fun y0 =>
   if (↑(List.length y0.fst) : Int) = (↑(List.length a2_Shape) : Int) then ((L_spec_l2Same y0.fst a2_Shape).bind fun y1 =>
    if y1 = false then some (([], [], 3))
    else ((L_spec_l2Copy y0.fst).bind fun y2 =>
     spec_l2Each_l0 L_spec_l2Wide L_spec_l2Same L_spec_l2Copy L_spec_l2Two N a0 0 y0.fst y0.snd a2_Shape a2_Data y2 []))
   else some (([], [], 2)))
  else (if (↑(List.length a2_Shape) : Int) = 0 then ((L_spec_l2Wide a2_Shape a2_Data a1_Shape).bind fun y3 =>
    if (↑(List.length a1_Shape) : Int) = (↑(List.length y3.fst) : Int) then ((L_spec_l2Same a1_Shape y3.fst).bind fun y4 =>
     if y4 = false then some (([], [], 3))
     else ((L_spec_l2Copy a1_Shape).bind fun y5 =>
      spec_l2Each_l1 L_spec_l2Wide L_spec_l2Same L_spec_l2Copy L_spec_l2Two N a0 0 a1_Shape a1_Data y3.fst y3.snd y5 []))
    else some (([], [], 2)))
   else (if (↑(List.length a1_Shape) : Int) = (↑(List.length a2_Shape) : Int) then ((L_spec_l2Same a1_Shape a2_Shape).bind fun y6 =>
     if y6 = false then some (([], [], 3))
     else ((L_spec_l2Copy a1_Shape).bind fun y7 =>
      spec_l2Each_l2 L_spec_l2Wide L_spec_l2Same L_spec_l2Copy L_spec_l2Two N a0 0 a1_Shape a1_Data a2_Shape a2_Data y7 []))
    else some (([], [], 2))))
theorem spec_l2Each_l2_eq (E : En) (hp : E.ps = []) (hl : E.pl = []) (hk : E.ck = []) (hr : E.rs = r_spec_l2Each) (hd : E.dd = none) (hw : ∀ y, E.wk y = some (nocap (asOwn (.node [.node [.own 3 1, .own 3 1], .k]) y))) (hfl : ∀ e, E.Γ.fl e = flatIds e) (m_spec_l2Wide : E.Γ.mu 127 = false) (L_spec_l2Wide : (List Int) → (List Int) → (List Int) → Option (List Int × List Int)) (h_spec_l2Wide : ∀ (a0_Shape : List Int) (a0_Data : List Int) (a1 : List Int), E.Γ 127 [.agg [.d (lstT cI a0_Shape), .d (lstT cI a0_Data)], .d (lstT cI a1)] = (L_spec_l2Wide a0_Shape a0_Data a1).bind fun r => some (.ret (.agg [ownT (cI) 3 none false r.1, ownT (cI) 3 none false r.2]) [])) (m_spec_l2Same : E.Γ.mu 108 = false) (L_spec_l2Same : (List Int) → (List Int) → Option (Bool)) (h_spec_l2Same : ∀ (a0 : List Int) (a1 : List Int), E.Γ 108 [.d (lstT cI a0), .d (lstT cI a1)] = (L_spec_l2Same a0 a1).bind fun r => some (.ret (.d (.bool r)) [])) (m_spec_l2Copy : E.Γ.mu 57 = false) (L_spec_l2Copy : (List Int) → Option (List Int)) (h_spec_l2Copy : ∀ (a0 : List Int), E.Γ 57 [.d (lstT cI a0)] = (L_spec_l2Copy a0).bind fun r => some (.ret (ownT (cI) 3 none false r) [])) (m_spec_l2Two : E.Γ.mu 72 = false) (L_spec_l2Two : Int → Int → Int → Option (Int × Int)) (h_spec_l2Two : ∀ (a0 : Int) (a1 : Int) (a2 : Int), E.Γ 72 [.d (.int .i64 a0), .d (.int .i64 a1), .d (.int .i64 a2)] = (L_spec_l2Two a0 a1 a2).bind fun r => some (.ret (.tup [.d (.int .i64 r.1), .d (.int .i64 r.2)]) [])) : ∀ (m2 : Nat) (x0 : Int) (x9 : Int) (o256_0 : List Int) (o256_1 : List Int) (o320_0 : List Int) (o320_1 : List Int) (o513 : List Int) (o514 : List Int), gH E [0, 4, 5, 6, 8, 9] b0_spec_l2Each [KJ.b 0, KJ.c k1_spec_l2Each] m2 ⟨slotsOf [(0, .d (.int .i64 x0)), (4, A.adr 256 1 0), (5, A.adr 320 1 0), (6, A.adr 384 1 0), (8, A.adr 512 1 0), (9, .d (.int .i64 x9))], obsOf [(256, ⟨1, .box [.d (lstT (cI) o256_0), .d (lstT (cI) o256_1)], false⟩), (320, ⟨1, .box [.d (lstT (cI) o320_0), .d (lstT (cI) o320_1)], false⟩), (384, ⟨1, .box [A.nil, A.nil], false⟩), (512, ⟨1, .box [A.row 513 1, A.row 514 1], false⟩), (513, ⟨1, rowT (cI) 3 none o513, false⟩), (514, ⟨1, rowT (cI) 3 none o514, false⟩)]⟩ = (spec_l2Each_l2 L_spec_l2Wide L_spec_l2Same L_spec_l2Copy L_spec_l2Two m2 x0 x9 o256_0 o256_1 o320_0 o320_1 o513 o514).bind fun r => some (.ret (.tup [.agg [ownT (cI) 3 none false r.1, ownT (cI) 3 none false r.2.1], .d (.int .i64 r.2.2)]) []) := by
  intro m2
  induction m2 with
  | zero => intros; rfl
  | succ m2 ih =>
    intros
    simp (config := {maxSteps := 2000000}) only [↓rPre, rPost, rCan, rObj, rI, rS, rB, r8, rLI, rEtc, hp, hl, hk, hr, hd, hw, hfl, flatIds, oid, r_spec_l2Each, ↓G_unf _ _ b0_spec_l2Each.eq_1, ↓G_unf _ _ k1_spec_l2Each.eq_1, ↓G_unf _ _ c_spec_l2Each.eq_1, h_spec_l2Wide, m_spec_l2Wide, h_spec_l2Same, m_spec_l2Same, h_spec_l2Copy, m_spec_l2Copy, h_spec_l2Two, m_spec_l2Two, gH_succ, ih, bind_ite, spec_l2Each_l2, rRow3, rFile, rRow104, rRow62, rArray, rRow27, rRow5, rRow9, ↓reduceIte, Option.some_beq_some, Nat.reduceMul, Nat.reduceAdd, Nat.reduceSub, Nat.reduceEqDiff, Nat.reduceBEq, Nat.reduceLeDiff, Nat.reduceLT, Nat.zero_add, Nat.add_zero, Bool.not_true, Bool.not_false, Bool.and_true, Bool.true_and, Bool.and_false, Bool.false_and, Bool.and_self, Bool.or_false, Bool.false_or, Bool.or_true, Bool.true_or, Bool.or_self, decide_eq_true_eq, Bool.not_eq_true', Bool.not_eq_eq_eq_not, decide_eq_false_iff_not, ite_not, ite_self, List.nil_append, List.append_nil, Option.map_some, Option.map_none, List.length_replicate, Int.natCast_nonneg, and_self, and_true, true_and, Bool.false_eq_true, decide_true, decide_false, List.cons_append, reduceCtorEq, Int.reduceAdd, Int.reduceSub, Int.reduceToNat, Int.cast_ofNat_Int, Int.reduceNeg, Int.reduceEq, Int.reduceLT, Int.reduceLE, not_true_eq_false, not_false_eq_true, eq_self]
theorem spec_l2Each_l1_eq (E : En) (hp : E.ps = []) (hl : E.pl = []) (hk : E.ck = []) (hr : E.rs = r_spec_l2Each) (hd : E.dd = none) (hw : ∀ y, E.wk y = some (nocap (asOwn (.node [.node [.own 3 1, .own 3 1], .k]) y))) (hfl : ∀ e, E.Γ.fl e = flatIds e) (m_spec_l2Wide : E.Γ.mu 127 = false) (L_spec_l2Wide : (List Int) → (List Int) → (List Int) → Option (List Int × List Int)) (h_spec_l2Wide : ∀ (a0_Shape : List Int) (a0_Data : List Int) (a1 : List Int), E.Γ 127 [.agg [.d (lstT cI a0_Shape), .d (lstT cI a0_Data)], .d (lstT cI a1)] = (L_spec_l2Wide a0_Shape a0_Data a1).bind fun r => some (.ret (.agg [ownT (cI) 3 none false r.1, ownT (cI) 3 none false r.2]) [])) (m_spec_l2Same : E.Γ.mu 108 = false) (L_spec_l2Same : (List Int) → (List Int) → Option (Bool)) (h_spec_l2Same : ∀ (a0 : List Int) (a1 : List Int), E.Γ 108 [.d (lstT cI a0), .d (lstT cI a1)] = (L_spec_l2Same a0 a1).bind fun r => some (.ret (.d (.bool r)) [])) (m_spec_l2Copy : E.Γ.mu 57 = false) (L_spec_l2Copy : (List Int) → Option (List Int)) (h_spec_l2Copy : ∀ (a0 : List Int), E.Γ 57 [.d (lstT cI a0)] = (L_spec_l2Copy a0).bind fun r => some (.ret (ownT (cI) 3 none false r) [])) (m_spec_l2Two : E.Γ.mu 72 = false) (L_spec_l2Two : Int → Int → Int → Option (Int × Int)) (h_spec_l2Two : ∀ (a0 : Int) (a1 : Int) (a2 : Int), E.Γ 72 [.d (.int .i64 a0), .d (.int .i64 a1), .d (.int .i64 a2)] = (L_spec_l2Two a0 a1 a2).bind fun r => some (.ret (.tup [.d (.int .i64 r.1), .d (.int .i64 r.2)]) [])) : ∀ (m1 : Nat) (x0 : Int) (x9 : Int) (o256_0 : List Int) (o256_1 : List Int) (o321 : List Int) (o322 : List Int) (o513 : List Int) (o514 : List Int), gH E [0, 4, 5, 6, 8, 9] b0_spec_l2Each [KJ.b 0, KJ.c k1_spec_l2Each] m1 ⟨slotsOf [(0, .d (.int .i64 x0)), (4, A.adr 256 1 0), (5, A.adr 320 1 0), (6, A.adr 384 1 0), (8, A.adr 512 1 0), (9, .d (.int .i64 x9))], obsOf [(256, ⟨1, .box [.d (lstT (cI) o256_0), .d (lstT (cI) o256_1)], false⟩), (320, ⟨1, .box [A.row 321 1, A.row 322 1], false⟩), (321, ⟨1, rowT (cI) 3 none o321, false⟩), (322, ⟨1, rowT (cI) 3 none o322, false⟩), (384, ⟨1, .box [A.nil, A.nil], false⟩), (512, ⟨1, .box [A.row 513 1, A.row 514 1], false⟩), (513, ⟨1, rowT (cI) 3 none o513, false⟩), (514, ⟨1, rowT (cI) 3 none o514, false⟩)]⟩ = (spec_l2Each_l1 L_spec_l2Wide L_spec_l2Same L_spec_l2Copy L_spec_l2Two m1 x0 x9 o256_0 o256_1 o321 o322 o513 o514).bind fun r => some (.ret (.tup [.agg [ownT (cI) 3 none false r.1, ownT (cI) 3 none false r.2.1], .d (.int .i64 r.2.2)]) []) := by
  intro m1
  induction m1 with
  | zero => intros; rfl
  | succ m1 ih =>
    intros
    simp (config := {maxSteps := 2000000}) only [↓rPre, rPost, rCan, rObj, rI, rS, rB, r8, rLI, rEtc, hp, hl, hk, hr, hd, hw, hfl, flatIds, oid, r_spec_l2Each, ↓G_unf _ _ b0_spec_l2Each.eq_1, ↓G_unf _ _ k1_spec_l2Each.eq_1, ↓G_unf _ _ c_spec_l2Each.eq_1, h_spec_l2Wide, m_spec_l2Wide, h_spec_l2Same, m_spec_l2Same, h_spec_l2Copy, m_spec_l2Copy, h_spec_l2Two, m_spec_l2Two, gH_succ, ih, bind_ite, spec_l2Each_l1, rRow3, rFile, rRow104, rRow62, rArray, rRow27, rRow5, rRow9, ↓reduceIte, Option.some_beq_some, Nat.reduceMul, Nat.reduceAdd, Nat.reduceSub, Nat.reduceEqDiff, Nat.reduceBEq, Nat.reduceLeDiff, Nat.reduceLT, Nat.zero_add, Nat.add_zero, Bool.not_true, Bool.not_false, Bool.and_true, Bool.true_and, Bool.and_false, Bool.false_and, Bool.and_self, Bool.or_false, Bool.false_or, Bool.or_true, Bool.true_or, Bool.or_self, decide_eq_true_eq, Bool.not_eq_true', Bool.not_eq_eq_eq_not, decide_eq_false_iff_not, ite_not, ite_self, List.nil_append, List.append_nil, Option.map_some, Option.map_none, List.length_replicate, Int.natCast_nonneg, and_self, and_true, true_and, Bool.false_eq_true, decide_true, decide_false, List.cons_append, reduceCtorEq, Int.reduceAdd, Int.reduceSub, Int.reduceToNat, Int.cast_ofNat_Int, Int.reduceNeg, Int.reduceEq, Int.reduceLT, Int.reduceLE, not_true_eq_false, not_false_eq_true, eq_self]
theorem spec_l2Each_l0_eq (E : En) (hp : E.ps = []) (hl : E.pl = []) (hk : E.ck = []) (hr : E.rs = r_spec_l2Each) (hd : E.dd = none) (hw : ∀ y, E.wk y = some (nocap (asOwn (.node [.node [.own 3 1, .own 3 1], .k]) y))) (hfl : ∀ e, E.Γ.fl e = flatIds e) (m_spec_l2Wide : E.Γ.mu 127 = false) (L_spec_l2Wide : (List Int) → (List Int) → (List Int) → Option (List Int × List Int)) (h_spec_l2Wide : ∀ (a0_Shape : List Int) (a0_Data : List Int) (a1 : List Int), E.Γ 127 [.agg [.d (lstT cI a0_Shape), .d (lstT cI a0_Data)], .d (lstT cI a1)] = (L_spec_l2Wide a0_Shape a0_Data a1).bind fun r => some (.ret (.agg [ownT (cI) 3 none false r.1, ownT (cI) 3 none false r.2]) [])) (m_spec_l2Same : E.Γ.mu 108 = false) (L_spec_l2Same : (List Int) → (List Int) → Option (Bool)) (h_spec_l2Same : ∀ (a0 : List Int) (a1 : List Int), E.Γ 108 [.d (lstT cI a0), .d (lstT cI a1)] = (L_spec_l2Same a0 a1).bind fun r => some (.ret (.d (.bool r)) [])) (m_spec_l2Copy : E.Γ.mu 57 = false) (L_spec_l2Copy : (List Int) → Option (List Int)) (h_spec_l2Copy : ∀ (a0 : List Int), E.Γ 57 [.d (lstT cI a0)] = (L_spec_l2Copy a0).bind fun r => some (.ret (ownT (cI) 3 none false r) [])) (m_spec_l2Two : E.Γ.mu 72 = false) (L_spec_l2Two : Int → Int → Int → Option (Int × Int)) (h_spec_l2Two : ∀ (a0 : Int) (a1 : Int) (a2 : Int), E.Γ 72 [.d (.int .i64 a0), .d (.int .i64 a1), .d (.int .i64 a2)] = (L_spec_l2Two a0 a1 a2).bind fun r => some (.ret (.tup [.d (.int .i64 r.1), .d (.int .i64 r.2)]) [])) : ∀ (m0 : Nat) (x0 : Int) (x9 : Int) (o257 : List Int) (o258 : List Int) (o320_0 : List Int) (o320_1 : List Int) (o513 : List Int) (o514 : List Int), gH E [0, 4, 5, 6, 8, 9] b0_spec_l2Each [KJ.b 0, KJ.c k1_spec_l2Each] m0 ⟨slotsOf [(0, .d (.int .i64 x0)), (4, A.adr 256 1 0), (5, A.adr 320 1 0), (6, A.adr 384 1 0), (8, A.adr 512 1 0), (9, .d (.int .i64 x9))], obsOf [(256, ⟨1, .box [A.row 257 1, A.row 258 1], false⟩), (257, ⟨1, rowT (cI) 3 none o257, false⟩), (258, ⟨1, rowT (cI) 3 none o258, false⟩), (320, ⟨1, .box [.d (lstT (cI) o320_0), .d (lstT (cI) o320_1)], false⟩), (384, ⟨1, .box [A.nil, A.nil], false⟩), (512, ⟨1, .box [A.row 513 1, A.row 514 1], false⟩), (513, ⟨1, rowT (cI) 3 none o513, false⟩), (514, ⟨1, rowT (cI) 3 none o514, false⟩)]⟩ = (spec_l2Each_l0 L_spec_l2Wide L_spec_l2Same L_spec_l2Copy L_spec_l2Two m0 x0 x9 o257 o258 o320_0 o320_1 o513 o514).bind fun r => some (.ret (.tup [.agg [ownT (cI) 3 none false r.1, ownT (cI) 3 none false r.2.1], .d (.int .i64 r.2.2)]) []) := by
  intro m0
  induction m0 with
  | zero => intros; rfl
  | succ m0 ih =>
    intros
    simp (config := {maxSteps := 2000000}) only [↓rPre, rPost, rCan, rObj, rI, rS, rB, r8, rLI, rEtc, hp, hl, hk, hr, hd, hw, hfl, flatIds, oid, r_spec_l2Each, ↓G_unf _ _ b0_spec_l2Each.eq_1, ↓G_unf _ _ k1_spec_l2Each.eq_1, ↓G_unf _ _ c_spec_l2Each.eq_1, h_spec_l2Wide, m_spec_l2Wide, h_spec_l2Same, m_spec_l2Same, h_spec_l2Copy, m_spec_l2Copy, h_spec_l2Two, m_spec_l2Two, gH_succ, ih, bind_ite, spec_l2Each_l0, rRow3, rFile, rRow104, rRow62, rArray, rRow27, rRow5, rRow9, ↓reduceIte, Option.some_beq_some, Nat.reduceMul, Nat.reduceAdd, Nat.reduceSub, Nat.reduceEqDiff, Nat.reduceBEq, Nat.reduceLeDiff, Nat.reduceLT, Nat.zero_add, Nat.add_zero, Bool.not_true, Bool.not_false, Bool.and_true, Bool.true_and, Bool.and_false, Bool.false_and, Bool.and_self, Bool.or_false, Bool.false_or, Bool.or_true, Bool.true_or, Bool.or_self, decide_eq_true_eq, Bool.not_eq_true', Bool.not_eq_eq_eq_not, decide_eq_false_iff_not, ite_not, ite_self, List.nil_append, List.append_nil, Option.map_some, Option.map_none, List.length_replicate, Int.natCast_nonneg, and_self, and_true, true_and, Bool.false_eq_true, decide_true, decide_false, List.cons_append, reduceCtorEq, Int.reduceAdd, Int.reduceSub, Int.reduceToNat, Int.cast_ofNat_Int, Int.reduceNeg, Int.reduceEq, Int.reduceLT, Int.reduceLE, not_true_eq_false, not_false_eq_true, eq_self]
theorem spec_l2Each_g (E : En) (hp : E.ps = []) (hl : E.pl = []) (hk : E.ck = []) (hr : E.rs = r_spec_l2Each) (hd : E.dd = none) (hw : ∀ y, E.wk y = some (nocap (asOwn (.node [.node [.own 3 1, .own 3 1], .k]) y))) (hfl : ∀ e, E.Γ.fl e = flatIds e) (m_spec_l2Wide : E.Γ.mu 127 = false) (L_spec_l2Wide : (List Int) → (List Int) → (List Int) → Option (List Int × List Int)) (h_spec_l2Wide : ∀ (a0_Shape : List Int) (a0_Data : List Int) (a1 : List Int), E.Γ 127 [.agg [.d (lstT cI a0_Shape), .d (lstT cI a0_Data)], .d (lstT cI a1)] = (L_spec_l2Wide a0_Shape a0_Data a1).bind fun r => some (.ret (.agg [ownT (cI) 3 none false r.1, ownT (cI) 3 none false r.2]) [])) (m_spec_l2Same : E.Γ.mu 108 = false) (L_spec_l2Same : (List Int) → (List Int) → Option (Bool)) (h_spec_l2Same : ∀ (a0 : List Int) (a1 : List Int), E.Γ 108 [.d (lstT cI a0), .d (lstT cI a1)] = (L_spec_l2Same a0 a1).bind fun r => some (.ret (.d (.bool r)) [])) (m_spec_l2Copy : E.Γ.mu 57 = false) (L_spec_l2Copy : (List Int) → Option (List Int)) (h_spec_l2Copy : ∀ (a0 : List Int), E.Γ 57 [.d (lstT cI a0)] = (L_spec_l2Copy a0).bind fun r => some (.ret (ownT (cI) 3 none false r) [])) (m_spec_l2Two : E.Γ.mu 72 = false) (L_spec_l2Two : Int → Int → Int → Option (Int × Int)) (h_spec_l2Two : ∀ (a0 : Int) (a1 : Int) (a2 : Int), E.Γ 72 [.d (.int .i64 a0), .d (.int .i64 a1), .d (.int .i64 a2)] = (L_spec_l2Two a0 a1 a2).bind fun r => some (.ret (.tup [.d (.int .i64 r.1), .d (.int .i64 r.2)]) [])) (a0 : Int) (a1_Shape : List Int) (a1_Data : List Int) (a2_Shape : List Int) (a2_Data : List Int) : G E c_spec_l2Each [] ⟨slotsOf [(0, .d (.int .i64 a0)), (1, .agg [.d (lstT cI a1_Shape), .d (lstT cI a1_Data)]), (2, .agg [.d (lstT cI a2_Shape), .d (lstT cI a2_Data)])], obsOf []⟩ = (spec_l2Each_f L_spec_l2Wide L_spec_l2Same L_spec_l2Copy L_spec_l2Two E.n a0 a1_Shape a1_Data a2_Shape a2_Data).bind fun r => some (.ret (.tup [.agg [ownT (cI) 3 none false r.1, ownT (cI) 3 none false r.2.1], .d (.int .i64 r.2.2)]) []) := by
  simp (config := {maxSteps := 2000000}) only [↓rPre, rPost, rCan, rObj, rI, rS, rB, r8, rLI, rEtc, hp, hl, hk, hr, hd, hw, hfl, flatIds, oid, r_spec_l2Each, ↓G_unf _ _ b0_spec_l2Each.eq_1, ↓G_unf _ _ k1_spec_l2Each.eq_1, ↓G_unf _ _ c_spec_l2Each.eq_1, h_spec_l2Wide, m_spec_l2Wide, h_spec_l2Same, m_spec_l2Same, h_spec_l2Copy, m_spec_l2Copy, h_spec_l2Two, m_spec_l2Two, bind_ite, spec_l2Each_f, spec_l2Each_l2_eq E hp hl hk hr hd hw hfl m_spec_l2Wide L_spec_l2Wide h_spec_l2Wide m_spec_l2Same L_spec_l2Same h_spec_l2Same m_spec_l2Copy L_spec_l2Copy h_spec_l2Copy m_spec_l2Two L_spec_l2Two h_spec_l2Two, spec_l2Each_l1_eq E hp hl hk hr hd hw hfl m_spec_l2Wide L_spec_l2Wide h_spec_l2Wide m_spec_l2Same L_spec_l2Same h_spec_l2Same m_spec_l2Copy L_spec_l2Copy h_spec_l2Copy m_spec_l2Two L_spec_l2Two h_spec_l2Two, spec_l2Each_l0_eq E hp hl hk hr hd hw hfl m_spec_l2Wide L_spec_l2Wide h_spec_l2Wide m_spec_l2Same L_spec_l2Same h_spec_l2Same m_spec_l2Copy L_spec_l2Copy h_spec_l2Copy m_spec_l2Two L_spec_l2Two h_spec_l2Two, rRow3, rFile, rRow104, rRow62, rArray, rRow27, rRow5, rRow9, ↓reduceIte, Option.some_beq_some, Nat.reduceMul, Nat.reduceAdd, Nat.reduceSub, Nat.reduceEqDiff, Nat.reduceBEq, Nat.reduceLeDiff, Nat.reduceLT, Nat.zero_add, Nat.add_zero, Bool.not_true, Bool.not_false, Bool.and_true, Bool.true_and, Bool.and_false, Bool.false_and, Bool.and_self, Bool.or_false, Bool.false_or, Bool.or_true, Bool.true_or, Bool.or_self, decide_eq_true_eq, Bool.not_eq_true', Bool.not_eq_eq_eq_not, decide_eq_false_iff_not, ite_not, ite_self, List.nil_append, List.append_nil, Option.map_some, Option.map_none, List.length_replicate, Int.natCast_nonneg, and_self, and_true, true_and, Bool.false_eq_true, decide_true, decide_false, List.cons_append, reduceCtorEq, Int.reduceAdd, Int.reduceSub, Int.reduceToNat, Int.cast_ofNat_Int, Int.reduceNeg, Int.reduceEq, Int.reduceLT, Int.reduceLE, not_true_eq_false, not_false_eq_true, eq_self]
-- loop.example/s02135/spec.l2None
def c_spec_l2None : Cd :=
  sq (r [0] [o 2 .mv [i 0], o 3 .mv [b false]])
  (sq (sq (r [0, 9] [o 4 .mv [t 0], o 5 (.bin .eql) [t 4, i 3], o 6 .mv [t 5], g 6 false 7 .mv [t 0], g 6 false 8 (.bin .eql) [t 7, i 4], o 9 .pick [t 6, b true, t 8]])
    (.cond (t 9) (sq (r [2, 3] [o 2 .mv [i 1], o 3 .mv [b true]])
      (.ret)) (.skip)))
   (sq (sq (r [0, 11] [o 10 .mv [t 0], o 11 (.bin .eql) [t 10, i 6]])
     (.cond (t 11) (sq (r [2, 3] [o 2 .mv [i 3000000000], o 3 .mv [b true]])
       (.ret)) (.skip)))
    (sq (sq (r [0, 13] [o 12 .mv [t 0], o 13 (.bin .eql) [t 12, i 7]])
      (.cond (t 13) (sq (r [2, 3] [o 2 .mv [i (-3000000000)], o 3 .mv [b true]])
        (.ret)) (.skip)))
     (sq (r [2, 3] [o 14 .mv [t 0], o 15 (.bin .eql) [t 14, i 1], o 16 .mv [t 15], g 16 false 17 .mv [t 0], g 16 false 18 (.bin .eql) [t 17, i 2], o 19 .pick [t 16, b true, t 18], o 20 .mv [t 19], g 20 false 21 .mv [t 0], g 20 false 22 (.bin .eql) [t 21, i 5], o 23 .pick [t 20, b true, t 22], o 2 .mv [i 0], o 3 .mv [t 23]])
      (.ret)))))
def r_spec_l2None : List RV := [.tmp 2, .tmp 3]
def spec_l2None_f (N : Nat) (a0 : Int) : Option (Int × Bool) :=
  if a0 = 3 then some ((1, true))
  else (if a0 = 4 then some ((1, true))
   else (if a0 = 6 then some ((3000000000, true))
    else (if a0 = 7 then some ((-3000000000, true))
     else (if a0 = 1 then some ((0, true))
      else (if a0 = 2 then some ((0, true))
       else some ((0, Decidable.decide (a0 = 5))))))))
theorem spec_l2None_g (E : En) (hp : E.ps = []) (hl : E.pl = []) (hk : E.ck = []) (hr : E.rs = r_spec_l2None) (hd : E.dd = none) (hw : ∀ y, E.wk y = some (nocap y)) (hfl : ∀ e, E.Γ.fl e = flatIds e) (a0 : Int) : G E c_spec_l2None [] ⟨slotsOf [(0, .d (.int .i64 a0))], obsOf []⟩ = (spec_l2None_f E.n a0).bind fun r => some (.ret (.tup [.d (.int .i64 r.1), .d (.bool r.2)]) []) := by
  simp (config := {maxSteps := 2000000}) only [↓rPre, rPost, rCan, rObj, rI, rS, rB, r8, rLI, rEtc, hp, hl, hk, hr, hd, hw, hfl, flatIds, oid, r_spec_l2None, ↓G_unf _ _ c_spec_l2None.eq_1, bind_ite, spec_l2None_f, rRow3, rFile, rRow104, rRow62, rArray, rRow27, rRow5, rRow9, ↓reduceIte, Option.some_beq_some, Nat.reduceMul, Nat.reduceAdd, Nat.reduceSub, Nat.reduceEqDiff, Nat.reduceBEq, Nat.reduceLeDiff, Nat.reduceLT, Nat.zero_add, Nat.add_zero, Bool.not_true, Bool.not_false, Bool.and_true, Bool.true_and, Bool.and_false, Bool.false_and, Bool.and_self, Bool.or_false, Bool.false_or, Bool.or_true, Bool.true_or, Bool.or_self, decide_eq_true_eq, Bool.not_eq_true', Bool.not_eq_eq_eq_not, decide_eq_false_iff_not, ite_not, ite_self, List.nil_append, List.append_nil, Option.map_some, Option.map_none, List.length_replicate, Int.natCast_nonneg, and_self, and_true, true_and, Bool.false_eq_true, decide_true, decide_false, List.cons_append, reduceCtorEq, Int.reduceAdd, Int.reduceSub, Int.reduceToNat, Int.cast_ofNat_Int, Int.reduceNeg, Int.reduceEq, Int.reduceLT, Int.reduceLE, not_true_eq_false, not_false_eq_true, eq_self]
-- loop.example/s02135/spec.l2Made
def c_spec_l2Made : Cd :=
  sq (r [0, 1, 4] [o 4 (.alloc [.nil, .nil]) [], o 5 .mv [i 0]])
  (sq (sq (r [0, 1, 4, 8] [o 6 .mv [t 0], o 7 (.call 47) [t 6], o 8 .not [t 7]])
    (.cond (t 8) (sq (r [4, 5] [o 9 (.bld [.nil, .nil] []) [], e (.st 2) [t 4, t 9], o 5 .mv [i 6]])
      (.ret)) (.skip)))
   (sq (r [4, 5] [o 10 .mv [t 0], o 11 .mv [t 1], o 12 (.bld [.nil, .nil] [(0, 1), (1, 1)]) [t 10, t 11], e (.st 2) [t 4, t 12], o 5 .mv [i 0]])
    (.ret)))
def r_spec_l2Made : List RV := [.cell 4 (some 2), .tmp 5]
def spec_l2Made_f (L_spec_l1Fits : (List Int) → Option (Bool)) (N : Nat) (a0 : List Int) (a1 : List Int) : Option (Alt (List Int × List Int) (List Int × List Int)) :=
  (L_spec_l1Fits a0).bind fun y0 =>
  if y0 = false then some ((.a ((a0, a1))))
  else some ((.b ((a0, a1))))
theorem spec_l2Made_g (E : En) (hp : E.ps = [0, 64]) (hl : E.pl = [0, 64]) (hk : E.ck = [(0, 3, 1), (64, 3, 1)]) (hr : E.rs = r_spec_l2Made) (hd : E.dd = none) (hw : ∀ y, E.wk y = some (nocap y)) (hfl : ∀ e, E.Γ.fl e = flatIds e) (m_spec_l1Fits : E.Γ.mu 47 = false) (L_spec_l1Fits : (List Int) → Option (Bool)) (h_spec_l1Fits : ∀ (a0 : List Int), E.Γ 47 [.d (lstT cI a0)] = (L_spec_l1Fits a0).bind fun r => some (.ret (.d (.bool r)) [])) (a0 : List Int) (a1 : List Int) : G E c_spec_l2Made [] ⟨slotsOf [(0, .row 0 1), (1, .row 64 1)], obsOf [(0, ⟨1, rowT cI 3 none a0, false⟩), (64, ⟨1, rowT cI 3 none a1, false⟩)]⟩ = (spec_l2Made_f L_spec_l1Fits E.n a0 a1).bind fun r => r.on (fun r => some (.ret (.tup [.agg [.nil, .nil], .d (.int .i64 6)]) [[lstT (cI) r.1], [lstT (cI) r.2]])) (fun r => some (.ret (.tup [.agg [.par 0, .par 1], .d (.int .i64 0)]) [[lstT (cI) r.1], [lstT (cI) r.2]])) := by
  simp (config := {maxSteps := 2000000}) only [↓rPre, rPost, rCan, rObj, rI, rS, rB, r8, rLI, rEtc, hp, hl, hk, hr, hd, hw, hfl, flatIds, oid, r_spec_l2Made, ↓G_unf _ _ c_spec_l2Made.eq_1, h_spec_l1Fits, m_spec_l1Fits, bind_ite, spec_l2Made_f, rRow3, rFile, rRow104, rRow62, rArray, rRow27, rRow5, rRow9, ↓reduceIte, Option.some_beq_some, Nat.reduceMul, Nat.reduceAdd, Nat.reduceSub, Nat.reduceEqDiff, Nat.reduceBEq, Nat.reduceLeDiff, Nat.reduceLT, Nat.zero_add, Nat.add_zero, Bool.not_true, Bool.not_false, Bool.and_true, Bool.true_and, Bool.and_false, Bool.false_and, Bool.and_self, Bool.or_false, Bool.false_or, Bool.or_true, Bool.true_or, Bool.or_self, decide_eq_true_eq, Bool.not_eq_true', Bool.not_eq_eq_eq_not, decide_eq_false_iff_not, ite_not, ite_self, List.nil_append, List.append_nil, Option.map_some, Option.map_none, List.length_replicate, Int.natCast_nonneg, and_self, and_true, true_and, Bool.false_eq_true, decide_true, decide_false, List.cons_append, reduceCtorEq, Int.reduceAdd, Int.reduceSub, Int.reduceToNat, Int.cast_ofNat_Int, Int.reduceNeg, Int.reduceEq, Int.reduceLT, Int.reduceLE, not_true_eq_false, not_false_eq_true, eq_self]
-- loop.example/s02135/spec.l2Row
def c_spec_l2Row : Cd :=
  sq (r [1, 2, 4] [o 2 .box [t 0], o 4 (.alloc [.nil, .nil]) []])
  (sq (r [1, 2, 4, 5] [o 7 (.fa 0) [t 2], o 8 (.ld none) [t 7], o 9 (.slc false 1 true false) [t 8, i 1], o 10 (.call 57) [t 9], o 5 .mv [t 10]])
   (sq (r [1, 2, 4, 5, 6] [o 11 .mv [t 5], o 12 (.call 48) [t 11], o 6 .mv [t 12]])
    (sq (r [4] [o 13 .mv [t 5], o 14 (.fa 1) [t 2], o 15 (.ld none) [t 14], o 16 .mv [t 1], o 17 .mv [t 6], o 18 (.bin .mul) [t 16, t 17], o 19 .mv [t 1], o 20 .mv [t 6], o 21 (.bin .mul) [t 19, t 20], o 22 .mv [t 6], o 23 (.bin .add) [t 21, t 22], o 24 (.slc false 1 true true) [t 15, t 18, t 23], o 25 (.call 57) [t 24], o 26 (.bld [.nil, .nil] [(0, 1), (1, 1)]) [t 13, t 25], e (.st 2) [t 4, t 26]])
     (.ret))))
def r_spec_l2Row : List RV := [.cell 4 (some 2)]
def spec_l2Row_f (L_spec_l2Copy : (List Int) → Option (List Int)) (L_spec_l1Product : (List Int) → Option (Int)) (N : Nat) (a0_Shape : List Int) (a0_Data : List Int) (a1 : Int) : Option (List Int × List Int) :=
  (cut a0_Shape 1 (↑(List.length a0_Shape) : Int)).bind fun y0 =>
  (L_spec_l2Copy y0).bind fun y1 =>
  (L_spec_l1Product y1).bind fun y2 =>
  (cut a0_Data (w64 (a1 * y2)) (w64 (w64 (a1 * y2) + y2))).bind fun y3 =>
  (L_spec_l2Copy y3).bind fun y4 =>
  some ((y1, y4))
theorem spec_l2Row_g (E : En) (hp : E.ps = []) (hl : E.pl = []) (hk : E.ck = []) (hr : E.rs = r_spec_l2Row) (hd : E.dd = none) (hw : ∀ y, E.wk y = some (nocap y)) (hfl : ∀ e, E.Γ.fl e = flatIds e) (m_spec_l2Copy : E.Γ.mu 57 = false) (L_spec_l2Copy : (List Int) → Option (List Int)) (h_spec_l2Copy : ∀ (a0 : List Int), E.Γ 57 [.d (lstT cI a0)] = (L_spec_l2Copy a0).bind fun r => some (.ret (ownT (cI) 3 none false r) [])) (m_spec_l1Product : E.Γ.mu 48 = false) (L_spec_l1Product : (List Int) → Option (Int)) (h_spec_l1Product : ∀ (a0 : List Int), E.Γ 48 [.d (lstT cI a0)] = (L_spec_l1Product a0).bind fun r => some (.ret (.d (.int .i64 r)) [])) (a0_Shape : List Int) (a0_Data : List Int) (a1 : Int) : G E c_spec_l2Row [] ⟨slotsOf [(0, .agg [.d (lstT cI a0_Shape), .d (lstT cI a0_Data)]), (1, .d (.int .i64 a1))], obsOf []⟩ = (spec_l2Row_f L_spec_l2Copy L_spec_l1Product E.n a0_Shape a0_Data a1).bind fun r => some (.ret (.agg [ownT (cI) 3 none false r.1, ownT (cI) 3 none false r.2]) []) := by
  simp (config := {maxSteps := 2000000}) only [↓rPre, rPost, rCan, rObj, rI, rS, rB, r8, rLI, rEtc, hp, hl, hk, hr, hd, hw, hfl, flatIds, oid, r_spec_l2Row, ↓G_unf _ _ c_spec_l2Row.eq_1, h_spec_l2Copy, m_spec_l2Copy, h_spec_l1Product, m_spec_l1Product, bind_ite, spec_l2Row_f, rRow3, rFile, rRow104, rRow62, rArray, rRow27, rRow5, rRow9, ↓reduceIte, Option.some_beq_some, Nat.reduceMul, Nat.reduceAdd, Nat.reduceSub, Nat.reduceEqDiff, Nat.reduceBEq, Nat.reduceLeDiff, Nat.reduceLT, Nat.zero_add, Nat.add_zero, Bool.not_true, Bool.not_false, Bool.and_true, Bool.true_and, Bool.and_false, Bool.false_and, Bool.and_self, Bool.or_false, Bool.false_or, Bool.or_true, Bool.true_or, Bool.or_self, decide_eq_true_eq, Bool.not_eq_true', Bool.not_eq_eq_eq_not, decide_eq_false_iff_not, ite_not, ite_self, List.nil_append, List.append_nil, Option.map_some, Option.map_none, List.length_replicate, Int.natCast_nonneg, and_self, and_true, true_and, Bool.false_eq_true, decide_true, decide_false, List.cons_append, reduceCtorEq, Int.reduceAdd, Int.reduceSub, Int.reduceToNat, Int.cast_ofNat_Int, Int.reduceNeg, Int.reduceEq, Int.reduceLT, Int.reduceLE, not_true_eq_false, not_false_eq_true, eq_self]
-- loop.example/s02135/spec.l2Reduce
def b0_spec_l2Reduce : Cd :=
  sq (sq (r [0, 3, 4, 11, 12, 64] [o 63 .mv [t 12], o 64 (.bin .geq) [t 63, i 0]])
   (.cond (t 64) (.skip) (.exit 0)))
  (sq (.block 1 (sq (rd [] [0, 3, 4, 11, 12, 13, 14] [ap [832] false [] (o 68 .mv [t 0]), ap [832] false [] (o 69 (.ld (some 2)) [t 3]), ap [832] false [] (o 70 .mv [t 12]), ap [832] false [] (o 72 (.ld (some 2)) [t 11]), ap [] true [3, 11] (o 13 (.alloc [.nil, .nil]) []), ap [832] false [11] (o 71 (.call 133) [t 69, t 70]), ap [832] false [] (o 73 (.call 68) [t 68, t 71, t 72]), ap [832] false [] (o 67 .mv [t 73]), ap [832] false [] (o 74 (.ext 0) [t 67]), ap [832] false [] (o 75 (.ext 1) [t 67]), e (.st 2) [t 13, t 74], o 14 .mv [t 75]])
     (sq (sq (r [0, 3, 4, 11, 12, 13, 14, 77] [o 76 .mv [t 14], o 77 (.bin .neq) [t 76, i 0]])
       (.cond (t 77) (sq (r [4, 5] [o 78 (.bld [.nil, .nil] []) [], o 79 .mv [t 14], e (.st 2) [t 4, t 78], o 5 .mv [t 79]])
         (.ret)) (.skip)))
      (r [0, 3, 4, 11, 12] [o 80 (.ld (some 2)) [t 13], e (.st 2) [t 11, t 80]]))))
   (r [0, 3, 4, 11, 12] [o 65 .mv [t 12], o 66 (.bin .sub) [t 65, i 1], o 12 .mv [t 66]]))
def k1_spec_l2Reduce : Cd :=
  sq (r [4, 5] [o 81 (.ld (some 2)) [t 11], e (.st 2) [t 4, t 81], o 5 .mv [i 0]])
  (.ret)
def c_spec_l2Reduce : Cd :=
  sq (r [0, 3, 4] [o 3 .box [t 1], o 4 (.alloc [.nil, .nil]) [], o 5 .mv [i 0]])
  (sq (sq (r [0, 3, 4, 18] [o 15 (.fa 0) [t 3], o 16 (.ld none) [t 15], o 17 (.len false) [t 16], o 18 (.bin .eql) [t 17, i 0]])
    (.cond (t 18) (sq (r [4, 5] [o 19 (lit 3 1 0) [], o 20 (.fa 1) [t 3], o 21 (.ld none) [t 20], o 22 (.call 57) [t 21], o 23 (.bld [.nil, .nil] [(0, 1), (1, 1)]) [t 19, t 22], e (.st 2) [t 4, t 23], o 5 .mv [i 0]])
      (.ret)) (.skip)))
   (sq (r [0, 3, 4, 6] [o 24 (.fa 0) [t 3], o 25 (.ld none) [t 24], o 26 (.ia 1) [t 25, i 0], o 27 (.ld none) [t 26], o 6 .mv [t 27]])
    (sq (sq (r [0, 3, 4, 6, 29] [o 28 .mv [t 6], o 29 (.bin .eql) [t 28, i 0]])
      (.cond (t 29) (sq (r [3, 4, 7, 8] [o 31 .mv [t 0], o 32 (.call 132) [t 31], o 30 .mv [t 32], o 33 (.ext 0) [t 30], o 34 (.ext 1) [t 30], o 7 .mv [t 33], o 8 .mv [t 34]])
        (sq (sq (r [3, 4, 7, 36] [o 35 .mv [t 8], o 36 .not [t 35]])
          (.cond (t 36) (sq (r [4, 5] [o 37 (.bld [.nil, .nil] []) [], e (.st 2) [t 4, t 37], o 5 .mv [i 1]])
            (.ret)) (.skip)))
         (sq (r [4, 7, 9, 10] [o 39 (.fa 0) [t 3], o 40 (.ld none) [t 39], o 41 (.slc false 1 true false) [t 40, i 1], o 42 (.call 57) [t 41], o 43 (lit 3 1 0) [], o 44 (.call 71) [t 42, t 43], o 38 .mv [t 44], o 45 (.ext 0) [t 38], o 46 (.ext 1) [t 38], o 9 (.alloc [.nil, .nil]) [], e (.st 2) [t 9, t 45], o 10 .mv [t 46]])
          (sq (sq (r [4, 7, 9, 10, 48] [o 47 .mv [t 10], o 48 (.bin .neq) [t 47, i 0]])
            (.cond (t 48) (sq (r [4, 5] [o 49 (.bld [.nil, .nil] []) [], o 50 .mv [t 10], e (.st 2) [t 4, t 49], o 5 .mv [t 50]])
              (.ret)) (.skip)))
           (sq (r [4, 5] [o 51 .mv [t 7], o 52 (lit 3 1 1) [t 51], o 53 (.bld [.nil, .nil] [(1, 1)]) [t 52], o 54 (.fa 0) [t 9], o 55 (.ld none) [t 54], o 56 (.call 127) [t 53, t 55], e (.st 2) [t 4, t 56], o 5 .mv [i 0]])
            (.ret)))))) (.skip)))
     (sq (r [0, 3, 4, 6, 11] [o 57 (.ld (some 2)) [t 3], o 58 .mv [t 6], o 59 (.bin .sub) [t 58, i 1], o 60 (.call 133) [t 57, t 59], o 11 (.alloc [.nil, .nil]) [], e (.st 2) [t 11, t 60]])
      (sq (sq (r [0, 3, 4, 11, 12] [o 61 .mv [t 6], o 62 (.bin .sub) [t 61, i 2], o 12 .mv [t 62]])
        (.block 0 (.loop [0, 3, 4, 11, 12] b0_spec_l2Reduce))) k1_spec_l2Reduce)))))
def r_spec_l2Reduce : List RV := [.cell 4 (some 2), .tmp 5]
def spec_l2Reduce_l0 (L_spec_l2Copy : (List Int) → Option (List Int)) (L_spec_l2None : Int → Option (Int × Bool)) (L_spec_l2Made : (List Int) → (List Int) → Option (Alt (List Int × List Int) (List Int × List Int))) (L_spec_l2Wide : (List Int) → (List Int) → (List Int) → Option (List Int × List Int)) (L_spec_l2Row : (List Int) → (List Int) → Int → Option (List Int × List Int)) (L_spec_l2Each : Int → (List Int) → (List Int) → (List Int) → (List Int) → Option (List Int × List Int × Int)) : Nat → Int → Int → (List Int) → (List Int) → (List Int) → (List Int) → Option (List Int × List Int × Int)
  | 0, _, _, _, _, _, _ => none
  | m0 + 1, x0, x12, o192_0, o192_1, o705, o706 =>
    if 0 ≤ x12 then ((L_spec_l2Row o192_0 o192_1 x12).bind fun y0 =>
     (L_spec_l2Each x0 y0.fst y0.snd o705 o706).bind fun y1 =>
     if y1.snd.snd = 0 then spec_l2Reduce_l0 L_spec_l2Copy L_spec_l2None L_spec_l2Made L_spec_l2Wide L_spec_l2Row L_spec_l2Each m0 x0 (w64 (x12 - 1)) o192_0 o192_1 y1.fst y1.snd.fst
     else some (([], [], y1.snd.snd)))
    else some ((o705, o706, 0))
def spec_l2Reduce_f (L_spec_l2Copy : (List Int) → Option (List Int)) (L_spec_l2None : Int → Option (Int × Bool)) (L_spec_l2Made : (List Int) → (List Int) → Option (Alt (List Int × List Int) (List Int × List Int))) (L_spec_l2Wide : (List Int) → (List Int) → (List Int) → Option (List Int × List Int)) (L_spec_l2Row : (List Int) → (List Int) → Int → Option (List Int × List Int)) (L_spec_l2Each : Int → (List Int) → (List Int) → (List Int) → (List Int) → Option (List Int × List Int × Int)) (N : Nat) (a0 : Int) (a1_Shape : List Int) (a1_Data : List Int) : Option (List Int × List Int × Int) :=
  if (↑(List.length a1_Shape) : Int) = 0 then ((L_spec_l2Copy a1_Data).bind fun y0 =>
   some (([], y0, 0)))
  else ((idx a1_Shape 0).bind fun y1 =>
   if y1 = 0 then ((L_spec_l2None a0).bind fun y2 =>
    if y2.snd = false then some (([], [], 1))
    else ((cut a1_Shape 1 (↑(List.length a1_Shape) : Int)).bind fun y3 =>
     (L_spec_l2Copy y3).bind fun y4 =>
     (L_spec_l2Made y4 []).bind fun y5 =>
     (y5).on (fun y6 => some (([], [], 6))) (fun y6 => (L_spec_l2Wide [] [y2.fst] y6.fst).bind fun y7 =>
      some ((y7.fst, y7.snd, 0)))))
   else ((L_spec_l2Row a1_Shape a1_Data (w64 (y1 - 1))).bind fun y8 =>
    spec_l2Reduce_l0 L_spec_l2Copy L_spec_l2None L_spec_l2Made L_spec_l2Wide L_spec_l2Row L_spec_l2Each N a0 (w64 (y1 - 2)) a1_Shape a1_Data y8.fst y8.snd))
theorem spec_l2Reduce_l0_eq (E : En) (hp : E.ps = []) (hl : E.pl = []) (hk : E.ck = []) (hr : E.rs = r_spec_l2Reduce) (hd : E.dd = none) (hw : ∀ y, E.wk y = some (nocap (asOwn (.node [.node [.own 3 1, .own 3 1], .k]) y))) (hfl : ∀ e, E.Γ.fl e = flatIds e) (m_spec_l2Copy : E.Γ.mu 57 = false) (L_spec_l2Copy : (List Int) → Option (List Int)) (h_spec_l2Copy : ∀ (a0 : List Int), E.Γ 57 [.d (lstT cI a0)] = (L_spec_l2Copy a0).bind fun r => some (.ret (ownT (cI) 3 none false r) [])) (m_spec_l2None : E.Γ.mu 132 = false) (L_spec_l2None : Int → Option (Int × Bool)) (h_spec_l2None : ∀ (a0 : Int), E.Γ 132 [.d (.int .i64 a0)] = (L_spec_l2None a0).bind fun r => some (.ret (.tup [.d (.int .i64 r.1), .d (.bool r.2)]) [])) (m_spec_l2Made : E.Γ.mu 71 = true) (L_spec_l2Made : (List Int) → (List Int) → Option (Alt (List Int × List Int) (List Int × List Int))) (h_spec_l2Made : ∀ (a0 : List Int) (a1 : List Int), E.Γ 71 [ownT cI 3 none false a0, ownT cI 3 none false a1] = (L_spec_l2Made a0 a1).bind fun r => r.on (fun r => some (.ret (.tup [.agg [.nil, .nil], .d (.int .i64 6)]) [[lstT (cI) r.1], [lstT (cI) r.2]])) (fun r => some (.ret (.tup [.agg [.par 0, .par 1], .d (.int .i64 0)]) [[lstT (cI) r.1], [lstT (cI) r.2]]))) (m_spec_l2Wide : E.Γ.mu 127 = false) (L_spec_l2Wide : (List Int) → (List Int) → (List Int) → Option (List Int × List Int)) (h_spec_l2Wide : ∀ (a0_Shape : List Int) (a0_Data : List Int) (a1 : List Int), E.Γ 127 [.agg [.d (lstT cI a0_Shape), .d (lstT cI a0_Data)], .d (lstT cI a1)] = (L_spec_l2Wide a0_Shape a0_Data a1).bind fun r => some (.ret (.agg [ownT (cI) 3 none false r.1, ownT (cI) 3 none false r.2]) [])) (m_spec_l2Row : E.Γ.mu 133 = false) (L_spec_l2Row : (List Int) → (List Int) → Int → Option (List Int × List Int)) (h_spec_l2Row : ∀ (a0_Shape : List Int) (a0_Data : List Int) (a1 : Int), E.Γ 133 [.agg [.d (lstT cI a0_Shape), .d (lstT cI a0_Data)], .d (.int .i64 a1)] = (L_spec_l2Row a0_Shape a0_Data a1).bind fun r => some (.ret (.agg [ownT (cI) 3 none false r.1, ownT (cI) 3 none false r.2]) [])) (m_spec_l2Each : E.Γ.mu 68 = false) (L_spec_l2Each : Int → (List Int) → (List Int) → (List Int) → (List Int) → Option (List Int × List Int × Int)) (h_spec_l2Each : ∀ (a0 : Int) (a1_Shape : List Int) (a1_Data : List Int) (a2_Shape : List Int) (a2_Data : List Int), E.Γ 68 [.d (.int .i64 a0), .agg [.d (lstT cI a1_Shape), .d (lstT cI a1_Data)], .agg [.d (lstT cI a2_Shape), .d (lstT cI a2_Data)]] = (L_spec_l2Each a0 a1_Shape a1_Data a2_Shape a2_Data).bind fun r => some (.ret (.tup [.agg [ownT (cI) 3 none false r.1, ownT (cI) 3 none false r.2.1], .d (.int .i64 r.2.2)]) [])) : ∀ (m0 : Nat) (x0 : Int) (x12 : Int) (o192_0 : List Int) (o192_1 : List Int) (o705 : List Int) (o706 : List Int), gH E [0, 3, 4, 11, 12] b0_spec_l2Reduce [KJ.b 0, KJ.c k1_spec_l2Reduce] m0 ⟨slotsOf [(0, .d (.int .i64 x0)), (3, A.adr 192 1 0), (4, A.adr 256 1 0), (11, A.adr 704 1 0), (12, .d (.int .i64 x12))], obsOf [(192, ⟨1, .box [.d (lstT (cI) o192_0), .d (lstT (cI) o192_1)], false⟩), (256, ⟨1, .box [A.nil, A.nil], false⟩), (704, ⟨1, .box [A.row 705 1, A.row 706 1], false⟩), (705, ⟨1, rowT (cI) 3 none o705, false⟩), (706, ⟨1, rowT (cI) 3 none o706, false⟩)]⟩ = (spec_l2Reduce_l0 L_spec_l2Copy L_spec_l2None L_spec_l2Made L_spec_l2Wide L_spec_l2Row L_spec_l2Each m0 x0 x12 o192_0 o192_1 o705 o706).bind fun r => some (.ret (.tup [.agg [ownT (cI) 3 none false r.1, ownT (cI) 3 none false r.2.1], .d (.int .i64 r.2.2)]) []) := by
  intro m0
  induction m0 with
  | zero => intros; rfl
  | succ m0 ih =>
    intros
    simp (config := {maxSteps := 2000000}) only [↓rPre, rPost, rCan, rObj, rI, rS, rB, r8, rLI, rEtc, hp, hl, hk, hr, hd, hw, hfl, flatIds, oid, r_spec_l2Reduce, ↓G_unf _ _ b0_spec_l2Reduce.eq_1, ↓G_unf _ _ k1_spec_l2Reduce.eq_1, ↓G_unf _ _ c_spec_l2Reduce.eq_1, h_spec_l2Copy, m_spec_l2Copy, h_spec_l2None, m_spec_l2None, h_spec_l2Made, m_spec_l2Made, h_spec_l2Wide, m_spec_l2Wide, (show ∀ (a0_Data : List Int) (a1 : List Int), E.Γ 127 [.agg [.d (.lst 0 []), .d (lstT cI a0_Data)], .d (lstT cI a1)] = (L_spec_l2Wide [] a0_Data a1).bind fun r => some (.ret (.agg [ownT (cI) 3 none false r.1, ownT (cI) 3 none false r.2]) []) from fun a0_Data a1 => h_spec_l2Wide [] a0_Data a1), h_spec_l2Row, m_spec_l2Row, h_spec_l2Each, m_spec_l2Each, gH_succ, ih, bind_ite, spec_l2Reduce_l0, rRow3, rFile, rRow104, rRow62, rRow22, rArray, rRow27, rRow5, rRow9, ↓reduceIte, Option.some_beq_some, Nat.reduceMul, Nat.reduceAdd, Nat.reduceSub, Nat.reduceEqDiff, Nat.reduceBEq, Nat.reduceLeDiff, Nat.reduceLT, Nat.zero_add, Nat.add_zero, Bool.not_true, Bool.not_false, Bool.and_true, Bool.true_and, Bool.and_false, Bool.false_and, Bool.and_self, Bool.or_false, Bool.false_or, Bool.or_true, Bool.true_or, Bool.or_self, decide_eq_true_eq, Bool.not_eq_true', Bool.not_eq_eq_eq_not, decide_eq_false_iff_not, ite_not, ite_self, List.nil_append, List.append_nil, Option.map_some, Option.map_none, List.length_replicate, Int.natCast_nonneg, and_self, and_true, true_and, Bool.false_eq_true, decide_true, decide_false, List.cons_append, reduceCtorEq, Int.reduceAdd, Int.reduceSub, Int.reduceToNat, Int.cast_ofNat_Int, Int.reduceNeg, Int.reduceEq, Int.reduceLT, Int.reduceLE, not_true_eq_false, not_false_eq_true, eq_self]
theorem spec_l2Reduce_g (E : En) (hp : E.ps = []) (hl : E.pl = []) (hk : E.ck = []) (hr : E.rs = r_spec_l2Reduce) (hd : E.dd = none) (hw : ∀ y, E.wk y = some (nocap (asOwn (.node [.node [.own 3 1, .own 3 1], .k]) y))) (hfl : ∀ e, E.Γ.fl e = flatIds e) (m_spec_l2Copy : E.Γ.mu 57 = false) (L_spec_l2Copy : (List Int) → Option (List Int)) (h_spec_l2Copy : ∀ (a0 : List Int), E.Γ 57 [.d (lstT cI a0)] = (L_spec_l2Copy a0).bind fun r => some (.ret (ownT (cI) 3 none false r) [])) (m_spec_l2None : E.Γ.mu 132 = false) (L_spec_l2None : Int → Option (Int × Bool)) (h_spec_l2None : ∀ (a0 : Int), E.Γ 132 [.d (.int .i64 a0)] = (L_spec_l2None a0).bind fun r => some (.ret (.tup [.d (.int .i64 r.1), .d (.bool r.2)]) [])) (m_spec_l2Made : E.Γ.mu 71 = true) (L_spec_l2Made : (List Int) → (List Int) → Option (Alt (List Int × List Int) (List Int × List Int))) (h_spec_l2Made : ∀ (a0 : List Int) (a1 : List Int), E.Γ 71 [ownT cI 3 none false a0, ownT cI 3 none false a1] = (L_spec_l2Made a0 a1).bind fun r => r.on (fun r => some (.ret (.tup [.agg [.nil, .nil], .d (.int .i64 6)]) [[lstT (cI) r.1], [lstT (cI) r.2]])) (fun r => some (.ret (.tup [.agg [.par 0, .par 1], .d (.int .i64 0)]) [[lstT (cI) r.1], [lstT (cI) r.2]]))) (m_spec_l2Wide : E.Γ.mu 127 = false) (L_spec_l2Wide : (List Int) → (List Int) → (List Int) → Option (List Int × List Int)) (h_spec_l2Wide : ∀ (a0_Shape : List Int) (a0_Data : List Int) (a1 : List Int), E.Γ 127 [.agg [.d (lstT cI a0_Shape), .d (lstT cI a0_Data)], .d (lstT cI a1)] = (L_spec_l2Wide a0_Shape a0_Data a1).bind fun r => some (.ret (.agg [ownT (cI) 3 none false r.1, ownT (cI) 3 none false r.2]) [])) (m_spec_l2Row : E.Γ.mu 133 = false) (L_spec_l2Row : (List Int) → (List Int) → Int → Option (List Int × List Int)) (h_spec_l2Row : ∀ (a0_Shape : List Int) (a0_Data : List Int) (a1 : Int), E.Γ 133 [.agg [.d (lstT cI a0_Shape), .d (lstT cI a0_Data)], .d (.int .i64 a1)] = (L_spec_l2Row a0_Shape a0_Data a1).bind fun r => some (.ret (.agg [ownT (cI) 3 none false r.1, ownT (cI) 3 none false r.2]) [])) (m_spec_l2Each : E.Γ.mu 68 = false) (L_spec_l2Each : Int → (List Int) → (List Int) → (List Int) → (List Int) → Option (List Int × List Int × Int)) (h_spec_l2Each : ∀ (a0 : Int) (a1_Shape : List Int) (a1_Data : List Int) (a2_Shape : List Int) (a2_Data : List Int), E.Γ 68 [.d (.int .i64 a0), .agg [.d (lstT cI a1_Shape), .d (lstT cI a1_Data)], .agg [.d (lstT cI a2_Shape), .d (lstT cI a2_Data)]] = (L_spec_l2Each a0 a1_Shape a1_Data a2_Shape a2_Data).bind fun r => some (.ret (.tup [.agg [ownT (cI) 3 none false r.1, ownT (cI) 3 none false r.2.1], .d (.int .i64 r.2.2)]) [])) (a0 : Int) (a1_Shape : List Int) (a1_Data : List Int) : G E c_spec_l2Reduce [] ⟨slotsOf [(0, .d (.int .i64 a0)), (1, .agg [.d (lstT cI a1_Shape), .d (lstT cI a1_Data)])], obsOf []⟩ = (spec_l2Reduce_f L_spec_l2Copy L_spec_l2None L_spec_l2Made L_spec_l2Wide L_spec_l2Row L_spec_l2Each E.n a0 a1_Shape a1_Data).bind fun r => some (.ret (.tup [.agg [ownT (cI) 3 none false r.1, ownT (cI) 3 none false r.2.1], .d (.int .i64 r.2.2)]) []) := by
  simp (config := {maxSteps := 2000000}) only [↓rPre, rPost, rCan, rObj, rI, rS, rB, r8, rLI, rEtc, hp, hl, hk, hr, hd, hw, hfl, flatIds, oid, r_spec_l2Reduce, ↓G_unf _ _ b0_spec_l2Reduce.eq_1, ↓G_unf _ _ k1_spec_l2Reduce.eq_1, ↓G_unf _ _ c_spec_l2Reduce.eq_1, h_spec_l2Copy, m_spec_l2Copy, h_spec_l2None, m_spec_l2None, h_spec_l2Made, m_spec_l2Made, h_spec_l2Wide, m_spec_l2Wide, (show ∀ (a0_Data : List Int) (a1 : List Int), E.Γ 127 [.agg [.d (.lst 0 []), .d (lstT cI a0_Data)], .d (lstT cI a1)] = (L_spec_l2Wide [] a0_Data a1).bind fun r => some (.ret (.agg [ownT (cI) 3 none false r.1, ownT (cI) 3 none false r.2]) []) from fun a0_Data a1 => h_spec_l2Wide [] a0_Data a1), h_spec_l2Row, m_spec_l2Row, h_spec_l2Each, m_spec_l2Each, bind_ite, spec_l2Reduce_f, spec_l2Reduce_l0_eq E hp hl hk hr hd hw hfl m_spec_l2Copy L_spec_l2Copy h_spec_l2Copy m_spec_l2None L_spec_l2None h_spec_l2None m_spec_l2Made L_spec_l2Made h_spec_l2Made m_spec_l2Wide L_spec_l2Wide h_spec_l2Wide m_spec_l2Row L_spec_l2Row h_spec_l2Row m_spec_l2Each L_spec_l2Each h_spec_l2Each, rRow3, rFile, rRow104, rRow62, rRow22, rArray, rRow27, rRow5, rRow9, ↓reduceIte, Option.some_beq_some, Nat.reduceMul, Nat.reduceAdd, Nat.reduceSub, Nat.reduceEqDiff, Nat.reduceBEq, Nat.reduceLeDiff, Nat.reduceLT, Nat.zero_add, Nat.add_zero, Bool.not_true, Bool.not_false, Bool.and_true, Bool.true_and, Bool.and_false, Bool.false_and, Bool.and_self, Bool.or_false, Bool.false_or, Bool.or_true, Bool.true_or, Bool.or_self, decide_eq_true_eq, Bool.not_eq_true', Bool.not_eq_eq_eq_not, decide_eq_false_iff_not, ite_not, ite_self, List.nil_append, List.append_nil, Option.map_some, Option.map_none, List.length_replicate, Int.natCast_nonneg, and_self, and_true, true_and, Bool.false_eq_true, decide_true, decide_false, List.cons_append, reduceCtorEq, Int.reduceAdd, Int.reduceSub, Int.reduceToNat, Int.cast_ofNat_Int, Int.reduceNeg, Int.reduceEq, Int.reduceLT, Int.reduceLE, not_true_eq_false, not_false_eq_true, eq_self]
-- loop.example/s02135/impl.nothingOf
def c_impl_nothingOf : Cd :=
  sq (r [0, 2] [o 2 .mv [i 0]])
  (sq (sq (r [2, 3] [o 3 .mv [t 0]])
    (.block 0 (sq (sq (r [2, 3, 4] [o 5 (.bin .eql) [t 3, i 1], o 4 .mv [t 5]])
       (.cond (t 4) (.skip) (sq (r [2, 3, 4] [o 6 (.bin .eql) [t 3, i 2], o 4 .mv [t 6]])
         (.cond (t 4) (.skip) (r [2, 3, 4] [o 7 (.bin .eql) [t 3, i 5], o 4 .mv [t 7]])))))
      (.cond (t 4) (sq (r [2] [o 2 .mv [i 0]])
        (.ret)) (sq (sq (r [2, 3, 8] [o 9 (.bin .eql) [t 3, i 3], o 8 .mv [t 9]])
         (.cond (t 8) (.skip) (r [2, 3, 8] [o 10 (.bin .eql) [t 3, i 4], o 8 .mv [t 10]])))
        (.cond (t 8) (sq (r [2] [o 2 .mv [i 1]])
          (.ret)) (sq (r [2, 3, 11] [o 12 (.bin .eql) [t 3, i 6], o 11 .mv [t 12]])
          (.cond (t 11) (sq (r [2] [o 2 .mv [i 3000000000]])
            (.ret)) (sq (r [2, 13] [o 14 (.bin .eql) [t 3, i 7], o 13 .mv [t 14]])
            (.cond (t 13) (sq (r [2] [o 2 .mv [i (-3000000000)]])
              (.ret)) (.skip)))))))))))
   (r [2] [o 15 (.bld [(.d (iD 0))] [(0, 1)]) [i 1], o 16 (.mkI 70) [t 15], e .pan [t 16]]))
def r_impl_nothingOf : List RV := [.tmp 2]
def impl_nothingOf_f (N : Nat) (a0 : Int) : Option (Res (Int)) :=
  if a0 = 1 then (if a0 = 1 then some (.ok 0)
   else (if a0 = 3 then (if a0 = 3 then some (.ok 1)
     else (if a0 = 6 then some (.ok 3000000000)
      else (if a0 = 7 then some (.ok (-3000000000))
       else some (.pan (D.ifaceS 70 [D.int .i64 1])))))
    else (if a0 = 4 then some (.ok 1)
     else (if a0 = 6 then some (.ok 3000000000)
      else (if a0 = 7 then some (.ok (-3000000000))
       else some (.pan (D.ifaceS 70 [D.int .i64 1])))))))
  else (if a0 = 2 then (if a0 = 2 then some (.ok 0)
    else (if a0 = 3 then (if a0 = 3 then some (.ok 1)
      else (if a0 = 6 then some (.ok 3000000000)
       else (if a0 = 7 then some (.ok (-3000000000))
        else some (.pan (D.ifaceS 70 [D.int .i64 1])))))
     else (if a0 = 4 then some (.ok 1)
      else (if a0 = 6 then some (.ok 3000000000)
       else (if a0 = 7 then some (.ok (-3000000000))
        else some (.pan (D.ifaceS 70 [D.int .i64 1])))))))
   else (if a0 = 5 then some (.ok 0)
    else (if a0 = 3 then (if a0 = 3 then some (.ok 1)
      else (if a0 = 6 then some (.ok 3000000000)
       else (if a0 = 7 then some (.ok (-3000000000))
        else some (.pan (D.ifaceS 70 [D.int .i64 1])))))
     else (if a0 = 4 then some (.ok 1)
      else (if a0 = 6 then some (.ok 3000000000)
       else (if a0 = 7 then some (.ok (-3000000000))
        else some (.pan (D.ifaceS 70 [D.int .i64 1]))))))))
theorem impl_nothingOf_g (E : En) (hp : E.ps = []) (hl : E.pl = []) (hk : E.ck = []) (hr : E.rs = r_impl_nothingOf) (hd : E.dd = none) (hw : ∀ y, E.wk y = some (nocap y)) (hfl : ∀ e, E.Γ.fl e = flatIds e) (a0 : Int) : G E c_impl_nothingOf [] ⟨slotsOf [(0, .d (.int .i64 a0))], obsOf []⟩ = (impl_nothingOf_f E.n a0).bind fun r => r.on (fun r => some (.ret (.d (.int .i64 r)) [])) (fun x => some (.pan x [])) := by
  simp (config := {maxSteps := 2000000}) only [↓rPre, rPost, rCan, rObj, rI, rS, rB, r8, rLI, rEtc, hp, hl, hk, hr, hd, hw, hfl, flatIds, oid, r_impl_nothingOf, ↓G_unf _ _ c_impl_nothingOf.eq_1, bind_ite, impl_nothingOf_f, rRow3, rFile, rRow104, rRow62, rRow22, rArray, rRow27, rRow5, rRow9, ↓reduceIte, Option.some_beq_some, Nat.reduceMul, Nat.reduceAdd, Nat.reduceSub, Nat.reduceEqDiff, Nat.reduceBEq, Nat.reduceLeDiff, Nat.reduceLT, Nat.zero_add, Nat.add_zero, Bool.not_true, Bool.not_false, Bool.and_true, Bool.true_and, Bool.and_false, Bool.false_and, Bool.and_self, Bool.or_false, Bool.false_or, Bool.or_true, Bool.true_or, Bool.or_self, decide_eq_true_eq, Bool.not_eq_true', Bool.not_eq_eq_eq_not, decide_eq_false_iff_not, ite_not, ite_self, List.nil_append, List.append_nil, Option.map_some, Option.map_none, List.length_replicate, Int.natCast_nonneg, and_self, and_true, true_and, Bool.false_eq_true, decide_true, decide_false, List.cons_append, reduceCtorEq, Int.reduceAdd, Int.reduceSub, Int.reduceToNat, Int.cast_ofNat_Int, Int.reduceNeg, Int.reduceEq, Int.reduceLT, Int.reduceLE, not_true_eq_false, not_false_eq_true, eq_self]
-- loop.example/s02135/impl.fold
def b0_impl_fold : Cd :=
  sq (r [8, 9, 10, 25, 26, 27] [o 27 (.bin .lss) [t 26, t 25]])
  (sq (.cond (t 27) (.skip) (.exit 0))
   (sq (.block 1 (r [8, 9, 10, 25, 26] [o 28 (.fa 1) [t 10], o 29 (.ld none) [t 28], o 30 .mv [t 9], o 31 (lit 3 1 1) [t 30], o 32 (.app 3 1 8) [t 29, t 31], o 33 (.fa 1) [t 10], e (.st 1) [t 33, t 32]]))
    (r [8, 9, 10, 25, 26] [o 34 (.bin .add) [t 26, i 1], o 26 .mv [t 34]])))
def k1_impl_fold : Cd :=
  sq (r [8] [o 35 (.ld (some 2)) [t 10], e (.st 2) [t 8, t 35]])
  (.ret)
def b2_impl_fold : Cd :=
  sq (r [1, 6, 8, 11, 12, 13, 62, 63, 64] [o 64 (.bin .lss) [t 63, t 62]])
  (sq (.cond (t 64) (.skip) (.exit 4))
   (sq (.block 5 (sq (r [1, 6, 8, 11, 12, 13, 14, 62, 63] [o 65 .mv [t 63], o 14 .mv [t 65]])
      (rd [] [1, 6, 8, 11, 12, 13, 62, 63] [o 66 .mv [t 12], o 67 .mv [t 14], o 68 .mv [t 1], o 69 (.fa 1) [t 6], o 70 (.ld none) [t 69], o 71 .mv [t 13], o 72 .mv [t 11], o 73 (.bin .mul) [t 71, t 72], o 74 .mv [t 14], o 75 (.bin .add) [t 73, t 74], o 76 (.ia 1) [t 70, t 75], o 77 (.ld none) [t 76], o 78 .mv [t 12], o 79 .mv [t 14], o 80 (.ia 1) [t 78, t 79], o 81 (.ld none) [t 80], o 82 .dyn [t 68, t 77, t 81], o 83 (.ia 1) [t 66, t 67], e (.st 1) [t 83, t 82]])))
    (r [1, 6, 8, 11, 12, 13, 62, 63] [o 84 (.bin .add) [t 63, i 1], o 63 .mv [t 84]])))
def k3_impl_fold : Cd :=
  r [1, 6, 8, 11, 12, 13] [o 59 .mv [t 13], o 60 (.bin .sub) [t 59, i 1], o 13 .mv [t 60]]
def b4_impl_fold : Cd :=
  sq (sq (r [1, 6, 8, 11, 12, 13, 58] [o 57 .mv [t 13], o 58 (.bin .geq) [t 57, i 0]])
   (.cond (t 58) (.skip) (.exit 2)))
  (sq (.block 3 (sq (r [1, 6, 8, 11, 12, 13, 62, 63] [o 61 .mv [t 12], o 62 (.len false) [t 61], o 63 .mv [i 0]])
     (.block 4 (.loop [1, 6, 8, 11, 12, 13, 62, 63] b2_impl_fold)))) k3_impl_fold)
def k5_impl_fold : Cd :=
  sq (r [8] [o 85 (.fa 0) [t 6], o 86 (.ld none) [t 85], o 87 (.slc false 1 true false) [t 86, i 1], o 88 (.call 126) [t 87], o 89 .mv [t 12], o 90 (.bld [.nil, .nil] [(0, 1), (1, 1)]) [t 88, t 89], e (.st 2) [t 8, t 90]])
  (.ret)
def k6_impl_fold : Cd :=
  sq (rd [] [1, 3, 6, 8, 11] [o 36 (.fa 1) [t 6], o 37 (.ld none) [t 36], o 38 (.len false) [t 37], o 39 (.fa 0) [t 6], o 40 (.ld none) [t 39], o 41 (.ia 1) [t 40, i 0], o 42 (.ld none) [t 41], o 43 (.bin .quo) [t 38, t 42], o 11 .mv [t 43]])
  (sq (r [1, 3, 6, 8, 11, 12] [o 44 (.fa 1) [t 6], o 45 (.ld none) [t 44], o 46 .mv [t 3], o 47 (.bin .sub) [t 46, i 1], o 48 .mv [t 11], o 49 (.bin .mul) [t 47, t 48], o 50 .mv [t 3], o 51 .mv [t 11], o 52 (.bin .mul) [t 50, t 51], o 53 (.slc false 1 true true) [t 45, t 49, t 52], o 54 (.call 126) [t 53], o 12 .mv [t 54]])
   (sq (sq (r [1, 6, 8, 11, 12, 13] [o 55 .mv [t 3], o 56 (.bin .sub) [t 55, i 2], o 13 .mv [t 56]])
     (.block 2 (.loop [1, 6, 8, 11, 12, 13] b4_impl_fold))) k5_impl_fold))
def c_impl_fold : Cd :=
  sq (r [0, 1, 3, 6, 8] [o 6 .box [t 2], o 8 (.alloc [.nil, .nil]) []])
  (sq (sq (r [0, 1, 3, 6, 8, 16] [o 15 .mv [t 3], o 16 (.bin .eql) [t 15, i 0]])
    (.cond (t 16) (sq (r [6, 8, 9] [o 17 .mv [t 0], o 18 (.call 80) [t 17], o 9 .mv [t 18]])
      (sq (r [8, 9, 10] [o 19 (.fa 0) [t 6], o 20 (.ld none) [t 19], o 21 (.slc false 1 true false) [t 20, i 1], o 22 (.call 64) [t 21], o 10 (.alloc [.nil, .nil]) [], e (.st 2) [t 10, t 22]])
       (sq (sq (r [8, 9, 10, 25, 26] [o 23 (.fa 1) [t 10], o 24 (.ld none) [t 23], o 25 .cap [t 24], o 26 .mv [i 0]])
         (.block 0 (.loop [8, 9, 10, 25, 26] b0_impl_fold))) k1_impl_fold))) (.skip))) k6_impl_fold)
def r_impl_fold : List RV := [.cell 8 (some 2)]
def impl_fold_l2 (L_impl_nothingOf : Int → Option (Res (Int))) (L_impl_made : (List Int) → Option (Res (List Int × Option Nat × List Int))) (L_slices_Clone___int_int_ : (List Int) → Option (List Int)) (L_dyn : Nat → Int → Int → Option (Res Int)) (K1 : Nat → Int → Int → (List Int) → (List Int) → (List Int) → Option (Res (List Int × List Int))) : Nat → Nat → Int → Int → Int → Int → (List Int) → (List Int) → (List Int) → Option (Res (List Int × List Int))
  | 0, _, _, _, _, _, _, _, _ => none
  | m2 + 1, x1, x11, x13, x62, x63, o384_0, o384_1, o768 =>
    if x63 < x62 then ((idx o384_1 (w64 (w64 (x13 * x11) + x63))).bind fun y0 =>
     if 0 ≤ x63 ∧ x63 < (↑(List.length o768) : Int) then ((o768[Int.toNat x63]?).bind fun y1 =>
      (L_dyn x1 y0 y1).bind fun y2 =>
      (y2).on (fun y3 => if 0 ≤ x63 ∧ x63 < (↑(List.length o768) : Int) then ((setN o768 (Int.toNat x63) y3).bind fun y4 =>
        impl_fold_l2 L_impl_nothingOf L_impl_made L_slices_Clone___int_int_ L_dyn K1 m2 x1 x11 x13 x62 (w64 (x63 + 1)) o384_0 o384_1 y4)
       else none) (fun y3 => some (.pan (y3))))
     else none)
    else K1 x1 x11 (w64 (x13 - 1)) o384_0 o384_1 o768
def impl_fold_l1 (L_impl_nothingOf : Int → Option (Res (Int))) (L_impl_made : (List Int) → Option (Res (List Int × Option Nat × List Int))) (L_slices_Clone___int_int_ : (List Int) → Option (List Int)) (L_dyn : Nat → Int → Int → Option (Res Int)) (N : Nat) : Nat → Nat → Int → Int → (List Int) → (List Int) → (List Int) → Option (Res (List Int × List Int))
  | 0, _, _, _, _, _, _ => none
  | m1 + 1, x1, x11, x13, o384_0, o384_1, o768 =>
    if 0 ≤ x13 then impl_fold_l2 L_impl_nothingOf L_impl_made L_slices_Clone___int_int_ L_dyn (impl_fold_l1 L_impl_nothingOf L_impl_made L_slices_Clone___int_int_ L_dyn N m1) N x1 x11 x13 ((↑(List.length o768) : Int)) 0 o384_0 o384_1 o768
    else ((cut o384_0 1 (↑(List.length o384_0) : Int)).bind fun y0 =>
     (L_slices_Clone___int_int_ y0).bind fun y1 =>
     some (.ok ((y1, o768))))
def impl_fold_l0 (L_impl_nothingOf : Int → Option (Res (Int))) (L_impl_made : (List Int) → Option (Res (List Int × Option Nat × List Int))) (L_slices_Clone___int_int_ : (List Int) → Option (List Int)) (L_dyn : Nat → Int → Int → Option (Res Int)) : Nat → Int → Int → Int → (List Int) → (List Int) → Option (Res (List Int × List Int))
  | 0, _, _, _, _, _ => none
  | m0 + 1, x9, x25, x26, o641, o642 =>
    if x26 < x25 then (if room 8 (List.length (o642 ++ [x9])) then impl_fold_l0 L_impl_nothingOf L_impl_made L_slices_Clone___int_int_ L_dyn m0 x9 x25 (w64 (x26 + 1)) o641 (o642 ++ [x9])
     else none)
    else some (.ok ((o641, o642)))
def impl_fold_f (L_impl_nothingOf : Int → Option (Res (Int))) (L_impl_made : (List Int) → Option (Res (List Int × Option Nat × List Int))) (L_slices_Clone___int_int_ : (List Int) → Option (List Int)) (L_dyn : Nat → Int → Int → Option (Res Int)) (N : Nat) (a0 : Int) (a1 : Nat) (a2_Shape : List Int) (a2_Data : List Int) (a3 : Int) : Option (Res (List Int × List Int)) :=
  if a3 = 0 then ((L_impl_nothingOf a0).bind fun y0 =>
   (y0).on (fun y1 => (cut a2_Shape 1 (↑(List.length a2_Shape) : Int)).bind fun y2 =>
    (L_impl_made y2).bind fun y3 =>
    (y3).on (fun y4 => (y4.snd.fst).bind fun y5 =>
     impl_fold_l0 L_impl_nothingOf L_impl_made L_slices_Clone___int_int_ L_dyn N y1 ((↑y5 : Int)) 0 y4.fst y4.snd.snd) (fun y4 => some (.pan (y4)))) (fun y1 => some (.pan (y1))))
  else ((idx a2_Shape 0).bind fun y6 =>
   if y6 = 0 then none
   else ((cut a2_Data (w64 (w64 (a3 - 1) * w64 (Int.tdiv (↑(List.length a2_Data) : Int) y6))) (w64 (a3 * w64 (Int.tdiv (↑(List.length a2_Data) : Int) y6)))).bind fun y7 =>
    (L_slices_Clone___int_int_ y7).bind fun y8 =>
    impl_fold_l1 L_impl_nothingOf L_impl_made L_slices_Clone___int_int_ L_dyn N N a1 (w64 (Int.tdiv (↑(List.length a2_Data) : Int) y6)) (w64 (a3 - 2)) a2_Shape a2_Data y8))
theorem impl_fold_l2_eq (E : En) (hp : E.ps = []) (hl : E.pl = []) (hk : E.ck = []) (hr : E.rs = r_impl_fold) (hd : E.dd = none) (hw : ∀ y, E.wk y = some (nocap y)) (hfl : ∀ e, E.Γ.fl e = flatIds e) (m_impl_nothingOf : E.Γ.mu 80 = false) (L_impl_nothingOf : Int → Option (Res (Int))) (h_impl_nothingOf : ∀ (a0 : Int), E.Γ 80 [.d (.int .i64 a0)] = (L_impl_nothingOf a0).bind fun r => r.on (fun r => some (.ret (.d (.int .i64 r)) [])) (fun x => some (.pan x []))) (m_impl_made : E.Γ.mu 64 = false) (L_impl_made : (List Int) → Option (Res (List Int × Option Nat × List Int))) (h_impl_made : ∀ (a0 : List Int), E.Γ 64 [.d (lstT cI a0)] = (L_impl_made a0).bind fun r => r.on (fun r => some (.ret (.agg [ownT (cI) 3 none false r.1, ownT (cI) 3 r.2.1 false r.2.2]) [])) (fun x => some (.pan x []))) (m_slices_Clone___int_int_ : E.Γ.mu 126 = false) (L_slices_Clone___int_int_ : (List Int) → Option (List Int)) (h_slices_Clone___int_int_ : ∀ (a0 : List Int), E.Γ 126 [.d (lstT cI a0)] = (L_slices_Clone___int_int_ a0).bind fun r => some (.ret (ownT (cI) 3 none false r) [])) (L_dyn : Nat → Int → Int → Option (Res Int)) (h_dyn : ∀ (f : Nat) (x y : Int), E.Γ f [.d (.int .i64 x), .d (.int .i64 y)] = (L_dyn f x y).bind fun r => r.on (fun r => some (.ret (.d (.int .i64 r)) [])) (fun x => some (.pan x []))) (m1 : Nat) (K1 : Nat → Int → Int → (List Int) → (List Int) → (List Int) → Option (Res (List Int × List Int))) (hK1 : ∀ (x1 : Nat) (x11 : Int) (x13 : Int) (o384_0 : List Int) (o384_1 : List Int) (o768 : List Int), gH E [1, 6, 8, 11, 12, 13] b4_impl_fold [KJ.b 2, KJ.c k5_impl_fold] m1 ⟨slotsOf [(1, .d (.fn x1)), (6, A.adr 384 1 0), (8, A.adr 512 1 0), (11, .d (.int .i64 x11)), (12, A.row 768 1), (13, .d (.int .i64 x13))], obsOf [(384, ⟨1, .box [.d (lstT (cI) o384_0), .d (lstT (cI) o384_1)], false⟩), (512, ⟨1, .box [A.nil, A.nil], false⟩), (768, ⟨1, rowT (cI) 3 none o768, false⟩)]⟩ = (K1 x1 x11 x13 o384_0 o384_1 o768).bind fun r => r.on (fun r => some (.ret (.agg [ownT (cI) 3 none false r.1, ownT (cI) 3 none false r.2]) [])) (fun x => some (.pan x []))) : ∀ (m2 : Nat) (x1 : Nat) (x11 : Int) (x13 : Int) (x62 : Int) (x63 : Int) (o384_0 : List Int) (o384_1 : List Int) (o768 : List Int), gH E [1, 6, 8, 11, 12, 13, 62, 63] b2_impl_fold [KJ.b 4, KJ.b 3, KJ.c k3_impl_fold, KJ.l [1, 6, 8, 11, 12, 13] b4_impl_fold m1, KJ.b 2, KJ.c k5_impl_fold] m2 ⟨slotsOf [(1, .d (.fn x1)), (6, A.adr 384 1 0), (8, A.adr 512 1 0), (11, .d (.int .i64 x11)), (12, A.row 768 1), (13, .d (.int .i64 x13)), (62, .d (.int .i64 x62)), (63, .d (.int .i64 x63))], obsOf [(384, ⟨1, .box [.d (lstT (cI) o384_0), .d (lstT (cI) o384_1)], false⟩), (512, ⟨1, .box [A.nil, A.nil], false⟩), (768, ⟨1, rowT (cI) 3 none o768, false⟩)]⟩ = (impl_fold_l2 L_impl_nothingOf L_impl_made L_slices_Clone___int_int_ L_dyn K1 m2 x1 x11 x13 x62 x63 o384_0 o384_1 o768).bind fun r => r.on (fun r => some (.ret (.agg [ownT (cI) 3 none false r.1, ownT (cI) 3 none false r.2]) [])) (fun x => some (.pan x [])) := by
  intro m2
  induction m2 with
  | zero => intros; rfl
  | succ m2 ih =>
    intros
    simp (config := {maxSteps := 2000000}) only [↓rPre, rPost, rCan, rObj, rI, rS, rB, r8, rLI, rEtc, hp, hl, hk, hr, hd, hw, hfl, flatIds, oid, r_impl_fold, ↓G_unf _ _ b0_impl_fold.eq_1, ↓G_unf _ _ k1_impl_fold.eq_1, ↓G_unf _ _ b2_impl_fold.eq_1, ↓G_unf _ _ k3_impl_fold.eq_1, ↓G_unf _ _ b4_impl_fold.eq_1, ↓G_unf _ _ k5_impl_fold.eq_1, ↓G_unf _ _ k6_impl_fold.eq_1, ↓G_unf _ _ c_impl_fold.eq_1, h_impl_nothingOf, m_impl_nothingOf, h_impl_made, m_impl_made, h_slices_Clone___int_int_, m_slices_Clone___int_int_, h_dyn, gH_succ, ih, bind_ite, impl_fold_l2, hK1, rRow3, rFile, rRow104, rRow62, rRow22, rArray, rRow27, rRow5, rRow9, ↓reduceIte, Option.some_beq_some, Nat.reduceMul, Nat.reduceAdd, Nat.reduceSub, Nat.reduceEqDiff, Nat.reduceBEq, Nat.reduceLeDiff, Nat.reduceLT, Nat.zero_add, Nat.add_zero, Bool.not_true, Bool.not_false, Bool.and_true, Bool.true_and, Bool.and_false, Bool.false_and, Bool.and_self, Bool.or_false, Bool.false_or, Bool.or_true, Bool.true_or, Bool.or_self, decide_eq_true_eq, Bool.not_eq_true', Bool.not_eq_eq_eq_not, decide_eq_false_iff_not, ite_not, ite_self, List.nil_append, List.append_nil, Option.map_some, Option.map_none, List.length_replicate, Int.natCast_nonneg, and_self, and_true, true_and, Bool.false_eq_true, decide_true, decide_false, List.cons_append, reduceCtorEq, Int.reduceAdd, Int.reduceSub, Int.reduceToNat, Int.cast_ofNat_Int, Int.reduceNeg, Int.reduceEq, Int.reduceLT, Int.reduceLE, not_true_eq_false, not_false_eq_true, eq_self]
theorem impl_fold_l1_eq (E : En) (hp : E.ps = []) (hl : E.pl = []) (hk : E.ck = []) (hr : E.rs = r_impl_fold) (hd : E.dd = none) (hw : ∀ y, E.wk y = some (nocap y)) (hfl : ∀ e, E.Γ.fl e = flatIds e) (m_impl_nothingOf : E.Γ.mu 80 = false) (L_impl_nothingOf : Int → Option (Res (Int))) (h_impl_nothingOf : ∀ (a0 : Int), E.Γ 80 [.d (.int .i64 a0)] = (L_impl_nothingOf a0).bind fun r => r.on (fun r => some (.ret (.d (.int .i64 r)) [])) (fun x => some (.pan x []))) (m_impl_made : E.Γ.mu 64 = false) (L_impl_made : (List Int) → Option (Res (List Int × Option Nat × List Int))) (h_impl_made : ∀ (a0 : List Int), E.Γ 64 [.d (lstT cI a0)] = (L_impl_made a0).bind fun r => r.on (fun r => some (.ret (.agg [ownT (cI) 3 none false r.1, ownT (cI) 3 r.2.1 false r.2.2]) [])) (fun x => some (.pan x []))) (m_slices_Clone___int_int_ : E.Γ.mu 126 = false) (L_slices_Clone___int_int_ : (List Int) → Option (List Int)) (h_slices_Clone___int_int_ : ∀ (a0 : List Int), E.Γ 126 [.d (lstT cI a0)] = (L_slices_Clone___int_int_ a0).bind fun r => some (.ret (ownT (cI) 3 none false r) [])) (L_dyn : Nat → Int → Int → Option (Res Int)) (h_dyn : ∀ (f : Nat) (x y : Int), E.Γ f [.d (.int .i64 x), .d (.int .i64 y)] = (L_dyn f x y).bind fun r => r.on (fun r => some (.ret (.d (.int .i64 r)) [])) (fun x => some (.pan x []))) : ∀ (m1 : Nat) (x1 : Nat) (x11 : Int) (x13 : Int) (o384_0 : List Int) (o384_1 : List Int) (o768 : List Int), gH E [1, 6, 8, 11, 12, 13] b4_impl_fold [KJ.b 2, KJ.c k5_impl_fold] m1 ⟨slotsOf [(1, .d (.fn x1)), (6, A.adr 384 1 0), (8, A.adr 512 1 0), (11, .d (.int .i64 x11)), (12, A.row 768 1), (13, .d (.int .i64 x13))], obsOf [(384, ⟨1, .box [.d (lstT (cI) o384_0), .d (lstT (cI) o384_1)], false⟩), (512, ⟨1, .box [A.nil, A.nil], false⟩), (768, ⟨1, rowT (cI) 3 none o768, false⟩)]⟩ = (impl_fold_l1 L_impl_nothingOf L_impl_made L_slices_Clone___int_int_ L_dyn E.n m1 x1 x11 x13 o384_0 o384_1 o768).bind fun r => r.on (fun r => some (.ret (.agg [ownT (cI) 3 none false r.1, ownT (cI) 3 none false r.2]) [])) (fun x => some (.pan x [])) := by
  intro m1
  induction m1 with
  | zero => intros; rfl
  | succ m1 ih =>
    intros
    simp (config := {maxSteps := 2000000}) only [↓rPre, rPost, rCan, rObj, rI, rS, rB, r8, rLI, rEtc, hp, hl, hk, hr, hd, hw, hfl, flatIds, oid, r_impl_fold, ↓G_unf _ _ b0_impl_fold.eq_1, ↓G_unf _ _ k1_impl_fold.eq_1, ↓G_unf _ _ b2_impl_fold.eq_1, ↓G_unf _ _ k3_impl_fold.eq_1, ↓G_unf _ _ b4_impl_fold.eq_1, ↓G_unf _ _ k5_impl_fold.eq_1, ↓G_unf _ _ k6_impl_fold.eq_1, ↓G_unf _ _ c_impl_fold.eq_1, h_impl_nothingOf, m_impl_nothingOf, h_impl_made, m_impl_made, h_slices_Clone___int_int_, m_slices_Clone___int_int_, h_dyn, gH_succ, ih, bind_ite, impl_fold_l1, impl_fold_l2_eq E hp hl hk hr hd hw hfl m_impl_nothingOf L_impl_nothingOf h_impl_nothingOf m_impl_made L_impl_made h_impl_made m_slices_Clone___int_int_ L_slices_Clone___int_int_ h_slices_Clone___int_int_ L_dyn h_dyn m1 _ ih, rRow3, rFile, rRow104, rRow62, rRow22, rArray, rRow27, rRow5, rRow9, ↓reduceIte, Option.some_beq_some, Nat.reduceMul, Nat.reduceAdd, Nat.reduceSub, Nat.reduceEqDiff, Nat.reduceBEq, Nat.reduceLeDiff, Nat.reduceLT, Nat.zero_add, Nat.add_zero, Bool.not_true, Bool.not_false, Bool.and_true, Bool.true_and, Bool.and_false, Bool.false_and, Bool.and_self, Bool.or_false, Bool.false_or, Bool.or_true, Bool.true_or, Bool.or_self, decide_eq_true_eq, Bool.not_eq_true', Bool.not_eq_eq_eq_not, decide_eq_false_iff_not, ite_not, ite_self, List.nil_append, List.append_nil, Option.map_some, Option.map_none, List.length_replicate, Int.natCast_nonneg, and_self, and_true, true_and, Bool.false_eq_true, decide_true, decide_false, List.cons_append, reduceCtorEq, Int.reduceAdd, Int.reduceSub, Int.reduceToNat, Int.cast_ofNat_Int, Int.reduceNeg, Int.reduceEq, Int.reduceLT, Int.reduceLE, not_true_eq_false, not_false_eq_true, eq_self]
theorem impl_fold_l0_eq (E : En) (hp : E.ps = []) (hl : E.pl = []) (hk : E.ck = []) (hr : E.rs = r_impl_fold) (hd : E.dd = none) (hw : ∀ y, E.wk y = some (nocap y)) (hfl : ∀ e, E.Γ.fl e = flatIds e) (m_impl_nothingOf : E.Γ.mu 80 = false) (L_impl_nothingOf : Int → Option (Res (Int))) (h_impl_nothingOf : ∀ (a0 : Int), E.Γ 80 [.d (.int .i64 a0)] = (L_impl_nothingOf a0).bind fun r => r.on (fun r => some (.ret (.d (.int .i64 r)) [])) (fun x => some (.pan x []))) (m_impl_made : E.Γ.mu 64 = false) (L_impl_made : (List Int) → Option (Res (List Int × Option Nat × List Int))) (h_impl_made : ∀ (a0 : List Int), E.Γ 64 [.d (lstT cI a0)] = (L_impl_made a0).bind fun r => r.on (fun r => some (.ret (.agg [ownT (cI) 3 none false r.1, ownT (cI) 3 r.2.1 false r.2.2]) [])) (fun x => some (.pan x []))) (m_slices_Clone___int_int_ : E.Γ.mu 126 = false) (L_slices_Clone___int_int_ : (List Int) → Option (List Int)) (h_slices_Clone___int_int_ : ∀ (a0 : List Int), E.Γ 126 [.d (lstT cI a0)] = (L_slices_Clone___int_int_ a0).bind fun r => some (.ret (ownT (cI) 3 none false r) [])) (L_dyn : Nat → Int → Int → Option (Res Int)) (h_dyn : ∀ (f : Nat) (x y : Int), E.Γ f [.d (.int .i64 x), .d (.int .i64 y)] = (L_dyn f x y).bind fun r => r.on (fun r => some (.ret (.d (.int .i64 r)) [])) (fun x => some (.pan x []))) : ∀ (m0 : Nat) (x9 : Int) (x25 : Int) (x26 : Int) (o641 : List Int) (o642 : List Int), gH E [8, 9, 10, 25, 26] b0_impl_fold [KJ.b 0, KJ.c k1_impl_fold, KJ.c k6_impl_fold] m0 ⟨slotsOf [(8, A.adr 512 1 0), (9, .d (.int .i64 x9)), (10, A.adr 640 1 0), (25, .d (.int .i64 x25)), (26, .d (.int .i64 x26))], obsOf [(512, ⟨1, .box [A.nil, A.nil], false⟩), (640, ⟨1, .box [A.row 641 1, A.row 642 1], false⟩), (641, ⟨1, rowT (cI) 3 none o641, false⟩), (642, ⟨1, rowT (cI) 3 none o642, false⟩)]⟩ = (impl_fold_l0 L_impl_nothingOf L_impl_made L_slices_Clone___int_int_ L_dyn m0 x9 x25 x26 o641 o642).bind fun r => r.on (fun r => some (.ret (.agg [ownT (cI) 3 none false r.1, ownT (cI) 3 none false r.2]) [])) (fun x => some (.pan x [])) := by
  intro m0
  induction m0 with
  | zero => intros; rfl
  | succ m0 ih =>
    intros
    simp (config := {maxSteps := 2000000}) only [↓rPre, rPost, rCan, rObj, rI, rS, rB, r8, rLI, rEtc, hp, hl, hk, hr, hd, hw, hfl, flatIds, oid, r_impl_fold, ↓G_unf _ _ b0_impl_fold.eq_1, ↓G_unf _ _ k1_impl_fold.eq_1, ↓G_unf _ _ b2_impl_fold.eq_1, ↓G_unf _ _ k3_impl_fold.eq_1, ↓G_unf _ _ b4_impl_fold.eq_1, ↓G_unf _ _ k5_impl_fold.eq_1, ↓G_unf _ _ k6_impl_fold.eq_1, ↓G_unf _ _ c_impl_fold.eq_1, h_impl_nothingOf, m_impl_nothingOf, h_impl_made, m_impl_made, h_slices_Clone___int_int_, m_slices_Clone___int_int_, h_dyn, gH_succ, ih, bind_ite, impl_fold_l0, rRow3, rFile, rRow104, rRow62, rRow22, rArray, rRow27, rRow5, rRow9, ↓reduceIte, Option.some_beq_some, Nat.reduceMul, Nat.reduceAdd, Nat.reduceSub, Nat.reduceEqDiff, Nat.reduceBEq, Nat.reduceLeDiff, Nat.reduceLT, Nat.zero_add, Nat.add_zero, Bool.not_true, Bool.not_false, Bool.and_true, Bool.true_and, Bool.and_false, Bool.false_and, Bool.and_self, Bool.or_false, Bool.false_or, Bool.or_true, Bool.true_or, Bool.or_self, decide_eq_true_eq, Bool.not_eq_true', Bool.not_eq_eq_eq_not, decide_eq_false_iff_not, ite_not, ite_self, List.nil_append, List.append_nil, Option.map_some, Option.map_none, List.length_replicate, Int.natCast_nonneg, and_self, and_true, true_and, Bool.false_eq_true, decide_true, decide_false, List.cons_append, reduceCtorEq, Int.reduceAdd, Int.reduceSub, Int.reduceToNat, Int.cast_ofNat_Int, Int.reduceNeg, Int.reduceEq, Int.reduceLT, Int.reduceLE, not_true_eq_false, not_false_eq_true, eq_self]
theorem impl_fold_g (E : En) (hp : E.ps = []) (hl : E.pl = []) (hk : E.ck = []) (hr : E.rs = r_impl_fold) (hd : E.dd = none) (hw : ∀ y, E.wk y = some (nocap y)) (hfl : ∀ e, E.Γ.fl e = flatIds e) (m_impl_nothingOf : E.Γ.mu 80 = false) (L_impl_nothingOf : Int → Option (Res (Int))) (h_impl_nothingOf : ∀ (a0 : Int), E.Γ 80 [.d (.int .i64 a0)] = (L_impl_nothingOf a0).bind fun r => r.on (fun r => some (.ret (.d (.int .i64 r)) [])) (fun x => some (.pan x []))) (m_impl_made : E.Γ.mu 64 = false) (L_impl_made : (List Int) → Option (Res (List Int × Option Nat × List Int))) (h_impl_made : ∀ (a0 : List Int), E.Γ 64 [.d (lstT cI a0)] = (L_impl_made a0).bind fun r => r.on (fun r => some (.ret (.agg [ownT (cI) 3 none false r.1, ownT (cI) 3 r.2.1 false r.2.2]) [])) (fun x => some (.pan x []))) (m_slices_Clone___int_int_ : E.Γ.mu 126 = false) (L_slices_Clone___int_int_ : (List Int) → Option (List Int)) (h_slices_Clone___int_int_ : ∀ (a0 : List Int), E.Γ 126 [.d (lstT cI a0)] = (L_slices_Clone___int_int_ a0).bind fun r => some (.ret (ownT (cI) 3 none false r) [])) (L_dyn : Nat → Int → Int → Option (Res Int)) (h_dyn : ∀ (f : Nat) (x y : Int), E.Γ f [.d (.int .i64 x), .d (.int .i64 y)] = (L_dyn f x y).bind fun r => r.on (fun r => some (.ret (.d (.int .i64 r)) [])) (fun x => some (.pan x []))) (a0 : Int) (a1 : Nat) (a2_Shape : List Int) (a2_Data : List Int) (a3 : Int) : G E c_impl_fold [] ⟨slotsOf [(0, .d (.int .i64 a0)), (1, .d (.fn a1)), (2, .agg [.d (lstT cI a2_Shape), .d (lstT cI a2_Data)]), (3, .d (.int .i64 a3))], obsOf []⟩ = (impl_fold_f L_impl_nothingOf L_impl_made L_slices_Clone___int_int_ L_dyn E.n a0 a1 a2_Shape a2_Data a3).bind fun r => r.on (fun r => some (.ret (.agg [ownT (cI) 3 none false r.1, ownT (cI) 3 none false r.2]) [])) (fun x => some (.pan x [])) := by
  simp (config := {maxSteps := 2000000}) only [↓rPre, rPost, rCan, rObj, rI, rS, rB, r8, rLI, rEtc, hp, hl, hk, hr, hd, hw, hfl, flatIds, oid, r_impl_fold, ↓G_unf _ _ b0_impl_fold.eq_1, ↓G_unf _ _ k1_impl_fold.eq_1, ↓G_unf _ _ b2_impl_fold.eq_1, ↓G_unf _ _ k3_impl_fold.eq_1, ↓G_unf _ _ b4_impl_fold.eq_1, ↓G_unf _ _ k5_impl_fold.eq_1, ↓G_unf _ _ k6_impl_fold.eq_1, ↓G_unf _ _ c_impl_fold.eq_1, h_impl_nothingOf, m_impl_nothingOf, h_impl_made, m_impl_made, h_slices_Clone___int_int_, m_slices_Clone___int_int_, h_dyn, bind_ite, impl_fold_f, impl_fold_l1_eq E hp hl hk hr hd hw hfl m_impl_nothingOf L_impl_nothingOf h_impl_nothingOf m_impl_made L_impl_made h_impl_made m_slices_Clone___int_int_ L_slices_Clone___int_int_ h_slices_Clone___int_int_ L_dyn h_dyn, impl_fold_l0_eq E hp hl hk hr hd hw hfl m_impl_nothingOf L_impl_nothingOf h_impl_nothingOf m_impl_made L_impl_made h_impl_made m_slices_Clone___int_int_ L_slices_Clone___int_int_ h_slices_Clone___int_int_ L_dyn h_dyn, rRow3, rFile, rRow104, rRow62, rRow22, rArray, rRow27, rRow5, rRow9, ↓reduceIte, Option.some_beq_some, Nat.reduceMul, Nat.reduceAdd, Nat.reduceSub, Nat.reduceEqDiff, Nat.reduceBEq, Nat.reduceLeDiff, Nat.reduceLT, Nat.zero_add, Nat.add_zero, Bool.not_true, Bool.not_false, Bool.and_true, Bool.true_and, Bool.and_false, Bool.false_and, Bool.and_self, Bool.or_false, Bool.false_or, Bool.or_true, Bool.true_or, Bool.or_self, decide_eq_true_eq, Bool.not_eq_true', Bool.not_eq_eq_eq_not, decide_eq_false_iff_not, ite_not, ite_self, List.nil_append, List.append_nil, Option.map_some, Option.map_none, List.length_replicate, Int.natCast_nonneg, and_self, and_true, true_and, Bool.false_eq_true, decide_true, decide_false, List.cons_append, reduceCtorEq, Int.reduceAdd, Int.reduceSub, Int.reduceToNat, Int.cast_ofNat_Int, Int.reduceNeg, Int.reduceEq, Int.reduceLT, Int.reduceLE, not_true_eq_false, not_false_eq_true, eq_self]
-- loop.example/s02135/impl.cloned
def c_impl_cloned : Cd :=
  sq (r [1, 2] [o 1 .box [t 0], o 2 (.alloc [.nil, .nil]) []])
  (sq (rd [] [2] [o 3 (.fa 0) [t 1], o 4 (.ld none) [t 3], o 6 (.fa 1) [t 1], o 7 (.ld none) [t 6], ap [] false [1, 6] (o 5 (.call 126) [t 4]), o 8 (.call 126) [t 7], o 9 (.bld [.nil, .nil] [(0, 1), (1, 1)]) [t 5, t 8], e (.st 2) [t 2, t 9]])
   (.ret))
def r_impl_cloned : List RV := [.cell 2 (some 2)]
def impl_cloned_f (L_slices_Clone___int_int_ : (List Int) → Option (List Int)) (N : Nat) (a0_Shape : List Int) (a0_Data : List Int) : Option (List Int × List Int) :=
  (L_slices_Clone___int_int_ a0_Shape).bind fun y0 =>
  (L_slices_Clone___int_int_ a0_Data).bind fun y1 =>
  some ((y0, y1))
theorem impl_cloned_g (E : En) (hp : E.ps = []) (hl : E.pl = []) (hk : E.ck = []) (hr : E.rs = r_impl_cloned) (hd : E.dd = none) (hw : ∀ y, E.wk y = some (nocap y)) (hfl : ∀ e, E.Γ.fl e = flatIds e) (m_slices_Clone___int_int_ : E.Γ.mu 126 = false) (L_slices_Clone___int_int_ : (List Int) → Option (List Int)) (h_slices_Clone___int_int_ : ∀ (a0 : List Int), E.Γ 126 [.d (lstT cI a0)] = (L_slices_Clone___int_int_ a0).bind fun r => some (.ret (ownT (cI) 3 none false r) [])) (a0_Shape : List Int) (a0_Data : List Int) : G E c_impl_cloned [] ⟨slotsOf [(0, .agg [.d (lstT cI a0_Shape), .d (lstT cI a0_Data)])], obsOf []⟩ = (impl_cloned_f L_slices_Clone___int_int_ E.n a0_Shape a0_Data).bind fun r => some (.ret (.agg [ownT (cI) 3 none false r.1, ownT (cI) 3 none false r.2]) []) := by
  simp (config := {maxSteps := 2000000}) only [↓rPre, rPost, rCan, rObj, rI, rS, rB, r8, rLI, rEtc, hp, hl, hk, hr, hd, hw, hfl, flatIds, oid, r_impl_cloned, ↓G_unf _ _ c_impl_cloned.eq_1, h_slices_Clone___int_int_, m_slices_Clone___int_int_, bind_ite, impl_cloned_f, rRow3, rFile, rRow104, rRow62, rRow22, rArray, rRow27, rRow5, rRow9, ↓reduceIte, Option.some_beq_some, Nat.reduceMul, Nat.reduceAdd, Nat.reduceSub, Nat.reduceEqDiff, Nat.reduceBEq, Nat.reduceLeDiff, Nat.reduceLT, Nat.zero_add, Nat.add_zero, Bool.not_true, Bool.not_false, Bool.and_true, Bool.true_and, Bool.and_false, Bool.false_and, Bool.and_self, Bool.or_false, Bool.false_or, Bool.or_true, Bool.true_or, Bool.or_self, decide_eq_true_eq, Bool.not_eq_true', Bool.not_eq_eq_eq_not, decide_eq_false_iff_not, ite_not, ite_self, List.nil_append, List.append_nil, Option.map_some, Option.map_none, List.length_replicate, Int.natCast_nonneg, and_self, and_true, true_and, Bool.false_eq_true, decide_true, decide_false, List.cons_append, reduceCtorEq, Int.reduceAdd, Int.reduceSub, Int.reduceToNat, Int.cast_ofNat_Int, Int.reduceNeg, Int.reduceEq, Int.reduceLT, Int.reduceLE, not_true_eq_false, not_false_eq_true, eq_self]
-- slices.Grow[[]int,int]
def c_slices_Grow___int_int_ : Cd :=
  sq (r [0, 1] [o 4 .mv [n]])
  (sq (sq (r [0, 1, 6] [o 5 .mv [t 1], o 6 (.bin .lss) [t 5, i 0]])
    (.cond (t 6) (r [0, 1] [o 7 (.mkI 9) [s [99, 97, 110, 110, 111, 116, 32, 98, 101, 32, 110, 101, 103, 97, 116, 105, 118, 101]], e .pan [t 7]]) (.skip)))
   (sq (sq (r [0, 1] [o 8 .mv [t 1], o 9 .mv [t 0], o 10 .cap [t 9], o 11 .mv [t 0], o 12 (.len false) [t 11], o 13 (.bin .sub) [t 10, t 12], o 14 (.bin .sub) [t 8, t 13], o 1 .mv [t 14]])
     (sq (r [0, 1, 16] [o 15 .mv [t 1], o 16 (.bin .gtr) [t 15, i 0]])
      (.cond (t 16) (r [0] [o 17 .mv [t 0], o 18 .mv [t 0], o 19 .cap [t 18], o 20 (.cut 1) [t 17, t 19], o 21 .mv [t 1], o 22 (.appZ 3 1 8 [(iD 0)]) [t 20, t 21], o 23 .mv [t 0], o 24 (.len false) [t 23], o 25 (.cut 1) [t 22, t 24], o 0 .mv [t 25]]) (.skip))))
    (sq (r [4] [o 26 .mv [t 0], o 4 .mv [t 26]])
     (.ret))))
def r_slices_Grow___int_int_ : List RV := [.tmp 4]
def slices_Grow___int_int__f (N : Nat) (a1 : Int) : Option (Res (List Int)) :=
  if a1 < 0 then some (.pan (D.iface 9 (sD [99, 97, 110, 110, 111, 116, 32, 98, 101, 32, 110, 101, 103, 97, 116, 105, 118, 101])))
  else (if 0 < w64 (a1 - w64 0) then (if zOk 8 (w64 (a1 - w64 0)) then some (.ok [])
    else none)
   else some (.ok []))
theorem slices_Grow___int_int__g (E : En) (hp : E.ps = []) (hl : E.pl = []) (hk : E.ck = []) (hr : E.rs = r_slices_Grow___int_int_) (hd : E.dd = none) (hw : ∀ y, E.wk y = some (nocap (asOwn (.own 3 1) y))) (hfl : ∀ e, E.Γ.fl e = flatIds e) (a1 : Int) : G E c_slices_Grow___int_int_ [] ⟨slotsOf [(0, .nil), (1, .d (.int .i64 a1))], obsOf []⟩ = (slices_Grow___int_int__f E.n a1).bind fun r => r.on (fun r => some (.ret (ownT (cI) 3 none false r) [])) (fun x => some (.pan x [])) := by
  simp (config := {maxSteps := 2000000}) only [↓rPre, rPost, rCan, rObj, rI, rS, rB, r8, rLI, rEtc, hp, hl, hk, hr, hd, hw, hfl, flatIds, oid, r_slices_Grow___int_int_, ↓G_unf _ _ c_slices_Grow___int_int_.eq_1, bind_ite, slices_Grow___int_int__f, rRow3, rFile, rRow104, rRow62, rArray, rRow27, rRow5, rRow9, ↓reduceIte, Option.some_beq_some, Nat.reduceMul, Nat.reduceAdd, Nat.reduceSub, Nat.reduceEqDiff, Nat.reduceBEq, Nat.reduceLeDiff, Nat.reduceLT, Nat.zero_add, Nat.add_zero, Bool.not_true, Bool.not_false, Bool.and_true, Bool.true_and, Bool.and_false, Bool.false_and, Bool.and_self, Bool.or_false, Bool.false_or, Bool.or_true, Bool.true_or, Bool.or_self, decide_eq_true_eq, Bool.not_eq_true', Bool.not_eq_eq_eq_not, decide_eq_false_iff_not, ite_not, ite_self, List.nil_append, List.append_nil, Option.map_some, Option.map_none, List.length_replicate, Int.natCast_nonneg, and_self, and_true, true_and, Bool.false_eq_true, decide_true, decide_false, List.cons_append, reduceCtorEq, Int.reduceAdd, Int.reduceSub, Int.reduceToNat, Int.cast_ofNat_Int, Int.reduceNeg, Int.reduceEq, Int.reduceLT, Int.reduceLE, not_true_eq_false, not_false_eq_true, eq_self]
-- slices.Concat[[]int,int]
def b0_slices_Concat___int_int_ : Cd :=
  sq (r [0, 3, 9, 10, 11, 12] [o 12 (.bin .lss) [t 11, t 10]])
  (sq (.cond (t 12) (.skip) (.exit 0))
   (sq (.block 1 (sq (r [0, 3, 5, 9, 10, 11] [o 13 (.ia 1) [t 9, t 11], o 14 (.ld none) [t 13], o 5 .mv [t 14]])
      (sq (r [0, 3, 9, 10, 11] [o 15 .mv [t 3], o 16 .mv [t 5], o 17 (.len false) [t 16], o 18 (.bin .add) [t 15, t 17], o 3 .mv [t 18]])
       (sq (r [0, 3, 9, 10, 11, 20] [o 19 .mv [t 3], o 20 (.bin .lss) [t 19, i 0]])
        (.cond (t 20) (r [0, 3, 9, 10, 11] [o 21 (.mkI 9) [s [108, 101, 110, 32, 111, 117, 116, 32, 111, 102, 32, 114, 97, 110, 103, 101]], e .pan [t 21]]) (.skip))))))
    (r [0, 3, 9, 10, 11] [o 22 (.bin .add) [t 11, i 1], o 11 .mv [t 22]])))
def b1_slices_Concat___int_int_ : Cd :=
  sq (r [6, 25, 26, 27, 28] [o 28 (.bin .lss) [t 27, t 26]])
  (sq (.cond (t 28) (.skip) (.exit 2))
   (sq (.block 3 (sq (r [6, 8, 25, 26, 27] [o 29 (.ia 1) [t 25, t 27], o 30 (.ld none) [t 29], o 8 .mv [t 30]])
      (r [6, 25, 26, 27] [o 31 .mv [t 6], o 32 .mv [t 8], o 33 (.app 3 1 8) [t 31, t 32], o 6 .mv [t 33]])))
    (r [6, 25, 26, 27] [o 34 (.bin .add) [t 27, i 1], o 27 .mv [t 34]])))
def k2_slices_Concat___int_int_ : Cd :=
  sq (r [2] [o 35 .mv [t 6], o 2 .mv [t 35]])
  (.ret)
def k3_slices_Concat___int_int_ : Cd :=
  sq (r [0, 6] [o 23 .mv [t 3], o 24 (.call 131) [n, t 23], o 6 .mv [t 24]])
  (sq (sq (r [6, 25, 26, 27] [o 25 .mv [t 0], o 26 (.len false) [t 25], o 27 .mv [i 0]])
    (.block 2 (.loop [6, 25, 26, 27] b1_slices_Concat___int_int_))) k2_slices_Concat___int_int_)
def c_slices_Concat___int_int_ : Cd :=
  sq (r [0] [o 2 .mv [n]])
  (sq (r [0, 3] [o 3 .mv [i 0]])
   (sq (sq (r [0, 3, 9, 10, 11] [o 9 .mv [t 0], o 10 (.len false) [t 9], o 11 .mv [i 0]])
     (.block 0 (.loop [0, 3, 9, 10, 11] b0_slices_Concat___int_int_))) k3_slices_Concat___int_int_))
def r_slices_Concat___int_int_ : List RV := [.tmp 2]
def slices_Concat___int_int__l1 (L_slices_Grow___int_int_ : Int → Option (Res (List Int))) : Nat → (List (List Int)) → Int → Int → (List Int) → Option (Res (List Int))
  | 0, _, _, _, _ => none
  | m1 + 1, x25, x26, x27, o384 =>
    if x27 < x26 then ((idx x25 x27).bind fun y0 =>
     if room 8 (List.length (o384 ++ y0)) then slices_Concat___int_int__l1 L_slices_Grow___int_int_ m1 x25 x26 (w64 (x27 + 1)) (o384 ++ y0)
     else none)
    else some (.ok o384)
def slices_Concat___int_int__l0 (L_slices_Grow___int_int_ : Int → Option (Res (List Int))) (N : Nat) : Nat → (List (List Int)) → Int → (List (List Int)) → Int → Int → Option (Res (List Int))
  | 0, _, _, _, _, _ => none
  | m0 + 1, x0, x3, x9, x10, x11 =>
    if x11 < x10 then ((idx x9 x11).bind fun y0 =>
     if w64 (x3 + (↑(List.length y0) : Int)) < 0 then some (.pan (D.iface 9 (sD [108, 101, 110, 32, 111, 117, 116, 32, 111, 102, 32, 114, 97, 110, 103, 101])))
     else slices_Concat___int_int__l0 L_slices_Grow___int_int_ N m0 x0 (w64 (x3 + (↑(List.length y0) : Int))) x9 x10 (w64 (x11 + 1)))
    else ((L_slices_Grow___int_int_ x3).bind fun y1 =>
     (y1).on (fun y2 => slices_Concat___int_int__l1 L_slices_Grow___int_int_ N x0 ((↑(List.length x0) : Int)) 0 y2) (fun y2 => some (.pan (y2))))
def slices_Concat___int_int__f (L_slices_Grow___int_int_ : Int → Option (Res (List Int))) (N : Nat) (a0 : List (List Int)) : Option (Res (List Int)) :=
  slices_Concat___int_int__l0 L_slices_Grow___int_int_ N N a0 0 a0 ((↑(List.length a0) : Int)) 0
theorem slices_Concat___int_int__l1_eq (E : En) (hp : E.ps = []) (hl : E.pl = []) (hk : E.ck = []) (hr : E.rs = r_slices_Concat___int_int_) (hd : E.dd = none) (hw : ∀ y, E.wk y = some (nocap y)) (hfl : ∀ e, E.Γ.fl e = flatIds e) (m_slices_Grow___int_int_ : E.Γ.mu 131 = true) (L_slices_Grow___int_int_ : Int → Option (Res (List Int))) (h_slices_Grow___int_int_ : ∀ (a1 : Int), E.Γ 131 [.nil, .d (.int .i64 a1)] = (L_slices_Grow___int_int_ a1).bind fun r => r.on (fun r => some (.ret (ownT (cI) 3 none false r) [])) (fun x => some (.pan x []))) : ∀ (m1 : Nat) (x25 : List (List Int)) (x26 : Int) (x27 : Int) (o384 : List Int), gH E [6, 25, 26, 27] b1_slices_Concat___int_int_ [KJ.b 2, KJ.c k2_slices_Concat___int_int_] m1 ⟨slotsOf [(6, A.row 384 1), (25, .d (lstT (cL cI) x25)), (26, .d (.int .i64 x26)), (27, .d (.int .i64 x27))], obsOf [(384, ⟨1, rowT (cI) 3 none o384, false⟩)]⟩ = (slices_Concat___int_int__l1 L_slices_Grow___int_int_ m1 x25 x26 x27 o384).bind fun r => r.on (fun r => some (.ret (ownT (cI) 3 none false r) [])) (fun x => some (.pan x [])) := by
  intro m1
  induction m1 with
  | zero => intros; rfl
  | succ m1 ih =>
    intros
    simp (config := {maxSteps := 2000000}) only [↓rPre, rPost, rCan, rObj, rI, rS, rB, r8, rLI, rEtc, hp, hl, hk, hr, hd, hw, hfl, flatIds, oid, r_slices_Concat___int_int_, ↓G_unf _ _ b0_slices_Concat___int_int_.eq_1, ↓G_unf _ _ b1_slices_Concat___int_int_.eq_1, ↓G_unf _ _ k2_slices_Concat___int_int_.eq_1, ↓G_unf _ _ k3_slices_Concat___int_int_.eq_1, ↓G_unf _ _ c_slices_Concat___int_int_.eq_1, h_slices_Grow___int_int_, m_slices_Grow___int_int_, gH_succ, ih, bind_ite, slices_Concat___int_int__l1, rRow3, rFile, rRow104, rRow62, rArray, rRow27, rRow5, rRow9, ↓reduceIte, Option.some_beq_some, Nat.reduceMul, Nat.reduceAdd, Nat.reduceSub, Nat.reduceEqDiff, Nat.reduceBEq, Nat.reduceLeDiff, Nat.reduceLT, Nat.zero_add, Nat.add_zero, Bool.not_true, Bool.not_false, Bool.and_true, Bool.true_and, Bool.and_false, Bool.false_and, Bool.and_self, Bool.or_false, Bool.false_or, Bool.or_true, Bool.true_or, Bool.or_self, decide_eq_true_eq, Bool.not_eq_true', Bool.not_eq_eq_eq_not, decide_eq_false_iff_not, ite_not, ite_self, List.nil_append, List.append_nil, Option.map_some, Option.map_none, List.length_replicate, Int.natCast_nonneg, and_self, and_true, true_and, Bool.false_eq_true, decide_true, decide_false, List.cons_append, reduceCtorEq, Int.reduceAdd, Int.reduceSub, Int.reduceToNat, Int.cast_ofNat_Int, Int.reduceNeg, Int.reduceEq, Int.reduceLT, Int.reduceLE, not_true_eq_false, not_false_eq_true, eq_self]
theorem slices_Concat___int_int__l0_eq (E : En) (hp : E.ps = []) (hl : E.pl = []) (hk : E.ck = []) (hr : E.rs = r_slices_Concat___int_int_) (hd : E.dd = none) (hw : ∀ y, E.wk y = some (nocap y)) (hfl : ∀ e, E.Γ.fl e = flatIds e) (m_slices_Grow___int_int_ : E.Γ.mu 131 = true) (L_slices_Grow___int_int_ : Int → Option (Res (List Int))) (h_slices_Grow___int_int_ : ∀ (a1 : Int), E.Γ 131 [.nil, .d (.int .i64 a1)] = (L_slices_Grow___int_int_ a1).bind fun r => r.on (fun r => some (.ret (ownT (cI) 3 none false r) [])) (fun x => some (.pan x []))) : ∀ (m0 : Nat) (x0 : List (List Int)) (x3 : Int) (x9 : List (List Int)) (x10 : Int) (x11 : Int), gH E [0, 3, 9, 10, 11] b0_slices_Concat___int_int_ [KJ.b 0, KJ.c k3_slices_Concat___int_int_] m0 ⟨slotsOf [(0, .d (lstT (cL cI) x0)), (3, .d (.int .i64 x3)), (9, .d (lstT (cL cI) x9)), (10, .d (.int .i64 x10)), (11, .d (.int .i64 x11))], obsOf []⟩ = (slices_Concat___int_int__l0 L_slices_Grow___int_int_ E.n m0 x0 x3 x9 x10 x11).bind fun r => r.on (fun r => some (.ret (ownT (cI) 3 none false r) [])) (fun x => some (.pan x [])) := by
  intro m0
  induction m0 with
  | zero => intros; rfl
  | succ m0 ih =>
    intros
    simp (config := {maxSteps := 2000000}) only [↓rPre, rPost, rCan, rObj, rI, rS, rB, r8, rLI, rEtc, hp, hl, hk, hr, hd, hw, hfl, flatIds, oid, r_slices_Concat___int_int_, ↓G_unf _ _ b0_slices_Concat___int_int_.eq_1, ↓G_unf _ _ b1_slices_Concat___int_int_.eq_1, ↓G_unf _ _ k2_slices_Concat___int_int_.eq_1, ↓G_unf _ _ k3_slices_Concat___int_int_.eq_1, ↓G_unf _ _ c_slices_Concat___int_int_.eq_1, h_slices_Grow___int_int_, m_slices_Grow___int_int_, gH_succ, ih, bind_ite, slices_Concat___int_int__l0, slices_Concat___int_int__l1_eq E hp hl hk hr hd hw hfl m_slices_Grow___int_int_ L_slices_Grow___int_int_ h_slices_Grow___int_int_, rRow3, rFile, rRow104, rRow62, rArray, rRow27, rRow5, rRow9, ↓reduceIte, Option.some_beq_some, Nat.reduceMul, Nat.reduceAdd, Nat.reduceSub, Nat.reduceEqDiff, Nat.reduceBEq, Nat.reduceLeDiff, Nat.reduceLT, Nat.zero_add, Nat.add_zero, Bool.not_true, Bool.not_false, Bool.and_true, Bool.true_and, Bool.and_false, Bool.false_and, Bool.and_self, Bool.or_false, Bool.false_or, Bool.or_true, Bool.true_or, Bool.or_self, decide_eq_true_eq, Bool.not_eq_true', Bool.not_eq_eq_eq_not, decide_eq_false_iff_not, ite_not, ite_self, List.nil_append, List.append_nil, Option.map_some, Option.map_none, List.length_replicate, Int.natCast_nonneg, and_self, and_true, true_and, Bool.false_eq_true, decide_true, decide_false, List.cons_append, reduceCtorEq, Int.reduceAdd, Int.reduceSub, Int.reduceToNat, Int.cast_ofNat_Int, Int.reduceNeg, Int.reduceEq, Int.reduceLT, Int.reduceLE, not_true_eq_false, not_false_eq_true, eq_self]
theorem slices_Concat___int_int__g (E : En) (hp : E.ps = []) (hl : E.pl = []) (hk : E.ck = []) (hr : E.rs = r_slices_Concat___int_int_) (hd : E.dd = none) (hw : ∀ y, E.wk y = some (nocap y)) (hfl : ∀ e, E.Γ.fl e = flatIds e) (m_slices_Grow___int_int_ : E.Γ.mu 131 = true) (L_slices_Grow___int_int_ : Int → Option (Res (List Int))) (h_slices_Grow___int_int_ : ∀ (a1 : Int), E.Γ 131 [.nil, .d (.int .i64 a1)] = (L_slices_Grow___int_int_ a1).bind fun r => r.on (fun r => some (.ret (ownT (cI) 3 none false r) [])) (fun x => some (.pan x []))) (a0 : List (List Int)) : G E c_slices_Concat___int_int_ [] ⟨slotsOf [(0, .d (lstT (cL cI) a0))], obsOf []⟩ = (slices_Concat___int_int__f L_slices_Grow___int_int_ E.n a0).bind fun r => r.on (fun r => some (.ret (ownT (cI) 3 none false r) [])) (fun x => some (.pan x [])) := by
  simp (config := {maxSteps := 2000000}) only [↓rPre, rPost, rCan, rObj, rI, rS, rB, r8, rLI, rEtc, hp, hl, hk, hr, hd, hw, hfl, flatIds, oid, r_slices_Concat___int_int_, ↓G_unf _ _ b0_slices_Concat___int_int_.eq_1, ↓G_unf _ _ b1_slices_Concat___int_int_.eq_1, ↓G_unf _ _ k2_slices_Concat___int_int_.eq_1, ↓G_unf _ _ k3_slices_Concat___int_int_.eq_1, ↓G_unf _ _ c_slices_Concat___int_int_.eq_1, h_slices_Grow___int_int_, m_slices_Grow___int_int_, bind_ite, slices_Concat___int_int__f, slices_Concat___int_int__l0_eq E hp hl hk hr hd hw hfl m_slices_Grow___int_int_ L_slices_Grow___int_int_ h_slices_Grow___int_int_, rRow3, rFile, rRow104, rRow62, rArray, rRow27, rRow5, rRow9, ↓reduceIte, Option.some_beq_some, Nat.reduceMul, Nat.reduceAdd, Nat.reduceSub, Nat.reduceEqDiff, Nat.reduceBEq, Nat.reduceLeDiff, Nat.reduceLT, Nat.zero_add, Nat.add_zero, Bool.not_true, Bool.not_false, Bool.and_true, Bool.true_and, Bool.and_false, Bool.false_and, Bool.and_self, Bool.or_false, Bool.false_or, Bool.or_true, Bool.true_or, Bool.or_self, decide_eq_true_eq, Bool.not_eq_true', Bool.not_eq_eq_eq_not, decide_eq_false_iff_not, ite_not, ite_self, List.nil_append, List.append_nil, Option.map_some, Option.map_none, List.length_replicate, Int.natCast_nonneg, and_self, and_true, true_and, Bool.false_eq_true, decide_true, decide_false, List.cons_append, reduceCtorEq, Int.reduceAdd, Int.reduceSub, Int.reduceToNat, Int.cast_ofNat_Int, Int.reduceNeg, Int.reduceEq, Int.reduceLT, Int.reduceLE, not_true_eq_false, not_false_eq_true, eq_self]
end Go.Vm
