/- The functions under spec_l2Two, spec_l2OpOk, impl_opOf: the abstract machine's codes, and what they come to in plain terms. Printed by a program of this session. -/
import Derived.Test.YtejgcpankckdkaaFBas
set_option linter.all false
set_option maxRecDepth 100000
set_option maxHeartbeats 4000000
namespace Go.Vm
def rRow22 := rRow (cL cI) 22 1 rfl [.lst 0 []] [] rfl
-- loop.example/s02135/spec.l2In
def c_spec_l2In : Cd :=
  sq (r [0] [o 2 .mv [i 0], o 3 .mv [i 0]])
  (sq (sq (r [0, 9] [o 4 .mv [t 0], o 5 (.bin .lss) [t 4, i (-3000000000)], o 6 .mv [t 5], g 6 false 7 .mv [t 0], g 6 false 8 (.bin .gtr) [t 7, i 3000000000], o 9 .pick [t 6, b true, t 8]])
    (.cond (t 9) (sq (r [2, 3] [o 2 .mv [i 0], o 3 .mv [i 5]])
      (.ret)) (.skip)))
   (sq (r [2, 3] [o 10 .mv [t 0], o 2 .mv [t 10], o 3 .mv [i 0]])
    (.ret)))
def r_spec_l2In : List RV := [.tmp 2, .tmp 3]
def spec_l2In_f (N : Nat) (a0 : Int) : Option (Int × Int) :=
  if a0 < -3000000000 then some ((0, 5))
  else (if 3000000000 < a0 then some ((0, 5))
   else some ((a0, 0)))
theorem spec_l2In_g (E : En) (hp : E.ps = []) (hl : E.pl = []) (hk : E.ck = []) (hr : E.rs = r_spec_l2In) (hd : E.dd = none) (hw : ∀ y, E.wk y = some (nocap y)) (hfl : ∀ e, E.Γ.fl e = flatIds e) (a0 : Int) : G E c_spec_l2In [] ⟨slotsOf [(0, .d (.int .i64 a0))], obsOf []⟩ = (spec_l2In_f E.n a0).bind fun r => some (.ret (.tup [.d (.int .i64 r.1), .d (.int .i64 r.2)]) []) := by
  simp (config := {maxSteps := 2000000}) only [↓rPre, rPost, rCan, rObj, rI, rS, rB, r8, rLI, rEtc, hp, hl, hk, hr, hd, hw, hfl, flatIds, oid, r_spec_l2In, ↓G_unf _ _ c_spec_l2In.eq_1, bind_ite, spec_l2In_f, rRow3, rFile, rRow104, rRow62, rArray, rRow27, rRow5, rRow9, ↓reduceIte, Option.some_beq_some, Nat.reduceMul, Nat.reduceAdd, Nat.reduceSub, Nat.reduceEqDiff, Nat.reduceBEq, Nat.reduceLeDiff, Nat.reduceLT, Nat.zero_add, Nat.add_zero, Bool.not_true, Bool.not_false, Bool.and_true, Bool.true_and, Bool.and_false, Bool.false_and, Bool.and_self, Bool.or_false, Bool.false_or, Bool.or_true, Bool.true_or, Bool.or_self, decide_eq_true_eq, Bool.not_eq_true', Bool.not_eq_eq_eq_not, decide_eq_false_iff_not, ite_not, ite_self, List.nil_append, List.append_nil, Option.map_some, Option.map_none, List.length_replicate, Int.natCast_nonneg, and_self, and_true, true_and, Bool.false_eq_true, decide_true, decide_false, List.cons_append, reduceCtorEq, Int.reduceAdd, Int.reduceSub, Int.reduceToNat, Int.cast_ofNat_Int, Int.reduceNeg, Int.reduceEq, Int.reduceLT, Int.reduceLE, not_true_eq_false, not_false_eq_true, eq_self]
-- loop.example/s02135/spec.l2Floor
def c_spec_l2Floor : Cd :=
  sq (r [0, 1] [o 4 .mv [i 0]])
  (sq (r [0, 1, 5] [o 6 .mv [t 0], o 7 .mv [t 1], o 8 (.bin .quo) [t 6, t 7], o 5 .mv [t 8]])
   (sq (sq (r [5, 20] [o 9 .mv [t 5], o 10 .mv [t 1], o 11 (.bin .mul) [t 9, t 10], o 12 .mv [t 0], o 13 (.bin .neq) [t 11, t 12], o 14 .mv [t 13], g 14 true 15 .mv [t 0], g 14 true 16 (.bin .lss) [t 15, i 0], g 14 true 17 .mv [t 1], g 14 true 18 (.bin .lss) [t 17, i 0], g 14 true 19 (.beq true) [t 16, t 18], o 20 .pick [t 14, t 19, b false]])
     (.cond (t 20) (sq (r [4] [o 21 .mv [t 5], o 22 (.bin .sub) [t 21, i 1], o 4 .mv [t 22]])
       (.ret)) (.skip)))
    (sq (r [4] [o 23 .mv [t 5], o 4 .mv [t 23]])
     (.ret))))
def r_spec_l2Floor : List RV := [.tmp 4]
def spec_l2Floor_f (N : Nat) (a0 : Int) (a1 : Int) : Option (Int) :=
  if a1 = 0 then none
  else (if w64 (w64 (Int.tdiv a0 a1) * a1) = a0 then some (w64 (Int.tdiv a0 a1))
   else (if (Decidable.decide (a0 < 0) == Decidable.decide (a1 < 0)) = false then some (w64 (w64 (Int.tdiv a0 a1) - 1))
    else some (w64 (Int.tdiv a0 a1))))
theorem spec_l2Floor_g (E : En) (hp : E.ps = []) (hl : E.pl = []) (hk : E.ck = []) (hr : E.rs = r_spec_l2Floor) (hd : E.dd = none) (hw : ∀ y, E.wk y = some (nocap y)) (hfl : ∀ e, E.Γ.fl e = flatIds e) (a0 : Int) (a1 : Int) : G E c_spec_l2Floor [] ⟨slotsOf [(0, .d (.int .i64 a0)), (1, .d (.int .i64 a1))], obsOf []⟩ = (spec_l2Floor_f E.n a0 a1).bind fun r => some (.ret (.d (.int .i64 r)) []) := by
  simp (config := {maxSteps := 2000000}) only [↓rPre, rPost, rCan, rObj, rI, rS, rB, r8, rLI, rEtc, hp, hl, hk, hr, hd, hw, hfl, flatIds, oid, r_spec_l2Floor, ↓G_unf _ _ c_spec_l2Floor.eq_1, bind_ite, spec_l2Floor_f, rRow3, rFile, rRow104, rRow62, rArray, rRow27, rRow5, rRow9, ↓reduceIte, Option.some_beq_some, Nat.reduceMul, Nat.reduceAdd, Nat.reduceSub, Nat.reduceEqDiff, Nat.reduceBEq, Nat.reduceLeDiff, Nat.reduceLT, Nat.zero_add, Nat.add_zero, Bool.not_true, Bool.not_false, Bool.and_true, Bool.true_and, Bool.and_false, Bool.false_and, Bool.and_self, Bool.or_false, Bool.false_or, Bool.or_true, Bool.true_or, Bool.or_self, decide_eq_true_eq, Bool.not_eq_true', Bool.not_eq_eq_eq_not, decide_eq_false_iff_not, ite_not, ite_self, List.nil_append, List.append_nil, Option.map_some, Option.map_none, List.length_replicate, Int.natCast_nonneg, and_self, and_true, true_and, Bool.false_eq_true, decide_true, decide_false, List.cons_append, reduceCtorEq, Int.reduceAdd, Int.reduceSub, Int.reduceToNat, Int.cast_ofNat_Int, Int.reduceNeg, Int.reduceEq, Int.reduceLT, Int.reduceLE, not_true_eq_false, not_false_eq_true, eq_self]
-- loop.example/s02135/spec.l2Bool
def c_spec_l2Bool : Cd :=
  sq (r [0] [o 2 .mv [i 0]])
  (sq (sq (r [3] [o 3 .mv [t 0]])
    (.cond (t 3) (sq (r [2] [o 2 .mv [i 1]])
      (.ret)) (.skip)))
   (sq (r [2] [o 2 .mv [i 0]])
    (.ret)))
def r_spec_l2Bool : List RV := [.tmp 2]
def spec_l2Bool_f (N : Nat) (a0 : Bool) : Option (Int) :=
  if a0 = true then some 1
  else some 0
theorem spec_l2Bool_g (E : En) (hp : E.ps = []) (hl : E.pl = []) (hk : E.ck = []) (hr : E.rs = r_spec_l2Bool) (hd : E.dd = none) (hw : ∀ y, E.wk y = some (nocap y)) (hfl : ∀ e, E.Γ.fl e = flatIds e) (a0 : Bool) : G E c_spec_l2Bool [] ⟨slotsOf [(0, .d (.bool a0))], obsOf []⟩ = (spec_l2Bool_f E.n a0).bind fun r => some (.ret (.d (.int .i64 r)) []) := by
  simp (config := {maxSteps := 2000000}) only [↓rPre, rPost, rCan, rObj, rI, rS, rB, r8, rLI, rEtc, hp, hl, hk, hr, hd, hw, hfl, flatIds, oid, r_spec_l2Bool, ↓G_unf _ _ c_spec_l2Bool.eq_1, bind_ite, spec_l2Bool_f, rRow3, rFile, rRow104, rRow62, rArray, rRow27, rRow5, rRow9, ↓reduceIte, Option.some_beq_some, Nat.reduceMul, Nat.reduceAdd, Nat.reduceSub, Nat.reduceEqDiff, Nat.reduceBEq, Nat.reduceLeDiff, Nat.reduceLT, Nat.zero_add, Nat.add_zero, Bool.not_true, Bool.not_false, Bool.and_true, Bool.true_and, Bool.and_false, Bool.false_and, Bool.and_self, Bool.or_false, Bool.false_or, Bool.or_true, Bool.true_or, Bool.or_self, decide_eq_true_eq, Bool.not_eq_true', Bool.not_eq_eq_eq_not, decide_eq_false_iff_not, ite_not, ite_self, List.nil_append, List.append_nil, Option.map_some, Option.map_none, List.length_replicate, Int.natCast_nonneg, and_self, and_true, true_and, Bool.false_eq_true, decide_true, decide_false, List.cons_append, reduceCtorEq, Int.reduceAdd, Int.reduceSub, Int.reduceToNat, Int.cast_ofNat_Int, Int.reduceNeg, Int.reduceEq, Int.reduceLT, Int.reduceLE, not_true_eq_false, not_false_eq_true, eq_self]
-- loop.example/s02135/spec.l2Two
def c_spec_l2Two : Cd :=
  sq (r [0, 1, 2] [o 6 .mv [i 0], o 7 .mv [i 0]])
  (sq (sq (r [0, 1, 2, 9] [o 8 .mv [t 0], o 9 (.bin .eql) [t 8, i 1]])
    (.cond (t 9) (sq (r [6, 7] [o 10 .mv [t 1], o 11 .mv [t 2], o 12 (.bin .add) [t 10, t 11], o 13 (.call 129) [t 12], o 14 (.ext 0) [t 13], o 15 (.ext 1) [t 13], o 6 .mv [t 14], o 7 .mv [t 15]])
      (.ret)) (.skip)))
   (sq (sq (r [0, 1, 2, 17] [o 16 .mv [t 0], o 17 (.bin .eql) [t 16, i 2]])
     (.cond (t 17) (sq (r [6, 7] [o 18 .mv [t 1], o 19 .mv [t 2], o 20 (.bin .sub) [t 18, t 19], o 21 (.call 129) [t 20], o 22 (.ext 0) [t 21], o 23 (.ext 1) [t 21], o 6 .mv [t 22], o 7 .mv [t 23]])
       (.ret)) (.skip)))
    (sq (sq (r [0, 1, 2, 25] [o 24 .mv [t 0], o 25 (.bin .eql) [t 24, i 3]])
      (.cond (t 25) (sq (r [6, 7] [o 26 .mv [t 1], o 27 .mv [t 2], o 28 (.bin .mul) [t 26, t 27], o 29 (.call 129) [t 28], o 30 (.ext 0) [t 29], o 31 (.ext 1) [t 29], o 6 .mv [t 30], o 7 .mv [t 31]])
        (.ret)) (.skip)))
     (sq (sq (r [0, 1, 2, 33] [o 32 .mv [t 0], o 33 (.bin .eql) [t 32, i 4]])
       (.cond (t 33) (sq (sq (r [1, 2, 35] [o 34 .mv [t 2], o 35 (.bin .eql) [t 34, i 0]])
          (.cond (t 35) (sq (r [6, 7] [o 6 .mv [i 0], o 7 .mv [i 1]])
            (.ret)) (.skip)))
         (sq (r [6, 7] [o 36 .mv [t 1], o 37 .mv [t 2], o 38 (.call 130) [t 36, t 37], o 39 (.call 129) [t 38], o 40 (.ext 0) [t 39], o 41 (.ext 1) [t 39], o 6 .mv [t 40], o 7 .mv [t 41]])
          (.ret))) (.skip)))
      (sq (sq (r [0, 1, 2, 43] [o 42 .mv [t 0], o 43 (.bin .eql) [t 42, i 5]])
        (.cond (t 43) (sq (sq (r [1, 2, 45] [o 44 .mv [t 2], o 45 (.bin .eql) [t 44, i 0]])
           (.cond (t 45) (sq (r [6, 7] [o 46 .mv [t 1], o 6 .mv [t 46], o 7 .mv [i 0]])
             (.ret)) (.skip)))
          (sq (r [6, 7] [o 47 .mv [t 1], o 48 .mv [t 2], o 49 .mv [t 1], o 50 .mv [t 2], o 51 (.call 130) [t 49, t 50], o 52 (.bin .mul) [t 48, t 51], o 53 (.bin .sub) [t 47, t 52], o 54 (.call 129) [t 53], o 55 (.ext 0) [t 54], o 56 (.ext 1) [t 54], o 6 .mv [t 55], o 7 .mv [t 56]])
           (.ret))) (.skip)))
       (sq (sq (r [0, 1, 2, 58] [o 57 .mv [t 0], o 58 (.bin .eql) [t 57, i 8]])
         (.cond (t 58) (sq (r [6, 7] [o 59 .mv [t 1], o 60 .mv [t 2], o 61 (.bin .lss) [t 59, t 60], o 62 (.call 107) [t 61], o 6 .mv [t 62], o 7 .mv [i 0]])
           (.ret)) (.skip)))
        (sq (sq (r [0, 1, 2, 64] [o 63 .mv [t 0], o 64 (.bin .eql) [t 63, i 9]])
          (.cond (t 64) (sq (r [6, 7] [o 65 .mv [t 1], o 66 .mv [t 2], o 67 (.bin .eql) [t 65, t 66], o 68 (.call 107) [t 67], o 6 .mv [t 68], o 7 .mv [i 0]])
            (.ret)) (.skip)))
         (sq (sq (r [0, 1, 2, 70] [o 69 .mv [t 0], o 70 (.bin .eql) [t 69, i 10]])
           (.cond (t 70) (sq (r [6, 7] [o 71 .mv [t 1], o 72 .mv [t 2], o 73 (.bin .gtr) [t 71, t 72], o 74 (.call 107) [t 73], o 6 .mv [t 74], o 7 .mv [i 0]])
             (.ret)) (.skip)))
          (sq (sq (r [1, 2, 80] [o 75 .mv [t 0], o 76 (.bin .eql) [t 75, i 6], o 77 .mv [t 1], o 78 .mv [t 2], o 79 (.bin .lss) [t 77, t 78], o 80 (.beq false) [t 76, t 79]])
            (.cond (t 80) (sq (r [6, 7] [o 81 .mv [t 1], o 6 .mv [t 81], o 7 .mv [i 0]])
              (.ret)) (.skip)))
           (sq (r [6, 7] [o 82 .mv [t 2], o 6 .mv [t 82], o 7 .mv [i 0]])
            (.ret)))))))))))
def r_spec_l2Two : List RV := [.tmp 6, .tmp 7]
def spec_l2Two_f (L_spec_l2In : Int → Option (Int × Int)) (L_spec_l2Floor : Int → Int → Option (Int)) (L_spec_l2Bool : Bool → Option (Int)) (N : Nat) (a0 : Int) (a1 : Int) (a2 : Int) : Option (Int × Int) :=
  if a0 = 1 then ((L_spec_l2In (w64 (a1 + a2))).bind fun y0 =>
   some ((y0.fst, y0.snd)))
  else (if a0 = 2 then ((L_spec_l2In (w64 (a1 - a2))).bind fun y1 =>
    some ((y1.fst, y1.snd)))
   else (if a0 = 3 then ((L_spec_l2In (w64 (a1 * a2))).bind fun y2 =>
     some ((y2.fst, y2.snd)))
    else (if a0 = 4 then (if a2 = 0 then some ((0, 1))
      else ((L_spec_l2Floor a1 a2).bind fun y3 =>
       (L_spec_l2In y3).bind fun y4 =>
       some ((y4.fst, y4.snd))))
     else (if a0 = 5 then (if a2 = 0 then some ((a1, 0))
       else ((L_spec_l2Floor a1 a2).bind fun y5 =>
        (L_spec_l2In (w64 (a1 - w64 (a2 * y5)))).bind fun y6 =>
        some ((y6.fst, y6.snd))))
      else (if a0 = 8 then ((L_spec_l2Bool (Decidable.decide (a1 < a2))).bind fun y7 =>
        some ((y7, 0)))
       else (if a0 = 9 then ((L_spec_l2Bool (Decidable.decide (a1 = a2))).bind fun y8 =>
         some ((y8, 0)))
        else (if a0 = 10 then ((L_spec_l2Bool (Decidable.decide (a2 < a1))).bind fun y9 =>
          some ((y9, 0)))
         else (if (Decidable.decide (a0 = 6) == Decidable.decide (a1 < a2)) = true then some ((a1, 0))
          else some ((a2, 0))))))))))
theorem spec_l2Two_g (E : En) (hp : E.ps = []) (hl : E.pl = []) (hk : E.ck = []) (hr : E.rs = r_spec_l2Two) (hd : E.dd = none) (hw : ∀ y, E.wk y = some (nocap y)) (hfl : ∀ e, E.Γ.fl e = flatIds e) (m_spec_l2In : E.Γ.mu 129 = false) (L_spec_l2In : Int → Option (Int × Int)) (h_spec_l2In : ∀ (a0 : Int), E.Γ 129 [.d (.int .i64 a0)] = (L_spec_l2In a0).bind fun r => some (.ret (.tup [.d (.int .i64 r.1), .d (.int .i64 r.2)]) [])) (m_spec_l2Floor : E.Γ.mu 130 = false) (L_spec_l2Floor : Int → Int → Option (Int)) (h_spec_l2Floor : ∀ (a0 : Int) (a1 : Int), E.Γ 130 [.d (.int .i64 a0), .d (.int .i64 a1)] = (L_spec_l2Floor a0 a1).bind fun r => some (.ret (.d (.int .i64 r)) [])) (m_spec_l2Bool : E.Γ.mu 107 = false) (L_spec_l2Bool : Bool → Option (Int)) (h_spec_l2Bool : ∀ (a0 : Bool), E.Γ 107 [.d (.bool a0)] = (L_spec_l2Bool a0).bind fun r => some (.ret (.d (.int .i64 r)) [])) (a0 : Int) (a1 : Int) (a2 : Int) : G E c_spec_l2Two [] ⟨slotsOf [(0, .d (.int .i64 a0)), (1, .d (.int .i64 a1)), (2, .d (.int .i64 a2))], obsOf []⟩ = (spec_l2Two_f L_spec_l2In L_spec_l2Floor L_spec_l2Bool E.n a0 a1 a2).bind fun r => some (.ret (.tup [.d (.int .i64 r.1), .d (.int .i64 r.2)]) []) := by
  simp (config := {maxSteps := 2000000}) only [↓rPre, rPost, rCan, rObj, rI, rS, rB, r8, rLI, rEtc, hp, hl, hk, hr, hd, hw, hfl, flatIds, oid, r_spec_l2Two, ↓G_unf _ _ c_spec_l2Two.eq_1, h_spec_l2In, m_spec_l2In, h_spec_l2Floor, m_spec_l2Floor, h_spec_l2Bool, m_spec_l2Bool, bind_ite, spec_l2Two_f, rRow3, rFile, rRow104, rRow62, rArray, rRow27, rRow5, rRow9, ↓reduceIte, Option.some_beq_some, Nat.reduceMul, Nat.reduceAdd, Nat.reduceSub, Nat.reduceEqDiff, Nat.reduceBEq, Nat.reduceLeDiff, Nat.reduceLT, Nat.zero_add, Nat.add_zero, Bool.not_true, Bool.not_false, Bool.and_true, Bool.true_and, Bool.and_false, Bool.false_and, Bool.and_self, Bool.or_false, Bool.false_or, Bool.or_true, Bool.true_or, Bool.or_self, decide_eq_true_eq, Bool.not_eq_true', Bool.not_eq_eq_eq_not, decide_eq_false_iff_not, ite_not, ite_self, List.nil_append, List.append_nil, Option.map_some, Option.map_none, List.length_replicate, Int.natCast_nonneg, and_self, and_true, true_and, Bool.false_eq_true, decide_true, decide_false, List.cons_append, reduceCtorEq, Int.reduceAdd, Int.reduceSub, Int.reduceToNat, Int.cast_ofNat_Int, Int.reduceNeg, Int.reduceEq, Int.reduceLT, Int.reduceLE, not_true_eq_false, not_false_eq_true, eq_self]
-- loop.example/s02135/spec.l2OpOk
def c_spec_l2OpOk : Cd :=
  sq (r [0] [o 2 .mv [b false]])
  (sq (r [2] [o 3 .mv [t 0], o 4 (.bin .geq) [t 3, i 1], o 5 .mv [t 4], g 5 true 6 .mv [t 0], g 5 true 7 (.bin .leq) [t 6, i 10], o 8 .pick [t 5, t 7, b false], o 2 .mv [t 8]])
   (.ret))
def r_spec_l2OpOk : List RV := [.tmp 2]
def spec_l2OpOk_f (N : Nat) (a0 : Int) : Option (Bool) :=
  if 1 ≤ a0 then some (Decidable.decide (a0 ≤ 10))
  else some false
theorem spec_l2OpOk_g (E : En) (hp : E.ps = []) (hl : E.pl = []) (hk : E.ck = []) (hr : E.rs = r_spec_l2OpOk) (hd : E.dd = none) (hw : ∀ y, E.wk y = some (nocap y)) (hfl : ∀ e, E.Γ.fl e = flatIds e) (a0 : Int) : G E c_spec_l2OpOk [] ⟨slotsOf [(0, .d (.int .i64 a0))], obsOf []⟩ = (spec_l2OpOk_f E.n a0).bind fun r => some (.ret (.d (.bool r)) []) := by
  simp (config := {maxSteps := 2000000}) only [↓rPre, rPost, rCan, rObj, rI, rS, rB, r8, rLI, rEtc, hp, hl, hk, hr, hd, hw, hfl, flatIds, oid, r_spec_l2OpOk, ↓G_unf _ _ c_spec_l2OpOk.eq_1, bind_ite, spec_l2OpOk_f, rRow3, rFile, rRow104, rRow62, rArray, rRow27, rRow5, rRow9, ↓reduceIte, Option.some_beq_some, Nat.reduceMul, Nat.reduceAdd, Nat.reduceSub, Nat.reduceEqDiff, Nat.reduceBEq, Nat.reduceLeDiff, Nat.reduceLT, Nat.zero_add, Nat.add_zero, Bool.not_true, Bool.not_false, Bool.and_true, Bool.true_and, Bool.and_false, Bool.false_and, Bool.and_self, Bool.or_false, Bool.false_or, Bool.or_true, Bool.true_or, Bool.or_self, decide_eq_true_eq, Bool.not_eq_true', Bool.not_eq_eq_eq_not, decide_eq_false_iff_not, ite_not, ite_self, List.nil_append, List.append_nil, Option.map_some, Option.map_none, List.length_replicate, Int.natCast_nonneg, and_self, and_true, true_and, Bool.false_eq_true, decide_true, decide_false, List.cons_append, reduceCtorEq, Int.reduceAdd, Int.reduceSub, Int.reduceToNat, Int.cast_ofNat_Int, Int.reduceNeg, Int.reduceEq, Int.reduceLT, Int.reduceLE, not_true_eq_false, not_false_eq_true, eq_self]
-- loop.example/s02135/impl.inRange
def c_impl_inRange : Cd :=
  sq (r [0] [o 2 .mv [i 0]])
  (sq (sq (r [0, 8] [o 3 .mv [t 0], o 4 (.bin .lss) [t 3, i (-3000000000)], o 5 .mv [t 4], g 5 false 6 .mv [t 0], g 5 false 7 (.bin .gtr) [t 6, i 3000000000], o 8 .pick [t 5, b true, t 7]])
    (.cond (t 8) (r [0] [o 9 (.bld [(.d (iD 0))] [(0, 1)]) [i 5], o 10 (.mkI 70) [t 9], e .pan [t 10]]) (.skip)))
   (sq (r [2] [o 11 .mv [t 0], o 2 .mv [t 11]])
    (.ret)))
def r_impl_inRange : List RV := [.tmp 2]
def impl_inRange_f (N : Nat) (a0 : Int) : Option (Res (Int)) :=
  if a0 < -3000000000 then some (.pan (D.ifaceS 70 [D.int .i64 5]))
  else (if 3000000000 < a0 then some (.pan (D.ifaceS 70 [D.int .i64 5]))
   else some (.ok a0))
theorem impl_inRange_g (E : En) (hp : E.ps = []) (hl : E.pl = []) (hk : E.ck = []) (hr : E.rs = r_impl_inRange) (hd : E.dd = none) (hw : ∀ y, E.wk y = some (nocap y)) (hfl : ∀ e, E.Γ.fl e = flatIds e) (a0 : Int) : G E c_impl_inRange [] ⟨slotsOf [(0, .d (.int .i64 a0))], obsOf []⟩ = (impl_inRange_f E.n a0).bind fun r => r.on (fun r => some (.ret (.d (.int .i64 r)) [])) (fun x => some (.pan x [])) := by
  simp (config := {maxSteps := 2000000}) only [↓rPre, rPost, rCan, rObj, rI, rS, rB, r8, rLI, rEtc, hp, hl, hk, hr, hd, hw, hfl, flatIds, oid, r_impl_inRange, ↓G_unf _ _ c_impl_inRange.eq_1, bind_ite, impl_inRange_f, rRow3, rFile, rRow104, rRow62, rArray, rRow27, rRow5, rRow9, ↓reduceIte, Option.some_beq_some, Nat.reduceMul, Nat.reduceAdd, Nat.reduceSub, Nat.reduceEqDiff, Nat.reduceBEq, Nat.reduceLeDiff, Nat.reduceLT, Nat.zero_add, Nat.add_zero, Bool.not_true, Bool.not_false, Bool.and_true, Bool.true_and, Bool.and_false, Bool.false_and, Bool.and_self, Bool.or_false, Bool.false_or, Bool.or_true, Bool.true_or, Bool.or_self, decide_eq_true_eq, Bool.not_eq_true', Bool.not_eq_eq_eq_not, decide_eq_false_iff_not, ite_not, ite_self, List.nil_append, List.append_nil, Option.map_some, Option.map_none, List.length_replicate, Int.natCast_nonneg, and_self, and_true, true_and, Bool.false_eq_true, decide_true, decide_false, List.cons_append, reduceCtorEq, Int.reduceAdd, Int.reduceSub, Int.reduceToNat, Int.cast_ofNat_Int, Int.reduceNeg, Int.reduceEq, Int.reduceLT, Int.reduceLE, not_true_eq_false, not_false_eq_true, eq_self]
-- loop.example/s02135/impl.cellOps$1
def c_impl_cellOps_1 : Cd :=
  sq (r [0, 1] [o 4 .mv [i 0]])
  (sq (r [4] [o 5 .mv [t 0], o 6 .mv [t 1], o 7 (.bin .add) [t 5, t 6], o 8 (.call 151) [t 7], o 4 .mv [t 8]])
   (.ret))
def r_impl_cellOps_1 : List RV := [.tmp 4]
def impl_cellOps_1_f (L_impl_inRange : Int → Option (Res (Int))) (N : Nat) (a0 : Int) (a1 : Int) : Option (Res (Int)) :=
  (L_impl_inRange (w64 (a0 + a1))).bind fun y0 =>
  (y0).on (fun y1 => some (.ok y1)) (fun y1 => some (.pan (y1)))
theorem impl_cellOps_1_g (E : En) (hp : E.ps = []) (hl : E.pl = []) (hk : E.ck = []) (hr : E.rs = r_impl_cellOps_1) (hd : E.dd = none) (hw : ∀ y, E.wk y = some (nocap y)) (hfl : ∀ e, E.Γ.fl e = flatIds e) (m_impl_inRange : E.Γ.mu 151 = false) (L_impl_inRange : Int → Option (Res (Int))) (h_impl_inRange : ∀ (a0 : Int), E.Γ 151 [.d (.int .i64 a0)] = (L_impl_inRange a0).bind fun r => r.on (fun r => some (.ret (.d (.int .i64 r)) [])) (fun x => some (.pan x []))) (a0 : Int) (a1 : Int) : G E c_impl_cellOps_1 [] ⟨slotsOf [(0, .d (.int .i64 a0)), (1, .d (.int .i64 a1))], obsOf []⟩ = (impl_cellOps_1_f L_impl_inRange E.n a0 a1).bind fun r => r.on (fun r => some (.ret (.d (.int .i64 r)) [])) (fun x => some (.pan x [])) := by
  simp (config := {maxSteps := 2000000}) only [↓rPre, rPost, rCan, rObj, rI, rS, rB, r8, rLI, rEtc, hp, hl, hk, hr, hd, hw, hfl, flatIds, oid, r_impl_cellOps_1, ↓G_unf _ _ c_impl_cellOps_1.eq_1, h_impl_inRange, m_impl_inRange, bind_ite, impl_cellOps_1_f, rRow3, rFile, rRow104, rRow62, rArray, rRow27, rRow5, rRow9, ↓reduceIte, Option.some_beq_some, Nat.reduceMul, Nat.reduceAdd, Nat.reduceSub, Nat.reduceEqDiff, Nat.reduceBEq, Nat.reduceLeDiff, Nat.reduceLT, Nat.zero_add, Nat.add_zero, Bool.not_true, Bool.not_false, Bool.and_true, Bool.true_and, Bool.and_false, Bool.false_and, Bool.and_self, Bool.or_false, Bool.false_or, Bool.or_true, Bool.true_or, Bool.or_self, decide_eq_true_eq, Bool.not_eq_true', Bool.not_eq_eq_eq_not, decide_eq_false_iff_not, ite_not, ite_self, List.nil_append, List.append_nil, Option.map_some, Option.map_none, List.length_replicate, Int.natCast_nonneg, and_self, and_true, true_and, Bool.false_eq_true, decide_true, decide_false, List.cons_append, reduceCtorEq, Int.reduceAdd, Int.reduceSub, Int.reduceToNat, Int.cast_ofNat_Int, Int.reduceNeg, Int.reduceEq, Int.reduceLT, Int.reduceLE, not_true_eq_false, not_false_eq_true, eq_self]
-- loop.example/s02135/impl.cellOps$2
def c_impl_cellOps_2 : Cd :=
  sq (r [0, 1] [o 4 .mv [i 0]])
  (sq (r [4] [o 5 .mv [t 0], o 6 .mv [t 1], o 7 (.bin .sub) [t 5, t 6], o 8 (.call 151) [t 7], o 4 .mv [t 8]])
   (.ret))
def r_impl_cellOps_2 : List RV := [.tmp 4]
def impl_cellOps_2_f (L_impl_inRange : Int → Option (Res (Int))) (N : Nat) (a0 : Int) (a1 : Int) : Option (Res (Int)) :=
  (L_impl_inRange (w64 (a0 - a1))).bind fun y0 =>
  (y0).on (fun y1 => some (.ok y1)) (fun y1 => some (.pan (y1)))
theorem impl_cellOps_2_g (E : En) (hp : E.ps = []) (hl : E.pl = []) (hk : E.ck = []) (hr : E.rs = r_impl_cellOps_2) (hd : E.dd = none) (hw : ∀ y, E.wk y = some (nocap y)) (hfl : ∀ e, E.Γ.fl e = flatIds e) (m_impl_inRange : E.Γ.mu 151 = false) (L_impl_inRange : Int → Option (Res (Int))) (h_impl_inRange : ∀ (a0 : Int), E.Γ 151 [.d (.int .i64 a0)] = (L_impl_inRange a0).bind fun r => r.on (fun r => some (.ret (.d (.int .i64 r)) [])) (fun x => some (.pan x []))) (a0 : Int) (a1 : Int) : G E c_impl_cellOps_2 [] ⟨slotsOf [(0, .d (.int .i64 a0)), (1, .d (.int .i64 a1))], obsOf []⟩ = (impl_cellOps_2_f L_impl_inRange E.n a0 a1).bind fun r => r.on (fun r => some (.ret (.d (.int .i64 r)) [])) (fun x => some (.pan x [])) := by
  simp (config := {maxSteps := 2000000}) only [↓rPre, rPost, rCan, rObj, rI, rS, rB, r8, rLI, rEtc, hp, hl, hk, hr, hd, hw, hfl, flatIds, oid, r_impl_cellOps_2, ↓G_unf _ _ c_impl_cellOps_2.eq_1, h_impl_inRange, m_impl_inRange, bind_ite, impl_cellOps_2_f, rRow3, rFile, rRow104, rRow62, rArray, rRow27, rRow5, rRow9, ↓reduceIte, Option.some_beq_some, Nat.reduceMul, Nat.reduceAdd, Nat.reduceSub, Nat.reduceEqDiff, Nat.reduceBEq, Nat.reduceLeDiff, Nat.reduceLT, Nat.zero_add, Nat.add_zero, Bool.not_true, Bool.not_false, Bool.and_true, Bool.true_and, Bool.and_false, Bool.false_and, Bool.and_self, Bool.or_false, Bool.false_or, Bool.or_true, Bool.true_or, Bool.or_self, decide_eq_true_eq, Bool.not_eq_true', Bool.not_eq_eq_eq_not, decide_eq_false_iff_not, ite_not, ite_self, List.nil_append, List.append_nil, Option.map_some, Option.map_none, List.length_replicate, Int.natCast_nonneg, and_self, and_true, true_and, Bool.false_eq_true, decide_true, decide_false, List.cons_append, reduceCtorEq, Int.reduceAdd, Int.reduceSub, Int.reduceToNat, Int.cast_ofNat_Int, Int.reduceNeg, Int.reduceEq, Int.reduceLT, Int.reduceLE, not_true_eq_false, not_false_eq_true, eq_self]
-- loop.example/s02135/impl.cellOps$3
def c_impl_cellOps_3 : Cd :=
  sq (r [0, 1] [o 4 .mv [i 0]])
  (sq (r [4] [o 5 .mv [t 0], o 6 .mv [t 1], o 7 (.bin .mul) [t 5, t 6], o 8 (.call 151) [t 7], o 4 .mv [t 8]])
   (.ret))
def r_impl_cellOps_3 : List RV := [.tmp 4]
def impl_cellOps_3_f (L_impl_inRange : Int → Option (Res (Int))) (N : Nat) (a0 : Int) (a1 : Int) : Option (Res (Int)) :=
  (L_impl_inRange (w64 (a0 * a1))).bind fun y0 =>
  (y0).on (fun y1 => some (.ok y1)) (fun y1 => some (.pan (y1)))
theorem impl_cellOps_3_g (E : En) (hp : E.ps = []) (hl : E.pl = []) (hk : E.ck = []) (hr : E.rs = r_impl_cellOps_3) (hd : E.dd = none) (hw : ∀ y, E.wk y = some (nocap y)) (hfl : ∀ e, E.Γ.fl e = flatIds e) (m_impl_inRange : E.Γ.mu 151 = false) (L_impl_inRange : Int → Option (Res (Int))) (h_impl_inRange : ∀ (a0 : Int), E.Γ 151 [.d (.int .i64 a0)] = (L_impl_inRange a0).bind fun r => r.on (fun r => some (.ret (.d (.int .i64 r)) [])) (fun x => some (.pan x []))) (a0 : Int) (a1 : Int) : G E c_impl_cellOps_3 [] ⟨slotsOf [(0, .d (.int .i64 a0)), (1, .d (.int .i64 a1))], obsOf []⟩ = (impl_cellOps_3_f L_impl_inRange E.n a0 a1).bind fun r => r.on (fun r => some (.ret (.d (.int .i64 r)) [])) (fun x => some (.pan x [])) := by
  simp (config := {maxSteps := 2000000}) only [↓rPre, rPost, rCan, rObj, rI, rS, rB, r8, rLI, rEtc, hp, hl, hk, hr, hd, hw, hfl, flatIds, oid, r_impl_cellOps_3, ↓G_unf _ _ c_impl_cellOps_3.eq_1, h_impl_inRange, m_impl_inRange, bind_ite, impl_cellOps_3_f, rRow3, rFile, rRow104, rRow62, rArray, rRow27, rRow5, rRow9, ↓reduceIte, Option.some_beq_some, Nat.reduceMul, Nat.reduceAdd, Nat.reduceSub, Nat.reduceEqDiff, Nat.reduceBEq, Nat.reduceLeDiff, Nat.reduceLT, Nat.zero_add, Nat.add_zero, Bool.not_true, Bool.not_false, Bool.and_true, Bool.true_and, Bool.and_false, Bool.false_and, Bool.and_self, Bool.or_false, Bool.false_or, Bool.or_true, Bool.true_or, Bool.or_self, decide_eq_true_eq, Bool.not_eq_true', Bool.not_eq_eq_eq_not, decide_eq_false_iff_not, ite_not, ite_self, List.nil_append, List.append_nil, Option.map_some, Option.map_none, List.length_replicate, Int.natCast_nonneg, and_self, and_true, true_and, Bool.false_eq_true, decide_true, decide_false, List.cons_append, reduceCtorEq, Int.reduceAdd, Int.reduceSub, Int.reduceToNat, Int.cast_ofNat_Int, Int.reduceNeg, Int.reduceEq, Int.reduceLT, Int.reduceLE, not_true_eq_false, not_false_eq_true, eq_self]
-- loop.example/s02135/impl.floorDiv
def c_impl_floorDiv : Cd :=
  sq (r [0, 1] [o 4 .mv [i 0]])
  (sq (sq (r [0, 1, 8] [o 7 .mv [t 1], o 8 (.bin .eql) [t 7, i 0]])
    (.cond (t 8) (r [0, 1] [o 9 (.bld [(.d (iD 0))] [(0, 1)]) [i 1], o 10 (.mkI 70) [t 9], e .pan [t 10]]) (.skip)))
   (sq (rd [] [1, 5, 6] [o 11 .mv [t 0], o 12 .mv [t 1], o 13 (.bin .quo) [t 11, t 12], o 14 .mv [t 0], o 15 .mv [t 1], o 16 (.bin .rem) [t 14, t 15], o 5 .mv [t 13], o 6 .mv [t 16]])
    (sq (sq (r [5, 25] [o 17 .mv [t 6], o 18 (.bin .neq) [t 17, i 0], o 19 .mv [t 18], g 19 true 20 .mv [t 6], g 19 true 21 (.bin .lss) [t 20, i 0], g 19 true 22 .mv [t 1], g 19 true 23 (.bin .lss) [t 22, i 0], g 19 true 24 (.beq true) [t 21, t 23], o 25 .pick [t 19, t 24, b false]])
      (.cond (t 25) (r [5] [o 26 .mv [t 5], o 27 (.bin .sub) [t 26, i 1], o 5 .mv [t 27]]) (.skip)))
     (sq (r [4] [o 28 .mv [t 5], o 4 .mv [t 28]])
      (.ret)))))
def r_impl_floorDiv : List RV := [.tmp 4]
def impl_floorDiv_f (N : Nat) (a0 : Int) (a1 : Int) : Option (Res (Int)) :=
  if a1 = 0 then some (.pan (D.ifaceS 70 [D.int .i64 1]))
  else (if a1 = 0 then none
   else (if a1 = 0 then none
    else (if Int.tmod a0 a1 = 0 then some (.ok (w64 (Int.tdiv a0 a1)))
     else (if (Decidable.decide (Int.tmod a0 a1 < 0) == Decidable.decide (a1 < 0)) = false then some (.ok (w64 (w64 (Int.tdiv a0 a1) - 1)))
      else some (.ok (w64 (Int.tdiv a0 a1)))))))
theorem impl_floorDiv_g (E : En) (hp : E.ps = []) (hl : E.pl = []) (hk : E.ck = []) (hr : E.rs = r_impl_floorDiv) (hd : E.dd = none) (hw : ∀ y, E.wk y = some (nocap y)) (hfl : ∀ e, E.Γ.fl e = flatIds e) (a0 : Int) (a1 : Int) : G E c_impl_floorDiv [] ⟨slotsOf [(0, .d (.int .i64 a0)), (1, .d (.int .i64 a1))], obsOf []⟩ = (impl_floorDiv_f E.n a0 a1).bind fun r => r.on (fun r => some (.ret (.d (.int .i64 r)) [])) (fun x => some (.pan x [])) := by
  simp (config := {maxSteps := 2000000}) only [↓rPre, rPost, rCan, rObj, rI, rS, rB, r8, rLI, rEtc, hp, hl, hk, hr, hd, hw, hfl, flatIds, oid, r_impl_floorDiv, ↓G_unf _ _ c_impl_floorDiv.eq_1, bind_ite, impl_floorDiv_f, rRow3, rFile, rRow104, rRow62, rArray, rRow27, rRow5, rRow9, ↓reduceIte, Option.some_beq_some, Nat.reduceMul, Nat.reduceAdd, Nat.reduceSub, Nat.reduceEqDiff, Nat.reduceBEq, Nat.reduceLeDiff, Nat.reduceLT, Nat.zero_add, Nat.add_zero, Bool.not_true, Bool.not_false, Bool.and_true, Bool.true_and, Bool.and_false, Bool.false_and, Bool.and_self, Bool.or_false, Bool.false_or, Bool.or_true, Bool.true_or, Bool.or_self, decide_eq_true_eq, Bool.not_eq_true', Bool.not_eq_eq_eq_not, decide_eq_false_iff_not, ite_not, ite_self, List.nil_append, List.append_nil, Option.map_some, Option.map_none, List.length_replicate, Int.natCast_nonneg, and_self, and_true, true_and, Bool.false_eq_true, decide_true, decide_false, List.cons_append, reduceCtorEq, Int.reduceAdd, Int.reduceSub, Int.reduceToNat, Int.cast_ofNat_Int, Int.reduceNeg, Int.reduceEq, Int.reduceLT, Int.reduceLE, not_true_eq_false, not_false_eq_true, eq_self]
-- loop.example/s02135/impl.cellOps$4
def c_impl_cellOps_4 : Cd :=
  sq (r [0, 1] [o 4 .mv [i 0]])
  (sq (r [4] [o 5 .mv [t 0], o 6 .mv [t 1], o 7 (.call 155) [t 5, t 6], o 8 (.call 151) [t 7], o 4 .mv [t 8]])
   (.ret))
def r_impl_cellOps_4 : List RV := [.tmp 4]
def impl_cellOps_4_f (L_impl_floorDiv : Int → Int → Option (Res (Int))) (L_impl_inRange : Int → Option (Res (Int))) (N : Nat) (a0 : Int) (a1 : Int) : Option (Res (Int)) :=
  (L_impl_floorDiv a0 a1).bind fun y0 =>
  (y0).on (fun y1 => (L_impl_inRange y1).bind fun y2 =>
   (y2).on (fun y3 => some (.ok y3)) (fun y3 => some (.pan (y3)))) (fun y1 => some (.pan (y1)))
theorem impl_cellOps_4_g (E : En) (hp : E.ps = []) (hl : E.pl = []) (hk : E.ck = []) (hr : E.rs = r_impl_cellOps_4) (hd : E.dd = none) (hw : ∀ y, E.wk y = some (nocap y)) (hfl : ∀ e, E.Γ.fl e = flatIds e) (m_impl_floorDiv : E.Γ.mu 155 = false) (L_impl_floorDiv : Int → Int → Option (Res (Int))) (h_impl_floorDiv : ∀ (a0 : Int) (a1 : Int), E.Γ 155 [.d (.int .i64 a0), .d (.int .i64 a1)] = (L_impl_floorDiv a0 a1).bind fun r => r.on (fun r => some (.ret (.d (.int .i64 r)) [])) (fun x => some (.pan x []))) (m_impl_inRange : E.Γ.mu 151 = false) (L_impl_inRange : Int → Option (Res (Int))) (h_impl_inRange : ∀ (a0 : Int), E.Γ 151 [.d (.int .i64 a0)] = (L_impl_inRange a0).bind fun r => r.on (fun r => some (.ret (.d (.int .i64 r)) [])) (fun x => some (.pan x []))) (a0 : Int) (a1 : Int) : G E c_impl_cellOps_4 [] ⟨slotsOf [(0, .d (.int .i64 a0)), (1, .d (.int .i64 a1))], obsOf []⟩ = (impl_cellOps_4_f L_impl_floorDiv L_impl_inRange E.n a0 a1).bind fun r => r.on (fun r => some (.ret (.d (.int .i64 r)) [])) (fun x => some (.pan x [])) := by
  simp (config := {maxSteps := 2000000}) only [↓rPre, rPost, rCan, rObj, rI, rS, rB, r8, rLI, rEtc, hp, hl, hk, hr, hd, hw, hfl, flatIds, oid, r_impl_cellOps_4, ↓G_unf _ _ c_impl_cellOps_4.eq_1, h_impl_floorDiv, m_impl_floorDiv, h_impl_inRange, m_impl_inRange, bind_ite, impl_cellOps_4_f, rRow3, rFile, rRow104, rRow62, rArray, rRow27, rRow5, rRow9, ↓reduceIte, Option.some_beq_some, Nat.reduceMul, Nat.reduceAdd, Nat.reduceSub, Nat.reduceEqDiff, Nat.reduceBEq, Nat.reduceLeDiff, Nat.reduceLT, Nat.zero_add, Nat.add_zero, Bool.not_true, Bool.not_false, Bool.and_true, Bool.true_and, Bool.and_false, Bool.false_and, Bool.and_self, Bool.or_false, Bool.false_or, Bool.or_true, Bool.true_or, Bool.or_self, decide_eq_true_eq, Bool.not_eq_true', Bool.not_eq_eq_eq_not, decide_eq_false_iff_not, ite_not, ite_self, List.nil_append, List.append_nil, Option.map_some, Option.map_none, List.length_replicate, Int.natCast_nonneg, and_self, and_true, true_and, Bool.false_eq_true, decide_true, decide_false, List.cons_append, reduceCtorEq, Int.reduceAdd, Int.reduceSub, Int.reduceToNat, Int.cast_ofNat_Int, Int.reduceNeg, Int.reduceEq, Int.reduceLT, Int.reduceLE, not_true_eq_false, not_false_eq_true, eq_self]
-- loop.example/s02135/impl.residue
def c_impl_residue : Cd :=
  sq (r [0, 1] [o 4 .mv [i 0]])
  (sq (sq (r [0, 1, 7] [o 6 .mv [t 1], o 7 (.bin .eql) [t 6, i 0]])
    (.cond (t 7) (sq (r [4] [o 8 .mv [t 0], o 4 .mv [t 8]])
      (.ret)) (.skip)))
   (sq (r [1, 5] [o 9 .mv [t 0], o 10 .mv [t 1], o 11 (.bin .rem) [t 9, t 10], o 5 .mv [t 11]])
    (sq (sq (r [1, 5, 20] [o 12 .mv [t 5], o 13 (.bin .neq) [t 12, i 0], o 14 .mv [t 13], g 14 true 15 .mv [t 5], g 14 true 16 (.bin .lss) [t 15, i 0], g 14 true 17 .mv [t 1], g 14 true 18 (.bin .lss) [t 17, i 0], g 14 true 19 (.beq true) [t 16, t 18], o 20 .pick [t 14, t 19, b false]])
      (.cond (t 20) (r [5] [o 21 .mv [t 5], o 22 .mv [t 1], o 23 (.bin .add) [t 21, t 22], o 5 .mv [t 23]]) (.skip)))
     (sq (r [4] [o 24 .mv [t 5], o 4 .mv [t 24]])
      (.ret)))))
def r_impl_residue : List RV := [.tmp 4]
def impl_residue_f (N : Nat) (a0 : Int) (a1 : Int) : Option (Int) :=
  if a1 = 0 then some a0
  else (if a1 = 0 then none
   else (if Int.tmod a0 a1 = 0 then some (Int.tmod a0 a1)
    else (if (Decidable.decide (Int.tmod a0 a1 < 0) == Decidable.decide (a1 < 0)) = false then some (w64 (Int.tmod a0 a1 + a1))
     else some (Int.tmod a0 a1))))
theorem impl_residue_g (E : En) (hp : E.ps = []) (hl : E.pl = []) (hk : E.ck = []) (hr : E.rs = r_impl_residue) (hd : E.dd = none) (hw : ∀ y, E.wk y = some (nocap y)) (hfl : ∀ e, E.Γ.fl e = flatIds e) (a0 : Int) (a1 : Int) : G E c_impl_residue [] ⟨slotsOf [(0, .d (.int .i64 a0)), (1, .d (.int .i64 a1))], obsOf []⟩ = (impl_residue_f E.n a0 a1).bind fun r => some (.ret (.d (.int .i64 r)) []) := by
  simp (config := {maxSteps := 2000000}) only [↓rPre, rPost, rCan, rObj, rI, rS, rB, r8, rLI, rEtc, hp, hl, hk, hr, hd, hw, hfl, flatIds, oid, r_impl_residue, ↓G_unf _ _ c_impl_residue.eq_1, bind_ite, impl_residue_f, rRow3, rFile, rRow104, rRow62, rArray, rRow27, rRow5, rRow9, ↓reduceIte, Option.some_beq_some, Nat.reduceMul, Nat.reduceAdd, Nat.reduceSub, Nat.reduceEqDiff, Nat.reduceBEq, Nat.reduceLeDiff, Nat.reduceLT, Nat.zero_add, Nat.add_zero, Bool.not_true, Bool.not_false, Bool.and_true, Bool.true_and, Bool.and_false, Bool.false_and, Bool.and_self, Bool.or_false, Bool.false_or, Bool.or_true, Bool.true_or, Bool.or_self, decide_eq_true_eq, Bool.not_eq_true', Bool.not_eq_eq_eq_not, decide_eq_false_iff_not, ite_not, ite_self, List.nil_append, List.append_nil, Option.map_some, Option.map_none, List.length_replicate, Int.natCast_nonneg, and_self, and_true, true_and, Bool.false_eq_true, decide_true, decide_false, List.cons_append, reduceCtorEq, Int.reduceAdd, Int.reduceSub, Int.reduceToNat, Int.cast_ofNat_Int, Int.reduceNeg, Int.reduceEq, Int.reduceLT, Int.reduceLE, not_true_eq_false, not_false_eq_true, eq_self]
-- loop.example/s02135/impl.cellOps$5
def c_impl_cellOps_5 : Cd :=
  sq (r [0, 1] [o 4 .mv [i 0]])
  (sq (r [4] [o 5 .mv [t 0], o 6 .mv [t 1], o 7 (.mm false) [t 5, t 6], o 4 .mv [t 7]])
   (.ret))
def r_impl_cellOps_5 : List RV := [.tmp 4]
def impl_cellOps_5_f (N : Nat) (a0 : Int) (a1 : Int) : Option (Int) :=
  some (if a1 < a0 then a1 else a0)
theorem impl_cellOps_5_g (E : En) (hp : E.ps = []) (hl : E.pl = []) (hk : E.ck = []) (hr : E.rs = r_impl_cellOps_5) (hd : E.dd = none) (hw : ∀ y, E.wk y = some (nocap y)) (hfl : ∀ e, E.Γ.fl e = flatIds e) (a0 : Int) (a1 : Int) : G E c_impl_cellOps_5 [] ⟨slotsOf [(0, .d (.int .i64 a0)), (1, .d (.int .i64 a1))], obsOf []⟩ = (impl_cellOps_5_f E.n a0 a1).bind fun r => some (.ret (.d (.int .i64 r)) []) := by
  simp (config := {maxSteps := 2000000}) only [↓rPre, rPost, rCan, rObj, rI, rS, rB, r8, rLI, rEtc, hp, hl, hk, hr, hd, hw, hfl, flatIds, oid, r_impl_cellOps_5, ↓G_unf _ _ c_impl_cellOps_5.eq_1, bind_ite, impl_cellOps_5_f, rRow3, rFile, rRow104, rRow62, rArray, rRow27, rRow5, rRow9, ↓reduceIte, Option.some_beq_some, Nat.reduceMul, Nat.reduceAdd, Nat.reduceSub, Nat.reduceEqDiff, Nat.reduceBEq, Nat.reduceLeDiff, Nat.reduceLT, Nat.zero_add, Nat.add_zero, Bool.not_true, Bool.not_false, Bool.and_true, Bool.true_and, Bool.and_false, Bool.false_and, Bool.and_self, Bool.or_false, Bool.false_or, Bool.or_true, Bool.true_or, Bool.or_self, decide_eq_true_eq, Bool.not_eq_true', Bool.not_eq_eq_eq_not, decide_eq_false_iff_not, ite_not, ite_self, List.nil_append, List.append_nil, Option.map_some, Option.map_none, List.length_replicate, Int.natCast_nonneg, and_self, and_true, true_and, Bool.false_eq_true, decide_true, decide_false, List.cons_append, reduceCtorEq, Int.reduceAdd, Int.reduceSub, Int.reduceToNat, Int.cast_ofNat_Int, Int.reduceNeg, Int.reduceEq, Int.reduceLT, Int.reduceLE, not_true_eq_false, not_false_eq_true, eq_self]
-- loop.example/s02135/impl.cellOps$6
def c_impl_cellOps_6 : Cd :=
  sq (r [0, 1] [o 4 .mv [i 0]])
  (sq (r [4] [o 5 .mv [t 0], o 6 .mv [t 1], o 7 (.mm true) [t 5, t 6], o 4 .mv [t 7]])
   (.ret))
def r_impl_cellOps_6 : List RV := [.tmp 4]
def impl_cellOps_6_f (N : Nat) (a0 : Int) (a1 : Int) : Option (Int) :=
  some (if a0 < a1 then a1 else a0)
theorem impl_cellOps_6_g (E : En) (hp : E.ps = []) (hl : E.pl = []) (hk : E.ck = []) (hr : E.rs = r_impl_cellOps_6) (hd : E.dd = none) (hw : ∀ y, E.wk y = some (nocap y)) (hfl : ∀ e, E.Γ.fl e = flatIds e) (a0 : Int) (a1 : Int) : G E c_impl_cellOps_6 [] ⟨slotsOf [(0, .d (.int .i64 a0)), (1, .d (.int .i64 a1))], obsOf []⟩ = (impl_cellOps_6_f E.n a0 a1).bind fun r => some (.ret (.d (.int .i64 r)) []) := by
  simp (config := {maxSteps := 2000000}) only [↓rPre, rPost, rCan, rObj, rI, rS, rB, r8, rLI, rEtc, hp, hl, hk, hr, hd, hw, hfl, flatIds, oid, r_impl_cellOps_6, ↓G_unf _ _ c_impl_cellOps_6.eq_1, bind_ite, impl_cellOps_6_f, rRow3, rFile, rRow104, rRow62, rArray, rRow27, rRow5, rRow9, ↓reduceIte, Option.some_beq_some, Nat.reduceMul, Nat.reduceAdd, Nat.reduceSub, Nat.reduceEqDiff, Nat.reduceBEq, Nat.reduceLeDiff, Nat.reduceLT, Nat.zero_add, Nat.add_zero, Bool.not_true, Bool.not_false, Bool.and_true, Bool.true_and, Bool.and_false, Bool.false_and, Bool.and_self, Bool.or_false, Bool.false_or, Bool.or_true, Bool.true_or, Bool.or_self, decide_eq_true_eq, Bool.not_eq_true', Bool.not_eq_eq_eq_not, decide_eq_false_iff_not, ite_not, ite_self, List.nil_append, List.append_nil, Option.map_some, Option.map_none, List.length_replicate, Int.natCast_nonneg, and_self, and_true, true_and, Bool.false_eq_true, decide_true, decide_false, List.cons_append, reduceCtorEq, Int.reduceAdd, Int.reduceSub, Int.reduceToNat, Int.cast_ofNat_Int, Int.reduceNeg, Int.reduceEq, Int.reduceLT, Int.reduceLE, not_true_eq_false, not_false_eq_true, eq_self]
-- loop.example/s02135/impl.truth
def c_impl_truth : Cd :=
  sq (r [0] [o 2 .mv [i 0]])
  (sq (sq (r [3] [o 3 .mv [t 0]])
    (.cond (t 3) (sq (r [2] [o 2 .mv [i 1]])
      (.ret)) (.skip)))
   (sq (r [2] [o 2 .mv [i 0]])
    (.ret)))
def r_impl_truth : List RV := [.tmp 2]
def impl_truth_f (N : Nat) (a0 : Bool) : Option (Int) :=
  if a0 = true then some 1
  else some 0
theorem impl_truth_g (E : En) (hp : E.ps = []) (hl : E.pl = []) (hk : E.ck = []) (hr : E.rs = r_impl_truth) (hd : E.dd = none) (hw : ∀ y, E.wk y = some (nocap y)) (hfl : ∀ e, E.Γ.fl e = flatIds e) (a0 : Bool) : G E c_impl_truth [] ⟨slotsOf [(0, .d (.bool a0))], obsOf []⟩ = (impl_truth_f E.n a0).bind fun r => some (.ret (.d (.int .i64 r)) []) := by
  simp (config := {maxSteps := 2000000}) only [↓rPre, rPost, rCan, rObj, rI, rS, rB, r8, rLI, rEtc, hp, hl, hk, hr, hd, hw, hfl, flatIds, oid, r_impl_truth, ↓G_unf _ _ c_impl_truth.eq_1, bind_ite, impl_truth_f, rRow3, rFile, rRow104, rRow62, rArray, rRow27, rRow5, rRow9, ↓reduceIte, Option.some_beq_some, Nat.reduceMul, Nat.reduceAdd, Nat.reduceSub, Nat.reduceEqDiff, Nat.reduceBEq, Nat.reduceLeDiff, Nat.reduceLT, Nat.zero_add, Nat.add_zero, Bool.not_true, Bool.not_false, Bool.and_true, Bool.true_and, Bool.and_false, Bool.false_and, Bool.and_self, Bool.or_false, Bool.false_or, Bool.or_true, Bool.true_or, Bool.or_self, decide_eq_true_eq, Bool.not_eq_true', Bool.not_eq_eq_eq_not, decide_eq_false_iff_not, ite_not, ite_self, List.nil_append, List.append_nil, Option.map_some, Option.map_none, List.length_replicate, Int.natCast_nonneg, and_self, and_true, true_and, Bool.false_eq_true, decide_true, decide_false, List.cons_append, reduceCtorEq, Int.reduceAdd, Int.reduceSub, Int.reduceToNat, Int.cast_ofNat_Int, Int.reduceNeg, Int.reduceEq, Int.reduceLT, Int.reduceLE, not_true_eq_false, not_false_eq_true, eq_self]
-- loop.example/s02135/impl.cellOps$7
def c_impl_cellOps_7 : Cd :=
  sq (r [0, 1] [o 4 .mv [i 0]])
  (sq (r [4] [o 5 .mv [t 0], o 6 .mv [t 1], o 7 (.bin .lss) [t 5, t 6], o 8 (.call 117) [t 7], o 4 .mv [t 8]])
   (.ret))
def r_impl_cellOps_7 : List RV := [.tmp 4]
def impl_cellOps_7_f (L_impl_truth : Bool → Option (Int)) (N : Nat) (a0 : Int) (a1 : Int) : Option (Int) :=
  (L_impl_truth (Decidable.decide (a0 < a1))).bind fun y0 =>
  some y0
theorem impl_cellOps_7_g (E : En) (hp : E.ps = []) (hl : E.pl = []) (hk : E.ck = []) (hr : E.rs = r_impl_cellOps_7) (hd : E.dd = none) (hw : ∀ y, E.wk y = some (nocap y)) (hfl : ∀ e, E.Γ.fl e = flatIds e) (m_impl_truth : E.Γ.mu 117 = false) (L_impl_truth : Bool → Option (Int)) (h_impl_truth : ∀ (a0 : Bool), E.Γ 117 [.d (.bool a0)] = (L_impl_truth a0).bind fun r => some (.ret (.d (.int .i64 r)) [])) (a0 : Int) (a1 : Int) : G E c_impl_cellOps_7 [] ⟨slotsOf [(0, .d (.int .i64 a0)), (1, .d (.int .i64 a1))], obsOf []⟩ = (impl_cellOps_7_f L_impl_truth E.n a0 a1).bind fun r => some (.ret (.d (.int .i64 r)) []) := by
  simp (config := {maxSteps := 2000000}) only [↓rPre, rPost, rCan, rObj, rI, rS, rB, r8, rLI, rEtc, hp, hl, hk, hr, hd, hw, hfl, flatIds, oid, r_impl_cellOps_7, ↓G_unf _ _ c_impl_cellOps_7.eq_1, h_impl_truth, m_impl_truth, bind_ite, impl_cellOps_7_f, rRow3, rFile, rRow104, rRow62, rArray, rRow27, rRow5, rRow9, ↓reduceIte, Option.some_beq_some, Nat.reduceMul, Nat.reduceAdd, Nat.reduceSub, Nat.reduceEqDiff, Nat.reduceBEq, Nat.reduceLeDiff, Nat.reduceLT, Nat.zero_add, Nat.add_zero, Bool.not_true, Bool.not_false, Bool.and_true, Bool.true_and, Bool.and_false, Bool.false_and, Bool.and_self, Bool.or_false, Bool.false_or, Bool.or_true, Bool.true_or, Bool.or_self, decide_eq_true_eq, Bool.not_eq_true', Bool.not_eq_eq_eq_not, decide_eq_false_iff_not, ite_not, ite_self, List.nil_append, List.append_nil, Option.map_some, Option.map_none, List.length_replicate, Int.natCast_nonneg, and_self, and_true, true_and, Bool.false_eq_true, decide_true, decide_false, List.cons_append, reduceCtorEq, Int.reduceAdd, Int.reduceSub, Int.reduceToNat, Int.cast_ofNat_Int, Int.reduceNeg, Int.reduceEq, Int.reduceLT, Int.reduceLE, not_true_eq_false, not_false_eq_true, eq_self]
-- loop.example/s02135/impl.cellOps$8
def c_impl_cellOps_8 : Cd :=
  sq (r [0, 1] [o 4 .mv [i 0]])
  (sq (r [4] [o 5 .mv [t 0], o 6 .mv [t 1], o 7 (.bin .eql) [t 5, t 6], o 8 (.call 117) [t 7], o 4 .mv [t 8]])
   (.ret))
def r_impl_cellOps_8 : List RV := [.tmp 4]
def impl_cellOps_8_f (L_impl_truth : Bool → Option (Int)) (N : Nat) (a0 : Int) (a1 : Int) : Option (Int) :=
  (L_impl_truth (Decidable.decide (a0 = a1))).bind fun y0 =>
  some y0
theorem impl_cellOps_8_g (E : En) (hp : E.ps = []) (hl : E.pl = []) (hk : E.ck = []) (hr : E.rs = r_impl_cellOps_8) (hd : E.dd = none) (hw : ∀ y, E.wk y = some (nocap y)) (hfl : ∀ e, E.Γ.fl e = flatIds e) (m_impl_truth : E.Γ.mu 117 = false) (L_impl_truth : Bool → Option (Int)) (h_impl_truth : ∀ (a0 : Bool), E.Γ 117 [.d (.bool a0)] = (L_impl_truth a0).bind fun r => some (.ret (.d (.int .i64 r)) [])) (a0 : Int) (a1 : Int) : G E c_impl_cellOps_8 [] ⟨slotsOf [(0, .d (.int .i64 a0)), (1, .d (.int .i64 a1))], obsOf []⟩ = (impl_cellOps_8_f L_impl_truth E.n a0 a1).bind fun r => some (.ret (.d (.int .i64 r)) []) := by
  simp (config := {maxSteps := 2000000}) only [↓rPre, rPost, rCan, rObj, rI, rS, rB, r8, rLI, rEtc, hp, hl, hk, hr, hd, hw, hfl, flatIds, oid, r_impl_cellOps_8, ↓G_unf _ _ c_impl_cellOps_8.eq_1, h_impl_truth, m_impl_truth, bind_ite, impl_cellOps_8_f, rRow3, rFile, rRow104, rRow62, rArray, rRow27, rRow5, rRow9, ↓reduceIte, Option.some_beq_some, Nat.reduceMul, Nat.reduceAdd, Nat.reduceSub, Nat.reduceEqDiff, Nat.reduceBEq, Nat.reduceLeDiff, Nat.reduceLT, Nat.zero_add, Nat.add_zero, Bool.not_true, Bool.not_false, Bool.and_true, Bool.true_and, Bool.and_false, Bool.false_and, Bool.and_self, Bool.or_false, Bool.false_or, Bool.or_true, Bool.true_or, Bool.or_self, decide_eq_true_eq, Bool.not_eq_true', Bool.not_eq_eq_eq_not, decide_eq_false_iff_not, ite_not, ite_self, List.nil_append, List.append_nil, Option.map_some, Option.map_none, List.length_replicate, Int.natCast_nonneg, and_self, and_true, true_and, Bool.false_eq_true, decide_true, decide_false, List.cons_append, reduceCtorEq, Int.reduceAdd, Int.reduceSub, Int.reduceToNat, Int.cast_ofNat_Int, Int.reduceNeg, Int.reduceEq, Int.reduceLT, Int.reduceLE, not_true_eq_false, not_false_eq_true, eq_self]
-- loop.example/s02135/impl.cellOps$9
def c_impl_cellOps_9 : Cd :=
  sq (r [0, 1] [o 4 .mv [i 0]])
  (sq (r [4] [o 5 .mv [t 0], o 6 .mv [t 1], o 7 (.bin .gtr) [t 5, t 6], o 8 (.call 117) [t 7], o 4 .mv [t 8]])
   (.ret))
def r_impl_cellOps_9 : List RV := [.tmp 4]
def impl_cellOps_9_f (L_impl_truth : Bool → Option (Int)) (N : Nat) (a0 : Int) (a1 : Int) : Option (Int) :=
  (L_impl_truth (Decidable.decide (a1 < a0))).bind fun y0 =>
  some y0
theorem impl_cellOps_9_g (E : En) (hp : E.ps = []) (hl : E.pl = []) (hk : E.ck = []) (hr : E.rs = r_impl_cellOps_9) (hd : E.dd = none) (hw : ∀ y, E.wk y = some (nocap y)) (hfl : ∀ e, E.Γ.fl e = flatIds e) (m_impl_truth : E.Γ.mu 117 = false) (L_impl_truth : Bool → Option (Int)) (h_impl_truth : ∀ (a0 : Bool), E.Γ 117 [.d (.bool a0)] = (L_impl_truth a0).bind fun r => some (.ret (.d (.int .i64 r)) [])) (a0 : Int) (a1 : Int) : G E c_impl_cellOps_9 [] ⟨slotsOf [(0, .d (.int .i64 a0)), (1, .d (.int .i64 a1))], obsOf []⟩ = (impl_cellOps_9_f L_impl_truth E.n a0 a1).bind fun r => some (.ret (.d (.int .i64 r)) []) := by
  simp (config := {maxSteps := 2000000}) only [↓rPre, rPost, rCan, rObj, rI, rS, rB, r8, rLI, rEtc, hp, hl, hk, hr, hd, hw, hfl, flatIds, oid, r_impl_cellOps_9, ↓G_unf _ _ c_impl_cellOps_9.eq_1, h_impl_truth, m_impl_truth, bind_ite, impl_cellOps_9_f, rRow3, rFile, rRow104, rRow62, rArray, rRow27, rRow5, rRow9, ↓reduceIte, Option.some_beq_some, Nat.reduceMul, Nat.reduceAdd, Nat.reduceSub, Nat.reduceEqDiff, Nat.reduceBEq, Nat.reduceLeDiff, Nat.reduceLT, Nat.zero_add, Nat.add_zero, Bool.not_true, Bool.not_false, Bool.and_true, Bool.true_and, Bool.and_false, Bool.false_and, Bool.and_self, Bool.or_false, Bool.false_or, Bool.or_true, Bool.true_or, Bool.or_self, decide_eq_true_eq, Bool.not_eq_true', Bool.not_eq_eq_eq_not, decide_eq_false_iff_not, ite_not, ite_self, List.nil_append, List.append_nil, Option.map_some, Option.map_none, List.length_replicate, Int.natCast_nonneg, and_self, and_true, true_and, Bool.false_eq_true, decide_true, decide_false, List.cons_append, reduceCtorEq, Int.reduceAdd, Int.reduceSub, Int.reduceToNat, Int.cast_ofNat_Int, Int.reduceNeg, Int.reduceEq, Int.reduceLT, Int.reduceLE, not_true_eq_false, not_false_eq_true, eq_self]
-- loop.example/s02135/impl.cellOps
def c_impl_cellOps : Cd :=
  sq (r [0] [o 0 (.alloc [(.d .nilf), (.d .nilf), (.d .nilf), (.d .nilf), (.d .nilf), (.d .nilf), (.d .nilf), (.d .nilf), (.d .nilf), (.d .nilf), (.d .nilf)]) []])
  (sq (r [0] [o 1 (.bld [(.d .nilf), (.d .nilf), (.d .nilf), (.d .nilf), (.d .nilf), (.d .nilf), (.d .nilf), (.d .nilf), (.d .nilf), (.d .nilf), (.d .nilf)] [(1, 1), (2, 1), (3, 1), (4, 1), (5, 1), (6, 1), (7, 1), (8, 1), (9, 1), (10, 1)]) [.k (.d (.fn 150)), .k (.d (.fn 152)), .k (.d (.fn 153)), .k (.d (.fn 154)), .k (.d (.fn 156)), .k (.d (.fn 157)), .k (.d (.fn 158)), .k (.d (.fn 159)), .k (.d (.fn 160)), .k (.d (.fn 161))], e (.st 11) [t 0, t 1]])
   (.ret))
def r_impl_cellOps : List RV := [.cell 0 (some 11)]
def impl_cellOps_f (L_impl_cellOps_1 : Int → Int → Option (Res (Int))) (L_impl_cellOps_2 : Int → Int → Option (Res (Int))) (L_impl_cellOps_3 : Int → Int → Option (Res (Int))) (L_impl_cellOps_4 : Int → Int → Option (Res (Int))) (L_impl_residue : Int → Int → Option (Int)) (L_impl_cellOps_5 : Int → Int → Option (Int)) (L_impl_cellOps_6 : Int → Int → Option (Int)) (L_impl_cellOps_7 : Int → Int → Option (Int)) (L_impl_cellOps_8 : Int → Int → Option (Int)) (L_impl_cellOps_9 : Int → Int → Option (Int)) (N : Nat) : Option (Unit) :=
  some (())
theorem impl_cellOps_g (E : En) (hp : E.ps = []) (hl : E.pl = []) (hk : E.ck = []) (hr : E.rs = r_impl_cellOps) (hd : E.dd = none) (hw : ∀ y, E.wk y = some (nocap y)) (hfl : ∀ e, E.Γ.fl e = flatIds e) (m_impl_cellOps_1 : E.Γ.mu 150 = false) (L_impl_cellOps_1 : Int → Int → Option (Res (Int))) (h_impl_cellOps_1 : ∀ (a0 : Int) (a1 : Int), E.Γ 150 [.d (.int .i64 a0), .d (.int .i64 a1)] = (L_impl_cellOps_1 a0 a1).bind fun r => r.on (fun r => some (.ret (.d (.int .i64 r)) [])) (fun x => some (.pan x []))) (m_impl_cellOps_2 : E.Γ.mu 152 = false) (L_impl_cellOps_2 : Int → Int → Option (Res (Int))) (h_impl_cellOps_2 : ∀ (a0 : Int) (a1 : Int), E.Γ 152 [.d (.int .i64 a0), .d (.int .i64 a1)] = (L_impl_cellOps_2 a0 a1).bind fun r => r.on (fun r => some (.ret (.d (.int .i64 r)) [])) (fun x => some (.pan x []))) (m_impl_cellOps_3 : E.Γ.mu 153 = false) (L_impl_cellOps_3 : Int → Int → Option (Res (Int))) (h_impl_cellOps_3 : ∀ (a0 : Int) (a1 : Int), E.Γ 153 [.d (.int .i64 a0), .d (.int .i64 a1)] = (L_impl_cellOps_3 a0 a1).bind fun r => r.on (fun r => some (.ret (.d (.int .i64 r)) [])) (fun x => some (.pan x []))) (m_impl_cellOps_4 : E.Γ.mu 154 = false) (L_impl_cellOps_4 : Int → Int → Option (Res (Int))) (h_impl_cellOps_4 : ∀ (a0 : Int) (a1 : Int), E.Γ 154 [.d (.int .i64 a0), .d (.int .i64 a1)] = (L_impl_cellOps_4 a0 a1).bind fun r => r.on (fun r => some (.ret (.d (.int .i64 r)) [])) (fun x => some (.pan x []))) (m_impl_residue : E.Γ.mu 156 = false) (L_impl_residue : Int → Int → Option (Int)) (h_impl_residue : ∀ (a0 : Int) (a1 : Int), E.Γ 156 [.d (.int .i64 a0), .d (.int .i64 a1)] = (L_impl_residue a0 a1).bind fun r => some (.ret (.d (.int .i64 r)) [])) (m_impl_cellOps_5 : E.Γ.mu 157 = false) (L_impl_cellOps_5 : Int → Int → Option (Int)) (h_impl_cellOps_5 : ∀ (a0 : Int) (a1 : Int), E.Γ 157 [.d (.int .i64 a0), .d (.int .i64 a1)] = (L_impl_cellOps_5 a0 a1).bind fun r => some (.ret (.d (.int .i64 r)) [])) (m_impl_cellOps_6 : E.Γ.mu 158 = false) (L_impl_cellOps_6 : Int → Int → Option (Int)) (h_impl_cellOps_6 : ∀ (a0 : Int) (a1 : Int), E.Γ 158 [.d (.int .i64 a0), .d (.int .i64 a1)] = (L_impl_cellOps_6 a0 a1).bind fun r => some (.ret (.d (.int .i64 r)) [])) (m_impl_cellOps_7 : E.Γ.mu 159 = false) (L_impl_cellOps_7 : Int → Int → Option (Int)) (h_impl_cellOps_7 : ∀ (a0 : Int) (a1 : Int), E.Γ 159 [.d (.int .i64 a0), .d (.int .i64 a1)] = (L_impl_cellOps_7 a0 a1).bind fun r => some (.ret (.d (.int .i64 r)) [])) (m_impl_cellOps_8 : E.Γ.mu 160 = false) (L_impl_cellOps_8 : Int → Int → Option (Int)) (h_impl_cellOps_8 : ∀ (a0 : Int) (a1 : Int), E.Γ 160 [.d (.int .i64 a0), .d (.int .i64 a1)] = (L_impl_cellOps_8 a0 a1).bind fun r => some (.ret (.d (.int .i64 r)) [])) (m_impl_cellOps_9 : E.Γ.mu 161 = false) (L_impl_cellOps_9 : Int → Int → Option (Int)) (h_impl_cellOps_9 : ∀ (a0 : Int) (a1 : Int), E.Γ 161 [.d (.int .i64 a0), .d (.int .i64 a1)] = (L_impl_cellOps_9 a0 a1).bind fun r => some (.ret (.d (.int .i64 r)) []))  : G E c_impl_cellOps [] ⟨slotsOf [], obsOf []⟩ = (impl_cellOps_f L_impl_cellOps_1 L_impl_cellOps_2 L_impl_cellOps_3 L_impl_cellOps_4 L_impl_residue L_impl_cellOps_5 L_impl_cellOps_6 L_impl_cellOps_7 L_impl_cellOps_8 L_impl_cellOps_9 E.n ).bind fun r => some (.ret (.agg [.d (D.nilf), .d (.fn 150), .d (.fn 152), .d (.fn 153), .d (.fn 154), .d (.fn 156), .d (.fn 157), .d (.fn 158), .d (.fn 159), .d (.fn 160), .d (.fn 161)]) []) := by
  simp (config := {maxSteps := 2000000}) only [↓rPre, rPost, rCan, rObj, rI, rS, rB, r8, rLI, rEtc, hp, hl, hk, hr, hd, hw, hfl, flatIds, oid, r_impl_cellOps, ↓G_unf _ _ c_impl_cellOps.eq_1, h_impl_cellOps_1, m_impl_cellOps_1, h_impl_cellOps_2, m_impl_cellOps_2, h_impl_cellOps_3, m_impl_cellOps_3, h_impl_cellOps_4, m_impl_cellOps_4, h_impl_residue, m_impl_residue, h_impl_cellOps_5, m_impl_cellOps_5, h_impl_cellOps_6, m_impl_cellOps_6, h_impl_cellOps_7, m_impl_cellOps_7, h_impl_cellOps_8, m_impl_cellOps_8, h_impl_cellOps_9, m_impl_cellOps_9, bind_ite, impl_cellOps_f, rRow3, rFile, rRow104, rRow62, rArray, rRow27, rRow5, rRow9, ↓reduceIte, Option.some_beq_some, Nat.reduceMul, Nat.reduceAdd, Nat.reduceSub, Nat.reduceEqDiff, Nat.reduceBEq, Nat.reduceLeDiff, Nat.reduceLT, Nat.zero_add, Nat.add_zero, Bool.not_true, Bool.not_false, Bool.and_true, Bool.true_and, Bool.and_false, Bool.false_and, Bool.and_self, Bool.or_false, Bool.false_or, Bool.or_true, Bool.true_or, Bool.or_self, decide_eq_true_eq, Bool.not_eq_true', Bool.not_eq_eq_eq_not, decide_eq_false_iff_not, ite_not, ite_self, List.nil_append, List.append_nil, Option.map_some, Option.map_none, List.length_replicate, Int.natCast_nonneg, and_self, and_true, true_and, Bool.false_eq_true, decide_true, decide_false, List.cons_append, reduceCtorEq, Int.reduceAdd, Int.reduceSub, Int.reduceToNat, Int.cast_ofNat_Int, Int.reduceNeg, Int.reduceEq, Int.reduceLT, Int.reduceLE, not_true_eq_false, not_false_eq_true, eq_self]
-- loop.example/s02135/impl.opOf
def c_impl_opOf : Cd :=
  sq (r [0] [o 2 .mv [.k (.d .nilf)], o 3 .mv [b false]])
  (sq (sq (r [0, 9] [o 4 .mv [t 0], o 5 (.bin .lss) [t 4, i 1], o 6 .mv [t 5], g 6 false 7 .mv [t 0], g 6 false 8 (.bin .gtr) [t 7, i 10], o 9 .pick [t 6, b true, t 8]])
    (.cond (t 9) (sq (r [2, 3] [o 2 .mv [.k (.d .nilf)], o 3 .mv [b false]])
      (.ret)) (.skip)))
   (sq (r [2, 3] [o 10 (.call 128) [], o 11 .mv [t 0], o 12 (.ixa 11 1 none) [t 10, t 11], o 2 .mv [t 12], o 3 .mv [b true]])
    (.ret)))
def r_impl_opOf : List RV := [.tmp 2, .tmp 3]
def impl_opOf_f (L_impl_cellOps : Option (Unit)) (N : Nat) (a0 : Int) : Option (Alt Unit Nat) :=
  if a0 < 1 then some ((.a (())))
  else (if 10 < a0 then some ((.a (())))
   else ((L_impl_cellOps).bind fun y0 =>
    if 0 ≤ a0 ∧ a0 < 11 then (if Int.toNat a0 * 1 = 1 then some ((.b 150))
     else (if Int.toNat a0 * 1 = 2 then some ((.b 152))
      else (if Int.toNat a0 * 1 = 3 then some ((.b 153))
       else (if Int.toNat a0 * 1 = 4 then some ((.b 154))
        else (if Int.toNat a0 * 1 = 5 then some ((.b 156))
         else (if Int.toNat a0 * 1 = 6 then some ((.b 157))
          else (if Int.toNat a0 * 1 = 7 then some ((.b 158))
           else (if Int.toNat a0 * 1 = 8 then some ((.b 159))
            else (if Int.toNat a0 * 1 = 9 then some ((.b 160))
             else (if Int.toNat a0 * 1 = 10 then some ((.b 161))
              else none))))))))))
    else none))
theorem impl_opOf_g (E : En) (hp : E.ps = []) (hl : E.pl = []) (hk : E.ck = []) (hr : E.rs = r_impl_opOf) (hd : E.dd = none) (hw : ∀ y, E.wk y = some (nocap y)) (hfl : ∀ e, E.Γ.fl e = flatIds e) (m_impl_cellOps : E.Γ.mu 128 = false) (L_impl_cellOps : Option (Unit)) (h_impl_cellOps : E.Γ 128 [] = (L_impl_cellOps).bind fun r => some (.ret (.agg [.d (D.nilf), .d (.fn 150), .d (.fn 152), .d (.fn 153), .d (.fn 154), .d (.fn 156), .d (.fn 157), .d (.fn 158), .d (.fn 159), .d (.fn 160), .d (.fn 161)]) [])) (a0 : Int) : G E c_impl_opOf [] ⟨slotsOf [(0, .d (.int .i64 a0))], obsOf []⟩ = (impl_opOf_f L_impl_cellOps E.n a0).bind fun r => r.on (fun r => some (.ret (.tup [.d (D.nilf), .d (.bool false)]) [])) (fun r => some (.ret (.tup [.d (.fn r), .d (.bool true)]) [])) := by
  simp (config := {maxSteps := 2000000}) only [↓rPre, rPost, rCan, rObj, rI, rS, rB, r8, rLI, rEtc, hp, hl, hk, hr, hd, hw, hfl, flatIds, oid, r_impl_opOf, ↓G_unf _ _ c_impl_opOf.eq_1, h_impl_cellOps, m_impl_cellOps, bind_ite, impl_opOf_f, rRow3, rFile, rRow104, rRow62, rRow22, rArray, rRow27, rRow5, rRow9, ↓reduceIte, Option.some_beq_some, Nat.reduceMul, Nat.reduceAdd, Nat.reduceSub, Nat.reduceEqDiff, Nat.reduceBEq, Nat.reduceLeDiff, Nat.reduceLT, Nat.zero_add, Nat.add_zero, Bool.not_true, Bool.not_false, Bool.and_true, Bool.true_and, Bool.and_false, Bool.false_and, Bool.and_self, Bool.or_false, Bool.false_or, Bool.or_true, Bool.true_or, Bool.or_self, decide_eq_true_eq, Bool.not_eq_true', Bool.not_eq_eq_eq_not, decide_eq_false_iff_not, ite_not, ite_self, List.nil_append, List.append_nil, Option.map_some, Option.map_none, List.length_replicate, Int.natCast_nonneg, and_self, and_true, true_and, Bool.false_eq_true, decide_true, decide_false, List.cons_append, reduceCtorEq, Int.reduceAdd, Int.reduceSub, Int.reduceToNat, Int.cast_ofNat_Int, Int.reduceNeg, Int.reduceEq, Int.reduceLT, Int.reduceLE, not_true_eq_false, not_false_eq_true, eq_self]; simp only [tn_pos]
end Go.Vm
