/- The functions under laws_FnExactEach1: the abstract machine's codes, and what they come to in plain terms. Printed by a program of this session. -/
import Derived.Test.YtejgcpankckdkaaFBas
set_option linter.all false
set_option maxRecDepth 100000
set_option maxHeartbeats 4000000
namespace Go.Vm
-- loop.example/s02135/spec.l2Bool
def c_spec_l2Bool : Cd :=
  sq (r [0] [o 2 .mv [i 0]])
  (sq (sq (r [3] [o 3 .mv [t 0]])
    (.cond (t 3) (sq (r [2] [o 2 .mv [i 1]])
      (.ret)) (.skip)))
   (sq (r [2] [o 2 .mv [i 0]])
    (.ret)))
def r_spec_l2Bool : List RV := [.tmp 2]
def spec_l2Bool_f (N : Nat) (a0 : Bool) : Option (Int) :=
  if a0 = true then some 1
  else some 0
theorem spec_l2Bool_g (E : En) (hp : E.ps = []) (hl : E.pl = []) (hk : E.ck = []) (hr : E.rs = r_spec_l2Bool) (hd : E.dd = none) (hw : ∀ y, E.wk y = some (nocap y)) (hfl : ∀ e, E.Γ.fl e = flatIds e) (a0 : Bool) : G E c_spec_l2Bool [] ⟨slotsOf [(0, .d (.bool a0))], obsOf []⟩ = (spec_l2Bool_f E.n a0).bind fun r => some (.ret (.d (.int .i64 r)) []) := by
  simp (config := {maxSteps := 2000000}) only [↓rPre, rPost, rCan, rObj, rI, rS, rB, r8, rLI, rEtc, hp, hl, hk, hr, hd, hw, hfl, flatIds, oid, r_spec_l2Bool, ↓G_unf _ _ c_spec_l2Bool.eq_1, bind_ite, spec_l2Bool_f, rRow3, rFile, rRow104, rRow62, rArray, rRow27, rRow5, rRow9, ↓reduceIte, Option.some_beq_some, Nat.reduceMul, Nat.reduceAdd, Nat.reduceSub, Nat.reduceEqDiff, Nat.reduceBEq, Nat.reduceLeDiff, Nat.reduceLT, Nat.zero_add, Nat.add_zero, Bool.not_true, Bool.not_false, Bool.and_true, Bool.true_and, Bool.and_false, Bool.false_and, Bool.and_self, Bool.or_false, Bool.false_or, Bool.or_true, Bool.true_or, Bool.or_self, decide_eq_true_eq, Bool.not_eq_true', Bool.not_eq_eq_eq_not, decide_eq_false_iff_not, ite_not, ite_self, List.nil_append, List.append_nil, Option.map_some, Option.map_none, List.length_replicate, Int.natCast_nonneg, and_self, and_true, true_and, Bool.false_eq_true, decide_true, decide_false, List.cons_append, reduceCtorEq, Int.reduceAdd, Int.reduceSub, Int.reduceToNat, Int.cast_ofNat_Int, Int.reduceNeg, Int.reduceEq, Int.reduceLT, Int.reduceLE, not_true_eq_false, not_false_eq_true, eq_self]
-- loop.example/s02135/spec.l2One
def c_spec_l2One : Cd :=
  sq (r [0, 1] [o 4 .mv [i 0], o 5 .mv [i 0]])
  (sq (sq (r [0, 1, 15] [o 6 .mv [t 0], o 7 (.bin .eql) [t 6, i 1], o 8 .mv [t 7], g 8 false 9 .mv [t 0], g 8 false 10 (.bin .eql) [t 9, i 2], g 8 false 11 .mv [t 10], g 11 true 12 .mv [t 1], g 11 true 13 (.bin .lss) [t 12, i 0], g 8 false 14 .pick [t 11, t 13, b false], o 15 .pick [t 8, b true, t 14]])
    (.cond (t 15) (sq (r [4, 5] [o 16 .mv [t 1], o 17 .neg [t 16], o 4 .mv [t 17], o 5 .mv [i 0]])
      (.ret)) (.skip)))
   (sq (sq (r [0, 1, 19] [o 18 .mv [t 0], o 19 (.bin .eql) [t 18, i 2]])
     (.cond (t 19) (sq (r [4, 5] [o 20 .mv [t 1], o 4 .mv [t 20], o 5 .mv [i 0]])
       (.ret)) (.skip)))
    (sq (sq (r [1, 22] [o 21 .mv [t 0], o 22 (.bin .eql) [t 21, i 3]])
      (.cond (t 22) (sq (r [4, 5] [o 23 .mv [t 1], o 24 (.bin .gtr) [t 23, i 0], o 25 (.call 107) [t 24], o 26 .mv [t 1], o 27 (.bin .lss) [t 26, i 0], o 28 (.call 107) [t 27], o 29 (.bin .sub) [t 25, t 28], o 4 .mv [t 29], o 5 .mv [i 0]])
        (.ret)) (.skip)))
     (sq (sq (r [1, 35] [o 30 .mv [t 1], o 31 (.bin .neq) [t 30, i 0], o 32 .mv [t 31], g 32 true 33 .mv [t 1], g 32 true 34 (.bin .neq) [t 33, i 1], o 35 .pick [t 32, t 34, b false]])
       (.cond (t 35) (sq (r [4, 5] [o 4 .mv [i 0], o 5 .mv [i 1]])
         (.ret)) (.skip)))
      (sq (r [4, 5] [o 36 .mv [t 1], o 37 (.bin .sub) [i 1, t 36], o 4 .mv [t 37], o 5 .mv [i 0]])
       (.ret))))))
def r_spec_l2One : List RV := [.tmp 4, .tmp 5]
def spec_l2One_f (L_spec_l2Bool : Bool → Option (Int)) (N : Nat) (a0 : Int) (a1 : Int) : Option (Int × Int) :=
  if a0 = 1 then some ((w64 (0 - a1), 0))
  else (if a0 = 2 then (if a1 < 0 then some ((w64 (0 - a1), 0))
    else (if a0 = 2 then some ((a1, 0))
     else (if a0 = 3 then ((L_spec_l2Bool (Decidable.decide (0 < a1))).bind fun y0 =>
       (L_spec_l2Bool (Decidable.decide (a1 < 0))).bind fun y1 =>
       some ((w64 (y0 - y1), 0)))
      else (if a1 = 0 then some ((w64 (1 - a1), 0))
       else (if a1 = 1 then some ((w64 (1 - a1), 0))
        else some ((0, 1)))))))
   else (if a0 = 2 then some ((a1, 0))
    else (if a0 = 3 then ((L_spec_l2Bool (Decidable.decide (0 < a1))).bind fun y2 =>
      (L_spec_l2Bool (Decidable.decide (a1 < 0))).bind fun y3 =>
      some ((w64 (y2 - y3), 0)))
     else (if a1 = 0 then some ((w64 (1 - a1), 0))
      else (if a1 = 1 then some ((w64 (1 - a1), 0))
       else some ((0, 1)))))))
theorem spec_l2One_g (E : En) (hp : E.ps = []) (hl : E.pl = []) (hk : E.ck = []) (hr : E.rs = r_spec_l2One) (hd : E.dd = none) (hw : ∀ y, E.wk y = some (nocap y)) (hfl : ∀ e, E.Γ.fl e = flatIds e) (m_spec_l2Bool : E.Γ.mu 107 = false) (L_spec_l2Bool : Bool → Option (Int)) (h_spec_l2Bool : ∀ (a0 : Bool), E.Γ 107 [.d (.bool a0)] = (L_spec_l2Bool a0).bind fun r => some (.ret (.d (.int .i64 r)) [])) (a0 : Int) (a1 : Int) : G E c_spec_l2One [] ⟨slotsOf [(0, .d (.int .i64 a0)), (1, .d (.int .i64 a1))], obsOf []⟩ = (spec_l2One_f L_spec_l2Bool E.n a0 a1).bind fun r => some (.ret (.tup [.d (.int .i64 r.1), .d (.int .i64 r.2)]) []) := by
  simp (config := {maxSteps := 2000000}) only [↓rPre, rPost, rCan, rObj, rI, rS, rB, r8, rLI, rEtc, hp, hl, hk, hr, hd, hw, hfl, flatIds, oid, r_spec_l2One, ↓G_unf _ _ c_spec_l2One.eq_1, h_spec_l2Bool, m_spec_l2Bool, bind_ite, spec_l2One_f, rRow3, rFile, rRow104, rRow62, rArray, rRow27, rRow5, rRow9, ↓reduceIte, Option.some_beq_some, Nat.reduceMul, Nat.reduceAdd, Nat.reduceSub, Nat.reduceEqDiff, Nat.reduceBEq, Nat.reduceLeDiff, Nat.reduceLT, Nat.zero_add, Nat.add_zero, Bool.not_true, Bool.not_false, Bool.and_true, Bool.true_and, Bool.and_false, Bool.false_and, Bool.and_self, Bool.or_false, Bool.false_or, Bool.or_true, Bool.true_or, Bool.or_self, decide_eq_true_eq, Bool.not_eq_true', Bool.not_eq_eq_eq_not, decide_eq_false_iff_not, ite_not, ite_self, List.nil_append, List.append_nil, Option.map_some, Option.map_none, List.length_replicate, Int.natCast_nonneg, and_self, and_true, true_and, Bool.false_eq_true, decide_true, decide_false, List.cons_append, reduceCtorEq, Int.reduceAdd, Int.reduceSub, Int.reduceToNat, Int.cast_ofNat_Int, Int.reduceNeg, Int.reduceEq, Int.reduceLT, Int.reduceLE, not_true_eq_false, not_false_eq_true, eq_self]
-- loop.example/s02135/spec.Each1
def b0_spec_Each1 : Cd :=
  sq (sq (r [0, 3, 4, 6, 7, 31] [o 27 .mv [t 7], o 28 (.fa 1) [t 3], o 29 (.ld none) [t 28], o 30 (.len false) [t 29], o 31 (.bin .lss) [t 27, t 30]])
   (.cond (t 31) (.skip) (.exit 0)))
  (sq (.block 1 (sq (r [0, 3, 4, 6, 7, 8, 9] [o 35 .mv [t 0], o 36 (.fa 1) [t 3], o 37 (.ld none) [t 36], o 38 .mv [t 7], o 39 (.ia 1) [t 37, t 38], o 40 (.ld none) [t 39], o 41 (.call 58) [t 35, t 40], o 34 .mv [t 41], o 42 (.ext 0) [t 34], o 43 (.ext 1) [t 34], o 8 .mv [t 42], o 9 .mv [t 43]])
     (sq (sq (r [0, 3, 4, 6, 7, 8, 9, 45] [o 44 .mv [t 9], o 45 (.bin .neq) [t 44, i 0]])
       (.cond (t 45) (sq (r [4, 5] [o 46 (.bld [.nil, .nil] []) [], o 47 .mv [t 9], e (.st 2) [t 4, t 46], o 5 .mv [t 47]])
         (.ret)) (.skip)))
      (r [0, 3, 4, 6, 7] [o 48 (.fa 1) [t 6], o 49 (.ld none) [t 48], o 50 .mv [t 8], o 51 (lit 3 1 1) [t 50], o 52 (.app 3 1 8) [t 49, t 51], o 53 (.fa 1) [t 6], e (.st 1) [t 53, t 52]]))))
   (r [0, 3, 4, 6, 7] [o 32 .mv [t 7], o 33 (.bin .add) [t 32, i 1], o 7 .mv [t 33]]))
def k1_spec_Each1 : Cd :=
  sq (r [4, 5] [o 54 (.ld (some 2)) [t 6], e (.st 2) [t 4, t 54], o 5 .mv [i 0]])
  (.ret)
def c_spec_Each1 : Cd :=
  sq (r [0, 3, 4] [o 3 .box [t 1], o 4 (.alloc [.nil, .nil]) [], o 5 .mv [i 0]])
  (sq (sq (r [0, 3, 4, 20] [o 10 .mv [t 0], o 11 (.bin .lss) [t 10, i 1], o 12 .mv [t 11], g 12 false 13 .mv [t 0], g 12 false 14 (.bin .gtr) [t 13, i 4], o 15 .pick [t 12, b true, t 14], o 16 .mv [t 15], g 16 false 17 (.ld (some 2)) [t 3], g 16 false 18 (.call 15) [t 17], g 16 false 19 .not [t 18], o 20 .pick [t 16, b true, t 19]])
    (.cond (t 20) (sq (r [4, 5] [o 21 (.bld [.nil, .nil] []) [], e (.st 2) [t 4, t 21], o 5 .mv [i 9]])
      (.ret)) (.skip)))
   (sq (r [0, 3, 4, 6] [o 22 (.fa 0) [t 3], o 23 (.ld none) [t 22], o 24 (.call 57) [t 23], o 25 (lit 3 1 0) [], o 26 (.bld [.nil, .nil] [(0, 1), (1, 1)]) [t 24, t 25], o 6 (.alloc [.nil, .nil]) [], e (.st 2) [t 6, t 26]])
    (sq (sq (r [0, 3, 4, 6, 7] [o 7 .mv [i 0]])
      (.block 0 (.loop [0, 3, 4, 6, 7] b0_spec_Each1))) k1_spec_Each1)))
def r_spec_Each1 : List RV := [.cell 4 (some 2), .tmp 5]
def spec_Each1_l0 (L_spec_ArrayOk : (List Int) → (List Int) → Option (Bool)) (L_spec_l2Copy : (List Int) → Option (List Int)) (L_spec_l2One : Int → Int → Option (Int × Int)) : Nat → Int → Int → (List Int) → (List Int) → (List Int) → (List Int) → Option (List Int × List Int × Int)
  | 0, _, _, _, _, _, _ => none
  | m0 + 1, x0, x7, o192_0, o192_1, o385, o386 =>
    if x7 < (↑(List.length o192_1) : Int) then ((idx o192_1 x7).bind fun y0 =>
     (L_spec_l2One x0 y0).bind fun y1 =>
     if y1.snd = 0 then (if room 8 (List.length (o386 ++ [y1.fst])) then spec_Each1_l0 L_spec_ArrayOk L_spec_l2Copy L_spec_l2One m0 x0 (w64 (x7 + 1)) o192_0 o192_1 o385 (o386 ++ [y1.fst])
      else none)
     else some (([], [], y1.snd)))
    else some ((o385, o386, 0))
def spec_Each1_f (L_spec_ArrayOk : (List Int) → (List Int) → Option (Bool)) (L_spec_l2Copy : (List Int) → Option (List Int)) (L_spec_l2One : Int → Int → Option (Int × Int)) (N : Nat) (a0 : Int) (a1_Shape : List Int) (a1_Data : List Int) : Option (List Int × List Int × Int) :=
  if a0 < 1 then some (([], [], 9))
  else (if 4 < a0 then some (([], [], 9))
   else ((L_spec_ArrayOk a1_Shape a1_Data).bind fun y0 =>
    if y0 = false then some (([], [], 9))
    else ((L_spec_l2Copy a1_Shape).bind fun y1 =>
     spec_Each1_l0 L_spec_ArrayOk L_spec_l2Copy L_spec_l2One N a0 0 a1_Shape a1_Data y1 [])))
theorem spec_Each1_l0_eq (E : En) (hp : E.ps = []) (hl : E.pl = []) (hk : E.ck = []) (hr : E.rs = r_spec_Each1) (hd : E.dd = none) (hw : ∀ y, E.wk y = some (nocap (asOwn (.node [.node [.own 3 1, .own 3 1], .k]) y))) (hfl : ∀ e, E.Γ.fl e = flatIds e) (m_spec_ArrayOk : E.Γ.mu 15 = false) (L_spec_ArrayOk : (List Int) → (List Int) → Option (Bool)) (h_spec_ArrayOk : ∀ (a0_Shape : List Int) (a0_Data : List Int), E.Γ 15 [.agg [.d (lstT cI a0_Shape), .d (lstT cI a0_Data)]] = (L_spec_ArrayOk a0_Shape a0_Data).bind fun r => some (.ret (.d (.bool r)) [])) (m_spec_l2Copy : E.Γ.mu 57 = false) (L_spec_l2Copy : (List Int) → Option (List Int)) (h_spec_l2Copy : ∀ (a0 : List Int), E.Γ 57 [.d (lstT cI a0)] = (L_spec_l2Copy a0).bind fun r => some (.ret (ownT (cI) 3 none false r) [])) (m_spec_l2One : E.Γ.mu 58 = false) (L_spec_l2One : Int → Int → Option (Int × Int)) (h_spec_l2One : ∀ (a0 : Int) (a1 : Int), E.Γ 58 [.d (.int .i64 a0), .d (.int .i64 a1)] = (L_spec_l2One a0 a1).bind fun r => some (.ret (.tup [.d (.int .i64 r.1), .d (.int .i64 r.2)]) [])) : ∀ (m0 : Nat) (x0 : Int) (x7 : Int) (o192_0 : List Int) (o192_1 : List Int) (o385 : List Int) (o386 : List Int), gH E [0, 3, 4, 6, 7] b0_spec_Each1 [KJ.b 0, KJ.c k1_spec_Each1] m0 ⟨slotsOf [(0, .d (.int .i64 x0)), (3, A.adr 192 1 0), (4, A.adr 256 1 0), (6, A.adr 384 1 0), (7, .d (.int .i64 x7))], obsOf [(192, ⟨1, .box [.d (lstT (cI) o192_0), .d (lstT (cI) o192_1)], false⟩), (256, ⟨1, .box [A.nil, A.nil], false⟩), (384, ⟨1, .box [A.row 385 1, A.row 386 1], false⟩), (385, ⟨1, rowT (cI) 3 none o385, false⟩), (386, ⟨1, rowT (cI) 3 none o386, false⟩)]⟩ = (spec_Each1_l0 L_spec_ArrayOk L_spec_l2Copy L_spec_l2One m0 x0 x7 o192_0 o192_1 o385 o386).bind fun r => some (.ret (.tup [.agg [ownT (cI) 3 none false r.1, ownT (cI) 3 none false r.2.1], .d (.int .i64 r.2.2)]) []) := by
  intro m0
  induction m0 with
  | zero => intros; rfl
  | succ m0 ih =>
    intros
    simp (config := {maxSteps := 2000000}) only [↓rPre, rPost, rCan, rObj, rI, rS, rB, r8, rLI, rEtc, hp, hl, hk, hr, hd, hw, hfl, flatIds, oid, r_spec_Each1, ↓G_unf _ _ b0_spec_Each1.eq_1, ↓G_unf _ _ k1_spec_Each1.eq_1, ↓G_unf _ _ c_spec_Each1.eq_1, h_spec_ArrayOk, m_spec_ArrayOk, h_spec_l2Copy, m_spec_l2Copy, h_spec_l2One, m_spec_l2One, gH_succ, ih, bind_ite, spec_Each1_l0, rRow3, rFile, rRow104, rRow62, rArray, rRow27, rRow5, rRow9, ↓reduceIte, Option.some_beq_some, Nat.reduceMul, Nat.reduceAdd, Nat.reduceSub, Nat.reduceEqDiff, Nat.reduceBEq, Nat.reduceLeDiff, Nat.reduceLT, Nat.zero_add, Nat.add_zero, Bool.not_true, Bool.not_false, Bool.and_true, Bool.true_and, Bool.and_false, Bool.false_and, Bool.and_self, Bool.or_false, Bool.false_or, Bool.or_true, Bool.true_or, Bool.or_self, decide_eq_true_eq, Bool.not_eq_true', Bool.not_eq_eq_eq_not, decide_eq_false_iff_not, ite_not, ite_self, List.nil_append, List.append_nil, Option.map_some, Option.map_none, List.length_replicate, Int.natCast_nonneg, and_self, and_true, true_and, Bool.false_eq_true, decide_true, decide_false, List.cons_append, reduceCtorEq, Int.reduceAdd, Int.reduceSub, Int.reduceToNat, Int.cast_ofNat_Int, Int.reduceNeg, Int.reduceEq, Int.reduceLT, Int.reduceLE, not_true_eq_false, not_false_eq_true, eq_self]
theorem spec_Each1_g (E : En) (hp : E.ps = []) (hl : E.pl = []) (hk : E.ck = []) (hr : E.rs = r_spec_Each1) (hd : E.dd = none) (hw : ∀ y, E.wk y = some (nocap (asOwn (.node [.node [.own 3 1, .own 3 1], .k]) y))) (hfl : ∀ e, E.Γ.fl e = flatIds e) (m_spec_ArrayOk : E.Γ.mu 15 = false) (L_spec_ArrayOk : (List Int) → (List Int) → Option (Bool)) (h_spec_ArrayOk : ∀ (a0_Shape : List Int) (a0_Data : List Int), E.Γ 15 [.agg [.d (lstT cI a0_Shape), .d (lstT cI a0_Data)]] = (L_spec_ArrayOk a0_Shape a0_Data).bind fun r => some (.ret (.d (.bool r)) [])) (m_spec_l2Copy : E.Γ.mu 57 = false) (L_spec_l2Copy : (List Int) → Option (List Int)) (h_spec_l2Copy : ∀ (a0 : List Int), E.Γ 57 [.d (lstT cI a0)] = (L_spec_l2Copy a0).bind fun r => some (.ret (ownT (cI) 3 none false r) [])) (m_spec_l2One : E.Γ.mu 58 = false) (L_spec_l2One : Int → Int → Option (Int × Int)) (h_spec_l2One : ∀ (a0 : Int) (a1 : Int), E.Γ 58 [.d (.int .i64 a0), .d (.int .i64 a1)] = (L_spec_l2One a0 a1).bind fun r => some (.ret (.tup [.d (.int .i64 r.1), .d (.int .i64 r.2)]) [])) (a0 : Int) (a1_Shape : List Int) (a1_Data : List Int) : G E c_spec_Each1 [] ⟨slotsOf [(0, .d (.int .i64 a0)), (1, .agg [.d (lstT cI a1_Shape), .d (lstT cI a1_Data)])], obsOf []⟩ = (spec_Each1_f L_spec_ArrayOk L_spec_l2Copy L_spec_l2One E.n a0 a1_Shape a1_Data).bind fun r => some (.ret (.tup [.agg [ownT (cI) 3 none false r.1, ownT (cI) 3 none false r.2.1], .d (.int .i64 r.2.2)]) []) := by
  simp (config := {maxSteps := 2000000}) only [↓rPre, rPost, rCan, rObj, rI, rS, rB, r8, rLI, rEtc, hp, hl, hk, hr, hd, hw, hfl, flatIds, oid, r_spec_Each1, ↓G_unf _ _ b0_spec_Each1.eq_1, ↓G_unf _ _ k1_spec_Each1.eq_1, ↓G_unf _ _ c_spec_Each1.eq_1, h_spec_ArrayOk, m_spec_ArrayOk, h_spec_l2Copy, m_spec_l2Copy, h_spec_l2One, m_spec_l2One, bind_ite, spec_Each1_f, spec_Each1_l0_eq E hp hl hk hr hd hw hfl m_spec_ArrayOk L_spec_ArrayOk h_spec_ArrayOk m_spec_l2Copy L_spec_l2Copy h_spec_l2Copy m_spec_l2One L_spec_l2One h_spec_l2One, rRow3, rFile, rRow104, rRow62, rArray, rRow27, rRow5, rRow9, ↓reduceIte, Option.some_beq_some, Nat.reduceMul, Nat.reduceAdd, Nat.reduceSub, Nat.reduceEqDiff, Nat.reduceBEq, Nat.reduceLeDiff, Nat.reduceLT, Nat.zero_add, Nat.add_zero, Bool.not_true, Bool.not_false, Bool.and_true, Bool.true_and, Bool.and_false, Bool.false_and, Bool.and_self, Bool.or_false, Bool.false_or, Bool.or_true, Bool.true_or, Bool.or_self, decide_eq_true_eq, Bool.not_eq_true', Bool.not_eq_eq_eq_not, decide_eq_false_iff_not, ite_not, ite_self, List.nil_append, List.append_nil, Option.map_some, Option.map_none, List.length_replicate, Int.natCast_nonneg, and_self, and_true, true_and, Bool.false_eq_true, decide_true, decide_false, List.cons_append, reduceCtorEq, Int.reduceAdd, Int.reduceSub, Int.reduceToNat, Int.cast_ofNat_Int, Int.reduceNeg, Int.reduceEq, Int.reduceLT, Int.reduceLE, not_true_eq_false, not_false_eq_true, eq_self]
-- loop.example/s02135/impl.Each1$1
def c_impl_Each1_1 : Cd :=
  sq (r [0] [o 2 .mv [i 0]])
  (sq (r [2] [o 3 .mv [t 0], o 4 .neg [t 3], o 2 .mv [t 4]])
   (.ret))
def r_impl_Each1_1 : List RV := [.tmp 2]
def impl_Each1_1_f (N : Nat) (a0 : Int) : Option (Int) :=
  some (w64 (0 - a0))
theorem impl_Each1_1_g (E : En) (hp : E.ps = []) (hl : E.pl = []) (hk : E.ck = []) (hr : E.rs = r_impl_Each1_1) (hd : E.dd = none) (hw : ∀ y, E.wk y = some (nocap y)) (hfl : ∀ e, E.Γ.fl e = flatIds e) (a0 : Int) : G E c_impl_Each1_1 [] ⟨slotsOf [(0, .d (.int .i64 a0))], obsOf []⟩ = (impl_Each1_1_f E.n a0).bind fun r => some (.ret (.d (.int .i64 r)) []) := by
  simp (config := {maxSteps := 2000000}) only [↓rPre, rPost, rCan, rObj, rI, rS, rB, r8, rLI, rEtc, hp, hl, hk, hr, hd, hw, hfl, flatIds, oid, r_impl_Each1_1, ↓G_unf _ _ c_impl_Each1_1.eq_1, bind_ite, impl_Each1_1_f, rRow3, rFile, rRow104, rRow62, rArray, rRow27, rRow5, rRow9, ↓reduceIte, Option.some_beq_some, Nat.reduceMul, Nat.reduceAdd, Nat.reduceSub, Nat.reduceEqDiff, Nat.reduceBEq, Nat.reduceLeDiff, Nat.reduceLT, Nat.zero_add, Nat.add_zero, Bool.not_true, Bool.not_false, Bool.and_true, Bool.true_and, Bool.and_false, Bool.false_and, Bool.and_self, Bool.or_false, Bool.false_or, Bool.or_true, Bool.true_or, Bool.or_self, decide_eq_true_eq, Bool.not_eq_true', Bool.not_eq_eq_eq_not, decide_eq_false_iff_not, ite_not, ite_self, List.nil_append, List.append_nil, Option.map_some, Option.map_none, List.length_replicate, Int.natCast_nonneg, and_self, and_true, true_and, Bool.false_eq_true, decide_true, decide_false, List.cons_append, reduceCtorEq, Int.reduceAdd, Int.reduceSub, Int.reduceToNat, Int.cast_ofNat_Int, Int.reduceNeg, Int.reduceEq, Int.reduceLT, Int.reduceLE, not_true_eq_false, not_false_eq_true, eq_self]
-- loop.example/s02135/impl.Each1$2
def c_impl_Each1_2 : Cd :=
  sq (r [0] [o 2 .mv [i 0]])
  (sq (r [2] [o 3 .mv [t 0], o 4 .mv [t 0], o 5 .neg [t 4], o 6 (.mm true) [t 3, t 5], o 2 .mv [t 6]])
   (.ret))
def r_impl_Each1_2 : List RV := [.tmp 2]
def impl_Each1_2_f (N : Nat) (a0 : Int) : Option (Int) :=
  some (if a0 < w64 (0 - a0) then w64 (0 - a0) else a0)
theorem impl_Each1_2_g (E : En) (hp : E.ps = []) (hl : E.pl = []) (hk : E.ck = []) (hr : E.rs = r_impl_Each1_2) (hd : E.dd = none) (hw : ∀ y, E.wk y = some (nocap y)) (hfl : ∀ e, E.Γ.fl e = flatIds e) (a0 : Int) : G E c_impl_Each1_2 [] ⟨slotsOf [(0, .d (.int .i64 a0))], obsOf []⟩ = (impl_Each1_2_f E.n a0).bind fun r => some (.ret (.d (.int .i64 r)) []) := by
  simp (config := {maxSteps := 2000000}) only [↓rPre, rPost, rCan, rObj, rI, rS, rB, r8, rLI, rEtc, hp, hl, hk, hr, hd, hw, hfl, flatIds, oid, r_impl_Each1_2, ↓G_unf _ _ c_impl_Each1_2.eq_1, bind_ite, impl_Each1_2_f, rRow3, rFile, rRow104, rRow62, rArray, rRow27, rRow5, rRow9, ↓reduceIte, Option.some_beq_some, Nat.reduceMul, Nat.reduceAdd, Nat.reduceSub, Nat.reduceEqDiff, Nat.reduceBEq, Nat.reduceLeDiff, Nat.reduceLT, Nat.zero_add, Nat.add_zero, Bool.not_true, Bool.not_false, Bool.and_true, Bool.true_and, Bool.and_false, Bool.false_and, Bool.and_self, Bool.or_false, Bool.false_or, Bool.or_true, Bool.true_or, Bool.or_self, decide_eq_true_eq, Bool.not_eq_true', Bool.not_eq_eq_eq_not, decide_eq_false_iff_not, ite_not, ite_self, List.nil_append, List.append_nil, Option.map_some, Option.map_none, List.length_replicate, Int.natCast_nonneg, and_self, and_true, true_and, Bool.false_eq_true, decide_true, decide_false, List.cons_append, reduceCtorEq, Int.reduceAdd, Int.reduceSub, Int.reduceToNat, Int.cast_ofNat_Int, Int.reduceNeg, Int.reduceEq, Int.reduceLT, Int.reduceLE, not_true_eq_false, not_false_eq_true, eq_self]
-- loop.example/s02135/impl.Each1$3
def c_impl_Each1_3 : Cd :=
  sq (r [0] [o 2 .mv [i 0]])
  (sq (.block 0 (sq (r [0, 3] [o 4 .mv [t 0], o 5 (.bin .gtr) [t 4, i 0], o 3 .mv [t 5]])
     (.cond (t 3) (sq (r [2] [o 2 .mv [i 1]])
       (.ret)) (sq (r [6] [o 7 .mv [t 0], o 8 (.bin .lss) [t 7, i 0], o 6 .mv [t 8]])
       (.cond (t 6) (sq (r [2] [o 2 .mv [i (-1)]])
         (.ret)) (.skip))))))
   (sq (r [2] [o 2 .mv [i 0]])
    (.ret)))
def r_impl_Each1_3 : List RV := [.tmp 2]
def impl_Each1_3_f (N : Nat) (a0 : Int) : Option (Int) :=
  if 0 < a0 then some 1
  else (if a0 < 0 then some (-1)
   else some 0)
theorem impl_Each1_3_g (E : En) (hp : E.ps = []) (hl : E.pl = []) (hk : E.ck = []) (hr : E.rs = r_impl_Each1_3) (hd : E.dd = none) (hw : ∀ y, E.wk y = some (nocap y)) (hfl : ∀ e, E.Γ.fl e = flatIds e) (a0 : Int) : G E c_impl_Each1_3 [] ⟨slotsOf [(0, .d (.int .i64 a0))], obsOf []⟩ = (impl_Each1_3_f E.n a0).bind fun r => some (.ret (.d (.int .i64 r)) []) := by
  simp (config := {maxSteps := 2000000}) only [↓rPre, rPost, rCan, rObj, rI, rS, rB, r8, rLI, rEtc, hp, hl, hk, hr, hd, hw, hfl, flatIds, oid, r_impl_Each1_3, ↓G_unf _ _ c_impl_Each1_3.eq_1, bind_ite, impl_Each1_3_f, rRow3, rFile, rRow104, rRow62, rArray, rRow27, rRow5, rRow9, ↓reduceIte, Option.some_beq_some, Nat.reduceMul, Nat.reduceAdd, Nat.reduceSub, Nat.reduceEqDiff, Nat.reduceBEq, Nat.reduceLeDiff, Nat.reduceLT, Nat.zero_add, Nat.add_zero, Bool.not_true, Bool.not_false, Bool.and_true, Bool.true_and, Bool.and_false, Bool.false_and, Bool.and_self, Bool.or_false, Bool.false_or, Bool.or_true, Bool.true_or, Bool.or_self, decide_eq_true_eq, Bool.not_eq_true', Bool.not_eq_eq_eq_not, decide_eq_false_iff_not, ite_not, ite_self, List.nil_append, List.append_nil, Option.map_some, Option.map_none, List.length_replicate, Int.natCast_nonneg, and_self, and_true, true_and, Bool.false_eq_true, decide_true, decide_false, List.cons_append, reduceCtorEq, Int.reduceAdd, Int.reduceSub, Int.reduceToNat, Int.cast_ofNat_Int, Int.reduceNeg, Int.reduceEq, Int.reduceLT, Int.reduceLE, not_true_eq_false, not_false_eq_true, eq_self]
-- loop.example/s02135/impl.Each1$4
def c_impl_Each1_4 : Cd :=
  sq (r [0] [o 2 .mv [i 0]])
  (sq (sq (r [0, 8] [o 3 .mv [t 0], o 4 (.bin .neq) [t 3, i 0], o 5 .mv [t 4], g 5 true 6 .mv [t 0], g 5 true 7 (.bin .neq) [t 6, i 1], o 8 .pick [t 5, t 7, b false]])
    (.cond (t 8) (r [0] [o 9 (.bld [(.d (iD 0))] [(0, 1)]) [i 1], o 10 (.mkI 70) [t 9], e .pan [t 10]]) (.skip)))
   (sq (r [2] [o 11 .mv [t 0], o 12 (.bin .sub) [i 1, t 11], o 2 .mv [t 12]])
    (.ret)))
def r_impl_Each1_4 : List RV := [.tmp 2]
def impl_Each1_4_f (N : Nat) (a0 : Int) : Option (Res (Int)) :=
  if a0 = 0 then some (.ok (w64 (1 - a0)))
  else (if a0 = 1 then some (.ok (w64 (1 - a0)))
   else some (.pan (D.ifaceS 70 [D.int .i64 1])))
theorem impl_Each1_4_g (E : En) (hp : E.ps = []) (hl : E.pl = []) (hk : E.ck = []) (hr : E.rs = r_impl_Each1_4) (hd : E.dd = none) (hw : ∀ y, E.wk y = some (nocap y)) (hfl : ∀ e, E.Γ.fl e = flatIds e) (a0 : Int) : G E c_impl_Each1_4 [] ⟨slotsOf [(0, .d (.int .i64 a0))], obsOf []⟩ = (impl_Each1_4_f E.n a0).bind fun r => r.on (fun r => some (.ret (.d (.int .i64 r)) [])) (fun x => some (.pan x [])) := by
  simp (config := {maxSteps := 2000000}) only [↓rPre, rPost, rCan, rObj, rI, rS, rB, r8, rLI, rEtc, hp, hl, hk, hr, hd, hw, hfl, flatIds, oid, r_impl_Each1_4, ↓G_unf _ _ c_impl_Each1_4.eq_1, bind_ite, impl_Each1_4_f, rRow3, rFile, rRow104, rRow62, rArray, rRow27, rRow5, rRow9, ↓reduceIte, Option.some_beq_some, Nat.reduceMul, Nat.reduceAdd, Nat.reduceSub, Nat.reduceEqDiff, Nat.reduceBEq, Nat.reduceLeDiff, Nat.reduceLT, Nat.zero_add, Nat.add_zero, Bool.not_true, Bool.not_false, Bool.and_true, Bool.true_and, Bool.and_false, Bool.false_and, Bool.and_self, Bool.or_false, Bool.false_or, Bool.or_true, Bool.true_or, Bool.or_self, decide_eq_true_eq, Bool.not_eq_true', Bool.not_eq_eq_eq_not, decide_eq_false_iff_not, ite_not, ite_self, List.nil_append, List.append_nil, Option.map_some, Option.map_none, List.length_replicate, Int.natCast_nonneg, and_self, and_true, true_and, Bool.false_eq_true, decide_true, decide_false, List.cons_append, reduceCtorEq, Int.reduceAdd, Int.reduceSub, Int.reduceToNat, Int.cast_ofNat_Int, Int.reduceNeg, Int.reduceEq, Int.reduceLT, Int.reduceLE, not_true_eq_false, not_false_eq_true, eq_self]
-- loop.example/s02135/impl.Each1
def c_impl_Each1 : Cd :=
  sq (r [0, 3, 4, 5] [o 3 .box [t 1], o 4 (.alloc [.nil, .nil]) [], o 5 (.alloc [(.d (iD 0))]) []])
  (sq (r [0, 3, 4, 5, 6] [o 9 (.bld [(.d .nilf), (.d .nilf), (.d .nilf), (.d .nilf), (.d .nilf)] [(1, 1), (2, 1), (3, 1), (4, 1)]) [.k (.d (.fn 59)), .k (.d (.fn 60)), .k (.d (.fn 61)), .k (.d (.fn 62))], o 6 (.alloc [(.d .nilf), (.d .nilf), (.d .nilf), (.d .nilf), (.d .nilf)]) [], e (.st 5) [t 6, t 9]])
   (sq (sq (r [0, 3, 4, 5, 6, 20] [o 10 .mv [t 0], o 11 (.bin .lss) [t 10, i 1], o 12 .mv [t 11], g 12 false 13 .mv [t 0], g 12 false 14 (.bin .gtr) [t 13, i 4], o 15 .pick [t 12, b true, t 14], o 16 .mv [t 15], g 16 false 17 (.ld (some 2)) [t 3], g 16 false 18 (.call 17) [t 17], g 16 false 19 .not [t 18], o 20 .pick [t 16, b true, t 19]])
     (.cond (t 20) (sq (r [4, 5] [o 21 (.bld [.nil, .nil] []) [], e (.st 2) [t 4, t 21], e (.st 1) [t 5, i 9]])
       (.ret)) (.skip)))
    (.skip)))
def r_impl_Each1 : List RV := [.cell 4 (some 2), .cell 5 none]
def b0_d_impl_Each1 : Cd :=
  sq (r [0, 4, 5, 6, 26, 27, 28, 29] [o 29 (.bin .lss) [t 28, t 27]])
  (sq (.cond (t 29) (.skip) (.exit 0))
   (sq (.block 1 (sq (r [0, 4, 5, 6, 8, 26, 27, 28] [o 30 (.ia 1) [t 26, t 28], o 31 (.ld none) [t 30], o 8 .mv [t 31]])
      (rd [] [0, 4, 5, 6, 26, 27, 28] [o 32 (.fa 1) [t 4], o 33 (.ld none) [t 32], o 34 .mv [t 0], o 35 (.iaa 5 1) [t 6, t 34], o 36 (.ld none) [t 35], o 37 .mv [t 8], ap [] false [4, 32] (o 38 .dyn [t 36, t 37]), ap [] false [4, 32] (o 39 (lit 3 1 1) [t 38]), o 40 (.app 3 1 8) [t 33, t 39], o 41 (.fa 1) [t 4], e (.st 1) [t 41, t 40]])))
    (r [0, 4, 5, 6, 26, 27, 28] [o 42 (.bin .add) [t 28, i 1], o 28 .mv [t 42]])))
def k1_d_impl_Each1 : Cd :=
  sq (r [4, 5] [o 43 (.ld (some 2)) [t 4], e (.st 2) [t 4, t 43], e (.st 1) [t 5, i 0]])
  (.ret)
def d_impl_Each1 : Cd :=
  sq (r [0, 3, 4, 5, 6] [o 22 (.fa 0) [t 3], o 23 (.ld none) [t 22], o 24 (.call 64) [t 23], e (.st 2) [t 4, t 24]])
  (sq (sq (r [0, 4, 5, 6, 26, 27, 28] [o 25 (.fa 1) [t 3], o 26 (.ld none) [t 25], o 27 (.len false) [t 26], o 28 .mv [i 0]])
    (.block 0 (.loop [0, 4, 5, 6, 26, 27, 28] b0_d_impl_Each1))) k1_d_impl_Each1)
def da_impl_Each1 : List Nat := [5, 4]
def kp_impl_Each1 : List Nat := [0, 3, 4, 5, 6]
def impl_Each1_b_l0 (L_impl_Each1_1 : Int → Option (Int)) (L_impl_Each1_2 : Int → Option (Int)) (L_impl_Each1_3 : Int → Option (Int)) (L_impl_Each1_4 : Int → Option (Res (Int))) (L_impl_ArrayOk : (List Int) → (List Int) → Option (Bool)) (L_impl_made : (List Int) → Option (Res (List Int × Option Nat × List Int))) (L_fd : D → Int → (List Int) → (List Int) → Option (Int)) : Nat → Int → (List Int) → Int → Int → (List Int) → (List Int) → Option (List Int × List Int × Int)
  | 0, _, _, _, _, _, _ => none
  | m0 + 1, x0, x26, x27, x28, o257, o258 =>
    if x28 < x27 then ((idx x26 x28).bind fun y0 =>
     if 0 ≤ x0 ∧ x0 < 5 then (if Int.toNat x0 * 1 = 0 then none
      else (if Int.toNat x0 * 1 = 1 then ((L_impl_Each1_1 y0).bind fun y1 =>
        if room 8 (List.length (o258 ++ [y1])) then impl_Each1_b_l0 L_impl_Each1_1 L_impl_Each1_2 L_impl_Each1_3 L_impl_Each1_4 L_impl_ArrayOk L_impl_made L_fd m0 x0 x26 x27 (w64 (x28 + 1)) o257 (o258 ++ [y1])
        else none)
       else (if Int.toNat x0 * 1 = 2 then ((L_impl_Each1_2 y0).bind fun y2 =>
         if room 8 (List.length (o258 ++ [y2])) then impl_Each1_b_l0 L_impl_Each1_1 L_impl_Each1_2 L_impl_Each1_3 L_impl_Each1_4 L_impl_ArrayOk L_impl_made L_fd m0 x0 x26 x27 (w64 (x28 + 1)) o257 (o258 ++ [y2])
         else none)
        else (if Int.toNat x0 * 1 = 3 then ((L_impl_Each1_3 y0).bind fun y3 =>
          if room 8 (List.length (o258 ++ [y3])) then impl_Each1_b_l0 L_impl_Each1_1 L_impl_Each1_2 L_impl_Each1_3 L_impl_Each1_4 L_impl_ArrayOk L_impl_made L_fd m0 x0 x26 x27 (w64 (x28 + 1)) o257 (o258 ++ [y3])
          else none)
         else (if Int.toNat x0 * 1 = 4 then ((L_impl_Each1_4 y0).bind fun y4 =>
           (y4).on (fun y5 => if room 8 (List.length (o258 ++ [y5])) then impl_Each1_b_l0 L_impl_Each1_1 L_impl_Each1_2 L_impl_Each1_3 L_impl_Each1_4 L_impl_ArrayOk L_impl_made L_fd m0 x0 x26 x27 (w64 (x28 + 1)) o257 (o258 ++ [y5])
            else none) (fun y5 => (L_fd y5 0 o257 o258).bind fun y6 =>
            some (([], [], y6))))
          else none)))))
     else none)
    else some ((o257, o258, 0))
def impl_Each1_b_f (L_impl_Each1_1 : Int → Option (Int)) (L_impl_Each1_2 : Int → Option (Int)) (L_impl_Each1_3 : Int → Option (Int)) (L_impl_Each1_4 : Int → Option (Res (Int))) (L_impl_ArrayOk : (List Int) → (List Int) → Option (Bool)) (L_impl_made : (List Int) → Option (Res (List Int × Option Nat × List Int))) (L_fd : D → Int → (List Int) → (List Int) → Option (Int)) (N : Nat) (x0 : Int) (o192_0 : List Int) (o192_1 : List Int) : Option (List Int × List Int × Int) :=
  (L_impl_made o192_0).bind fun y0 =>
  (y0).on (fun y1 => impl_Each1_b_l0 L_impl_Each1_1 L_impl_Each1_2 L_impl_Each1_3 L_impl_Each1_4 L_impl_ArrayOk L_impl_made L_fd N x0 o192_1 ((↑(List.length o192_1) : Int)) 0 y1.fst y1.snd.snd) (fun y1 => (L_fd y1 0 [] []).bind fun y2 =>
   some (([], [], y2)))
theorem impl_Each1_b_l0_eq  (E : En) (hp : E.ps = [320, 256]) (hl : E.pl = []) (hk : E.ck = []) (hr : E.rs = r_impl_Each1) (hd : E.dd = some ([320, 256], [5, 4])) (hw : ∀ y, E.wk y = some (nocap (asOwn (.node [.node [.own 3 1, .own 3 1], .k]) y))) (hfl : ∀ e, E.Γ.fl e = flatIds e) (m_impl_Each1_1 : E.Γ.mu 59 = false) (L_impl_Each1_1 : Int → Option (Int)) (h_impl_Each1_1 : ∀ (a0 : Int), E.Γ 59 [.d (.int .i64 a0)] = (L_impl_Each1_1 a0).bind fun r => some (.ret (.d (.int .i64 r)) [])) (m_impl_Each1_2 : E.Γ.mu 60 = false) (L_impl_Each1_2 : Int → Option (Int)) (h_impl_Each1_2 : ∀ (a0 : Int), E.Γ 60 [.d (.int .i64 a0)] = (L_impl_Each1_2 a0).bind fun r => some (.ret (.d (.int .i64 r)) [])) (m_impl_Each1_3 : E.Γ.mu 61 = false) (L_impl_Each1_3 : Int → Option (Int)) (h_impl_Each1_3 : ∀ (a0 : Int), E.Γ 61 [.d (.int .i64 a0)] = (L_impl_Each1_3 a0).bind fun r => some (.ret (.d (.int .i64 r)) [])) (m_impl_Each1_4 : E.Γ.mu 62 = false) (L_impl_Each1_4 : Int → Option (Res (Int))) (h_impl_Each1_4 : ∀ (a0 : Int), E.Γ 62 [.d (.int .i64 a0)] = (L_impl_Each1_4 a0).bind fun r => r.on (fun r => some (.ret (.d (.int .i64 r)) [])) (fun x => some (.pan x []))) (m_impl_ArrayOk : E.Γ.mu 17 = false) (L_impl_ArrayOk : (List Int) → (List Int) → Option (Bool)) (h_impl_ArrayOk : ∀ (a0_Shape : List Int) (a0_Data : List Int), E.Γ 17 [.agg [.d (lstT cI a0_Shape), .d (lstT cI a0_Data)]] = (L_impl_ArrayOk a0_Shape a0_Data).bind fun r => some (.ret (.d (.bool r)) [])) (m_impl_made : E.Γ.mu 64 = false) (L_impl_made : (List Int) → Option (Res (List Int × Option Nat × List Int))) (h_impl_made : ∀ (a0 : List Int), E.Γ 64 [.d (lstT cI a0)] = (L_impl_made a0).bind fun r => r.on (fun r => some (.ret (.agg [ownT (cI) 3 none false r.1, ownT (cI) 3 r.2.1 false r.2.2]) [])) (fun x => some (.pan x []))) (L_fd : D → Int → (List Int) → (List Int) → Option (Int)) (h_fd : ∀ (x : D) (a0 : Int) (a1_Shape : List Int) (a1_Data : List Int), E.fd x [.box [.d (.int .i64 a0)], .box [.d (lstT cI a1_Shape), .d (lstT cI a1_Data)]] = (L_fd x a0 a1_Shape a1_Data).bind fun r => some [[.int .i64 r], [D.nils, D.nils]]) : ∀ (m0 : Nat) (x0 : Int) (x26 : List Int) (x27 : Int) (x28 : Int) (o257 : List Int) (o258 : List Int), gH E [0, 4, 5, 6, 26, 27, 28] b0_d_impl_Each1 [KJ.b 0, KJ.c k1_d_impl_Each1] m0 ⟨slotsOf [(0, .d (.int .i64 x0)), (4, A.adr 256 1 0), (5, A.adr 320 1 0), (6, A.adr 384 1 0), (26, .d (lstT (cI) x26)), (27, .d (.int .i64 x27)), (28, .d (.int .i64 x28))], obsOf [(256, ⟨1, .box [A.row 257 1, A.row 258 1], false⟩), (257, ⟨1, rowT (cI) 3 none o257, false⟩), (258, ⟨1, rowT (cI) 3 none o258, false⟩), (320, ⟨1, .box [.d (iD 0)], false⟩), (384, ⟨1, .box [.d (D.nilf), A.d (D.fn 59), A.d (D.fn 60), A.d (D.fn 61), A.d (D.fn 62)], false⟩)]⟩ = (impl_Each1_b_l0 L_impl_Each1_1 L_impl_Each1_2 L_impl_Each1_3 L_impl_Each1_4 L_impl_ArrayOk L_impl_made L_fd m0 x0 x26 x27 x28 o257 o258).bind fun r => some (.ret (.tup [.agg [ownT (cI) 3 none false r.1, ownT (cI) 3 none false r.2.1], .d (.int .i64 r.2.2)]) []) := by
  intro m0
  induction m0 with
  | zero => intros; rfl
  | succ m0 ih =>
    intros
    simp (config := {maxSteps := 2000000}) only [↓rPre, rPost, rCan, rObj, rI, rS, rB, r8, rLI, rEtc, hp, hl, hk, hr, hd, hw, hfl, flatIds, oid, r_impl_Each1, ↓G_unf _ _ c_impl_Each1.eq_1, ↓G_unf _ _ b0_d_impl_Each1.eq_1, ↓G_unf _ _ k1_d_impl_Each1.eq_1, da_impl_Each1, kp_impl_Each1, h_impl_Each1_1, m_impl_Each1_1, h_impl_Each1_2, m_impl_Each1_2, h_impl_Each1_3, m_impl_Each1_3, h_impl_Each1_4, m_impl_Each1_4, h_impl_ArrayOk, m_impl_ArrayOk, h_impl_made, m_impl_made, h_fd, (show ∀ (x : D) (a0 : Int) (a1_Data : List Int), E.fd x [.box [.d (.int .i64 a0)], .box [.d (.lst 0 []), .d (lstT cI a1_Data)]] = (L_fd x a0 [] a1_Data).bind fun r => some [[.int .i64 r], [D.nils, D.nils]] from fun x a0 a1_Data => h_fd x a0 [] a1_Data), (show ∀ (x : D) (a0 : Int) (a1_Shape : List Int), E.fd x [.box [.d (.int .i64 a0)], .box [.d (lstT cI a1_Shape), .d (.lst 0 [])]] = (L_fd x a0 a1_Shape []).bind fun r => some [[.int .i64 r], [D.nils, D.nils]] from fun x a0 a1_Shape => h_fd x a0 a1_Shape []), (show ∀ (x : D) (a0 : Int), E.fd x [.box [.d (.int .i64 a0)], .box [.d (.lst 0 []), .d (.lst 0 [])]] = (L_fd x a0 [] []).bind fun r => some [[.int .i64 r], [D.nils, D.nils]] from fun x a0 => h_fd x a0 [] []), gB_eq, ↓G_unf _ _ d_impl_Each1.eq_1, gH_succ, ih, bind_ite, impl_Each1_b_l0, rRow3, rFile, rRow104, rRow62, rArray, rRow27, rRow5, rRow9, ↓reduceIte, Option.some_beq_some, Nat.reduceMul, Nat.reduceAdd, Nat.reduceSub, Nat.reduceEqDiff, Nat.reduceBEq, Nat.reduceLeDiff, Nat.reduceLT, Nat.zero_add, Nat.add_zero, Bool.not_true, Bool.not_false, Bool.and_true, Bool.true_and, Bool.and_false, Bool.false_and, Bool.and_self, Bool.or_false, Bool.false_or, Bool.or_true, Bool.true_or, Bool.or_self, decide_eq_true_eq, Bool.not_eq_true', Bool.not_eq_eq_eq_not, decide_eq_false_iff_not, ite_not, ite_self, List.nil_append, List.append_nil, Option.map_some, Option.map_none, List.length_replicate, Int.natCast_nonneg, and_self, and_true, true_and, Bool.false_eq_true, decide_true, decide_false, List.cons_append, reduceCtorEq, Int.reduceAdd, Int.reduceSub, Int.reduceToNat, Int.cast_ofNat_Int, Int.reduceNeg, Int.reduceEq, Int.reduceLT, Int.reduceLE, not_true_eq_false, not_false_eq_true, eq_self]
theorem impl_Each1_b_g  (E : En) (hp : E.ps = [320, 256]) (hl : E.pl = []) (hk : E.ck = []) (hr : E.rs = r_impl_Each1) (hd : E.dd = some ([320, 256], [5, 4])) (hw : ∀ y, E.wk y = some (nocap (asOwn (.node [.node [.own 3 1, .own 3 1], .k]) y))) (hfl : ∀ e, E.Γ.fl e = flatIds e) (m_impl_Each1_1 : E.Γ.mu 59 = false) (L_impl_Each1_1 : Int → Option (Int)) (h_impl_Each1_1 : ∀ (a0 : Int), E.Γ 59 [.d (.int .i64 a0)] = (L_impl_Each1_1 a0).bind fun r => some (.ret (.d (.int .i64 r)) [])) (m_impl_Each1_2 : E.Γ.mu 60 = false) (L_impl_Each1_2 : Int → Option (Int)) (h_impl_Each1_2 : ∀ (a0 : Int), E.Γ 60 [.d (.int .i64 a0)] = (L_impl_Each1_2 a0).bind fun r => some (.ret (.d (.int .i64 r)) [])) (m_impl_Each1_3 : E.Γ.mu 61 = false) (L_impl_Each1_3 : Int → Option (Int)) (h_impl_Each1_3 : ∀ (a0 : Int), E.Γ 61 [.d (.int .i64 a0)] = (L_impl_Each1_3 a0).bind fun r => some (.ret (.d (.int .i64 r)) [])) (m_impl_Each1_4 : E.Γ.mu 62 = false) (L_impl_Each1_4 : Int → Option (Res (Int))) (h_impl_Each1_4 : ∀ (a0 : Int), E.Γ 62 [.d (.int .i64 a0)] = (L_impl_Each1_4 a0).bind fun r => r.on (fun r => some (.ret (.d (.int .i64 r)) [])) (fun x => some (.pan x []))) (m_impl_ArrayOk : E.Γ.mu 17 = false) (L_impl_ArrayOk : (List Int) → (List Int) → Option (Bool)) (h_impl_ArrayOk : ∀ (a0_Shape : List Int) (a0_Data : List Int), E.Γ 17 [.agg [.d (lstT cI a0_Shape), .d (lstT cI a0_Data)]] = (L_impl_ArrayOk a0_Shape a0_Data).bind fun r => some (.ret (.d (.bool r)) [])) (m_impl_made : E.Γ.mu 64 = false) (L_impl_made : (List Int) → Option (Res (List Int × Option Nat × List Int))) (h_impl_made : ∀ (a0 : List Int), E.Γ 64 [.d (lstT cI a0)] = (L_impl_made a0).bind fun r => r.on (fun r => some (.ret (.agg [ownT (cI) 3 none false r.1, ownT (cI) 3 r.2.1 false r.2.2]) [])) (fun x => some (.pan x []))) (L_fd : D → Int → (List Int) → (List Int) → Option (Int)) (h_fd : ∀ (x : D) (a0 : Int) (a1_Shape : List Int) (a1_Data : List Int), E.fd x [.box [.d (.int .i64 a0)], .box [.d (lstT cI a1_Shape), .d (lstT cI a1_Data)]] = (L_fd x a0 a1_Shape a1_Data).bind fun r => some [[.int .i64 r], [D.nils, D.nils]]) (x0 : Int) (o192_0 : List Int) (o192_1 : List Int) : gB E d_impl_Each1 ⟨slotsOf [(0, .d (.int .i64 x0)), (3, A.adr 192 1 0), (4, A.adr 256 1 0), (5, A.adr 320 1 0), (6, A.adr 384 1 0)], obsOf [(192, ⟨1, .box [.d (lstT (cI) o192_0), .d (lstT (cI) o192_1)], false⟩), (256, ⟨1, .box [A.nil, A.nil], false⟩), (320, ⟨1, .box [.d (iD 0)], false⟩), (384, ⟨1, .box [.d (D.nilf), A.d (D.fn 59), A.d (D.fn 60), A.d (D.fn 61), A.d (D.fn 62)], false⟩)]⟩ = (impl_Each1_b_f L_impl_Each1_1 L_impl_Each1_2 L_impl_Each1_3 L_impl_Each1_4 L_impl_ArrayOk L_impl_made L_fd E.n x0 o192_0 o192_1).bind fun r => some (.ret (.tup [.agg [ownT (cI) 3 none false r.1, ownT (cI) 3 none false r.2.1], .d (.int .i64 r.2.2)]) []) := by
  simp (config := {maxSteps := 2000000}) only [↓rPre, rPost, rCan, rObj, rI, rS, rB, r8, rLI, rEtc, hp, hl, hk, hr, hd, hw, hfl, flatIds, oid, r_impl_Each1, ↓G_unf _ _ c_impl_Each1.eq_1, ↓G_unf _ _ b0_d_impl_Each1.eq_1, ↓G_unf _ _ k1_d_impl_Each1.eq_1, da_impl_Each1, kp_impl_Each1, h_impl_Each1_1, m_impl_Each1_1, h_impl_Each1_2, m_impl_Each1_2, h_impl_Each1_3, m_impl_Each1_3, h_impl_Each1_4, m_impl_Each1_4, h_impl_ArrayOk, m_impl_ArrayOk, h_impl_made, m_impl_made, h_fd, (show ∀ (x : D) (a0 : Int) (a1_Data : List Int), E.fd x [.box [.d (.int .i64 a0)], .box [.d (.lst 0 []), .d (lstT cI a1_Data)]] = (L_fd x a0 [] a1_Data).bind fun r => some [[.int .i64 r], [D.nils, D.nils]] from fun x a0 a1_Data => h_fd x a0 [] a1_Data), (show ∀ (x : D) (a0 : Int) (a1_Shape : List Int), E.fd x [.box [.d (.int .i64 a0)], .box [.d (lstT cI a1_Shape), .d (.lst 0 [])]] = (L_fd x a0 a1_Shape []).bind fun r => some [[.int .i64 r], [D.nils, D.nils]] from fun x a0 a1_Shape => h_fd x a0 a1_Shape []), (show ∀ (x : D) (a0 : Int), E.fd x [.box [.d (.int .i64 a0)], .box [.d (.lst 0 []), .d (.lst 0 [])]] = (L_fd x a0 [] []).bind fun r => some [[.int .i64 r], [D.nils, D.nils]] from fun x a0 => h_fd x a0 [] []), gB_eq, ↓G_unf _ _ d_impl_Each1.eq_1, bind_ite, impl_Each1_b_f, impl_Each1_b_l0_eq E hp hl hk hr hd hw hfl m_impl_Each1_1 L_impl_Each1_1 h_impl_Each1_1 m_impl_Each1_2 L_impl_Each1_2 h_impl_Each1_2 m_impl_Each1_3 L_impl_Each1_3 h_impl_Each1_3 m_impl_Each1_4 L_impl_Each1_4 h_impl_Each1_4 m_impl_ArrayOk L_impl_ArrayOk h_impl_ArrayOk m_impl_made L_impl_made h_impl_made L_fd h_fd, rRow3, rFile, rRow104, rRow62, rArray, rRow27, rRow5, rRow9, ↓reduceIte, Option.some_beq_some, Nat.reduceMul, Nat.reduceAdd, Nat.reduceSub, Nat.reduceEqDiff, Nat.reduceBEq, Nat.reduceLeDiff, Nat.reduceLT, Nat.zero_add, Nat.add_zero, Bool.not_true, Bool.not_false, Bool.and_true, Bool.true_and, Bool.and_false, Bool.false_and, Bool.and_self, Bool.or_false, Bool.false_or, Bool.or_true, Bool.true_or, Bool.or_self, decide_eq_true_eq, Bool.not_eq_true', Bool.not_eq_eq_eq_not, decide_eq_false_iff_not, ite_not, ite_self, List.nil_append, List.append_nil, Option.map_some, Option.map_none, List.length_replicate, Int.natCast_nonneg, and_self, and_true, true_and, Bool.false_eq_true, decide_true, decide_false, List.cons_append, reduceCtorEq, Int.reduceAdd, Int.reduceSub, Int.reduceToNat, Int.cast_ofNat_Int, Int.reduceNeg, Int.reduceEq, Int.reduceLT, Int.reduceLE, not_true_eq_false, not_false_eq_true, eq_self]
def impl_Each1_f (L_impl_Each1_1 : Int → Option (Int)) (L_impl_Each1_2 : Int → Option (Int)) (L_impl_Each1_3 : Int → Option (Int)) (L_impl_Each1_4 : Int → Option (Res (Int))) (L_impl_ArrayOk : (List Int) → (List Int) → Option (Bool)) (L_impl_made : (List Int) → Option (Res (List Int × Option Nat × List Int))) (L_fd : D → Int → (List Int) → (List Int) → Option (Int)) (N : Nat) (a0 : Int) (a1_Shape : List Int) (a1_Data : List Int) : Option (List Int × List Int × Int) :=
  if a0 < 1 then some (([], [], 9))
  else (if 4 < a0 then some (([], [], 9))
   else ((L_impl_ArrayOk a1_Shape a1_Data).bind fun y0 =>
    if y0 = false then some (([], [], 9))
    else impl_Each1_b_f L_impl_Each1_1 L_impl_Each1_2 L_impl_Each1_3 L_impl_Each1_4 L_impl_ArrayOk L_impl_made L_fd N a0 a1_Shape a1_Data))
theorem impl_Each1_g (E : En) (hp : E.ps = []) (hl : E.pl = []) (hk : E.ck = []) (hr : E.rs = r_impl_Each1) (hd : E.dd = none) (hw : ∀ y, E.wk y = some (nocap (asOwn (.node [.node [.own 3 1, .own 3 1], .k]) y))) (hfl : ∀ e, E.Γ.fl e = flatIds e) (m_impl_Each1_1 : E.Γ.mu 59 = false) (L_impl_Each1_1 : Int → Option (Int)) (h_impl_Each1_1 : ∀ (a0 : Int), E.Γ 59 [.d (.int .i64 a0)] = (L_impl_Each1_1 a0).bind fun r => some (.ret (.d (.int .i64 r)) [])) (m_impl_Each1_2 : E.Γ.mu 60 = false) (L_impl_Each1_2 : Int → Option (Int)) (h_impl_Each1_2 : ∀ (a0 : Int), E.Γ 60 [.d (.int .i64 a0)] = (L_impl_Each1_2 a0).bind fun r => some (.ret (.d (.int .i64 r)) [])) (m_impl_Each1_3 : E.Γ.mu 61 = false) (L_impl_Each1_3 : Int → Option (Int)) (h_impl_Each1_3 : ∀ (a0 : Int), E.Γ 61 [.d (.int .i64 a0)] = (L_impl_Each1_3 a0).bind fun r => some (.ret (.d (.int .i64 r)) [])) (m_impl_Each1_4 : E.Γ.mu 62 = false) (L_impl_Each1_4 : Int → Option (Res (Int))) (h_impl_Each1_4 : ∀ (a0 : Int), E.Γ 62 [.d (.int .i64 a0)] = (L_impl_Each1_4 a0).bind fun r => r.on (fun r => some (.ret (.d (.int .i64 r)) [])) (fun x => some (.pan x []))) (m_impl_ArrayOk : E.Γ.mu 17 = false) (L_impl_ArrayOk : (List Int) → (List Int) → Option (Bool)) (h_impl_ArrayOk : ∀ (a0_Shape : List Int) (a0_Data : List Int), E.Γ 17 [.agg [.d (lstT cI a0_Shape), .d (lstT cI a0_Data)]] = (L_impl_ArrayOk a0_Shape a0_Data).bind fun r => some (.ret (.d (.bool r)) [])) (m_impl_made : E.Γ.mu 64 = false) (L_impl_made : (List Int) → Option (Res (List Int × Option Nat × List Int))) (h_impl_made : ∀ (a0 : List Int), E.Γ 64 [.d (lstT cI a0)] = (L_impl_made a0).bind fun r => r.on (fun r => some (.ret (.agg [ownT (cI) 3 none false r.1, ownT (cI) 3 r.2.1 false r.2.2]) [])) (fun x => some (.pan x []))) (L_fd : D → Int → (List Int) → (List Int) → Option (Int)) (h_fd : ∀ (x : D) (a0 : Int) (a1_Shape : List Int) (a1_Data : List Int), E.fd x [.box [.d (.int .i64 a0)], .box [.d (lstT cI a1_Shape), .d (lstT cI a1_Data)]] = (L_fd x a0 a1_Shape a1_Data).bind fun r => some [[.int .i64 r], [D.nils, D.nils]]) (a0 : Int) (a1_Shape : List Int) (a1_Data : List Int) : G E c_impl_Each1 [.df da_impl_Each1 kp_impl_Each1 d_impl_Each1] ⟨slotsOf [(0, .d (.int .i64 a0)), (1, .agg [.d (lstT cI a1_Shape), .d (lstT cI a1_Data)])], obsOf []⟩ = (impl_Each1_f L_impl_Each1_1 L_impl_Each1_2 L_impl_Each1_3 L_impl_Each1_4 L_impl_ArrayOk L_impl_made L_fd E.n a0 a1_Shape a1_Data).bind fun r => some (.ret (.tup [.agg [ownT (cI) 3 none false r.1, ownT (cI) 3 none false r.2.1], .d (.int .i64 r.2.2)]) []) := by
  simp (config := {maxSteps := 2000000}) only [↓rPre, rPost, rCan, rObj, rI, rS, rB, r8, rLI, rEtc, hp, hl, hk, hr, hd, hw, hfl, flatIds, oid, r_impl_Each1, ↓G_unf _ _ c_impl_Each1.eq_1, ↓G_unf _ _ b0_d_impl_Each1.eq_1, ↓G_unf _ _ k1_d_impl_Each1.eq_1, da_impl_Each1, kp_impl_Each1, h_impl_Each1_1, m_impl_Each1_1, h_impl_Each1_2, m_impl_Each1_2, h_impl_Each1_3, m_impl_Each1_3, h_impl_Each1_4, m_impl_Each1_4, h_impl_ArrayOk, m_impl_ArrayOk, h_impl_made, m_impl_made, h_fd, (show ∀ (x : D) (a0 : Int) (a1_Data : List Int), E.fd x [.box [.d (.int .i64 a0)], .box [.d (.lst 0 []), .d (lstT cI a1_Data)]] = (L_fd x a0 [] a1_Data).bind fun r => some [[.int .i64 r], [D.nils, D.nils]] from fun x a0 a1_Data => h_fd x a0 [] a1_Data), (show ∀ (x : D) (a0 : Int) (a1_Shape : List Int), E.fd x [.box [.d (.int .i64 a0)], .box [.d (lstT cI a1_Shape), .d (.lst 0 [])]] = (L_fd x a0 a1_Shape []).bind fun r => some [[.int .i64 r], [D.nils, D.nils]] from fun x a0 a1_Shape => h_fd x a0 a1_Shape []), (show ∀ (x : D) (a0 : Int), E.fd x [.box [.d (.int .i64 a0)], .box [.d (.lst 0 []), .d (.lst 0 [])]] = (L_fd x a0 [] []).bind fun r => some [[.int .i64 r], [D.nils, D.nils]] from fun x a0 => h_fd x a0 [] []), bind_ite, impl_Each1_f, impl_Each1_b_g (E.behind [320, 256] [5, 4]) (by rw [show (E.behind [320, 256] [5, 4]).ps = E.ps ++ [320, 256] from rfl, hp]; rfl) hl hk hr rfl hw hfl m_impl_Each1_1 L_impl_Each1_1 h_impl_Each1_1 m_impl_Each1_2 L_impl_Each1_2 h_impl_Each1_2 m_impl_Each1_3 L_impl_Each1_3 h_impl_Each1_3 m_impl_Each1_4 L_impl_Each1_4 h_impl_Each1_4 m_impl_ArrayOk L_impl_ArrayOk h_impl_ArrayOk m_impl_made L_impl_made h_impl_made L_fd h_fd, behind_n, rRow3, rFile, rRow104, rRow62, rArray, rRow27, rRow5, rRow9, ↓reduceIte, Option.some_beq_some, Nat.reduceMul, Nat.reduceAdd, Nat.reduceSub, Nat.reduceEqDiff, Nat.reduceBEq, Nat.reduceLeDiff, Nat.reduceLT, Nat.zero_add, Nat.add_zero, Bool.not_true, Bool.not_false, Bool.and_true, Bool.true_and, Bool.and_false, Bool.false_and, Bool.and_self, Bool.or_false, Bool.false_or, Bool.or_true, Bool.true_or, Bool.or_self, decide_eq_true_eq, Bool.not_eq_true', Bool.not_eq_eq_eq_not, decide_eq_false_iff_not, ite_not, ite_self, List.nil_append, List.append_nil, Option.map_some, Option.map_none, List.length_replicate, Int.natCast_nonneg, and_self, and_true, true_and, Bool.false_eq_true, decide_true, decide_false, List.cons_append, reduceCtorEq, Int.reduceAdd, Int.reduceSub, Int.reduceToNat, Int.cast_ofNat_Int, Int.reduceNeg, Int.reduceEq, Int.reduceLT, Int.reduceLE, not_true_eq_false, not_false_eq_true, eq_self]
-- loop.example/s02135/laws.FnExactEach1
def c_laws_FnExactEach1 : Cd :=
  sq (r [0, 3] [o 3 .box [t 1], o 4 .mv [b false]])
  (sq (r [0, 3, 5] [o 5 .mv [i 1048576]])
   (sq (r [0, 3, 5] [o 16 (.ld (some 2)) [t 3], o 17 .mv [t 5], o 18 (.call 14) [t 16, t 17], o 5 .mv [t 18]])
    (sq (sq (r [0, 3, 20] [o 19 .mv [t 5], o 20 (.bin .lss) [t 19, i 0]])
      (.cond (t 20) (sq (r [4] [o 4 .mv [b true]])
        (.ret)) (.skip)))
     (sq (r [0, 3, 6, 7] [o 22 .mv [t 0], o 23 (.ld (some 2)) [t 3], o 24 (.call 16) [t 23], o 25 (.call 24) [t 22, t 24], o 21 .mv [t 25], o 26 (.ext 0) [t 21], o 27 (.ext 1) [t 21], o 6 (.alloc [.nil, .nil]) [], e (.st 2) [t 6, t 26], o 7 .mv [t 27]])
      (sq (r [0, 3, 6, 7, 8] [o 28 (.ld (some 2)) [t 3], o 29 (.call 16) [t 28], o 8 (.alloc [.nil, .nil]) [], e (.st 2) [t 8, t 29]])
       (sq (r [0, 3, 6, 7, 8, 9, 10] [o 31 .mv [t 0], o 32 (.ld (some 2)) [t 8], o 33 (.call 25) [t 31, t 32], o 30 .mv [t 33], o 34 (.ext 0) [t 30], o 35 (.ext 1) [t 30], o 9 (.alloc [.nil, .nil]) [], e (.st 2) [t 9, t 34], o 10 .mv [t 35]])
        (sq (sq (r [0, 3, 6, 7, 8, 9, 10, 44] [o 36 (.ld (some 2)) [t 9], o 37 (.ld (some 2)) [t 6], o 38 (.call 18) [t 36, t 37], o 39 .not [t 38], o 40 .mv [t 39], g 40 false 41 .mv [t 10], g 40 false 42 .mv [t 7], g 40 false 43 (.bin .neq) [t 41, t 42], o 44 .pick [t 40, b true, t 43]])
          (.cond (t 44) (sq (r [4] [o 4 .mv [b false]])
            (.ret)) (.skip)))
         (sq (sq (rd [] [0, 3, 6, 7, 8, 9, 10, 49] [o 45 (.ld (some 2)) [t 8], o 46 (.ld (some 2)) [t 3], ap [] false [8] (o 47 (.call 16) [t 46]), o 48 (.call 18) [t 45, t 47], o 49 .not [t 48]])
           (.cond (t 49) (sq (r [4] [o 4 .mv [b false]])
             (.ret)) (.skip)))
          (sq (r [0, 3, 6, 7, 8, 9, 10, 11] [o 11 .mv [i 1]])
           (sq (r [0, 3, 6, 7, 9, 10, 11] [o 50 (.ld (some 2)) [t 8], o 51 .mv [t 11], o 52 (.call 26) [t 50, t 51], o 11 .mv [t 52]])
            (sq (sq (r [0, 3, 6, 7, 9, 65] [o 53 .mv [t 11], o 54 (.bin .lss) [t 53, i 0], o 55 .mv [t 54], g 55 false 56 (.ld (some 2)) [t 9], g 55 false 57 (.ld (some 2)) [t 6], g 55 false 58 (.call 18) [t 56, t 57], g 55 false 59 .not [t 58], o 60 .pick [t 55, b true, t 59], o 61 .mv [t 60], g 61 false 62 .mv [t 10], g 61 false 63 .mv [t 7], g 61 false 64 (.bin .neq) [t 62, t 63], o 65 .pick [t 61, b true, t 64]])
              (.cond (t 65) (sq (r [4] [o 4 .mv [b false]])
                (.ret)) (.skip)))
             (sq (r [0, 3, 6, 7, 9, 12] [o 12 .mv [i 1]])
              (sq (r [0, 3, 6, 7, 9, 12] [o 66 (.ld (some 2)) [t 9], o 67 .mv [t 12], o 68 (.call 26) [t 66, t 67], o 12 .mv [t 68]])
               (sq (r [0, 3, 6, 7, 9, 12, 13] [o 13 .mv [i 1]])
                (sq (r [0, 3, 6, 7, 9, 12, 13] [o 69 (.ld (some 2)) [t 9], o 70 .mv [t 13], o 71 (.call 27) [t 69, t 70], o 13 .mv [t 71]])
                 (sq (sq (r [0, 3, 6, 7, 9, 12, 13, 73] [o 72 .mv [t 13], o 73 (.bin .lss) [t 72, i 0]])
                   (.cond (t 73) (sq (r [4] [o 4 .mv [b false]])
                     (.ret)) (.skip)))
                  (sq (sq (r [0, 3, 6, 7, 9, 12, 76] [o 74 .mv [t 13], o 75 .mv [t 12], o 76 (.bin .neq) [t 74, t 75]])
                    (.cond (t 76) (sq (r [4] [o 4 .mv [b false]])
                      (.ret)) (.skip)))
                   (sq (r [6, 7, 9, 12, 14, 15] [o 78 .mv [t 0], o 79 (.ld (some 2)) [t 3], o 80 (.call 16) [t 79], o 81 (.call 25) [t 78, t 80], o 77 .mv [t 81], o 82 (.ext 0) [t 77], o 83 (.ext 1) [t 77], o 14 (.alloc [.nil, .nil]) [], e (.st 2) [t 14, t 82], o 15 .mv [t 83]])
                    (sq (sq (r [9, 12, 92] [o 84 (.ld (some 2)) [t 14], o 85 (.ld (some 2)) [t 6], o 86 (.call 18) [t 84, t 85], o 87 .not [t 86], o 88 .mv [t 87], g 88 false 89 .mv [t 15], g 88 false 90 .mv [t 7], g 88 false 91 (.bin .neq) [t 89, t 90], o 92 .pick [t 88, b true, t 91]])
                      (.cond (t 92) (sq (r [4] [o 4 .mv [b false]])
                        (.ret)) (.skip)))
                     (sq (r [9, 12, 13] [o 13 .mv [i 1]])
                      (sq (r [12, 13] [o 93 (.ld (some 2)) [t 9], o 94 .mv [t 13], o 95 (.call 27) [t 93, t 94], o 13 .mv [t 95]])
                       (sq (sq (r [12, 13, 97] [o 96 .mv [t 13], o 97 (.bin .lss) [t 96, i 0]])
                         (.cond (t 97) (sq (r [4] [o 4 .mv [b false]])
                           (.ret)) (.skip)))
                        (sq (sq (r [100] [o 98 .mv [t 13], o 99 .mv [t 12], o 100 (.bin .neq) [t 98, t 99]])
                          (.cond (t 100) (sq (r [4] [o 4 .mv [b false]])
                            (.ret)) (.skip)))
                         (sq (r [4] [o 4 .mv [b true]])
                          (.ret)))))))))))))))))))))))))
def r_laws_FnExactEach1 : List RV := [.tmp 4]
def laws_FnExactEach1_f (L_laws_szArray : (List Int) → (List Int) → Int → Option (Int)) (L_laws_toArray : (List Int) → (List Int) → Option (List Int × List Int)) (L_spec_Each1 : Int → (List Int) → (List Int) → Option (List Int × List Int × Int)) (L_impl_Each1 : Int → (List Int) → (List Int) → Option (List Int × List Int × Int)) (L_laws_eqArray : (List Int) → (List Int) → (List Int) → (List Int) → Option (Bool)) (L_laws_markArray : (List Int) → (List Int) → Int → Option (Int × List Int × List Int)) (L_laws_heldArray : (List Int) → (List Int) → Int → Option (Int)) (N : Nat) (a0 : Int) (a1_Shape : List Int) (a1_Data : List Int) : Option (Bool) :=
  (L_laws_szArray a1_Shape a1_Data 1048576).bind fun y0 =>
  if y0 < 0 then some true
  else ((L_laws_toArray a1_Shape a1_Data).bind fun y1 =>
   (L_spec_Each1 a0 y1.fst y1.snd).bind fun y2 =>
   (L_laws_toArray a1_Shape a1_Data).bind fun y3 =>
   (L_impl_Each1 a0 y3.fst y3.snd).bind fun y4 =>
   (L_laws_eqArray y4.fst y4.snd.fst y2.fst y2.snd.fst).bind fun y5 =>
   if y5 = false then some false
   else (if y4.snd.snd = y2.snd.snd then ((L_laws_toArray a1_Shape a1_Data).bind fun y6 =>
     (L_laws_eqArray y3.fst y3.snd y6.fst y6.snd).bind fun y7 =>
     if y7 = false then some false
     else ((L_laws_markArray y3.fst y3.snd 1).bind fun y8 =>
      if y8.fst < 0 then some false
      else ((L_laws_eqArray y4.fst y4.snd.fst y2.fst y2.snd.fst).bind fun y9 =>
       if y9 = false then some false
       else (if y4.snd.snd = y2.snd.snd then ((L_laws_markArray y4.fst y4.snd.fst 1).bind fun y10 =>
         (L_laws_heldArray y10.snd.fst y10.snd.snd 1).bind fun y11 =>
         if y11 < 0 then some false
         else (if y11 = y10.fst then ((L_laws_toArray a1_Shape a1_Data).bind fun y12 =>
           (L_impl_Each1 a0 y12.fst y12.snd).bind fun y13 =>
           (L_laws_eqArray y13.fst y13.snd.fst y2.fst y2.snd.fst).bind fun y14 =>
           if y14 = false then some false
           else (if y13.snd.snd = y2.snd.snd then ((L_laws_heldArray y10.snd.fst y10.snd.snd 1).bind fun y15 =>
             if y15 < 0 then some false
             else (if y15 = y10.fst then some true
              else some false))
            else some false))
          else some false))
        else some false))))
    else some false))
theorem laws_FnExactEach1_g (E : En) (hp : E.ps = []) (hl : E.pl = []) (hk : E.ck = []) (hr : E.rs = r_laws_FnExactEach1) (hd : E.dd = none) (hw : ∀ y, E.wk y = some (nocap y)) (hfl : ∀ e, E.Γ.fl e = flatIds e) (m_laws_szArray : E.Γ.mu 14 = false) (L_laws_szArray : (List Int) → (List Int) → Int → Option (Int)) (h_laws_szArray : ∀ (a0_Shape : List Int) (a0_Data : List Int) (a1 : Int), E.Γ 14 [.agg [.d (lstT cI a0_Shape), .d (lstT cI a0_Data)], .d (.int .i64 a1)] = (L_laws_szArray a0_Shape a0_Data a1).bind fun r => some (.ret (.d (.int .i64 r)) [])) (m_laws_toArray : E.Γ.mu 16 = false) (L_laws_toArray : (List Int) → (List Int) → Option (List Int × List Int)) (h_laws_toArray : ∀ (a0_Shape : List Int) (a0_Data : List Int), E.Γ 16 [.agg [.d (lstT cI a0_Shape), .d (lstT cI a0_Data)]] = (L_laws_toArray a0_Shape a0_Data).bind fun r => some (.ret (.agg [ownT (cI) 3 none false r.1, ownT (cI) 3 none false r.2]) [])) (m_spec_Each1 : E.Γ.mu 24 = false) (L_spec_Each1 : Int → (List Int) → (List Int) → Option (List Int × List Int × Int)) (h_spec_Each1 : ∀ (a0 : Int) (a1_Shape : List Int) (a1_Data : List Int), E.Γ 24 [.d (.int .i64 a0), .agg [.d (lstT cI a1_Shape), .d (lstT cI a1_Data)]] = (L_spec_Each1 a0 a1_Shape a1_Data).bind fun r => some (.ret (.tup [.agg [ownT (cI) 3 none false r.1, ownT (cI) 3 none false r.2.1], .d (.int .i64 r.2.2)]) [])) (m_impl_Each1 : E.Γ.mu 25 = false) (L_impl_Each1 : Int → (List Int) → (List Int) → Option (List Int × List Int × Int)) (h_impl_Each1 : ∀ (a0 : Int) (a1_Shape : List Int) (a1_Data : List Int), E.Γ 25 [.d (.int .i64 a0), .agg [.d (lstT cI a1_Shape), .d (lstT cI a1_Data)]] = (L_impl_Each1 a0 a1_Shape a1_Data).bind fun r => some (.ret (.tup [.agg [ownT (cI) 3 none false r.1, ownT (cI) 3 none false r.2.1], .d (.int .i64 r.2.2)]) [])) (m_laws_eqArray : E.Γ.mu 18 = false) (L_laws_eqArray : (List Int) → (List Int) → (List Int) → (List Int) → Option (Bool)) (h_laws_eqArray : ∀ (a0_Shape : List Int) (a0_Data : List Int) (a1_Shape : List Int) (a1_Data : List Int), E.Γ 18 [.agg [.d (lstT cI a0_Shape), .d (lstT cI a0_Data)], .agg [.d (lstT cI a1_Shape), .d (lstT cI a1_Data)]] = (L_laws_eqArray a0_Shape a0_Data a1_Shape a1_Data).bind fun r => some (.ret (.d (.bool r)) [])) (m_laws_markArray : E.Γ.mu 26 = true) (L_laws_markArray : (List Int) → (List Int) → Int → Option (Int × List Int × List Int)) (h_laws_markArray : ∀ (a0_Shape : List Int) (a0_Data : List Int) (a1 : Int), E.Γ 26 [.agg [ownT cI 3 none false a0_Shape, ownT cI 3 none false a0_Data], .d (.int .i64 a1)] = (L_laws_markArray a0_Shape a0_Data a1).bind fun r => some (.ret (.d (.int .i64 r.1)) [[lstT (cI) r.2.1], [lstT (cI) r.2.2]])) (m_laws_heldArray : E.Γ.mu 27 = false) (L_laws_heldArray : (List Int) → (List Int) → Int → Option (Int)) (h_laws_heldArray : ∀ (a0_Shape : List Int) (a0_Data : List Int) (a1 : Int), E.Γ 27 [.agg [.d (lstT cI a0_Shape), .d (lstT cI a0_Data)], .d (.int .i64 a1)] = (L_laws_heldArray a0_Shape a0_Data a1).bind fun r => some (.ret (.d (.int .i64 r)) [])) (a0 : Int) (a1_Shape : List Int) (a1_Data : List Int) : G E c_laws_FnExactEach1 [] ⟨slotsOf [(0, .d (.int .i64 a0)), (1, .agg [.d (lstT cI a1_Shape), .d (lstT cI a1_Data)])], obsOf []⟩ = (laws_FnExactEach1_f L_laws_szArray L_laws_toArray L_spec_Each1 L_impl_Each1 L_laws_eqArray L_laws_markArray L_laws_heldArray E.n a0 a1_Shape a1_Data).bind fun r => some (.ret (.d (.bool r)) []) := by
  simp (config := {maxSteps := 2000000}) only [↓rPre, rPost, rCan, rObj, rI, rS, rB, r8, rLI, rEtc, hp, hl, hk, hr, hd, hw, hfl, flatIds, oid, r_laws_FnExactEach1, ↓G_unf _ _ c_laws_FnExactEach1.eq_1, h_laws_szArray, m_laws_szArray, h_laws_toArray, m_laws_toArray, h_spec_Each1, m_spec_Each1, h_impl_Each1, m_impl_Each1, h_laws_eqArray, m_laws_eqArray, h_laws_markArray, m_laws_markArray, h_laws_heldArray, m_laws_heldArray, bind_ite, laws_FnExactEach1_f, rRow3, rFile, rRow104, rRow62, rArray, rRow27, rRow5, rRow9, ↓reduceIte, Option.some_beq_some, Nat.reduceMul, Nat.reduceAdd, Nat.reduceSub, Nat.reduceEqDiff, Nat.reduceBEq, Nat.reduceLeDiff, Nat.reduceLT, Nat.zero_add, Nat.add_zero, Bool.not_true, Bool.not_false, Bool.and_true, Bool.true_and, Bool.and_false, Bool.false_and, Bool.and_self, Bool.or_false, Bool.false_or, Bool.or_true, Bool.true_or, Bool.or_self, decide_eq_true_eq, Bool.not_eq_true', Bool.not_eq_eq_eq_not, decide_eq_false_iff_not, ite_not, ite_self, List.nil_append, List.append_nil, Option.map_some, Option.map_none, List.length_replicate, Int.natCast_nonneg, and_self, and_true, true_and, Bool.false_eq_true, decide_true, decide_false, List.cons_append, reduceCtorEq, Int.reduceAdd, Int.reduceSub, Int.reduceToNat, Int.cast_ofNat_Int, Int.reduceNeg, Int.reduceEq, Int.reduceLT, Int.reduceLE, not_true_eq_false, not_false_eq_true, eq_self]
end Go.Vm
