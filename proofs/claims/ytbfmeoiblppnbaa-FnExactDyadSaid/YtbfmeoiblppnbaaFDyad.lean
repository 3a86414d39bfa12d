/- The functions under laws_FnExactDyad: the abstract machine's codes, and what they come to in plain terms. Printed by a program of this session. -/
import Derived.Test.YtbfmeoiblppnbaaFBas
set_option linter.all false
set_option maxRecDepth 100000
set_option maxHeartbeats 4000000
namespace Go.Vm
-- loop.example/s02135/spec.l2Made
def c_spec_l2Made : Cd :=
  sq (r [0, 1, 4] [o 4 (.alloc [.nil, .nil]) [], o 5 .mv [i 0]])
  (sq (sq (r [0, 1, 4, 8] [o 6 .mv [t 0], o 7 (.call 84) [t 6], o 8 .not [t 7]])
    (.cond (t 8) (sq (r [4, 5] [o 9 (.bld [.nil, .nil] []) [], e (.st 2) [t 4, t 9], o 5 .mv [i 6]])
      (.ret)) (.skip)))
   (sq (r [4, 5] [o 10 .mv [t 0], o 11 .mv [t 1], o 12 (.bld [.nil, .nil] [(0, 1), (1, 1)]) [t 10, t 11], e (.st 2) [t 4, t 12], o 5 .mv [i 0]])
    (.ret)))
def r_spec_l2Made : List RV := [.cell 4 (some 2), .tmp 5]
def spec_l2Made_f (L_spec_l1Fits : (List Int) → Option (Bool)) (N : Nat) (a0 : List Int) (a1 : List Int) : Option (Alt (List Int × List Int) (List Int × List Int)) :=
  (L_spec_l1Fits a0).bind fun y0 =>
  if y0 = false then some ((.a ((a0, a1))))
  else some ((.b ((a0, a1))))
theorem spec_l2Made_g (E : En) (hy : Hy E [0, 64] [0, 64] [(0, .row 3 1), (64, .row 3 1)] r_spec_l2Made none (fun y => nocap y) flatIds) (L_spec_l1Fits : (List Int) → Option (Bool)) (h_spec_l1Fits : H_spec_l1Fits E L_spec_l1Fits) (a0 : List Int) (a1 : List Int) : G E c_spec_l2Made [] ⟨slotsOf [(0, .row 0 1), (1, .row 64 1)], obsOf [(0, ⟨1, rowT cI 3 none a0, false⟩), (64, ⟨1, rowT cI 3 none a1, false⟩)]⟩ = (spec_l2Made_f L_spec_l1Fits E.n a0 a1).bind fun r => r.on (fun r => some (.ret (.tup [.agg [.nil, .nil], .d (.int .i64 6)]) [[lstT (cI) r.1], [lstT (cI) r.2]])) (fun r => some (.ret (.tup [.agg [.par 0, .par 1], .d (.int .i64 0)]) [[lstT (cI) r.1], [lstT (cI) r.2]])) := by
  simp (config := {maxSteps := 2000000}) only [↓rPre, rPost, rCan, rObj, rI, rS, rB, r8, rLI, rEtc, hy.p, hy.l, hy.k, hy.r, hy.d, hy.w, hy.f, flatIds, oid, r_spec_l2Made, ↓G_unf _ _ c_spec_l2Made.eq_1, h_spec_l1Fits.2, h_spec_l1Fits.1, bind_ite, spec_l2Made_f, rFile, rRow78, rRow3, rRow53, rRow35, rArray, rRow39, rRow5, rRow9, rMap97, rLog, ↓reduceIte, Nat.reduceMul, Nat.reduceAdd, Nat.reduceSub, Nat.reduceEqDiff, Nat.reduceBEq, Nat.reduceLeDiff, Nat.reduceLT, reduceCtorEq, Int.reduceAdd, Int.reduceSub, Int.reduceToNat, Int.reduceNeg, Int.reduceEq, Int.reduceLT, Int.reduceLE]
def H_spec_l2Made (E : En) (L : (List Int) → (List Int) → Option (Alt (List Int × List Int) (List Int × List Int))) : Prop := E.Γ.mu 86 = true ∧ (∀ (a0 : List Int) (a1 : List Int), E.Γ 86 [ownT cI 3 none false a0, ownT cI 3 none false a1] = (L a0 a1).bind fun r => r.on (fun r => some (.ret (.tup [.agg [.nil, .nil], .d (.int .i64 6)]) [[lstT (cI) r.1], [lstT (cI) r.2]])) (fun r => some (.ret (.tup [.agg [.par 0, .par 1], .d (.int .i64 0)]) [[lstT (cI) r.1], [lstT (cI) r.2]])))
-- loop.example/s02135/spec.l2Reshape
def b0_spec_l2Reshape : Cd :=
  sq (sq (r [2, 3, 4, 6, 25] [o 21 .mv [t 6], o 22 (.fa 1) [t 2], o 23 (.ld none) [t 22], o 24 (.len false) [t 23], o 25 (.bin .lss) [t 21, t 24]])
   (.cond (t 25) (.skip) (.exit 0)))
  (sq (.block 1 (sq (r [2, 3, 4, 6, 33] [o 28 (.fa 1) [t 2], o 29 (.ld none) [t 28], o 30 .mv [t 6], o 31 (.ia 1) [t 29, t 30], o 32 (.ld none) [t 31], o 33 (.bin .lss) [t 32, i 0]])
     (.cond (t 33) (sq (r [4, 5] [o 34 (.bld [.nil, .nil] []) [], e (.st 2) [t 4, t 34], o 5 .mv [i 1]])
       (.ret)) (.skip))))
   (r [2, 3, 4, 6] [o 26 .mv [t 6], o 27 (.bin .add) [t 26, i 1], o 6 .mv [t 27]]))
def b1_spec_l2Reshape : Cd :=
  sq (sq (r [3, 4, 7, 9, 10, 61] [o 59 .mv [t 10], o 60 .mv [t 9], o 61 (.bin .lss) [t 59, t 60]])
   (.cond (t 61) (.skip) (.exit 2)))
  (sq (.block 3 (rd [] [3, 4, 7, 9, 10] [o 64 (.fa 1) [t 7], o 65 (.ld none) [t 64], o 66 (.fa 1) [t 3], o 67 (.ld none) [t 66], o 68 .mv [t 10], o 69 (.fa 1) [t 3], o 70 (.ld none) [t 69], o 71 (.len false) [t 70], o 72 (.bin .rem) [t 68, t 71], o 73 (.ia 1) [t 67, t 72], o 74 (.ld none) [t 73], ap [] false [7, 64] (o 75 (lit 3 1 1) [t 74]), o 76 (.app 3 1 8) [t 65, t 75], o 77 (.fa 1) [t 7], e (.st 1) [t 77, t 76]]))
   (r [3, 4, 7, 9, 10] [o 62 .mv [t 10], o 63 (.bin .add) [t 62, i 1], o 10 .mv [t 63]]))
def k2_spec_l2Reshape : Cd :=
  sq (r [4, 5] [o 78 (.ld (some 2)) [t 7], e (.st 2) [t 4, t 78], o 5 .mv [i 0]])
  (.ret)
def k3_spec_l2Reshape : Cd :=
  sq (r [3, 4, 7, 8] [o 36 (.fa 1) [t 2], o 37 (.ld none) [t 36], o 38 (.call 43) [t 37], o 39 (lit 3 1 0) [], o 40 (.call 86) [t 38, t 39], o 35 .mv [t 40], o 41 (.ext 0) [t 35], o 42 (.ext 1) [t 35], o 7 (.alloc [.nil, .nil]) [], e (.st 2) [t 7, t 41], o 8 .mv [t 42]])
  (sq (sq (r [3, 4, 7, 8, 44] [o 43 .mv [t 8], o 44 (.bin .neq) [t 43, i 0]])
    (.cond (t 44) (sq (r [4, 5] [o 45 (.ld (some 2)) [t 7], o 46 .mv [t 8], e (.st 2) [t 4, t 45], o 5 .mv [t 46]])
      (.ret)) (.skip)))
   (sq (r [3, 4, 7, 9] [o 47 (.fa 0) [t 7], o 48 (.ld none) [t 47], o 49 (.call 85) [t 48], o 9 .mv [t 49]])
    (sq (sq (r [3, 4, 7, 9, 57] [o 50 .mv [t 9], o 51 (.bin .gtr) [t 50, i 0], o 52 .mv [t 51], g 52 true 53 (.fa 1) [t 3], g 52 true 54 (.ld none) [t 53], g 52 true 55 (.len false) [t 54], g 52 true 56 (.bin .eql) [t 55, i 0], o 57 .pick [t 52, t 56, b false]])
      (.cond (t 57) (sq (r [4, 5] [o 58 (.bld [.nil, .nil] []) [], e (.st 2) [t 4, t 58], o 5 .mv [i 3]])
        (.ret)) (.skip)))
     (sq (sq (r [3, 4, 7, 9, 10] [o 10 .mv [i 0]])
       (.block 2 (.loop [3, 4, 7, 9, 10] b1_spec_l2Reshape))) k2_spec_l2Reshape))))
def c_spec_l2Reshape : Cd :=
  sq (r [2, 3, 4] [o 2 .box [t 0], o 3 .box [t 1], o 4 (.alloc [.nil, .nil]) [], o 5 .mv [i 0]])
  (sq (sq (r [2, 3, 4, 14] [o 11 (.fa 0) [t 2], o 12 (.ld none) [t 11], o 13 (.len false) [t 12], o 14 (.bin .gtr) [t 13, i 1]])
    (.cond (t 14) (sq (r [4, 5] [o 15 (.bld [.nil, .nil] []) [], e (.st 2) [t 4, t 15], o 5 .mv [i 2]])
      (.ret)) (.skip)))
   (sq (sq (r [2, 3, 4, 19] [o 16 (.fa 1) [t 2], o 17 (.ld none) [t 16], o 18 (.len false) [t 17], o 19 (.bin .gtr) [t 18, i 3]])
     (.cond (t 19) (sq (r [4, 5] [o 20 (.bld [.nil, .nil] []) [], e (.st 2) [t 4, t 20], o 5 .mv [i 6]])
       (.ret)) (.skip)))
    (sq (sq (r [2, 3, 4, 6] [o 6 .mv [i 0]])
      (.block 0 (.loop [2, 3, 4, 6] b0_spec_l2Reshape))) k3_spec_l2Reshape)))
def r_spec_l2Reshape : List RV := [.cell 4 (some 2), .tmp 5]
def spec_l2Reshape_l1 (L_spec_l2Copy : (List Int) → Option (List Int)) (L_spec_l2Made : (List Int) → (List Int) → Option (Alt (List Int × List Int) (List Int × List Int))) (L_spec_l1Product : (List Int) → Option (Int)) : Nat → Int → Int → (List Int) → (List Int) → (List Int) → (List Int) → Option (List Int × List Int × Int)
  | 0, _, _, _, _, _, _ => none
  | m1 + 1, x9, x10, o192_0, o192_1, o449, o450 =>
    if x10 < x9 then (if (↑(List.length o192_1) : Int) = 0 then none
     else ((idx o192_1 (Int.tmod x10 (↑(List.length o192_1) : Int))).bind fun y0 =>
      if room 8 (List.length (o450 ++ [y0])) then spec_l2Reshape_l1 L_spec_l2Copy L_spec_l2Made L_spec_l1Product m1 x9 (w64 (x10 + 1)) o192_0 o192_1 o449 (o450 ++ [y0])
      else none))
    else some ((o449, o450, 0))
def spec_l2Reshape_l0 (L_spec_l2Copy : (List Int) → Option (List Int)) (L_spec_l2Made : (List Int) → (List Int) → Option (Alt (List Int × List Int) (List Int × List Int))) (L_spec_l1Product : (List Int) → Option (Int)) (N : Nat) : Nat → Int → (List Int) → (List Int) → (List Int) → (List Int) → Option (List Int × List Int × Int)
  | 0, _, _, _, _, _ => none
  | m0 + 1, x6, o128_0, o128_1, o192_0, o192_1 =>
    if x6 < (↑(List.length o128_1) : Int) then ((idx o128_1 x6).bind fun y0 =>
     if y0 < 0 then some (([], [], 1))
     else spec_l2Reshape_l0 L_spec_l2Copy L_spec_l2Made L_spec_l1Product N m0 (w64 (x6 + 1)) o128_0 o128_1 o192_0 o192_1)
    else ((L_spec_l2Copy o128_1).bind fun y1 =>
     (L_spec_l2Made y1 []).bind fun y2 =>
     (y2).on (fun y3 => some (([], [], 6))) (fun y3 => (L_spec_l1Product y3.fst).bind fun y4 =>
      if 0 < y4 then (if (↑(List.length o192_1) : Int) = 0 then some (([], [], 3))
       else spec_l2Reshape_l1 L_spec_l2Copy L_spec_l2Made L_spec_l1Product N y4 0 o192_0 o192_1 y3.fst y3.snd)
      else spec_l2Reshape_l1 L_spec_l2Copy L_spec_l2Made L_spec_l1Product N y4 0 o192_0 o192_1 y3.fst y3.snd))
def spec_l2Reshape_f (L_spec_l2Copy : (List Int) → Option (List Int)) (L_spec_l2Made : (List Int) → (List Int) → Option (Alt (List Int × List Int) (List Int × List Int))) (L_spec_l1Product : (List Int) → Option (Int)) (N : Nat) (a0_Shape : List Int) (a0_Data : List Int) (a1_Shape : List Int) (a1_Data : List Int) : Option (List Int × List Int × Int) :=
  if 1 < (↑(List.length a0_Shape) : Int) then some (([], [], 2))
  else (if 3 < (↑(List.length a0_Data) : Int) then some (([], [], 6))
   else spec_l2Reshape_l0 L_spec_l2Copy L_spec_l2Made L_spec_l1Product N N 0 a0_Shape a0_Data a1_Shape a1_Data)
theorem spec_l2Reshape_l1_eq (E : En) (hy : Hy E [] [] [] r_spec_l2Reshape none (fun y => nocap (asOwn (.node [.node [.own 3 1, .own 3 1], .k]) y)) flatIds) (L_spec_l2Copy : (List Int) → Option (List Int)) (h_spec_l2Copy : H_spec_l2Copy E L_spec_l2Copy) (L_spec_l2Made : (List Int) → (List Int) → Option (Alt (List Int × List Int) (List Int × List Int))) (h_spec_l2Made : H_spec_l2Made E L_spec_l2Made) (L_spec_l1Product : (List Int) → Option (Int)) (h_spec_l1Product : H_spec_l1Product E L_spec_l1Product) : ∀ (m1 : Nat) (x9 : Int) (x10 : Int) (o192_0 : List Int) (o192_1 : List Int) (o449 : List Int) (o450 : List Int), gH E [3, 4, 7, 9, 10] b1_spec_l2Reshape [KJ.b 2, KJ.c k2_spec_l2Reshape] m1 ⟨slotsOf [(3, A.adr 192 1 0), (4, A.adr 256 1 0), (7, A.adr 448 1 0), (9, .d (.int .i64 x9)), (10, .d (.int .i64 x10))], obsOf [(192, ⟨1, .box [.d (lstT (cI) o192_0), .d (lstT (cI) o192_1)], false⟩), (256, ⟨1, .box [A.nil, A.nil], false⟩), (448, ⟨1, .box [A.row 449 1, A.row 450 1], false⟩), (449, ⟨1, rowT (cI) 3 none o449, false⟩), (450, ⟨1, rowT (cI) 3 none o450, false⟩)]⟩ = (spec_l2Reshape_l1 L_spec_l2Copy L_spec_l2Made L_spec_l1Product m1 x9 x10 o192_0 o192_1 o449 o450).bind fun r => some (.ret (.tup [.agg [ownT (cI) 3 none false r.1, ownT (cI) 3 none false r.2.1], .d (.int .i64 r.2.2)]) []) := by
  intro m1
  induction m1 with
  | zero => intros; rfl
  | succ m1 ih =>
    intros
    simp (config := {maxSteps := 2000000}) only [↓rPre, rPost, rCan, rObj, rI, rS, rB, r8, rLI, rEtc, hy.p, hy.l, hy.k, hy.r, hy.d, hy.w, hy.f, flatIds, oid, r_spec_l2Reshape, ↓G_unf _ _ b0_spec_l2Reshape.eq_1, ↓G_unf _ _ b1_spec_l2Reshape.eq_1, ↓G_unf _ _ k2_spec_l2Reshape.eq_1, ↓G_unf _ _ k3_spec_l2Reshape.eq_1, ↓G_unf _ _ c_spec_l2Reshape.eq_1, h_spec_l2Copy.2, h_spec_l2Copy.1, h_spec_l2Made.2, h_spec_l2Made.1, h_spec_l1Product.2, h_spec_l1Product.1, gH_succ, ih, bind_ite, spec_l2Reshape_l1, rFile, rRow78, rRow3, rRow53, rRow35, rArray, rRow39, rRow5, rRow9, rMap97, rLog, ↓reduceIte, Nat.reduceMul, Nat.reduceAdd, Nat.reduceSub, Nat.reduceEqDiff, Nat.reduceBEq, Nat.reduceLeDiff, Nat.reduceLT, reduceCtorEq, Int.reduceAdd, Int.reduceSub, Int.reduceToNat, Int.reduceNeg, Int.reduceEq, Int.reduceLT, Int.reduceLE]
theorem spec_l2Reshape_l0_eq (E : En) (hy : Hy E [] [] [] r_spec_l2Reshape none (fun y => nocap (asOwn (.node [.node [.own 3 1, .own 3 1], .k]) y)) flatIds) (L_spec_l2Copy : (List Int) → Option (List Int)) (h_spec_l2Copy : H_spec_l2Copy E L_spec_l2Copy) (L_spec_l2Made : (List Int) → (List Int) → Option (Alt (List Int × List Int) (List Int × List Int))) (h_spec_l2Made : H_spec_l2Made E L_spec_l2Made) (L_spec_l1Product : (List Int) → Option (Int)) (h_spec_l1Product : H_spec_l1Product E L_spec_l1Product) : ∀ (m0 : Nat) (x6 : Int) (o128_0 : List Int) (o128_1 : List Int) (o192_0 : List Int) (o192_1 : List Int), gH E [2, 3, 4, 6] b0_spec_l2Reshape [KJ.b 0, KJ.c k3_spec_l2Reshape] m0 ⟨slotsOf [(2, A.adr 128 1 0), (3, A.adr 192 1 0), (4, A.adr 256 1 0), (6, .d (.int .i64 x6))], obsOf [(128, ⟨1, .box [.d (lstT (cI) o128_0), .d (lstT (cI) o128_1)], false⟩), (192, ⟨1, .box [.d (lstT (cI) o192_0), .d (lstT (cI) o192_1)], false⟩), (256, ⟨1, .box [A.nil, A.nil], false⟩)]⟩ = (spec_l2Reshape_l0 L_spec_l2Copy L_spec_l2Made L_spec_l1Product E.n m0 x6 o128_0 o128_1 o192_0 o192_1).bind fun r => some (.ret (.tup [.agg [ownT (cI) 3 none false r.1, ownT (cI) 3 none false r.2.1], .d (.int .i64 r.2.2)]) []) := by
  intro m0
  induction m0 with
  | zero => intros; rfl
  | succ m0 ih =>
    intros
    simp (config := {maxSteps := 2000000}) only [↓rPre, rPost, rCan, rObj, rI, rS, rB, r8, rLI, rEtc, hy.p, hy.l, hy.k, hy.r, hy.d, hy.w, hy.f, flatIds, oid, r_spec_l2Reshape, ↓G_unf _ _ b0_spec_l2Reshape.eq_1, ↓G_unf _ _ b1_spec_l2Reshape.eq_1, ↓G_unf _ _ k2_spec_l2Reshape.eq_1, ↓G_unf _ _ k3_spec_l2Reshape.eq_1, ↓G_unf _ _ c_spec_l2Reshape.eq_1, h_spec_l2Copy.2, h_spec_l2Copy.1, h_spec_l2Made.2, h_spec_l2Made.1, h_spec_l1Product.2, h_spec_l1Product.1, gH_succ, ih, bind_ite, spec_l2Reshape_l0, spec_l2Reshape_l1_eq E hy L_spec_l2Copy h_spec_l2Copy L_spec_l2Made h_spec_l2Made L_spec_l1Product h_spec_l1Product, rFile, rRow78, rRow3, rRow53, rRow35, rArray, rRow39, rRow5, rRow9, rMap97, rLog, ↓reduceIte, Nat.reduceMul, Nat.reduceAdd, Nat.reduceSub, Nat.reduceEqDiff, Nat.reduceBEq, Nat.reduceLeDiff, Nat.reduceLT, reduceCtorEq, Int.reduceAdd, Int.reduceSub, Int.reduceToNat, Int.reduceNeg, Int.reduceEq, Int.reduceLT, Int.reduceLE]
theorem spec_l2Reshape_g (E : En) (hy : Hy E [] [] [] r_spec_l2Reshape none (fun y => nocap (asOwn (.node [.node [.own 3 1, .own 3 1], .k]) y)) flatIds) (L_spec_l2Copy : (List Int) → Option (List Int)) (h_spec_l2Copy : H_spec_l2Copy E L_spec_l2Copy) (L_spec_l2Made : (List Int) → (List Int) → Option (Alt (List Int × List Int) (List Int × List Int))) (h_spec_l2Made : H_spec_l2Made E L_spec_l2Made) (L_spec_l1Product : (List Int) → Option (Int)) (h_spec_l1Product : H_spec_l1Product E L_spec_l1Product) (a0_Shape : List Int) (a0_Data : List Int) (a1_Shape : List Int) (a1_Data : List Int) : G E c_spec_l2Reshape [] ⟨slotsOf [(0, .agg [.d (lstT cI a0_Shape), .d (lstT cI a0_Data)]), (1, .agg [.d (lstT cI a1_Shape), .d (lstT cI a1_Data)])], obsOf []⟩ = (spec_l2Reshape_f L_spec_l2Copy L_spec_l2Made L_spec_l1Product E.n a0_Shape a0_Data a1_Shape a1_Data).bind fun r => some (.ret (.tup [.agg [ownT (cI) 3 none false r.1, ownT (cI) 3 none false r.2.1], .d (.int .i64 r.2.2)]) []) := by
  simp (config := {maxSteps := 2000000}) only [↓rPre, rPost, rCan, rObj, rI, rS, rB, r8, rLI, rEtc, hy.p, hy.l, hy.k, hy.r, hy.d, hy.w, hy.f, flatIds, oid, r_spec_l2Reshape, ↓G_unf _ _ b0_spec_l2Reshape.eq_1, ↓G_unf _ _ b1_spec_l2Reshape.eq_1, ↓G_unf _ _ k2_spec_l2Reshape.eq_1, ↓G_unf _ _ k3_spec_l2Reshape.eq_1, ↓G_unf _ _ c_spec_l2Reshape.eq_1, h_spec_l2Copy.2, h_spec_l2Copy.1, h_spec_l2Made.2, h_spec_l2Made.1, h_spec_l1Product.2, h_spec_l1Product.1, bind_ite, spec_l2Reshape_f, spec_l2Reshape_l0_eq E hy L_spec_l2Copy h_spec_l2Copy L_spec_l2Made h_spec_l2Made L_spec_l1Product h_spec_l1Product, rFile, rRow78, rRow3, rRow53, rRow35, rArray, rRow39, rRow5, rRow9, rMap97, rLog, ↓reduceIte, Nat.reduceMul, Nat.reduceAdd, Nat.reduceSub, Nat.reduceEqDiff, Nat.reduceBEq, Nat.reduceLeDiff, Nat.reduceLT, reduceCtorEq, Int.reduceAdd, Int.reduceSub, Int.reduceToNat, Int.reduceNeg, Int.reduceEq, Int.reduceLT, Int.reduceLE]
def H_spec_l2Reshape (E : En) (L : (List Int) → (List Int) → (List Int) → (List Int) → Option (List Int × List Int × Int)) : Prop := E.Γ.mu 37 = false ∧ (∀ (a0_Shape : List Int) (a0_Data : List Int) (a1_Shape : List Int) (a1_Data : List Int), E.Γ 37 [.agg [.d (lstT cI a0_Shape), .d (lstT cI a0_Data)], .agg [.d (lstT cI a1_Shape), .d (lstT cI a1_Data)]] = (L a0_Shape a0_Data a1_Shape a1_Data).bind fun r => some (.ret (.tup [.agg [ownT (cI) 3 none false r.1, ownT (cI) 3 none false r.2.1], .d (.int .i64 r.2.2)]) []))
-- loop.example/s02135/spec.l2Vector
def c_spec_l2Vector : Cd :=
  sq (r [0, 2] [o 2 (.alloc [.nil, .nil]) []])
  (sq (r [2] [o 3 .mv [t 0], o 4 (.len false) [t 3], o 5 (lit 3 1 1) [t 4], o 6 .mv [t 0], o 7 (.call 43) [t 6], o 8 (.bld [.nil, .nil] [(0, 1), (1, 1)]) [t 5, t 7], e (.st 2) [t 2, t 8]])
   (.ret))
def r_spec_l2Vector : List RV := [.cell 2 (some 2)]
def spec_l2Vector_f (L_spec_l2Copy : (List Int) → Option (List Int)) (N : Nat) (a0 : List Int) : Option (List Int × List Int) :=
  (L_spec_l2Copy a0).bind fun y0 =>
  some (([(↑(List.length a0) : Int)], y0))
theorem spec_l2Vector_g (E : En) (hy : Hy E [] [] [] r_spec_l2Vector none (fun y => nocap y) flatIds) (L_spec_l2Copy : (List Int) → Option (List Int)) (h_spec_l2Copy : H_spec_l2Copy E L_spec_l2Copy) (a0 : List Int) : G E c_spec_l2Vector [] ⟨slotsOf [(0, .d (lstT cI a0))], obsOf []⟩ = (spec_l2Vector_f L_spec_l2Copy E.n a0).bind fun r => some (.ret (.agg [ownT (cI) 3 none false r.1, ownT (cI) 3 none false r.2]) []) := by
  simp (config := {maxSteps := 2000000}) only [↓rPre, rPost, rCan, rObj, rI, rS, rB, r8, rLI, rEtc, hy.p, hy.l, hy.k, hy.r, hy.d, hy.w, hy.f, flatIds, oid, r_spec_l2Vector, ↓G_unf _ _ c_spec_l2Vector.eq_1, h_spec_l2Copy.2, h_spec_l2Copy.1, bind_ite, spec_l2Vector_f, rFile, rRow78, rRow3, rRow53, rRow35, rArray, rRow39, rRow5, rRow9, rMap97, rLog, ↓reduceIte, Nat.reduceMul, Nat.reduceAdd, Nat.reduceSub, Nat.reduceEqDiff, Nat.reduceBEq, Nat.reduceLeDiff, Nat.reduceLT, reduceCtorEq, Int.reduceAdd, Int.reduceSub, Int.reduceToNat, Int.reduceNeg, Int.reduceEq, Int.reduceLT, Int.reduceLE]
def H_spec_l2Vector (E : En) (L : (List Int) → Option (List Int × List Int)) : Prop := E.Γ.mu 62 = false ∧ (∀ (a0 : List Int), E.Γ 62 [.d (lstT cI a0)] = (L a0).bind fun r => some (.ret (.agg [ownT (cI) 3 none false r.1, ownT (cI) 3 none false r.2]) []))
-- loop.example/s02135/spec.l2Axes
def c_spec_l2Axes : Cd :=
  sq (r [1, 2] [o 1 .box [t 0], o 2 (.alloc [.nil, .nil]) []])
  (sq (sq (r [1, 2, 6] [o 3 (.fa 0) [t 1], o 4 (.ld none) [t 3], o 5 (.len false) [t 4], o 6 (.bin .eql) [t 5, i 0]])
    (.cond (t 6) (sq (r [2] [o 7 (.fa 1) [t 1], o 8 (.ld none) [t 7], o 9 (.call 62) [t 8], e (.st 2) [t 2, t 9]])
      (.ret)) (.skip)))
   (sq (r [2] [o 10 (.ld (some 2)) [t 1], e (.st 2) [t 2, t 10]])
    (.ret)))
def r_spec_l2Axes : List RV := [.cell 2 (some 2)]
def spec_l2Axes_f (L_spec_l2Vector : (List Int) → Option (List Int × List Int)) (N : Nat) (a0_Shape : List Int) (a0_Data : List Int) : Option (Alt (List Int × List Int) (List Int × List Int)) :=
  if (↑(List.length a0_Shape) : Int) = 0 then ((L_spec_l2Vector a0_Data).bind fun y0 =>
   some ((.a ((y0.fst, y0.snd)))))
  else some ((.b ((a0_Shape, a0_Data))))
theorem spec_l2Axes_g (E : En) (hy : Hy E [] [] [] r_spec_l2Axes none (fun y => nocap y) flatIds) (L_spec_l2Vector : (List Int) → Option (List Int × List Int)) (h_spec_l2Vector : H_spec_l2Vector E L_spec_l2Vector) (a0_Shape : List Int) (a0_Data : List Int) : G E c_spec_l2Axes [] ⟨slotsOf [(0, .agg [.d (lstT cI a0_Shape), .d (lstT cI a0_Data)])], obsOf []⟩ = (spec_l2Axes_f L_spec_l2Vector E.n a0_Shape a0_Data).bind fun r => r.on (fun r => some (.ret (.agg [ownT (cI) 3 none false r.1, ownT (cI) 3 none false r.2]) [])) (fun r => some (.ret (.agg [.d (lstT (cI) r.1), .d (lstT (cI) r.2)]) [])) := by
  simp (config := {maxSteps := 2000000}) only [↓rPre, rPost, rCan, rObj, rI, rS, rB, r8, rLI, rEtc, hy.p, hy.l, hy.k, hy.r, hy.d, hy.w, hy.f, flatIds, oid, r_spec_l2Axes, ↓G_unf _ _ c_spec_l2Axes.eq_1, h_spec_l2Vector.2, h_spec_l2Vector.1, bind_ite, spec_l2Axes_f, rFile, rRow78, rRow3, rRow53, rRow35, rArray, rRow39, rRow5, rRow9, rMap97, rLog, ↓reduceIte, Nat.reduceMul, Nat.reduceAdd, Nat.reduceSub, Nat.reduceEqDiff, Nat.reduceBEq, Nat.reduceLeDiff, Nat.reduceLT, reduceCtorEq, Int.reduceAdd, Int.reduceSub, Int.reduceToNat, Int.reduceNeg, Int.reduceEq, Int.reduceLT, Int.reduceLE]
def H_spec_l2Axes (E : En) (L : (List Int) → (List Int) → Option (Alt (List Int × List Int) (List Int × List Int))) : Prop := E.Γ.mu 87 = false ∧ (∀ (a0_Shape : List Int) (a0_Data : List Int), E.Γ 87 [.agg [.d (lstT cI a0_Shape), .d (lstT cI a0_Data)]] = (L a0_Shape a0_Data).bind fun r => r.on (fun r => some (.ret (.agg [ownT (cI) 3 none false r.1, ownT (cI) 3 none false r.2]) [])) (fun r => some (.ret (.agg [.d (lstT (cI) r.1), .d (lstT (cI) r.2)]) [])))
-- loop.example/s02135/spec.l2Row
def c_spec_l2Row : Cd :=
  sq (r [1, 2, 4] [o 2 .box [t 0], o 4 (.alloc [.nil, .nil]) []])
  (sq (.frz 2 (r [1, 2, 4, 5] [o 7 (.fa 0) [t 2], o 8 (.ld none) [t 7], o 9 (.slc false 1 true false) [t 8, i 1], o 10 (.call 43) [t 9], o 5 .mv [t 10]]))
   (sq (r [1, 2, 4, 5, 6] [o 11 .mv [t 5], o 12 (.call 85) [t 11], o 6 .mv [t 12]])
    (sq (.frz 2 (r [4] [o 13 .mv [t 5], o 14 (.fa 1) [t 2], o 15 (.ld none) [t 14], o 16 .mv [t 1], o 17 .mv [t 6], o 18 (.bin .mul) [t 16, t 17], o 19 .mv [t 1], o 20 .mv [t 6], o 21 (.bin .mul) [t 19, t 20], o 22 .mv [t 6], o 23 (.bin .add) [t 21, t 22], o 24 (.slc false 1 true true) [t 15, t 18, t 23], o 25 (.call 43) [t 24], o 26 (.bld [.nil, .nil] [(0, 1), (1, 1)]) [t 13, t 25], e (.st 2) [t 4, t 26]]))
     (.ret))))
def r_spec_l2Row : List RV := [.cell 4 (some 2)]
def spec_l2Row_f (L_spec_l2Copy : (List Int) → Option (List Int)) (L_spec_l1Product : (List Int) → Option (Int)) (N : Nat) (a0_Shape : List Int) (a0_Data : List Int) (a1 : Int) : Option (List Int × List Int) :=
  (cut a0_Shape 1 (↑(List.length a0_Shape) : Int)).bind fun y0 =>
  (L_spec_l2Copy y0).bind fun y1 =>
  (L_spec_l1Product y1).bind fun y2 =>
  (cut a0_Data (w64 (a1 * y2)) (w64 (w64 (a1 * y2) + y2))).bind fun y3 =>
  (L_spec_l2Copy y3).bind fun y4 =>
  some ((y1, y4))
theorem spec_l2Row_g (E : En) (hy : Hy E [] [] [] r_spec_l2Row none (fun y => nocap y) flatIds) (L_spec_l2Copy : (List Int) → Option (List Int)) (h_spec_l2Copy : H_spec_l2Copy E L_spec_l2Copy) (L_spec_l1Product : (List Int) → Option (Int)) (h_spec_l1Product : H_spec_l1Product E L_spec_l1Product) (a0_Shape : List Int) (a0_Data : List Int) (a1 : Int) : G E c_spec_l2Row [] ⟨slotsOf [(0, .agg [.d (lstT cI a0_Shape), .d (lstT cI a0_Data)]), (1, .d (.int .i64 a1))], obsOf []⟩ = (spec_l2Row_f L_spec_l2Copy L_spec_l1Product E.n a0_Shape a0_Data a1).bind fun r => some (.ret (.agg [ownT (cI) 3 none false r.1, ownT (cI) 3 none false r.2]) []) := by
  simp (config := {maxSteps := 2000000}) only [↓rPre, rPost, rCan, rObj, rI, rS, rB, r8, rLI, rEtc, hy.p, hy.l, hy.k, hy.r, hy.d, hy.w, hy.f, flatIds, oid, r_spec_l2Row, ↓G_unf _ _ c_spec_l2Row.eq_1, h_spec_l2Copy.2, h_spec_l2Copy.1, h_spec_l1Product.2, h_spec_l1Product.1, bind_ite, spec_l2Row_f, rFile, rRow78, rRow3, rRow53, rRow35, rArray, rRow39, rRow5, rRow9, rMap97, rLog, ↓reduceIte, Nat.reduceMul, Nat.reduceAdd, Nat.reduceSub, Nat.reduceEqDiff, Nat.reduceBEq, Nat.reduceLeDiff, Nat.reduceLT, reduceCtorEq, Int.reduceAdd, Int.reduceSub, Int.reduceToNat, Int.reduceNeg, Int.reduceEq, Int.reduceLT, Int.reduceLE]
def H_spec_l2Row (E : En) (L : (List Int) → (List Int) → Int → Option (List Int × List Int)) : Prop := E.Γ.mu 89 = false ∧ (∀ (a0_Shape : List Int) (a0_Data : List Int) (a1 : Int), E.Γ 89 [.agg [.d (lstT cI a0_Shape), .d (lstT cI a0_Data)], .d (.int .i64 a1)] = (L a0_Shape a0_Data a1).bind fun r => some (.ret (.agg [ownT (cI) 3 none false r.1, ownT (cI) 3 none false r.2]) []))
-- loop.example/s02135/spec.l2Wide
def b0_spec_l2Wide : Cd :=
  sq (sq (r [1, 2, 4, 5, 6, 14] [o 11 .mv [t 6], o 12 .mv [t 1], o 13 (.call 85) [t 12], o 14 (.bin .lss) [t 11, t 13]])
   (.cond (t 14) (.skip) (.exit 0)))
  (sq (.block 1 (rd [] [1, 2, 4, 5, 6] [o 17 (.fa 1) [t 5], o 18 (.ld none) [t 17], o 19 (.fa 1) [t 2], o 20 (.ld none) [t 19], o 21 (.ia 1) [t 20, i 0], o 22 (.ld none) [t 21], ap [] false [5, 17] (o 23 (lit 3 1 1) [t 22]), o 24 (.app 3 1 8) [t 18, t 23], o 25 (.fa 1) [t 5], e (.st 1) [t 25, t 24]]))
   (r [1, 2, 4, 5, 6] [o 15 .mv [t 6], o 16 (.bin .add) [t 15, i 1], o 6 .mv [t 16]]))
def k1_spec_l2Wide : Cd :=
  sq (r [4] [o 26 (.ld (some 2)) [t 5], e (.st 2) [t 4, t 26]])
  (.ret)
def c_spec_l2Wide : Cd :=
  sq (r [1, 2, 4] [o 2 .box [t 0], o 4 (.alloc [.nil, .nil]) []])
  (sq (r [1, 2, 4, 5] [o 7 .mv [t 1], o 8 (.call 43) [t 7], o 9 (lit 3 1 0) [], o 10 (.bld [.nil, .nil] [(0, 1), (1, 1)]) [t 8, t 9], o 5 (.alloc [.nil, .nil]) [], e (.st 2) [t 5, t 10]])
   (sq (sq (r [1, 2, 4, 5, 6] [o 6 .mv [i 0]])
     (.block 0 (.loop [1, 2, 4, 5, 6] b0_spec_l2Wide))) k1_spec_l2Wide))
def r_spec_l2Wide : List RV := [.cell 4 (some 2)]
def spec_l2Wide_l0 (L_spec_l2Copy : (List Int) → Option (List Int)) (L_spec_l1Product : (List Int) → Option (Int)) : Nat → (List Int) → Int → (List Int) → (List Int) → (List Int) → (List Int) → Option (List Int × List Int)
  | 0, _, _, _, _, _, _ => none
  | m0 + 1, x1, x6, o128_0, o128_1, o321, o322 =>
    (L_spec_l1Product x1).bind fun y0 =>
    if x6 < y0 then ((idx o128_1 0).bind fun y1 =>
     if room 8 (List.length (o322 ++ [y1])) then spec_l2Wide_l0 L_spec_l2Copy L_spec_l1Product m0 x1 (w64 (x6 + 1)) o128_0 o128_1 o321 (o322 ++ [y1])
     else none)
    else some ((o321, o322))
def spec_l2Wide_f (L_spec_l2Copy : (List Int) → Option (List Int)) (L_spec_l1Product : (List Int) → Option (Int)) (N : Nat) (a0_Shape : List Int) (a0_Data : List Int) (a1 : List Int) : Option (List Int × List Int) :=
  (L_spec_l2Copy a1).bind fun y0 =>
  spec_l2Wide_l0 L_spec_l2Copy L_spec_l1Product N a1 0 a0_Shape a0_Data y0 []
theorem spec_l2Wide_l0_eq (E : En) (hy : Hy E [] [] [] r_spec_l2Wide none (fun y => nocap y) flatIds) (L_spec_l2Copy : (List Int) → Option (List Int)) (h_spec_l2Copy : H_spec_l2Copy E L_spec_l2Copy) (L_spec_l1Product : (List Int) → Option (Int)) (h_spec_l1Product : H_spec_l1Product E L_spec_l1Product) : ∀ (m0 : Nat) (x1 : List Int) (x6 : Int) (o128_0 : List Int) (o128_1 : List Int) (o321 : List Int) (o322 : List Int), gH E [1, 2, 4, 5, 6] b0_spec_l2Wide [KJ.b 0, KJ.c k1_spec_l2Wide] m0 ⟨slotsOf [(1, .d (lstT (cI) x1)), (2, A.adr 128 1 0), (4, A.adr 256 1 0), (5, A.adr 320 1 0), (6, .d (.int .i64 x6))], obsOf [(128, ⟨1, .box [.d (lstT (cI) o128_0), .d (lstT (cI) o128_1)], false⟩), (256, ⟨1, .box [A.nil, A.nil], false⟩), (320, ⟨1, .box [A.row 321 1, A.row 322 1], false⟩), (321, ⟨1, rowT (cI) 3 none o321, false⟩), (322, ⟨1, rowT (cI) 3 none o322, false⟩)]⟩ = (spec_l2Wide_l0 L_spec_l2Copy L_spec_l1Product m0 x1 x6 o128_0 o128_1 o321 o322).bind fun r => some (.ret (.agg [ownT (cI) 3 none false r.1, ownT (cI) 3 none false r.2]) []) := by
  intro m0
  induction m0 with
  | zero => intros; rfl
  | succ m0 ih =>
    intros
    simp (config := {maxSteps := 2000000}) only [↓rPre, rPost, rCan, rObj, rI, rS, rB, r8, rLI, rEtc, hy.p, hy.l, hy.k, hy.r, hy.d, hy.w, hy.f, flatIds, oid, r_spec_l2Wide, ↓G_unf _ _ b0_spec_l2Wide.eq_1, ↓G_unf _ _ k1_spec_l2Wide.eq_1, ↓G_unf _ _ c_spec_l2Wide.eq_1, h_spec_l2Copy.2, h_spec_l2Copy.1, h_spec_l1Product.2, h_spec_l1Product.1, gH_succ, ih, bind_ite, spec_l2Wide_l0, rFile, rRow78, rRow3, rRow53, rRow35, rArray, rRow39, rRow5, rRow9, rMap97, rLog, ↓reduceIte, Nat.reduceMul, Nat.reduceAdd, Nat.reduceSub, Nat.reduceEqDiff, Nat.reduceBEq, Nat.reduceLeDiff, Nat.reduceLT, reduceCtorEq, Int.reduceAdd, Int.reduceSub, Int.reduceToNat, Int.reduceNeg, Int.reduceEq, Int.reduceLT, Int.reduceLE]
theorem spec_l2Wide_g (E : En) (hy : Hy E [] [] [] r_spec_l2Wide none (fun y => nocap y) flatIds) (L_spec_l2Copy : (List Int) → Option (List Int)) (h_spec_l2Copy : H_spec_l2Copy E L_spec_l2Copy) (L_spec_l1Product : (List Int) → Option (Int)) (h_spec_l1Product : H_spec_l1Product E L_spec_l1Product) (a0_Shape : List Int) (a0_Data : List Int) (a1 : List Int) : G E c_spec_l2Wide [] ⟨slotsOf [(0, .agg [.d (lstT cI a0_Shape), .d (lstT cI a0_Data)]), (1, .d (lstT cI a1))], obsOf []⟩ = (spec_l2Wide_f L_spec_l2Copy L_spec_l1Product E.n a0_Shape a0_Data a1).bind fun r => some (.ret (.agg [ownT (cI) 3 none false r.1, ownT (cI) 3 none false r.2]) []) := by
  simp (config := {maxSteps := 2000000}) only [↓rPre, rPost, rCan, rObj, rI, rS, rB, r8, rLI, rEtc, hy.p, hy.l, hy.k, hy.r, hy.d, hy.w, hy.f, flatIds, oid, r_spec_l2Wide, ↓G_unf _ _ b0_spec_l2Wide.eq_1, ↓G_unf _ _ k1_spec_l2Wide.eq_1, ↓G_unf _ _ c_spec_l2Wide.eq_1, h_spec_l2Copy.2, h_spec_l2Copy.1, h_spec_l1Product.2, h_spec_l1Product.1, bind_ite, spec_l2Wide_f, spec_l2Wide_l0_eq E hy L_spec_l2Copy h_spec_l2Copy L_spec_l1Product h_spec_l1Product, rFile, rRow78, rRow3, rRow53, rRow35, rArray, rRow39, rRow5, rRow9, rMap97, rLog, ↓reduceIte, Nat.reduceMul, Nat.reduceAdd, Nat.reduceSub, Nat.reduceEqDiff, Nat.reduceBEq, Nat.reduceLeDiff, Nat.reduceLT, reduceCtorEq, Int.reduceAdd, Int.reduceSub, Int.reduceToNat, Int.reduceNeg, Int.reduceEq, Int.reduceLT, Int.reduceLE]
def H_spec_l2Wide (E : En) (L : (List Int) → (List Int) → (List Int) → Option (List Int × List Int)) : Prop := E.Γ.mu 109 = false ∧ (∀ (a0_Shape : List Int) (a0_Data : List Int) (a1 : List Int), E.Γ 109 [.agg [.d (lstT cI a0_Shape), .d (lstT cI a0_Data)], .d (lstT cI a1)] = (L a0_Shape a0_Data a1).bind fun r => some (.ret (.agg [ownT (cI) 3 none false r.1, ownT (cI) 3 none false r.2]) []))
-- loop.example/s02135/spec.l2Stack
def b0_spec_l2Stack : Cd :=
  sq (sq (r [0, 1, 4, 6, 7, 12] [o 9 .mv [t 7], o 10 .mv [t 1], o 11 (.len false) [t 10], o 12 (.bin .lss) [t 9, t 11]])
   (.cond (t 12) (.skip) (.exit 0)))
  (sq (.block 1 (r [0, 1, 4, 6, 7] [o 15 .mv [t 6], o 16 .mv [t 1], o 17 .mv [t 7], o 18 (.ia 2) [t 16, t 17], o 19 (.fa 1) [t 18], o 20 (.ld none) [t 19], o 21 (.app 3 1 8) [t 15, t 20], o 6 .mv [t 21]]))
   (r [0, 1, 4, 6, 7] [o 13 .mv [t 7], o 14 (.bin .add) [t 13, i 1], o 7 .mv [t 14]]))
def k1_spec_l2Stack : Cd :=
  sq (r [4, 5] [o 22 .mv [t 1], o 23 (.len false) [t 22], o 24 (lit 3 1 1) [t 23], o 25 .mv [t 0], o 26 (.app 3 1 8) [t 24, t 25], o 27 .mv [t 6], o 28 (.call 86) [t 26, t 27], o 29 (.ext 0) [t 28], o 30 (.ext 1) [t 28], e (.st 2) [t 4, t 29], o 5 .mv [t 30]])
  (.ret)
def c_spec_l2Stack : Cd :=
  sq (r [0, 1, 4] [o 4 (.alloc [.nil, .nil]) [], o 5 .mv [i 0]])
  (sq (r [0, 1, 4, 6] [o 8 (lit 3 1 0) [], o 6 .mv [t 8]])
   (sq (sq (r [0, 1, 4, 6, 7] [o 7 .mv [i 0]])
     (.block 0 (.loop [0, 1, 4, 6, 7] b0_spec_l2Stack))) k1_spec_l2Stack))
def r_spec_l2Stack : List RV := [.cell 4 (some 2), .tmp 5]
def spec_l2Stack_l0 (L_spec_l2Made : (List Int) → (List Int) → Option (Alt (List Int × List Int) (List Int × List Int))) : Nat → (List Int) → (List TArray) → Int → (List Int) → Option (List Int × List Int × Int)
  | 0, _, _, _, _ => none
  | m0 + 1, x0, x1, x7, o384 =>
    if x7 < (↑(List.length x1) : Int) then ((idx x1 x7).bind fun y0 =>
     if room 8 (List.length (o384 ++ y0.Data)) then spec_l2Stack_l0 L_spec_l2Made m0 x0 x1 (w64 (x7 + 1)) (o384 ++ y0.Data)
     else none)
    else (if room 8 (List.length x0 + 1) then ((L_spec_l2Made ((↑(List.length x1) : Int) :: x0) o384).bind fun y1 =>
      (y1).on (fun y2 => some (([], [], 6))) (fun y2 => some ((y2.fst, y2.snd, 0))))
     else none)
def spec_l2Stack_f (L_spec_l2Made : (List Int) → (List Int) → Option (Alt (List Int × List Int) (List Int × List Int))) (N : Nat) (a0 : List Int) (a1 : List TArray) : Option (List Int × List Int × Int) :=
  spec_l2Stack_l0 L_spec_l2Made N a0 a1 0 []
theorem spec_l2Stack_l0_eq (E : En) (hy : Hy E [] [] [] r_spec_l2Stack none (fun y => nocap (asOwn (.node [.node [.own 3 1, .own 3 1], .k]) y)) flatIds) (L_spec_l2Made : (List Int) → (List Int) → Option (Alt (List Int × List Int) (List Int × List Int))) (h_spec_l2Made : H_spec_l2Made E L_spec_l2Made) : ∀ (m0 : Nat) (x0 : List Int) (x1 : List TArray) (x7 : Int) (o384 : List Int), gH E [0, 1, 4, 6, 7] b0_spec_l2Stack [KJ.b 0, KJ.c k1_spec_l2Stack] m0 ⟨slotsOf [(0, .d (lstT (cI) x0)), (1, .d (lstT (cArray) x1)), (4, A.adr 256 1 0), (6, A.row 384 1), (7, .d (.int .i64 x7))], obsOf [(256, ⟨1, .box [A.nil, A.nil], false⟩), (384, ⟨1, rowT (cI) 3 none o384, false⟩)]⟩ = (spec_l2Stack_l0 L_spec_l2Made m0 x0 x1 x7 o384).bind fun r => some (.ret (.tup [.agg [ownT (cI) 3 none false r.1, ownT (cI) 3 none false r.2.1], .d (.int .i64 r.2.2)]) []) := by
  intro m0
  induction m0 with
  | zero => intros; rfl
  | succ m0 ih =>
    intros
    simp (config := {maxSteps := 2000000}) only [↓rPre, rPost, rCan, rObj, rI, rS, rB, r8, rLI, rEtc, hy.p, hy.l, hy.k, hy.r, hy.d, hy.w, hy.f, flatIds, oid, r_spec_l2Stack, ↓G_unf _ _ b0_spec_l2Stack.eq_1, ↓G_unf _ _ k1_spec_l2Stack.eq_1, ↓G_unf _ _ c_spec_l2Stack.eq_1, h_spec_l2Made.2, h_spec_l2Made.1, gH_succ, ih, bind_ite, spec_l2Stack_l0, rFile, rRow78, rRow3, rRow53, rRow35, rArray, rRow39, rRow5, rRow9, rMap97, rLog, ↓reduceIte, Nat.reduceMul, Nat.reduceAdd, Nat.reduceSub, Nat.reduceEqDiff, Nat.reduceBEq, Nat.reduceLeDiff, Nat.reduceLT, reduceCtorEq, Int.reduceAdd, Int.reduceSub, Int.reduceToNat, Int.reduceNeg, Int.reduceEq, Int.reduceLT, Int.reduceLE]
theorem spec_l2Stack_g (E : En) (hy : Hy E [] [] [] r_spec_l2Stack none (fun y => nocap (asOwn (.node [.node [.own 3 1, .own 3 1], .k]) y)) flatIds) (L_spec_l2Made : (List Int) → (List Int) → Option (Alt (List Int × List Int) (List Int × List Int))) (h_spec_l2Made : H_spec_l2Made E L_spec_l2Made) (a0 : List Int) (a1 : List TArray) : G E c_spec_l2Stack [] ⟨slotsOf [(0, .d (lstT cI a0)), (1, .d (lstT cArray a1))], obsOf []⟩ = (spec_l2Stack_f L_spec_l2Made E.n a0 a1).bind fun r => some (.ret (.tup [.agg [ownT (cI) 3 none false r.1, ownT (cI) 3 none false r.2.1], .d (.int .i64 r.2.2)]) []) := by
  simp (config := {maxSteps := 2000000}) only [↓rPre, rPost, rCan, rObj, rI, rS, rB, r8, rLI, rEtc, hy.p, hy.l, hy.k, hy.r, hy.d, hy.w, hy.f, flatIds, oid, r_spec_l2Stack, ↓G_unf _ _ b0_spec_l2Stack.eq_1, ↓G_unf _ _ k1_spec_l2Stack.eq_1, ↓G_unf _ _ c_spec_l2Stack.eq_1, h_spec_l2Made.2, h_spec_l2Made.1, bind_ite, spec_l2Stack_f, spec_l2Stack_l0_eq E hy L_spec_l2Made h_spec_l2Made, rFile, rRow78, rRow3, rRow53, rRow35, rArray, rRow39, rRow5, rRow9, rMap97, rLog, ↓reduceIte, Nat.reduceMul, Nat.reduceAdd, Nat.reduceSub, Nat.reduceEqDiff, Nat.reduceBEq, Nat.reduceLeDiff, Nat.reduceLT, reduceCtorEq, Int.reduceAdd, Int.reduceSub, Int.reduceToNat, Int.reduceNeg, Int.reduceEq, Int.reduceLT, Int.reduceLE]
def H_spec_l2Stack (E : En) (L : (List Int) → (List TArray) → Option (List Int × List Int × Int)) : Prop := E.Γ.mu 110 = false ∧ (∀ (a0 : List Int) (a1 : List TArray), E.Γ 110 [.d (lstT cI a0), .d (lstT cArray a1)] = (L a0 a1).bind fun r => some (.ret (.tup [.agg [ownT (cI) 3 none false r.1, ownT (cI) 3 none false r.2.1], .d (.int .i64 r.2.2)]) []))
-- loop.example/s02135/spec.l2Span
def b0_spec_l2Span : Cd :=
  sq (sq (r [2, 3, 6, 9, 10, 32] [o 30 .mv [t 10], o 31 .mv [t 2], o 32 (.bin .lss) [t 30, t 31]])
   (.cond (t 32) (.skip) (.exit 0)))
  (sq (.block 1 (sq (r [2, 3, 6, 9, 10, 44] [o 35 .mv [t 10], o 36 (.bin .geq) [t 35, i 0], o 37 .mv [t 36], g 37 true 38 .mv [t 10], g 37 true 39 (.fa 0) [t 3], g 37 true 40 (.ld none) [t 39], g 37 true 41 (.ia 1) [t 40, i 0], g 37 true 42 (.ld none) [t 41], g 37 true 43 (.bin .lss) [t 38, t 42], o 44 .pick [t 37, t 43, b false]])
     (.cond (t 44) (r [2, 3, 6, 9, 10] [o 45 .mv [t 9], o 46 (.ld (some 2)) [t 3], o 47 .mv [t 10], o 48 (.call 89) [t 46, t 47], o 49 (lit 39 2 1) [t 48], o 50 (.app 39 2 48) [t 45, t 49], o 9 .mv [t 50]]) (.frz 3 (r [2, 3, 6, 9, 10] [o 51 .mv [t 9], o 52 (lit 3 1 1) [i 0], o 53 (.bld [.nil, .nil] [(1, 1)]) [t 52], o 54 (.fa 0) [t 3], o 55 (.ld none) [t 54], o 56 (.slc false 1 true false) [t 55, i 1], o 57 (.call 109) [t 53, t 56], o 58 (lit 39 2 1) [t 57], o 59 (.app 39 2 48) [t 51, t 58], o 9 .mv [t 59]])))))
   (r [2, 3, 6, 9, 10] [o 33 .mv [t 10], o 34 (.bin .add) [t 33, i 1], o 10 .mv [t 34]]))
def k1_spec_l2Span : Cd :=
  sq (.frz 3 (r [6, 7] [o 60 (.fa 0) [t 3], o 61 (.ld none) [t 60], o 62 (.slc false 1 true false) [t 61, i 1], o 63 .mv [t 9], o 64 (.call 110) [t 62, t 63], o 65 (.ext 0) [t 64], o 66 (.ext 1) [t 64], e (.st 2) [t 6, t 65], o 7 .mv [t 66]]))
  (.ret)
def c_spec_l2Span : Cd :=
  sq (r [1, 2, 3, 6] [o 3 .box [t 0], o 6 (.alloc [.nil, .nil]) [], o 7 .mv [i 0]])
  (sq (sq (r [1, 2, 3, 6, 14] [o 11 .mv [t 2], o 12 .mv [t 1], o 13 (.bin .sub) [t 11, t 12], o 14 (.bin .gtr) [t 13, i 1000]])
    (.cond (t 14) (sq (r [6, 7] [o 15 (.bld [.nil, .nil] []) [], e (.st 2) [t 6, t 15], o 7 .mv [i 6]])
      (.ret)) (.skip)))
   (sq (.frz 3 (r [1, 2, 3, 6, 8] [o 16 .mv [t 2], o 17 .mv [t 1], o 18 (.bin .sub) [t 16, t 17], o 19 (lit 3 1 1) [t 18], o 20 (.fa 0) [t 3], o 21 (.ld none) [t 20], o 22 (.slc false 1 true false) [t 21, i 1], o 23 (.app 3 1 8) [t 19, t 22], o 8 .mv [t 23]]))
    (sq (sq (r [1, 2, 3, 6, 26] [o 24 .mv [t 8], o 25 (.call 84) [t 24], o 26 .not [t 25]])
      (.cond (t 26) (sq (r [6, 7] [o 27 (.bld [.nil, .nil] []) [], e (.st 2) [t 6, t 27], o 7 .mv [i 6]])
        (.ret)) (.skip)))
     (sq (r [1, 2, 3, 6, 9] [o 28 (lit 39 2 0) [], o 9 .mv [t 28]])
      (sq (sq (r [2, 3, 6, 9, 10] [o 29 .mv [t 1], o 10 .mv [t 29]])
        (.block 0 (.loop [2, 3, 6, 9, 10] b0_spec_l2Span))) k1_spec_l2Span)))))
def r_spec_l2Span : List RV := [.cell 6 (some 2), .tmp 7]
def spec_l2Span_l0 (L_spec_l1Fits : (List Int) → Option (Bool)) (L_spec_l2Row : (List Int) → (List Int) → Int → Option (List Int × List Int)) (L_spec_l2Wide : (List Int) → (List Int) → (List Int) → Option (List Int × List Int)) (L_spec_l2Stack : (List Int) → (List TArray) → Option (List Int × List Int × Int)) : Nat → Int → Int → (List Int) → (List Int) → (List TArray) → Option (List Int × List Int × Int)
  | 0, _, _, _, _, _ => none
  | m0 + 1, x2, x10, o192_0, o192_1, o576 =>
    if x10 < x2 then (if 0 ≤ x10 then ((idx o192_0 0).bind fun y0 =>
      if x10 < y0 then ((L_spec_l2Row o192_0 o192_1 x10).bind fun y1 =>
       if room 48 (List.length (o576 ++ [{ Shape := y1.fst, Data := y1.snd }])) then spec_l2Span_l0 L_spec_l1Fits L_spec_l2Row L_spec_l2Wide L_spec_l2Stack m0 x2 (w64 (x10 + 1)) o192_0 o192_1 (o576 ++ [{ Shape := y1.fst, Data := y1.snd }])
       else none)
      else ((cut o192_0 1 (↑(List.length o192_0) : Int)).bind fun y2 =>
       (L_spec_l2Wide [] [0] y2).bind fun y3 =>
       if room 48 (List.length (o576 ++ [{ Shape := y3.fst, Data := y3.snd }])) then spec_l2Span_l0 L_spec_l1Fits L_spec_l2Row L_spec_l2Wide L_spec_l2Stack m0 x2 (w64 (x10 + 1)) o192_0 o192_1 (o576 ++ [{ Shape := y3.fst, Data := y3.snd }])
       else none))
     else ((cut o192_0 1 (↑(List.length o192_0) : Int)).bind fun y4 =>
      (L_spec_l2Wide [] [0] y4).bind fun y5 =>
      if room 48 (List.length (o576 ++ [{ Shape := y5.fst, Data := y5.snd }])) then spec_l2Span_l0 L_spec_l1Fits L_spec_l2Row L_spec_l2Wide L_spec_l2Stack m0 x2 (w64 (x10 + 1)) o192_0 o192_1 (o576 ++ [{ Shape := y5.fst, Data := y5.snd }])
      else none))
    else ((cut o192_0 1 (↑(List.length o192_0) : Int)).bind fun y6 =>
     (L_spec_l2Stack y6 o576).bind fun y7 =>
     some ((y7.fst, y7.snd.fst, y7.snd.snd)))
def spec_l2Span_f (L_spec_l1Fits : (List Int) → Option (Bool)) (L_spec_l2Row : (List Int) → (List Int) → Int → Option (List Int × List Int)) (L_spec_l2Wide : (List Int) → (List Int) → (List Int) → Option (List Int × List Int)) (L_spec_l2Stack : (List Int) → (List TArray) → Option (List Int × List Int × Int)) (N : Nat) (a0_Shape : List Int) (a0_Data : List Int) (a1 : Int) (a2 : Int) : Option (List Int × List Int × Int) :=
  if 1000 < w64 (a2 - a1) then some (([], [], 6))
  else ((cut a0_Shape 1 (↑(List.length a0_Shape) : Int)).bind fun y0 =>
   if room 8 (List.length y0 + 1) then ((L_spec_l1Fits (w64 (a2 - a1) :: y0)).bind fun y1 =>
    if y1 = false then some (([], [], 6))
    else spec_l2Span_l0 L_spec_l1Fits L_spec_l2Row L_spec_l2Wide L_spec_l2Stack N a2 a1 a0_Shape a0_Data [])
   else none)
theorem spec_l2Span_l0_eq (E : En) (hy : Hy E [] [] [] r_spec_l2Span none (fun y => nocap (asOwn (.node [.node [.own 3 1, .own 3 1], .k]) y)) flatIds) (L_spec_l1Fits : (List Int) → Option (Bool)) (h_spec_l1Fits : H_spec_l1Fits E L_spec_l1Fits) (L_spec_l2Row : (List Int) → (List Int) → Int → Option (List Int × List Int)) (h_spec_l2Row : H_spec_l2Row E L_spec_l2Row) (L_spec_l2Wide : (List Int) → (List Int) → (List Int) → Option (List Int × List Int)) (h_spec_l2Wide : H_spec_l2Wide E L_spec_l2Wide) (L_spec_l2Stack : (List Int) → (List TArray) → Option (List Int × List Int × Int)) (h_spec_l2Stack : H_spec_l2Stack E L_spec_l2Stack) : ∀ (m0 : Nat) (x2 : Int) (x10 : Int) (o192_0 : List Int) (o192_1 : List Int) (o576 : List TArray), gH E [2, 3, 6, 9, 10] b0_spec_l2Span [KJ.b 0, KJ.c k1_spec_l2Span] m0 ⟨slotsOf [(2, .d (.int .i64 x2)), (3, A.adr 192 1 0), (6, A.adr 384 1 0), (9, A.row 576 1), (10, .d (.int .i64 x10))], obsOf [(192, ⟨1, .box [.d (lstT (cI) o192_0), .d (lstT (cI) o192_1)], false⟩), (384, ⟨1, .box [A.nil, A.nil], false⟩), (576, ⟨1, rowT (cArray) 39 none o576, false⟩)]⟩ = (spec_l2Span_l0 L_spec_l1Fits L_spec_l2Row L_spec_l2Wide L_spec_l2Stack m0 x2 x10 o192_0 o192_1 o576).bind fun r => some (.ret (.tup [.agg [ownT (cI) 3 none false r.1, ownT (cI) 3 none false r.2.1], .d (.int .i64 r.2.2)]) []) := by
  intro m0
  induction m0 with
  | zero => intros; rfl
  | succ m0 ih =>
    intros
    simp (config := {maxSteps := 2000000}) only [↓rPre, rPost, rCan, rObj, rI, rS, rB, r8, rLI, rEtc, hy.p, hy.l, hy.k, hy.r, hy.d, hy.w, hy.f, flatIds, oid, r_spec_l2Span, ↓G_unf _ _ b0_spec_l2Span.eq_1, ↓G_unf _ _ k1_spec_l2Span.eq_1, ↓G_unf _ _ c_spec_l2Span.eq_1, h_spec_l1Fits.2, h_spec_l1Fits.1, h_spec_l2Row.2, h_spec_l2Row.1, h_spec_l2Wide.2, h_spec_l2Wide.1, (show ∀ (a0_Data : List Int) (a1 : List Int), E.Γ 109 [.agg [.d (.lst 0 []), .d (lstT cI a0_Data)], .d (lstT cI a1)] = (L_spec_l2Wide [] a0_Data a1).bind fun r => some (.ret (.agg [ownT (cI) 3 none false r.1, ownT (cI) 3 none false r.2]) []) from fun a0_Data a1 => h_spec_l2Wide.2 [] a0_Data a1), h_spec_l2Stack.2, h_spec_l2Stack.1, gH_succ, ih, bind_ite, spec_l2Span_l0, rFile, rRow78, rRow3, rRow53, rRow35, rArray, rRow39, rRow5, rRow9, rMap97, rLog, ↓reduceIte, Nat.reduceMul, Nat.reduceAdd, Nat.reduceSub, Nat.reduceEqDiff, Nat.reduceBEq, Nat.reduceLeDiff, Nat.reduceLT, reduceCtorEq, Int.reduceAdd, Int.reduceSub, Int.reduceToNat, Int.reduceNeg, Int.reduceEq, Int.reduceLT, Int.reduceLE]
theorem spec_l2Span_g (E : En) (hy : Hy E [] [] [] r_spec_l2Span none (fun y => nocap (asOwn (.node [.node [.own 3 1, .own 3 1], .k]) y)) flatIds) (L_spec_l1Fits : (List Int) → Option (Bool)) (h_spec_l1Fits : H_spec_l1Fits E L_spec_l1Fits) (L_spec_l2Row : (List Int) → (List Int) → Int → Option (List Int × List Int)) (h_spec_l2Row : H_spec_l2Row E L_spec_l2Row) (L_spec_l2Wide : (List Int) → (List Int) → (List Int) → Option (List Int × List Int)) (h_spec_l2Wide : H_spec_l2Wide E L_spec_l2Wide) (L_spec_l2Stack : (List Int) → (List TArray) → Option (List Int × List Int × Int)) (h_spec_l2Stack : H_spec_l2Stack E L_spec_l2Stack) (a0_Shape : List Int) (a0_Data : List Int) (a1 : Int) (a2 : Int) : G E c_spec_l2Span [] ⟨slotsOf [(0, .agg [.d (lstT cI a0_Shape), .d (lstT cI a0_Data)]), (1, .d (.int .i64 a1)), (2, .d (.int .i64 a2))], obsOf []⟩ = (spec_l2Span_f L_spec_l1Fits L_spec_l2Row L_spec_l2Wide L_spec_l2Stack E.n a0_Shape a0_Data a1 a2).bind fun r => some (.ret (.tup [.agg [ownT (cI) 3 none false r.1, ownT (cI) 3 none false r.2.1], .d (.int .i64 r.2.2)]) []) := by
  simp (config := {maxSteps := 2000000}) only [↓rPre, rPost, rCan, rObj, rI, rS, rB, r8, rLI, rEtc, hy.p, hy.l, hy.k, hy.r, hy.d, hy.w, hy.f, flatIds, oid, r_spec_l2Span, ↓G_unf _ _ b0_spec_l2Span.eq_1, ↓G_unf _ _ k1_spec_l2Span.eq_1, ↓G_unf _ _ c_spec_l2Span.eq_1, h_spec_l1Fits.2, h_spec_l1Fits.1, h_spec_l2Row.2, h_spec_l2Row.1, h_spec_l2Wide.2, h_spec_l2Wide.1, (show ∀ (a0_Data : List Int) (a1 : List Int), E.Γ 109 [.agg [.d (.lst 0 []), .d (lstT cI a0_Data)], .d (lstT cI a1)] = (L_spec_l2Wide [] a0_Data a1).bind fun r => some (.ret (.agg [ownT (cI) 3 none false r.1, ownT (cI) 3 none false r.2]) []) from fun a0_Data a1 => h_spec_l2Wide.2 [] a0_Data a1), h_spec_l2Stack.2, h_spec_l2Stack.1, bind_ite, spec_l2Span_f, spec_l2Span_l0_eq E hy L_spec_l1Fits h_spec_l1Fits L_spec_l2Row h_spec_l2Row L_spec_l2Wide h_spec_l2Wide L_spec_l2Stack h_spec_l2Stack, rFile, rRow78, rRow3, rRow53, rRow35, rArray, rRow39, rRow5, rRow9, rMap97, rLog, ↓reduceIte, Nat.reduceMul, Nat.reduceAdd, Nat.reduceSub, Nat.reduceEqDiff, Nat.reduceBEq, Nat.reduceLeDiff, Nat.reduceLT, reduceCtorEq, Int.reduceAdd, Int.reduceSub, Int.reduceToNat, Int.reduceNeg, Int.reduceEq, Int.reduceLT, Int.reduceLE]
def H_spec_l2Span (E : En) (L : (List Int) → (List Int) → Int → Int → Option (List Int × List Int × Int)) : Prop := E.Γ.mu 88 = false ∧ (∀ (a0_Shape : List Int) (a0_Data : List Int) (a1 : Int) (a2 : Int), E.Γ 88 [.agg [.d (lstT cI a0_Shape), .d (lstT cI a0_Data)], .d (.int .i64 a1), .d (.int .i64 a2)] = (L a0_Shape a0_Data a1 a2).bind fun r => some (.ret (.tup [.agg [ownT (cI) 3 none false r.1, ownT (cI) 3 none false r.2.1], .d (.int .i64 r.2.2)]) []))
-- loop.example/s02135/spec.l2Take
def c_spec_l2Take : Cd :=
  sq (r [0, 4, 5, 6] [o 4 .box [t 1], o 5 .box [t 2], o 6 (.alloc [.nil, .nil]) [], o 7 .mv [i 0]])
  (sq (sq (r [0, 4, 5, 6, 13] [o 10 (.fa 0) [t 4], o 11 (.ld none) [t 10], o 12 (.len false) [t 11], o 13 (.bin .neq) [t 12, i 0]])
    (.cond (t 13) (sq (r [6, 7] [o 14 (.bld [.nil, .nil] []) [], e (.st 2) [t 6, t 14], o 7 .mv [i 2]])
      (.ret)) (.skip)))
   (sq (r [0, 4, 5, 6] [o 15 (.ld (some 2)) [t 5], o 16 (.call 87) [t 15], e (.st 2) [t 5, t 16]])
    (sq (r [0, 4, 5, 6, 8] [o 17 (.fa 0) [t 5], o 18 (.ld none) [t 17], o 19 (.ia 1) [t 18, i 0], o 20 (.ld none) [t 19], o 8 .mv [t 20]])
     (sq (r [0, 5, 6, 8, 9] [o 21 (.fa 1) [t 4], o 22 (.ld none) [t 21], o 23 (.ia 1) [t 22, i 0], o 24 (.ld none) [t 23], o 9 .mv [t 24]])
      (sq (sq (r [5, 6, 8, 9, 26] [o 25 .mv [t 0], o 26 (.bin .eql) [t 25, i 2]])
        (.cond (t 26) (sq (sq (r [5, 6, 8, 9, 28] [o 27 .mv [t 9], o 28 (.bin .lss) [t 27, i 0]])
           (.cond (t 28) (sq (r [6, 7] [o 29 (.ld (some 2)) [t 5], o 30 .mv [t 8], o 31 .mv [t 9], o 32 (.bin .add) [t 30, t 31], o 33 .mv [t 8], o 34 (.call 88) [t 29, t 32, t 33], o 35 (.ext 0) [t 34], o 36 (.ext 1) [t 34], e (.st 2) [t 6, t 35], o 7 .mv [t 36]])
             (.ret)) (.skip)))
          (sq (r [6, 7] [o 37 (.ld (some 2)) [t 5], o 38 .mv [t 9], o 39 (.call 88) [t 37, i 0, t 38], o 40 (.ext 0) [t 39], o 41 (.ext 1) [t 39], e (.st 2) [t 6, t 40], o 7 .mv [t 41]])
           (.ret))) (.skip)))
       (sq (sq (r [5, 6, 8, 9, 50] [o 42 .mv [t 9], o 43 .mv [t 8], o 44 (.bin .geq) [t 42, t 43], o 45 .mv [t 44], g 45 false 46 .mv [t 9], g 45 false 47 .neg [t 46], g 45 false 48 .mv [t 8], g 45 false 49 (.bin .geq) [t 47, t 48], o 50 .pick [t 45, b true, t 49]])
         (.cond (t 50) (sq (r [6, 7] [o 51 (.ld (some 2)) [t 5], o 52 (.call 88) [t 51, i 0, i 0], o 53 (.ext 0) [t 52], o 54 (.ext 1) [t 52], e (.st 2) [t 6, t 53], o 7 .mv [t 54]])
           (.ret)) (.skip)))
        (sq (sq (r [5, 6, 8, 9, 56] [o 55 .mv [t 9], o 56 (.bin .lss) [t 55, i 0]])
          (.cond (t 56) (sq (r [6, 7] [o 57 (.ld (some 2)) [t 5], o 58 .mv [t 8], o 59 .mv [t 9], o 60 (.bin .add) [t 58, t 59], o 61 (.call 88) [t 57, i 0, t 60], o 62 (.ext 0) [t 61], o 63 (.ext 1) [t 61], e (.st 2) [t 6, t 62], o 7 .mv [t 63]])
            (.ret)) (.skip)))
         (sq (r [6, 7] [o 64 (.ld (some 2)) [t 5], o 65 .mv [t 9], o 66 .mv [t 8], o 67 (.call 88) [t 64, t 65, t 66], o 68 (.ext 0) [t 67], o 69 (.ext 1) [t 67], e (.st 2) [t 6, t 68], o 7 .mv [t 69]])
          (.ret)))))))))
def r_spec_l2Take : List RV := [.cell 6 (some 2), .tmp 7]
def spec_l2Take_f (L_spec_l2Axes : (List Int) → (List Int) → Option (Alt (List Int × List Int) (List Int × List Int))) (L_spec_l2Span : (List Int) → (List Int) → Int → Int → Option (List Int × List Int × Int)) (N : Nat) (a0 : Int) (a1_Shape : List Int) (a1_Data : List Int) (a2_Shape : List Int) (a2_Data : List Int) : Option (List Int × List Int × Int) :=
  if (↑(List.length a1_Shape) : Int) = 0 then ((L_spec_l2Axes a2_Shape a2_Data).bind fun y0 =>
   (y0).on (fun y1 => if 0 < (↑(List.length y1.fst) : Int) then ((y1.fst[0]?).bind fun y2 =>
     (idx a1_Data 0).bind fun y3 =>
     if a0 = 2 then (if y3 < 0 then ((L_spec_l2Span y1.fst y1.snd (w64 (y2 + y3)) y2).bind fun y4 =>
       some ((y4.fst, y4.snd.fst, y4.snd.snd)))
      else ((L_spec_l2Span y1.fst y1.snd 0 y3).bind fun y5 =>
       some ((y5.fst, y5.snd.fst, y5.snd.snd))))
     else (if y2 ≤ y3 then ((L_spec_l2Span y1.fst y1.snd 0 0).bind fun y6 =>
       some ((y6.fst, y6.snd.fst, y6.snd.snd)))
      else (if y2 ≤ w64 (0 - y3) then ((L_spec_l2Span y1.fst y1.snd 0 0).bind fun y7 =>
        some ((y7.fst, y7.snd.fst, y7.snd.snd)))
       else (if y3 < 0 then ((L_spec_l2Span y1.fst y1.snd 0 (w64 (y2 + y3))).bind fun y8 =>
         some ((y8.fst, y8.snd.fst, y8.snd.snd)))
        else ((L_spec_l2Span y1.fst y1.snd y3 y2).bind fun y9 =>
         some ((y9.fst, y9.snd.fst, y9.snd.snd)))))))
    else none) (fun y1 => (idx y1.fst 0).bind fun y10 =>
    (idx a1_Data 0).bind fun y11 =>
    if a0 = 2 then (if y11 < 0 then ((L_spec_l2Span y1.fst y1.snd (w64 (y10 + y11)) y10).bind fun y12 =>
      some ((y12.fst, y12.snd.fst, y12.snd.snd)))
     else ((L_spec_l2Span y1.fst y1.snd 0 y11).bind fun y13 =>
      some ((y13.fst, y13.snd.fst, y13.snd.snd))))
    else (if y10 ≤ y11 then ((L_spec_l2Span y1.fst y1.snd 0 0).bind fun y14 =>
      some ((y14.fst, y14.snd.fst, y14.snd.snd)))
     else (if y10 ≤ w64 (0 - y11) then ((L_spec_l2Span y1.fst y1.snd 0 0).bind fun y15 =>
       some ((y15.fst, y15.snd.fst, y15.snd.snd)))
      else (if y11 < 0 then ((L_spec_l2Span y1.fst y1.snd 0 (w64 (y10 + y11))).bind fun y16 =>
        some ((y16.fst, y16.snd.fst, y16.snd.snd)))
       else ((L_spec_l2Span y1.fst y1.snd y11 y10).bind fun y17 =>
        some ((y17.fst, y17.snd.fst, y17.snd.snd))))))))
  else some (([], [], 2))
theorem spec_l2Take_g (E : En) (hy : Hy E [] [] [] r_spec_l2Take none (fun y => nocap (asOwn (.node [.node [.own 3 1, .own 3 1], .k]) y)) flatIds) (L_spec_l2Axes : (List Int) → (List Int) → Option (Alt (List Int × List Int) (List Int × List Int))) (h_spec_l2Axes : H_spec_l2Axes E L_spec_l2Axes) (L_spec_l2Span : (List Int) → (List Int) → Int → Int → Option (List Int × List Int × Int)) (h_spec_l2Span : H_spec_l2Span E L_spec_l2Span) (a0 : Int) (a1_Shape : List Int) (a1_Data : List Int) (a2_Shape : List Int) (a2_Data : List Int) : G E c_spec_l2Take [] ⟨slotsOf [(0, .d (.int .i64 a0)), (1, .agg [.d (lstT cI a1_Shape), .d (lstT cI a1_Data)]), (2, .agg [.d (lstT cI a2_Shape), .d (lstT cI a2_Data)])], obsOf []⟩ = (spec_l2Take_f L_spec_l2Axes L_spec_l2Span E.n a0 a1_Shape a1_Data a2_Shape a2_Data).bind fun r => some (.ret (.tup [.agg [ownT (cI) 3 none false r.1, ownT (cI) 3 none false r.2.1], .d (.int .i64 r.2.2)]) []) := by
  simp (config := {maxSteps := 2000000}) only [↓rPre, rPost, rCan, rObj, rI, rS, rB, r8, rLI, rEtc, hy.p, hy.l, hy.k, hy.r, hy.d, hy.w, hy.f, flatIds, oid, r_spec_l2Take, ↓G_unf _ _ c_spec_l2Take.eq_1, h_spec_l2Axes.2, h_spec_l2Axes.1, h_spec_l2Span.2, h_spec_l2Span.1, bind_ite, spec_l2Take_f, rFile, rRow78, rRow3, rRow53, rRow35, rArray, rRow39, rRow5, rRow9, rMap97, rLog, ↓reduceIte, Nat.reduceMul, Nat.reduceAdd, Nat.reduceSub, Nat.reduceEqDiff, Nat.reduceBEq, Nat.reduceLeDiff, Nat.reduceLT, reduceCtorEq, Int.reduceAdd, Int.reduceSub, Int.reduceToNat, Int.reduceNeg, Int.reduceEq, Int.reduceLT, Int.reduceLE]
def H_spec_l2Take (E : En) (L : Int → (List Int) → (List Int) → (List Int) → (List Int) → Option (List Int × List Int × Int)) : Prop := E.Γ.mu 38 = false ∧ (∀ (a0 : Int) (a1_Shape : List Int) (a1_Data : List Int) (a2_Shape : List Int) (a2_Data : List Int), E.Γ 38 [.d (.int .i64 a0), .agg [.d (lstT cI a1_Shape), .d (lstT cI a1_Data)], .agg [.d (lstT cI a2_Shape), .d (lstT cI a2_Data)]] = (L a0 a1_Shape a1_Data a2_Shape a2_Data).bind fun r => some (.ret (.tup [.agg [ownT (cI) 3 none false r.1, ownT (cI) 3 none false r.2.1], .d (.int .i64 r.2.2)]) []))
-- loop.example/s02135/spec.l2Same
def b0_spec_l2Same : Cd :=
  sq (sq (r [0, 1, 5, 14] [o 11 .mv [t 5], o 12 .mv [t 0], o 13 (.len false) [t 12], o 14 (.bin .lss) [t 11, t 13]])
   (.cond (t 14) (.skip) (.exit 0)))
  (sq (.block 1 (sq (rd [] [0, 1, 5, 25] [o 17 .mv [t 0], o 18 .mv [t 5], o 19 (.ia 1) [t 17, t 18], o 20 (.ld none) [t 19], o 21 .mv [t 1], o 22 .mv [t 5], o 23 (.ia 1) [t 21, t 22], o 24 (.ld none) [t 23], o 25 (.bin .neq) [t 20, t 24]])
     (.cond (t 25) (sq (r [4] [o 4 .mv [b false]])
       (.ret)) (.skip))))
   (r [0, 1, 5] [o 15 .mv [t 5], o 16 (.bin .add) [t 15, i 1], o 5 .mv [t 16]]))
def k1_spec_l2Same : Cd :=
  sq (r [4] [o 4 .mv [b true]])
  (.ret)
def c_spec_l2Same : Cd :=
  sq (r [0, 1] [o 4 .mv [b false]])
  (sq (sq (r [0, 1, 10] [o 6 .mv [t 0], o 7 (.len false) [t 6], o 8 .mv [t 1], o 9 (.len false) [t 8], o 10 (.bin .neq) [t 7, t 9]])
    (.cond (t 10) (sq (r [4] [o 4 .mv [b false]])
      (.ret)) (.skip)))
   (sq (sq (r [0, 1, 5] [o 5 .mv [i 0]])
     (.block 0 (.loop [0, 1, 5] b0_spec_l2Same))) k1_spec_l2Same))
def r_spec_l2Same : List RV := [.tmp 4]
def spec_l2Same_l0 : Nat → (List Int) → (List Int) → Int → Option (Bool)
  | 0, _, _, _ => none
  | m0 + 1, x0, x1, x5 =>
    if x5 < (↑(List.length x0) : Int) then ((idx x0 x5).bind fun y0 =>
     (idx x1 x5).bind fun y1 =>
     if y0 = y1 then spec_l2Same_l0 m0 x0 x1 (w64 (x5 + 1))
     else some false)
    else some true
def spec_l2Same_f (N : Nat) (a0 : List Int) (a1 : List Int) : Option (Bool) :=
  if (↑(List.length a0) : Int) = (↑(List.length a1) : Int) then spec_l2Same_l0 N a0 a1 0
  else some false
theorem spec_l2Same_l0_eq (E : En) (hy : Hy E [] [] [] r_spec_l2Same none (fun y => nocap y) flatIds) : ∀ (m0 : Nat) (x0 : List Int) (x1 : List Int) (x5 : Int), gH E [0, 1, 5] b0_spec_l2Same [KJ.b 0, KJ.c k1_spec_l2Same] m0 ⟨slotsOf [(0, .d (lstT (cI) x0)), (1, .d (lstT (cI) x1)), (5, .d (.int .i64 x5))], obsOf []⟩ = (spec_l2Same_l0 m0 x0 x1 x5).bind fun r => some (.ret (.d (.bool r)) []) := by
  intro m0
  induction m0 with
  | zero => intros; rfl
  | succ m0 ih =>
    intros
    simp (config := {maxSteps := 2000000}) only [↓rPre, rPost, rCan, rObj, rI, rS, rB, r8, rLI, rEtc, hy.p, hy.l, hy.k, hy.r, hy.d, hy.w, hy.f, flatIds, oid, r_spec_l2Same, ↓G_unf _ _ b0_spec_l2Same.eq_1, ↓G_unf _ _ k1_spec_l2Same.eq_1, ↓G_unf _ _ c_spec_l2Same.eq_1, gH_succ, ih, bind_ite, spec_l2Same_l0, rFile, rRow78, rRow3, rRow53, rRow35, rArray, rRow39, rRow5, rRow9, rMap97, rLog, ↓reduceIte, Nat.reduceMul, Nat.reduceAdd, Nat.reduceSub, Nat.reduceEqDiff, Nat.reduceBEq, Nat.reduceLeDiff, Nat.reduceLT, reduceCtorEq, Int.reduceAdd, Int.reduceSub, Int.reduceToNat, Int.reduceNeg, Int.reduceEq, Int.reduceLT, Int.reduceLE]
theorem spec_l2Same_g (E : En) (hy : Hy E [] [] [] r_spec_l2Same none (fun y => nocap y) flatIds) (a0 : List Int) (a1 : List Int) : G E c_spec_l2Same [] ⟨slotsOf [(0, .d (lstT cI a0)), (1, .d (lstT cI a1))], obsOf []⟩ = (spec_l2Same_f E.n a0 a1).bind fun r => some (.ret (.d (.bool r)) []) := by
  simp (config := {maxSteps := 2000000}) only [↓rPre, rPost, rCan, rObj, rI, rS, rB, r8, rLI, rEtc, hy.p, hy.l, hy.k, hy.r, hy.d, hy.w, hy.f, flatIds, oid, r_spec_l2Same, ↓G_unf _ _ b0_spec_l2Same.eq_1, ↓G_unf _ _ k1_spec_l2Same.eq_1, ↓G_unf _ _ c_spec_l2Same.eq_1, bind_ite, spec_l2Same_f, spec_l2Same_l0_eq E hy, rFile, rRow78, rRow3, rRow53, rRow35, rArray, rRow39, rRow5, rRow9, rMap97, rLog, ↓reduceIte, Nat.reduceMul, Nat.reduceAdd, Nat.reduceSub, Nat.reduceEqDiff, Nat.reduceBEq, Nat.reduceLeDiff, Nat.reduceLT, reduceCtorEq, Int.reduceAdd, Int.reduceSub, Int.reduceToNat, Int.reduceNeg, Int.reduceEq, Int.reduceLT, Int.reduceLE]
def H_spec_l2Same (E : En) (L : (List Int) → (List Int) → Option (Bool)) : Prop := E.Γ.mu 42 = false ∧ (∀ (a0 : List Int) (a1 : List Int), E.Γ 42 [.d (lstT cI a0), .d (lstT cI a1)] = (L a0 a1).bind fun r => some (.ret (.d (.bool r)) []))
-- loop.example/s02135/spec.l2Cat
def c_spec_l2Cat : Cd :=
  sq (r [2, 3, 4] [o 2 .box [t 0], o 3 .box [t 1], o 4 (.alloc [.nil, .nil]) [], o 5 .mv [i 0]])
  (sq (r [2, 3, 4] [o 6 (.ld (some 2)) [t 2], o 7 (.call 87) [t 6], e (.st 2) [t 2, t 7]])
   (sq (r [2, 3, 4] [o 8 (.ld (some 2)) [t 3], o 9 (.call 87) [t 8], e (.st 2) [t 3, t 9]])
    (sq (sq (r [2, 3, 4, 17] [o 10 (.fa 0) [t 2], o 11 (.ld none) [t 10], o 12 (.len false) [t 11], o 13 (.fa 0) [t 3], o 14 (.ld none) [t 13], o 15 (.len false) [t 14], o 16 (.bin .add) [t 15, i 1], o 17 (.bin .eql) [t 12, t 16]])
      (.cond (t 17) (rd [] [2, 3, 4] [o 19 (.fa 0) [t 3], o 20 (.ld none) [t 19], o 22 (.fa 1) [t 3], o 23 (.ld none) [t 22], ap [] false [3, 19, 3, 22] (o 18 (lit 3 1 1) [i 1]), ap [] false [3, 22] (o 21 (.app 3 1 8) [t 18, t 20]), o 24 (.bld [.nil, .nil] [(0, 1), (1, 1)]) [t 21, t 23], e (.st 2) [t 3, t 24]]) (sq (r [2, 3, 4, 32] [o 25 (.fa 0) [t 3], o 26 (.ld none) [t 25], o 27 (.len false) [t 26], o 28 (.fa 0) [t 2], o 29 (.ld none) [t 28], o 30 (.len false) [t 29], o 31 (.bin .add) [t 30, i 1], o 32 (.bin .eql) [t 27, t 31]])
        (.cond (t 32) (rd [] [2, 3, 4] [o 34 (.fa 0) [t 2], o 35 (.ld none) [t 34], o 37 (.fa 1) [t 2], o 38 (.ld none) [t 37], ap [] false [2, 34, 2, 37] (o 33 (lit 3 1 1) [i 1]), ap [] false [2, 37] (o 36 (.app 3 1 8) [t 33, t 35]), o 39 (.bld [.nil, .nil] [(0, 1), (1, 1)]) [t 36, t 38], e (.st 2) [t 2, t 39]]) (.skip)))))
     (sq (sq (r [2, 3, 4, 46] [o 40 (.fa 0) [t 2], o 41 (.ld none) [t 40], o 42 (.len false) [t 41], o 43 (.fa 0) [t 3], o 44 (.ld none) [t 43], o 45 (.len false) [t 44], o 46 (.bin .neq) [t 42, t 45]])
       (.cond (t 46) (sq (r [4, 5] [o 47 (.bld [.nil, .nil] []) [], e (.st 2) [t 4, t 47], o 5 .mv [i 2]])
         (.ret)) (.skip)))
      (sq (sq (.frz 2 (.frz 3 (rd [] [2, 3, 4, 55] [o 48 (.fa 0) [t 2], o 49 (.ld none) [t 48], o 50 (.slc false 1 true false) [t 49, i 1], o 51 (.fa 0) [t 3], o 52 (.ld none) [t 51], o 53 (.slc false 1 true false) [t 52, i 1], o 54 (.call 42) [t 50, t 53], o 55 .not [t 54]])))
        (.cond (t 55) (sq (r [4, 5] [o 56 (.bld [.nil, .nil] []) [], e (.st 2) [t 4, t 56], o 5 .mv [i 3]])
          (.ret)) (.skip)))
       (sq (.frz 2 (rd [] [4, 5] [o 57 (.fa 0) [t 2], o 58 (.ld none) [t 57], o 59 (.ia 1) [t 58, i 0], o 60 (.ld none) [t 59], o 61 (.fa 0) [t 3], o 62 (.ld none) [t 61], o 63 (.ia 1) [t 62, i 0], o 64 (.ld none) [t 63], o 65 (.bin .add) [t 60, t 64], o 67 (.fa 0) [t 2], o 68 (.ld none) [t 67], o 69 (.slc false 1 true false) [t 68, i 1], o 71 (.fa 1) [t 2], o 72 (.ld none) [t 71], o 74 (.fa 1) [t 3], o 75 (.ld none) [t 74], ap [] false [2, 67, 68, 2, 71, 3, 74] (o 66 (lit 3 1 1) [t 65]), ap [] false [2, 71, 3, 74] (o 70 (.app 3 1 8) [t 66, t 69]), ap [] false [3, 74] (o 73 (.call 43) [t 72]), o 76 (.app 3 1 8) [t 73, t 75], o 77 (.call 86) [t 70, t 76], o 78 (.ext 0) [t 77], o 79 (.ext 1) [t 77], e (.st 2) [t 4, t 78], o 5 .mv [t 79]]))
        (.ret)))))))
def r_spec_l2Cat : List RV := [.cell 4 (some 2), .tmp 5]
def spec_l2Cat_f (L_spec_l2Axes : (List Int) → (List Int) → Option (Alt (List Int × List Int) (List Int × List Int))) (L_spec_l2Same : (List Int) → (List Int) → Option (Bool)) (L_spec_l2Copy : (List Int) → Option (List Int)) (L_spec_l2Made : (List Int) → (List Int) → Option (Alt (List Int × List Int) (List Int × List Int))) (N : Nat) (a0_Shape : List Int) (a0_Data : List Int) (a1_Shape : List Int) (a1_Data : List Int) : Option (List Int × List Int × Int) :=
  (L_spec_l2Axes a0_Shape a0_Data).bind fun y0 =>
  (y0).on (fun y1 => (L_spec_l2Axes a1_Shape a1_Data).bind fun y2 =>
   (y2).on (fun y3 => if (↑(List.length y1.fst) : Int) = w64 ((↑(List.length y3.fst) : Int) + 1) then (if room 8 (List.length y3.fst + 1) then (if (↑(List.length y1.fst) : Int) = (↑(List.length y3.fst + 1) : Int) then ((cut y1.fst 1 (↑(List.length y1.fst) : Int)).bind fun y4 =>
       (cut (1 :: y3.fst) 1 (↑(List.length y3.fst + 1) : Int)).bind fun y5 =>
       (L_spec_l2Same y4 y5).bind fun y6 =>
       if y6 = false then some (([], [], 3))
       else ((idx y1.fst 0).bind fun y7 =>
        (idx (1 :: y3.fst) 0).bind fun y8 =>
        (cut y1.fst 1 (↑(List.length y1.fst) : Int)).bind fun y9 =>
        if room 8 (List.length y9 + 1) then ((L_spec_l2Copy y1.snd).bind fun y10 =>
         if room 8 (List.length (y10 ++ y3.snd)) then ((L_spec_l2Made (w64 (y7 + y8) :: y9) (y10 ++ y3.snd)).bind fun y11 =>
          (y11).on (fun y12 => some (([], [], 6))) (fun y12 => some ((y12.fst, y12.snd, 0))))
         else none)
        else none))
      else some (([], [], 2)))
     else none)
    else (if (↑(List.length y3.fst) : Int) = w64 ((↑(List.length y1.fst) : Int) + 1) then (if room 8 (List.length y1.fst + 1) then (if (↑(List.length y1.fst + 1) : Int) = (↑(List.length y3.fst) : Int) then ((cut (1 :: y1.fst) 1 (↑(List.length y1.fst + 1) : Int)).bind fun y13 =>
        (cut y3.fst 1 (↑(List.length y3.fst) : Int)).bind fun y14 =>
        (L_spec_l2Same y13 y14).bind fun y15 =>
        if y15 = false then some (([], [], 3))
        else ((idx (1 :: y1.fst) 0).bind fun y16 =>
         (idx y3.fst 0).bind fun y17 =>
         (cut (1 :: y1.fst) 1 (↑(List.length y1.fst + 1) : Int)).bind fun y18 =>
         if room 8 (List.length y18 + 1) then ((L_spec_l2Copy y1.snd).bind fun y19 =>
          if room 8 (List.length (y19 ++ y3.snd)) then ((L_spec_l2Made (w64 (y16 + y17) :: y18) (y19 ++ y3.snd)).bind fun y20 =>
           (y20).on (fun y21 => some (([], [], 6))) (fun y21 => some ((y21.fst, y21.snd, 0))))
          else none)
         else none))
       else some (([], [], 2)))
      else none)
     else (if (↑(List.length y1.fst) : Int) = (↑(List.length y3.fst) : Int) then ((cut y1.fst 1 (↑(List.length y1.fst) : Int)).bind fun y22 =>
       (cut y3.fst 1 (↑(List.length y3.fst) : Int)).bind fun y23 =>
       (L_spec_l2Same y22 y23).bind fun y24 =>
       if y24 = false then some (([], [], 3))
       else ((idx y1.fst 0).bind fun y25 =>
        (idx y3.fst 0).bind fun y26 =>
        (cut y1.fst 1 (↑(List.length y1.fst) : Int)).bind fun y27 =>
        if room 8 (List.length y27 + 1) then ((L_spec_l2Copy y1.snd).bind fun y28 =>
         if room 8 (List.length (y28 ++ y3.snd)) then ((L_spec_l2Made (w64 (y25 + y26) :: y27) (y28 ++ y3.snd)).bind fun y29 =>
          (y29).on (fun y30 => some (([], [], 6))) (fun y30 => some ((y30.fst, y30.snd, 0))))
         else none)
        else none))
      else some (([], [], 2))))) (fun y3 => if (↑(List.length y1.fst) : Int) = w64 ((↑(List.length y3.fst) : Int) + 1) then (if room 8 (List.length y3.fst + 1) then (if (↑(List.length y1.fst) : Int) = (↑(List.length y3.fst + 1) : Int) then ((cut y1.fst 1 (↑(List.length y1.fst) : Int)).bind fun y31 =>
       (cut (1 :: y3.fst) 1 (↑(List.length y3.fst + 1) : Int)).bind fun y32 =>
       (L_spec_l2Same y31 y32).bind fun y33 =>
       if y33 = false then some (([], [], 3))
       else ((idx y1.fst 0).bind fun y34 =>
        (idx (1 :: y3.fst) 0).bind fun y35 =>
        (cut y1.fst 1 (↑(List.length y1.fst) : Int)).bind fun y36 =>
        if room 8 (List.length y36 + 1) then ((L_spec_l2Copy y1.snd).bind fun y37 =>
         if room 8 (List.length (y37 ++ y3.snd)) then ((L_spec_l2Made (w64 (y34 + y35) :: y36) (y37 ++ y3.snd)).bind fun y38 =>
          (y38).on (fun y39 => some (([], [], 6))) (fun y39 => some ((y39.fst, y39.snd, 0))))
         else none)
        else none))
      else some (([], [], 2)))
     else none)
    else (if (↑(List.length y3.fst) : Int) = w64 ((↑(List.length y1.fst) : Int) + 1) then (if room 8 (List.length y1.fst + 1) then (if (↑(List.length y1.fst + 1) : Int) = (↑(List.length y3.fst) : Int) then ((cut (1 :: y1.fst) 1 (↑(List.length y1.fst + 1) : Int)).bind fun y40 =>
        (cut y3.fst 1 (↑(List.length y3.fst) : Int)).bind fun y41 =>
        (L_spec_l2Same y40 y41).bind fun y42 =>
        if y42 = false then some (([], [], 3))
        else ((idx (1 :: y1.fst) 0).bind fun y43 =>
         (idx y3.fst 0).bind fun y44 =>
         (cut (1 :: y1.fst) 1 (↑(List.length y1.fst + 1) : Int)).bind fun y45 =>
         if room 8 (List.length y45 + 1) then ((L_spec_l2Copy y1.snd).bind fun y46 =>
          if room 8 (List.length (y46 ++ y3.snd)) then ((L_spec_l2Made (w64 (y43 + y44) :: y45) (y46 ++ y3.snd)).bind fun y47 =>
           (y47).on (fun y48 => some (([], [], 6))) (fun y48 => some ((y48.fst, y48.snd, 0))))
          else none)
         else none))
       else some (([], [], 2)))
      else none)
     else (if (↑(List.length y1.fst) : Int) = (↑(List.length y3.fst) : Int) then ((cut y1.fst 1 (↑(List.length y1.fst) : Int)).bind fun y49 =>
       (cut y3.fst 1 (↑(List.length y3.fst) : Int)).bind fun y50 =>
       (L_spec_l2Same y49 y50).bind fun y51 =>
       if y51 = false then some (([], [], 3))
       else ((idx y1.fst 0).bind fun y52 =>
        (idx y3.fst 0).bind fun y53 =>
        (cut y1.fst 1 (↑(List.length y1.fst) : Int)).bind fun y54 =>
        if room 8 (List.length y54 + 1) then ((L_spec_l2Copy y1.snd).bind fun y55 =>
         if room 8 (List.length (y55 ++ y3.snd)) then ((L_spec_l2Made (w64 (y52 + y53) :: y54) (y55 ++ y3.snd)).bind fun y56 =>
          (y56).on (fun y57 => some (([], [], 6))) (fun y57 => some ((y57.fst, y57.snd, 0))))
         else none)
        else none))
      else some (([], [], 2)))))) (fun y1 => (L_spec_l2Axes a1_Shape a1_Data).bind fun y58 =>
   (y58).on (fun y59 => if (↑(List.length y1.fst) : Int) = w64 ((↑(List.length y59.fst) : Int) + 1) then (if room 8 (List.length y59.fst + 1) then (if (↑(List.length y1.fst) : Int) = (↑(List.length y59.fst + 1) : Int) then ((cut y1.fst 1 (↑(List.length y1.fst) : Int)).bind fun y60 =>
       (cut (1 :: y59.fst) 1 (↑(List.length y59.fst + 1) : Int)).bind fun y61 =>
       (L_spec_l2Same y60 y61).bind fun y62 =>
       if y62 = false then some (([], [], 3))
       else ((idx y1.fst 0).bind fun y63 =>
        (idx (1 :: y59.fst) 0).bind fun y64 =>
        (cut y1.fst 1 (↑(List.length y1.fst) : Int)).bind fun y65 =>
        if room 8 (List.length y65 + 1) then ((L_spec_l2Copy y1.snd).bind fun y66 =>
         if room 8 (List.length (y66 ++ y59.snd)) then ((L_spec_l2Made (w64 (y63 + y64) :: y65) (y66 ++ y59.snd)).bind fun y67 =>
          (y67).on (fun y68 => some (([], [], 6))) (fun y68 => some ((y68.fst, y68.snd, 0))))
         else none)
        else none))
      else some (([], [], 2)))
     else none)
    else (if (↑(List.length y59.fst) : Int) = w64 ((↑(List.length y1.fst) : Int) + 1) then (if room 8 (List.length y1.fst + 1) then (if (↑(List.length y1.fst + 1) : Int) = (↑(List.length y59.fst) : Int) then ((cut (1 :: y1.fst) 1 (↑(List.length y1.fst + 1) : Int)).bind fun y69 =>
        (cut y59.fst 1 (↑(List.length y59.fst) : Int)).bind fun y70 =>
        (L_spec_l2Same y69 y70).bind fun y71 =>
        if y71 = false then some (([], [], 3))
        else ((idx (1 :: y1.fst) 0).bind fun y72 =>
         (idx y59.fst 0).bind fun y73 =>
         (cut (1 :: y1.fst) 1 (↑(List.length y1.fst + 1) : Int)).bind fun y74 =>
         if room 8 (List.length y74 + 1) then ((L_spec_l2Copy y1.snd).bind fun y75 =>
          if room 8 (List.length (y75 ++ y59.snd)) then ((L_spec_l2Made (w64 (y72 + y73) :: y74) (y75 ++ y59.snd)).bind fun y76 =>
           (y76).on (fun y77 => some (([], [], 6))) (fun y77 => some ((y77.fst, y77.snd, 0))))
          else none)
         else none))
       else some (([], [], 2)))
      else none)
     else (if (↑(List.length y1.fst) : Int) = (↑(List.length y59.fst) : Int) then ((cut y1.fst 1 (↑(List.length y1.fst) : Int)).bind fun y78 =>
       (cut y59.fst 1 (↑(List.length y59.fst) : Int)).bind fun y79 =>
       (L_spec_l2Same y78 y79).bind fun y80 =>
       if y80 = false then some (([], [], 3))
       else ((idx y1.fst 0).bind fun y81 =>
        (idx y59.fst 0).bind fun y82 =>
        (cut y1.fst 1 (↑(List.length y1.fst) : Int)).bind fun y83 =>
        if room 8 (List.length y83 + 1) then ((L_spec_l2Copy y1.snd).bind fun y84 =>
         if room 8 (List.length (y84 ++ y59.snd)) then ((L_spec_l2Made (w64 (y81 + y82) :: y83) (y84 ++ y59.snd)).bind fun y85 =>
          (y85).on (fun y86 => some (([], [], 6))) (fun y86 => some ((y86.fst, y86.snd, 0))))
         else none)
        else none))
      else some (([], [], 2))))) (fun y59 => if (↑(List.length y1.fst) : Int) = w64 ((↑(List.length y59.fst) : Int) + 1) then (if room 8 (List.length y59.fst + 1) then (if (↑(List.length y1.fst) : Int) = (↑(List.length y59.fst + 1) : Int) then ((cut y1.fst 1 (↑(List.length y1.fst) : Int)).bind fun y87 =>
       (cut (1 :: y59.fst) 1 (↑(List.length y59.fst + 1) : Int)).bind fun y88 =>
       (L_spec_l2Same y87 y88).bind fun y89 =>
       if y89 = false then some (([], [], 3))
       else ((idx y1.fst 0).bind fun y90 =>
        (idx (1 :: y59.fst) 0).bind fun y91 =>
        (cut y1.fst 1 (↑(List.length y1.fst) : Int)).bind fun y92 =>
        if room 8 (List.length y92 + 1) then ((L_spec_l2Copy y1.snd).bind fun y93 =>
         if room 8 (List.length (y93 ++ y59.snd)) then ((L_spec_l2Made (w64 (y90 + y91) :: y92) (y93 ++ y59.snd)).bind fun y94 =>
          (y94).on (fun y95 => some (([], [], 6))) (fun y95 => some ((y95.fst, y95.snd, 0))))
         else none)
        else none))
      else some (([], [], 2)))
     else none)
    else (if (↑(List.length y59.fst) : Int) = w64 ((↑(List.length y1.fst) : Int) + 1) then (if room 8 (List.length y1.fst + 1) then (if (↑(List.length y1.fst + 1) : Int) = (↑(List.length y59.fst) : Int) then ((cut (1 :: y1.fst) 1 (↑(List.length y1.fst + 1) : Int)).bind fun y96 =>
        (cut y59.fst 1 (↑(List.length y59.fst) : Int)).bind fun y97 =>
        (L_spec_l2Same y96 y97).bind fun y98 =>
        if y98 = false then some (([], [], 3))
        else ((idx (1 :: y1.fst) 0).bind fun y99 =>
         (idx y59.fst 0).bind fun y100 =>
         (cut (1 :: y1.fst) 1 (↑(List.length y1.fst + 1) : Int)).bind fun y101 =>
         if room 8 (List.length y101 + 1) then ((L_spec_l2Copy y1.snd).bind fun y102 =>
          if room 8 (List.length (y102 ++ y59.snd)) then ((L_spec_l2Made (w64 (y99 + y100) :: y101) (y102 ++ y59.snd)).bind fun y103 =>
           (y103).on (fun y104 => some (([], [], 6))) (fun y104 => some ((y104.fst, y104.snd, 0))))
          else none)
         else none))
       else some (([], [], 2)))
      else none)
     else (if (↑(List.length y1.fst) : Int) = (↑(List.length y59.fst) : Int) then ((cut y1.fst 1 (↑(List.length y1.fst) : Int)).bind fun y105 =>
       (cut y59.fst 1 (↑(List.length y59.fst) : Int)).bind fun y106 =>
       (L_spec_l2Same y105 y106).bind fun y107 =>
       if y107 = false then some (([], [], 3))
       else ((idx y1.fst 0).bind fun y108 =>
        (idx y59.fst 0).bind fun y109 =>
        (cut y1.fst 1 (↑(List.length y1.fst) : Int)).bind fun y110 =>
        if room 8 (List.length y110 + 1) then ((L_spec_l2Copy y1.snd).bind fun y111 =>
         if room 8 (List.length (y111 ++ y59.snd)) then ((L_spec_l2Made (w64 (y108 + y109) :: y110) (y111 ++ y59.snd)).bind fun y112 =>
          (y112).on (fun y113 => some (([], [], 6))) (fun y113 => some ((y113.fst, y113.snd, 0))))
         else none)
        else none))
      else some (([], [], 2))))))
theorem spec_l2Cat_g (E : En) (hy : Hy E [] [] [] r_spec_l2Cat none (fun y => nocap (asOwn (.node [.node [.own 3 1, .own 3 1], .k]) y)) flatIds) (L_spec_l2Axes : (List Int) → (List Int) → Option (Alt (List Int × List Int) (List Int × List Int))) (h_spec_l2Axes : H_spec_l2Axes E L_spec_l2Axes) (L_spec_l2Same : (List Int) → (List Int) → Option (Bool)) (h_spec_l2Same : H_spec_l2Same E L_spec_l2Same) (L_spec_l2Copy : (List Int) → Option (List Int)) (h_spec_l2Copy : H_spec_l2Copy E L_spec_l2Copy) (L_spec_l2Made : (List Int) → (List Int) → Option (Alt (List Int × List Int) (List Int × List Int))) (h_spec_l2Made : H_spec_l2Made E L_spec_l2Made) (a0_Shape : List Int) (a0_Data : List Int) (a1_Shape : List Int) (a1_Data : List Int) : G E c_spec_l2Cat [] ⟨slotsOf [(0, .agg [.d (lstT cI a0_Shape), .d (lstT cI a0_Data)]), (1, .agg [.d (lstT cI a1_Shape), .d (lstT cI a1_Data)])], obsOf []⟩ = (spec_l2Cat_f L_spec_l2Axes L_spec_l2Same L_spec_l2Copy L_spec_l2Made E.n a0_Shape a0_Data a1_Shape a1_Data).bind fun r => some (.ret (.tup [.agg [ownT (cI) 3 none false r.1, ownT (cI) 3 none false r.2.1], .d (.int .i64 r.2.2)]) []) := by
  simp (config := {maxSteps := 2000000}) only [↓rPre, rPost, rCan, rObj, rI, rS, rB, r8, rLI, rEtc, hy.p, hy.l, hy.k, hy.r, hy.d, hy.w, hy.f, flatIds, oid, r_spec_l2Cat, ↓G_unf _ _ c_spec_l2Cat.eq_1, h_spec_l2Axes.2, h_spec_l2Axes.1, h_spec_l2Same.2, h_spec_l2Same.1, h_spec_l2Copy.2, h_spec_l2Copy.1, h_spec_l2Made.2, h_spec_l2Made.1, bind_ite, spec_l2Cat_f, rFile, rRow78, rRow3, rRow53, rRow35, rArray, rRow39, rRow5, rRow9, rMap97, rLog, ↓reduceIte, Nat.reduceMul, Nat.reduceAdd, Nat.reduceSub, Nat.reduceEqDiff, Nat.reduceBEq, Nat.reduceLeDiff, Nat.reduceLT, reduceCtorEq, Int.reduceAdd, Int.reduceSub, Int.reduceToNat, Int.reduceNeg, Int.reduceEq, Int.reduceLT, Int.reduceLE]
def H_spec_l2Cat (E : En) (L : (List Int) → (List Int) → (List Int) → (List Int) → Option (List Int × List Int × Int)) : Prop := E.Γ.mu 39 = false ∧ (∀ (a0_Shape : List Int) (a0_Data : List Int) (a1_Shape : List Int) (a1_Data : List Int), E.Γ 39 [.agg [.d (lstT cI a0_Shape), .d (lstT cI a0_Data)], .agg [.d (lstT cI a1_Shape), .d (lstT cI a1_Data)]] = (L a0_Shape a0_Data a1_Shape a1_Data).bind fun r => some (.ret (.tup [.agg [ownT (cI) 3 none false r.1, ownT (cI) 3 none false r.2.1], .d (.int .i64 r.2.2)]) []))
-- loop.example/s02135/spec.l2From
def b0_spec_l2From : Cd :=
  sq (sq (r [2, 3, 4, 6, 8, 34] [o 30 .mv [t 8], o 31 (.fa 1) [t 2], o 32 (.ld none) [t 31], o 33 (.len false) [t 32], o 34 (.bin .lss) [t 30, t 33]])
   (.cond (t 34) (.skip) (.exit 0)))
  (sq (.block 1 (sq (sq (rd [] [2, 3, 4, 6, 8, 54] [o 37 (.fa 1) [t 2], o 38 (.ld none) [t 37], o 39 .mv [t 8], o 40 (.ia 1) [t 38, t 39], o 41 (.ld none) [t 40], o 42 (.bin .lss) [t 41, i 0], o 43 .mv [t 42], g 43 false 44 (.fa 1) [t 2], g 43 false 45 (.ld none) [t 44], g 43 false 46 .mv [t 8], g 43 false 47 (.ia 1) [t 45, t 46], g 43 false 48 (.ld none) [t 47], g 43 false 49 (.fa 0) [t 3], g 43 false 50 (.ld none) [t 49], g 43 false 51 (.ia 1) [t 50, i 0], g 43 false 52 (.ld none) [t 51], g 43 false 53 (.bin .geq) [t 48, t 52], o 54 .pick [t 43, b true, t 53]])
      (.cond (t 54) (sq (r [4, 5] [o 55 (.bld [.nil, .nil] []) [], e (.st 2) [t 4, t 55], o 5 .mv [i 4]])
        (.ret)) (.skip)))
     (rd [] [2, 3, 4, 6, 8] [o 56 (.fa 1) [t 6], o 57 (.ld none) [t 56], o 58 (.ld (some 2)) [t 3], o 59 (.fa 1) [t 2], o 60 (.ld none) [t 59], o 61 .mv [t 8], o 62 (.ia 1) [t 60, t 61], o 63 (.ld none) [t 62], ap [] false [6, 56] (o 64 (.call 89) [t 58, t 63]), o 65 (.fld 1 none) [t 64], o 66 (.app 3 1 8) [t 57, t 65], o 67 (.fa 1) [t 6], e (.st 1) [t 67, t 66]])))
   (r [2, 3, 4, 6, 8] [o 35 .mv [t 8], o 36 (.bin .add) [t 35, i 1], o 8 .mv [t 36]]))
def k1_spec_l2From : Cd :=
  sq (r [4, 5] [o 68 (.ld (some 2)) [t 6], e (.st 2) [t 4, t 68], o 5 .mv [i 0]])
  (.ret)
def c_spec_l2From : Cd :=
  sq (r [2, 3, 4] [o 2 .box [t 0], o 3 .box [t 1], o 4 (.alloc [.nil, .nil]) [], o 5 .mv [i 0]])
  (sq (sq (r [2, 3, 4, 12] [o 9 (.fa 0) [t 3], o 10 (.ld none) [t 9], o 11 (.len false) [t 10], o 12 (.bin .eql) [t 11, i 0]])
    (.cond (t 12) (sq (r [4, 5] [o 13 (.bld [.nil, .nil] []) [], e (.st 2) [t 4, t 13], o 5 .mv [i 2]])
      (.ret)) (.skip)))
   (sq (.frz 3 (rd [] [2, 3, 4, 6, 7] [ap [1408, 384] false [] (o 15 (.fa 0) [t 2]), ap [1408, 384] false [] (o 16 (.ld none) [t 15]), ap [1408, 384] false [] (o 18 (.fa 0) [t 3]), ap [1408, 384] false [] (o 19 (.ld none) [t 18]), ap [1408, 384] false [] (o 20 (.slc false 1 true false) [t 19, i 1]), ap [384] true [2, 15, 3, 18, 19] (o 22 (lit 3 1 0) []), ap [1408] true [2, 15, 3, 18, 19] (o 6 (.alloc [.nil, .nil]) []), ap [1408, 384] false [3, 18, 19] (o 17 (.call 43) [t 16]), ap [1408, 384] false [] (o 21 (.app 3 1 8) [t 17, t 20]), ap [384] false [] (o 23 (.call 86) [t 21, t 22]), ap [384] false [] (o 14 .mv [t 23]), ap [384] false [] (o 24 (.ext 0) [t 14]), ap [384] false [] (o 25 (.ext 1) [t 14]), e (.st 2) [t 6, t 24], o 7 .mv [t 25]]))
    (sq (sq (r [2, 3, 4, 6, 7, 27] [o 26 .mv [t 7], o 27 (.bin .neq) [t 26, i 0]])
      (.cond (t 27) (sq (r [4, 5] [o 28 (.ld (some 2)) [t 6], o 29 .mv [t 7], e (.st 2) [t 4, t 28], o 5 .mv [t 29]])
        (.ret)) (.skip)))
     (sq (sq (r [2, 3, 4, 6, 8] [o 8 .mv [i 0]])
       (.block 0 (.loop [2, 3, 4, 6, 8] b0_spec_l2From))) k1_spec_l2From))))
def r_spec_l2From : List RV := [.cell 4 (some 2), .tmp 5]
def spec_l2From_l0 (L_spec_l2Copy : (List Int) → Option (List Int)) (L_spec_l2Made : (List Int) → (List Int) → Option (Alt (List Int × List Int) (List Int × List Int))) (L_spec_l2Row : (List Int) → (List Int) → Int → Option (List Int × List Int)) : Nat → Int → (List Int) → (List Int) → (List Int) → (List Int) → (List Int) → (List Int) → Option (List Int × List Int × Int)
  | 0, _, _, _, _, _, _, _ => none
  | m0 + 1, x8, o128_0, o128_1, o192_0, o192_1, o385, o386 =>
    if x8 < (↑(List.length o128_1) : Int) then ((idx o128_1 x8).bind fun y0 =>
     if y0 < 0 then some (([], [], 4))
     else ((idx o128_1 x8).bind fun y1 =>
      (idx o192_0 0).bind fun y2 =>
      if y2 ≤ y1 then some (([], [], 4))
      else ((idx o128_1 x8).bind fun y3 =>
       (L_spec_l2Row o192_0 o192_1 y3).bind fun y4 =>
       if room 8 (List.length (o386 ++ y4.snd)) then spec_l2From_l0 L_spec_l2Copy L_spec_l2Made L_spec_l2Row m0 (w64 (x8 + 1)) o128_0 o128_1 o192_0 o192_1 o385 (o386 ++ y4.snd)
       else none)))
    else some ((o385, o386, 0))
def spec_l2From_f (L_spec_l2Copy : (List Int) → Option (List Int)) (L_spec_l2Made : (List Int) → (List Int) → Option (Alt (List Int × List Int) (List Int × List Int))) (L_spec_l2Row : (List Int) → (List Int) → Int → Option (List Int × List Int)) (N : Nat) (a0_Shape : List Int) (a0_Data : List Int) (a1_Shape : List Int) (a1_Data : List Int) : Option (List Int × List Int × Int) :=
  if (↑(List.length a1_Shape) : Int) = 0 then some (([], [], 2))
  else ((cut a1_Shape 1 (↑(List.length a1_Shape) : Int)).bind fun y0 =>
   (L_spec_l2Copy a0_Shape).bind fun y1 =>
   if room 8 (List.length (y1 ++ y0)) then ((L_spec_l2Made (y1 ++ y0) []).bind fun y2 =>
    (y2).on (fun y3 => some (([], [], 6))) (fun y3 => spec_l2From_l0 L_spec_l2Copy L_spec_l2Made L_spec_l2Row N 0 a0_Shape a0_Data a1_Shape a1_Data y3.fst y3.snd))
   else none)
theorem spec_l2From_l0_eq (E : En) (hy : Hy E [] [] [] r_spec_l2From none (fun y => nocap (asOwn (.node [.node [.own 3 1, .own 3 1], .k]) y)) flatIds) (L_spec_l2Copy : (List Int) → Option (List Int)) (h_spec_l2Copy : H_spec_l2Copy E L_spec_l2Copy) (L_spec_l2Made : (List Int) → (List Int) → Option (Alt (List Int × List Int) (List Int × List Int))) (h_spec_l2Made : H_spec_l2Made E L_spec_l2Made) (L_spec_l2Row : (List Int) → (List Int) → Int → Option (List Int × List Int)) (h_spec_l2Row : H_spec_l2Row E L_spec_l2Row) : ∀ (m0 : Nat) (x8 : Int) (o128_0 : List Int) (o128_1 : List Int) (o192_0 : List Int) (o192_1 : List Int) (o385 : List Int) (o386 : List Int), gH E [2, 3, 4, 6, 8] b0_spec_l2From [KJ.b 0, KJ.c k1_spec_l2From] m0 ⟨slotsOf [(2, A.adr 128 1 0), (3, A.adr 192 1 0), (4, A.adr 256 1 0), (6, A.adr 384 1 0), (8, .d (.int .i64 x8))], obsOf [(128, ⟨1, .box [.d (lstT (cI) o128_0), .d (lstT (cI) o128_1)], false⟩), (192, ⟨1, .box [.d (lstT (cI) o192_0), .d (lstT (cI) o192_1)], false⟩), (256, ⟨1, .box [A.nil, A.nil], false⟩), (384, ⟨1, .box [A.row 385 1, A.row 386 1], false⟩), (385, ⟨1, rowT (cI) 3 none o385, false⟩), (386, ⟨1, rowT (cI) 3 none o386, false⟩)]⟩ = (spec_l2From_l0 L_spec_l2Copy L_spec_l2Made L_spec_l2Row m0 x8 o128_0 o128_1 o192_0 o192_1 o385 o386).bind fun r => some (.ret (.tup [.agg [ownT (cI) 3 none false r.1, ownT (cI) 3 none false r.2.1], .d (.int .i64 r.2.2)]) []) := by
  intro m0
  induction m0 with
  | zero => intros; rfl
  | succ m0 ih =>
    intros
    simp (config := {maxSteps := 2000000}) only [↓rPre, rPost, rCan, rObj, rI, rS, rB, r8, rLI, rEtc, hy.p, hy.l, hy.k, hy.r, hy.d, hy.w, hy.f, flatIds, oid, r_spec_l2From, ↓G_unf _ _ b0_spec_l2From.eq_1, ↓G_unf _ _ k1_spec_l2From.eq_1, ↓G_unf _ _ c_spec_l2From.eq_1, h_spec_l2Copy.2, h_spec_l2Copy.1, h_spec_l2Made.2, h_spec_l2Made.1, h_spec_l2Row.2, h_spec_l2Row.1, gH_succ, ih, bind_ite, spec_l2From_l0, rFile, rRow78, rRow3, rRow53, rRow35, rArray, rRow39, rRow5, rRow9, rMap97, rLog, ↓reduceIte, Nat.reduceMul, Nat.reduceAdd, Nat.reduceSub, Nat.reduceEqDiff, Nat.reduceBEq, Nat.reduceLeDiff, Nat.reduceLT, reduceCtorEq, Int.reduceAdd, Int.reduceSub, Int.reduceToNat, Int.reduceNeg, Int.reduceEq, Int.reduceLT, Int.reduceLE]
theorem spec_l2From_g (E : En) (hy : Hy E [] [] [] r_spec_l2From none (fun y => nocap (asOwn (.node [.node [.own 3 1, .own 3 1], .k]) y)) flatIds) (L_spec_l2Copy : (List Int) → Option (List Int)) (h_spec_l2Copy : H_spec_l2Copy E L_spec_l2Copy) (L_spec_l2Made : (List Int) → (List Int) → Option (Alt (List Int × List Int) (List Int × List Int))) (h_spec_l2Made : H_spec_l2Made E L_spec_l2Made) (L_spec_l2Row : (List Int) → (List Int) → Int → Option (List Int × List Int)) (h_spec_l2Row : H_spec_l2Row E L_spec_l2Row) (a0_Shape : List Int) (a0_Data : List Int) (a1_Shape : List Int) (a1_Data : List Int) : G E c_spec_l2From [] ⟨slotsOf [(0, .agg [.d (lstT cI a0_Shape), .d (lstT cI a0_Data)]), (1, .agg [.d (lstT cI a1_Shape), .d (lstT cI a1_Data)])], obsOf []⟩ = (spec_l2From_f L_spec_l2Copy L_spec_l2Made L_spec_l2Row E.n a0_Shape a0_Data a1_Shape a1_Data).bind fun r => some (.ret (.tup [.agg [ownT (cI) 3 none false r.1, ownT (cI) 3 none false r.2.1], .d (.int .i64 r.2.2)]) []) := by
  simp (config := {maxSteps := 2000000}) only [↓rPre, rPost, rCan, rObj, rI, rS, rB, r8, rLI, rEtc, hy.p, hy.l, hy.k, hy.r, hy.d, hy.w, hy.f, flatIds, oid, r_spec_l2From, ↓G_unf _ _ b0_spec_l2From.eq_1, ↓G_unf _ _ k1_spec_l2From.eq_1, ↓G_unf _ _ c_spec_l2From.eq_1, h_spec_l2Copy.2, h_spec_l2Copy.1, h_spec_l2Made.2, h_spec_l2Made.1, h_spec_l2Row.2, h_spec_l2Row.1, bind_ite, spec_l2From_f, spec_l2From_l0_eq E hy L_spec_l2Copy h_spec_l2Copy L_spec_l2Made h_spec_l2Made L_spec_l2Row h_spec_l2Row, rFile, rRow78, rRow3, rRow53, rRow35, rArray, rRow39, rRow5, rRow9, rMap97, rLog, ↓reduceIte, Nat.reduceMul, Nat.reduceAdd, Nat.reduceSub, Nat.reduceEqDiff, Nat.reduceBEq, Nat.reduceLeDiff, Nat.reduceLT, reduceCtorEq, Int.reduceAdd, Int.reduceSub, Int.reduceToNat, Int.reduceNeg, Int.reduceEq, Int.reduceLT, Int.reduceLE]
def H_spec_l2From (E : En) (L : (List Int) → (List Int) → (List Int) → (List Int) → Option (List Int × List Int × Int)) : Prop := E.Γ.mu 40 = false ∧ (∀ (a0_Shape : List Int) (a0_Data : List Int) (a1_Shape : List Int) (a1_Data : List Int), E.Γ 40 [.agg [.d (lstT cI a0_Shape), .d (lstT cI a0_Data)], .agg [.d (lstT cI a1_Shape), .d (lstT cI a1_Data)]] = (L a0_Shape a0_Data a1_Shape a1_Data).bind fun r => some (.ret (.tup [.agg [ownT (cI) 3 none false r.1, ownT (cI) 3 none false r.2.1], .d (.int .i64 r.2.2)]) []))
-- loop.example/s02135/spec.l2Bool
def c_spec_l2Bool : Cd :=
  sq (r [0] [o 2 .mv [i 0]])
  (sq (sq (r [3] [o 3 .mv [t 0]])
    (.cond (t 3) (sq (r [2] [o 2 .mv [i 1]])
      (.ret)) (.skip)))
   (sq (r [2] [o 2 .mv [i 0]])
    (.ret)))
def r_spec_l2Bool : List RV := [.tmp 2]
def spec_l2Bool_f (N : Nat) (a0 : Bool) : Option (Int) :=
  if a0 = true then some 1
  else some 0
theorem spec_l2Bool_g (E : En) (hy : Hy E [] [] [] r_spec_l2Bool none (fun y => nocap y) flatIds) (a0 : Bool) : G E c_spec_l2Bool [] ⟨slotsOf [(0, .d (.bool a0))], obsOf []⟩ = (spec_l2Bool_f E.n a0).bind fun r => some (.ret (.d (.int .i64 r)) []) := by
  simp (config := {maxSteps := 2000000}) only [↓rPre, rPost, rCan, rObj, rI, rS, rB, r8, rLI, rEtc, hy.p, hy.l, hy.k, hy.r, hy.d, hy.w, hy.f, flatIds, oid, r_spec_l2Bool, ↓G_unf _ _ c_spec_l2Bool.eq_1, bind_ite, spec_l2Bool_f, rFile, rRow78, rRow3, rRow53, rRow35, rArray, rRow39, rRow5, rRow9, rMap97, rLog, ↓reduceIte, Nat.reduceMul, Nat.reduceAdd, Nat.reduceSub, Nat.reduceEqDiff, Nat.reduceBEq, Nat.reduceLeDiff, Nat.reduceLT, reduceCtorEq, Int.reduceAdd, Int.reduceSub, Int.reduceToNat, Int.reduceNeg, Int.reduceEq, Int.reduceLT, Int.reduceLE]
def H_spec_l2Bool (E : En) (L : Bool → Option (Int)) : Prop := E.Γ.mu 41 = false ∧ (∀ (a0 : Bool), E.Γ 41 [.d (.bool a0)] = (L a0).bind fun r => some (.ret (.d (.int .i64 r)) []))
-- loop.example/s02135/spec.l2Find
def b0_spec_l2Find : Cd :=
  sq (sq (r [0, 1, 5, 9] [o 6 .mv [t 5], o 7 .mv [t 0], o 8 (.len false) [t 7], o 9 (.bin .lss) [t 6, t 8]])
   (.cond (t 9) (.skip) (.exit 0)))
  (sq (.block 1 (sq (r [0, 1, 5, 17] [o 12 .mv [t 0], o 13 .mv [t 5], o 14 (.ia 1) [t 12, t 13], o 15 (.ld none) [t 14], o 16 .mv [t 1], o 17 (.bin .eql) [t 15, t 16]])
     (.cond (t 17) (sq (r [4] [o 18 .mv [t 5], o 4 .mv [t 18]])
       (.ret)) (.skip))))
   (r [0, 1, 5] [o 10 .mv [t 5], o 11 (.bin .add) [t 10, i 1], o 5 .mv [t 11]]))
def k1_spec_l2Find : Cd :=
  sq (r [4] [o 19 .mv [t 0], o 20 (.len false) [t 19], o 4 .mv [t 20]])
  (.ret)
def c_spec_l2Find : Cd :=
  sq (r [0, 1] [o 4 .mv [i 0]])
  (sq (sq (r [0, 1, 5] [o 5 .mv [i 0]])
    (.block 0 (.loop [0, 1, 5] b0_spec_l2Find))) k1_spec_l2Find)
def r_spec_l2Find : List RV := [.tmp 4]
def spec_l2Find_l0 : Nat → (List Int) → Int → Int → Option (Int)
  | 0, _, _, _ => none
  | m0 + 1, x0, x1, x5 =>
    if x5 < (↑(List.length x0) : Int) then ((idx x0 x5).bind fun y0 =>
     if y0 = x1 then some x5
     else spec_l2Find_l0 m0 x0 x1 (w64 (x5 + 1)))
    else some ((↑(List.length x0) : Int))
def spec_l2Find_f (N : Nat) (a0 : List Int) (a1 : Int) : Option (Int) :=
  spec_l2Find_l0 N a0 a1 0
theorem spec_l2Find_l0_eq (E : En) (hy : Hy E [] [] [] r_spec_l2Find none (fun y => nocap y) flatIds) : ∀ (m0 : Nat) (x0 : List Int) (x1 : Int) (x5 : Int), gH E [0, 1, 5] b0_spec_l2Find [KJ.b 0, KJ.c k1_spec_l2Find] m0 ⟨slotsOf [(0, .d (lstT (cI) x0)), (1, .d (.int .i64 x1)), (5, .d (.int .i64 x5))], obsOf []⟩ = (spec_l2Find_l0 m0 x0 x1 x5).bind fun r => some (.ret (.d (.int .i64 r)) []) := by
  intro m0
  induction m0 with
  | zero => intros; rfl
  | succ m0 ih =>
    intros
    simp (config := {maxSteps := 2000000}) only [↓rPre, rPost, rCan, rObj, rI, rS, rB, r8, rLI, rEtc, hy.p, hy.l, hy.k, hy.r, hy.d, hy.w, hy.f, flatIds, oid, r_spec_l2Find, ↓G_unf _ _ b0_spec_l2Find.eq_1, ↓G_unf _ _ k1_spec_l2Find.eq_1, ↓G_unf _ _ c_spec_l2Find.eq_1, gH_succ, ih, bind_ite, spec_l2Find_l0, rFile, rRow78, rRow3, rRow53, rRow35, rArray, rRow39, rRow5, rRow9, rMap97, rLog, ↓reduceIte, Nat.reduceMul, Nat.reduceAdd, Nat.reduceSub, Nat.reduceEqDiff, Nat.reduceBEq, Nat.reduceLeDiff, Nat.reduceLT, reduceCtorEq, Int.reduceAdd, Int.reduceSub, Int.reduceToNat, Int.reduceNeg, Int.reduceEq, Int.reduceLT, Int.reduceLE]
theorem spec_l2Find_g (E : En) (hy : Hy E [] [] [] r_spec_l2Find none (fun y => nocap y) flatIds) (a0 : List Int) (a1 : Int) : G E c_spec_l2Find [] ⟨slotsOf [(0, .d (lstT cI a0)), (1, .d (.int .i64 a1))], obsOf []⟩ = (spec_l2Find_f E.n a0 a1).bind fun r => some (.ret (.d (.int .i64 r)) []) := by
  simp (config := {maxSteps := 2000000}) only [↓rPre, rPost, rCan, rObj, rI, rS, rB, r8, rLI, rEtc, hy.p, hy.l, hy.k, hy.r, hy.d, hy.w, hy.f, flatIds, oid, r_spec_l2Find, ↓G_unf _ _ b0_spec_l2Find.eq_1, ↓G_unf _ _ k1_spec_l2Find.eq_1, ↓G_unf _ _ c_spec_l2Find.eq_1, bind_ite, spec_l2Find_f, spec_l2Find_l0_eq E hy, rFile, rRow78, rRow3, rRow53, rRow35, rArray, rRow39, rRow5, rRow9, rMap97, rLog, ↓reduceIte, Nat.reduceMul, Nat.reduceAdd, Nat.reduceSub, Nat.reduceEqDiff, Nat.reduceBEq, Nat.reduceLeDiff, Nat.reduceLT, reduceCtorEq, Int.reduceAdd, Int.reduceSub, Int.reduceToNat, Int.reduceNeg, Int.reduceEq, Int.reduceLT, Int.reduceLE]
def H_spec_l2Find (E : En) (L : (List Int) → Int → Option (Int)) : Prop := E.Γ.mu 44 = false ∧ (∀ (a0 : List Int) (a1 : Int), E.Γ 44 [.d (lstT cI a0), .d (.int .i64 a1)] = (L a0 a1).bind fun r => some (.ret (.d (.int .i64 r)) []))
-- loop.example/s02135/spec.Dyad
def b0_spec_Dyad : Cd :=
  sq (sq (r [4, 5, 6, 8, 9, 92] [o 88 .mv [t 9], o 89 (.fa 1) [t 5], o 90 (.ld none) [t 89], o 91 (.len false) [t 90], o 92 (.bin .lss) [t 88, t 91]])
   (.cond (t 92) (.skip) (.exit 0)))
  (sq (.block 1 (rd [] [4, 5, 6, 8, 9] [o 95 (.fa 1) [t 8], o 96 (.ld none) [t 95], o 97 (.fa 1) [t 4], o 98 (.ld none) [t 97], o 99 (.fa 1) [t 5], o 100 (.ld none) [t 99], o 101 .mv [t 9], o 102 (.ia 1) [t 100, t 101], o 103 (.ld none) [t 102], ap [] false [8, 95] (o 104 (.call 44) [t 98, t 103]), ap [] false [8, 95] (o 105 (lit 3 1 1) [t 104]), o 106 (.app 3 1 8) [t 96, t 105], o 107 (.fa 1) [t 8], e (.st 1) [t 107, t 106]]))
   (r [4, 5, 6, 8, 9] [o 93 .mv [t 9], o 94 (.bin .add) [t 93, i 1], o 9 .mv [t 94]]))
def k1_spec_Dyad : Cd :=
  sq (r [6, 7] [o 108 (.ld (some 2)) [t 8], e (.st 2) [t 6, t 108], o 7 .mv [i 0]])
  (.ret)
def c_spec_Dyad : Cd :=
  sq (r [0, 4, 5, 6] [o 4 .box [t 1], o 5 .box [t 2], o 6 (.alloc [.nil, .nil]) [], o 7 .mv [i 0]])
  (sq (sq (r [0, 4, 5, 6, 25] [o 10 .mv [t 0], o 11 (.bin .lss) [t 10, i 1], o 12 .mv [t 11], g 12 false 13 .mv [t 0], g 12 false 14 (.bin .gtr) [t 13, i 7], o 15 .pick [t 12, b true, t 14], o 16 .mv [t 15], g 16 false 17 (.ld (some 2)) [t 4], g 16 false 18 (.call 36) [t 17], g 16 false 19 .not [t 18], o 20 .pick [t 16, b true, t 19], o 21 .mv [t 20], g 21 false 22 (.ld (some 2)) [t 5], g 21 false 23 (.call 36) [t 22], g 21 false 24 .not [t 23], o 25 .pick [t 21, b true, t 24]])
    (.cond (t 25) (sq (r [6, 7] [o 26 (.bld [.nil, .nil] []) [], e (.st 2) [t 6, t 26], o 7 .mv [i 9]])
      (.ret)) (.skip)))
   (sq (sq (r [0, 4, 5, 6, 28] [o 27 .mv [t 0], o 28 (.bin .eql) [t 27, i 1]])
     (.cond (t 28) (sq (r [6, 7] [o 29 (.ld (some 2)) [t 4], o 30 (.ld (some 2)) [t 5], o 31 (.call 37) [t 29, t 30], o 32 (.ext 0) [t 31], o 33 (.ext 1) [t 31], e (.st 2) [t 6, t 32], o 7 .mv [t 33]])
       (.ret)) (.skip)))
    (sq (sq (r [0, 4, 5, 6, 39] [o 34 .mv [t 0], o 35 (.bin .eql) [t 34, i 2], o 36 .mv [t 35], g 36 false 37 .mv [t 0], g 36 false 38 (.bin .eql) [t 37, i 3], o 39 .pick [t 36, b true, t 38]])
      (.cond (t 39) (sq (r [6, 7] [o 40 .mv [t 0], o 41 (.ld (some 2)) [t 4], o 42 (.ld (some 2)) [t 5], o 43 (.call 38) [t 40, t 41, t 42], o 44 (.ext 0) [t 43], o 45 (.ext 1) [t 43], e (.st 2) [t 6, t 44], o 7 .mv [t 45]])
        (.ret)) (.skip)))
     (sq (sq (r [0, 4, 5, 6, 47] [o 46 .mv [t 0], o 47 (.bin .eql) [t 46, i 4]])
       (.cond (t 47) (sq (r [6, 7] [o 48 (.ld (some 2)) [t 4], o 49 (.ld (some 2)) [t 5], o 50 (.call 39) [t 48, t 49], o 51 (.ext 0) [t 50], o 52 (.ext 1) [t 50], e (.st 2) [t 6, t 51], o 7 .mv [t 52]])
         (.ret)) (.skip)))
      (sq (sq (r [0, 4, 5, 6, 54] [o 53 .mv [t 0], o 54 (.bin .eql) [t 53, i 5]])
        (.cond (t 54) (sq (r [6, 7] [o 55 (.ld (some 2)) [t 4], o 56 (.ld (some 2)) [t 5], o 57 (.call 40) [t 55, t 56], o 58 (.ext 0) [t 57], o 59 (.ext 1) [t 57], e (.st 2) [t 6, t 58], o 7 .mv [t 59]])
          (.ret)) (.skip)))
       (sq (sq (r [4, 5, 6, 61] [o 60 .mv [t 0], o 61 (.bin .eql) [t 60, i 7]])
         (.cond (t 61) (sq (r [6, 7] [o 62 (lit 3 1 0) [], o 63 (.fa 0) [t 4], o 64 (.ld none) [t 63], o 65 (.fa 0) [t 5], o 66 (.ld none) [t 65], o 67 (.call 42) [t 64, t 66], o 68 .mv [t 67], g 68 true 69 (.fa 1) [t 4], g 68 true 70 (.ld none) [t 69], g 68 true 71 (.fa 1) [t 5], g 68 true 72 (.ld none) [t 71], g 68 true 73 (.call 42) [t 70, t 72], o 74 .pick [t 68, t 73, b false], o 75 (.call 41) [t 74], o 76 (lit 3 1 1) [t 75], o 77 (.bld [.nil, .nil] [(0, 1), (1, 1)]) [t 62, t 76], e (.st 2) [t 6, t 77], o 7 .mv [i 0]])
           (.ret)) (.skip)))
        (sq (sq (r [4, 5, 6, 81] [o 78 (.fa 0) [t 4], o 79 (.ld none) [t 78], o 80 (.len false) [t 79], o 81 (.bin .neq) [t 80, i 1]])
          (.cond (t 81) (sq (r [6, 7] [o 82 (.bld [.nil, .nil] []) [], e (.st 2) [t 6, t 82], o 7 .mv [i 2]])
            (.ret)) (.skip)))
         (sq (r [4, 5, 6, 8] [o 83 (.fa 0) [t 5], o 84 (.ld none) [t 83], o 85 (.call 43) [t 84], o 86 (lit 3 1 0) [], o 87 (.bld [.nil, .nil] [(0, 1), (1, 1)]) [t 85, t 86], o 8 (.alloc [.nil, .nil]) [], e (.st 2) [t 8, t 87]])
          (sq (sq (r [4, 5, 6, 8, 9] [o 9 .mv [i 0]])
            (.block 0 (.loop [4, 5, 6, 8, 9] b0_spec_Dyad))) k1_spec_Dyad)))))))))
def r_spec_Dyad : List RV := [.cell 6 (some 2), .tmp 7]
def spec_Dyad_l0 (L_spec_ArrayOk : (List Int) → (List Int) → Option (Bool)) (L_spec_l2Reshape : (List Int) → (List Int) → (List Int) → (List Int) → Option (List Int × List Int × Int)) (L_spec_l2Take : Int → (List Int) → (List Int) → (List Int) → (List Int) → Option (List Int × List Int × Int)) (L_spec_l2Cat : (List Int) → (List Int) → (List Int) → (List Int) → Option (List Int × List Int × Int)) (L_spec_l2From : (List Int) → (List Int) → (List Int) → (List Int) → Option (List Int × List Int × Int)) (L_spec_l2Same : (List Int) → (List Int) → Option (Bool)) (L_spec_l2Bool : Bool → Option (Int)) (L_spec_l2Copy : (List Int) → Option (List Int)) (L_spec_l2Find : (List Int) → Int → Option (Int)) : Nat → Int → (List Int) → (List Int) → (List Int) → (List Int) → (List Int) → (List Int) → Option (List Int × List Int × Int)
  | 0, _, _, _, _, _, _, _ => none
  | m0 + 1, x9, o256_0, o256_1, o320_0, o320_1, o513, o514 =>
    if x9 < (↑(List.length o320_1) : Int) then ((idx o320_1 x9).bind fun y0 =>
     (L_spec_l2Find o256_1 y0).bind fun y1 =>
     if room 8 (List.length (o514 ++ [y1])) then spec_Dyad_l0 L_spec_ArrayOk L_spec_l2Reshape L_spec_l2Take L_spec_l2Cat L_spec_l2From L_spec_l2Same L_spec_l2Bool L_spec_l2Copy L_spec_l2Find m0 (w64 (x9 + 1)) o256_0 o256_1 o320_0 o320_1 o513 (o514 ++ [y1])
     else none)
    else some ((o513, o514, 0))
def spec_Dyad_f (L_spec_ArrayOk : (List Int) → (List Int) → Option (Bool)) (L_spec_l2Reshape : (List Int) → (List Int) → (List Int) → (List Int) → Option (List Int × List Int × Int)) (L_spec_l2Take : Int → (List Int) → (List Int) → (List Int) → (List Int) → Option (List Int × List Int × Int)) (L_spec_l2Cat : (List Int) → (List Int) → (List Int) → (List Int) → Option (List Int × List Int × Int)) (L_spec_l2From : (List Int) → (List Int) → (List Int) → (List Int) → Option (List Int × List Int × Int)) (L_spec_l2Same : (List Int) → (List Int) → Option (Bool)) (L_spec_l2Bool : Bool → Option (Int)) (L_spec_l2Copy : (List Int) → Option (List Int)) (L_spec_l2Find : (List Int) → Int → Option (Int)) (N : Nat) (a0 : Int) (a1_Shape : List Int) (a1_Data : List Int) (a2_Shape : List Int) (a2_Data : List Int) : Option (List Int × List Int × Int) :=
  if a0 < 1 then some (([], [], 9))
  else (if 7 < a0 then some (([], [], 9))
   else ((L_spec_ArrayOk a1_Shape a1_Data).bind fun y0 =>
    if y0 = false then some (([], [], 9))
    else ((L_spec_ArrayOk a2_Shape a2_Data).bind fun y1 =>
     if y1 = false then some (([], [], 9))
     else (if a0 = 1 then ((L_spec_l2Reshape a1_Shape a1_Data a2_Shape a2_Data).bind fun y2 =>
       some ((y2.fst, y2.snd.fst, y2.snd.snd)))
      else (if a0 = 2 then ((L_spec_l2Take a0 a1_Shape a1_Data a2_Shape a2_Data).bind fun y3 =>
        some ((y3.fst, y3.snd.fst, y3.snd.snd)))
       else (if a0 = 3 then ((L_spec_l2Take a0 a1_Shape a1_Data a2_Shape a2_Data).bind fun y4 =>
         some ((y4.fst, y4.snd.fst, y4.snd.snd)))
        else (if a0 = 4 then ((L_spec_l2Cat a1_Shape a1_Data a2_Shape a2_Data).bind fun y5 =>
          some ((y5.fst, y5.snd.fst, y5.snd.snd)))
         else (if a0 = 5 then ((L_spec_l2From a1_Shape a1_Data a2_Shape a2_Data).bind fun y6 =>
           some ((y6.fst, y6.snd.fst, y6.snd.snd)))
          else (if a0 = 7 then ((L_spec_l2Same a1_Shape a2_Shape).bind fun y7 =>
            if y7 = true then ((L_spec_l2Same a1_Data a2_Data).bind fun y8 =>
             (L_spec_l2Bool y8).bind fun y9 =>
             some (([], [y9], 0)))
            else ((L_spec_l2Bool false).bind fun y10 =>
             some (([], [y10], 0))))
           else (if (↑(List.length a1_Shape) : Int) = 1 then ((L_spec_l2Copy a2_Shape).bind fun y11 =>
             spec_Dyad_l0 L_spec_ArrayOk L_spec_l2Reshape L_spec_l2Take L_spec_l2Cat L_spec_l2From L_spec_l2Same L_spec_l2Bool L_spec_l2Copy L_spec_l2Find N 0 a1_Shape a1_Data a2_Shape a2_Data y11 [])
            else some (([], [], 2))))))))))))
theorem spec_Dyad_l0_eq (E : En) (hy : Hy E [] [] [] r_spec_Dyad none (fun y => nocap (asOwn (.node [.node [.own 3 1, .own 3 1], .k]) y)) flatIds) (L_spec_ArrayOk : (List Int) → (List Int) → Option (Bool)) (h_spec_ArrayOk : H_spec_ArrayOk E L_spec_ArrayOk) (L_spec_l2Reshape : (List Int) → (List Int) → (List Int) → (List Int) → Option (List Int × List Int × Int)) (h_spec_l2Reshape : H_spec_l2Reshape E L_spec_l2Reshape) (L_spec_l2Take : Int → (List Int) → (List Int) → (List Int) → (List Int) → Option (List Int × List Int × Int)) (h_spec_l2Take : H_spec_l2Take E L_spec_l2Take) (L_spec_l2Cat : (List Int) → (List Int) → (List Int) → (List Int) → Option (List Int × List Int × Int)) (h_spec_l2Cat : H_spec_l2Cat E L_spec_l2Cat) (L_spec_l2From : (List Int) → (List Int) → (List Int) → (List Int) → Option (List Int × List Int × Int)) (h_spec_l2From : H_spec_l2From E L_spec_l2From) (L_spec_l2Same : (List Int) → (List Int) → Option (Bool)) (h_spec_l2Same : H_spec_l2Same E L_spec_l2Same) (L_spec_l2Bool : Bool → Option (Int)) (h_spec_l2Bool : H_spec_l2Bool E L_spec_l2Bool) (L_spec_l2Copy : (List Int) → Option (List Int)) (h_spec_l2Copy : H_spec_l2Copy E L_spec_l2Copy) (L_spec_l2Find : (List Int) → Int → Option (Int)) (h_spec_l2Find : H_spec_l2Find E L_spec_l2Find) : ∀ (m0 : Nat) (x9 : Int) (o256_0 : List Int) (o256_1 : List Int) (o320_0 : List Int) (o320_1 : List Int) (o513 : List Int) (o514 : List Int), gH E [4, 5, 6, 8, 9] b0_spec_Dyad [KJ.b 0, KJ.c k1_spec_Dyad] m0 ⟨slotsOf [(4, A.adr 256 1 0), (5, A.adr 320 1 0), (6, A.adr 384 1 0), (8, A.adr 512 1 0), (9, .d (.int .i64 x9))], obsOf [(256, ⟨1, .box [.d (lstT (cI) o256_0), .d (lstT (cI) o256_1)], false⟩), (320, ⟨1, .box [.d (lstT (cI) o320_0), .d (lstT (cI) o320_1)], false⟩), (384, ⟨1, .box [A.nil, A.nil], false⟩), (512, ⟨1, .box [A.row 513 1, A.row 514 1], false⟩), (513, ⟨1, rowT (cI) 3 none o513, false⟩), (514, ⟨1, rowT (cI) 3 none o514, false⟩)]⟩ = (spec_Dyad_l0 L_spec_ArrayOk L_spec_l2Reshape L_spec_l2Take L_spec_l2Cat L_spec_l2From L_spec_l2Same L_spec_l2Bool L_spec_l2Copy L_spec_l2Find m0 x9 o256_0 o256_1 o320_0 o320_1 o513 o514).bind fun r => some (.ret (.tup [.agg [ownT (cI) 3 none false r.1, ownT (cI) 3 none false r.2.1], .d (.int .i64 r.2.2)]) []) := by
  intro m0
  induction m0 with
  | zero => intros; rfl
  | succ m0 ih =>
    intros
    simp (config := {maxSteps := 2000000}) only [↓rPre, rPost, rCan, rObj, rI, rS, rB, r8, rLI, rEtc, hy.p, hy.l, hy.k, hy.r, hy.d, hy.w, hy.f, flatIds, oid, r_spec_Dyad, ↓G_unf _ _ b0_spec_Dyad.eq_1, ↓G_unf _ _ k1_spec_Dyad.eq_1, ↓G_unf _ _ c_spec_Dyad.eq_1, h_spec_ArrayOk.2, h_spec_ArrayOk.1, h_spec_l2Reshape.2, h_spec_l2Reshape.1, h_spec_l2Take.2, h_spec_l2Take.1, h_spec_l2Cat.2, h_spec_l2Cat.1, h_spec_l2From.2, h_spec_l2From.1, h_spec_l2Same.2, h_spec_l2Same.1, h_spec_l2Bool.2, h_spec_l2Bool.1, h_spec_l2Copy.2, h_spec_l2Copy.1, h_spec_l2Find.2, h_spec_l2Find.1, gH_succ, ih, bind_ite, spec_Dyad_l0, rFile, rRow78, rRow3, rRow53, rRow35, rArray, rRow39, rRow5, rRow9, rMap97, rLog, ↓reduceIte, Nat.reduceMul, Nat.reduceAdd, Nat.reduceSub, Nat.reduceEqDiff, Nat.reduceBEq, Nat.reduceLeDiff, Nat.reduceLT, reduceCtorEq, Int.reduceAdd, Int.reduceSub, Int.reduceToNat, Int.reduceNeg, Int.reduceEq, Int.reduceLT, Int.reduceLE]
theorem spec_Dyad_g (E : En) (hy : Hy E [] [] [] r_spec_Dyad none (fun y => nocap (asOwn (.node [.node [.own 3 1, .own 3 1], .k]) y)) flatIds) (L_spec_ArrayOk : (List Int) → (List Int) → Option (Bool)) (h_spec_ArrayOk : H_spec_ArrayOk E L_spec_ArrayOk) (L_spec_l2Reshape : (List Int) → (List Int) → (List Int) → (List Int) → Option (List Int × List Int × Int)) (h_spec_l2Reshape : H_spec_l2Reshape E L_spec_l2Reshape) (L_spec_l2Take : Int → (List Int) → (List Int) → (List Int) → (List Int) → Option (List Int × List Int × Int)) (h_spec_l2Take : H_spec_l2Take E L_spec_l2Take) (L_spec_l2Cat : (List Int) → (List Int) → (List Int) → (List Int) → Option (List Int × List Int × Int)) (h_spec_l2Cat : H_spec_l2Cat E L_spec_l2Cat) (L_spec_l2From : (List Int) → (List Int) → (List Int) → (List Int) → Option (List Int × List Int × Int)) (h_spec_l2From : H_spec_l2From E L_spec_l2From) (L_spec_l2Same : (List Int) → (List Int) → Option (Bool)) (h_spec_l2Same : H_spec_l2Same E L_spec_l2Same) (L_spec_l2Bool : Bool → Option (Int)) (h_spec_l2Bool : H_spec_l2Bool E L_spec_l2Bool) (L_spec_l2Copy : (List Int) → Option (List Int)) (h_spec_l2Copy : H_spec_l2Copy E L_spec_l2Copy) (L_spec_l2Find : (List Int) → Int → Option (Int)) (h_spec_l2Find : H_spec_l2Find E L_spec_l2Find) (a0 : Int) (a1_Shape : List Int) (a1_Data : List Int) (a2_Shape : List Int) (a2_Data : List Int) : G E c_spec_Dyad [] ⟨slotsOf [(0, .d (.int .i64 a0)), (1, .agg [.d (lstT cI a1_Shape), .d (lstT cI a1_Data)]), (2, .agg [.d (lstT cI a2_Shape), .d (lstT cI a2_Data)])], obsOf []⟩ = (spec_Dyad_f L_spec_ArrayOk L_spec_l2Reshape L_spec_l2Take L_spec_l2Cat L_spec_l2From L_spec_l2Same L_spec_l2Bool L_spec_l2Copy L_spec_l2Find E.n a0 a1_Shape a1_Data a2_Shape a2_Data).bind fun r => some (.ret (.tup [.agg [ownT (cI) 3 none false r.1, ownT (cI) 3 none false r.2.1], .d (.int .i64 r.2.2)]) []) := by
  simp (config := {maxSteps := 2000000}) only [↓rPre, rPost, rCan, rObj, rI, rS, rB, r8, rLI, rEtc, hy.p, hy.l, hy.k, hy.r, hy.d, hy.w, hy.f, flatIds, oid, r_spec_Dyad, ↓G_unf _ _ b0_spec_Dyad.eq_1, ↓G_unf _ _ k1_spec_Dyad.eq_1, ↓G_unf _ _ c_spec_Dyad.eq_1, h_spec_ArrayOk.2, h_spec_ArrayOk.1, h_spec_l2Reshape.2, h_spec_l2Reshape.1, h_spec_l2Take.2, h_spec_l2Take.1, h_spec_l2Cat.2, h_spec_l2Cat.1, h_spec_l2From.2, h_spec_l2From.1, h_spec_l2Same.2, h_spec_l2Same.1, h_spec_l2Bool.2, h_spec_l2Bool.1, h_spec_l2Copy.2, h_spec_l2Copy.1, h_spec_l2Find.2, h_spec_l2Find.1, bind_ite, spec_Dyad_f, spec_Dyad_l0_eq E hy L_spec_ArrayOk h_spec_ArrayOk L_spec_l2Reshape h_spec_l2Reshape L_spec_l2Take h_spec_l2Take L_spec_l2Cat h_spec_l2Cat L_spec_l2From h_spec_l2From L_spec_l2Same h_spec_l2Same L_spec_l2Bool h_spec_l2Bool L_spec_l2Copy h_spec_l2Copy L_spec_l2Find h_spec_l2Find, rFile, rRow78, rRow3, rRow53, rRow35, rArray, rRow39, rRow5, rRow9, rMap97, rLog, ↓reduceIte, Nat.reduceMul, Nat.reduceAdd, Nat.reduceSub, Nat.reduceEqDiff, Nat.reduceBEq, Nat.reduceLeDiff, Nat.reduceLT, reduceCtorEq, Int.reduceAdd, Int.reduceSub, Int.reduceToNat, Int.reduceNeg, Int.reduceEq, Int.reduceLT, Int.reduceLE]
def H_spec_Dyad (E : En) (L : Int → (List Int) → (List Int) → (List Int) → (List Int) → Option (List Int × List Int × Int)) : Prop := E.Γ.mu 14 = false ∧ (∀ (a0 : Int) (a1_Shape : List Int) (a1_Data : List Int) (a2_Shape : List Int) (a2_Data : List Int), E.Γ 14 [.d (.int .i64 a0), .agg [.d (lstT cI a1_Shape), .d (lstT cI a1_Data)], .agg [.d (lstT cI a2_Shape), .d (lstT cI a2_Data)]] = (L a0 a1_Shape a1_Data a2_Shape a2_Data).bind fun r => some (.ret (.tup [.agg [ownT (cI) 3 none false r.1, ownT (cI) 3 none false r.2.1], .d (.int .i64 r.2.2)]) []))
-- loop.example/s02135/impl.reshaped
def b0_impl_reshaped : Cd :=
  sq (r [2, 3, 4, 25, 26, 27, 28] [o 28 (.bin .lss) [t 27, t 26]])
  (sq (.cond (t 28) (.skip) (.exit 0))
   (sq (.block 1 (sq (r [2, 3, 4, 6, 25, 26, 27] [o 29 (.ia 1) [t 25, t 27], o 30 (.ld none) [t 29], o 6 .mv [t 30]])
      (sq (r [2, 3, 4, 25, 26, 27, 32] [o 31 .mv [t 6], o 32 (.bin .lss) [t 31, i 0]])
       (.cond (t 32) (r [2, 3, 4, 25, 26, 27] [o 33 (.bld [(.d (iD 0))] [(0, 1)]) [i 1], o 34 (.mkI 90) [t 33], e .pan [t 34]]) (.skip)))))
    (r [2, 3, 4, 25, 26, 27] [o 35 (.bin .add) [t 27, i 1], o 27 .mv [t 35]])))
def b1_impl_reshaped : Cd :=
  sq (r [3, 4, 7, 60, 61, 62] [o 62 (.bin .lss) [t 61, t 60]])
  (sq (.cond (t 62) (.skip) (.exit 2))
   (sq (.block 3 (sq (r [3, 4, 7, 11, 60, 61] [o 63 .mv [t 61], o 11 .mv [t 63]])
      (rd [] [3, 4, 7, 60, 61] [o 64 (.fa 1) [t 7], o 65 (.ld none) [t 64], o 66 (.fa 1) [t 3], o 67 (.ld none) [t 66], o 68 .mv [t 11], o 69 (.fa 1) [t 3], o 70 (.ld none) [t 69], o 71 (.len false) [t 70], o 72 (.bin .rem) [t 68, t 71], o 73 (.ia 1) [t 67, t 72], o 74 (.ld none) [t 73], ap [] false [7, 64] (o 75 (lit 3 1 1) [t 74]), o 76 (.app 3 1 8) [t 65, t 75], o 77 (.fa 1) [t 7], e (.st 1) [t 77, t 76]])))
    (r [3, 4, 7, 60, 61] [o 78 (.bin .add) [t 61, i 1], o 61 .mv [t 78]])))
def k2_impl_reshaped : Cd :=
  sq (r [4] [o 79 (.ld (some 2)) [t 7], e (.st 2) [t 4, t 79]])
  (.ret)
def k3_impl_reshaped : Cd :=
  sq (r [2, 3, 4, 7] [o 36 (.fa 1) [t 2], o 37 (.ld none) [t 36], o 38 (.call 90) [t 37], o 7 (.alloc [.nil, .nil]) [], e (.st 2) [t 7, t 38]])
  (sq (r [2, 3, 4, 7, 8] [o 39 (.fa 1) [t 7], o 40 (.ld none) [t 39], o 41 .cap [t 40], o 8 .mv [t 41]])
   (sq (sq (r [3, 4, 7, 8, 9] [o 43 (.fa 1) [t 2], o 44 (.ld none) [t 43], o 45 (.call 91) [t 44], o 42 .mv [t 45], o 46 (.ext 0) [t 42], o 47 (.ext 1) [t 42], o 9 .mv [t 46], o 10 .mv [t 47]])
     (sq (r [3, 4, 7, 8, 49] [o 48 .mv [t 9], o 49 (.bin .eql) [t 48, i 0]])
      (.cond (t 49) (r [3, 4, 7, 8] [o 8 .mv [i 0]]) (.skip))))
    (sq (sq (r [3, 4, 7, 8, 57] [o 50 .mv [t 8], o 51 (.bin .gtr) [t 50, i 0], o 52 .mv [t 51], g 52 true 53 (.fa 1) [t 3], g 52 true 54 (.ld none) [t 53], g 52 true 55 (.len false) [t 54], g 52 true 56 (.bin .eql) [t 55, i 0], o 57 .pick [t 52, t 56, b false]])
      (.cond (t 57) (r [3, 4, 7, 8] [o 58 (.bld [(.d (iD 0))] [(0, 1)]) [i 3], o 59 (.mkI 90) [t 58], e .pan [t 59]]) (.skip)))
     (sq (sq (r [3, 4, 7, 60, 61] [o 60 .mv [t 8], o 61 .mv [i 0]])
       (.block 2 (.loop [3, 4, 7, 60, 61] b1_impl_reshaped))) k2_impl_reshaped))))
def c_impl_reshaped : Cd :=
  sq (r [2, 3, 4] [o 2 .box [t 0], o 3 .box [t 1], o 4 (.alloc [.nil, .nil]) []])
  (sq (sq (r [2, 3, 4, 15] [o 12 (.fa 0) [t 2], o 13 (.ld none) [t 12], o 14 (.len false) [t 13], o 15 (.bin .gtr) [t 14, i 1]])
    (.cond (t 15) (r [2, 3, 4] [o 16 (.bld [(.d (iD 0))] [(0, 1)]) [i 2], o 17 (.mkI 90) [t 16], e .pan [t 17]]) (.skip)))
   (sq (sq (r [2, 3, 4, 21] [o 18 (.fa 1) [t 2], o 19 (.ld none) [t 18], o 20 (.len false) [t 19], o 21 (.bin .gtr) [t 20, i 3]])
     (.cond (t 21) (r [2, 3, 4] [o 22 (.bld [(.d (iD 0))] [(0, 1)]) [i 6], o 23 (.mkI 90) [t 22], e .pan [t 23]]) (.skip)))
    (sq (sq (r [2, 3, 4, 25, 26, 27] [o 24 (.fa 1) [t 2], o 25 (.ld none) [t 24], o 26 (.len false) [t 25], o 27 .mv [i 0]])
      (.block 0 (.loop [2, 3, 4, 25, 26, 27] b0_impl_reshaped))) k3_impl_reshaped)))
def r_impl_reshaped : List RV := [.cell 4 (some 2)]
def impl_reshaped_l1 (L_impl_made : (List Int) → Option (Res (List Int × Option Nat × List Int))) (L_impl_cellsOf : (List Int) → Option (Int × Bool)) : Nat → Int → Int → (List Int) → (List Int) → (List Int) → (List Int) → Option (Res (List Int × List Int))
  | 0, _, _, _, _, _, _ => none
  | m1 + 1, x60, x61, o192_0, o192_1, o449, o450 =>
    if x61 < x60 then (if (↑(List.length o192_1) : Int) = 0 then none
     else ((idx o192_1 (Int.tmod x61 (↑(List.length o192_1) : Int))).bind fun y0 =>
      if room 8 (List.length (o450 ++ [y0])) then impl_reshaped_l1 L_impl_made L_impl_cellsOf m1 x60 (w64 (x61 + 1)) o192_0 o192_1 o449 (o450 ++ [y0])
      else none))
    else some (.ok ((o449, o450)))
def impl_reshaped_l0 (L_impl_made : (List Int) → Option (Res (List Int × Option Nat × List Int))) (L_impl_cellsOf : (List Int) → Option (Int × Bool)) (N : Nat) : Nat → (List Int) → Int → Int → (List Int) → (List Int) → (List Int) → (List Int) → Option (Res (List Int × List Int))
  | 0, _, _, _, _, _, _, _ => none
  | m0 + 1, x25, x26, x27, o128_0, o128_1, o192_0, o192_1 =>
    if x27 < x26 then ((idx x25 x27).bind fun y0 =>
     if y0 < 0 then some (.pan (D.ifaceS 90 [D.int .i64 1]))
     else impl_reshaped_l0 L_impl_made L_impl_cellsOf N m0 x25 x26 (w64 (x27 + 1)) o128_0 o128_1 o192_0 o192_1)
    else ((L_impl_made o128_1).bind fun y1 =>
     (y1).on (fun y2 => (y2.snd.fst).bind fun y3 =>
      (L_impl_cellsOf o128_1).bind fun y4 =>
      if y4.fst = 0 then impl_reshaped_l1 L_impl_made L_impl_cellsOf N 0 0 o192_0 o192_1 y2.fst y2.snd.snd
      else (if 0 < (↑y3 : Int) then (if (↑(List.length o192_1) : Int) = 0 then some (.pan (D.ifaceS 90 [D.int .i64 3]))
        else impl_reshaped_l1 L_impl_made L_impl_cellsOf N ((↑y3 : Int)) 0 o192_0 o192_1 y2.fst y2.snd.snd)
       else impl_reshaped_l1 L_impl_made L_impl_cellsOf N ((↑y3 : Int)) 0 o192_0 o192_1 y2.fst y2.snd.snd)) (fun y2 => some (.pan (y2))))
def impl_reshaped_f (L_impl_made : (List Int) → Option (Res (List Int × Option Nat × List Int))) (L_impl_cellsOf : (List Int) → Option (Int × Bool)) (N : Nat) (a0_Shape : List Int) (a0_Data : List Int) (a1_Shape : List Int) (a1_Data : List Int) : Option (Res (List Int × List Int)) :=
  if 1 < (↑(List.length a0_Shape) : Int) then some (.pan (D.ifaceS 90 [D.int .i64 2]))
  else (if 3 < (↑(List.length a0_Data) : Int) then some (.pan (D.ifaceS 90 [D.int .i64 6]))
   else impl_reshaped_l0 L_impl_made L_impl_cellsOf N N a0_Data ((↑(List.length a0_Data) : Int)) 0 a0_Shape a0_Data a1_Shape a1_Data)
theorem impl_reshaped_l1_eq (E : En) (hy : Hy E [] [] [] r_impl_reshaped none (fun y => nocap y) flatIds) (L_impl_made : (List Int) → Option (Res (List Int × Option Nat × List Int))) (h_impl_made : H_impl_made E L_impl_made) (L_impl_cellsOf : (List Int) → Option (Int × Bool)) (h_impl_cellsOf : H_impl_cellsOf E L_impl_cellsOf) : ∀ (m1 : Nat) (x60 : Int) (x61 : Int) (o192_0 : List Int) (o192_1 : List Int) (o449 : List Int) (o450 : List Int), gH E [3, 4, 7, 60, 61] b1_impl_reshaped [KJ.b 2, KJ.c k2_impl_reshaped] m1 ⟨slotsOf [(3, A.adr 192 1 0), (4, A.adr 256 1 0), (7, A.adr 448 1 0), (60, .d (.int .i64 x60)), (61, .d (.int .i64 x61))], obsOf [(192, ⟨1, .box [.d (lstT (cI) o192_0), .d (lstT (cI) o192_1)], false⟩), (256, ⟨1, .box [A.nil, A.nil], false⟩), (448, ⟨1, .box [A.row 449 1, A.row 450 1], false⟩), (449, ⟨1, rowT (cI) 3 none o449, false⟩), (450, ⟨1, rowT (cI) 3 none o450, false⟩)]⟩ = (impl_reshaped_l1 L_impl_made L_impl_cellsOf m1 x60 x61 o192_0 o192_1 o449 o450).bind fun r => r.on (fun r => some (.ret (.agg [ownT (cI) 3 none false r.1, ownT (cI) 3 none false r.2]) [])) (fun x => some (.pan x [])) := by
  intro m1
  induction m1 with
  | zero => intros; rfl
  | succ m1 ih =>
    intros
    simp (config := {maxSteps := 2000000}) only [↓rPre, rPost, rCan, rObj, rI, rS, rB, r8, rLI, rEtc, hy.p, hy.l, hy.k, hy.r, hy.d, hy.w, hy.f, flatIds, oid, r_impl_reshaped, ↓G_unf _ _ b0_impl_reshaped.eq_1, ↓G_unf _ _ b1_impl_reshaped.eq_1, ↓G_unf _ _ k2_impl_reshaped.eq_1, ↓G_unf _ _ k3_impl_reshaped.eq_1, ↓G_unf _ _ c_impl_reshaped.eq_1, h_impl_made.2, h_impl_made.1, h_impl_cellsOf.2, h_impl_cellsOf.1, gH_succ, ih, bind_ite, impl_reshaped_l1, rFile, rRow78, rRow3, rRow53, rRow35, rArray, rRow39, rRow5, rRow9, rMap97, rLog, ↓reduceIte, Nat.reduceMul, Nat.reduceAdd, Nat.reduceSub, Nat.reduceEqDiff, Nat.reduceBEq, Nat.reduceLeDiff, Nat.reduceLT, reduceCtorEq, Int.reduceAdd, Int.reduceSub, Int.reduceToNat, Int.reduceNeg, Int.reduceEq, Int.reduceLT, Int.reduceLE]
theorem impl_reshaped_l0_eq (E : En) (hy : Hy E [] [] [] r_impl_reshaped none (fun y => nocap y) flatIds) (L_impl_made : (List Int) → Option (Res (List Int × Option Nat × List Int))) (h_impl_made : H_impl_made E L_impl_made) (L_impl_cellsOf : (List Int) → Option (Int × Bool)) (h_impl_cellsOf : H_impl_cellsOf E L_impl_cellsOf) : ∀ (m0 : Nat) (x25 : List Int) (x26 : Int) (x27 : Int) (o128_0 : List Int) (o128_1 : List Int) (o192_0 : List Int) (o192_1 : List Int), gH E [2, 3, 4, 25, 26, 27] b0_impl_reshaped [KJ.b 0, KJ.c k3_impl_reshaped] m0 ⟨slotsOf [(2, A.adr 128 1 0), (3, A.adr 192 1 0), (4, A.adr 256 1 0), (25, .d (lstT (cI) x25)), (26, .d (.int .i64 x26)), (27, .d (.int .i64 x27))], obsOf [(128, ⟨1, .box [.d (lstT (cI) o128_0), .d (lstT (cI) o128_1)], false⟩), (192, ⟨1, .box [.d (lstT (cI) o192_0), .d (lstT (cI) o192_1)], false⟩), (256, ⟨1, .box [A.nil, A.nil], false⟩)]⟩ = (impl_reshaped_l0 L_impl_made L_impl_cellsOf E.n m0 x25 x26 x27 o128_0 o128_1 o192_0 o192_1).bind fun r => r.on (fun r => some (.ret (.agg [ownT (cI) 3 none false r.1, ownT (cI) 3 none false r.2]) [])) (fun x => some (.pan x [])) := by
  intro m0
  induction m0 with
  | zero => intros; rfl
  | succ m0 ih =>
    intros
    simp (config := {maxSteps := 2000000}) only [↓rPre, rPost, rCan, rObj, rI, rS, rB, r8, rLI, rEtc, hy.p, hy.l, hy.k, hy.r, hy.d, hy.w, hy.f, flatIds, oid, r_impl_reshaped, ↓G_unf _ _ b0_impl_reshaped.eq_1, ↓G_unf _ _ b1_impl_reshaped.eq_1, ↓G_unf _ _ k2_impl_reshaped.eq_1, ↓G_unf _ _ k3_impl_reshaped.eq_1, ↓G_unf _ _ c_impl_reshaped.eq_1, h_impl_made.2, h_impl_made.1, h_impl_cellsOf.2, h_impl_cellsOf.1, gH_succ, ih, bind_ite, impl_reshaped_l0, impl_reshaped_l1_eq E hy L_impl_made h_impl_made L_impl_cellsOf h_impl_cellsOf, rFile, rRow78, rRow3, rRow53, rRow35, rArray, rRow39, rRow5, rRow9, rMap97, rLog, ↓reduceIte, Nat.reduceMul, Nat.reduceAdd, Nat.reduceSub, Nat.reduceEqDiff, Nat.reduceBEq, Nat.reduceLeDiff, Nat.reduceLT, reduceCtorEq, Int.reduceAdd, Int.reduceSub, Int.reduceToNat, Int.reduceNeg, Int.reduceEq, Int.reduceLT, Int.reduceLE]
theorem impl_reshaped_g (E : En) (hy : Hy E [] [] [] r_impl_reshaped none (fun y => nocap y) flatIds) (L_impl_made : (List Int) → Option (Res (List Int × Option Nat × List Int))) (h_impl_made : H_impl_made E L_impl_made) (L_impl_cellsOf : (List Int) → Option (Int × Bool)) (h_impl_cellsOf : H_impl_cellsOf E L_impl_cellsOf) (a0_Shape : List Int) (a0_Data : List Int) (a1_Shape : List Int) (a1_Data : List Int) : G E c_impl_reshaped [] ⟨slotsOf [(0, .agg [.d (lstT cI a0_Shape), .d (lstT cI a0_Data)]), (1, .agg [.d (lstT cI a1_Shape), .d (lstT cI a1_Data)])], obsOf []⟩ = (impl_reshaped_f L_impl_made L_impl_cellsOf E.n a0_Shape a0_Data a1_Shape a1_Data).bind fun r => r.on (fun r => some (.ret (.agg [ownT (cI) 3 none false r.1, ownT (cI) 3 none false r.2]) [])) (fun x => some (.pan x [])) := by
  simp (config := {maxSteps := 2000000}) only [↓rPre, rPost, rCan, rObj, rI, rS, rB, r8, rLI, rEtc, hy.p, hy.l, hy.k, hy.r, hy.d, hy.w, hy.f, flatIds, oid, r_impl_reshaped, ↓G_unf _ _ b0_impl_reshaped.eq_1, ↓G_unf _ _ b1_impl_reshaped.eq_1, ↓G_unf _ _ k2_impl_reshaped.eq_1, ↓G_unf _ _ k3_impl_reshaped.eq_1, ↓G_unf _ _ c_impl_reshaped.eq_1, h_impl_made.2, h_impl_made.1, h_impl_cellsOf.2, h_impl_cellsOf.1, bind_ite, impl_reshaped_f, impl_reshaped_l0_eq E hy L_impl_made h_impl_made L_impl_cellsOf h_impl_cellsOf, rFile, rRow78, rRow3, rRow53, rRow35, rArray, rRow39, rRow5, rRow9, rMap97, rLog, ↓reduceIte, Nat.reduceMul, Nat.reduceAdd, Nat.reduceSub, Nat.reduceEqDiff, Nat.reduceBEq, Nat.reduceLeDiff, Nat.reduceLT, reduceCtorEq, Int.reduceAdd, Int.reduceSub, Int.reduceToNat, Int.reduceNeg, Int.reduceEq, Int.reduceLT, Int.reduceLE]
def H_impl_reshaped (E : En) (L : (List Int) → (List Int) → (List Int) → (List Int) → Option (Res (List Int × List Int))) : Prop := E.Γ.mu 46 = false ∧ (∀ (a0_Shape : List Int) (a0_Data : List Int) (a1_Shape : List Int) (a1_Data : List Int), E.Γ 46 [.agg [.d (lstT cI a0_Shape), .d (lstT cI a0_Data)], .agg [.d (lstT cI a1_Shape), .d (lstT cI a1_Data)]] = (L a0_Shape a0_Data a1_Shape a1_Data).bind fun r => r.on (fun r => some (.ret (.agg [ownT (cI) 3 none false r.1, ownT (cI) 3 none false r.2]) [])) (fun x => some (.pan x [])))
-- loop.example/s02135/impl.numberOf
def c_impl_numberOf : Cd :=
  sq (r [1] [o 1 .box [t 0], o 2 .mv [i 0]])
  (sq (sq (r [1, 6] [o 3 (.fa 0) [t 1], o 4 (.ld none) [t 3], o 5 (.len false) [t 4], o 6 (.bin .neq) [t 5, i 0]])
    (.cond (t 6) (r [1] [o 7 (.bld [(.d (iD 0))] [(0, 1)]) [i 2], o 8 (.mkI 90) [t 7], e .pan [t 8]]) (.skip)))
   (sq (r [2] [o 9 (.fa 1) [t 1], o 10 (.ld none) [t 9], o 11 (.ia 1) [t 10, i 0], o 12 (.ld none) [t 11], o 2 .mv [t 12]])
    (.ret)))
def r_impl_numberOf : List RV := [.tmp 2]
def impl_numberOf_f (N : Nat) (a0_Shape : List Int) (a0_Data : List Int) : Option (Res (Int)) :=
  if (↑(List.length a0_Shape) : Int) = 0 then ((idx a0_Data 0).bind fun y0 =>
   some (.ok y0))
  else some (.pan (D.ifaceS 90 [D.int .i64 2]))
theorem impl_numberOf_g (E : En) (hy : Hy E [] [] [] r_impl_numberOf none (fun y => nocap y) flatIds) (a0_Shape : List Int) (a0_Data : List Int) : G E c_impl_numberOf [] ⟨slotsOf [(0, .agg [.d (lstT cI a0_Shape), .d (lstT cI a0_Data)])], obsOf []⟩ = (impl_numberOf_f E.n a0_Shape a0_Data).bind fun r => r.on (fun r => some (.ret (.d (.int .i64 r)) [])) (fun x => some (.pan x [])) := by
  simp (config := {maxSteps := 2000000}) only [↓rPre, rPost, rCan, rObj, rI, rS, rB, r8, rLI, rEtc, hy.p, hy.l, hy.k, hy.r, hy.d, hy.w, hy.f, flatIds, oid, r_impl_numberOf, ↓G_unf _ _ c_impl_numberOf.eq_1, bind_ite, impl_numberOf_f, rFile, rRow78, rRow3, rRow53, rRow35, rArray, rRow39, rRow5, rRow9, rMap97, rLog, ↓reduceIte, Nat.reduceMul, Nat.reduceAdd, Nat.reduceSub, Nat.reduceEqDiff, Nat.reduceBEq, Nat.reduceLeDiff, Nat.reduceLT, reduceCtorEq, Int.reduceAdd, Int.reduceSub, Int.reduceToNat, Int.reduceNeg, Int.reduceEq, Int.reduceLT, Int.reduceLE]
def H_impl_numberOf (E : En) (L : (List Int) → (List Int) → Option (Res (Int))) : Prop := E.Γ.mu 92 = false ∧ (∀ (a0_Shape : List Int) (a0_Data : List Int), E.Γ 92 [.agg [.d (lstT cI a0_Shape), .d (lstT cI a0_Data)]] = (L a0_Shape a0_Data).bind fun r => r.on (fun r => some (.ret (.d (.int .i64 r)) [])) (fun x => some (.pan x [])))
-- loop.example/s02135/impl.vectorOf
def c_impl_vectorOf : Cd :=
  sq (r [0, 2] [o 2 (.alloc [.nil, .nil]) []])
  (sq (r [2] [o 3 .mv [t 0], o 4 (.len false) [t 3], o 5 (lit 3 1 1) [t 4], o 6 .mv [t 0], o 7 (.call 100) [t 6], o 8 (.bld [.nil, .nil] [(0, 1), (1, 1)]) [t 5, t 7], e (.st 2) [t 2, t 8]])
   (.ret))
def r_impl_vectorOf : List RV := [.cell 2 (some 2)]
def impl_vectorOf_f (L_slices_Clone___int_int_ : (List Int) → Option (List Int)) (N : Nat) (a0 : List Int) : Option (List Int × List Int) :=
  (L_slices_Clone___int_int_ a0).bind fun y0 =>
  some (([(↑(List.length a0) : Int)], y0))
theorem impl_vectorOf_g (E : En) (hy : Hy E [] [] [] r_impl_vectorOf none (fun y => nocap y) flatIds) (L_slices_Clone___int_int_ : (List Int) → Option (List Int)) (h_slices_Clone___int_int_ : H_slices_Clone___int_int_ E L_slices_Clone___int_int_) (a0 : List Int) : G E c_impl_vectorOf [] ⟨slotsOf [(0, .d (lstT cI a0))], obsOf []⟩ = (impl_vectorOf_f L_slices_Clone___int_int_ E.n a0).bind fun r => some (.ret (.agg [ownT (cI) 3 none false r.1, ownT (cI) 3 none false r.2]) []) := by
  simp (config := {maxSteps := 2000000}) only [↓rPre, rPost, rCan, rObj, rI, rS, rB, r8, rLI, rEtc, hy.p, hy.l, hy.k, hy.r, hy.d, hy.w, hy.f, flatIds, oid, r_impl_vectorOf, ↓G_unf _ _ c_impl_vectorOf.eq_1, h_slices_Clone___int_int_.2, h_slices_Clone___int_int_.1, bind_ite, impl_vectorOf_f, rFile, rRow78, rRow3, rRow53, rRow35, rArray, rRow39, rRow5, rRow9, rMap97, rLog, ↓reduceIte, Nat.reduceMul, Nat.reduceAdd, Nat.reduceSub, Nat.reduceEqDiff, Nat.reduceBEq, Nat.reduceLeDiff, Nat.reduceLT, reduceCtorEq, Int.reduceAdd, Int.reduceSub, Int.reduceToNat, Int.reduceNeg, Int.reduceEq, Int.reduceLT, Int.reduceLE]
def H_impl_vectorOf (E : En) (L : (List Int) → Option (List Int × List Int)) : Prop := E.Γ.mu 69 = false ∧ (∀ (a0 : List Int), E.Γ 69 [.d (lstT cI a0)] = (L a0).bind fun r => some (.ret (.agg [ownT (cI) 3 none false r.1, ownT (cI) 3 none false r.2]) []))
-- loop.example/s02135/impl.asRows
def c_impl_asRows : Cd :=
  sq (r [1, 2] [o 1 .box [t 0], o 2 (.alloc [.nil, .nil]) []])
  (sq (sq (r [1, 2, 6] [o 3 (.fa 0) [t 1], o 4 (.ld none) [t 3], o 5 (.len false) [t 4], o 6 (.bin .eql) [t 5, i 0]])
    (.cond (t 6) (sq (r [2] [o 7 (.fa 1) [t 1], o 8 (.ld none) [t 7], o 9 (.call 69) [t 8], e (.st 2) [t 2, t 9]])
      (.ret)) (.skip)))
   (sq (r [2] [o 10 (.ld (some 2)) [t 1], e (.st 2) [t 2, t 10]])
    (.ret)))
def r_impl_asRows : List RV := [.cell 2 (some 2)]
def impl_asRows_f (L_impl_vectorOf : (List Int) → Option (List Int × List Int)) (N : Nat) (a0_Shape : List Int) (a0_Data : List Int) : Option (Alt (List Int × List Int) (List Int × List Int)) :=
  if (↑(List.length a0_Shape) : Int) = 0 then ((L_impl_vectorOf a0_Data).bind fun y0 =>
   some ((.a ((y0.fst, y0.snd)))))
  else some ((.b ((a0_Shape, a0_Data))))
theorem impl_asRows_g (E : En) (hy : Hy E [] [] [] r_impl_asRows none (fun y => nocap y) flatIds) (L_impl_vectorOf : (List Int) → Option (List Int × List Int)) (h_impl_vectorOf : H_impl_vectorOf E L_impl_vectorOf) (a0_Shape : List Int) (a0_Data : List Int) : G E c_impl_asRows [] ⟨slotsOf [(0, .agg [.d (lstT cI a0_Shape), .d (lstT cI a0_Data)])], obsOf []⟩ = (impl_asRows_f L_impl_vectorOf E.n a0_Shape a0_Data).bind fun r => r.on (fun r => some (.ret (.agg [ownT (cI) 3 none false r.1, ownT (cI) 3 none false r.2]) [])) (fun r => some (.ret (.agg [.d (lstT (cI) r.1), .d (lstT (cI) r.2)]) [])) := by
  simp (config := {maxSteps := 2000000}) only [↓rPre, rPost, rCan, rObj, rI, rS, rB, r8, rLI, rEtc, hy.p, hy.l, hy.k, hy.r, hy.d, hy.w, hy.f, flatIds, oid, r_impl_asRows, ↓G_unf _ _ c_impl_asRows.eq_1, h_impl_vectorOf.2, h_impl_vectorOf.1, bind_ite, impl_asRows_f, rFile, rRow78, rRow3, rRow53, rRow35, rArray, rRow39, rRow5, rRow9, rMap97, rLog, ↓reduceIte, Nat.reduceMul, Nat.reduceAdd, Nat.reduceSub, Nat.reduceEqDiff, Nat.reduceBEq, Nat.reduceLeDiff, Nat.reduceLT, reduceCtorEq, Int.reduceAdd, Int.reduceSub, Int.reduceToNat, Int.reduceNeg, Int.reduceEq, Int.reduceLT, Int.reduceLE]
def H_impl_asRows (E : En) (L : (List Int) → (List Int) → Option (Alt (List Int × List Int) (List Int × List Int))) : Prop := E.Γ.mu 93 = false ∧ (∀ (a0_Shape : List Int) (a0_Data : List Int), E.Γ 93 [.agg [.d (lstT cI a0_Shape), .d (lstT cI a0_Data)]] = (L a0_Shape a0_Data).bind fun r => r.on (fun r => some (.ret (.agg [ownT (cI) 3 none false r.1, ownT (cI) 3 none false r.2]) [])) (fun r => some (.ret (.agg [.d (lstT (cI) r.1), .d (lstT (cI) r.2)]) [])))
-- loop.example/s02135/impl.withFirst
def c_impl_withFirst : Cd :=
  sq (r [0, 1] [o 4 .mv [n]])
  (sq (r [4] [o 5 .mv [t 0], o 6 (lit 3 1 1) [t 5], o 7 .mv [t 1], o 8 (.slc false 1 true false) [t 7, i 1], o 9 (.app 3 1 8) [t 6, t 8], o 4 .mv [t 9]])
   (.ret))
def r_impl_withFirst : List RV := [.tmp 4]
def impl_withFirst_f (N : Nat) (a0 : Int) (a1 : List Int) : Option (List Int) :=
  (cut a1 1 (↑(List.length a1) : Int)).bind fun y0 =>
  if room 8 (List.length y0 + 1) then some (a0 :: y0)
  else none
theorem impl_withFirst_g (E : En) (hy : Hy E [] [] [] r_impl_withFirst none (fun y => nocap y) flatIds) (a0 : Int) (a1 : List Int) : G E c_impl_withFirst [] ⟨slotsOf [(0, .d (.int .i64 a0)), (1, .d (lstT cI a1))], obsOf []⟩ = (impl_withFirst_f E.n a0 a1).bind fun r => some (.ret (ownT (cI) 3 none false r) []) := by
  simp (config := {maxSteps := 2000000}) only [↓rPre, rPost, rCan, rObj, rI, rS, rB, r8, rLI, rEtc, hy.p, hy.l, hy.k, hy.r, hy.d, hy.w, hy.f, flatIds, oid, r_impl_withFirst, ↓G_unf _ _ c_impl_withFirst.eq_1, bind_ite, impl_withFirst_f, rFile, rRow78, rRow3, rRow53, rRow35, rArray, rRow39, rRow5, rRow9, rMap97, rLog, ↓reduceIte, Nat.reduceMul, Nat.reduceAdd, Nat.reduceSub, Nat.reduceEqDiff, Nat.reduceBEq, Nat.reduceLeDiff, Nat.reduceLT, reduceCtorEq, Int.reduceAdd, Int.reduceSub, Int.reduceToNat, Int.reduceNeg, Int.reduceEq, Int.reduceLT, Int.reduceLE]
def H_impl_withFirst (E : En) (L : Int → (List Int) → Option (List Int)) : Prop := E.Γ.mu 94 = false ∧ (∀ (a0 : Int) (a1 : List Int), E.Γ 94 [.d (.int .i64 a0), .d (lstT cI a1)] = (L a0 a1).bind fun r => some (.ret (ownT (cI) 3 none false r) []))
-- loop.example/s02135/impl.taken
def b0_impl_taken : Cd :=
  sq (sq (r [3, 4, 6, 7, 8, 9, 10, 11, 46] [o 42 .mv [t 11], o 43 .mv [t 10], o 44 .mv [t 7], o 45 (.bin .add) [t 43, t 44], o 46 (.bin .lss) [t 42, t 45]])
   (.cond (t 46) (.skip) (.exit 0)))
  (sq (.block 1 (sq (sq (r [3, 4, 6, 7, 8, 9, 10, 11, 55] [o 49 .mv [t 11], o 50 (.bin .lss) [t 49, i 0], o 51 .mv [t 50], g 51 false 52 .mv [t 11], g 51 false 53 .mv [t 6], g 51 false 54 (.bin .geq) [t 52, t 53], o 55 .pick [t 51, b true, t 54]])
      (.cond (t 55) (sq (r [3, 4, 6, 7, 8, 9, 10, 11] [o 56 (.fa 1) [t 8], o 57 (.ld none) [t 56], o 58 .mv [t 9], o 59 (.appZ 3 1 8 [(iD 0)]) [t 57, t 58], o 60 (.fa 1) [t 8], e (.st 1) [t 60, t 59]])
        (.exit 1)) (.skip)))
     (.frz 3 (rd [] [3, 4, 6, 7, 8, 9, 10, 11] [o 61 (.fa 1) [t 8], o 62 (.ld none) [t 61], o 63 (.fa 1) [t 3], o 64 (.ld none) [t 63], o 65 .mv [t 11], o 66 .mv [t 9], o 67 (.bin .mul) [t 65, t 66], o 68 .mv [t 11], o 69 (.bin .add) [t 68, i 1], o 70 .mv [t 9], o 71 (.bin .mul) [t 69, t 70], o 72 (.slc false 1 true true) [t 64, t 67, t 71], o 73 (.app 3 1 8) [t 62, t 72], o 74 (.fa 1) [t 8], e (.st 1) [t 74, t 73]]))))
   (r [3, 4, 6, 7, 8, 9, 10, 11] [o 47 .mv [t 11], o 48 (.bin .add) [t 47, i 1], o 11 .mv [t 48]]))
def k1_impl_taken : Cd :=
  sq (r [4] [o 75 (.ld (some 2)) [t 8], e (.st 2) [t 4, t 75]])
  (.ret)
def c_impl_taken : Cd :=
  sq (r [2, 3, 4] [o 2 .box [t 0], o 3 .box [t 1], o 4 (.alloc [.nil, .nil]) []])
  (sq (r [3, 4, 5] [o 12 (.ld (some 2)) [t 2], o 13 (.call 92) [t 12], o 5 .mv [t 13]])
   (sq (r [3, 4, 5] [o 14 (.ld (some 2)) [t 3], o 15 (.call 93) [t 14], e (.st 2) [t 3, t 15]])
    (sq (r [3, 4, 5, 6] [o 16 (.fa 0) [t 3], o 17 (.ld none) [t 16], o 18 (.ia 1) [t 17, i 0], o 19 (.ld none) [t 18], o 6 .mv [t 19]])
     (sq (r [3, 4, 5, 6, 7] [o 20 .mv [t 5], o 21 .mv [t 5], o 22 .neg [t 21], o 23 (.mm true) [t 20, t 22], o 7 .mv [t 23]])
      (sq (r [3, 4, 5, 6, 7, 8] [o 24 .mv [t 7], o 25 (.fa 0) [t 3], o 26 (.ld none) [t 25], o 27 (.call 94) [t 24, t 26], o 28 (.call 90) [t 27], o 8 (.alloc [.nil, .nil]) [], e (.st 2) [t 8, t 28]])
       (sq (r [3, 4, 5, 6, 7, 8, 9] [o 9 .mv [i 0]])
        (sq (sq (r [3, 4, 5, 6, 7, 8, 9, 30] [o 29 .mv [t 7], o 30 (.bin .gtr) [t 29, i 0]])
          (.cond (t 30) (r [3, 4, 5, 6, 7, 8, 9] [o 31 (.fa 1) [t 8], o 32 (.ld none) [t 31], o 33 .cap [t 32], o 34 .mv [t 7], o 35 (.bin .quo) [t 33, t 34], o 9 .mv [t 35]]) (.skip)))
         (sq (r [3, 4, 5, 6, 7, 8, 9, 10] [o 10 .mv [i 0]])
          (sq (sq (r [3, 4, 6, 7, 8, 9, 10, 37] [o 36 .mv [t 5], o 37 (.bin .lss) [t 36, i 0]])
            (.cond (t 37) (r [3, 4, 6, 7, 8, 9, 10] [o 38 .mv [t 6], o 39 .mv [t 7], o 40 (.bin .sub) [t 38, t 39], o 10 .mv [t 40]]) (.skip)))
           (sq (sq (r [3, 4, 6, 7, 8, 9, 10, 11] [o 41 .mv [t 10], o 11 .mv [t 41]])
             (.block 0 (.loop [3, 4, 6, 7, 8, 9, 10, 11] b0_impl_taken))) k1_impl_taken))))))))))
def r_impl_taken : List RV := [.cell 4 (some 2)]
def impl_taken_l1 (L_impl_numberOf : (List Int) → (List Int) → Option (Res (Int))) (L_impl_asRows : (List Int) → (List Int) → Option (Alt (List Int × List Int) (List Int × List Int))) (L_impl_withFirst : Int → (List Int) → Option (List Int)) (L_impl_made : (List Int) → Option (Res (List Int × Option Nat × List Int))) : Nat → Int → Int → Int → Int → Int → (List Int) → (List Int) → (List Int) → (List Int) → Option (Res (List Int × List Int))
  | 0, _, _, _, _, _, _, _, _, _ => none
  | m1 + 1, x6, x7, x9, x10, x11, o192_0, o192_1, o513, o514 =>
    if x11 < w64 (x10 + x7) then (if x11 < 0 then (if 0 ≤ x9 ∧ room 8 (List.length (o514 ++ List.replicate (Int.toNat x9) 0)) then impl_taken_l1 L_impl_numberOf L_impl_asRows L_impl_withFirst L_impl_made m1 x6 x7 x9 x10 (w64 (x11 + 1)) o192_0 o192_1 o513 (o514 ++ List.replicate (Int.toNat x9) 0)
      else none)
     else (if x6 ≤ x11 then (if 0 ≤ x9 ∧ room 8 (List.length (o514 ++ List.replicate (Int.toNat x9) 0)) then impl_taken_l1 L_impl_numberOf L_impl_asRows L_impl_withFirst L_impl_made m1 x6 x7 x9 x10 (w64 (x11 + 1)) o192_0 o192_1 o513 (o514 ++ List.replicate (Int.toNat x9) 0)
       else none)
      else ((cut o192_1 (w64 (x11 * x9)) (w64 (w64 (x11 + 1) * x9))).bind fun y0 =>
       if room 8 (List.length (o514 ++ y0)) then impl_taken_l1 L_impl_numberOf L_impl_asRows L_impl_withFirst L_impl_made m1 x6 x7 x9 x10 (w64 (x11 + 1)) o192_0 o192_1 o513 (o514 ++ y0)
       else none)))
    else some (.ok ((o513, o514)))
def impl_taken_l0 (L_impl_numberOf : (List Int) → (List Int) → Option (Res (Int))) (L_impl_asRows : (List Int) → (List Int) → Option (Alt (List Int × List Int) (List Int × List Int))) (L_impl_withFirst : Int → (List Int) → Option (List Int)) (L_impl_made : (List Int) → Option (Res (List Int × Option Nat × List Int))) : Nat → Int → Int → Int → Int → Int → (List Int) → (List Int) → (List Int) → (List Int) → Option (Res (List Int × List Int))
  | 0, _, _, _, _, _, _, _, _, _ => none
  | m0 + 1, x6, x7, x9, x10, x11, o193, o194, o513, o514 =>
    if x11 < w64 (x10 + x7) then (if x11 < 0 then (if 0 ≤ x9 ∧ room 8 (List.length (o514 ++ List.replicate (Int.toNat x9) 0)) then impl_taken_l0 L_impl_numberOf L_impl_asRows L_impl_withFirst L_impl_made m0 x6 x7 x9 x10 (w64 (x11 + 1)) o193 o194 o513 (o514 ++ List.replicate (Int.toNat x9) 0)
      else none)
     else (if x6 ≤ x11 then (if 0 ≤ x9 ∧ room 8 (List.length (o514 ++ List.replicate (Int.toNat x9) 0)) then impl_taken_l0 L_impl_numberOf L_impl_asRows L_impl_withFirst L_impl_made m0 x6 x7 x9 x10 (w64 (x11 + 1)) o193 o194 o513 (o514 ++ List.replicate (Int.toNat x9) 0)
       else none)
      else ((cut o194 (w64 (x11 * x9)) (w64 (w64 (x11 + 1) * x9))).bind fun y0 =>
       if room 8 (List.length (o514 ++ y0)) then impl_taken_l1 L_impl_numberOf L_impl_asRows L_impl_withFirst L_impl_made m0 x6 x7 x9 x10 (w64 (x11 + 1)) o193 o194 o513 (o514 ++ y0)
       else none)))
    else some (.ok ((o513, o514)))
def impl_taken_f (L_impl_numberOf : (List Int) → (List Int) → Option (Res (Int))) (L_impl_asRows : (List Int) → (List Int) → Option (Alt (List Int × List Int) (List Int × List Int))) (L_impl_withFirst : Int → (List Int) → Option (List Int)) (L_impl_made : (List Int) → Option (Res (List Int × Option Nat × List Int))) (N : Nat) (a0_Shape : List Int) (a0_Data : List Int) (a1_Shape : List Int) (a1_Data : List Int) : Option (Res (List Int × List Int)) :=
  (L_impl_numberOf a0_Shape a0_Data).bind fun y0 =>
  (y0).on (fun y1 => (L_impl_asRows a1_Shape a1_Data).bind fun y2 =>
   (y2).on (fun y3 => if 0 < (↑(List.length y3.fst) : Int) then ((y3.fst[0]?).bind fun y4 =>
     (L_impl_withFirst (if y1 < w64 (0 - y1) then w64 (0 - y1) else y1) y3.fst).bind fun y5 =>
     (L_impl_made y5).bind fun y6 =>
     (y6).on (fun y7 => if 0 < if y1 < w64 (0 - y1) then w64 (0 - y1) else y1 then ((y7.snd.fst).bind fun y8 =>
       if (if y1 < w64 (0 - y1) then w64 (0 - y1) else y1) = 0 then none
       else (if y1 < 0 then (impl_taken_l0 L_impl_numberOf L_impl_asRows L_impl_withFirst L_impl_made N y4 (if y1 < w64 (0 - y1) then w64 (0 - y1) else y1) (w64 (Int.tdiv (↑y8 : Int) (if y1 < w64 (0 - y1) then w64 (0 - y1) else y1))) (w64 (y4 - if y1 < w64 (0 - y1) then w64 (0 - y1) else y1)) (w64 (y4 - if y1 < w64 (0 - y1) then w64 (0 - y1) else y1)) y3.fst y3.snd y7.fst y7.snd.snd)
        else (impl_taken_l0 L_impl_numberOf L_impl_asRows L_impl_withFirst L_impl_made N y4 (if y1 < w64 (0 - y1) then w64 (0 - y1) else y1) (w64 (Int.tdiv (↑y8 : Int) (if y1 < w64 (0 - y1) then w64 (0 - y1) else y1))) 0 0 y3.fst y3.snd y7.fst y7.snd.snd)))
      else (if y1 < 0 then (impl_taken_l0 L_impl_numberOf L_impl_asRows L_impl_withFirst L_impl_made N y4 (if y1 < w64 (0 - y1) then w64 (0 - y1) else y1) 0 (w64 (y4 - if y1 < w64 (0 - y1) then w64 (0 - y1) else y1)) (w64 (y4 - if y1 < w64 (0 - y1) then w64 (0 - y1) else y1)) y3.fst y3.snd y7.fst y7.snd.snd)
       else (impl_taken_l0 L_impl_numberOf L_impl_asRows L_impl_withFirst L_impl_made N y4 (if y1 < w64 (0 - y1) then w64 (0 - y1) else y1) 0 0 0 y3.fst y3.snd y7.fst y7.snd.snd))) (fun y7 => some (.pan (y7))))
    else none) (fun y3 => (idx y3.fst 0).bind fun y9 =>
    (L_impl_withFirst (if y1 < w64 (0 - y1) then w64 (0 - y1) else y1) y3.fst).bind fun y10 =>
    (L_impl_made y10).bind fun y11 =>
    (y11).on (fun y12 => if 0 < if y1 < w64 (0 - y1) then w64 (0 - y1) else y1 then ((y12.snd.fst).bind fun y13 =>
      if (if y1 < w64 (0 - y1) then w64 (0 - y1) else y1) = 0 then none
      else (if y1 < 0 then (impl_taken_l1 L_impl_numberOf L_impl_asRows L_impl_withFirst L_impl_made N y9 (if y1 < w64 (0 - y1) then w64 (0 - y1) else y1) (w64 (Int.tdiv (↑y13 : Int) (if y1 < w64 (0 - y1) then w64 (0 - y1) else y1))) (w64 (y9 - if y1 < w64 (0 - y1) then w64 (0 - y1) else y1)) (w64 (y9 - if y1 < w64 (0 - y1) then w64 (0 - y1) else y1)) y3.fst y3.snd y12.fst y12.snd.snd)
       else (impl_taken_l1 L_impl_numberOf L_impl_asRows L_impl_withFirst L_impl_made N y9 (if y1 < w64 (0 - y1) then w64 (0 - y1) else y1) (w64 (Int.tdiv (↑y13 : Int) (if y1 < w64 (0 - y1) then w64 (0 - y1) else y1))) 0 0 y3.fst y3.snd y12.fst y12.snd.snd)))
     else (if y1 < 0 then (impl_taken_l1 L_impl_numberOf L_impl_asRows L_impl_withFirst L_impl_made N y9 (if y1 < w64 (0 - y1) then w64 (0 - y1) else y1) 0 (w64 (y9 - if y1 < w64 (0 - y1) then w64 (0 - y1) else y1)) (w64 (y9 - if y1 < w64 (0 - y1) then w64 (0 - y1) else y1)) y3.fst y3.snd y12.fst y12.snd.snd)
      else (impl_taken_l1 L_impl_numberOf L_impl_asRows L_impl_withFirst L_impl_made N y9 (if y1 < w64 (0 - y1) then w64 (0 - y1) else y1) 0 0 0 y3.fst y3.snd y12.fst y12.snd.snd))) (fun y12 => some (.pan (y12))))) (fun y1 => some (.pan (y1)))
theorem impl_taken_l1_eq (E : En) (hy : Hy E [] [] [] r_impl_taken none (fun y => nocap y) flatIds) (L_impl_numberOf : (List Int) → (List Int) → Option (Res (Int))) (h_impl_numberOf : H_impl_numberOf E L_impl_numberOf) (L_impl_asRows : (List Int) → (List Int) → Option (Alt (List Int × List Int) (List Int × List Int))) (h_impl_asRows : H_impl_asRows E L_impl_asRows) (L_impl_withFirst : Int → (List Int) → Option (List Int)) (h_impl_withFirst : H_impl_withFirst E L_impl_withFirst) (L_impl_made : (List Int) → Option (Res (List Int × Option Nat × List Int))) (h_impl_made : H_impl_made E L_impl_made) : ∀ (m1 : Nat) (x6 : Int) (x7 : Int) (x9 : Int) (x10 : Int) (x11 : Int) (o192_0 : List Int) (o192_1 : List Int) (o513 : List Int) (o514 : List Int), gH E [3, 4, 6, 7, 8, 9, 10, 11] b0_impl_taken [KJ.b 0, KJ.c k1_impl_taken] m1 ⟨slotsOf [(3, A.adr 192 1 0), (4, A.adr 256 1 0), (6, .d (.int .i64 x6)), (7, .d (.int .i64 x7)), (8, A.adr 512 1 0), (9, .d (.int .i64 x9)), (10, .d (.int .i64 x10)), (11, .d (.int .i64 x11))], obsOf [(192, ⟨1, .box [.d (lstT (cI) o192_0), .d (lstT (cI) o192_1)], false⟩), (256, ⟨1, .box [A.nil, A.nil], false⟩), (512, ⟨1, .box [A.row 513 1, A.row 514 1], false⟩), (513, ⟨1, rowT (cI) 3 none o513, false⟩), (514, ⟨1, rowT (cI) 3 none o514, false⟩)]⟩ = (impl_taken_l1 L_impl_numberOf L_impl_asRows L_impl_withFirst L_impl_made m1 x6 x7 x9 x10 x11 o192_0 o192_1 o513 o514).bind fun r => r.on (fun r => some (.ret (.agg [ownT (cI) 3 none false r.1, ownT (cI) 3 none false r.2]) [])) (fun x => some (.pan x [])) := by
  intro m1
  induction m1 with
  | zero => intros; rfl
  | succ m1 ih =>
    intros
    simp (config := {maxSteps := 2000000}) only [↓rPre, rPost, rCan, rObj, rI, rS, rB, r8, rLI, rEtc, hy.p, hy.l, hy.k, hy.r, hy.d, hy.w, hy.f, flatIds, oid, r_impl_taken, ↓G_unf _ _ b0_impl_taken.eq_1, ↓G_unf _ _ k1_impl_taken.eq_1, ↓G_unf _ _ c_impl_taken.eq_1, h_impl_numberOf.2, h_impl_numberOf.1, h_impl_asRows.2, h_impl_asRows.1, h_impl_withFirst.2, h_impl_withFirst.1, h_impl_made.2, h_impl_made.1, gH_succ, ih, bind_ite, impl_taken_l1, rFile, rRow78, rRow3, rRow53, rRow35, rArray, rRow39, rRow5, rRow9, rMap97, rLog, ↓reduceIte, Nat.reduceMul, Nat.reduceAdd, Nat.reduceSub, Nat.reduceEqDiff, Nat.reduceBEq, Nat.reduceLeDiff, Nat.reduceLT, reduceCtorEq, Int.reduceAdd, Int.reduceSub, Int.reduceToNat, Int.reduceNeg, Int.reduceEq, Int.reduceLT, Int.reduceLE]
theorem impl_taken_l0_eq (E : En) (hy : Hy E [] [] [] r_impl_taken none (fun y => nocap y) flatIds) (L_impl_numberOf : (List Int) → (List Int) → Option (Res (Int))) (h_impl_numberOf : H_impl_numberOf E L_impl_numberOf) (L_impl_asRows : (List Int) → (List Int) → Option (Alt (List Int × List Int) (List Int × List Int))) (h_impl_asRows : H_impl_asRows E L_impl_asRows) (L_impl_withFirst : Int → (List Int) → Option (List Int)) (h_impl_withFirst : H_impl_withFirst E L_impl_withFirst) (L_impl_made : (List Int) → Option (Res (List Int × Option Nat × List Int))) (h_impl_made : H_impl_made E L_impl_made) : ∀ (m0 : Nat) (x6 : Int) (x7 : Int) (x9 : Int) (x10 : Int) (x11 : Int) (o193 : List Int) (o194 : List Int) (o513 : List Int) (o514 : List Int), gH E [3, 4, 6, 7, 8, 9, 10, 11] b0_impl_taken [KJ.b 0, KJ.c k1_impl_taken] m0 ⟨slotsOf [(3, A.adr 192 1 0), (4, A.adr 256 1 0), (6, .d (.int .i64 x6)), (7, .d (.int .i64 x7)), (8, A.adr 512 1 0), (9, .d (.int .i64 x9)), (10, .d (.int .i64 x10)), (11, .d (.int .i64 x11))], obsOf [(192, ⟨1, .box [A.row 193 1, A.row 194 1], false⟩), (193, ⟨1, rowT (cI) 3 none o193, false⟩), (194, ⟨1, rowT (cI) 3 none o194, false⟩), (256, ⟨1, .box [A.nil, A.nil], false⟩), (512, ⟨1, .box [A.row 513 1, A.row 514 1], false⟩), (513, ⟨1, rowT (cI) 3 none o513, false⟩), (514, ⟨1, rowT (cI) 3 none o514, false⟩)]⟩ = (impl_taken_l0 L_impl_numberOf L_impl_asRows L_impl_withFirst L_impl_made m0 x6 x7 x9 x10 x11 o193 o194 o513 o514).bind fun r => r.on (fun r => some (.ret (.agg [ownT (cI) 3 none false r.1, ownT (cI) 3 none false r.2]) [])) (fun x => some (.pan x [])) := by
  intro m0
  induction m0 with
  | zero => intros; rfl
  | succ m0 ih =>
    intros
    simp (config := {maxSteps := 2000000}) only [↓rPre, rPost, rCan, rObj, rI, rS, rB, r8, rLI, rEtc, hy.p, hy.l, hy.k, hy.r, hy.d, hy.w, hy.f, flatIds, oid, r_impl_taken, ↓G_unf _ _ b0_impl_taken.eq_1, ↓G_unf _ _ k1_impl_taken.eq_1, ↓G_unf _ _ c_impl_taken.eq_1, h_impl_numberOf.2, h_impl_numberOf.1, h_impl_asRows.2, h_impl_asRows.1, h_impl_withFirst.2, h_impl_withFirst.1, h_impl_made.2, h_impl_made.1, gH_succ, ih, bind_ite, impl_taken_l0, impl_taken_l1_eq E hy L_impl_numberOf h_impl_numberOf L_impl_asRows h_impl_asRows L_impl_withFirst h_impl_withFirst L_impl_made h_impl_made, rFile, rRow78, rRow3, rRow53, rRow35, rArray, rRow39, rRow5, rRow9, rMap97, rLog, ↓reduceIte, Nat.reduceMul, Nat.reduceAdd, Nat.reduceSub, Nat.reduceEqDiff, Nat.reduceBEq, Nat.reduceLeDiff, Nat.reduceLT, reduceCtorEq, Int.reduceAdd, Int.reduceSub, Int.reduceToNat, Int.reduceNeg, Int.reduceEq, Int.reduceLT, Int.reduceLE]
theorem impl_taken_g (E : En) (hy : Hy E [] [] [] r_impl_taken none (fun y => nocap y) flatIds) (L_impl_numberOf : (List Int) → (List Int) → Option (Res (Int))) (h_impl_numberOf : H_impl_numberOf E L_impl_numberOf) (L_impl_asRows : (List Int) → (List Int) → Option (Alt (List Int × List Int) (List Int × List Int))) (h_impl_asRows : H_impl_asRows E L_impl_asRows) (L_impl_withFirst : Int → (List Int) → Option (List Int)) (h_impl_withFirst : H_impl_withFirst E L_impl_withFirst) (L_impl_made : (List Int) → Option (Res (List Int × Option Nat × List Int))) (h_impl_made : H_impl_made E L_impl_made) (a0_Shape : List Int) (a0_Data : List Int) (a1_Shape : List Int) (a1_Data : List Int) : G E c_impl_taken [] ⟨slotsOf [(0, .agg [.d (lstT cI a0_Shape), .d (lstT cI a0_Data)]), (1, .agg [.d (lstT cI a1_Shape), .d (lstT cI a1_Data)])], obsOf []⟩ = (impl_taken_f L_impl_numberOf L_impl_asRows L_impl_withFirst L_impl_made E.n a0_Shape a0_Data a1_Shape a1_Data).bind fun r => r.on (fun r => some (.ret (.agg [ownT (cI) 3 none false r.1, ownT (cI) 3 none false r.2]) [])) (fun x => some (.pan x [])) := by
  simp (config := {maxSteps := 2000000}) only [↓rPre, rPost, rCan, rObj, rI, rS, rB, r8, rLI, rEtc, hy.p, hy.l, hy.k, hy.r, hy.d, hy.w, hy.f, flatIds, oid, r_impl_taken, ↓G_unf _ _ b0_impl_taken.eq_1, ↓G_unf _ _ k1_impl_taken.eq_1, ↓G_unf _ _ c_impl_taken.eq_1, h_impl_numberOf.2, h_impl_numberOf.1, h_impl_asRows.2, h_impl_asRows.1, h_impl_withFirst.2, h_impl_withFirst.1, h_impl_made.2, h_impl_made.1, bind_ite, impl_taken_f, impl_taken_l1_eq E hy L_impl_numberOf h_impl_numberOf L_impl_asRows h_impl_asRows L_impl_withFirst h_impl_withFirst L_impl_made h_impl_made, impl_taken_l0_eq E hy L_impl_numberOf h_impl_numberOf L_impl_asRows h_impl_asRows L_impl_withFirst h_impl_withFirst L_impl_made h_impl_made, rFile, rRow78, rRow3, rRow53, rRow35, rArray, rRow39, rRow5, rRow9, rMap97, rLog, ↓reduceIte, Nat.reduceMul, Nat.reduceAdd, Nat.reduceSub, Nat.reduceEqDiff, Nat.reduceBEq, Nat.reduceLeDiff, Nat.reduceLT, reduceCtorEq, Int.reduceAdd, Int.reduceSub, Int.reduceToNat, Int.reduceNeg, Int.reduceEq, Int.reduceLT, Int.reduceLE]
def H_impl_taken (E : En) (L : (List Int) → (List Int) → (List Int) → (List Int) → Option (Res (List Int × List Int))) : Prop := E.Γ.mu 47 = false ∧ (∀ (a0_Shape : List Int) (a0_Data : List Int) (a1_Shape : List Int) (a1_Data : List Int), E.Γ 47 [.agg [.d (lstT cI a0_Shape), .d (lstT cI a0_Data)], .agg [.d (lstT cI a1_Shape), .d (lstT cI a1_Data)]] = (L a0_Shape a0_Data a1_Shape a1_Data).bind fun r => r.on (fun r => some (.ret (.agg [ownT (cI) 3 none false r.1, ownT (cI) 3 none false r.2]) [])) (fun x => some (.pan x [])))
-- loop.example/s02135/impl.rowsOf
def c_impl_rowsOf : Cd :=
  sq (r [1] [o 1 .box [t 0], o 2 .mv [i 0], o 3 .mv [i 0]])
  (sq (r [1, 4] [o 5 (.fa 0) [t 1], o 6 (.ld none) [t 5], o 7 (.ia 1) [t 6, i 0], o 8 (.ld none) [t 7], o 4 .mv [t 8]])
   (sq (sq (r [1, 4, 10] [o 9 .mv [t 4], o 10 (.bin .eql) [t 9, i 0]])
     (.cond (t 10) (sq (r [2, 3] [o 2 .mv [i 0], o 3 .mv [i 0]])
       (.ret)) (.skip)))
    (sq (rd [] [2, 3] [o 11 .mv [t 4], o 12 (.fa 1) [t 1], o 13 (.ld none) [t 12], o 14 (.len false) [t 13], o 15 .mv [t 4], o 16 (.bin .quo) [t 14, t 15], o 2 .mv [t 11], o 3 .mv [t 16]])
     (.ret))))
def r_impl_rowsOf : List RV := [.tmp 2, .tmp 3]
def impl_rowsOf_f (N : Nat) (a0_Shape : List Int) (a0_Data : List Int) : Option (Int × Int) :=
  (idx a0_Shape 0).bind fun y0 =>
  if y0 = 0 then some ((0, 0))
  else (if y0 = 0 then none
   else some ((y0, w64 (Int.tdiv (↑(List.length a0_Data) : Int) y0))))
theorem impl_rowsOf_g (E : En) (hy : Hy E [] [] [] r_impl_rowsOf none (fun y => nocap y) flatIds) (a0_Shape : List Int) (a0_Data : List Int) : G E c_impl_rowsOf [] ⟨slotsOf [(0, .agg [.d (lstT cI a0_Shape), .d (lstT cI a0_Data)])], obsOf []⟩ = (impl_rowsOf_f E.n a0_Shape a0_Data).bind fun r => some (.ret (.tup [.d (.int .i64 r.1), .d (.int .i64 r.2)]) []) := by
  simp (config := {maxSteps := 2000000}) only [↓rPre, rPost, rCan, rObj, rI, rS, rB, r8, rLI, rEtc, hy.p, hy.l, hy.k, hy.r, hy.d, hy.w, hy.f, flatIds, oid, r_impl_rowsOf, ↓G_unf _ _ c_impl_rowsOf.eq_1, bind_ite, impl_rowsOf_f, rFile, rRow78, rRow3, rRow53, rRow35, rArray, rRow39, rRow5, rRow9, rMap97, rLog, ↓reduceIte, Nat.reduceMul, Nat.reduceAdd, Nat.reduceSub, Nat.reduceEqDiff, Nat.reduceBEq, Nat.reduceLeDiff, Nat.reduceLT, reduceCtorEq, Int.reduceAdd, Int.reduceSub, Int.reduceToNat, Int.reduceNeg, Int.reduceEq, Int.reduceLT, Int.reduceLE]
def H_impl_rowsOf (E : En) (L : (List Int) → (List Int) → Option (Int × Int)) : Prop := E.Γ.mu 95 = false ∧ (∀ (a0_Shape : List Int) (a0_Data : List Int), E.Γ 95 [.agg [.d (lstT cI a0_Shape), .d (lstT cI a0_Data)]] = (L a0_Shape a0_Data).bind fun r => some (.ret (.tup [.d (.int .i64 r.1), .d (.int .i64 r.2)]) []))
-- loop.example/s02135/impl.dropped
def c_impl_dropped : Cd :=
  sq (r [2, 3, 4] [o 2 .box [t 0], o 3 .box [t 1], o 4 (.alloc [.nil, .nil]) []])
  (sq (r [3, 4, 5] [o 11 (.ld (some 2)) [t 2], o 12 (.call 92) [t 11], o 5 .mv [t 12]])
   (sq (r [3, 4, 5] [o 13 (.ld (some 2)) [t 3], o 14 (.call 93) [t 13], e (.st 2) [t 3, t 14]])
    (sq (r [3, 4, 5, 6, 7] [o 16 (.ld (some 2)) [t 3], o 17 (.call 95) [t 16], o 15 .mv [t 17], o 18 (.ext 0) [t 15], o 19 (.ext 1) [t 15], o 6 .mv [t 18], o 7 .mv [t 19]])
     (sq (r [3, 4, 7, 8, 9] [o 20 .mv [t 5], o 21 (.mm true) [t 20, i 0], o 22 .mv [t 6], o 23 (.mm false) [t 21, t 22], o 24 .mv [t 6], o 25 .mv [t 5], o 26 (.mm false) [t 25, i 0], o 27 (.bin .add) [t 24, t 26], o 28 (.mm true) [t 27, i 0], o 8 .mv [t 23], o 9 .mv [t 28]])
      (sq (sq (r [3, 4, 7, 8, 9, 31] [o 29 .mv [t 8], o 30 .mv [t 9], o 31 (.bin .gtr) [t 29, t 30]])
        (.cond (t 31) (r [3, 4, 7, 8, 9] [o 32 .mv [t 8], o 9 .mv [t 32]]) (.skip)))
       (sq (r [3, 4, 7, 8, 9, 10] [o 33 .mv [t 9], o 34 .mv [t 8], o 35 (.bin .sub) [t 33, t 34], o 36 (.fa 0) [t 3], o 37 (.ld none) [t 36], o 38 (.call 94) [t 35, t 37], o 39 (.call 90) [t 38], o 10 (.alloc [.nil, .nil]) [], e (.st 2) [t 10, t 39]])
        (sq (.frz 3 (rd [] [4, 10] [o 40 (.fa 1) [t 10], o 41 (.ld none) [t 40], o 42 (.fa 1) [t 3], o 43 (.ld none) [t 42], o 44 .mv [t 8], o 45 .mv [t 7], o 46 (.bin .mul) [t 44, t 45], o 47 .mv [t 9], o 48 .mv [t 7], o 49 (.bin .mul) [t 47, t 48], o 50 (.slc false 1 true true) [t 43, t 46, t 49], o 51 (.app 3 1 8) [t 41, t 50], o 52 (.fa 1) [t 10], e (.st 1) [t 52, t 51]]))
         (sq (r [4] [o 53 (.ld (some 2)) [t 10], e (.st 2) [t 4, t 53]])
          (.ret)))))))))
def r_impl_dropped : List RV := [.cell 4 (some 2)]
def impl_dropped_f (L_impl_numberOf : (List Int) → (List Int) → Option (Res (Int))) (L_impl_asRows : (List Int) → (List Int) → Option (Alt (List Int × List Int) (List Int × List Int))) (L_impl_rowsOf : (List Int) → (List Int) → Option (Int × Int)) (L_impl_withFirst : Int → (List Int) → Option (List Int)) (L_impl_made : (List Int) → Option (Res (List Int × Option Nat × List Int))) (N : Nat) (a0_Shape : List Int) (a0_Data : List Int) (a1_Shape : List Int) (a1_Data : List Int) : Option (Res (List Int × List Int)) :=
  (L_impl_numberOf a0_Shape a0_Data).bind fun y0 =>
  (y0).on (fun y1 => (L_impl_asRows a1_Shape a1_Data).bind fun y2 =>
   (y2).on (fun y3 => (L_impl_rowsOf y3.fst y3.snd).bind fun y4 =>
    if (if w64 (y4.fst + if 0 < y1 then 0 else y1) < 0 then 0 else w64 (y4.fst + if 0 < y1 then 0 else y1)) < if y4.fst < if y1 < 0 then 0 else y1 then y4.fst else if y1 < 0 then 0 else y1 then ((L_impl_withFirst (w64 ((if y4.fst < if y1 < 0 then 0 else y1 then y4.fst else if y1 < 0 then 0 else y1) - if y4.fst < if y1 < 0 then 0 else y1 then y4.fst else if y1 < 0 then 0 else y1)) y3.fst).bind fun y5 =>
     (L_impl_made y5).bind fun y6 =>
     (y6).on (fun y7 => (cut y3.snd (w64 ((if y4.fst < if y1 < 0 then 0 else y1 then y4.fst else if y1 < 0 then 0 else y1) * y4.snd)) (w64 ((if y4.fst < if y1 < 0 then 0 else y1 then y4.fst else if y1 < 0 then 0 else y1) * y4.snd))).bind fun y8 =>
      if room 8 (List.length (y7.snd.snd ++ y8)) then some (.ok ((y7.fst, y7.snd.snd ++ y8)))
      else none) (fun y7 => some (.pan (y7))))
    else ((L_impl_withFirst (w64 ((if w64 (y4.fst + if 0 < y1 then 0 else y1) < 0 then 0 else w64 (y4.fst + if 0 < y1 then 0 else y1)) - if y4.fst < if y1 < 0 then 0 else y1 then y4.fst else if y1 < 0 then 0 else y1)) y3.fst).bind fun y9 =>
     (L_impl_made y9).bind fun y10 =>
     (y10).on (fun y11 => (cut y3.snd (w64 ((if y4.fst < if y1 < 0 then 0 else y1 then y4.fst else if y1 < 0 then 0 else y1) * y4.snd)) (w64 ((if w64 (y4.fst + if 0 < y1 then 0 else y1) < 0 then 0 else w64 (y4.fst + if 0 < y1 then 0 else y1)) * y4.snd))).bind fun y12 =>
      if room 8 (List.length (y11.snd.snd ++ y12)) then some (.ok ((y11.fst, y11.snd.snd ++ y12)))
      else none) (fun y11 => some (.pan (y11))))) (fun y3 => (L_impl_rowsOf y3.fst y3.snd).bind fun y13 =>
    if (if w64 (y13.fst + if 0 < y1 then 0 else y1) < 0 then 0 else w64 (y13.fst + if 0 < y1 then 0 else y1)) < if y13.fst < if y1 < 0 then 0 else y1 then y13.fst else if y1 < 0 then 0 else y1 then ((L_impl_withFirst (w64 ((if y13.fst < if y1 < 0 then 0 else y1 then y13.fst else if y1 < 0 then 0 else y1) - if y13.fst < if y1 < 0 then 0 else y1 then y13.fst else if y1 < 0 then 0 else y1)) y3.fst).bind fun y14 =>
     (L_impl_made y14).bind fun y15 =>
     (y15).on (fun y16 => (cut y3.snd (w64 ((if y13.fst < if y1 < 0 then 0 else y1 then y13.fst else if y1 < 0 then 0 else y1) * y13.snd)) (w64 ((if y13.fst < if y1 < 0 then 0 else y1 then y13.fst else if y1 < 0 then 0 else y1) * y13.snd))).bind fun y17 =>
      if room 8 (List.length (y16.snd.snd ++ y17)) then some (.ok ((y16.fst, y16.snd.snd ++ y17)))
      else none) (fun y16 => some (.pan (y16))))
    else ((L_impl_withFirst (w64 ((if w64 (y13.fst + if 0 < y1 then 0 else y1) < 0 then 0 else w64 (y13.fst + if 0 < y1 then 0 else y1)) - if y13.fst < if y1 < 0 then 0 else y1 then y13.fst else if y1 < 0 then 0 else y1)) y3.fst).bind fun y18 =>
     (L_impl_made y18).bind fun y19 =>
     (y19).on (fun y20 => (cut y3.snd (w64 ((if y13.fst < if y1 < 0 then 0 else y1 then y13.fst else if y1 < 0 then 0 else y1) * y13.snd)) (w64 ((if w64 (y13.fst + if 0 < y1 then 0 else y1) < 0 then 0 else w64 (y13.fst + if 0 < y1 then 0 else y1)) * y13.snd))).bind fun y21 =>
      if room 8 (List.length (y20.snd.snd ++ y21)) then some (.ok ((y20.fst, y20.snd.snd ++ y21)))
      else none) (fun y20 => some (.pan (y20)))))) (fun y1 => some (.pan (y1)))
theorem impl_dropped_g (E : En) (hy : Hy E [] [] [] r_impl_dropped none (fun y => nocap y) flatIds) (L_impl_numberOf : (List Int) → (List Int) → Option (Res (Int))) (h_impl_numberOf : H_impl_numberOf E L_impl_numberOf) (L_impl_asRows : (List Int) → (List Int) → Option (Alt (List Int × List Int) (List Int × List Int))) (h_impl_asRows : H_impl_asRows E L_impl_asRows) (L_impl_rowsOf : (List Int) → (List Int) → Option (Int × Int)) (h_impl_rowsOf : H_impl_rowsOf E L_impl_rowsOf) (L_impl_withFirst : Int → (List Int) → Option (List Int)) (h_impl_withFirst : H_impl_withFirst E L_impl_withFirst) (L_impl_made : (List Int) → Option (Res (List Int × Option Nat × List Int))) (h_impl_made : H_impl_made E L_impl_made) (a0_Shape : List Int) (a0_Data : List Int) (a1_Shape : List Int) (a1_Data : List Int) : G E c_impl_dropped [] ⟨slotsOf [(0, .agg [.d (lstT cI a0_Shape), .d (lstT cI a0_Data)]), (1, .agg [.d (lstT cI a1_Shape), .d (lstT cI a1_Data)])], obsOf []⟩ = (impl_dropped_f L_impl_numberOf L_impl_asRows L_impl_rowsOf L_impl_withFirst L_impl_made E.n a0_Shape a0_Data a1_Shape a1_Data).bind fun r => r.on (fun r => some (.ret (.agg [ownT (cI) 3 none false r.1, ownT (cI) 3 none false r.2]) [])) (fun x => some (.pan x [])) := by
  simp (config := {maxSteps := 2000000}) only [↓rPre, rPost, rCan, rObj, rI, rS, rB, r8, rLI, rEtc, hy.p, hy.l, hy.k, hy.r, hy.d, hy.w, hy.f, flatIds, oid, r_impl_dropped, ↓G_unf _ _ c_impl_dropped.eq_1, h_impl_numberOf.2, h_impl_numberOf.1, h_impl_asRows.2, h_impl_asRows.1, h_impl_rowsOf.2, h_impl_rowsOf.1, h_impl_withFirst.2, h_impl_withFirst.1, h_impl_made.2, h_impl_made.1, bind_ite, impl_dropped_f, rFile, rRow78, rRow3, rRow53, rRow35, rArray, rRow39, rRow5, rRow9, rMap97, rLog, ↓reduceIte, Nat.reduceMul, Nat.reduceAdd, Nat.reduceSub, Nat.reduceEqDiff, Nat.reduceBEq, Nat.reduceLeDiff, Nat.reduceLT, reduceCtorEq, Int.reduceAdd, Int.reduceSub, Int.reduceToNat, Int.reduceNeg, Int.reduceEq, Int.reduceLT, Int.reduceLE]
def H_impl_dropped (E : En) (L : (List Int) → (List Int) → (List Int) → (List Int) → Option (Res (List Int × List Int))) : Prop := E.Γ.mu 48 = false ∧ (∀ (a0_Shape : List Int) (a0_Data : List Int) (a1_Shape : List Int) (a1_Data : List Int), E.Γ 48 [.agg [.d (lstT cI a0_Shape), .d (lstT cI a0_Data)], .agg [.d (lstT cI a1_Shape), .d (lstT cI a1_Data)]] = (L a0_Shape a0_Data a1_Shape a1_Data).bind fun r => r.on (fun r => some (.ret (.agg [ownT (cI) 3 none false r.1, ownT (cI) 3 none false r.2]) [])) (fun x => some (.pan x [])))
-- slices.Equal[[]int,int]
def b0_slices_Equal___int_int_ : Cd :=
  sq (r [0, 1, 12, 13, 14] [o 14 (.bin .lss) [t 13, t 12]])
  (sq (.cond (t 14) (.skip) (.exit 0))
   (sq (.block 1 (sq (r [0, 1, 5, 12, 13] [o 15 .mv [t 13], o 5 .mv [t 15]])
      (sq (rd [] [0, 1, 12, 13, 24] [o 16 .mv [t 0], o 17 .mv [t 5], o 18 (.ia 1) [t 16, t 17], o 19 (.ld none) [t 18], o 20 .mv [t 1], o 21 .mv [t 5], o 22 (.ia 1) [t 20, t 21], o 23 (.ld none) [t 22], o 24 (.bin .neq) [t 19, t 23]])
       (.cond (t 24) (sq (r [4] [o 4 .mv [b false]])
         (.ret)) (.skip)))))
    (r [0, 1, 12, 13] [o 25 (.bin .add) [t 13, i 1], o 13 .mv [t 25]])))
def k1_slices_Equal___int_int_ : Cd :=
  sq (r [4] [o 4 .mv [b true]])
  (.ret)
def c_slices_Equal___int_int_ : Cd :=
  sq (r [0, 1] [o 4 .mv [b false]])
  (sq (sq (r [0, 1, 10] [o 6 .mv [t 0], o 7 (.len false) [t 6], o 8 .mv [t 1], o 9 (.len false) [t 8], o 10 (.bin .neq) [t 7, t 9]])
    (.cond (t 10) (sq (r [4] [o 4 .mv [b false]])
      (.ret)) (.skip)))
   (sq (sq (r [0, 1, 12, 13] [o 11 .mv [t 0], o 12 (.len false) [t 11], o 13 .mv [i 0]])
     (.block 0 (.loop [0, 1, 12, 13] b0_slices_Equal___int_int_))) k1_slices_Equal___int_int_))
def r_slices_Equal___int_int_ : List RV := [.tmp 4]
def slices_Equal___int_int__l0 : Nat → (List Int) → (List Int) → Int → Int → Option (Bool)
  | 0, _, _, _, _ => none
  | m0 + 1, x0, x1, x12, x13 =>
    if x13 < x12 then ((idx x0 x13).bind fun y0 =>
     (idx x1 x13).bind fun y1 =>
     if y0 = y1 then slices_Equal___int_int__l0 m0 x0 x1 x12 (w64 (x13 + 1))
     else some false)
    else some true
def slices_Equal___int_int__f (N : Nat) (a0 : List Int) (a1 : List Int) : Option (Bool) :=
  if (↑(List.length a0) : Int) = (↑(List.length a1) : Int) then slices_Equal___int_int__l0 N a0 a1 ((↑(List.length a0) : Int)) 0
  else some false
theorem slices_Equal___int_int__l0_eq (E : En) (hy : Hy E [] [] [] r_slices_Equal___int_int_ none (fun y => nocap y) flatIds) : ∀ (m0 : Nat) (x0 : List Int) (x1 : List Int) (x12 : Int) (x13 : Int), gH E [0, 1, 12, 13] b0_slices_Equal___int_int_ [KJ.b 0, KJ.c k1_slices_Equal___int_int_] m0 ⟨slotsOf [(0, .d (lstT (cI) x0)), (1, .d (lstT (cI) x1)), (12, .d (.int .i64 x12)), (13, .d (.int .i64 x13))], obsOf []⟩ = (slices_Equal___int_int__l0 m0 x0 x1 x12 x13).bind fun r => some (.ret (.d (.bool r)) []) := by
  intro m0
  induction m0 with
  | zero => intros; rfl
  | succ m0 ih =>
    intros
    simp (config := {maxSteps := 2000000}) only [↓rPre, rPost, rCan, rObj, rI, rS, rB, r8, rLI, rEtc, hy.p, hy.l, hy.k, hy.r, hy.d, hy.w, hy.f, flatIds, oid, r_slices_Equal___int_int_, ↓G_unf _ _ b0_slices_Equal___int_int_.eq_1, ↓G_unf _ _ k1_slices_Equal___int_int_.eq_1, ↓G_unf _ _ c_slices_Equal___int_int_.eq_1, gH_succ, ih, bind_ite, slices_Equal___int_int__l0, rFile, rRow78, rRow3, rRow53, rRow35, rArray, rRow39, rRow5, rRow9, rMap97, rLog, ↓reduceIte, Nat.reduceMul, Nat.reduceAdd, Nat.reduceSub, Nat.reduceEqDiff, Nat.reduceBEq, Nat.reduceLeDiff, Nat.reduceLT, reduceCtorEq, Int.reduceAdd, Int.reduceSub, Int.reduceToNat, Int.reduceNeg, Int.reduceEq, Int.reduceLT, Int.reduceLE]
theorem slices_Equal___int_int__g (E : En) (hy : Hy E [] [] [] r_slices_Equal___int_int_ none (fun y => nocap y) flatIds) (a0 : List Int) (a1 : List Int) : G E c_slices_Equal___int_int_ [] ⟨slotsOf [(0, .d (lstT cI a0)), (1, .d (lstT cI a1))], obsOf []⟩ = (slices_Equal___int_int__f E.n a0 a1).bind fun r => some (.ret (.d (.bool r)) []) := by
  simp (config := {maxSteps := 2000000}) only [↓rPre, rPost, rCan, rObj, rI, rS, rB, r8, rLI, rEtc, hy.p, hy.l, hy.k, hy.r, hy.d, hy.w, hy.f, flatIds, oid, r_slices_Equal___int_int_, ↓G_unf _ _ b0_slices_Equal___int_int_.eq_1, ↓G_unf _ _ k1_slices_Equal___int_int_.eq_1, ↓G_unf _ _ c_slices_Equal___int_int_.eq_1, bind_ite, slices_Equal___int_int__f, slices_Equal___int_int__l0_eq E hy, rFile, rRow78, rRow3, rRow53, rRow35, rArray, rRow39, rRow5, rRow9, rMap97, rLog, ↓reduceIte, Nat.reduceMul, Nat.reduceAdd, Nat.reduceSub, Nat.reduceEqDiff, Nat.reduceBEq, Nat.reduceLeDiff, Nat.reduceLT, reduceCtorEq, Int.reduceAdd, Int.reduceSub, Int.reduceToNat, Int.reduceNeg, Int.reduceEq, Int.reduceLT, Int.reduceLE]
def H_slices_Equal___int_int_ (E : En) (L : (List Int) → (List Int) → Option (Bool)) : Prop := E.Γ.mu 55 = false ∧ (∀ (a0 : List Int) (a1 : List Int), E.Γ 55 [.d (lstT cI a0), .d (lstT cI a1)] = (L a0 a1).bind fun r => some (.ret (.d (.bool r)) []))
-- loop.example/s02135/impl.catenated
def c_impl_catenated : Cd :=
  sq (r [2, 3, 4] [o 2 .box [t 0], o 3 .box [t 1], o 4 (.alloc [.nil, .nil]) []])
  (sq (rd [] [2, 3, 4] [o 6 (.ld (some 2)) [t 2], o 8 (.ld (some 2)) [t 3], ap [] false [3] (o 7 (.call 93) [t 6]), o 9 (.call 93) [t 8], e (.st 2) [t 2, t 7], e (.st 2) [t 3, t 9]])
   (sq (sq (r [2, 3, 4, 16] [o 10 (.fa 0) [t 2], o 11 (.ld none) [t 10], o 12 (.len false) [t 11], o 13 (.fa 0) [t 3], o 14 (.ld none) [t 13], o 15 (.len false) [t 14], o 16 (.bin .sub) [t 12, t 15]])
     (.block 0 (sq (r [2, 3, 4, 16, 19] [o 20 (.bin .eql) [t 16, i 0], o 19 .mv [t 20]])
       (.cond (t 19) (.skip) (sq (r [2, 3, 4, 16, 21] [o 22 (.bin .eql) [t 16, i 1], o 21 .mv [t 22]])
         (.cond (t 21) (rd [] [2, 3, 4] [o 24 (.fa 0) [t 3], o 25 (.ld none) [t 24], o 27 (.fa 1) [t 3], o 28 (.ld none) [t 27], ap [] false [3, 24, 3, 27] (o 23 (lit 3 1 1) [i 1]), ap [] false [3, 27] (o 26 (.app 3 1 8) [t 23, t 25]), o 29 (.bld [.nil, .nil] [(0, 1), (1, 1)]) [t 26, t 28], e (.st 2) [t 3, t 29]]) (sq (r [2, 3, 4, 30] [o 31 (.bin .eql) [t 16, i (-1)], o 30 .mv [t 31]])
           (.cond (t 30) (rd [] [2, 3, 4] [o 33 (.fa 0) [t 2], o 34 (.ld none) [t 33], o 36 (.fa 1) [t 2], o 37 (.ld none) [t 36], ap [] false [2, 33, 2, 36] (o 32 (lit 3 1 1) [i 1]), ap [] false [2, 36] (o 35 (.app 3 1 8) [t 32, t 34]), o 38 (.bld [.nil, .nil] [(0, 1), (1, 1)]) [t 35, t 37], e (.st 2) [t 2, t 38]]) (r [2, 3, 4] [o 17 (.bld [(.d (iD 0))] [(0, 1)]) [i 2], o 18 (.mkI 90) [t 17], e .pan [t 18]])))))))))
    (sq (sq (.frz 2 (.frz 3 (rd [] [2, 3, 4, 46] [o 39 (.fa 0) [t 2], o 40 (.ld none) [t 39], o 41 (.slc false 1 true false) [t 40, i 1], o 42 (.fa 0) [t 3], o 43 (.ld none) [t 42], o 44 (.slc false 1 true false) [t 43, i 1], o 45 (.call 55) [t 41, t 44], o 46 .not [t 45]])))
      (.cond (t 46) (r [2, 3, 4] [o 47 (.bld [(.d (iD 0))] [(0, 1)]) [i 3], o 48 (.mkI 90) [t 47], e .pan [t 48]]) (.skip)))
     (sq (rd [] [2, 3, 4, 5] [ap [320] false [] (o 49 (.fa 0) [t 2]), ap [320] false [] (o 50 (.ld none) [t 49]), ap [320] false [] (o 51 (.ia 1) [t 50, i 0]), ap [320] false [] (o 52 (.ld none) [t 51]), ap [320] false [] (o 53 (.fa 0) [t 3]), ap [320] false [] (o 54 (.ld none) [t 53]), ap [320] false [] (o 55 (.ia 1) [t 54, i 0]), ap [320] false [] (o 56 (.ld none) [t 55]), ap [320] false [] (o 57 (.bin .add) [t 52, t 56]), ap [320] false [] (o 58 (.fa 0) [t 2]), ap [320] false [] (o 59 (.ld none) [t 58]), ap [] true [2, 49, 50, 51, 3, 53, 54, 55, 2, 58] (o 5 (.alloc [.nil, .nil]) []), ap [320] false [] (o 60 (.call 94) [t 57, t 59]), ap [320] false [] (o 61 (.call 90) [t 60]), e (.st 2) [t 5, t 61]])
      (sq (rd [] [4, 5] [o 62 (.fa 1) [t 5], o 63 (.ld none) [t 62], o 64 (.fa 1) [t 2], o 65 (.ld none) [t 64], o 67 (.fa 1) [t 3], o 68 (.ld none) [t 67], ap [] false [3, 67] (o 66 (.app 3 1 8) [t 63, t 65]), o 69 (.app 3 1 8) [t 66, t 68], o 70 (.fa 1) [t 5], e (.st 1) [t 70, t 69]])
       (sq (r [4] [o 71 (.ld (some 2)) [t 5], e (.st 2) [t 4, t 71]])
        (.ret)))))))
def r_impl_catenated : List RV := [.cell 4 (some 2)]
def impl_catenated_f (L_impl_asRows : (List Int) → (List Int) → Option (Alt (List Int × List Int) (List Int × List Int))) (L_slices_Equal___int_int_ : (List Int) → (List Int) → Option (Bool)) (L_impl_withFirst : Int → (List Int) → Option (List Int)) (L_impl_made : (List Int) → Option (Res (List Int × Option Nat × List Int))) (N : Nat) (a0_Shape : List Int) (a0_Data : List Int) (a1_Shape : List Int) (a1_Data : List Int) : Option (Res (List Int × List Int)) :=
  (L_impl_asRows a0_Shape a0_Data).bind fun y0 =>
  (y0).on (fun y1 => (L_impl_asRows a1_Shape a1_Data).bind fun y2 =>
   (y2).on (fun y3 => if w64 ((↑(List.length y1.fst) : Int) - (↑(List.length y3.fst) : Int)) = 0 then ((cut y1.fst 1 (↑(List.length y1.fst) : Int)).bind fun y4 =>
     (cut y3.fst 1 (↑(List.length y3.fst) : Int)).bind fun y5 =>
     (L_slices_Equal___int_int_ y4 y5).bind fun y6 =>
     if y6 = false then some (.pan (D.ifaceS 90 [D.int .i64 3]))
     else ((idx y1.fst 0).bind fun y7 =>
      (idx y3.fst 0).bind fun y8 =>
      (L_impl_withFirst (w64 (y7 + y8)) y1.fst).bind fun y9 =>
      (L_impl_made y9).bind fun y10 =>
      (y10).on (fun y11 => if room 8 (List.length (y11.snd.snd ++ y1.snd)) then (if room 8 (List.length (y11.snd.snd ++ y1.snd ++ y3.snd)) then some (.ok ((y11.fst, y11.snd.snd ++ y1.snd ++ y3.snd)))
        else none)
       else none) (fun y11 => some (.pan (y11)))))
    else (if w64 ((↑(List.length y1.fst) : Int) - (↑(List.length y3.fst) : Int)) = 1 then (if room 8 (List.length y3.fst + 1) then ((cut y1.fst 1 (↑(List.length y1.fst) : Int)).bind fun y12 =>
       (cut (1 :: y3.fst) 1 (↑(List.length y3.fst + 1) : Int)).bind fun y13 =>
       (L_slices_Equal___int_int_ y12 y13).bind fun y14 =>
       if y14 = false then some (.pan (D.ifaceS 90 [D.int .i64 3]))
       else ((idx y1.fst 0).bind fun y15 =>
        (idx (1 :: y3.fst) 0).bind fun y16 =>
        (L_impl_withFirst (w64 (y15 + y16)) y1.fst).bind fun y17 =>
        (L_impl_made y17).bind fun y18 =>
        (y18).on (fun y19 => if room 8 (List.length (y19.snd.snd ++ y1.snd)) then (if room 8 (List.length (y19.snd.snd ++ y1.snd ++ y3.snd)) then some (.ok ((y19.fst, y19.snd.snd ++ y1.snd ++ y3.snd)))
          else none)
         else none) (fun y19 => some (.pan (y19)))))
      else none)
     else (if w64 ((↑(List.length y1.fst) : Int) - (↑(List.length y3.fst) : Int)) = -1 then (if room 8 (List.length y1.fst + 1) then ((cut (1 :: y1.fst) 1 (↑(List.length y1.fst + 1) : Int)).bind fun y20 =>
        (cut y3.fst 1 (↑(List.length y3.fst) : Int)).bind fun y21 =>
        (L_slices_Equal___int_int_ y20 y21).bind fun y22 =>
        if y22 = false then some (.pan (D.ifaceS 90 [D.int .i64 3]))
        else ((idx (1 :: y1.fst) 0).bind fun y23 =>
         (idx y3.fst 0).bind fun y24 =>
         (L_impl_withFirst (w64 (y23 + y24)) (1 :: y1.fst)).bind fun y25 =>
         (L_impl_made y25).bind fun y26 =>
         (y26).on (fun y27 => if room 8 (List.length (y27.snd.snd ++ y1.snd)) then (if room 8 (List.length (y27.snd.snd ++ y1.snd ++ y3.snd)) then some (.ok ((y27.fst, y27.snd.snd ++ y1.snd ++ y3.snd)))
           else none)
          else none) (fun y27 => some (.pan (y27)))))
       else none)
      else some (.pan (D.ifaceS 90 [D.int .i64 2]))))) (fun y3 => if w64 ((↑(List.length y1.fst) : Int) - (↑(List.length y3.fst) : Int)) = 0 then ((cut y1.fst 1 (↑(List.length y1.fst) : Int)).bind fun y28 =>
     (cut y3.fst 1 (↑(List.length y3.fst) : Int)).bind fun y29 =>
     (L_slices_Equal___int_int_ y28 y29).bind fun y30 =>
     if y30 = false then some (.pan (D.ifaceS 90 [D.int .i64 3]))
     else ((idx y1.fst 0).bind fun y31 =>
      (idx y3.fst 0).bind fun y32 =>
      (L_impl_withFirst (w64 (y31 + y32)) y1.fst).bind fun y33 =>
      (L_impl_made y33).bind fun y34 =>
      (y34).on (fun y35 => if room 8 (List.length (y35.snd.snd ++ y1.snd)) then (if room 8 (List.length (y35.snd.snd ++ y1.snd ++ y3.snd)) then some (.ok ((y35.fst, y35.snd.snd ++ y1.snd ++ y3.snd)))
        else none)
       else none) (fun y35 => some (.pan (y35)))))
    else (if w64 ((↑(List.length y1.fst) : Int) - (↑(List.length y3.fst) : Int)) = 1 then (if room 8 (List.length y3.fst + 1) then ((cut y1.fst 1 (↑(List.length y1.fst) : Int)).bind fun y36 =>
       (cut (1 :: y3.fst) 1 (↑(List.length y3.fst + 1) : Int)).bind fun y37 =>
       (L_slices_Equal___int_int_ y36 y37).bind fun y38 =>
       if y38 = false then some (.pan (D.ifaceS 90 [D.int .i64 3]))
       else ((idx y1.fst 0).bind fun y39 =>
        (idx (1 :: y3.fst) 0).bind fun y40 =>
        (L_impl_withFirst (w64 (y39 + y40)) y1.fst).bind fun y41 =>
        (L_impl_made y41).bind fun y42 =>
        (y42).on (fun y43 => if room 8 (List.length (y43.snd.snd ++ y1.snd)) then (if room 8 (List.length (y43.snd.snd ++ y1.snd ++ y3.snd)) then some (.ok ((y43.fst, y43.snd.snd ++ y1.snd ++ y3.snd)))
          else none)
         else none) (fun y43 => some (.pan (y43)))))
      else none)
     else (if w64 ((↑(List.length y1.fst) : Int) - (↑(List.length y3.fst) : Int)) = -1 then (if room 8 (List.length y1.fst + 1) then ((cut (1 :: y1.fst) 1 (↑(List.length y1.fst + 1) : Int)).bind fun y44 =>
        (cut y3.fst 1 (↑(List.length y3.fst) : Int)).bind fun y45 =>
        (L_slices_Equal___int_int_ y44 y45).bind fun y46 =>
        if y46 = false then some (.pan (D.ifaceS 90 [D.int .i64 3]))
        else ((idx (1 :: y1.fst) 0).bind fun y47 =>
         (idx y3.fst 0).bind fun y48 =>
         (L_impl_withFirst (w64 (y47 + y48)) (1 :: y1.fst)).bind fun y49 =>
         (L_impl_made y49).bind fun y50 =>
         (y50).on (fun y51 => if room 8 (List.length (y51.snd.snd ++ y1.snd)) then (if room 8 (List.length (y51.snd.snd ++ y1.snd ++ y3.snd)) then some (.ok ((y51.fst, y51.snd.snd ++ y1.snd ++ y3.snd)))
           else none)
          else none) (fun y51 => some (.pan (y51)))))
       else none)
      else some (.pan (D.ifaceS 90 [D.int .i64 2])))))) (fun y1 => (L_impl_asRows a1_Shape a1_Data).bind fun y52 =>
   (y52).on (fun y53 => if w64 ((↑(List.length y1.fst) : Int) - (↑(List.length y53.fst) : Int)) = 0 then ((cut y1.fst 1 (↑(List.length y1.fst) : Int)).bind fun y54 =>
     (cut y53.fst 1 (↑(List.length y53.fst) : Int)).bind fun y55 =>
     (L_slices_Equal___int_int_ y54 y55).bind fun y56 =>
     if y56 = false then some (.pan (D.ifaceS 90 [D.int .i64 3]))
     else ((idx y1.fst 0).bind fun y57 =>
      (idx y53.fst 0).bind fun y58 =>
      (L_impl_withFirst (w64 (y57 + y58)) y1.fst).bind fun y59 =>
      (L_impl_made y59).bind fun y60 =>
      (y60).on (fun y61 => if room 8 (List.length (y61.snd.snd ++ y1.snd)) then (if room 8 (List.length (y61.snd.snd ++ y1.snd ++ y53.snd)) then some (.ok ((y61.fst, y61.snd.snd ++ y1.snd ++ y53.snd)))
        else none)
       else none) (fun y61 => some (.pan (y61)))))
    else (if w64 ((↑(List.length y1.fst) : Int) - (↑(List.length y53.fst) : Int)) = 1 then (if room 8 (List.length y53.fst + 1) then ((cut y1.fst 1 (↑(List.length y1.fst) : Int)).bind fun y62 =>
       (cut (1 :: y53.fst) 1 (↑(List.length y53.fst + 1) : Int)).bind fun y63 =>
       (L_slices_Equal___int_int_ y62 y63).bind fun y64 =>
       if y64 = false then some (.pan (D.ifaceS 90 [D.int .i64 3]))
       else ((idx y1.fst 0).bind fun y65 =>
        (idx (1 :: y53.fst) 0).bind fun y66 =>
        (L_impl_withFirst (w64 (y65 + y66)) y1.fst).bind fun y67 =>
        (L_impl_made y67).bind fun y68 =>
        (y68).on (fun y69 => if room 8 (List.length (y69.snd.snd ++ y1.snd)) then (if room 8 (List.length (y69.snd.snd ++ y1.snd ++ y53.snd)) then some (.ok ((y69.fst, y69.snd.snd ++ y1.snd ++ y53.snd)))
          else none)
         else none) (fun y69 => some (.pan (y69)))))
      else none)
     else (if w64 ((↑(List.length y1.fst) : Int) - (↑(List.length y53.fst) : Int)) = -1 then (if room 8 (List.length y1.fst + 1) then ((cut (1 :: y1.fst) 1 (↑(List.length y1.fst + 1) : Int)).bind fun y70 =>
        (cut y53.fst 1 (↑(List.length y53.fst) : Int)).bind fun y71 =>
        (L_slices_Equal___int_int_ y70 y71).bind fun y72 =>
        if y72 = false then some (.pan (D.ifaceS 90 [D.int .i64 3]))
        else ((idx (1 :: y1.fst) 0).bind fun y73 =>
         (idx y53.fst 0).bind fun y74 =>
         (L_impl_withFirst (w64 (y73 + y74)) (1 :: y1.fst)).bind fun y75 =>
         (L_impl_made y75).bind fun y76 =>
         (y76).on (fun y77 => if room 8 (List.length (y77.snd.snd ++ y1.snd)) then (if room 8 (List.length (y77.snd.snd ++ y1.snd ++ y53.snd)) then some (.ok ((y77.fst, y77.snd.snd ++ y1.snd ++ y53.snd)))
           else none)
          else none) (fun y77 => some (.pan (y77)))))
       else none)
      else some (.pan (D.ifaceS 90 [D.int .i64 2]))))) (fun y53 => if w64 ((↑(List.length y1.fst) : Int) - (↑(List.length y53.fst) : Int)) = 0 then ((cut y1.fst 1 (↑(List.length y1.fst) : Int)).bind fun y78 =>
     (cut y53.fst 1 (↑(List.length y53.fst) : Int)).bind fun y79 =>
     (L_slices_Equal___int_int_ y78 y79).bind fun y80 =>
     if y80 = false then some (.pan (D.ifaceS 90 [D.int .i64 3]))
     else ((idx y1.fst 0).bind fun y81 =>
      (idx y53.fst 0).bind fun y82 =>
      (L_impl_withFirst (w64 (y81 + y82)) y1.fst).bind fun y83 =>
      (L_impl_made y83).bind fun y84 =>
      (y84).on (fun y85 => if room 8 (List.length (y85.snd.snd ++ y1.snd)) then (if room 8 (List.length (y85.snd.snd ++ y1.snd ++ y53.snd)) then some (.ok ((y85.fst, y85.snd.snd ++ y1.snd ++ y53.snd)))
        else none)
       else none) (fun y85 => some (.pan (y85)))))
    else (if w64 ((↑(List.length y1.fst) : Int) - (↑(List.length y53.fst) : Int)) = 1 then (if room 8 (List.length y53.fst + 1) then ((cut y1.fst 1 (↑(List.length y1.fst) : Int)).bind fun y86 =>
       (cut (1 :: y53.fst) 1 (↑(List.length y53.fst + 1) : Int)).bind fun y87 =>
       (L_slices_Equal___int_int_ y86 y87).bind fun y88 =>
       if y88 = false then some (.pan (D.ifaceS 90 [D.int .i64 3]))
       else ((idx y1.fst 0).bind fun y89 =>
        (idx (1 :: y53.fst) 0).bind fun y90 =>
        (L_impl_withFirst (w64 (y89 + y90)) y1.fst).bind fun y91 =>
        (L_impl_made y91).bind fun y92 =>
        (y92).on (fun y93 => if room 8 (List.length (y93.snd.snd ++ y1.snd)) then (if room 8 (List.length (y93.snd.snd ++ y1.snd ++ y53.snd)) then some (.ok ((y93.fst, y93.snd.snd ++ y1.snd ++ y53.snd)))
          else none)
         else none) (fun y93 => some (.pan (y93)))))
      else none)
     else (if w64 ((↑(List.length y1.fst) : Int) - (↑(List.length y53.fst) : Int)) = -1 then (if room 8 (List.length y1.fst + 1) then ((cut (1 :: y1.fst) 1 (↑(List.length y1.fst + 1) : Int)).bind fun y94 =>
        (cut y53.fst 1 (↑(List.length y53.fst) : Int)).bind fun y95 =>
        (L_slices_Equal___int_int_ y94 y95).bind fun y96 =>
        if y96 = false then some (.pan (D.ifaceS 90 [D.int .i64 3]))
        else ((idx (1 :: y1.fst) 0).bind fun y97 =>
         (idx y53.fst 0).bind fun y98 =>
         (L_impl_withFirst (w64 (y97 + y98)) (1 :: y1.fst)).bind fun y99 =>
         (L_impl_made y99).bind fun y100 =>
         (y100).on (fun y101 => if room 8 (List.length (y101.snd.snd ++ y1.snd)) then (if room 8 (List.length (y101.snd.snd ++ y1.snd ++ y53.snd)) then some (.ok ((y101.fst, y101.snd.snd ++ y1.snd ++ y53.snd)))
           else none)
          else none) (fun y101 => some (.pan (y101)))))
       else none)
      else some (.pan (D.ifaceS 90 [D.int .i64 2]))))))
theorem impl_catenated_g (E : En) (hy : Hy E [] [] [] r_impl_catenated none (fun y => nocap y) flatIds) (L_impl_asRows : (List Int) → (List Int) → Option (Alt (List Int × List Int) (List Int × List Int))) (h_impl_asRows : H_impl_asRows E L_impl_asRows) (L_slices_Equal___int_int_ : (List Int) → (List Int) → Option (Bool)) (h_slices_Equal___int_int_ : H_slices_Equal___int_int_ E L_slices_Equal___int_int_) (L_impl_withFirst : Int → (List Int) → Option (List Int)) (h_impl_withFirst : H_impl_withFirst E L_impl_withFirst) (L_impl_made : (List Int) → Option (Res (List Int × Option Nat × List Int))) (h_impl_made : H_impl_made E L_impl_made) (a0_Shape : List Int) (a0_Data : List Int) (a1_Shape : List Int) (a1_Data : List Int) : G E c_impl_catenated [] ⟨slotsOf [(0, .agg [.d (lstT cI a0_Shape), .d (lstT cI a0_Data)]), (1, .agg [.d (lstT cI a1_Shape), .d (lstT cI a1_Data)])], obsOf []⟩ = (impl_catenated_f L_impl_asRows L_slices_Equal___int_int_ L_impl_withFirst L_impl_made E.n a0_Shape a0_Data a1_Shape a1_Data).bind fun r => r.on (fun r => some (.ret (.agg [ownT (cI) 3 none false r.1, ownT (cI) 3 none false r.2]) [])) (fun x => some (.pan x [])) := by
  simp (config := {maxSteps := 2000000}) only [↓rPre, rPost, rCan, rObj, rI, rS, rB, r8, rLI, rEtc, hy.p, hy.l, hy.k, hy.r, hy.d, hy.w, hy.f, flatIds, oid, r_impl_catenated, ↓G_unf _ _ c_impl_catenated.eq_1, h_impl_asRows.2, h_impl_asRows.1, h_slices_Equal___int_int_.2, h_slices_Equal___int_int_.1, h_impl_withFirst.2, h_impl_withFirst.1, h_impl_made.2, h_impl_made.1, bind_ite, impl_catenated_f, rFile, rRow78, rRow3, rRow53, rRow35, rArray, rRow39, rRow5, rRow9, rMap97, rLog, ↓reduceIte, Nat.reduceMul, Nat.reduceAdd, Nat.reduceSub, Nat.reduceEqDiff, Nat.reduceBEq, Nat.reduceLeDiff, Nat.reduceLT, reduceCtorEq, Int.reduceAdd, Int.reduceSub, Int.reduceToNat, Int.reduceNeg, Int.reduceEq, Int.reduceLT, Int.reduceLE]
def H_impl_catenated (E : En) (L : (List Int) → (List Int) → (List Int) → (List Int) → Option (Res (List Int × List Int))) : Prop := E.Γ.mu 49 = false ∧ (∀ (a0_Shape : List Int) (a0_Data : List Int) (a1_Shape : List Int) (a1_Data : List Int), E.Γ 49 [.agg [.d (lstT cI a0_Shape), .d (lstT cI a0_Data)], .agg [.d (lstT cI a1_Shape), .d (lstT cI a1_Data)]] = (L a0_Shape a0_Data a1_Shape a1_Data).bind fun r => r.on (fun r => some (.ret (.agg [ownT (cI) 3 none false r.1, ownT (cI) 3 none false r.2]) [])) (fun x => some (.pan x [])))
-- slices.Grow[[]int,int]
def c_slices_Grow___int_int_ : Cd :=
  sq (r [0, 1] [o 4 .mv [n]])
  (sq (sq (r [0, 1, 6] [o 5 .mv [t 1], o 6 (.bin .lss) [t 5, i 0]])
    (.cond (t 6) (r [0, 1] [o 7 (.mkI 9) [s [99, 97, 110, 110, 111, 116, 32, 98, 101, 32, 110, 101, 103, 97, 116, 105, 118, 101]], e .pan [t 7]]) (.skip)))
   (sq (sq (r [0, 1] [o 8 .mv [t 1], o 9 .mv [t 0], o 10 .cap [t 9], o 11 .mv [t 0], o 12 (.len false) [t 11], o 13 (.bin .sub) [t 10, t 12], o 14 (.bin .sub) [t 8, t 13], o 1 .mv [t 14]])
     (sq (r [0, 1, 16] [o 15 .mv [t 1], o 16 (.bin .gtr) [t 15, i 0]])
      (.cond (t 16) (r [0] [o 17 .mv [t 0], o 18 .mv [t 0], o 19 .cap [t 18], o 20 (.cut 1) [t 17, t 19], o 21 .mv [t 1], o 22 (.appZ 3 1 8 [(iD 0)]) [t 20, t 21], o 23 .mv [t 0], o 24 (.len false) [t 23], o 25 (.cut 1) [t 22, t 24], o 0 .mv [t 25]]) (.skip))))
    (sq (r [4] [o 26 .mv [t 0], o 4 .mv [t 26]])
     (.ret))))
def r_slices_Grow___int_int_ : List RV := [.tmp 4]
def slices_Grow___int_int__f (N : Nat) (a1 : Int) : Option (Res (List Int)) :=
  if a1 < 0 then some (.pan (D.iface 9 (sD [99, 97, 110, 110, 111, 116, 32, 98, 101, 32, 110, 101, 103, 97, 116, 105, 118, 101])))
  else (if 0 < w64 (a1 - w64 0) then (if zOk 8 (w64 (a1 - w64 0)) then some (.ok [])
    else none)
   else some (.ok []))
theorem slices_Grow___int_int__g (E : En) (hy : Hy E [] [] [] r_slices_Grow___int_int_ none (fun y => nocap (asOwn (.own 3 1) y)) flatIds) (a1 : Int) : G E c_slices_Grow___int_int_ [] ⟨slotsOf [(0, .nil), (1, .d (.int .i64 a1))], obsOf []⟩ = (slices_Grow___int_int__f E.n a1).bind fun r => r.on (fun r => some (.ret (ownT (cI) 3 none false r) [])) (fun x => some (.pan x [])) := by
  simp (config := {maxSteps := 2000000}) only [↓rPre, rPost, rCan, rObj, rI, rS, rB, r8, rLI, rEtc, hy.p, hy.l, hy.k, hy.r, hy.d, hy.w, hy.f, flatIds, oid, r_slices_Grow___int_int_, ↓G_unf _ _ c_slices_Grow___int_int_.eq_1, bind_ite, slices_Grow___int_int__f, rFile, rRow78, rRow3, rRow53, rRow35, rArray, rRow39, rRow5, rRow9, rMap97, rLog, ↓reduceIte, Nat.reduceMul, Nat.reduceAdd, Nat.reduceSub, Nat.reduceEqDiff, Nat.reduceBEq, Nat.reduceLeDiff, Nat.reduceLT, reduceCtorEq, Int.reduceAdd, Int.reduceSub, Int.reduceToNat, Int.reduceNeg, Int.reduceEq, Int.reduceLT, Int.reduceLE]
def H_slices_Grow___int_int_ (E : En) (L : Int → Option (Res (List Int))) : Prop := E.Γ.mu 111 = true ∧ (∀ (a1 : Int), E.Γ 111 [.nil, .d (.int .i64 a1)] = (L a1).bind fun r => r.on (fun r => some (.ret (ownT (cI) 3 none false r) [])) (fun x => some (.pan x [])))
-- slices.Concat[[]int,int]
def b0_slices_Concat___int_int_ : Cd :=
  sq (r [0, 3, 9, 10, 11, 12] [o 12 (.bin .lss) [t 11, t 10]])
  (sq (.cond (t 12) (.skip) (.exit 0))
   (sq (.block 1 (sq (r [0, 3, 5, 9, 10, 11] [o 13 (.ia 1) [t 9, t 11], o 14 (.ld none) [t 13], o 5 .mv [t 14]])
      (sq (r [0, 3, 9, 10, 11] [o 15 .mv [t 3], o 16 .mv [t 5], o 17 (.len false) [t 16], o 18 (.bin .add) [t 15, t 17], o 3 .mv [t 18]])
       (sq (r [0, 3, 9, 10, 11, 20] [o 19 .mv [t 3], o 20 (.bin .lss) [t 19, i 0]])
        (.cond (t 20) (r [0, 3, 9, 10, 11] [o 21 (.mkI 9) [s [108, 101, 110, 32, 111, 117, 116, 32, 111, 102, 32, 114, 97, 110, 103, 101]], e .pan [t 21]]) (.skip))))))
    (r [0, 3, 9, 10, 11] [o 22 (.bin .add) [t 11, i 1], o 11 .mv [t 22]])))
def b1_slices_Concat___int_int_ : Cd :=
  sq (r [6, 25, 26, 27, 28] [o 28 (.bin .lss) [t 27, t 26]])
  (sq (.cond (t 28) (.skip) (.exit 2))
   (sq (.block 3 (sq (r [6, 8, 25, 26, 27] [o 29 (.ia 1) [t 25, t 27], o 30 (.ld none) [t 29], o 8 .mv [t 30]])
      (r [6, 25, 26, 27] [o 31 .mv [t 6], o 32 .mv [t 8], o 33 (.app 3 1 8) [t 31, t 32], o 6 .mv [t 33]])))
    (r [6, 25, 26, 27] [o 34 (.bin .add) [t 27, i 1], o 27 .mv [t 34]])))
def k2_slices_Concat___int_int_ : Cd :=
  sq (r [2] [o 35 .mv [t 6], o 2 .mv [t 35]])
  (.ret)
def k3_slices_Concat___int_int_ : Cd :=
  sq (r [0, 6] [o 23 .mv [t 3], o 24 (.call 111) [n, t 23], o 6 .mv [t 24]])
  (sq (sq (r [6, 25, 26, 27] [o 25 .mv [t 0], o 26 (.len false) [t 25], o 27 .mv [i 0]])
    (.block 2 (.loop [6, 25, 26, 27] b1_slices_Concat___int_int_))) k2_slices_Concat___int_int_)
def c_slices_Concat___int_int_ : Cd :=
  sq (r [0] [o 2 .mv [n]])
  (sq (r [0, 3] [o 3 .mv [i 0]])
   (sq (sq (r [0, 3, 9, 10, 11] [o 9 .mv [t 0], o 10 (.len false) [t 9], o 11 .mv [i 0]])
     (.block 0 (.loop [0, 3, 9, 10, 11] b0_slices_Concat___int_int_))) k3_slices_Concat___int_int_))
def r_slices_Concat___int_int_ : List RV := [.tmp 2]
def slices_Concat___int_int__l1 (L_slices_Grow___int_int_ : Int → Option (Res (List Int))) : Nat → (List (List Int)) → Int → Int → (List Int) → Option (Res (List Int))
  | 0, _, _, _, _ => none
  | m1 + 1, x25, x26, x27, o384 =>
    if x27 < x26 then ((idx x25 x27).bind fun y0 =>
     if room 8 (List.length (o384 ++ y0)) then slices_Concat___int_int__l1 L_slices_Grow___int_int_ m1 x25 x26 (w64 (x27 + 1)) (o384 ++ y0)
     else none)
    else some (.ok o384)
def slices_Concat___int_int__l0 (L_slices_Grow___int_int_ : Int → Option (Res (List Int))) (N : Nat) : Nat → (List (List Int)) → Int → (List (List Int)) → Int → Int → Option (Res (List Int))
  | 0, _, _, _, _, _ => none
  | m0 + 1, x0, x3, x9, x10, x11 =>
    if x11 < x10 then ((idx x9 x11).bind fun y0 =>
     if w64 (x3 + (↑(List.length y0) : Int)) < 0 then some (.pan (D.iface 9 (sD [108, 101, 110, 32, 111, 117, 116, 32, 111, 102, 32, 114, 97, 110, 103, 101])))
     else slices_Concat___int_int__l0 L_slices_Grow___int_int_ N m0 x0 (w64 (x3 + (↑(List.length y0) : Int))) x9 x10 (w64 (x11 + 1)))
    else ((L_slices_Grow___int_int_ x3).bind fun y1 =>
     (y1).on (fun y2 => slices_Concat___int_int__l1 L_slices_Grow___int_int_ N x0 ((↑(List.length x0) : Int)) 0 y2) (fun y2 => some (.pan (y2))))
def slices_Concat___int_int__f (L_slices_Grow___int_int_ : Int → Option (Res (List Int))) (N : Nat) (a0 : List (List Int)) : Option (Res (List Int)) :=
  slices_Concat___int_int__l0 L_slices_Grow___int_int_ N N a0 0 a0 ((↑(List.length a0) : Int)) 0
theorem slices_Concat___int_int__l1_eq (E : En) (hy : Hy E [] [] [] r_slices_Concat___int_int_ none (fun y => nocap y) flatIds) (L_slices_Grow___int_int_ : Int → Option (Res (List Int))) (h_slices_Grow___int_int_ : H_slices_Grow___int_int_ E L_slices_Grow___int_int_) : ∀ (m1 : Nat) (x25 : List (List Int)) (x26 : Int) (x27 : Int) (o384 : List Int), gH E [6, 25, 26, 27] b1_slices_Concat___int_int_ [KJ.b 2, KJ.c k2_slices_Concat___int_int_] m1 ⟨slotsOf [(6, A.row 384 1), (25, .d (lstT (cL cI) x25)), (26, .d (.int .i64 x26)), (27, .d (.int .i64 x27))], obsOf [(384, ⟨1, rowT (cI) 3 none o384, false⟩)]⟩ = (slices_Concat___int_int__l1 L_slices_Grow___int_int_ m1 x25 x26 x27 o384).bind fun r => r.on (fun r => some (.ret (ownT (cI) 3 none false r) [])) (fun x => some (.pan x [])) := by
  intro m1
  induction m1 with
  | zero => intros; rfl
  | succ m1 ih =>
    intros
    simp (config := {maxSteps := 2000000}) only [↓rPre, rPost, rCan, rObj, rI, rS, rB, r8, rLI, rEtc, hy.p, hy.l, hy.k, hy.r, hy.d, hy.w, hy.f, flatIds, oid, r_slices_Concat___int_int_, ↓G_unf _ _ b0_slices_Concat___int_int_.eq_1, ↓G_unf _ _ b1_slices_Concat___int_int_.eq_1, ↓G_unf _ _ k2_slices_Concat___int_int_.eq_1, ↓G_unf _ _ k3_slices_Concat___int_int_.eq_1, ↓G_unf _ _ c_slices_Concat___int_int_.eq_1, h_slices_Grow___int_int_.2, h_slices_Grow___int_int_.1, gH_succ, ih, bind_ite, slices_Concat___int_int__l1, rFile, rRow78, rRow3, rRow53, rRow35, rArray, rRow39, rRow5, rRow9, rMap97, rLog, ↓reduceIte, Nat.reduceMul, Nat.reduceAdd, Nat.reduceSub, Nat.reduceEqDiff, Nat.reduceBEq, Nat.reduceLeDiff, Nat.reduceLT, reduceCtorEq, Int.reduceAdd, Int.reduceSub, Int.reduceToNat, Int.reduceNeg, Int.reduceEq, Int.reduceLT, Int.reduceLE]
theorem slices_Concat___int_int__l0_eq (E : En) (hy : Hy E [] [] [] r_slices_Concat___int_int_ none (fun y => nocap y) flatIds) (L_slices_Grow___int_int_ : Int → Option (Res (List Int))) (h_slices_Grow___int_int_ : H_slices_Grow___int_int_ E L_slices_Grow___int_int_) : ∀ (m0 : Nat) (x0 : List (List Int)) (x3 : Int) (x9 : List (List Int)) (x10 : Int) (x11 : Int), gH E [0, 3, 9, 10, 11] b0_slices_Concat___int_int_ [KJ.b 0, KJ.c k3_slices_Concat___int_int_] m0 ⟨slotsOf [(0, .d (lstT (cL cI) x0)), (3, .d (.int .i64 x3)), (9, .d (lstT (cL cI) x9)), (10, .d (.int .i64 x10)), (11, .d (.int .i64 x11))], obsOf []⟩ = (slices_Concat___int_int__l0 L_slices_Grow___int_int_ E.n m0 x0 x3 x9 x10 x11).bind fun r => r.on (fun r => some (.ret (ownT (cI) 3 none false r) [])) (fun x => some (.pan x [])) := by
  intro m0
  induction m0 with
  | zero => intros; rfl
  | succ m0 ih =>
    intros
    simp (config := {maxSteps := 2000000}) only [↓rPre, rPost, rCan, rObj, rI, rS, rB, r8, rLI, rEtc, hy.p, hy.l, hy.k, hy.r, hy.d, hy.w, hy.f, flatIds, oid, r_slices_Concat___int_int_, ↓G_unf _ _ b0_slices_Concat___int_int_.eq_1, ↓G_unf _ _ b1_slices_Concat___int_int_.eq_1, ↓G_unf _ _ k2_slices_Concat___int_int_.eq_1, ↓G_unf _ _ k3_slices_Concat___int_int_.eq_1, ↓G_unf _ _ c_slices_Concat___int_int_.eq_1, h_slices_Grow___int_int_.2, h_slices_Grow___int_int_.1, gH_succ, ih, bind_ite, slices_Concat___int_int__l0, slices_Concat___int_int__l1_eq E hy L_slices_Grow___int_int_ h_slices_Grow___int_int_, rFile, rRow78, rRow3, rRow53, rRow35, rArray, rRow39, rRow5, rRow9, rMap97, rLog, ↓reduceIte, Nat.reduceMul, Nat.reduceAdd, Nat.reduceSub, Nat.reduceEqDiff, Nat.reduceBEq, Nat.reduceLeDiff, Nat.reduceLT, reduceCtorEq, Int.reduceAdd, Int.reduceSub, Int.reduceToNat, Int.reduceNeg, Int.reduceEq, Int.reduceLT, Int.reduceLE]
theorem slices_Concat___int_int__g (E : En) (hy : Hy E [] [] [] r_slices_Concat___int_int_ none (fun y => nocap y) flatIds) (L_slices_Grow___int_int_ : Int → Option (Res (List Int))) (h_slices_Grow___int_int_ : H_slices_Grow___int_int_ E L_slices_Grow___int_int_) (a0 : List (List Int)) : G E c_slices_Concat___int_int_ [] ⟨slotsOf [(0, .d (lstT (cL cI) a0))], obsOf []⟩ = (slices_Concat___int_int__f L_slices_Grow___int_int_ E.n a0).bind fun r => r.on (fun r => some (.ret (ownT (cI) 3 none false r) [])) (fun x => some (.pan x [])) := by
  simp (config := {maxSteps := 2000000}) only [↓rPre, rPost, rCan, rObj, rI, rS, rB, r8, rLI, rEtc, hy.p, hy.l, hy.k, hy.r, hy.d, hy.w, hy.f, flatIds, oid, r_slices_Concat___int_int_, ↓G_unf _ _ b0_slices_Concat___int_int_.eq_1, ↓G_unf _ _ b1_slices_Concat___int_int_.eq_1, ↓G_unf _ _ k2_slices_Concat___int_int_.eq_1, ↓G_unf _ _ k3_slices_Concat___int_int_.eq_1, ↓G_unf _ _ c_slices_Concat___int_int_.eq_1, h_slices_Grow___int_int_.2, h_slices_Grow___int_int_.1, bind_ite, slices_Concat___int_int__f, slices_Concat___int_int__l0_eq E hy L_slices_Grow___int_int_ h_slices_Grow___int_int_, rFile, rRow78, rRow3, rRow53, rRow35, rArray, rRow39, rRow5, rRow9, rMap97, rLog, ↓reduceIte, Nat.reduceMul, Nat.reduceAdd, Nat.reduceSub, Nat.reduceEqDiff, Nat.reduceBEq, Nat.reduceLeDiff, Nat.reduceLT, reduceCtorEq, Int.reduceAdd, Int.reduceSub, Int.reduceToNat, Int.reduceNeg, Int.reduceEq, Int.reduceLT, Int.reduceLE]
def H_slices_Concat___int_int_ (E : En) (L : (List (List Int)) → Option (Res (List Int))) : Prop := E.Γ.mu 96 = false ∧ (∀ (a0 : List (List Int)), E.Γ 96 [.d (lstT (cL cI) a0)] = (L a0).bind fun r => r.on (fun r => some (.ret (ownT (cI) 3 none false r) [])) (fun x => some (.pan x [])))
-- loop.example/s02135/impl.picked
def b0_impl_picked : Cd :=
  sq (r [3, 4, 5, 6, 7, 30, 31, 32, 33] [o 33 (.bin .lss) [t 32, t 31]])
  (sq (.cond (t 33) (.skip) (.exit 0))
   (sq (.block 1 (sq (r [3, 4, 5, 6, 7, 9, 30, 31, 32] [o 34 (.ia 1) [t 30, t 32], o 35 (.ld none) [t 34], o 9 .mv [t 35]])
      (sq (sq (r [3, 4, 5, 6, 7, 9, 30, 31, 32, 42] [o 36 .mv [t 9], o 37 (.bin .lss) [t 36, i 0], o 38 .mv [t 37], g 38 false 39 .mv [t 9], g 38 false 40 .mv [t 6], g 38 false 41 (.bin .geq) [t 39, t 40], o 42 .pick [t 38, b true, t 41]])
        (.cond (t 42) (r [3, 4, 5, 6, 7, 9, 30, 31, 32] [o 43 (.bld [(.d (iD 0))] [(0, 1)]) [i 4], o 44 (.mkI 90) [t 43], e .pan [t 44]]) (.skip)))
       (.frz 3 (rd [] [3, 4, 5, 6, 7, 30, 31, 32] [o 45 (.fa 1) [t 5], o 46 (.ld none) [t 45], o 47 (.fa 1) [t 3], o 48 (.ld none) [t 47], o 49 .mv [t 9], o 50 .mv [t 7], o 51 (.bin .mul) [t 49, t 50], o 52 .mv [t 9], o 53 (.bin .add) [t 52, i 1], o 54 .mv [t 7], o 55 (.bin .mul) [t 53, t 54], o 56 (.slc false 1 true true) [t 48, t 51, t 55], o 57 (.app 3 1 8) [t 46, t 56], o 58 (.fa 1) [t 5], e (.st 1) [t 58, t 57]])))))
    (r [3, 4, 5, 6, 7, 30, 31, 32] [o 59 (.bin .add) [t 32, i 1], o 32 .mv [t 59]])))
def k1_impl_picked : Cd :=
  sq (r [4] [o 60 (.ld (some 2)) [t 5], e (.st 2) [t 4, t 60]])
  (.ret)
def c_impl_picked : Cd :=
  sq (r [2, 3, 4] [o 2 .box [t 0], o 3 .box [t 1], o 4 (.alloc [.nil, .nil]) []])
  (sq (sq (r [2, 3, 4, 13] [o 10 (.fa 0) [t 3], o 11 (.ld none) [t 10], o 12 (.len false) [t 11], o 13 (.bin .eql) [t 12, i 0]])
    (.cond (t 13) (r [2, 3, 4] [o 14 (.bld [(.d (iD 0))] [(0, 1)]) [i 2], o 15 (.mkI 90) [t 14], e .pan [t 15]]) (.skip)))
   (sq (.frz 3 (rd [] [2, 3, 4, 5] [ap [320] false [] (o 16 (.fa 0) [t 2]), ap [320] false [] (o 17 (.ld none) [t 16]), ap [320] false [] (o 18 (.fa 0) [t 3]), ap [320] false [] (o 19 (.ld none) [t 18]), ap [320] false [] (o 20 (.slc false 1 true false) [t 19, i 1]), ap [320] true [] (o 21 (lit 35 1 2) [t 17, t 20]), ap [1344] true [2, 16, 3, 18, 19] (o 5 (.alloc [.nil, .nil]) []), ap [320] false [] (o 22 (.call 96) [t 21]), ap [320] false [] (o 23 (.call 90) [t 22]), e (.st 2) [t 5, t 23]]))
    (sq (r [2, 3, 4, 5, 6, 7] [o 25 (.ld (some 2)) [t 3], o 26 (.call 95) [t 25], o 24 .mv [t 26], o 27 (.ext 0) [t 24], o 28 (.ext 1) [t 24], o 6 .mv [t 27], o 7 .mv [t 28]])
     (sq (sq (r [3, 4, 5, 6, 7, 30, 31, 32] [o 29 (.fa 1) [t 2], o 30 (.ld none) [t 29], o 31 (.len false) [t 30], o 32 .mv [i 0]])
       (.block 0 (.loop [3, 4, 5, 6, 7, 30, 31, 32] b0_impl_picked))) k1_impl_picked))))
def r_impl_picked : List RV := [.cell 4 (some 2)]
def impl_picked_l0 (L_slices_Concat___int_int_ : (List (List Int)) → Option (Res (List Int))) (L_impl_made : (List Int) → Option (Res (List Int × Option Nat × List Int))) (L_impl_rowsOf : (List Int) → (List Int) → Option (Int × Int)) : Nat → Int → Int → (List Int) → Int → Int → (List Int) → (List Int) → (List Int) → (List Int) → Option (Res (List Int × List Int))
  | 0, _, _, _, _, _, _, _, _, _ => none
  | m0 + 1, x6, x7, x30, x31, x32, o192_0, o192_1, o321, o322 =>
    if x32 < x31 then ((idx x30 x32).bind fun y0 =>
     if y0 < 0 then some (.pan (D.ifaceS 90 [D.int .i64 4]))
     else (if x6 ≤ y0 then some (.pan (D.ifaceS 90 [D.int .i64 4]))
      else ((cut o192_1 (w64 (y0 * x7)) (w64 (w64 (y0 + 1) * x7))).bind fun y1 =>
       if room 8 (List.length (o322 ++ y1)) then impl_picked_l0 L_slices_Concat___int_int_ L_impl_made L_impl_rowsOf m0 x6 x7 x30 x31 (w64 (x32 + 1)) o192_0 o192_1 o321 (o322 ++ y1)
       else none)))
    else some (.ok ((o321, o322)))
def impl_picked_f (L_slices_Concat___int_int_ : (List (List Int)) → Option (Res (List Int))) (L_impl_made : (List Int) → Option (Res (List Int × Option Nat × List Int))) (L_impl_rowsOf : (List Int) → (List Int) → Option (Int × Int)) (N : Nat) (a0_Shape : List Int) (a0_Data : List Int) (a1_Shape : List Int) (a1_Data : List Int) : Option (Res (List Int × List Int)) :=
  if (↑(List.length a1_Shape) : Int) = 0 then some (.pan (D.ifaceS 90 [D.int .i64 2]))
  else ((cut a1_Shape 1 (↑(List.length a1_Shape) : Int)).bind fun y0 =>
   (L_slices_Concat___int_int_ [a0_Shape, y0]).bind fun y1 =>
   (y1).on (fun y2 => (L_impl_made y2).bind fun y3 =>
    (y3).on (fun y4 => (L_impl_rowsOf a1_Shape a1_Data).bind fun y5 =>
     impl_picked_l0 L_slices_Concat___int_int_ L_impl_made L_impl_rowsOf N y5.fst y5.snd a0_Data ((↑(List.length a0_Data) : Int)) 0 a1_Shape a1_Data y4.fst y4.snd.snd) (fun y4 => some (.pan (y4)))) (fun y2 => some (.pan (y2))))
theorem impl_picked_l0_eq (E : En) (hy : Hy E [] [] [] r_impl_picked none (fun y => nocap y) flatIds) (L_slices_Concat___int_int_ : (List (List Int)) → Option (Res (List Int))) (h_slices_Concat___int_int_ : H_slices_Concat___int_int_ E L_slices_Concat___int_int_) (L_impl_made : (List Int) → Option (Res (List Int × Option Nat × List Int))) (h_impl_made : H_impl_made E L_impl_made) (L_impl_rowsOf : (List Int) → (List Int) → Option (Int × Int)) (h_impl_rowsOf : H_impl_rowsOf E L_impl_rowsOf) : ∀ (m0 : Nat) (x6 : Int) (x7 : Int) (x30 : List Int) (x31 : Int) (x32 : Int) (o192_0 : List Int) (o192_1 : List Int) (o321 : List Int) (o322 : List Int), gH E [3, 4, 5, 6, 7, 30, 31, 32] b0_impl_picked [KJ.b 0, KJ.c k1_impl_picked] m0 ⟨slotsOf [(3, A.adr 192 1 0), (4, A.adr 256 1 0), (5, A.adr 320 1 0), (6, .d (.int .i64 x6)), (7, .d (.int .i64 x7)), (30, .d (lstT (cI) x30)), (31, .d (.int .i64 x31)), (32, .d (.int .i64 x32))], obsOf [(192, ⟨1, .box [.d (lstT (cI) o192_0), .d (lstT (cI) o192_1)], false⟩), (256, ⟨1, .box [A.nil, A.nil], false⟩), (320, ⟨1, .box [A.row 321 1, A.row 322 1], false⟩), (321, ⟨1, rowT (cI) 3 none o321, false⟩), (322, ⟨1, rowT (cI) 3 none o322, false⟩)]⟩ = (impl_picked_l0 L_slices_Concat___int_int_ L_impl_made L_impl_rowsOf m0 x6 x7 x30 x31 x32 o192_0 o192_1 o321 o322).bind fun r => r.on (fun r => some (.ret (.agg [ownT (cI) 3 none false r.1, ownT (cI) 3 none false r.2]) [])) (fun x => some (.pan x [])) := by
  intro m0
  induction m0 with
  | zero => intros; rfl
  | succ m0 ih =>
    intros
    simp (config := {maxSteps := 2000000}) only [↓rPre, rPost, rCan, rObj, rI, rS, rB, r8, rLI, rEtc, hy.p, hy.l, hy.k, hy.r, hy.d, hy.w, hy.f, flatIds, oid, r_impl_picked, ↓G_unf _ _ b0_impl_picked.eq_1, ↓G_unf _ _ k1_impl_picked.eq_1, ↓G_unf _ _ c_impl_picked.eq_1, h_slices_Concat___int_int_.2, h_slices_Concat___int_int_.1, h_impl_made.2, h_impl_made.1, h_impl_rowsOf.2, h_impl_rowsOf.1, gH_succ, ih, bind_ite, impl_picked_l0, rFile, rRow78, rRow3, rRow53, rRow35, rArray, rRow39, rRow5, rRow9, rMap97, rLog, ↓reduceIte, Nat.reduceMul, Nat.reduceAdd, Nat.reduceSub, Nat.reduceEqDiff, Nat.reduceBEq, Nat.reduceLeDiff, Nat.reduceLT, reduceCtorEq, Int.reduceAdd, Int.reduceSub, Int.reduceToNat, Int.reduceNeg, Int.reduceEq, Int.reduceLT, Int.reduceLE]
theorem impl_picked_g (E : En) (hy : Hy E [] [] [] r_impl_picked none (fun y => nocap y) flatIds) (L_slices_Concat___int_int_ : (List (List Int)) → Option (Res (List Int))) (h_slices_Concat___int_int_ : H_slices_Concat___int_int_ E L_slices_Concat___int_int_) (L_impl_made : (List Int) → Option (Res (List Int × Option Nat × List Int))) (h_impl_made : H_impl_made E L_impl_made) (L_impl_rowsOf : (List Int) → (List Int) → Option (Int × Int)) (h_impl_rowsOf : H_impl_rowsOf E L_impl_rowsOf) (a0_Shape : List Int) (a0_Data : List Int) (a1_Shape : List Int) (a1_Data : List Int) : G E c_impl_picked [] ⟨slotsOf [(0, .agg [.d (lstT cI a0_Shape), .d (lstT cI a0_Data)]), (1, .agg [.d (lstT cI a1_Shape), .d (lstT cI a1_Data)])], obsOf []⟩ = (impl_picked_f L_slices_Concat___int_int_ L_impl_made L_impl_rowsOf E.n a0_Shape a0_Data a1_Shape a1_Data).bind fun r => r.on (fun r => some (.ret (.agg [ownT (cI) 3 none false r.1, ownT (cI) 3 none false r.2]) [])) (fun x => some (.pan x [])) := by
  simp (config := {maxSteps := 2000000}) only [↓rPre, rPost, rCan, rObj, rI, rS, rB, r8, rLI, rEtc, hy.p, hy.l, hy.k, hy.r, hy.d, hy.w, hy.f, flatIds, oid, r_impl_picked, ↓G_unf _ _ b0_impl_picked.eq_1, ↓G_unf _ _ k1_impl_picked.eq_1, ↓G_unf _ _ c_impl_picked.eq_1, h_slices_Concat___int_int_.2, h_slices_Concat___int_int_.1, h_impl_made.2, h_impl_made.1, h_impl_rowsOf.2, h_impl_rowsOf.1, bind_ite, impl_picked_f, impl_picked_l0_eq E hy L_slices_Concat___int_int_ h_slices_Concat___int_int_ L_impl_made h_impl_made L_impl_rowsOf h_impl_rowsOf, rFile, rRow78, rRow3, rRow53, rRow35, rArray, rRow39, rRow5, rRow9, rMap97, rLog, ↓reduceIte, Nat.reduceMul, Nat.reduceAdd, Nat.reduceSub, Nat.reduceEqDiff, Nat.reduceBEq, Nat.reduceLeDiff, Nat.reduceLT, reduceCtorEq, Int.reduceAdd, Int.reduceSub, Int.reduceToNat, Int.reduceNeg, Int.reduceEq, Int.reduceLT, Int.reduceLE]
def H_impl_picked (E : En) (L : (List Int) → (List Int) → (List Int) → (List Int) → Option (Res (List Int × List Int))) : Prop := E.Γ.mu 50 = false ∧ (∀ (a0_Shape : List Int) (a0_Data : List Int) (a1_Shape : List Int) (a1_Data : List Int), E.Γ 50 [.agg [.d (lstT cI a0_Shape), .d (lstT cI a0_Data)], .agg [.d (lstT cI a1_Shape), .d (lstT cI a1_Data)]] = (L a0_Shape a0_Data a1_Shape a1_Data).bind fun r => r.on (fun r => some (.ret (.agg [ownT (cI) 3 none false r.1, ownT (cI) 3 none false r.2]) [])) (fun x => some (.pan x [])))
-- loop.example/s02135/impl.found
def b0_impl_found : Cd :=
  sq (sq (r [2, 3, 4, 5, 6, 24] [o 23 .mv [t 6], o 24 (.bin .geq) [t 23, i 0]])
   (.cond (t 24) (.skip) (.exit 0)))
  (sq (.block 1 (r [2, 3, 4, 5, 6] [o 27 .mv [t 5], o 28 (.fa 1) [t 2], o 29 (.ld none) [t 28], o 30 .mv [t 6], o 31 (.ia 1) [t 29, t 30], o 32 (.ld none) [t 31], o 33 .mv [t 6], e (.mset 97 0 none) [t 27, t 32, t 33]]))
   (r [2, 3, 4, 5, 6] [o 25 .mv [t 6], o 26 (.bin .sub) [t 25, i 1], o 6 .mv [t 26]]))
def b1_impl_found : Cd :=
  sq (r [2, 4, 5, 7, 38, 39, 40, 41] [o 41 (.bin .lss) [t 40, t 39]])
  (sq (.cond (t 41) (.skip) (.exit 2))
   (sq (.block 3 (sq (r [2, 4, 5, 7, 9, 38, 39, 40] [o 42 (.ia 1) [t 38, t 40], o 43 (.ld none) [t 42], o 9 .mv [t 43]])
      (sq (r [2, 4, 5, 7, 10, 11, 38, 39, 40] [o 45 .mv [t 5], o 46 .mv [t 9], o 47 (.mget 97 0 none [(iD 0)] true) [t 45, t 46], o 44 .mv [t 47], o 48 (.ext 0) [t 44], o 49 (.ext 1) [t 44], o 10 .mv [t 48], o 11 .mv [t 49]])
       (sq (sq (r [2, 4, 5, 7, 10, 38, 39, 40, 51] [o 50 .mv [t 11], o 51 .not [t 50]])
         (.cond (t 51) (r [2, 4, 5, 7, 10, 38, 39, 40] [o 52 (.fa 1) [t 2], o 53 (.ld none) [t 52], o 54 (.len false) [t 53], o 10 .mv [t 54]]) (.skip)))
        (r [2, 4, 5, 7, 38, 39, 40] [o 55 (.fa 1) [t 7], o 56 (.ld none) [t 55], o 57 .mv [t 10], o 58 (lit 3 1 1) [t 57], o 59 (.app 3 1 8) [t 56, t 58], o 60 (.fa 1) [t 7], e (.st 1) [t 60, t 59]])))))
    (r [2, 4, 5, 7, 38, 39, 40] [o 61 (.bin .add) [t 40, i 1], o 40 .mv [t 61]])))
def k2_impl_found : Cd :=
  sq (r [4] [o 62 (.ld (some 2)) [t 7], e (.st 2) [t 4, t 62]])
  (.ret)
def k3_impl_found : Cd :=
  sq (r [2, 3, 4, 5, 7] [o 34 (.fa 0) [t 3], o 35 (.ld none) [t 34], o 36 (.call 90) [t 35], o 7 (.alloc [.nil, .nil]) [], e (.st 2) [t 7, t 36]])
  (sq (sq (r [2, 4, 5, 7, 38, 39, 40] [o 37 (.fa 1) [t 3], o 38 (.ld none) [t 37], o 39 (.len false) [t 38], o 40 .mv [i 0]])
    (.block 2 (.loop [2, 4, 5, 7, 38, 39, 40] b1_impl_found))) k2_impl_found)
def c_impl_found : Cd :=
  sq (r [2, 3, 4] [o 2 .box [t 0], o 3 .box [t 1], o 4 (.alloc [.nil, .nil]) []])
  (sq (sq (r [2, 3, 4, 15] [o 12 (.fa 0) [t 2], o 13 (.ld none) [t 12], o 14 (.len false) [t 13], o 15 (.bin .neq) [t 14, i 1]])
    (.cond (t 15) (r [2, 3, 4] [o 16 (.bld [(.d (iD 0))] [(0, 1)]) [i 2], o 17 (.mkI 90) [t 16], e .pan [t 17]]) (.skip)))
   (sq (r [2, 3, 4, 5] [o 18 (.mkR (.map 97 none)) [], o 5 .mv [t 18]])
    (sq (sq (r [2, 3, 4, 5, 6] [o 19 (.fa 1) [t 2], o 20 (.ld none) [t 19], o 21 (.len false) [t 20], o 22 (.bin .sub) [t 21, i 1], o 6 .mv [t 22]])
      (.block 0 (.loop [2, 3, 4, 5, 6] b0_impl_found))) k3_impl_found)))
def r_impl_found : List RV := [.cell 4 (some 2)]
def impl_found_l1 (L_impl_made : (List Int) → Option (Res (List Int × Option Nat × List Int))) : Nat → (List Int) → Int → Int → (List Int) → (List Int) → (List (Int × Int)) → (List Int) → (List Int) → Option (Res (List Int × List Int))
  | 0, _, _, _, _, _, _, _, _ => none
  | m1 + 1, x38, x39, x40, o128_0, o128_1, o320, o449, o450 =>
    if x40 < x39 then ((idx x38 x40).bind fun y0 =>
     if Option.isSome (look o320 y0) = false then (if room 8 (List.length (o450 ++ [(↑(List.length o128_1) : Int)])) then impl_found_l1 L_impl_made m1 x38 x39 (w64 (x40 + 1)) o128_0 o128_1 o320 o449 (o450 ++ [(↑(List.length o128_1) : Int)])
      else none)
     else (if room 8 (List.length (o450 ++ [Option.getD (look o320 y0) 0])) then impl_found_l1 L_impl_made m1 x38 x39 (w64 (x40 + 1)) o128_0 o128_1 o320 o449 (o450 ++ [Option.getD (look o320 y0) 0])
      else none))
    else some (.ok ((o449, o450)))
def impl_found_l0 (L_impl_made : (List Int) → Option (Res (List Int × Option Nat × List Int))) (N : Nat) : Nat → Int → (List Int) → (List Int) → (List Int) → (List Int) → (List (Int × Int)) → Option (Res (List Int × List Int))
  | 0, _, _, _, _, _, _ => none
  | m0 + 1, x6, o128_0, o128_1, o192_0, o192_1, o320 =>
    if 0 ≤ x6 then ((idx o128_1 x6).bind fun y0 =>
     impl_found_l0 L_impl_made N m0 (w64 (x6 - 1)) o128_0 o128_1 o192_0 o192_1 (putM o320 y0 x6))
    else ((L_impl_made o192_0).bind fun y1 =>
     (y1).on (fun y2 => impl_found_l1 L_impl_made N o192_1 ((↑(List.length o192_1) : Int)) 0 o128_0 o128_1 o320 y2.fst y2.snd.snd) (fun y2 => some (.pan (y2))))
def impl_found_f (L_impl_made : (List Int) → Option (Res (List Int × Option Nat × List Int))) (N : Nat) (a0_Shape : List Int) (a0_Data : List Int) (a1_Shape : List Int) (a1_Data : List Int) : Option (Res (List Int × List Int)) :=
  if (↑(List.length a0_Shape) : Int) = 1 then impl_found_l0 L_impl_made N N (w64 ((↑(List.length a0_Data) : Int) - 1)) a0_Shape a0_Data a1_Shape a1_Data []
  else some (.pan (D.ifaceS 90 [D.int .i64 2]))
theorem impl_found_l1_eq (E : En) (hy : Hy E [] [] [] r_impl_found none (fun y => nocap y) flatIds) (L_impl_made : (List Int) → Option (Res (List Int × Option Nat × List Int))) (h_impl_made : H_impl_made E L_impl_made) : ∀ (m1 : Nat) (x38 : List Int) (x39 : Int) (x40 : Int) (o128_0 : List Int) (o128_1 : List Int) (o320 : List (Int × Int)) (o449 : List Int) (o450 : List Int), gH E [2, 4, 5, 7, 38, 39, 40] b1_impl_found [KJ.b 2, KJ.c k2_impl_found] m1 ⟨slotsOf [(2, A.adr 128 1 0), (4, A.adr 256 1 0), (5, A.row 320 1), (7, A.adr 448 1 0), (38, .d (lstT (cI) x38)), (39, .d (.int .i64 x39)), (40, .d (.int .i64 x40))], obsOf [(128, ⟨1, .box [.d (lstT (cI) o128_0), .d (lstT (cI) o128_1)], false⟩), (256, ⟨1, .box [A.nil, A.nil], false⟩), (320, ⟨1, .res (.map 97 none) (lstT (cP cI cI) o320), false⟩), (448, ⟨1, .box [A.row 449 1, A.row 450 1], false⟩), (449, ⟨1, rowT (cI) 3 none o449, false⟩), (450, ⟨1, rowT (cI) 3 none o450, false⟩)]⟩ = (impl_found_l1 L_impl_made m1 x38 x39 x40 o128_0 o128_1 o320 o449 o450).bind fun r => r.on (fun r => some (.ret (.agg [ownT (cI) 3 none false r.1, ownT (cI) 3 none false r.2]) [])) (fun x => some (.pan x [])) := by
  intro m1
  induction m1 with
  | zero => intros; rfl
  | succ m1 ih =>
    intros
    simp (config := {maxSteps := 2000000}) only [↓rPre, rPost, rCan, rObj, rI, rS, rB, r8, rLI, rEtc, hy.p, hy.l, hy.k, hy.r, hy.d, hy.w, hy.f, flatIds, oid, r_impl_found, ↓G_unf _ _ b0_impl_found.eq_1, ↓G_unf _ _ b1_impl_found.eq_1, ↓G_unf _ _ k2_impl_found.eq_1, ↓G_unf _ _ k3_impl_found.eq_1, ↓G_unf _ _ c_impl_found.eq_1, h_impl_made.2, h_impl_made.1, gH_succ, ih, bind_ite, impl_found_l1, rFile, rRow78, rRow3, rRow53, rRow35, rArray, rRow39, rRow5, rRow9, rMap97, rLog, ↓reduceIte, Nat.reduceMul, Nat.reduceAdd, Nat.reduceSub, Nat.reduceEqDiff, Nat.reduceBEq, Nat.reduceLeDiff, Nat.reduceLT, reduceCtorEq, Int.reduceAdd, Int.reduceSub, Int.reduceToNat, Int.reduceNeg, Int.reduceEq, Int.reduceLT, Int.reduceLE]
theorem impl_found_l0_eq (E : En) (hy : Hy E [] [] [] r_impl_found none (fun y => nocap y) flatIds) (L_impl_made : (List Int) → Option (Res (List Int × Option Nat × List Int))) (h_impl_made : H_impl_made E L_impl_made) : ∀ (m0 : Nat) (x6 : Int) (o128_0 : List Int) (o128_1 : List Int) (o192_0 : List Int) (o192_1 : List Int) (o320 : List (Int × Int)), gH E [2, 3, 4, 5, 6] b0_impl_found [KJ.b 0, KJ.c k3_impl_found] m0 ⟨slotsOf [(2, A.adr 128 1 0), (3, A.adr 192 1 0), (4, A.adr 256 1 0), (5, A.row 320 1), (6, .d (.int .i64 x6))], obsOf [(128, ⟨1, .box [.d (lstT (cI) o128_0), .d (lstT (cI) o128_1)], false⟩), (192, ⟨1, .box [.d (lstT (cI) o192_0), .d (lstT (cI) o192_1)], false⟩), (256, ⟨1, .box [A.nil, A.nil], false⟩), (320, ⟨1, .res (.map 97 none) (lstT (cP cI cI) o320), false⟩)]⟩ = (impl_found_l0 L_impl_made E.n m0 x6 o128_0 o128_1 o192_0 o192_1 o320).bind fun r => r.on (fun r => some (.ret (.agg [ownT (cI) 3 none false r.1, ownT (cI) 3 none false r.2]) [])) (fun x => some (.pan x [])) := by
  intro m0
  induction m0 with
  | zero => intros; rfl
  | succ m0 ih =>
    intros
    simp (config := {maxSteps := 2000000}) only [↓rPre, rPost, rCan, rObj, rI, rS, rB, r8, rLI, rEtc, hy.p, hy.l, hy.k, hy.r, hy.d, hy.w, hy.f, flatIds, oid, r_impl_found, ↓G_unf _ _ b0_impl_found.eq_1, ↓G_unf _ _ b1_impl_found.eq_1, ↓G_unf _ _ k2_impl_found.eq_1, ↓G_unf _ _ k3_impl_found.eq_1, ↓G_unf _ _ c_impl_found.eq_1, h_impl_made.2, h_impl_made.1, gH_succ, ih, bind_ite, impl_found_l0, impl_found_l1_eq E hy L_impl_made h_impl_made, rFile, rRow78, rRow3, rRow53, rRow35, rArray, rRow39, rRow5, rRow9, rMap97, rLog, ↓reduceIte, Nat.reduceMul, Nat.reduceAdd, Nat.reduceSub, Nat.reduceEqDiff, Nat.reduceBEq, Nat.reduceLeDiff, Nat.reduceLT, reduceCtorEq, Int.reduceAdd, Int.reduceSub, Int.reduceToNat, Int.reduceNeg, Int.reduceEq, Int.reduceLT, Int.reduceLE]
theorem impl_found_g (E : En) (hy : Hy E [] [] [] r_impl_found none (fun y => nocap y) flatIds) (L_impl_made : (List Int) → Option (Res (List Int × Option Nat × List Int))) (h_impl_made : H_impl_made E L_impl_made) (a0_Shape : List Int) (a0_Data : List Int) (a1_Shape : List Int) (a1_Data : List Int) : G E c_impl_found [] ⟨slotsOf [(0, .agg [.d (lstT cI a0_Shape), .d (lstT cI a0_Data)]), (1, .agg [.d (lstT cI a1_Shape), .d (lstT cI a1_Data)])], obsOf []⟩ = (impl_found_f L_impl_made E.n a0_Shape a0_Data a1_Shape a1_Data).bind fun r => r.on (fun r => some (.ret (.agg [ownT (cI) 3 none false r.1, ownT (cI) 3 none false r.2]) [])) (fun x => some (.pan x [])) := by
  simp (config := {maxSteps := 2000000}) only [↓rPre, rPost, rCan, rObj, rI, rS, rB, r8, rLI, rEtc, hy.p, hy.l, hy.k, hy.r, hy.d, hy.w, hy.f, flatIds, oid, r_impl_found, ↓G_unf _ _ b0_impl_found.eq_1, ↓G_unf _ _ b1_impl_found.eq_1, ↓G_unf _ _ k2_impl_found.eq_1, ↓G_unf _ _ k3_impl_found.eq_1, ↓G_unf _ _ c_impl_found.eq_1, h_impl_made.2, h_impl_made.1, bind_ite, impl_found_f, impl_found_l0_eq E hy L_impl_made h_impl_made, rFile, rRow78, rRow3, rRow53, rRow35, rArray, rRow39, rRow5, rRow9, rMap97, rLog, ↓reduceIte, Nat.reduceMul, Nat.reduceAdd, Nat.reduceSub, Nat.reduceEqDiff, Nat.reduceBEq, Nat.reduceLeDiff, Nat.reduceLT, reduceCtorEq, Int.reduceAdd, Int.reduceSub, Int.reduceToNat, Int.reduceNeg, Int.reduceEq, Int.reduceLT, Int.reduceLE]
def H_impl_found (E : En) (L : (List Int) → (List Int) → (List Int) → (List Int) → Option (Res (List Int × List Int))) : Prop := E.Γ.mu 51 = false ∧ (∀ (a0_Shape : List Int) (a0_Data : List Int) (a1_Shape : List Int) (a1_Data : List Int), E.Γ 51 [.agg [.d (lstT cI a0_Shape), .d (lstT cI a0_Data)], .agg [.d (lstT cI a1_Shape), .d (lstT cI a1_Data)]] = (L a0_Shape a0_Data a1_Shape a1_Data).bind fun r => r.on (fun r => some (.ret (.agg [ownT (cI) 3 none false r.1, ownT (cI) 3 none false r.2]) [])) (fun x => some (.pan x [])))
-- loop.example/s02135/impl.truth
def c_impl_truth : Cd :=
  sq (r [0] [o 2 .mv [i 0]])
  (sq (sq (r [3] [o 3 .mv [t 0]])
    (.cond (t 3) (sq (r [2] [o 2 .mv [i 1]])
      (.ret)) (.skip)))
   (sq (r [2] [o 2 .mv [i 0]])
    (.ret)))
def r_impl_truth : List RV := [.tmp 2]
def impl_truth_f (N : Nat) (a0 : Bool) : Option (Int) :=
  if a0 = true then some 1
  else some 0
theorem impl_truth_g (E : En) (hy : Hy E [] [] [] r_impl_truth none (fun y => nocap y) flatIds) (a0 : Bool) : G E c_impl_truth [] ⟨slotsOf [(0, .d (.bool a0))], obsOf []⟩ = (impl_truth_f E.n a0).bind fun r => some (.ret (.d (.int .i64 r)) []) := by
  simp (config := {maxSteps := 2000000}) only [↓rPre, rPost, rCan, rObj, rI, rS, rB, r8, rLI, rEtc, hy.p, hy.l, hy.k, hy.r, hy.d, hy.w, hy.f, flatIds, oid, r_impl_truth, ↓G_unf _ _ c_impl_truth.eq_1, bind_ite, impl_truth_f, rFile, rRow78, rRow3, rRow53, rRow35, rArray, rRow39, rRow5, rRow9, rMap97, rLog, ↓reduceIte, Nat.reduceMul, Nat.reduceAdd, Nat.reduceSub, Nat.reduceEqDiff, Nat.reduceBEq, Nat.reduceLeDiff, Nat.reduceLT, reduceCtorEq, Int.reduceAdd, Int.reduceSub, Int.reduceToNat, Int.reduceNeg, Int.reduceEq, Int.reduceLT, Int.reduceLE]
def H_impl_truth (E : En) (L : Bool → Option (Int)) : Prop := E.Γ.mu 54 = false ∧ (∀ (a0 : Bool), E.Γ 54 [.d (.bool a0)] = (L a0).bind fun r => some (.ret (.d (.int .i64 r)) []))
-- loop.example/s02135/impl.scalarOf
def c_impl_scalarOf : Cd :=
  sq (r [0, 2] [o 2 (.alloc [.nil, .nil]) []])
  (sq (r [2] [o 3 (lit 3 1 0) [], o 4 .mv [t 0], o 5 (lit 3 1 1) [t 4], o 6 (.bld [.nil, .nil] [(0, 1), (1, 1)]) [t 3, t 5], e (.st 2) [t 2, t 6]])
   (.ret))
def r_impl_scalarOf : List RV := [.cell 2 (some 2)]
def impl_scalarOf_f (N : Nat) (a0 : Int) : Option (List Int × List Int) :=
  some (([], [a0]))
theorem impl_scalarOf_g (E : En) (hy : Hy E [] [] [] r_impl_scalarOf none (fun y => nocap y) flatIds) (a0 : Int) : G E c_impl_scalarOf [] ⟨slotsOf [(0, .d (.int .i64 a0))], obsOf []⟩ = (impl_scalarOf_f E.n a0).bind fun r => some (.ret (.agg [ownT (cI) 3 none false r.1, ownT (cI) 3 none false r.2]) []) := by
  simp (config := {maxSteps := 2000000}) only [↓rPre, rPost, rCan, rObj, rI, rS, rB, r8, rLI, rEtc, hy.p, hy.l, hy.k, hy.r, hy.d, hy.w, hy.f, flatIds, oid, r_impl_scalarOf, ↓G_unf _ _ c_impl_scalarOf.eq_1, bind_ite, impl_scalarOf_f, rFile, rRow78, rRow3, rRow53, rRow35, rArray, rRow39, rRow5, rRow9, rMap97, rLog, ↓reduceIte, Nat.reduceMul, Nat.reduceAdd, Nat.reduceSub, Nat.reduceEqDiff, Nat.reduceBEq, Nat.reduceLeDiff, Nat.reduceLT, reduceCtorEq, Int.reduceAdd, Int.reduceSub, Int.reduceToNat, Int.reduceNeg, Int.reduceEq, Int.reduceLT, Int.reduceLE]
def H_impl_scalarOf (E : En) (L : Int → Option (List Int × List Int)) : Prop := E.Γ.mu 53 = false ∧ (∀ (a0 : Int), E.Γ 53 [.d (.int .i64 a0)] = (L a0).bind fun r => some (.ret (.agg [ownT (cI) 3 none false r.1, ownT (cI) 3 none false r.2]) []))
-- loop.example/s02135/impl.Dyad$1
def c_impl_Dyad_1 : Cd :=
  sq (r [2, 3, 4] [o 2 .box [t 0], o 3 .box [t 1], o 4 (.alloc [.nil, .nil]) []])
  (sq (r [4] [o 5 (.fa 0) [t 2], o 6 (.ld none) [t 5], o 7 (.fa 0) [t 3], o 8 (.ld none) [t 7], o 9 (.call 55) [t 6, t 8], o 10 .mv [t 9], g 10 true 11 (.fa 1) [t 2], g 10 true 12 (.ld none) [t 11], g 10 true 13 (.fa 1) [t 3], g 10 true 14 (.ld none) [t 13], g 10 true 15 (.call 55) [t 12, t 14], o 16 .pick [t 10, t 15, b false], o 17 (.call 54) [t 16], o 18 (.call 53) [t 17], e (.st 2) [t 4, t 18]])
   (.ret))
def r_impl_Dyad_1 : List RV := [.cell 4 (some 2)]
def impl_Dyad_1_f (L_slices_Equal___int_int_ : (List Int) → (List Int) → Option (Bool)) (L_impl_truth : Bool → Option (Int)) (L_impl_scalarOf : Int → Option (List Int × List Int)) (N : Nat) (a0_Shape : List Int) (a0_Data : List Int) (a1_Shape : List Int) (a1_Data : List Int) : Option (List Int × List Int) :=
  (L_slices_Equal___int_int_ a0_Shape a1_Shape).bind fun y0 =>
  if y0 = true then ((L_slices_Equal___int_int_ a0_Data a1_Data).bind fun y1 =>
   (L_impl_truth y1).bind fun y2 =>
   (L_impl_scalarOf y2).bind fun y3 =>
   some ((y3.fst, y3.snd)))
  else ((L_impl_truth false).bind fun y4 =>
   (L_impl_scalarOf y4).bind fun y5 =>
   some ((y5.fst, y5.snd)))
theorem impl_Dyad_1_g (E : En) (hy : Hy E [] [] [] r_impl_Dyad_1 none (fun y => nocap y) flatIds) (L_slices_Equal___int_int_ : (List Int) → (List Int) → Option (Bool)) (h_slices_Equal___int_int_ : H_slices_Equal___int_int_ E L_slices_Equal___int_int_) (L_impl_truth : Bool → Option (Int)) (h_impl_truth : H_impl_truth E L_impl_truth) (L_impl_scalarOf : Int → Option (List Int × List Int)) (h_impl_scalarOf : H_impl_scalarOf E L_impl_scalarOf) (a0_Shape : List Int) (a0_Data : List Int) (a1_Shape : List Int) (a1_Data : List Int) : G E c_impl_Dyad_1 [] ⟨slotsOf [(0, .agg [.d (lstT cI a0_Shape), .d (lstT cI a0_Data)]), (1, .agg [.d (lstT cI a1_Shape), .d (lstT cI a1_Data)])], obsOf []⟩ = (impl_Dyad_1_f L_slices_Equal___int_int_ L_impl_truth L_impl_scalarOf E.n a0_Shape a0_Data a1_Shape a1_Data).bind fun r => some (.ret (.agg [ownT (cI) 3 none false r.1, ownT (cI) 3 none false r.2]) []) := by
  simp (config := {maxSteps := 2000000}) only [↓rPre, rPost, rCan, rObj, rI, rS, rB, r8, rLI, rEtc, hy.p, hy.l, hy.k, hy.r, hy.d, hy.w, hy.f, flatIds, oid, r_impl_Dyad_1, ↓G_unf _ _ c_impl_Dyad_1.eq_1, h_slices_Equal___int_int_.2, h_slices_Equal___int_int_.1, h_impl_truth.2, h_impl_truth.1, h_impl_scalarOf.2, h_impl_scalarOf.1, bind_ite, impl_Dyad_1_f, rFile, rRow78, rRow3, rRow53, rRow35, rArray, rRow39, rRow5, rRow9, rMap97, rLog, ↓reduceIte, Nat.reduceMul, Nat.reduceAdd, Nat.reduceSub, Nat.reduceEqDiff, Nat.reduceBEq, Nat.reduceLeDiff, Nat.reduceLT, reduceCtorEq, Int.reduceAdd, Int.reduceSub, Int.reduceToNat, Int.reduceNeg, Int.reduceEq, Int.reduceLT, Int.reduceLE]
def H_impl_Dyad_1 (E : En) (L : (List Int) → (List Int) → (List Int) → (List Int) → Option (List Int × List Int)) : Prop := E.Γ.mu 52 = false ∧ (∀ (a0_Shape : List Int) (a0_Data : List Int) (a1_Shape : List Int) (a1_Data : List Int), E.Γ 52 [.agg [.d (lstT cI a0_Shape), .d (lstT cI a0_Data)], .agg [.d (lstT cI a1_Shape), .d (lstT cI a1_Data)]] = (L a0_Shape a0_Data a1_Shape a1_Data).bind fun r => some (.ret (.agg [ownT (cI) 3 none false r.1, ownT (cI) 3 none false r.2]) []))
-- loop.example/s02135/impl.Dyad
def c_impl_Dyad : Cd :=
  sq (r [0, 4, 5, 6, 7] [o 4 .box [t 1], o 5 .box [t 2], o 6 (.alloc [.nil, .nil]) [], o 7 (.alloc [(.d (iD 0))]) []])
  (sq (r [0, 4, 5, 6, 7, 8] [o 9 (.bld [(.d .nilf), (.d .nilf), (.d .nilf), (.d .nilf), (.d .nilf), (.d .nilf), (.d .nilf), (.d .nilf)] [(1, 1), (2, 1), (3, 1), (4, 1), (5, 1), (6, 1), (7, 1)]) [.k (.d (.fn 46)), .k (.d (.fn 47)), .k (.d (.fn 48)), .k (.d (.fn 49)), .k (.d (.fn 50)), .k (.d (.fn 51)), .k (.d (.fn 52))], o 8 (.alloc [(.d .nilf), (.d .nilf), (.d .nilf), (.d .nilf), (.d .nilf), (.d .nilf), (.d .nilf), (.d .nilf)]) [], e (.st 8) [t 8, t 9]])
   (sq (sq (r [0, 4, 5, 6, 7, 8, 25] [o 10 .mv [t 0], o 11 (.bin .lss) [t 10, i 1], o 12 .mv [t 11], g 12 false 13 .mv [t 0], g 12 false 14 (.bin .gtr) [t 13, i 7], o 15 .pick [t 12, b true, t 14], o 16 .mv [t 15], g 16 false 17 (.ld (some 2)) [t 4], g 16 false 18 (.call 56) [t 17], g 16 false 19 .not [t 18], o 20 .pick [t 16, b true, t 19], o 21 .mv [t 20], g 21 false 22 (.ld (some 2)) [t 5], g 21 false 23 (.call 56) [t 22], g 21 false 24 .not [t 23], o 25 .pick [t 21, b true, t 24]])
     (.cond (t 25) (sq (r [6, 7] [o 26 (.bld [.nil, .nil] []) [], e (.st 2) [t 6, t 26], e (.st 1) [t 7, i 9]])
       (.ret)) (.skip)))
    (.skip)))
def r_impl_Dyad : List RV := [.cell 6 (some 2), .cell 7 none]
def d_impl_Dyad : Cd :=
  sq (rd [] [6, 7] [o 27 .mv [t 0], o 28 (.iaa 8 1) [t 8, t 27], o 29 (.ld none) [t 28], o 30 (.ld (some 2)) [t 4], o 31 (.ld (some 2)) [t 5], o 32 .dyn [t 29, t 30, t 31], e (.st 2) [t 6, t 32], e (.st 1) [t 7, i 0]])
  (.ret)
def da_impl_Dyad : List Nat := [7, 6]
def kp_impl_Dyad : List Nat := [0, 4, 5, 6, 7, 8]
def impl_Dyad_b_f (L_impl_reshaped : (List Int) → (List Int) → (List Int) → (List Int) → Option (Res (List Int × List Int))) (L_impl_taken : (List Int) → (List Int) → (List Int) → (List Int) → Option (Res (List Int × List Int))) (L_impl_dropped : (List Int) → (List Int) → (List Int) → (List Int) → Option (Res (List Int × List Int))) (L_impl_catenated : (List Int) → (List Int) → (List Int) → (List Int) → Option (Res (List Int × List Int))) (L_impl_picked : (List Int) → (List Int) → (List Int) → (List Int) → Option (Res (List Int × List Int))) (L_impl_found : (List Int) → (List Int) → (List Int) → (List Int) → Option (Res (List Int × List Int))) (L_impl_Dyad_1 : (List Int) → (List Int) → (List Int) → (List Int) → Option (List Int × List Int)) (L_impl_ArrayOk : (List Int) → (List Int) → Option (Bool)) (L_fd : D → Int → (List Int) → (List Int) → Option (Int)) (N : Nat) (x0 : Int) (o256_0 : List Int) (o256_1 : List Int) (o320_0 : List Int) (o320_1 : List Int) (o448_0 : Int) : Option (List Int × List Int × Int) :=
  if 0 ≤ x0 ∧ x0 < 8 then (if Int.toNat x0 * 1 = 0 then none
   else (if Int.toNat x0 * 1 = 1 then ((L_impl_reshaped o256_0 o256_1 o320_0 o320_1).bind fun y0 =>
     (y0).on (fun y1 => some ((y1.fst, y1.snd, 0))) (fun y1 => (L_fd y1 o448_0 [] []).bind fun y2 =>
      some (([], [], y2))))
    else (if Int.toNat x0 * 1 = 2 then ((L_impl_taken o256_0 o256_1 o320_0 o320_1).bind fun y3 =>
      (y3).on (fun y4 => some ((y4.fst, y4.snd, 0))) (fun y4 => (L_fd y4 o448_0 [] []).bind fun y5 =>
       some (([], [], y5))))
     else (if Int.toNat x0 * 1 = 3 then ((L_impl_dropped o256_0 o256_1 o320_0 o320_1).bind fun y6 =>
       (y6).on (fun y7 => some ((y7.fst, y7.snd, 0))) (fun y7 => (L_fd y7 o448_0 [] []).bind fun y8 =>
        some (([], [], y8))))
      else (if Int.toNat x0 * 1 = 4 then ((L_impl_catenated o256_0 o256_1 o320_0 o320_1).bind fun y9 =>
        (y9).on (fun y10 => some ((y10.fst, y10.snd, 0))) (fun y10 => (L_fd y10 o448_0 [] []).bind fun y11 =>
         some (([], [], y11))))
       else (if Int.toNat x0 * 1 = 5 then ((L_impl_picked o256_0 o256_1 o320_0 o320_1).bind fun y12 =>
         (y12).on (fun y13 => some ((y13.fst, y13.snd, 0))) (fun y13 => (L_fd y13 o448_0 [] []).bind fun y14 =>
          some (([], [], y14))))
        else (if Int.toNat x0 * 1 = 6 then ((L_impl_found o256_0 o256_1 o320_0 o320_1).bind fun y15 =>
          (y15).on (fun y16 => some ((y16.fst, y16.snd, 0))) (fun y16 => (L_fd y16 o448_0 [] []).bind fun y17 =>
           some (([], [], y17))))
         else (if Int.toNat x0 * 1 = 7 then ((L_impl_Dyad_1 o256_0 o256_1 o320_0 o320_1).bind fun y18 =>
           some ((y18.fst, y18.snd, 0)))
          else none))))))))
  else none
theorem impl_Dyad_b_g  (E : En) (hy : Hy E [448, 384] [] [] r_impl_Dyad (some ([448, 384], [7, 6])) (fun y => nocap (asOwn (.node [.node [.own 3 1, .own 3 1], .k]) y)) flatIds) (L_impl_reshaped : (List Int) → (List Int) → (List Int) → (List Int) → Option (Res (List Int × List Int))) (h_impl_reshaped : H_impl_reshaped E L_impl_reshaped) (L_impl_taken : (List Int) → (List Int) → (List Int) → (List Int) → Option (Res (List Int × List Int))) (h_impl_taken : H_impl_taken E L_impl_taken) (L_impl_dropped : (List Int) → (List Int) → (List Int) → (List Int) → Option (Res (List Int × List Int))) (h_impl_dropped : H_impl_dropped E L_impl_dropped) (L_impl_catenated : (List Int) → (List Int) → (List Int) → (List Int) → Option (Res (List Int × List Int))) (h_impl_catenated : H_impl_catenated E L_impl_catenated) (L_impl_picked : (List Int) → (List Int) → (List Int) → (List Int) → Option (Res (List Int × List Int))) (h_impl_picked : H_impl_picked E L_impl_picked) (L_impl_found : (List Int) → (List Int) → (List Int) → (List Int) → Option (Res (List Int × List Int))) (h_impl_found : H_impl_found E L_impl_found) (L_impl_Dyad_1 : (List Int) → (List Int) → (List Int) → (List Int) → Option (List Int × List Int)) (h_impl_Dyad_1 : H_impl_Dyad_1 E L_impl_Dyad_1) (L_impl_ArrayOk : (List Int) → (List Int) → Option (Bool)) (h_impl_ArrayOk : H_impl_ArrayOk E L_impl_ArrayOk) (L_fd : D → Int → (List Int) → (List Int) → Option (Int)) (h_fd : ∀ (x : D) (a0 : Int) (a1_Shape : List Int) (a1_Data : List Int), E.fd x [.box [.d (.int .i64 a0)], .box [.d (lstT cI a1_Shape), .d (lstT cI a1_Data)]] = (L_fd x a0 a1_Shape a1_Data).bind fun r => some [[.int .i64 r], [D.nils, D.nils]]) (x0 : Int) (o256_0 : List Int) (o256_1 : List Int) (o320_0 : List Int) (o320_1 : List Int) (o448_0 : Int) : gB E d_impl_Dyad ⟨slotsOf [(0, .d (.int .i64 x0)), (4, A.adr 256 1 0), (5, A.adr 320 1 0), (6, A.adr 384 1 0), (7, A.adr 448 1 0), (8, A.adr 512 1 0)], obsOf [(256, ⟨1, .box [.d (lstT (cI) o256_0), .d (lstT (cI) o256_1)], false⟩), (320, ⟨1, .box [.d (lstT (cI) o320_0), .d (lstT (cI) o320_1)], false⟩), (384, ⟨1, .box [A.nil, A.nil], false⟩), (448, ⟨1, .box [.d (.int .i64 o448_0)], false⟩), (512, ⟨1, .box [.d (D.nilf), A.d (D.fn 46), A.d (D.fn 47), A.d (D.fn 48), A.d (D.fn 49), A.d (D.fn 50), A.d (D.fn 51), A.d (D.fn 52)], false⟩)]⟩ = (impl_Dyad_b_f L_impl_reshaped L_impl_taken L_impl_dropped L_impl_catenated L_impl_picked L_impl_found L_impl_Dyad_1 L_impl_ArrayOk L_fd E.n x0 o256_0 o256_1 o320_0 o320_1 o448_0).bind fun r => some (.ret (.tup [.agg [ownT (cI) 3 none false r.1, ownT (cI) 3 none false r.2.1], .d (.int .i64 r.2.2)]) []) := by
  simp (config := {maxSteps := 2000000}) only [↓rPre, rPost, rCan, rObj, rI, rS, rB, r8, rLI, rEtc, hy.p, hy.l, hy.k, hy.r, hy.d, hy.w, hy.f, flatIds, oid, r_impl_Dyad, ↓G_unf _ _ c_impl_Dyad.eq_1, da_impl_Dyad, kp_impl_Dyad, h_impl_reshaped.2, h_impl_reshaped.1, h_impl_taken.2, h_impl_taken.1, h_impl_dropped.2, h_impl_dropped.1, h_impl_catenated.2, h_impl_catenated.1, h_impl_picked.2, h_impl_picked.1, h_impl_found.2, h_impl_found.1, h_impl_Dyad_1.2, h_impl_Dyad_1.1, h_impl_ArrayOk.2, h_impl_ArrayOk.1, h_fd, (show ∀ (x : D) (a0 : Int) (a1_Data : List Int), E.fd x [.box [.d (.int .i64 a0)], .box [.d (.lst 0 []), .d (lstT cI a1_Data)]] = (L_fd x a0 [] a1_Data).bind fun r => some [[.int .i64 r], [D.nils, D.nils]] from fun x a0 a1_Data => h_fd x a0 [] a1_Data), (show ∀ (x : D) (a0 : Int) (a1_Shape : List Int), E.fd x [.box [.d (.int .i64 a0)], .box [.d (lstT cI a1_Shape), .d (.lst 0 [])]] = (L_fd x a0 a1_Shape []).bind fun r => some [[.int .i64 r], [D.nils, D.nils]] from fun x a0 a1_Shape => h_fd x a0 a1_Shape []), (show ∀ (x : D) (a0 : Int), E.fd x [.box [.d (.int .i64 a0)], .box [.d (.lst 0 []), .d (.lst 0 [])]] = (L_fd x a0 [] []).bind fun r => some [[.int .i64 r], [D.nils, D.nils]] from fun x a0 => h_fd x a0 [] []), gB_eq, ↓G_unf _ _ d_impl_Dyad.eq_1, bind_ite, impl_Dyad_b_f, rFile, rRow78, rRow3, rRow53, rRow35, rArray, rRow39, rRow5, rRow9, rMap97, rLog, ↓reduceIte, Nat.reduceMul, Nat.reduceAdd, Nat.reduceSub, Nat.reduceEqDiff, Nat.reduceBEq, Nat.reduceLeDiff, Nat.reduceLT, reduceCtorEq, Int.reduceAdd, Int.reduceSub, Int.reduceToNat, Int.reduceNeg, Int.reduceEq, Int.reduceLT, Int.reduceLE]
def impl_Dyad_f (L_impl_reshaped : (List Int) → (List Int) → (List Int) → (List Int) → Option (Res (List Int × List Int))) (L_impl_taken : (List Int) → (List Int) → (List Int) → (List Int) → Option (Res (List Int × List Int))) (L_impl_dropped : (List Int) → (List Int) → (List Int) → (List Int) → Option (Res (List Int × List Int))) (L_impl_catenated : (List Int) → (List Int) → (List Int) → (List Int) → Option (Res (List Int × List Int))) (L_impl_picked : (List Int) → (List Int) → (List Int) → (List Int) → Option (Res (List Int × List Int))) (L_impl_found : (List Int) → (List Int) → (List Int) → (List Int) → Option (Res (List Int × List Int))) (L_impl_Dyad_1 : (List Int) → (List Int) → (List Int) → (List Int) → Option (List Int × List Int)) (L_impl_ArrayOk : (List Int) → (List Int) → Option (Bool)) (L_fd : D → Int → (List Int) → (List Int) → Option (Int)) (N : Nat) (a0 : Int) (a1_Shape : List Int) (a1_Data : List Int) (a2_Shape : List Int) (a2_Data : List Int) : Option (List Int × List Int × Int) :=
  if a0 < 1 then some (([], [], 9))
  else (if 7 < a0 then some (([], [], 9))
   else ((L_impl_ArrayOk a1_Shape a1_Data).bind fun y0 =>
    if y0 = false then some (([], [], 9))
    else ((L_impl_ArrayOk a2_Shape a2_Data).bind fun y1 =>
     if y1 = false then some (([], [], 9))
     else impl_Dyad_b_f L_impl_reshaped L_impl_taken L_impl_dropped L_impl_catenated L_impl_picked L_impl_found L_impl_Dyad_1 L_impl_ArrayOk L_fd N a0 a1_Shape a1_Data a2_Shape a2_Data 0)))
theorem impl_Dyad_g (E : En) (hy : Hy E [] [] [] r_impl_Dyad none (fun y => nocap (asOwn (.node [.node [.own 3 1, .own 3 1], .k]) y)) flatIds) (L_impl_reshaped : (List Int) → (List Int) → (List Int) → (List Int) → Option (Res (List Int × List Int))) (h_impl_reshaped : H_impl_reshaped E L_impl_reshaped) (L_impl_taken : (List Int) → (List Int) → (List Int) → (List Int) → Option (Res (List Int × List Int))) (h_impl_taken : H_impl_taken E L_impl_taken) (L_impl_dropped : (List Int) → (List Int) → (List Int) → (List Int) → Option (Res (List Int × List Int))) (h_impl_dropped : H_impl_dropped E L_impl_dropped) (L_impl_catenated : (List Int) → (List Int) → (List Int) → (List Int) → Option (Res (List Int × List Int))) (h_impl_catenated : H_impl_catenated E L_impl_catenated) (L_impl_picked : (List Int) → (List Int) → (List Int) → (List Int) → Option (Res (List Int × List Int))) (h_impl_picked : H_impl_picked E L_impl_picked) (L_impl_found : (List Int) → (List Int) → (List Int) → (List Int) → Option (Res (List Int × List Int))) (h_impl_found : H_impl_found E L_impl_found) (L_impl_Dyad_1 : (List Int) → (List Int) → (List Int) → (List Int) → Option (List Int × List Int)) (h_impl_Dyad_1 : H_impl_Dyad_1 E L_impl_Dyad_1) (L_impl_ArrayOk : (List Int) → (List Int) → Option (Bool)) (h_impl_ArrayOk : H_impl_ArrayOk E L_impl_ArrayOk) (L_fd : D → Int → (List Int) → (List Int) → Option (Int)) (h_fd : ∀ (x : D) (a0 : Int) (a1_Shape : List Int) (a1_Data : List Int), E.fd x [.box [.d (.int .i64 a0)], .box [.d (lstT cI a1_Shape), .d (lstT cI a1_Data)]] = (L_fd x a0 a1_Shape a1_Data).bind fun r => some [[.int .i64 r], [D.nils, D.nils]]) (a0 : Int) (a1_Shape : List Int) (a1_Data : List Int) (a2_Shape : List Int) (a2_Data : List Int) : G E c_impl_Dyad [.df da_impl_Dyad kp_impl_Dyad d_impl_Dyad] ⟨slotsOf [(0, .d (.int .i64 a0)), (1, .agg [.d (lstT cI a1_Shape), .d (lstT cI a1_Data)]), (2, .agg [.d (lstT cI a2_Shape), .d (lstT cI a2_Data)])], obsOf []⟩ = (impl_Dyad_f L_impl_reshaped L_impl_taken L_impl_dropped L_impl_catenated L_impl_picked L_impl_found L_impl_Dyad_1 L_impl_ArrayOk L_fd E.n a0 a1_Shape a1_Data a2_Shape a2_Data).bind fun r => some (.ret (.tup [.agg [ownT (cI) 3 none false r.1, ownT (cI) 3 none false r.2.1], .d (.int .i64 r.2.2)]) []) := by
  simp (config := {maxSteps := 2000000}) only [↓rPre, rPost, rCan, rObj, rI, rS, rB, r8, rLI, rEtc, hy.p, hy.l, hy.k, hy.r, hy.d, hy.w, hy.f, flatIds, oid, r_impl_Dyad, ↓G_unf _ _ c_impl_Dyad.eq_1, da_impl_Dyad, kp_impl_Dyad, h_impl_reshaped.2, h_impl_reshaped.1, h_impl_taken.2, h_impl_taken.1, h_impl_dropped.2, h_impl_dropped.1, h_impl_catenated.2, h_impl_catenated.1, h_impl_picked.2, h_impl_picked.1, h_impl_found.2, h_impl_found.1, h_impl_Dyad_1.2, h_impl_Dyad_1.1, h_impl_ArrayOk.2, h_impl_ArrayOk.1, h_fd, (show ∀ (x : D) (a0 : Int) (a1_Data : List Int), E.fd x [.box [.d (.int .i64 a0)], .box [.d (.lst 0 []), .d (lstT cI a1_Data)]] = (L_fd x a0 [] a1_Data).bind fun r => some [[.int .i64 r], [D.nils, D.nils]] from fun x a0 a1_Data => h_fd x a0 [] a1_Data), (show ∀ (x : D) (a0 : Int) (a1_Shape : List Int), E.fd x [.box [.d (.int .i64 a0)], .box [.d (lstT cI a1_Shape), .d (.lst 0 [])]] = (L_fd x a0 a1_Shape []).bind fun r => some [[.int .i64 r], [D.nils, D.nils]] from fun x a0 a1_Shape => h_fd x a0 a1_Shape []), (show ∀ (x : D) (a0 : Int), E.fd x [.box [.d (.int .i64 a0)], .box [.d (.lst 0 []), .d (.lst 0 [])]] = (L_fd x a0 [] []).bind fun r => some [[.int .i64 r], [D.nils, D.nils]] from fun x a0 => h_fd x a0 [] []), bind_ite, impl_Dyad_f, impl_Dyad_b_g (E.behind [448, 384] [7, 6]) ⟨by rw [show (E.behind [448, 384] [7, 6]).ps = E.ps ++ [448, 384] from rfl, hy.p]; rfl, hy.l, hy.k, hy.r, rfl, hy.w, hy.f⟩ L_impl_reshaped h_impl_reshaped L_impl_taken h_impl_taken L_impl_dropped h_impl_dropped L_impl_catenated h_impl_catenated L_impl_picked h_impl_picked L_impl_found h_impl_found L_impl_Dyad_1 h_impl_Dyad_1 L_impl_ArrayOk h_impl_ArrayOk L_fd h_fd, behind_n, rFile, rRow78, rRow3, rRow53, rRow35, rArray, rRow39, rRow5, rRow9, rMap97, rLog, ↓reduceIte, Nat.reduceMul, Nat.reduceAdd, Nat.reduceSub, Nat.reduceEqDiff, Nat.reduceBEq, Nat.reduceLeDiff, Nat.reduceLT, reduceCtorEq, Int.reduceAdd, Int.reduceSub, Int.reduceToNat, Int.reduceNeg, Int.reduceEq, Int.reduceLT, Int.reduceLE]
def H_impl_Dyad (E : En) (L : Int → (List Int) → (List Int) → (List Int) → (List Int) → Option (List Int × List Int × Int)) : Prop := E.Γ.mu 16 = false ∧ (∀ (a0 : Int) (a1_Shape : List Int) (a1_Data : List Int) (a2_Shape : List Int) (a2_Data : List Int), E.Γ 16 [.d (.int .i64 a0), .agg [.d (lstT cI a1_Shape), .d (lstT cI a1_Data)], .agg [.d (lstT cI a2_Shape), .d (lstT cI a2_Data)]] = (L a0 a1_Shape a1_Data a2_Shape a2_Data).bind fun r => some (.ret (.tup [.agg [ownT (cI) 3 none false r.1, ownT (cI) 3 none false r.2.1], .d (.int .i64 r.2.2)]) []))
-- loop.example/s02135/laws.FnExactDyad
def c_laws_FnExactDyad : Cd :=
  sq (r [0, 4, 5] [o 4 .box [t 1], o 5 .box [t 2], o 6 .mv [b false]])
  (sq (r [0, 4, 5, 7] [o 7 .mv [i 1048576]])
   (sq (r [0, 4, 5, 7] [o 19 (.ld (some 2)) [t 4], o 20 .mv [t 7], o 21 (.call 13) [t 19, t 20], o 7 .mv [t 21]])
    (sq (sq (r [0, 4, 5, 7, 23] [o 22 .mv [t 7], o 23 (.bin .lss) [t 22, i 0]])
      (.cond (t 23) (sq (r [6] [o 6 .mv [b true]])
        (.ret)) (.skip)))
     (sq (r [0, 4, 5, 7] [o 24 (.ld (some 2)) [t 5], o 25 .mv [t 7], o 26 (.call 13) [t 24, t 25], o 7 .mv [t 26]])
      (sq (sq (r [0, 4, 5, 28] [o 27 .mv [t 7], o 28 (.bin .lss) [t 27, i 0]])
        (.cond (t 28) (sq (r [6] [o 6 .mv [b true]])
          (.ret)) (.skip)))
       (sq (rd [] [0, 4, 5, 8, 9] [ap [512] false [] (o 30 .mv [t 0]), ap [512] false [] (o 31 (.ld (some 2)) [t 4]), ap [512] false [] (o 33 (.ld (some 2)) [t 5]), ap [] true [4, 5] (o 8 (.alloc [.nil, .nil]) []), ap [512] false [5] (o 32 (.call 15) [t 31]), ap [512] false [] (o 34 (.call 15) [t 33]), ap [512] false [] (o 35 (.call 14) [t 30, t 32, t 34]), ap [512] false [] (o 29 .mv [t 35]), ap [512] false [] (o 36 (.ext 0) [t 29]), ap [512] false [] (o 37 (.ext 1) [t 29]), e (.st 2) [t 8, t 36], o 9 .mv [t 37]])
        (sq (r [0, 4, 5, 8, 9, 10] [o 38 (.ld (some 2)) [t 4], o 39 (.call 15) [t 38], o 10 (.alloc [.nil, .nil]) [], e (.st 2) [t 10, t 39]])
         (sq (r [0, 4, 5, 8, 9, 10, 11] [o 40 (.ld (some 2)) [t 5], o 41 (.call 15) [t 40], o 11 (.alloc [.nil, .nil]) [], e (.st 2) [t 11, t 41]])
          (sq (r [0, 4, 5, 8, 9, 10, 11, 12, 13] [o 43 .mv [t 0], o 44 (.ld (some 2)) [t 10], o 45 (.ld (some 2)) [t 11], o 46 (.call 16) [t 43, t 44, t 45], o 42 .mv [t 46], o 47 (.ext 0) [t 42], o 48 (.ext 1) [t 42], o 12 (.alloc [.nil, .nil]) [], e (.st 2) [t 12, t 47], o 13 .mv [t 48]])
           (sq (sq (r [0, 4, 5, 8, 9, 10, 11, 12, 13, 57] [o 49 (.ld (some 2)) [t 12], o 50 (.ld (some 2)) [t 8], o 51 (.call 17) [t 49, t 50], o 52 .not [t 51], o 53 .mv [t 52], g 53 false 54 .mv [t 13], g 53 false 55 .mv [t 9], g 53 false 56 (.bin .neq) [t 54, t 55], o 57 .pick [t 53, b true, t 56]])
             (.cond (t 57) (sq (r [6] [o 6 .mv [b false]])
               (.ret)) (.skip)))
            (sq (sq (rd [] [0, 4, 5, 8, 9, 10, 11, 12, 13, 62] [o 58 (.ld (some 2)) [t 10], o 59 (.ld (some 2)) [t 4], ap [] false [10] (o 60 (.call 15) [t 59]), o 61 (.call 17) [t 58, t 60], o 62 .not [t 61]])
              (.cond (t 62) (sq (r [6] [o 6 .mv [b false]])
                (.ret)) (.skip)))
             (sq (sq (rd [] [0, 4, 5, 8, 9, 10, 11, 12, 13, 67] [o 63 (.ld (some 2)) [t 11], o 64 (.ld (some 2)) [t 5], ap [] false [11] (o 65 (.call 15) [t 64]), o 66 (.call 17) [t 63, t 65], o 67 .not [t 66]])
               (.cond (t 67) (sq (r [6] [o 6 .mv [b false]])
                 (.ret)) (.skip)))
              (sq (r [0, 4, 5, 8, 9, 10, 11, 12, 13, 14] [o 14 .mv [i 1]])
               (sq (r [0, 4, 5, 8, 9, 11, 12, 13, 14] [o 68 (.ld (some 2)) [t 10], o 69 .mv [t 14], o 70 (.call 18) [t 68, t 69], o 14 .mv [t 70]])
                (sq (r [0, 4, 5, 8, 9, 12, 13, 14] [o 71 (.ld (some 2)) [t 11], o 72 .mv [t 14], o 73 (.call 18) [t 71, t 72], o 14 .mv [t 73]])
                 (sq (sq (r [0, 4, 5, 8, 9, 12, 86] [o 74 .mv [t 14], o 75 (.bin .lss) [t 74, i 0], o 76 .mv [t 75], g 76 false 77 (.ld (some 2)) [t 12], g 76 false 78 (.ld (some 2)) [t 8], g 76 false 79 (.call 17) [t 77, t 78], g 76 false 80 .not [t 79], o 81 .pick [t 76, b true, t 80], o 82 .mv [t 81], g 82 false 83 .mv [t 13], g 82 false 84 .mv [t 9], g 82 false 85 (.bin .neq) [t 83, t 84], o 86 .pick [t 82, b true, t 85]])
                   (.cond (t 86) (sq (r [6] [o 6 .mv [b false]])
                     (.ret)) (.skip)))
                  (sq (r [0, 4, 5, 8, 9, 12, 15] [o 15 .mv [i 1]])
                   (sq (r [0, 4, 5, 8, 9, 12, 15] [o 87 (.ld (some 2)) [t 12], o 88 .mv [t 15], o 89 (.call 18) [t 87, t 88], o 15 .mv [t 89]])
                    (sq (r [0, 4, 5, 8, 9, 12, 15, 16] [o 16 .mv [i 1]])
                     (sq (r [0, 4, 5, 8, 9, 12, 15, 16] [o 90 (.ld (some 2)) [t 12], o 91 .mv [t 16], o 92 (.call 19) [t 90, t 91], o 16 .mv [t 92]])
                      (sq (sq (r [0, 4, 5, 8, 9, 12, 15, 16, 94] [o 93 .mv [t 16], o 94 (.bin .lss) [t 93, i 0]])
                        (.cond (t 94) (sq (r [6] [o 6 .mv [b false]])
                          (.ret)) (.skip)))
                       (sq (sq (r [0, 4, 5, 8, 9, 12, 15, 97] [o 95 .mv [t 16], o 96 .mv [t 15], o 97 (.bin .neq) [t 95, t 96]])
                         (.cond (t 97) (sq (r [6] [o 6 .mv [b false]])
                           (.ret)) (.skip)))
                        (sq (rd [] [8, 9, 12, 15, 17, 18] [ap [1088] false [] (o 99 .mv [t 0]), ap [1088] false [] (o 100 (.ld (some 2)) [t 4]), ap [1088] false [] (o 102 (.ld (some 2)) [t 5]), ap [] true [4, 5] (o 17 (.alloc [.nil, .nil]) []), ap [1088] false [5] (o 101 (.call 15) [t 100]), ap [1088] false [] (o 103 (.call 15) [t 102]), ap [1088] false [] (o 104 (.call 16) [t 99, t 101, t 103]), ap [1088] false [] (o 98 .mv [t 104]), ap [1088] false [] (o 105 (.ext 0) [t 98]), ap [1088] false [] (o 106 (.ext 1) [t 98]), e (.st 2) [t 17, t 105], o 18 .mv [t 106]])
                         (sq (sq (r [12, 15, 115] [o 107 (.ld (some 2)) [t 17], o 108 (.ld (some 2)) [t 8], o 109 (.call 17) [t 107, t 108], o 110 .not [t 109], o 111 .mv [t 110], g 111 false 112 .mv [t 18], g 111 false 113 .mv [t 9], g 111 false 114 (.bin .neq) [t 112, t 113], o 115 .pick [t 111, b true, t 114]])
                           (.cond (t 115) (sq (r [6] [o 6 .mv [b false]])
                             (.ret)) (.skip)))
                          (sq (r [12, 15, 16] [o 16 .mv [i 1]])
                           (sq (r [15, 16] [o 116 (.ld (some 2)) [t 12], o 117 .mv [t 16], o 118 (.call 19) [t 116, t 117], o 16 .mv [t 118]])
                            (sq (sq (r [15, 16, 120] [o 119 .mv [t 16], o 120 (.bin .lss) [t 119, i 0]])
                              (.cond (t 120) (sq (r [6] [o 6 .mv [b false]])
                                (.ret)) (.skip)))
                             (sq (sq (r [123] [o 121 .mv [t 16], o 122 .mv [t 15], o 123 (.bin .neq) [t 121, t 122]])
                               (.cond (t 123) (sq (r [6] [o 6 .mv [b false]])
                                 (.ret)) (.skip)))
                              (sq (r [6] [o 6 .mv [b true]])
                               (.ret))))))))))))))))))))))))))))))
def r_laws_FnExactDyad : List RV := [.tmp 6]
def laws_FnExactDyad_f (L_laws_szArray : (List Int) → (List Int) → Int → Option (Int)) (L_laws_toArray : (List Int) → (List Int) → Option (List Int × List Int)) (L_spec_Dyad : Int → (List Int) → (List Int) → (List Int) → (List Int) → Option (List Int × List Int × Int)) (L_impl_Dyad : Int → (List Int) → (List Int) → (List Int) → (List Int) → Option (List Int × List Int × Int)) (L_laws_eqArray : (List Int) → (List Int) → (List Int) → (List Int) → Option (Bool)) (L_laws_markArray : (List Int) → (List Int) → Int → Option (Int × List Int × List Int)) (L_laws_heldArray : (List Int) → (List Int) → Int → Option (Int)) (N : Nat) (a0 : Int) (a1_Shape : List Int) (a1_Data : List Int) (a2_Shape : List Int) (a2_Data : List Int) : Option (Bool) :=
  (L_laws_szArray a1_Shape a1_Data 1048576).bind fun y0 =>
  if y0 < 0 then some true
  else ((L_laws_szArray a2_Shape a2_Data y0).bind fun y1 =>
   if y1 < 0 then some true
   else ((L_laws_toArray a1_Shape a1_Data).bind fun y2 =>
    (L_laws_toArray a2_Shape a2_Data).bind fun y3 =>
    (L_spec_Dyad a0 y2.fst y2.snd y3.fst y3.snd).bind fun y4 =>
    (L_laws_toArray a1_Shape a1_Data).bind fun y5 =>
    (L_laws_toArray a2_Shape a2_Data).bind fun y6 =>
    (L_impl_Dyad a0 y5.fst y5.snd y6.fst y6.snd).bind fun y7 =>
    (L_laws_eqArray y7.fst y7.snd.fst y4.fst y4.snd.fst).bind fun y8 =>
    if y8 = false then some false
    else (if y7.snd.snd = y4.snd.snd then ((L_laws_toArray a1_Shape a1_Data).bind fun y9 =>
      (L_laws_eqArray y5.fst y5.snd y9.fst y9.snd).bind fun y10 =>
      if y10 = false then some false
      else ((L_laws_toArray a2_Shape a2_Data).bind fun y11 =>
       (L_laws_eqArray y6.fst y6.snd y11.fst y11.snd).bind fun y12 =>
       if y12 = false then some false
       else ((L_laws_markArray y5.fst y5.snd 1).bind fun y13 =>
        (L_laws_markArray y6.fst y6.snd y13.fst).bind fun y14 =>
        if y14.fst < 0 then some false
        else ((L_laws_eqArray y7.fst y7.snd.fst y4.fst y4.snd.fst).bind fun y15 =>
         if y15 = false then some false
         else (if y7.snd.snd = y4.snd.snd then ((L_laws_markArray y7.fst y7.snd.fst 1).bind fun y16 =>
           (L_laws_heldArray y16.snd.fst y16.snd.snd 1).bind fun y17 =>
           if y17 < 0 then some false
           else (if y17 = y16.fst then ((L_laws_toArray a1_Shape a1_Data).bind fun y18 =>
             (L_laws_toArray a2_Shape a2_Data).bind fun y19 =>
             (L_impl_Dyad a0 y18.fst y18.snd y19.fst y19.snd).bind fun y20 =>
             (L_laws_eqArray y20.fst y20.snd.fst y4.fst y4.snd.fst).bind fun y21 =>
             if y21 = false then some false
             else (if y20.snd.snd = y4.snd.snd then ((L_laws_heldArray y16.snd.fst y16.snd.snd 1).bind fun y22 =>
               if y22 < 0 then some false
               else (if y22 = y16.fst then some true
                else some false))
              else some false))
            else some false))
          else some false)))))
     else some false)))
theorem laws_FnExactDyad_g (E : En) (hy : Hy E [] [] [] r_laws_FnExactDyad none (fun y => nocap y) flatIds) (L_laws_szArray : (List Int) → (List Int) → Int → Option (Int)) (h_laws_szArray : H_laws_szArray E L_laws_szArray) (L_laws_toArray : (List Int) → (List Int) → Option (List Int × List Int)) (h_laws_toArray : H_laws_toArray E L_laws_toArray) (L_spec_Dyad : Int → (List Int) → (List Int) → (List Int) → (List Int) → Option (List Int × List Int × Int)) (h_spec_Dyad : H_spec_Dyad E L_spec_Dyad) (L_impl_Dyad : Int → (List Int) → (List Int) → (List Int) → (List Int) → Option (List Int × List Int × Int)) (h_impl_Dyad : H_impl_Dyad E L_impl_Dyad) (L_laws_eqArray : (List Int) → (List Int) → (List Int) → (List Int) → Option (Bool)) (h_laws_eqArray : H_laws_eqArray E L_laws_eqArray) (L_laws_markArray : (List Int) → (List Int) → Int → Option (Int × List Int × List Int)) (h_laws_markArray : H_laws_markArray E L_laws_markArray) (L_laws_heldArray : (List Int) → (List Int) → Int → Option (Int)) (h_laws_heldArray : H_laws_heldArray E L_laws_heldArray) (a0 : Int) (a1_Shape : List Int) (a1_Data : List Int) (a2_Shape : List Int) (a2_Data : List Int) : G E c_laws_FnExactDyad [] ⟨slotsOf [(0, .d (.int .i64 a0)), (1, .agg [.d (lstT cI a1_Shape), .d (lstT cI a1_Data)]), (2, .agg [.d (lstT cI a2_Shape), .d (lstT cI a2_Data)])], obsOf []⟩ = (laws_FnExactDyad_f L_laws_szArray L_laws_toArray L_spec_Dyad L_impl_Dyad L_laws_eqArray L_laws_markArray L_laws_heldArray E.n a0 a1_Shape a1_Data a2_Shape a2_Data).bind fun r => some (.ret (.d (.bool r)) []) := by
  simp (config := {maxSteps := 2000000}) only [↓rPre, rPost, rCan, rObj, rI, rS, rB, r8, rLI, rEtc, hy.p, hy.l, hy.k, hy.r, hy.d, hy.w, hy.f, flatIds, oid, r_laws_FnExactDyad, ↓G_unf _ _ c_laws_FnExactDyad.eq_1, h_laws_szArray.2, h_laws_szArray.1, h_laws_toArray.2, h_laws_toArray.1, h_spec_Dyad.2, h_spec_Dyad.1, h_impl_Dyad.2, h_impl_Dyad.1, h_laws_eqArray.2, h_laws_eqArray.1, h_laws_markArray.2, h_laws_markArray.1, h_laws_heldArray.2, h_laws_heldArray.1, bind_ite, laws_FnExactDyad_f, rFile, rRow78, rRow3, rRow53, rRow35, rArray, rRow39, rRow5, rRow9, rMap97, rLog, ↓reduceIte, Nat.reduceMul, Nat.reduceAdd, Nat.reduceSub, Nat.reduceEqDiff, Nat.reduceBEq, Nat.reduceLeDiff, Nat.reduceLT, reduceCtorEq, Int.reduceAdd, Int.reduceSub, Int.reduceToNat, Int.reduceNeg, Int.reduceEq, Int.reduceLT, Int.reduceLE]
def H_laws_FnExactDyad (E : En) (L : Int → (List Int) → (List Int) → (List Int) → (List Int) → Option (Bool)) : Prop := E.Γ.mu 4 = false ∧ (∀ (a0 : Int) (a1_Shape : List Int) (a1_Data : List Int) (a2_Shape : List Int) (a2_Data : List Int), E.Γ 4 [.d (.int .i64 a0), .agg [.d (lstT cI a1_Shape), .d (lstT cI a1_Data)], .agg [.d (lstT cI a2_Shape), .d (lstT cI a2_Data)]] = (L a0 a1_Shape a1_Data a2_Shape a2_Data).bind fun r => some (.ret (.d (.bool r)) []))
end Go.Vm
