/- The program's LimitsOk answers as the reference's: proved for all arguments. No condition. -/
import Derived.Test.YthndnkpabopinaaVmLaw
import Derived.Test.YthndnkpabopinaaRows
import Derived.Test.YthndnkpabopinaaProg
import Derived.WalkKit
import Derived.OpenShut
import Derived.ShutString
import Derived.ChangeOld
import Derived.SizedLaws
set_option linter.unusedSectionVars false
set_option linter.unusedVariables false
set_option linter.unusedSimpArgs false
namespace Go.Proofs.Ythndnkpabopinaa.Limits
open Go.Vm

def c4 : Cd :=
  sq (r [1] [o 1 .box [t 0], o 2 .mv [b false]])
  (sq (r [1, 3] [o 5 (.ld (some 4)) [t 1], o 6 (.call 8) [t 5], o 7 (.call 7) [t 6], o 3 .mv [t 7]])
   (sq (r [3, 4] [o 8 (.ld (some 4)) [t 1], o 9 (.call 8) [t 8], o 10 (.call 9) [t 9], o 4 .mv [t 10]])
    (sq (sq (r [13] [o 11 .mv [t 4], o 12 .mv [t 3], o 13 (.beq true) [t 11, t 12]])
      (.cond (t 13) (sq (r [2] [o 2 .mv [b false]])
        (.ret)) (.skip)))
     (sq (r [2] [o 2 .mv [b true]])
      (.ret)))))
def r4 : List RV := [.tmp 2]
def c7 : Cd :=
  sq (r [1] [o 1 .box [t 0], o 2 .mv [b false]])
  (sq (sq (r [1, 20] [o 3 (.fa 0) [t 1], o 4 (.ld none) [t 3], o 5 (.bin .lss) [t 4, i 0], o 6 .mv [t 5], g 6 false 7 (.fa 0) [t 1], g 6 false 8 (.ld none) [t 7], g 6 false 9 (.bin .gtr) [t 8, i 100000], o 10 .pick [t 6, b true, t 9], o 11 .mv [t 10], g 11 false 12 (.fa 1) [t 1], g 11 false 13 (.ld none) [t 12], g 11 false 14 (.bin .lss) [t 13, i 0], o 15 .pick [t 11, b true, t 14], o 16 .mv [t 15], g 16 false 17 (.fa 1) [t 1], g 16 false 18 (.ld none) [t 17], g 16 false 19 (.bin .gtr) [t 18, i 100000], o 20 .pick [t 16, b true, t 19]])
    (.cond (t 20) (sq (r [2] [o 2 .mv [b false]])
      (.ret)) (.skip)))
   (sq (r [2] [o 21 (.fa 3) [t 1], o 22 (.ld none) [t 21], o 23 (.bin .geq) [t 22, i 1], o 24 .mv [t 23], g 24 true 25 (.fa 3) [t 1], g 24 true 26 (.ld none) [t 25], g 24 true 27 (.bin .leq) [t 26, i 2147483646], o 28 .pick [t 24, t 27, b false], o 2 .mv [t 28]])
    (.ret)))
def r7 : List RV := [.tmp 2]
def c8 : Cd :=
  sq (r [1, 2] [o 1 .box [t 0], o 2 (.alloc [(.d (iD 0)), (.d (iD 0)), (.d (.bool false)), (.d (iD 0))]) []])
  (sq (r [1, 2, 3] [o 3 (.alloc [(.d (iD 0)), (.d (iD 0)), (.d (.bool false)), (.d (iD 0))]) []])
   (sq (r [1, 2, 3] [o 4 (.fa 0) [t 1], o 5 (.ld none) [t 4], o 6 (.fa 0) [t 3], e (.st 1) [t 6, t 5]])
    (sq (r [1, 2, 3] [o 7 (.fa 1) [t 1], o 8 (.ld none) [t 7], o 9 (.fa 1) [t 3], e (.st 1) [t 9, t 8]])
     (sq (r [1, 2, 3] [o 10 (.fa 2) [t 1], o 11 (.ld none) [t 10], o 12 (.fa 2) [t 3], e (.st 1) [t 12, t 11]])
      (sq (r [2, 3] [o 13 (.fa 3) [t 1], o 14 (.ld none) [t 13], o 15 (.fa 3) [t 3], e (.st 1) [t 15, t 14]])
       (sq (r [2] [o 16 (.ld (some 4)) [t 3], e (.st 4) [t 2, t 16]])
        (.ret)))))))
def r8 : List RV := [.cell 2 (some 4)]
def c9 : Cd :=
  sq (r [1] [o 1 .box [t 0], o 2 .mv [b false]])
  (sq (r [2] [o 3 (.fa 0) [t 1], o 4 (.ld none) [t 3], o 5 (.bin .geq) [t 4, i 0], o 6 .mv [t 5], g 6 true 7 (.fa 0) [t 1], g 6 true 8 (.ld none) [t 7], g 6 true 9 (.bin .leq) [t 8, i 100000], o 10 .pick [t 6, t 9, b false], o 11 .mv [t 10], g 11 true 12 (.fa 1) [t 1], g 11 true 13 (.ld none) [t 12], g 11 true 14 (.bin .geq) [t 13, i 0], o 15 .pick [t 11, t 14, b false], o 16 .mv [t 15], g 16 true 17 (.fa 1) [t 1], g 16 true 18 (.ld none) [t 17], g 16 true 19 (.bin .leq) [t 18, i 100000], o 20 .pick [t 16, t 19, b false], o 21 .mv [t 20], g 21 true 22 (.fa 3) [t 1], g 21 true 23 (.ld none) [t 22], g 21 true 24 (.bin .geq) [t 23, i 1], o 25 .pick [t 21, t 24, b false], o 26 .mv [t 25], g 26 true 27 (.fa 3) [t 1], g 26 true 28 (.ld none) [t 27], g 26 true 29 (.bin .leq) [t 28, i 2147483646], o 30 .pick [t 26, t 29, b false], o 2 .mv [t 30]])
   (.ret))
def r9 : List RV := [.tmp 2]

def lim (a b e : Int) : Bool := decide (0 ≤ a) && decide (a ≤ 100000) && decide (0 ≤ b) && decide (b ≤ 100000) && decide (1 ≤ e) && decide (e ≤ 2147483646)
def C8 : List X → Option XOut
  | [.agg [.d (.int .i64 a), .d (.int .i64 b), .d (.bool c), .d (.int .i64 e)]] => some (.ret (.agg [.d (.int .i64 a), .d (.int .i64 b), .d (.bool c), .d (.int .i64 e)]) [])
  | _ => none
def C9 : List X → Option XOut
  | [.agg [.d (.int .i64 a), .d (.int .i64 b), .d (.bool c), .d (.int .i64 e)]] => some (.ret (.d (.bool (lim a b e))) [])
  | _ => none

theorem t8 (n : Nat) (a b : Int) (c : Bool) (e : Int) : callF Γ0 n 1 c8 r8 [.agg [.d (.int .i64 a), .d (.int .i64 b), .d (.bool c), .d (.int .i64 e)]] =
    some (.ret (.agg [.d (.int .i64 a), .d (.int .i64 b), .d (.bool c), .d (.int .i64 e)]) []) := by kernel_rfl
theorem t9 (n : Nat) (a b : Int) (c : Bool) (e : Int) : callF Γ0 n 1 c9 r9 [.agg [.d (.int .i64 a), .d (.int .i64 b), .d (.bool c), .d (.int .i64 e)]] = some (.ret (.d (.bool (lim a b e))) []) := by
  rw [callF_eq _ _ _ _ (by refine ⟨rfl, rfl, rfl⟩)]
  unfold c9
  by_cases h0 : 0 ≤ a
  · by_cases h1 : a ≤ 100000
    · by_cases h2 : 0 ≤ b
      · by_cases h3 : b ≤ 100000
        · by_cases h4 : 1 ≤ e
          · by_cases h5 : e ≤ 2147483646
            · simp only [lim, ↓goPre, goPost, enter, ofX, ofXs, oid, boxAt, List.append_nil, List.nil_append, List.cons_append, Nat.reduceMul, Nat.reduceAdd, Nat.reduceEqDiff, ↓reduceIte, Bool.and_true, Bool.and_self, Bool.and_false, Bool.false_and, Option.bind_some, Nat.reduceLeDiff, and_self, List.getElem?_cons_zero, List.getElem?_cons_succ, List.drop_succ_cons, List.drop_zero, Nat.zero_add, Nat.add_zero, decide_true, decide_false, Bool.false_eq_true, h0, h1, h2, h3, h4, h5]; kernel_rfl
            · simp only [lim, ↓goPre, goPost, enter, ofX, ofXs, oid, boxAt, List.append_nil, List.nil_append, List.cons_append, Nat.reduceMul, Nat.reduceAdd, Nat.reduceEqDiff, ↓reduceIte, Bool.and_true, Bool.and_self, Bool.and_false, Bool.false_and, Option.bind_some, Nat.reduceLeDiff, and_self, List.getElem?_cons_zero, List.getElem?_cons_succ, List.drop_succ_cons, List.drop_zero, Nat.zero_add, Nat.add_zero, decide_true, decide_false, Bool.false_eq_true, h0, h1, h2, h3, h4, h5]; kernel_rfl
          · simp only [lim, ↓goPre, goPost, enter, ofX, ofXs, oid, boxAt, List.append_nil, List.nil_append, List.cons_append, Nat.reduceMul, Nat.reduceAdd, Nat.reduceEqDiff, ↓reduceIte, Bool.and_true, Bool.and_self, Bool.and_false, Bool.false_and, Option.bind_some, Nat.reduceLeDiff, and_self, List.getElem?_cons_zero, List.getElem?_cons_succ, List.drop_succ_cons, List.drop_zero, Nat.zero_add, Nat.add_zero, decide_true, decide_false, Bool.false_eq_true, h0, h1, h2, h3, h4]; kernel_rfl
        · simp only [lim, ↓goPre, goPost, enter, ofX, ofXs, oid, boxAt, List.append_nil, List.nil_append, List.cons_append, Nat.reduceMul, Nat.reduceAdd, Nat.reduceEqDiff, ↓reduceIte, Bool.and_true, Bool.and_self, Bool.and_false, Bool.false_and, Option.bind_some, Nat.reduceLeDiff, and_self, List.getElem?_cons_zero, List.getElem?_cons_succ, List.drop_succ_cons, List.drop_zero, Nat.zero_add, Nat.add_zero, decide_true, decide_false, Bool.false_eq_true, h0, h1, h2, h3]; kernel_rfl
      · simp only [lim, ↓goPre, goPost, enter, ofX, ofXs, oid, boxAt, List.append_nil, List.nil_append, List.cons_append, Nat.reduceMul, Nat.reduceAdd, Nat.reduceEqDiff, ↓reduceIte, Bool.and_true, Bool.and_self, Bool.and_false, Bool.false_and, Option.bind_some, Nat.reduceLeDiff, and_self, List.getElem?_cons_zero, List.getElem?_cons_succ, List.drop_succ_cons, List.drop_zero, Nat.zero_add, Nat.add_zero, decide_true, decide_false, Bool.false_eq_true, h0, h1, h2]; kernel_rfl
    · simp only [lim, ↓goPre, goPost, enter, ofX, ofXs, oid, boxAt, List.append_nil, List.nil_append, List.cons_append, Nat.reduceMul, Nat.reduceAdd, Nat.reduceEqDiff, ↓reduceIte, Bool.and_true, Bool.and_self, Bool.and_false, Bool.false_and, Option.bind_some, Nat.reduceLeDiff, and_self, List.getElem?_cons_zero, List.getElem?_cons_succ, List.drop_succ_cons, List.drop_zero, Nat.zero_add, Nat.add_zero, decide_true, decide_false, Bool.false_eq_true, h0, h1]; kernel_rfl
  · simp only [lim, ↓goPre, goPost, enter, ofX, ofXs, oid, boxAt, List.append_nil, List.nil_append, List.cons_append, Nat.reduceMul, Nat.reduceAdd, Nat.reduceEqDiff, ↓reduceIte, Bool.and_true, Bool.and_self, Bool.and_false, Bool.false_and, Option.bind_some, Nat.reduceLeDiff, and_self, List.getElem?_cons_zero, List.getElem?_cons_succ, List.drop_succ_cons, List.drop_zero, Nat.zero_add, Nat.add_zero, decide_true, decide_false, Bool.false_eq_true, h0]; kernel_rfl

theorem d0 (a : Int) : decide (a < 0) = !decide (0 ≤ a) := by by_cases h : 0 ≤ a <;> simp [h] <;> omega
theorem d1 (a : Int) : decide (100000 < a) = !decide (a ≤ 100000) := by by_cases h : a ≤ 100000 <;> simp [h] <;> omega
theorem t7 (n : Nat) (a b : Int) (c : Bool) (e : Int) : callF Γ0 n 1 c7 r7 [.agg [.d (.int .i64 a), .d (.int .i64 b), .d (.bool c), .d (.int .i64 e)]] = some (.ret (.d (.bool (lim a b e))) []) := by
  rw [callF_eq _ _ _ _ (by refine ⟨rfl, rfl, rfl⟩)]
  unfold c7
  by_cases h0 : 0 ≤ a
  · by_cases h1 : a ≤ 100000
    · by_cases h2 : 0 ≤ b
      · by_cases h3 : b ≤ 100000
        · by_cases h4 : 1 ≤ e
          · by_cases h5 : e ≤ 2147483646
            · simp only [lim, d0, d1, Bool.not_true, Bool.not_false, ↓goPre, goPost, enter, ofX, ofXs, oid, boxAt, List.append_nil, List.nil_append, List.cons_append, Nat.reduceMul, Nat.reduceAdd, Nat.reduceEqDiff, ↓reduceIte, Bool.and_true, Bool.and_self, Bool.and_false, Bool.false_and, Option.bind_some, Nat.reduceLeDiff, and_self, List.getElem?_cons_zero, List.getElem?_cons_succ, List.drop_succ_cons, List.drop_zero, Nat.zero_add, Nat.add_zero, decide_true, decide_false, Bool.false_eq_true, h0, h1, h2, h3, h4, h5]; kernel_rfl
            · simp only [lim, d0, d1, Bool.not_true, Bool.not_false, ↓goPre, goPost, enter, ofX, ofXs, oid, boxAt, List.append_nil, List.nil_append, List.cons_append, Nat.reduceMul, Nat.reduceAdd, Nat.reduceEqDiff, ↓reduceIte, Bool.and_true, Bool.and_self, Bool.and_false, Bool.false_and, Option.bind_some, Nat.reduceLeDiff, and_self, List.getElem?_cons_zero, List.getElem?_cons_succ, List.drop_succ_cons, List.drop_zero, Nat.zero_add, Nat.add_zero, decide_true, decide_false, Bool.false_eq_true, h0, h1, h2, h3, h4, h5]; kernel_rfl
          · simp only [lim, d0, d1, Bool.not_true, Bool.not_false, ↓goPre, goPost, enter, ofX, ofXs, oid, boxAt, List.append_nil, List.nil_append, List.cons_append, Nat.reduceMul, Nat.reduceAdd, Nat.reduceEqDiff, ↓reduceIte, Bool.and_true, Bool.and_self, Bool.and_false, Bool.false_and, Option.bind_some, Nat.reduceLeDiff, and_self, List.getElem?_cons_zero, List.getElem?_cons_succ, List.drop_succ_cons, List.drop_zero, Nat.zero_add, Nat.add_zero, decide_true, decide_false, Bool.false_eq_true, h0, h1, h2, h3, h4]; kernel_rfl
        · simp only [lim, d0, d1, Bool.not_true, Bool.not_false, ↓goPre, goPost, enter, ofX, ofXs, oid, boxAt, List.append_nil, List.nil_append, List.cons_append, Nat.reduceMul, Nat.reduceAdd, Nat.reduceEqDiff, ↓reduceIte, Bool.and_true, Bool.and_self, Bool.and_false, Bool.false_and, Option.bind_some, Nat.reduceLeDiff, and_self, List.getElem?_cons_zero, List.getElem?_cons_succ, List.drop_succ_cons, List.drop_zero, Nat.zero_add, Nat.add_zero, decide_true, decide_false, Bool.false_eq_true, h0, h1, h2, h3]; kernel_rfl
      · simp only [lim, d0, d1, Bool.not_true, Bool.not_false, ↓goPre, goPost, enter, ofX, ofXs, oid, boxAt, List.append_nil, List.nil_append, List.cons_append, Nat.reduceMul, Nat.reduceAdd, Nat.reduceEqDiff, ↓reduceIte, Bool.and_true, Bool.and_self, Bool.and_false, Bool.false_and, Option.bind_some, Nat.reduceLeDiff, and_self, List.getElem?_cons_zero, List.getElem?_cons_succ, List.drop_succ_cons, List.drop_zero, Nat.zero_add, Nat.add_zero, decide_true, decide_false, Bool.false_eq_true, h0, h1, h2]; kernel_rfl
    · simp only [lim, d0, d1, Bool.not_true, Bool.not_false, ↓goPre, goPost, enter, ofX, ofXs, oid, boxAt, List.append_nil, List.nil_append, List.cons_append, Nat.reduceMul, Nat.reduceAdd, Nat.reduceEqDiff, ↓reduceIte, Bool.and_true, Bool.and_self, Bool.and_false, Bool.false_and, Option.bind_some, Nat.reduceLeDiff, and_self, List.getElem?_cons_zero, List.getElem?_cons_succ, List.drop_succ_cons, List.drop_zero, Nat.zero_add, Nat.add_zero, decide_true, decide_false, Bool.false_eq_true, h0, h1]; kernel_rfl
  · simp only [lim, d0, d1, Bool.not_true, Bool.not_false, ↓goPre, goPost, enter, ofX, ofXs, oid, boxAt, List.append_nil, List.nil_append, List.cons_append, Nat.reduceMul, Nat.reduceAdd, Nat.reduceEqDiff, ↓reduceIte, Bool.and_true, Bool.and_self, Bool.and_false, Bool.false_and, Option.bind_some, Nat.reduceLeDiff, and_self, List.getElem?_cons_zero, List.getElem?_cons_succ, List.drop_succ_cons, List.drop_zero, Nat.zero_add, Nat.add_zero, decide_true, decide_false, Bool.false_eq_true, h0]; kernel_rfl


def Γ3 : Ctx := ((Γ0.with 8 C8).with 7 C9).with 9 C9
theorem k7 (a b : Int) (c : Bool) (e : Int) (ob : Nat → Ob) (d : Nat) : doCall Γ3 ob d 7 [.agg [.d (.int .i64 a), .d (.int .i64 b), .d (.bool c), .d (.int .i64 e)]] = some (.val (.d (.bool (lim a b e))) []) := by kernel_rfl
theorem k8 (a b : Int) (c : Bool) (e : Int) (ob : Nat → Ob) (d : Nat) : doCall Γ3 ob d 8 [.agg [.d (.int .i64 a), .d (.int .i64 b), .d (.bool c), .d (.int .i64 e)]] = some (.val (.agg [.d (.int .i64 a), .d (.int .i64 b), .d (.bool c), .d (.int .i64 e)]) []) := by kernel_rfl
theorem k9 (a b : Int) (c : Bool) (e : Int) (ob : Nat → Ob) (d : Nat) : doCall Γ3 ob d 9 [.agg [.d (.int .i64 a), .d (.int .i64 b), .d (.bool c), .d (.int .i64 e)]] = some (.val (.d (.bool (lim a b e))) []) := by kernel_rfl
theorem t4 (n : Nat) (a b : Int) (c : Bool) (e : Int) : callF Γ3 n 1 c4 r4 [.agg [.d (.int .i64 a), .d (.int .i64 b), .d (.bool c), .d (.int .i64 e)]] = some (.ret (.d (.bool true)) []) := by
  rw [callF_eq _ _ _ _ (by refine ⟨rfl, rfl, rfl⟩)]
  unfold c4
  rcases Bool.eq_false_or_eq_true (lim a b e) with q | q
  · simp only [k7, k8, k9, q, beq_self_eq_true, Bool.not_true, ↓goPre, goPost, enter, ofX, ofXs, oid, boxAt, List.append_nil, List.nil_append, List.cons_append, Nat.reduceMul, Nat.reduceAdd, Nat.reduceEqDiff, ↓reduceIte, Bool.and_true, Bool.and_self, Bool.and_false, Bool.false_and, Option.bind_some, Nat.reduceLeDiff, and_self, List.getElem?_cons_zero, List.getElem?_cons_succ, List.drop_succ_cons, List.drop_zero, Nat.zero_add, Nat.add_zero, decide_true, decide_false, Bool.false_eq_true]; kernel_rfl
  · simp only [k7, k8, k9, q, beq_self_eq_true, Bool.not_true, ↓goPre, goPost, enter, ofX, ofXs, oid, boxAt, List.append_nil, List.nil_append, List.cons_append, Nat.reduceMul, Nat.reduceAdd, Nat.reduceEqDiff, ↓reduceIte, Bool.and_true, Bool.and_self, Bool.and_false, Bool.false_and, Option.bind_some, Nat.reduceLeDiff, and_self, List.getElem?_cons_zero, List.getElem?_cons_succ, List.drop_succ_cons, List.drop_zero, Nat.zero_add, Nat.add_zero, decide_true, decide_false, Bool.false_eq_true]; kernel_rfl

theorem mixed : Try.prog.follows .mixedOrders = true := by kernel_rfl
theorem s8 : Sound Try.prog 8 C8 := by
  refine Sound.of (k := 1) (cd := c8) (rs := r8) (fn_sound mixed (Γ0_sound _) Try.func8 (by kernel_rfl) (by kernel_rfl) (by kernel_rfl) (by kernel_rfl) (of_decide_eq_true (by kernel_rfl)) (of_decide_eq_true (by kernel_rfl))) ?_
  intro xs out h
  unfold C8 at h
  split at h
  · cases h; exact ⟨0, t8 _ _ _ _ _⟩
  · cases h
theorem s7 : Sound Try.prog 7 C9 := by
  refine Sound.of (k := 1) (cd := c7) (rs := r7) (fn_sound mixed (Γ0_sound _) Try.func7 (by kernel_rfl) (by kernel_rfl) (by kernel_rfl) (by kernel_rfl) (of_decide_eq_true (by kernel_rfl)) (of_decide_eq_true (by kernel_rfl))) ?_
  intro xs out h
  unfold C9 at h
  split at h
  · cases h; exact ⟨0, t7 _ _ _ _ _⟩
  · cases h
theorem s9 : Sound Try.prog 9 C9 := by
  refine Sound.of (k := 1) (cd := c9) (rs := r9) (fn_sound mixed (Γ0_sound _) Try.func9 (by kernel_rfl) (by kernel_rfl) (by kernel_rfl) (by kernel_rfl) (of_decide_eq_true (by kernel_rfl)) (of_decide_eq_true (by kernel_rfl))) ?_
  intro xs out h
  unfold C9 at h
  split at h
  · cases h; exact ⟨0, t9 _ _ _ _ _⟩
  · cases h
theorem s4 : Sound Try.prog 4 (callF Γ3 0 1 c4 r4) :=
  fn_sound mixed ((((Γ0_sound _).with s8).with s7).with s9) Try.func4 (by kernel_rfl) (by kernel_rfl) (by kernel_rfl) (by kernel_rfl) (of_decide_eq_true (by kernel_rfl)) (of_decide_eq_true (by kernel_rfl)) 0
end Go.Proofs.Ythndnkpabopinaa.Limits
