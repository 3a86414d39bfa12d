/- The functions under laws_FnReport: the abstract machine's codes, and what they come to in plain terms. Printed by a program of this session. -/
import Derived.Test.YtafjdofgafppgaaDoorVmKind
set_option linter.all false
set_option maxRecDepth 100000
set_option maxHeartbeats 4000000
namespace Go.Vm
structure TVerdict where
  Kind : Int
  Code : Int
  deriving DecidableEq
def encVerdict (x : TVerdict) : List D := [.int .i64 x.Kind, .int .i64 x.Code]
def decVerdict : List D → Option TVerdict
  | [.int .i64 a0, .int .i64 a1] => some ⟨a0, a1⟩
  | _ => none
theorem decVerdict_ok : ∀ xs x, decVerdict xs = some x → xs = encVerdict x := by
  intro xs x h
  unfold decVerdict at h
  split at h
  · cases h; rfl
  · cases h
def cVerdict : Enc TVerdict := ⟨2, encVerdict, decVerdict, fun _ => rfl, by decide, decVerdict_ok, fun _ => rfl⟩
theorem cVerdict_enc (x : TVerdict) : cVerdict.enc x = [.int .i64 x.Kind, .int .i64 x.Code] := rfl
theorem cVerdict_dec (x_Kind : Int) (x_Code : Int) : cVerdict.dec [.int .i64 x_Kind, .int .i64 x_Code] = some ⟨x_Kind, x_Code⟩ := cVerdict.edc ⟨x_Kind, x_Code⟩
theorem cVerdict_dec1 (a : D) : cVerdict.dec [a] = none := by cases a <;> first | rfl | (rename_i k n; cases k <;> rfl)
def rVerdict := And.intro (cVerdict_dec1) <| And.intro (rKind cVerdict 2 rfl) <| And.intro (cVerdict_enc) <| And.intro (cVerdict_dec) <| And.intro (plain_T cVerdict (fun _ => rfl)) <| And.intro ((fun l m => k_get cVerdict 2 l m 1 (by decide) rfl)) <| And.intro ((fun e cap l m xs z hz => k_part' cVerdict 2 e cap l m 1 xs z hz rfl)) <| And.intro (k_getK cVerdict 1 2 rfl) <| (k_getK cVerdict 2 4 rfl)
def rRow5 := rRow c8 5 1 rfl [.int .u8 0] 0 rfl
def rRow43 := rRow cVerdict 43 2 rfl [iD 0, iD 0] ⟨0, 0⟩ rfl
def rRow9 := rRow cS 9 1 rfl [sD []] [] rfl
def rRow3 := rRow cI 3 1 rfl [iD 0] 0 rfl
def rMap70 := rMapS cI 70 none rfl [iD 0] 0 rfl
def rMap75 := rMapI cS 75 none rfl [sD []] [] rfl
/-- the types of elements that lead to no memory -/
def flatIds (e : Nat) : Bool := e == 5 || e == 43 || e == 9 || e == 3
-- loop.example/s02135/spec.l1Open
def c_spec_l1Open : Cd :=
  sq (r [0] [o 2 .mv [.k (.d .nilp)]])
  (sq (sq (r [0, 5] [o 3 .mv [t 0], o 4 (.len false) [t 3], o 5 (.bin .gtr) [t 4, i 1000]])
    (.cond (t 5) (r [0] [o 6 .mv [t 0], o 7 (.cut 1) [t 6, i 1000], o 0 .mv [t 7]]) (.skip)))
   (sq (r [2] [o 8 .mv [t 0], o 9 (.bld [.nil, (.d (iD 0))] [(0, 1), (1, 1)]) [t 8, i 0], o 10 .box [t 9], o 2 .mv [t 10]])
    (.ret)))
def r_spec_l1Open : List RV := [.tmp 2]
def spec_l1Open_f (N : Nat) (a0 : List Int) : Option (List Int × Int) :=
  if 1000 < (↑(List.length a0) : Int) then ((cut a0 0 1000).bind fun y0 =>
   some ((y0, 0)))
  else some ((a0, 0))
theorem spec_l1Open_g (E : En) (hy : Hy E [] [] [] r_spec_l1Open none (fun y => nocap y) flatIds) (a0 : List Int) : G E c_spec_l1Open [] ⟨slotsOf [(0, .d (lstT c8 a0))], obsOf []⟩ = (spec_l1Open_f E.n a0).bind fun r => some (.ret (.box [.d (lstT (c8) r.1), .d (.int .i64 r.2)]) []) := by
  simp (config := {maxSteps := 40000000}) only [↓rPre, rPost, rCan, rObj, rI, rS, rB, r8, rLI, rLit, rEtc, hy.p, hy.l, hy.k, hy.r, hy.d, hy.w, hy.f, flatIds, oid, r_spec_l1Open, ↓G_unf _ _ c_spec_l1Open.eq_1, bind_ite, spec_l1Open_f, rRow5, rVerdict, rRow43, rRow9, rRow3, rMap70, rMap75, rLog, ↓reduceIte, Nat.reduceMul, Nat.reduceAdd, Nat.reduceSub, Nat.reduceEqDiff, Nat.reduceBEq, Nat.reduceLeDiff, Nat.reduceLT, reduceCtorEq, Int.reduceAdd, Int.reduceSub, Int.reduceToNat, Int.reduceNeg, Int.reduceEq, Int.reduceLT, Int.reduceLE]
def H_spec_l1Open (E : En) (L : (List Int) → Option (List Int × Int)) : Prop := E.Γ.mu 11 = false ∧ (∀ (a0 : List Int), E.Γ 11 [.d (lstT c8 a0)] = (L a0).bind fun r => some (.ret (.box [.d (lstT (c8) r.1), .d (.int .i64 r.2)]) []))
-- (*loop.example/s02135/spec.l1Rd).next
def c___spec_l1Rd__next : Cd :=
  sq (r [0] [o 2 .mv [i 0]])
  (sq (sq (rd [] [0, 13] [o 4 .mv [t 0], o 5 .nilck [t 4], o 6 (.fa 1) [t 5], o 7 (.ld none) [t 6], o 8 .mv [t 0], o 9 .nilck [t 8], o 10 (.fa 0) [t 9], o 11 (.ld none) [t 10], o 12 (.len false) [t 11], o 13 (.bin .lss) [t 7, t 12]])
    (.cond (t 13) (sq (rd [] [0, 3] [o 14 .mv [t 0], o 15 .nilck [t 14], o 16 (.fa 0) [t 15], o 17 (.ld none) [t 16], o 18 .mv [t 0], o 19 .nilck [t 18], o 20 (.fa 1) [t 19], o 21 (.ld none) [t 20], o 22 (.ia 1) [t 17, t 21], o 23 (.ld none) [t 22], o 24 (.cvt .i64) [t 23], o 3 .mv [t 24]])
      (sq (r [0, 3] [o 25 .mv [t 0], o 26 .mv [t 0], o 27 .nilck [t 26], o 28 (.fa 1) [t 27], o 29 (.ld none) [t 28], o 30 (.bin .add) [t 29, i 1], o 31 .nilck [t 25], o 32 (.fa 1) [t 31], e (.st 1) [t 32, t 30]])
       (sq (r [0, 2] [o 33 .mv [t 3], o 2 .mv [t 33]])
        (.ret)))) (.skip)))
   (sq (r [0, 2] [o 2 .mv [i 0]])
    (.ret)))
def r___spec_l1Rd__next : List RV := [.tmp 2]
def __spec_l1Rd__next_f (N : Nat) (a0_b : List Int) (a0_p : Int) : Option (Int × List Int × Int) :=
  if a0_p < (↑(List.length a0_b) : Int) then ((idx a0_b a0_p).bind fun y0 =>
   some ((w64 y0, a0_b, w64 (a0_p + 1))))
  else some ((0, a0_b, a0_p))
theorem __spec_l1Rd__next_g (E : En) (hy : Hy E [0] [0] [(0, .box)] r___spec_l1Rd__next none (fun y => nocap y) flatIds) (a0_b : List Int) (a0_p : Int) : G E c___spec_l1Rd__next [] ⟨slotsOf [(0, .adr 0 1 0)], obsOf [(0, ⟨1, .box [.d (lstT c8 a0_b), .d (.int .i64 a0_p)], false⟩)]⟩ = (__spec_l1Rd__next_f E.n a0_b a0_p).bind fun r => some (.ret (.d (.int .i64 r.1)) [[lstT (c8) r.2.1, .int .i64 r.2.2]]) := by
  simp (config := {maxSteps := 40000000}) only [↓rPre, rPost, rCan, rObj, rI, rS, rB, r8, rLI, rLit, rEtc, hy.p, hy.l, hy.k, hy.r, hy.d, hy.w, hy.f, flatIds, oid, r___spec_l1Rd__next, ↓G_unf _ _ c___spec_l1Rd__next.eq_1, bind_ite, __spec_l1Rd__next_f, rRow5, rVerdict, rRow43, rRow9, rRow3, rMap70, rMap75, rLog, ↓reduceIte, Nat.reduceMul, Nat.reduceAdd, Nat.reduceSub, Nat.reduceEqDiff, Nat.reduceBEq, Nat.reduceLeDiff, Nat.reduceLT, reduceCtorEq, Int.reduceAdd, Int.reduceSub, Int.reduceToNat, Int.reduceNeg, Int.reduceEq, Int.reduceLT, Int.reduceLE]
def H___spec_l1Rd__next (E : En) (L : (List Int) → Int → Option (Int × List Int × Int)) : Prop := E.Γ.mu 12 = false ∧ (∀ (a0_b : List Int) (a0_p : Int), E.Γ 12 [.box [.d (lstT c8 a0_b), .d (.int .i64 a0_p)]] = (L a0_b a0_p).bind fun r => some (.ret (.d (.int .i64 r.1)) [[lstT (c8) r.2.1, .int .i64 r.2.2]]))
-- loop.example/s02135/spec.l6Id
def c_spec_l6Id : Cd :=
  sq (r [0] [o 2 .mv [s []]])
  (sq (r [0, 3] [o 4 .mv [t 0], o 5 (.call 12) [t 4], o 3 .mv [t 5]])
   (sq (sq (r [0, 3, 7] [o 6 .mv [t 3], o 7 (.bin .geq) [t 6, i 252]])
     (.cond (t 7) (sq (r [0, 2] [o 8 (lit 9 1 4) [s [], s [97, 32, 98], s [120, 46, 121], s [97, 98, 99, 100, 101, 102, 103, 104, 105, 106, 97, 98, 99, 100, 101, 102, 103, 104, 105, 106, 107]], o 9 .mv [t 3], o 10 (.bin .rem) [t 9, i 4], o 11 (.ia 1) [t 8, t 10], o 12 (.ld none) [t 11], o 2 .mv [t 12]])
       (.ret)) (.skip)))
    (sq (sq (r [0, 3, 14] [o 13 .mv [t 3], o 14 (.bin .geq) [t 13, i 248]])
      (.cond (t 14) (sq (r [0, 2] [o 2 .mv [s [97, 98, 99, 100, 101, 102, 103, 104, 105, 106, 65, 66, 67, 68, 69, 70, 71, 72, 73, 74]]])
        (.ret)) (.skip)))
     (sq (r [0, 2] [o 15 (lit 9 1 6) [s [97, 110, 110], s [98, 111, 98], s [99, 121, 55], s [68], s [101, 118, 101], s [115, 116, 97, 102, 102]], o 16 .mv [t 3], o 17 (.bin .rem) [t 16, i 6], o 18 (.ia 1) [t 15, t 17], o 19 (.ld none) [t 18], o 2 .mv [t 19]])
      (.ret)))))
def r_spec_l6Id : List RV := [.tmp 2]
def spec_l6Id_f (L___spec_l1Rd__next : (List Int) → Int → Option (Int × List Int × Int)) (N : Nat) (a0_b : List Int) (a0_p : Int) : Option (List UInt8 × List Int × Int) :=
  (L___spec_l1Rd__next a0_b a0_p).bind fun y0 =>
  if 252 ≤ y0.fst then (if 0 ≤ Int.tmod y0.fst 4 ∧ Int.tmod y0.fst 4 < 4 then (if Int.toNat (Int.tmod y0.fst 4) = 0 then some (([], y0.snd.fst, y0.snd.snd))
    else (if Int.toNat (Int.tmod y0.fst 4) = 1 then some (([97, 32, 98], y0.snd.fst, y0.snd.snd))
     else (if Int.toNat (Int.tmod y0.fst 4) = 2 then some (([120, 46, 121], y0.snd.fst, y0.snd.snd))
      else (if Int.toNat (Int.tmod y0.fst 4) = 3 then some (([97, 98, 99, 100, 101, 102, 103, 104, 105, 106, 97, 98, 99, 100, 101, 102, 103, 104, 105, 106, 107], y0.snd.fst, y0.snd.snd))
       else none))))
   else none)
  else (if 248 ≤ y0.fst then some (([97, 98, 99, 100, 101, 102, 103, 104, 105, 106, 65, 66, 67, 68, 69, 70, 71, 72, 73, 74], y0.snd.fst, y0.snd.snd))
   else (if 0 ≤ Int.tmod y0.fst 6 ∧ Int.tmod y0.fst 6 < 6 then (if Int.toNat (Int.tmod y0.fst 6) = 0 then some (([97, 110, 110], y0.snd.fst, y0.snd.snd))
     else (if Int.toNat (Int.tmod y0.fst 6) = 1 then some (([98, 111, 98], y0.snd.fst, y0.snd.snd))
      else (if Int.toNat (Int.tmod y0.fst 6) = 2 then some (([99, 121, 55], y0.snd.fst, y0.snd.snd))
       else (if Int.toNat (Int.tmod y0.fst 6) = 3 then some (([68], y0.snd.fst, y0.snd.snd))
        else (if Int.toNat (Int.tmod y0.fst 6) = 4 then some (([101, 118, 101], y0.snd.fst, y0.snd.snd))
         else (if Int.toNat (Int.tmod y0.fst 6) = 5 then some (([115, 116, 97, 102, 102], y0.snd.fst, y0.snd.snd))
          else none))))))
    else none))
theorem spec_l6Id_g (E : En) (hy : Hy E [0] [0] [(0, .box)] r_spec_l6Id none (fun y => nocap y) flatIds) (L___spec_l1Rd__next : (List Int) → Int → Option (Int × List Int × Int)) (h___spec_l1Rd__next : H___spec_l1Rd__next E L___spec_l1Rd__next) (a0_b : List Int) (a0_p : Int) : G E c_spec_l6Id [] ⟨slotsOf [(0, .adr 0 1 0)], obsOf [(0, ⟨1, .box [.d (lstT c8 a0_b), .d (.int .i64 a0_p)], false⟩)]⟩ = (spec_l6Id_f L___spec_l1Rd__next E.n a0_b a0_p).bind fun r => some (.ret (.d (sD r.1)) [[lstT (c8) r.2.1, .int .i64 r.2.2]]) := by
  simp (config := {maxSteps := 40000000}) only [↓rPre, rPost, rCan, rObj, rI, rS, rB, r8, rLI, rLit, rEtc, hy.p, hy.l, hy.k, hy.r, hy.d, hy.w, hy.f, flatIds, oid, r_spec_l6Id, ↓G_unf _ _ c_spec_l6Id.eq_1, h___spec_l1Rd__next.2, h___spec_l1Rd__next.1, bind_ite, spec_l6Id_f, rRow5, rVerdict, rRow43, rRow9, rRow3, rMap70, rMap75, rLog, ↓reduceIte, Nat.reduceMul, Nat.reduceAdd, Nat.reduceSub, Nat.reduceEqDiff, Nat.reduceBEq, Nat.reduceLeDiff, Nat.reduceLT, reduceCtorEq, Int.reduceAdd, Int.reduceSub, Int.reduceToNat, Int.reduceNeg, Int.reduceEq, Int.reduceLT, Int.reduceLE]
def H_spec_l6Id (E : En) (L : (List Int) → Int → Option (List UInt8 × List Int × Int)) : Prop := E.Γ.mu 13 = false ∧ (∀ (a0_b : List Int) (a0_p : Int), E.Γ 13 [.box [.d (lstT c8 a0_b), .d (.int .i64 a0_p)]] = (L a0_b a0_p).bind fun r => some (.ret (.d (sD r.1)) [[lstT (c8) r.2.1, .int .i64 r.2.2]]))
-- loop.example/s02135/spec.l6Verdicts
def b0_spec_l6Verdicts : Cd :=
  sq (sq (r [0, 3, 4, 5, 14] [o 11 .mv [t 5], o 12 .mv [t 3], o 13 (.bin .rem) [t 12, i 6], o 14 (.bin .lss) [t 11, t 13]])
   (.cond (t 14) (.skip) (.exit 0)))
  (sq (.block 1 (sq (r [0, 3, 4, 5, 6] [o 17 .mv [t 0], o 18 (.call 12) [t 17], o 6 .mv [t 18]])
     (sq (r [0, 3, 4, 5, 6, 7] [o 19 .mv [t 6], o 20 (.bin .rem) [t 19, i 5], o 21 (.bin .add) [i 1, t 20], o 22 (.bld [(.d (iD 0)), (.d (iD 0))] [(0, 1)]) [t 21], o 7 (.alloc [(.d (iD 0)), (.d (iD 0))]) [], e (.st 2) [t 7, t 22]])
      (sq (sq (r [0, 3, 4, 5, 6, 7, 25] [o 23 (.fa 0) [t 7], o 24 (.ld none) [t 23], o 25 (.bin .eql) [t 24, i 3]])
        (.cond (t 25) (r [0, 3, 4, 5, 7] [o 26 .mv [t 6], o 27 (.bin .quo) [t 26, i 5], o 28 (.bin .mul) [t 27, i 3], o 29 (.bin .rem) [t 28, i 99], o 30 (.bin .add) [i 1, t 29], o 31 (.fa 1) [t 7], e (.st 1) [t 31, t 30]]) (.skip)))
       (r [0, 3, 4, 5] [o 32 .mv [t 4], o 33 (.ld (some 2)) [t 7], o 34 (lit 43 2 1) [t 33], o 35 (.app 43 2 16) [t 32, t 34], o 4 .mv [t 35]])))))
   (r [0, 3, 4, 5] [o 15 .mv [t 5], o 16 (.bin .add) [t 15, i 1], o 5 .mv [t 16]]))
def b1_spec_l6Verdicts : Cd :=
  sq (sq (r [0, 3, 4, 58] [o 52 .mv [t 4], o 53 (.len false) [t 52], o 54 .mv [t 3], o 55 (.bin .quo) [t 54, i 32], o 56 (.bin .rem) [t 55, i 2], o 57 (.bin .add) [i 20, t 56], o 58 (.bin .lss) [t 53, t 57]])
   (.cond (t 58) (.skip) (.exit 2)))
  (.block 3 (r [0, 3, 4] [o 59 .mv [t 4], o 60 (.bld [(.d (iD 0)), (.d (iD 0))] [(0, 1)]) [i 1], o 61 (lit 43 2 1) [t 60], o 62 (.app 43 2 16) [t 59, t 61], o 4 .mv [t 62]]))
def k2_spec_l6Verdicts : Cd :=
  sq (r [0, 2] [o 63 .mv [t 4], o 2 .mv [t 63]])
  (.ret)
def k3_spec_l6Verdicts : Cd :=
  sq (sq (r [0, 3, 4, 38] [o 36 .mv [t 3], o 37 (.bin .rem) [t 36, i 16], o 38 (.bin .eql) [t 37, i 15]])
   (.cond (t 38) (r [0, 3, 4] [o 39 .mv [t 4], o 40 .mv [t 3], o 41 (.bin .quo) [t 40, i 16], o 42 (.bin .rem) [t 41, i 7], o 43 .mv [t 3], o 44 (.bin .quo) [t 43, i 32], o 45 (.bin .mul) [t 44, i 30], o 46 (.bld [(.d (iD 0)), (.d (iD 0))] [(0, 1), (1, 1)]) [t 42, t 45], o 47 (lit 43 2 1) [t 46], o 48 (.app 43 2 16) [t 39, t 47], o 4 .mv [t 48]]) (.skip)))
  (sq (sq (r [0, 3, 4, 51] [o 49 .mv [t 3], o 50 (.bin .rem) [t 49, i 32], o 51 (.bin .eql) [t 50, i 14]])
    (.cond (t 51) (.block 2 (.loop [0, 3, 4] b1_spec_l6Verdicts)) (.skip))) k2_spec_l6Verdicts)
def c_spec_l6Verdicts : Cd :=
  sq (r [0] [o 2 .mv [n]])
  (sq (r [0, 3] [o 8 .mv [t 0], o 9 (.call 12) [t 8], o 3 .mv [t 9]])
   (sq (r [0, 3, 4] [o 10 (lit 43 2 0) [], o 4 .mv [t 10]])
    (sq (sq (r [0, 3, 4, 5] [o 5 .mv [i 0]])
      (.block 0 (.loop [0, 3, 4, 5] b0_spec_l6Verdicts))) k3_spec_l6Verdicts)))
def r_spec_l6Verdicts : List RV := [.tmp 2]
def spec_l6Verdicts_l1 (L___spec_l1Rd__next : (List Int) → Int → Option (Int × List Int × Int)) : Nat → Int → (List Int) → Int → (List TVerdict) → Option (List TVerdict × List Int × Int)
  | 0, _, _, _, _ => none
  | m1 + 1, x3, o0_0, o0_1, o256 =>
    if (↑(List.length o256) : Int) < w64 (20 + Int.tmod (w64 (Int.tdiv x3 32)) 2) then (if room 16 (List.length (o256 ++ [{ Kind := 1, Code := 0 }])) then spec_l6Verdicts_l1 L___spec_l1Rd__next m1 x3 o0_0 o0_1 (o256 ++ [{ Kind := 1, Code := 0 }])
     else none)
    else some ((o256, o0_0, o0_1))
def spec_l6Verdicts_l0 (L___spec_l1Rd__next : (List Int) → Int → Option (Int × List Int × Int)) (N : Nat) : Nat → Int → Int → (List Int) → Int → (List TVerdict) → Option (List TVerdict × List Int × Int)
  | 0, _, _, _, _, _ => none
  | m0 + 1, x3, x5, o0_0, o0_1, o256 =>
    if x5 < Int.tmod x3 6 then ((L___spec_l1Rd__next o0_0 o0_1).bind fun y0 =>
     if w64 (1 + Int.tmod y0.fst 5) = 3 then (if room 16 (List.length (o256 ++ [{ Kind := w64 (1 + Int.tmod y0.fst 5), Code := w64 (1 + Int.tmod (w64 (w64 (Int.tdiv y0.fst 5) * 3)) 99) }])) then spec_l6Verdicts_l0 L___spec_l1Rd__next N m0 x3 (w64 (x5 + 1)) y0.snd.fst y0.snd.snd (o256 ++ [{ Kind := w64 (1 + Int.tmod y0.fst 5), Code := w64 (1 + Int.tmod (w64 (w64 (Int.tdiv y0.fst 5) * 3)) 99) }])
      else none)
     else (if room 16 (List.length (o256 ++ [{ Kind := w64 (1 + Int.tmod y0.fst 5), Code := 0 }])) then spec_l6Verdicts_l0 L___spec_l1Rd__next N m0 x3 (w64 (x5 + 1)) y0.snd.fst y0.snd.snd (o256 ++ [{ Kind := w64 (1 + Int.tmod y0.fst 5), Code := 0 }])
      else none))
    else (if Int.tmod x3 16 = 15 then (if room 16 (List.length (o256 ++ [{ Kind := Int.tmod (w64 (Int.tdiv x3 16)) 7, Code := w64 (w64 (Int.tdiv x3 32) * 30) }])) then (if Int.tmod x3 32 = 14 then spec_l6Verdicts_l1 L___spec_l1Rd__next N x3 o0_0 o0_1 (o256 ++ [{ Kind := Int.tmod (w64 (Int.tdiv x3 16)) 7, Code := w64 (w64 (Int.tdiv x3 32) * 30) }])
       else some ((o256 ++ [{ Kind := Int.tmod (w64 (Int.tdiv x3 16)) 7, Code := w64 (w64 (Int.tdiv x3 32) * 30) }], o0_0, o0_1)))
      else none)
     else (if Int.tmod x3 32 = 14 then spec_l6Verdicts_l1 L___spec_l1Rd__next N x3 o0_0 o0_1 o256
      else some ((o256, o0_0, o0_1))))
def spec_l6Verdicts_f (L___spec_l1Rd__next : (List Int) → Int → Option (Int × List Int × Int)) (N : Nat) (a0_b : List Int) (a0_p : Int) : Option (List TVerdict × List Int × Int) :=
  (L___spec_l1Rd__next a0_b a0_p).bind fun y0 =>
  spec_l6Verdicts_l0 L___spec_l1Rd__next N N y0.fst 0 y0.snd.fst y0.snd.snd []
theorem spec_l6Verdicts_l1_eq (E : En) (hy : Hy E [0] [0] [(0, .box)] r_spec_l6Verdicts none (fun y => nocap y) flatIds) (L___spec_l1Rd__next : (List Int) → Int → Option (Int × List Int × Int)) (h___spec_l1Rd__next : H___spec_l1Rd__next E L___spec_l1Rd__next) : ∀ (m1 : Nat) (x3 : Int) (o0_0 : List Int) (o0_1 : Int) (o256 : List TVerdict), gH E [0, 3, 4] b1_spec_l6Verdicts [KJ.b 2, KJ.c k2_spec_l6Verdicts] m1 ⟨slotsOf [(0, A.adr 0 1 0), (3, .d (.int .i64 x3)), (4, A.row 256 1)], obsOf [(0, ⟨1, .box [.d (lstT (c8) o0_0), .d (.int .i64 o0_1)], false⟩), (256, ⟨1, rowT (cVerdict) 43 none o256, false⟩)]⟩ = (spec_l6Verdicts_l1 L___spec_l1Rd__next m1 x3 o0_0 o0_1 o256).bind fun r => some (.ret (ownT (cVerdict) 43 none false r.1) [[lstT (c8) r.2.1, .int .i64 r.2.2]]) := by
  intro m1
  induction m1 with
  | zero => intros; rfl
  | succ m1 ih =>
    intros
    simp (config := {maxSteps := 40000000}) only [↓rPre, rPost, rCan, rObj, rI, rS, rB, r8, rLI, rLit, rEtc, hy.p, hy.l, hy.k, hy.r, hy.d, hy.w, hy.f, flatIds, oid, r_spec_l6Verdicts, ↓G_unf _ _ b0_spec_l6Verdicts.eq_1, ↓G_unf _ _ b1_spec_l6Verdicts.eq_1, ↓G_unf _ _ k2_spec_l6Verdicts.eq_1, ↓G_unf _ _ k3_spec_l6Verdicts.eq_1, ↓G_unf _ _ c_spec_l6Verdicts.eq_1, h___spec_l1Rd__next.2, h___spec_l1Rd__next.1, gH_succ, ih, bind_ite, spec_l6Verdicts_l1, rRow5, rVerdict, rRow43, rRow9, rRow3, rMap70, rMap75, rLog, ↓reduceIte, Nat.reduceMul, Nat.reduceAdd, Nat.reduceSub, Nat.reduceEqDiff, Nat.reduceBEq, Nat.reduceLeDiff, Nat.reduceLT, reduceCtorEq, Int.reduceAdd, Int.reduceSub, Int.reduceToNat, Int.reduceNeg, Int.reduceEq, Int.reduceLT, Int.reduceLE]
theorem spec_l6Verdicts_l0_eq (E : En) (hy : Hy E [0] [0] [(0, .box)] r_spec_l6Verdicts none (fun y => nocap y) flatIds) (L___spec_l1Rd__next : (List Int) → Int → Option (Int × List Int × Int)) (h___spec_l1Rd__next : H___spec_l1Rd__next E L___spec_l1Rd__next) : ∀ (m0 : Nat) (x3 : Int) (x5 : Int) (o0_0 : List Int) (o0_1 : Int) (o256 : List TVerdict), gH E [0, 3, 4, 5] b0_spec_l6Verdicts [KJ.b 0, KJ.c k3_spec_l6Verdicts] m0 ⟨slotsOf [(0, A.adr 0 1 0), (3, .d (.int .i64 x3)), (4, A.row 256 1), (5, .d (.int .i64 x5))], obsOf [(0, ⟨1, .box [.d (lstT (c8) o0_0), .d (.int .i64 o0_1)], false⟩), (256, ⟨1, rowT (cVerdict) 43 none o256, false⟩)]⟩ = (spec_l6Verdicts_l0 L___spec_l1Rd__next E.n m0 x3 x5 o0_0 o0_1 o256).bind fun r => some (.ret (ownT (cVerdict) 43 none false r.1) [[lstT (c8) r.2.1, .int .i64 r.2.2]]) := by
  intro m0
  induction m0 with
  | zero => intros; rfl
  | succ m0 ih =>
    intros
    simp (config := {maxSteps := 40000000}) only [↓rPre, rPost, rCan, rObj, rI, rS, rB, r8, rLI, rLit, rEtc, hy.p, hy.l, hy.k, hy.r, hy.d, hy.w, hy.f, flatIds, oid, r_spec_l6Verdicts, ↓G_unf _ _ b0_spec_l6Verdicts.eq_1, ↓G_unf _ _ b1_spec_l6Verdicts.eq_1, ↓G_unf _ _ k2_spec_l6Verdicts.eq_1, ↓G_unf _ _ k3_spec_l6Verdicts.eq_1, ↓G_unf _ _ c_spec_l6Verdicts.eq_1, h___spec_l1Rd__next.2, h___spec_l1Rd__next.1, gH_succ, ih, bind_ite, spec_l6Verdicts_l0, spec_l6Verdicts_l1_eq E hy L___spec_l1Rd__next h___spec_l1Rd__next, rRow5, rVerdict, rRow43, rRow9, rRow3, rMap70, rMap75, rLog, ↓reduceIte, Nat.reduceMul, Nat.reduceAdd, Nat.reduceSub, Nat.reduceEqDiff, Nat.reduceBEq, Nat.reduceLeDiff, Nat.reduceLT, reduceCtorEq, Int.reduceAdd, Int.reduceSub, Int.reduceToNat, Int.reduceNeg, Int.reduceEq, Int.reduceLT, Int.reduceLE]
theorem spec_l6Verdicts_g (E : En) (hy : Hy E [0] [0] [(0, .box)] r_spec_l6Verdicts none (fun y => nocap y) flatIds) (L___spec_l1Rd__next : (List Int) → Int → Option (Int × List Int × Int)) (h___spec_l1Rd__next : H___spec_l1Rd__next E L___spec_l1Rd__next) (a0_b : List Int) (a0_p : Int) : G E c_spec_l6Verdicts [] ⟨slotsOf [(0, .adr 0 1 0)], obsOf [(0, ⟨1, .box [.d (lstT c8 a0_b), .d (.int .i64 a0_p)], false⟩)]⟩ = (spec_l6Verdicts_f L___spec_l1Rd__next E.n a0_b a0_p).bind fun r => some (.ret (ownT (cVerdict) 43 none false r.1) [[lstT (c8) r.2.1, .int .i64 r.2.2]]) := by
  simp (config := {maxSteps := 40000000}) only [↓rPre, rPost, rCan, rObj, rI, rS, rB, r8, rLI, rLit, rEtc, hy.p, hy.l, hy.k, hy.r, hy.d, hy.w, hy.f, flatIds, oid, r_spec_l6Verdicts, ↓G_unf _ _ b0_spec_l6Verdicts.eq_1, ↓G_unf _ _ b1_spec_l6Verdicts.eq_1, ↓G_unf _ _ k2_spec_l6Verdicts.eq_1, ↓G_unf _ _ k3_spec_l6Verdicts.eq_1, ↓G_unf _ _ c_spec_l6Verdicts.eq_1, h___spec_l1Rd__next.2, h___spec_l1Rd__next.1, bind_ite, spec_l6Verdicts_f, spec_l6Verdicts_l0_eq E hy L___spec_l1Rd__next h___spec_l1Rd__next, rRow5, rVerdict, rRow43, rRow9, rRow3, rMap70, rMap75, rLog, ↓reduceIte, Nat.reduceMul, Nat.reduceAdd, Nat.reduceSub, Nat.reduceEqDiff, Nat.reduceBEq, Nat.reduceLeDiff, Nat.reduceLT, reduceCtorEq, Int.reduceAdd, Int.reduceSub, Int.reduceToNat, Int.reduceNeg, Int.reduceEq, Int.reduceLT, Int.reduceLE]
def H_spec_l6Verdicts (E : En) (L : (List Int) → Int → Option (List TVerdict × List Int × Int)) : Prop := E.Γ.mu 14 = false ∧ (∀ (a0_b : List Int) (a0_p : Int), E.Γ 14 [.box [.d (lstT c8 a0_b), .d (.int .i64 a0_p)]] = (L a0_b a0_p).bind fun r => some (.ret (ownT (cVerdict) 43 none false r.1) [[lstT (c8) r.2.1, .int .i64 r.2.2]]))
-- loop.example/s02135/spec.l3Digit
def c_spec_l3Digit : Cd :=
  sq (r [0] [o 2 .mv [b false]])
  (sq (r [2] [o 3 .mv [t 0], o 4 (.bin .geq) [t 3, .k (.d (.int .u8 48))], o 5 .mv [t 4], g 5 true 6 .mv [t 0], g 5 true 7 (.bin .leq) [t 6, .k (.d (.int .u8 57))], o 8 .pick [t 5, t 7, b false], o 2 .mv [t 8]])
   (.ret))
def r_spec_l3Digit : List RV := [.tmp 2]
def spec_l3Digit_f (N : Nat) (a0 : Int) : Option (Bool) :=
  if 48 ≤ a0 then some (Decidable.decide (a0 ≤ 57))
  else some false
theorem spec_l3Digit_g (E : En) (hy : Hy E [] [] [] r_spec_l3Digit none (fun y => nocap y) flatIds) (a0 : Int) : G E c_spec_l3Digit [] ⟨slotsOf [(0, .d (.int .u8 a0))], obsOf []⟩ = (spec_l3Digit_f E.n a0).bind fun r => some (.ret (.d (.bool r)) []) := by
  simp (config := {maxSteps := 40000000}) only [↓rPre, rPost, rCan, rObj, rI, rS, rB, r8, rLI, rLit, rEtc, hy.p, hy.l, hy.k, hy.r, hy.d, hy.w, hy.f, flatIds, oid, r_spec_l3Digit, ↓G_unf _ _ c_spec_l3Digit.eq_1, bind_ite, spec_l3Digit_f, rRow5, rVerdict, rRow43, rRow9, rRow3, rMap70, rMap75, rLog, ↓reduceIte, Nat.reduceMul, Nat.reduceAdd, Nat.reduceSub, Nat.reduceEqDiff, Nat.reduceBEq, Nat.reduceLeDiff, Nat.reduceLT, reduceCtorEq, Int.reduceAdd, Int.reduceSub, Int.reduceToNat, Int.reduceNeg, Int.reduceEq, Int.reduceLT, Int.reduceLE]
def H_spec_l3Digit (E : En) (L : Int → Option (Bool)) : Prop := E.Γ.mu 42 = false ∧ (∀ (a0 : Int), E.Γ 42 [.d (.int .u8 a0)] = (L a0).bind fun r => some (.ret (.d (.bool r)) []))
-- loop.example/s02135/spec.l3Letter
def c_spec_l3Letter : Cd :=
  sq (r [0] [o 2 .mv [b false]])
  (sq (r [2] [o 3 .mv [t 0], o 4 (.bin .geq) [t 3, .k (.d (.int .u8 97))], o 5 .mv [t 4], g 5 true 6 .mv [t 0], g 5 true 7 (.bin .leq) [t 6, .k (.d (.int .u8 122))], o 8 .pick [t 5, t 7, b false], o 9 .mv [t 8], g 9 false 10 .mv [t 0], g 9 false 11 (.bin .geq) [t 10, .k (.d (.int .u8 65))], g 9 false 12 .mv [t 11], g 12 true 13 .mv [t 0], g 12 true 14 (.bin .leq) [t 13, .k (.d (.int .u8 90))], g 9 false 15 .pick [t 12, t 14, b false], o 16 .pick [t 9, b true, t 15], o 2 .mv [t 16]])
   (.ret))
def r_spec_l3Letter : List RV := [.tmp 2]
def spec_l3Letter_f (N : Nat) (a0 : Int) : Option (Bool) :=
  if 97 ≤ a0 then (if a0 ≤ 122 then some true
   else (if 65 ≤ a0 then some (Decidable.decide (a0 ≤ 90))
    else some false))
  else (if 65 ≤ a0 then some (Decidable.decide (a0 ≤ 90))
   else some false)
theorem spec_l3Letter_g (E : En) (hy : Hy E [] [] [] r_spec_l3Letter none (fun y => nocap y) flatIds) (a0 : Int) : G E c_spec_l3Letter [] ⟨slotsOf [(0, .d (.int .u8 a0))], obsOf []⟩ = (spec_l3Letter_f E.n a0).bind fun r => some (.ret (.d (.bool r)) []) := by
  simp (config := {maxSteps := 40000000}) only [↓rPre, rPost, rCan, rObj, rI, rS, rB, r8, rLI, rLit, rEtc, hy.p, hy.l, hy.k, hy.r, hy.d, hy.w, hy.f, flatIds, oid, r_spec_l3Letter, ↓G_unf _ _ c_spec_l3Letter.eq_1, bind_ite, spec_l3Letter_f, rRow5, rVerdict, rRow43, rRow9, rRow3, rMap70, rMap75, rLog, ↓reduceIte, Nat.reduceMul, Nat.reduceAdd, Nat.reduceSub, Nat.reduceEqDiff, Nat.reduceBEq, Nat.reduceLeDiff, Nat.reduceLT, reduceCtorEq, Int.reduceAdd, Int.reduceSub, Int.reduceToNat, Int.reduceNeg, Int.reduceEq, Int.reduceLT, Int.reduceLE]
def H_spec_l3Letter (E : En) (L : Int → Option (Bool)) : Prop := E.Γ.mu 43 = false ∧ (∀ (a0 : Int), E.Γ 43 [.d (.int .u8 a0)] = (L a0).bind fun r => some (.ret (.d (.bool r)) []))
-- loop.example/s02135/spec.l6IdOk
def b0_spec_l6IdOk : Cd :=
  sq (sq (r [0, 3, 7] [o 4 .mv [t 3], o 5 .mv [t 0], o 6 (.len true) [t 5], o 7 (.bin .lss) [t 4, t 6]])
   (.cond (t 7) (.skip) (.exit 0)))
  (sq (.block 1 (sq (r [0, 3, 21] [o 10 .mv [t 0], o 11 .mv [t 3], o 12 .ixs [t 10, t 11], o 13 (.call 42) [t 12], o 14 .not [t 13], o 15 .mv [t 14], g 15 true 16 .mv [t 0], g 15 true 17 .mv [t 3], g 15 true 18 .ixs [t 16, t 17], g 15 true 19 (.call 43) [t 18], g 15 true 20 .not [t 19], o 21 .pick [t 15, t 20, b false]])
     (.cond (t 21) (sq (r [2] [o 2 .mv [b false]])
       (.ret)) (.skip))))
   (r [0, 3] [o 8 .mv [t 3], o 9 (.bin .add) [t 8, i 1], o 3 .mv [t 9]]))
def k1_spec_l6IdOk : Cd :=
  sq (r [2] [o 22 .mv [t 0], o 23 (.len true) [t 22], o 24 (.bin .geq) [t 23, i 1], o 25 .mv [t 24], g 25 true 26 .mv [t 0], g 25 true 27 (.len true) [t 26], g 25 true 28 (.bin .leq) [t 27, i 20], o 29 .pick [t 25, t 28, b false], o 2 .mv [t 29]])
  (.ret)
def c_spec_l6IdOk : Cd :=
  sq (r [0] [o 2 .mv [b false]])
  (sq (sq (r [0, 3] [o 3 .mv [i 0]])
    (.block 0 (.loop [0, 3] b0_spec_l6IdOk))) k1_spec_l6IdOk)
def r_spec_l6IdOk : List RV := [.tmp 2]
def spec_l6IdOk_l0 (L_spec_l3Digit : Int → Option (Bool)) (L_spec_l3Letter : Int → Option (Bool)) : Nat → (List UInt8) → Int → Option (Bool)
  | 0, _, _ => none
  | m0 + 1, x0, x3 =>
    if x3 < (↑(List.length x0) : Int) then ((idxB x0 x3).bind fun y0 =>
     (L_spec_l3Digit y0).bind fun y1 =>
     if y1 = false then ((idxB x0 x3).bind fun y2 =>
      (L_spec_l3Letter y2).bind fun y3 =>
      if y3 = false then some false
      else spec_l6IdOk_l0 L_spec_l3Digit L_spec_l3Letter m0 x0 (w64 (x3 + 1)))
     else spec_l6IdOk_l0 L_spec_l3Digit L_spec_l3Letter m0 x0 (w64 (x3 + 1)))
    else (if 1 ≤ (↑(List.length x0) : Int) then some (Decidable.decide ((↑(List.length x0) : Int) ≤ 20))
     else some false)
def spec_l6IdOk_f (L_spec_l3Digit : Int → Option (Bool)) (L_spec_l3Letter : Int → Option (Bool)) (N : Nat) (a0 : List UInt8) : Option (Bool) :=
  spec_l6IdOk_l0 L_spec_l3Digit L_spec_l3Letter N a0 0
theorem spec_l6IdOk_l0_eq (E : En) (hy : Hy E [] [] [] r_spec_l6IdOk none (fun y => nocap y) flatIds) (L_spec_l3Digit : Int → Option (Bool)) (h_spec_l3Digit : H_spec_l3Digit E L_spec_l3Digit) (L_spec_l3Letter : Int → Option (Bool)) (h_spec_l3Letter : H_spec_l3Letter E L_spec_l3Letter) : ∀ (m0 : Nat) (x0 : List UInt8) (x3 : Int), gH E [0, 3] b0_spec_l6IdOk [KJ.b 0, KJ.c k1_spec_l6IdOk] m0 ⟨slotsOf [(0, .d (sD x0)), (3, .d (.int .i64 x3))], obsOf []⟩ = (spec_l6IdOk_l0 L_spec_l3Digit L_spec_l3Letter m0 x0 x3).bind fun r => some (.ret (.d (.bool r)) []) := by
  intro m0
  induction m0 with
  | zero => intros; rfl
  | succ m0 ih =>
    intros
    simp (config := {maxSteps := 40000000}) only [↓rPre, rPost, rCan, rObj, rI, rS, rB, r8, rLI, rLit, rEtc, hy.p, hy.l, hy.k, hy.r, hy.d, hy.w, hy.f, flatIds, oid, r_spec_l6IdOk, ↓G_unf _ _ b0_spec_l6IdOk.eq_1, ↓G_unf _ _ k1_spec_l6IdOk.eq_1, ↓G_unf _ _ c_spec_l6IdOk.eq_1, h_spec_l3Digit.2, h_spec_l3Digit.1, h_spec_l3Letter.2, h_spec_l3Letter.1, gH_succ, ih, bind_ite, spec_l6IdOk_l0, rRow5, rVerdict, rRow43, rRow9, rRow3, rMap70, rMap75, rLog, ↓reduceIte, Nat.reduceMul, Nat.reduceAdd, Nat.reduceSub, Nat.reduceEqDiff, Nat.reduceBEq, Nat.reduceLeDiff, Nat.reduceLT, reduceCtorEq, Int.reduceAdd, Int.reduceSub, Int.reduceToNat, Int.reduceNeg, Int.reduceEq, Int.reduceLT, Int.reduceLE]
theorem spec_l6IdOk_g (E : En) (hy : Hy E [] [] [] r_spec_l6IdOk none (fun y => nocap y) flatIds) (L_spec_l3Digit : Int → Option (Bool)) (h_spec_l3Digit : H_spec_l3Digit E L_spec_l3Digit) (L_spec_l3Letter : Int → Option (Bool)) (h_spec_l3Letter : H_spec_l3Letter E L_spec_l3Letter) (a0 : List UInt8) : G E c_spec_l6IdOk [] ⟨slotsOf [(0, .d (sD a0))], obsOf []⟩ = (spec_l6IdOk_f L_spec_l3Digit L_spec_l3Letter E.n a0).bind fun r => some (.ret (.d (.bool r)) []) := by
  simp (config := {maxSteps := 40000000}) only [↓rPre, rPost, rCan, rObj, rI, rS, rB, r8, rLI, rLit, rEtc, hy.p, hy.l, hy.k, hy.r, hy.d, hy.w, hy.f, flatIds, oid, r_spec_l6IdOk, ↓G_unf _ _ b0_spec_l6IdOk.eq_1, ↓G_unf _ _ k1_spec_l6IdOk.eq_1, ↓G_unf _ _ c_spec_l6IdOk.eq_1, h_spec_l3Digit.2, h_spec_l3Digit.1, h_spec_l3Letter.2, h_spec_l3Letter.1, bind_ite, spec_l6IdOk_f, spec_l6IdOk_l0_eq E hy L_spec_l3Digit h_spec_l3Digit L_spec_l3Letter h_spec_l3Letter, rRow5, rVerdict, rRow43, rRow9, rRow3, rMap70, rMap75, rLog, ↓reduceIte, Nat.reduceMul, Nat.reduceAdd, Nat.reduceSub, Nat.reduceEqDiff, Nat.reduceBEq, Nat.reduceLeDiff, Nat.reduceLT, reduceCtorEq, Int.reduceAdd, Int.reduceSub, Int.reduceToNat, Int.reduceNeg, Int.reduceEq, Int.reduceLT, Int.reduceLE]
def H_spec_l6IdOk (E : En) (L : (List UInt8) → Option (Bool)) : Prop := E.Γ.mu 27 = false ∧ (∀ (a0 : List UInt8), E.Γ 27 [.d (sD a0)] = (L a0).bind fun r => some (.ret (.d (.bool r)) []))
-- loop.example/s02135/spec.l6VerdictsOk
def b0_spec_l6VerdictsOk : Cd :=
  sq (sq (r [0, 3, 11] [o 8 .mv [t 3], o 9 .mv [t 0], o 10 (.len false) [t 9], o 11 (.bin .lss) [t 8, t 10]])
   (.cond (t 11) (.skip) (.exit 0)))
  (sq (.block 1 (sq (r [0, 3, 4] [o 14 .mv [t 0], o 15 .mv [t 3], o 16 (.ia 2) [t 14, t 15], o 17 (.ld (some 2)) [t 16], o 4 (.alloc [(.d (iD 0)), (.d (iD 0))]) [], e (.st 2) [t 4, t 17]])
     (sq (r [0, 3, 50] [o 18 (.fa 0) [t 4], o 19 (.ld none) [t 18], o 20 (.bin .lss) [t 19, i 1], o 21 .mv [t 20], g 21 false 22 (.fa 0) [t 4], g 21 false 23 (.ld none) [t 22], g 21 false 24 (.bin .gtr) [t 23, i 5], o 25 .pick [t 21, b true, t 24], o 26 .mv [t 25], g 26 false 27 (.fa 0) [t 4], g 26 false 28 (.ld none) [t 27], g 26 false 29 (.bin .neq) [t 28, i 3], g 26 false 30 .mv [t 29], g 30 true 31 (.fa 1) [t 4], g 30 true 32 (.ld none) [t 31], g 30 true 33 (.bin .neq) [t 32, i 0], g 26 false 34 .pick [t 30, t 33, b false], o 35 .pick [t 26, b true, t 34], o 36 .mv [t 35], g 36 false 37 (.fa 0) [t 4], g 36 false 38 (.ld none) [t 37], g 36 false 39 (.bin .eql) [t 38, i 3], g 36 false 40 .mv [t 39], g 40 true 41 (.fa 1) [t 4], g 40 true 42 (.ld none) [t 41], g 40 true 43 (.bin .lss) [t 42, i 1], g 40 true 44 .mv [t 43], g 44 false 45 (.fa 1) [t 4], g 44 false 46 (.ld none) [t 45], g 44 false 47 (.bin .gtr) [t 46, i 99], g 40 true 48 .pick [t 44, b true, t 47], g 36 false 49 .pick [t 40, t 48, b false], o 50 .pick [t 36, b true, t 49]])
      (.cond (t 50) (sq (r [2] [o 2 .mv [b false]])
        (.ret)) (.skip)))))
   (r [0, 3] [o 12 .mv [t 3], o 13 (.bin .add) [t 12, i 1], o 3 .mv [t 13]]))
def k1_spec_l6VerdictsOk : Cd :=
  sq (r [2] [o 2 .mv [b true]])
  (.ret)
def c_spec_l6VerdictsOk : Cd :=
  sq (r [0] [o 2 .mv [b false]])
  (sq (sq (r [0, 7] [o 5 .mv [t 0], o 6 (.len false) [t 5], o 7 (.bin .gtr) [t 6, i 20]])
    (.cond (t 7) (sq (r [2] [o 2 .mv [b false]])
      (.ret)) (.skip)))
   (sq (sq (r [0, 3] [o 3 .mv [i 0]])
     (.block 0 (.loop [0, 3] b0_spec_l6VerdictsOk))) k1_spec_l6VerdictsOk))
def r_spec_l6VerdictsOk : List RV := [.tmp 2]
def spec_l6VerdictsOk_l0 : Nat → (List TVerdict) → Int → Option (Bool)
  | 0, _, _ => none
  | m0 + 1, x0, x3 =>
    if x3 < (↑(List.length x0) : Int) then ((idx x0 x3).bind fun y0 =>
     if y0.Kind < 1 then some false
     else (if 5 < y0.Kind then some false
      else (if y0.Kind = 3 then (if y0.Kind = 3 then (if y0.Code < 1 then some false
         else (if 99 < y0.Code then some false
          else spec_l6VerdictsOk_l0 m0 x0 (w64 (x3 + 1))))
        else spec_l6VerdictsOk_l0 m0 x0 (w64 (x3 + 1)))
       else (if y0.Code = 0 then (if y0.Kind = 3 then (if y0.Code < 1 then some false
          else (if 99 < y0.Code then some false
           else spec_l6VerdictsOk_l0 m0 x0 (w64 (x3 + 1))))
         else spec_l6VerdictsOk_l0 m0 x0 (w64 (x3 + 1)))
        else some false))))
    else some true
def spec_l6VerdictsOk_f (N : Nat) (a0 : List TVerdict) : Option (Bool) :=
  if 20 < (↑(List.length a0) : Int) then some false
  else spec_l6VerdictsOk_l0 N a0 0
theorem spec_l6VerdictsOk_l0_eq (E : En) (hy : Hy E [] [] [] r_spec_l6VerdictsOk none (fun y => nocap y) flatIds) : ∀ (m0 : Nat) (x0 : List TVerdict) (x3 : Int), gH E [0, 3] b0_spec_l6VerdictsOk [KJ.b 0, KJ.c k1_spec_l6VerdictsOk] m0 ⟨slotsOf [(0, .d (lstT (cVerdict) x0)), (3, .d (.int .i64 x3))], obsOf []⟩ = (spec_l6VerdictsOk_l0 m0 x0 x3).bind fun r => some (.ret (.d (.bool r)) []) := by
  intro m0
  induction m0 with
  | zero => intros; rfl
  | succ m0 ih =>
    intros
    simp (config := {maxSteps := 40000000}) only [↓rPre, rPost, rCan, rObj, rI, rS, rB, r8, rLI, rLit, rEtc, hy.p, hy.l, hy.k, hy.r, hy.d, hy.w, hy.f, flatIds, oid, r_spec_l6VerdictsOk, ↓G_unf _ _ b0_spec_l6VerdictsOk.eq_1, ↓G_unf _ _ k1_spec_l6VerdictsOk.eq_1, ↓G_unf _ _ c_spec_l6VerdictsOk.eq_1, gH_succ, ih, bind_ite, spec_l6VerdictsOk_l0, rRow5, rVerdict, rRow43, rRow9, rRow3, rMap70, rMap75, rLog, ↓reduceIte, Nat.reduceMul, Nat.reduceAdd, Nat.reduceSub, Nat.reduceEqDiff, Nat.reduceBEq, Nat.reduceLeDiff, Nat.reduceLT, reduceCtorEq, Int.reduceAdd, Int.reduceSub, Int.reduceToNat, Int.reduceNeg, Int.reduceEq, Int.reduceLT, Int.reduceLE]
theorem spec_l6VerdictsOk_g (E : En) (hy : Hy E [] [] [] r_spec_l6VerdictsOk none (fun y => nocap y) flatIds) (a0 : List TVerdict) : G E c_spec_l6VerdictsOk [] ⟨slotsOf [(0, .d (lstT cVerdict a0))], obsOf []⟩ = (spec_l6VerdictsOk_f E.n a0).bind fun r => some (.ret (.d (.bool r)) []) := by
  simp (config := {maxSteps := 40000000}) only [↓rPre, rPost, rCan, rObj, rI, rS, rB, r8, rLI, rLit, rEtc, hy.p, hy.l, hy.k, hy.r, hy.d, hy.w, hy.f, flatIds, oid, r_spec_l6VerdictsOk, ↓G_unf _ _ b0_spec_l6VerdictsOk.eq_1, ↓G_unf _ _ k1_spec_l6VerdictsOk.eq_1, ↓G_unf _ _ c_spec_l6VerdictsOk.eq_1, bind_ite, spec_l6VerdictsOk_f, spec_l6VerdictsOk_l0_eq E hy, rRow5, rVerdict, rRow43, rRow9, rRow3, rMap70, rMap75, rLog, ↓reduceIte, Nat.reduceMul, Nat.reduceAdd, Nat.reduceSub, Nat.reduceEqDiff, Nat.reduceBEq, Nat.reduceLeDiff, Nat.reduceLT, reduceCtorEq, Int.reduceAdd, Int.reduceSub, Int.reduceToNat, Int.reduceNeg, Int.reduceEq, Int.reduceLT, Int.reduceLE]
def H_spec_l6VerdictsOk (E : En) (L : (List TVerdict) → Option (Bool)) : Prop := E.Γ.mu 28 = false ∧ (∀ (a0 : List TVerdict), E.Γ 28 [.d (lstT cVerdict a0)] = (L a0).bind fun r => some (.ret (.d (.bool r)) []))
-- loop.example/s02135/spec.l1Dec
def c_spec_l1Dec : Cd :=
  sq (r [0] [o 2 .mv [s []]])
  (sq (sq (r [0, 4] [o 3 .mv [t 0], o 4 (.bin .lss) [t 3, i 0]])
    (.cond (t 4) (sq (r [2] [o 5 .mv [t 0], o 6 .neg [t 5], o 7 (.call 19) [t 6], o 8 (.bin .add) [s [45], t 7], o 2 .mv [t 8]])
      (.ret)) (.skip)))
   (sq (sq (r [0, 10] [o 9 .mv [t 0], o 10 (.bin .lss) [t 9, i 10]])
     (.cond (t 10) (sq (r [2] [o 11 .mv [t 0], o 12 (.bin .add) [i 48, t 11], o 13 (.cvt .u8) [t 12], o 14 (lit 5 1 1) [t 13], o 15 .b2s [t 14], o 2 .mv [t 15]])
       (.ret)) (.skip)))
    (sq (rd [] [2] [ap [1472] false [] (o 16 .mv [t 0]), ap [1472] false [] (o 17 (.bin .quo) [t 16, i 10]), o 19 .mv [t 0], o 20 (.bin .rem) [t 19, i 10], o 21 (.bin .add) [i 48, t 20], o 22 (.cvt .u8) [t 21], ap [] true [] (o 23 (lit 5 1 1) [t 22]), o 24 .b2s [t 23], ap [1472] false [23] (o 18 (.call 19) [t 17]), o 25 (.bin .add) [t 18, t 24], o 2 .mv [t 25]])
     (.ret))))
def r_spec_l1Dec : List RV := [.tmp 2]
def H_spec_l1Dec (E : En) (L : Int → Option (List UInt8)) : Prop := E.Γ.mu 19 = false ∧ (∀ (a0 : Int), E.Γ 19 [.d (.int .i64 a0)] = (L a0).bind fun r => some (.ret (.d (sD r)) []))
def spec_l1Dec_f (L_spec_l1Dec : Int → Option (List UInt8)) (N : Nat) (a0 : Int) : Option (List UInt8) :=
  if a0 < 0 then ((L_spec_l1Dec (w64 (0 - a0))).bind fun y0 =>
   if roomS (List.length y0 + 1) then some (45 :: y0)
   else none)
  else (if a0 < 10 then some (bytes8 [Go.IntKind.wrap .u8 (w64 (48 + a0))])
   else ((L_spec_l1Dec (w64 (Int.tdiv a0 10))).bind fun y1 =>
    if roomS (List.length (y1 ++ bytes8 [Go.IntKind.wrap .u8 (w64 (48 + Int.tmod a0 10))])) then some (y1 ++ bytes8 [Go.IntKind.wrap .u8 (w64 (48 + Int.tmod a0 10))])
    else none))
theorem spec_l1Dec_g (E : En) (hy : Hy E [] [] [] r_spec_l1Dec none (fun y => nocap y) flatIds) (L_spec_l1Dec : Int → Option (List UInt8)) (h_spec_l1Dec : H_spec_l1Dec E L_spec_l1Dec) (a0 : Int) : G E c_spec_l1Dec [] ⟨slotsOf [(0, .d (.int .i64 a0))], obsOf []⟩ = (spec_l1Dec_f L_spec_l1Dec E.n a0).bind fun r => some (.ret (.d (sD r)) []) := by
  simp (config := {maxSteps := 40000000}) only [↓rPre, rPost, rCan, rObj, rI, rS, rB, r8, rLI, rLit, rEtc, hy.p, hy.l, hy.k, hy.r, hy.d, hy.w, hy.f, flatIds, oid, r_spec_l1Dec, ↓G_unf _ _ c_spec_l1Dec.eq_1, h_spec_l1Dec.2, h_spec_l1Dec.1, bind_ite, spec_l1Dec_f, rRow5, rVerdict, rRow43, rRow9, rRow3, rMap70, rMap75, rLog, ↓reduceIte, Nat.reduceMul, Nat.reduceAdd, Nat.reduceSub, Nat.reduceEqDiff, Nat.reduceBEq, Nat.reduceLeDiff, Nat.reduceLT, reduceCtorEq, Int.reduceAdd, Int.reduceSub, Int.reduceToNat, Int.reduceNeg, Int.reduceEq, Int.reduceLT, Int.reduceLE]
-- loop.example/s02135/spec.l6Word
def c_spec_l6Word : Cd :=
  sq (r [1] [o 1 .box [t 0], o 2 .mv [s []]])
  (sq (sq (r [1, 5] [o 3 (.fa 0) [t 1], o 4 (.ld none) [t 3], o 5 (.bin .eql) [t 4, i 3]])
    (.cond (t 5) (sq (r [2] [o 6 (.fa 1) [t 1], o 7 (.ld none) [t 6], o 8 (.call 19) [t 7], o 9 (.bin .add) [s [101, 114, 114, 111, 114, 32], t 8], o 2 .mv [t 9]])
      (.ret)) (.skip)))
   (sq (r [2] [o 10 (lit 9 1 5) [s [112, 97, 115, 115], s [102, 97, 105, 108], s [], s [102, 117, 101, 108], s [99, 101, 108, 108, 115]], o 11 (.fa 0) [t 1], o 12 (.ld none) [t 11], o 13 (.bin .sub) [t 12, i 1], o 14 (.ia 1) [t 10, t 13], o 15 (.ld none) [t 14], o 2 .mv [t 15]])
    (.ret)))
def r_spec_l6Word : List RV := [.tmp 2]
def spec_l6Word_f (L_spec_l1Dec : Int → Option (List UInt8)) (N : Nat) (a0_Kind : Int) (a0_Code : Int) : Option (List UInt8) :=
  if a0_Kind = 3 then ((L_spec_l1Dec a0_Code).bind fun y0 =>
   if roomS (List.length y0 + 1 + 1 + 1 + 1 + 1 + 1) then some (101 :: 114 :: 114 :: 111 :: 114 :: 32 :: y0)
   else none)
  else (if 0 ≤ w64 (a0_Kind - 1) ∧ w64 (a0_Kind - 1) < 5 then (if Int.toNat (w64 (a0_Kind - 1)) = 0 then some ([112, 97, 115, 115])
    else (if Int.toNat (w64 (a0_Kind - 1)) = 1 then some ([102, 97, 105, 108])
     else (if Int.toNat (w64 (a0_Kind - 1)) = 2 then some []
      else (if Int.toNat (w64 (a0_Kind - 1)) = 3 then some ([102, 117, 101, 108])
       else (if Int.toNat (w64 (a0_Kind - 1)) = 4 then some ([99, 101, 108, 108, 115])
        else none)))))
   else none)
theorem spec_l6Word_g (E : En) (hy : Hy E [] [] [] r_spec_l6Word none (fun y => nocap y) flatIds) (L_spec_l1Dec : Int → Option (List UInt8)) (h_spec_l1Dec : H_spec_l1Dec E L_spec_l1Dec) (a0_Kind : Int) (a0_Code : Int) : G E c_spec_l6Word [] ⟨slotsOf [(0, .agg [.d (.int .i64 a0_Kind), .d (.int .i64 a0_Code)])], obsOf []⟩ = (spec_l6Word_f L_spec_l1Dec E.n a0_Kind a0_Code).bind fun r => some (.ret (.d (sD r)) []) := by
  simp (config := {maxSteps := 40000000}) only [↓rPre, rPost, rCan, rObj, rI, rS, rB, r8, rLI, rLit, rEtc, hy.p, hy.l, hy.k, hy.r, hy.d, hy.w, hy.f, flatIds, oid, r_spec_l6Word, ↓G_unf _ _ c_spec_l6Word.eq_1, h_spec_l1Dec.2, h_spec_l1Dec.1, bind_ite, spec_l6Word_f, rRow5, rVerdict, rRow43, rRow9, rRow3, rMap70, rMap75, rLog, ↓reduceIte, Nat.reduceMul, Nat.reduceAdd, Nat.reduceSub, Nat.reduceEqDiff, Nat.reduceBEq, Nat.reduceLeDiff, Nat.reduceLT, reduceCtorEq, Int.reduceAdd, Int.reduceSub, Int.reduceToNat, Int.reduceNeg, Int.reduceEq, Int.reduceLT, Int.reduceLE]
def H_spec_l6Word (E : En) (L : Int → Int → Option (List UInt8)) : Prop := E.Γ.mu 29 = false ∧ (∀ (a0_Kind : Int) (a0_Code : Int), E.Γ 29 [.agg [.d (.int .i64 a0_Kind), .d (.int .i64 a0_Code)]] = (L a0_Kind a0_Code).bind fun r => some (.ret (.d (sD r)) []))
-- loop.example/s02135/spec.l2Bool
def c_spec_l2Bool : Cd :=
  sq (r [0] [o 2 .mv [i 0]])
  (sq (sq (r [3] [o 3 .mv [t 0]])
    (.cond (t 3) (sq (r [2] [o 2 .mv [i 1]])
      (.ret)) (.skip)))
   (sq (r [2] [o 2 .mv [i 0]])
    (.ret)))
def r_spec_l2Bool : List RV := [.tmp 2]
def spec_l2Bool_f (N : Nat) (a0 : Bool) : Option (Int) :=
  if a0 = true then some 1
  else some 0
theorem spec_l2Bool_g (E : En) (hy : Hy E [] [] [] r_spec_l2Bool none (fun y => nocap y) flatIds) (a0 : Bool) : G E c_spec_l2Bool [] ⟨slotsOf [(0, .d (.bool a0))], obsOf []⟩ = (spec_l2Bool_f E.n a0).bind fun r => some (.ret (.d (.int .i64 r)) []) := by
  simp (config := {maxSteps := 40000000}) only [↓rPre, rPost, rCan, rObj, rI, rS, rB, r8, rLI, rLit, rEtc, hy.p, hy.l, hy.k, hy.r, hy.d, hy.w, hy.f, flatIds, oid, r_spec_l2Bool, ↓G_unf _ _ c_spec_l2Bool.eq_1, bind_ite, spec_l2Bool_f, rRow5, rVerdict, rRow43, rRow9, rRow3, rMap70, rMap75, rLog, ↓reduceIte, Nat.reduceMul, Nat.reduceAdd, Nat.reduceSub, Nat.reduceEqDiff, Nat.reduceBEq, Nat.reduceLeDiff, Nat.reduceLT, reduceCtorEq, Int.reduceAdd, Int.reduceSub, Int.reduceToNat, Int.reduceNeg, Int.reduceEq, Int.reduceLT, Int.reduceLE]
def H_spec_l2Bool (E : En) (L : Bool → Option (Int)) : Prop := E.Γ.mu 15 = false ∧ (∀ (a0 : Bool), E.Γ 15 [.d (.bool a0)] = (L a0).bind fun r => some (.ret (.d (.int .i64 r)) []))
-- loop.example/s02135/spec.Report
def b0_spec_Report : Cd :=
  sq (sq (r [1, 6, 7, 8, 23] [o 20 .mv [t 8], o 21 .mv [t 1], o 22 (.len false) [t 21], o 23 (.bin .lss) [t 20, t 22]])
   (.cond (t 23) (.skip) (.exit 0)))
  (sq (.block 1 (sq (rd [] [1, 6, 7, 8] [o 26 .mv [t 6], o 27 (.bin .add) [t 26, s [116, 101, 115, 116, 32]], o 28 .mv [t 8], o 29 (.bin .add) [t 28, i 1], o 33 .mv [t 1], o 34 .mv [t 8], o 35 (.ia 2) [t 33, t 34], o 36 (.ld (some 2)) [t 35], ap [] false [33, 34, 35] (o 30 (.call 19) [t 29]), o 31 (.bin .add) [t 27, t 30], o 32 (.bin .add) [t 31, s [32]], o 37 (.call 29) [t 36], o 38 (.bin .add) [t 32, t 37], o 39 (.bin .add) [t 38, s [10]], o 6 .mv [t 39]])
     (r [1, 6, 7, 8] [o 40 .mv [t 7], o 41 .mv [t 1], o 42 .mv [t 8], o 43 (.ia 2) [t 41, t 42], o 44 (.fa 0) [t 43], o 45 (.ld none) [t 44], o 46 (.bin .eql) [t 45, i 1], o 47 (.call 15) [t 46], o 48 (.bin .add) [t 40, t 47], o 7 .mv [t 48]])))
   (r [1, 6, 7, 8] [o 24 .mv [t 8], o 25 (.bin .add) [t 24, i 1], o 8 .mv [t 25]]))
def k1_spec_Report : Cd :=
  sq (r [4, 5] [o 49 .mv [t 6], o 50 (.bin .add) [t 49, s [112, 97, 115, 115, 101, 100, 32]], o 51 .mv [t 7], o 52 (.call 19) [t 51], o 53 (.bin .add) [t 50, t 52], o 54 (.bin .add) [t 53, s [32, 111, 102, 32]], o 55 .mv [t 1], o 56 (.len false) [t 55], o 57 (.call 19) [t 56], o 58 (.bin .add) [t 54, t 57], o 59 (.bin .add) [t 58, s [10]], o 4 .mv [t 59], o 5 .mv [b true]])
  (.ret)
def c_spec_Report : Cd :=
  sq (r [0, 1] [o 4 .mv [s []], o 5 .mv [b false]])
  (sq (sq (r [0, 1, 16] [o 9 .mv [t 0], o 10 (.call 27) [t 9], o 11 .not [t 10], o 12 .mv [t 11], g 12 false 13 .mv [t 1], g 12 false 14 (.call 28) [t 13], g 12 false 15 .not [t 14], o 16 .pick [t 12, b true, t 15]])
    (.cond (t 16) (sq (r [4, 5] [o 4 .mv [s []], o 5 .mv [b false]])
      (.ret)) (.skip)))
   (sq (r [1, 6] [o 17 .mv [t 0], o 18 (.bin .add) [s [115, 116, 117, 100, 101, 110, 116, 32], t 17], o 19 (.bin .add) [t 18, s [10]], o 6 .mv [t 19]])
    (sq (r [1, 6, 7] [o 7 .mv [i 0]])
     (sq (sq (r [1, 6, 7, 8] [o 8 .mv [i 0]])
       (.block 0 (.loop [1, 6, 7, 8] b0_spec_Report))) k1_spec_Report))))
def r_spec_Report : List RV := [.tmp 4, .tmp 5]
def spec_Report_l0 (L_spec_l6IdOk : (List UInt8) → Option (Bool)) (L_spec_l6VerdictsOk : (List TVerdict) → Option (Bool)) (L_spec_l1Dec : Int → Option (List UInt8)) (L_spec_l6Word : Int → Int → Option (List UInt8)) (L_spec_l2Bool : Bool → Option (Int)) : Nat → (List TVerdict) → (List UInt8) → Int → Int → Option (List UInt8 × Bool)
  | 0, _, _, _, _ => none
  | m0 + 1, x1, x6, x7, x8 =>
    if x8 < (↑(List.length x1) : Int) then (if roomS (List.length (x6 ++ [116, 101, 115, 116, 32])) then ((idx x1 x8).bind fun y0 =>
      (L_spec_l1Dec (w64 (x8 + 1))).bind fun y1 =>
      if roomS (List.length (x6 ++ [116, 101, 115, 116, 32] ++ y1)) then (if roomS (List.length (x6 ++ [116, 101, 115, 116, 32] ++ y1 ++ [32])) then ((L_spec_l6Word y0.Kind y0.Code).bind fun y2 =>
        if roomS (List.length (x6 ++ [116, 101, 115, 116, 32] ++ y1 ++ [32] ++ y2)) then (if roomS (List.length (x6 ++ [116, 101, 115, 116, 32] ++ y1 ++ [32] ++ y2 ++ [10])) then ((idx x1 x8).bind fun y3 =>
          (L_spec_l2Bool (Decidable.decide (y3.Kind = 1))).bind fun y4 =>
          spec_Report_l0 L_spec_l6IdOk L_spec_l6VerdictsOk L_spec_l1Dec L_spec_l6Word L_spec_l2Bool m0 x1 (x6 ++ [116, 101, 115, 116, 32] ++ y1 ++ [32] ++ y2 ++ [10]) (w64 (x7 + y4)) (w64 (x8 + 1)))
         else none)
        else none)
       else none)
      else none)
     else none)
    else (if roomS (List.length (x6 ++ [112, 97, 115, 115, 101, 100, 32])) then ((L_spec_l1Dec x7).bind fun y5 =>
      if roomS (List.length (x6 ++ [112, 97, 115, 115, 101, 100, 32] ++ y5)) then (if roomS (List.length (x6 ++ [112, 97, 115, 115, 101, 100, 32] ++ y5 ++ [32, 111, 102, 32])) then ((L_spec_l1Dec (↑(List.length x1) : Int)).bind fun y6 =>
        if roomS (List.length (x6 ++ [112, 97, 115, 115, 101, 100, 32] ++ y5 ++ [32, 111, 102, 32] ++ y6)) then (if roomS (List.length (x6 ++ [112, 97, 115, 115, 101, 100, 32] ++ y5 ++ [32, 111, 102, 32] ++ y6 ++ [10])) then some ((x6 ++ [112, 97, 115, 115, 101, 100, 32] ++ y5 ++ [32, 111, 102, 32] ++ y6 ++ [10], true))
         else none)
        else none)
       else none)
      else none)
     else none)
def spec_Report_f (L_spec_l6IdOk : (List UInt8) → Option (Bool)) (L_spec_l6VerdictsOk : (List TVerdict) → Option (Bool)) (L_spec_l1Dec : Int → Option (List UInt8)) (L_spec_l6Word : Int → Int → Option (List UInt8)) (L_spec_l2Bool : Bool → Option (Int)) (N : Nat) (a0 : List UInt8) (a1 : List TVerdict) : Option (List UInt8 × Bool) :=
  (L_spec_l6IdOk a0).bind fun y0 =>
  if y0 = false then some (([], false))
  else ((L_spec_l6VerdictsOk a1).bind fun y1 =>
   if y1 = false then some (([], false))
   else (if roomS (List.length a0 + 1 + 1 + 1 + 1 + 1 + 1 + 1 + 1) then (if roomS (List.length (a0 ++ [10]) + 1 + 1 + 1 + 1 + 1 + 1 + 1 + 1) then spec_Report_l0 L_spec_l6IdOk L_spec_l6VerdictsOk L_spec_l1Dec L_spec_l6Word L_spec_l2Bool N a1 (115 :: 116 :: 117 :: 100 :: 101 :: 110 :: 116 :: 32 :: (a0 ++ [10])) 0 0
     else none)
    else none))
theorem spec_Report_l0_eq (E : En) (hy : Hy E [] [] [] r_spec_Report none (fun y => nocap y) flatIds) (L_spec_l6IdOk : (List UInt8) → Option (Bool)) (h_spec_l6IdOk : H_spec_l6IdOk E L_spec_l6IdOk) (L_spec_l6VerdictsOk : (List TVerdict) → Option (Bool)) (h_spec_l6VerdictsOk : H_spec_l6VerdictsOk E L_spec_l6VerdictsOk) (L_spec_l1Dec : Int → Option (List UInt8)) (h_spec_l1Dec : H_spec_l1Dec E L_spec_l1Dec) (L_spec_l6Word : Int → Int → Option (List UInt8)) (h_spec_l6Word : H_spec_l6Word E L_spec_l6Word) (L_spec_l2Bool : Bool → Option (Int)) (h_spec_l2Bool : H_spec_l2Bool E L_spec_l2Bool) : ∀ (m0 : Nat) (x1 : List TVerdict) (x6 : List UInt8) (x7 : Int) (x8 : Int), gH E [1, 6, 7, 8] b0_spec_Report [KJ.b 0, KJ.c k1_spec_Report] m0 ⟨slotsOf [(1, .d (lstT (cVerdict) x1)), (6, .d (sD x6)), (7, .d (.int .i64 x7)), (8, .d (.int .i64 x8))], obsOf []⟩ = (spec_Report_l0 L_spec_l6IdOk L_spec_l6VerdictsOk L_spec_l1Dec L_spec_l6Word L_spec_l2Bool m0 x1 x6 x7 x8).bind fun r => some (.ret (.tup [.d (sD r.1), .d (.bool r.2)]) []) := by
  intro m0
  induction m0 with
  | zero => intros; rfl
  | succ m0 ih =>
    intros
    simp (config := {maxSteps := 40000000}) only [↓rPre, rPost, rCan, rObj, rI, rS, rB, r8, rLI, rLit, rEtc, hy.p, hy.l, hy.k, hy.r, hy.d, hy.w, hy.f, flatIds, oid, r_spec_Report, ↓G_unf _ _ b0_spec_Report.eq_1, ↓G_unf _ _ k1_spec_Report.eq_1, ↓G_unf _ _ c_spec_Report.eq_1, h_spec_l6IdOk.2, h_spec_l6IdOk.1, h_spec_l6VerdictsOk.2, h_spec_l6VerdictsOk.1, h_spec_l1Dec.2, h_spec_l1Dec.1, h_spec_l6Word.2, h_spec_l6Word.1, h_spec_l2Bool.2, h_spec_l2Bool.1, gH_succ, ih, bind_ite, spec_Report_l0, rRow5, rVerdict, rRow43, rRow9, rRow3, rMap70, rMap75, rLog, ↓reduceIte, Nat.reduceMul, Nat.reduceAdd, Nat.reduceSub, Nat.reduceEqDiff, Nat.reduceBEq, Nat.reduceLeDiff, Nat.reduceLT, reduceCtorEq, Int.reduceAdd, Int.reduceSub, Int.reduceToNat, Int.reduceNeg, Int.reduceEq, Int.reduceLT, Int.reduceLE]
theorem spec_Report_g (E : En) (hy : Hy E [] [] [] r_spec_Report none (fun y => nocap y) flatIds) (L_spec_l6IdOk : (List UInt8) → Option (Bool)) (h_spec_l6IdOk : H_spec_l6IdOk E L_spec_l6IdOk) (L_spec_l6VerdictsOk : (List TVerdict) → Option (Bool)) (h_spec_l6VerdictsOk : H_spec_l6VerdictsOk E L_spec_l6VerdictsOk) (L_spec_l1Dec : Int → Option (List UInt8)) (h_spec_l1Dec : H_spec_l1Dec E L_spec_l1Dec) (L_spec_l6Word : Int → Int → Option (List UInt8)) (h_spec_l6Word : H_spec_l6Word E L_spec_l6Word) (L_spec_l2Bool : Bool → Option (Int)) (h_spec_l2Bool : H_spec_l2Bool E L_spec_l2Bool) (a0 : List UInt8) (a1 : List TVerdict) : G E c_spec_Report [] ⟨slotsOf [(0, .d (sD a0)), (1, .d (lstT cVerdict a1))], obsOf []⟩ = (spec_Report_f L_spec_l6IdOk L_spec_l6VerdictsOk L_spec_l1Dec L_spec_l6Word L_spec_l2Bool E.n a0 a1).bind fun r => some (.ret (.tup [.d (sD r.1), .d (.bool r.2)]) []) := by
  simp (config := {maxSteps := 40000000}) only [↓rPre, rPost, rCan, rObj, rI, rS, rB, r8, rLI, rLit, rEtc, hy.p, hy.l, hy.k, hy.r, hy.d, hy.w, hy.f, flatIds, oid, r_spec_Report, ↓G_unf _ _ b0_spec_Report.eq_1, ↓G_unf _ _ k1_spec_Report.eq_1, ↓G_unf _ _ c_spec_Report.eq_1, h_spec_l6IdOk.2, h_spec_l6IdOk.1, h_spec_l6VerdictsOk.2, h_spec_l6VerdictsOk.1, h_spec_l1Dec.2, h_spec_l1Dec.1, h_spec_l6Word.2, h_spec_l6Word.1, h_spec_l2Bool.2, h_spec_l2Bool.1, bind_ite, spec_Report_f, spec_Report_l0_eq E hy L_spec_l6IdOk h_spec_l6IdOk L_spec_l6VerdictsOk h_spec_l6VerdictsOk L_spec_l1Dec h_spec_l1Dec L_spec_l6Word h_spec_l6Word L_spec_l2Bool h_spec_l2Bool, rRow5, rVerdict, rRow43, rRow9, rRow3, rMap70, rMap75, rLog, ↓reduceIte, Nat.reduceMul, Nat.reduceAdd, Nat.reduceSub, Nat.reduceEqDiff, Nat.reduceBEq, Nat.reduceLeDiff, Nat.reduceLT, reduceCtorEq, Int.reduceAdd, Int.reduceSub, Int.reduceToNat, Int.reduceNeg, Int.reduceEq, Int.reduceLT, Int.reduceLE]
def H_spec_Report (E : En) (L : (List UInt8) → (List TVerdict) → Option (List UInt8 × Bool)) : Prop := E.Γ.mu 8 = false ∧ (∀ (a0 : List UInt8) (a1 : List TVerdict), E.Γ 8 [.d (sD a0), .d (lstT cVerdict a1)] = (L a0 a1).bind fun r => some (.ret (.tup [.d (sD r.1), .d (.bool r.2)]) []))
-- loop.example/s02135/spec.DrawReadReport
def c_spec_DrawReadReport : Cd :=
  sq (r [0] [o 2 .mv [s []]])
  (sq (r [3] [o 8 .mv [t 0], o 9 (.call 11) [t 8], o 3 .mv [t 9]])
   (sq (r [3, 4] [o 10 .mv [t 3], o 11 (.call 12) [t 10], o 4 .mv [t 11]])
    (sq (r [3, 4, 5] [o 13 .mv [t 3], o 14 (.call 13) [t 13], o 15 .mv [t 3], o 16 (.call 14) [t 15], o 17 (.call 8) [t 14, t 16], o 12 .mv [t 17], o 18 (.ext 0) [t 12], o 19 (.ext 1) [t 12], o 5 .mv [t 18], o 6 .mv [t 19]])
     (sq (sq (r [3, 4, 5, 22] [o 20 .mv [t 4], o 21 (.bin .rem) [t 20, i 3], o 22 (.bin .eql) [t 21, i 2]])
       (.cond (t 22) (sq (r [4, 5, 7] [o 23 .mv [t 3], o 24 (.call 12) [t 23], o 25 .mv [t 5], o 26 (.len true) [t 25], o 27 (.bin .add) [t 26, i 1], o 28 (.bin .rem) [t 24, t 27], o 7 .mv [t 28]])
         (sq (rd [] [2] [ap [2048] false [] (o 29 .mv [t 5]), ap [2048] false [] (o 30 .mv [t 7]), ap [2048] false [] (o 31 (.slc true 1 false true) [t 29, t 30]), ap [2048] false [] (o 33 .mv [t 4]), ap [2048] false [] (o 34 (.bin .quo) [t 33, i 3]), ap [2048] false [] (o 35 (.bin .rem) [t 34, i 5]), ap [2048] false [] (o 39 .mv [t 5]), ap [2048] false [] (o 40 .mv [t 7]), ap [2048] false [] (o 41 .mv [t 5]), ap [2048] false [] (o 42 (.len true) [t 41]), ap [2048] false [] (o 43 .mv [t 7]), ap [2048] false [] (o 44 (.bin .sub) [t 42, t 43]), ap [2048] false [] (o 45 (.bin .mul) [t 44, i 0]), ap [2048] false [] (o 46 (.bin .add) [t 40, t 45]), ap [2048] false [] (o 47 .mv [t 7]), ap [2048] false [] (o 48 .mv [t 5]), ap [2048] false [] (o 49 (.len true) [t 48]), ap [2048] false [] (o 50 (.bin .lss) [t 47, t 49]), ap [] true [29, 30, 41, 48, 39, 52] (o 32 (lit 9 1 5) [s [], s [32], s [10], s [48], s [120]]), o 36 (.ia 1) [t 32, t 35], o 37 (.ld none) [t 36], o 38 (.bin .add) [t 31, t 37], ap [2048] false [29, 30, 32, 35, 36, 41] (o 51 (.call 15) [t 50]), ap [2048] false [] (o 52 (.bin .add) [t 46, t 51]), ap [2048] false [] (o 53 (.slc true 1 true false) [t 39, t 52]), o 54 (.bin .add) [t 38, t 53], o 2 .mv [t 54]])
          (.ret))) (.skip)))
      (sq (r [2] [o 55 .mv [t 5], o 2 .mv [t 55]])
       (.ret))))))
def r_spec_DrawReadReport : List RV := [.tmp 2]
def spec_DrawReadReport_f (L_spec_l1Open : (List Int) → Option (List Int × Int)) (L___spec_l1Rd__next : (List Int) → Int → Option (Int × List Int × Int)) (L_spec_l6Id : (List Int) → Int → Option (List UInt8 × List Int × Int)) (L_spec_l6Verdicts : (List Int) → Int → Option (List TVerdict × List Int × Int)) (L_spec_Report : (List UInt8) → (List TVerdict) → Option (List UInt8 × Bool)) (L_spec_l2Bool : Bool → Option (Int)) (N : Nat) (a0 : List Int) : Option (List UInt8) :=
  (L_spec_l1Open a0).bind fun y0 =>
  (L___spec_l1Rd__next y0.fst y0.snd).bind fun y1 =>
  (L_spec_l6Id y1.snd.fst y1.snd.snd).bind fun y2 =>
  (L_spec_l6Verdicts y2.snd.fst y2.snd.snd).bind fun y3 =>
  (L_spec_Report y2.fst y3.fst).bind fun y4 =>
  if Int.tmod y1.fst 3 = 2 then ((L___spec_l1Rd__next y3.snd.fst y3.snd.snd).bind fun y5 =>
   if w64 ((↑(List.length y4.fst) : Int) + 1) = 0 then none
   else ((cut y4.fst 0 (Int.tmod y5.fst (w64 ((↑(List.length y4.fst) : Int) + 1)))).bind fun y6 =>
    if 0 ≤ Int.tmod (w64 (Int.tdiv y1.fst 3)) 5 ∧ Int.tmod (w64 (Int.tdiv y1.fst 3)) 5 < 5 then (if Int.toNat (Int.tmod (w64 (Int.tdiv y1.fst 3)) 5) = 0 then (if roomS (List.length y6) then ((L_spec_l2Bool (Decidable.decide (Int.tmod y5.fst (w64 ((↑(List.length y4.fst) : Int) + 1)) < (↑(List.length y4.fst) : Int)))).bind fun y7 =>
       (cut y4.fst (w64 (w64 (Int.tmod y5.fst (w64 ((↑(List.length y4.fst) : Int) + 1)) + w64 (w64 ((↑(List.length y4.fst) : Int) - Int.tmod y5.fst (w64 ((↑(List.length y4.fst) : Int) + 1))) * 0)) + y7)) (↑(List.length y4.fst) : Int)).bind fun y8 =>
       if roomS (List.length (y6 ++ y8)) then some (y6 ++ y8)
       else none)
      else none)
     else (if Int.toNat (Int.tmod (w64 (Int.tdiv y1.fst 3)) 5) = 1 then (if roomS (List.length (y6 ++ [32])) then ((L_spec_l2Bool (Decidable.decide (Int.tmod y5.fst (w64 ((↑(List.length y4.fst) : Int) + 1)) < (↑(List.length y4.fst) : Int)))).bind fun y9 =>
        (cut y4.fst (w64 (w64 (Int.tmod y5.fst (w64 ((↑(List.length y4.fst) : Int) + 1)) + w64 (w64 ((↑(List.length y4.fst) : Int) - Int.tmod y5.fst (w64 ((↑(List.length y4.fst) : Int) + 1))) * 0)) + y9)) (↑(List.length y4.fst) : Int)).bind fun y10 =>
        if roomS (List.length (y6 ++ [32] ++ y10)) then some (y6 ++ [32] ++ y10)
        else none)
       else none)
      else (if Int.toNat (Int.tmod (w64 (Int.tdiv y1.fst 3)) 5) = 2 then (if roomS (List.length (y6 ++ [10])) then ((L_spec_l2Bool (Decidable.decide (Int.tmod y5.fst (w64 ((↑(List.length y4.fst) : Int) + 1)) < (↑(List.length y4.fst) : Int)))).bind fun y11 =>
         (cut y4.fst (w64 (w64 (Int.tmod y5.fst (w64 ((↑(List.length y4.fst) : Int) + 1)) + w64 (w64 ((↑(List.length y4.fst) : Int) - Int.tmod y5.fst (w64 ((↑(List.length y4.fst) : Int) + 1))) * 0)) + y11)) (↑(List.length y4.fst) : Int)).bind fun y12 =>
         if roomS (List.length (y6 ++ [10] ++ y12)) then some (y6 ++ [10] ++ y12)
         else none)
        else none)
       else (if Int.toNat (Int.tmod (w64 (Int.tdiv y1.fst 3)) 5) = 3 then (if roomS (List.length (y6 ++ [48])) then ((L_spec_l2Bool (Decidable.decide (Int.tmod y5.fst (w64 ((↑(List.length y4.fst) : Int) + 1)) < (↑(List.length y4.fst) : Int)))).bind fun y13 =>
          (cut y4.fst (w64 (w64 (Int.tmod y5.fst (w64 ((↑(List.length y4.fst) : Int) + 1)) + w64 (w64 ((↑(List.length y4.fst) : Int) - Int.tmod y5.fst (w64 ((↑(List.length y4.fst) : Int) + 1))) * 0)) + y13)) (↑(List.length y4.fst) : Int)).bind fun y14 =>
          if roomS (List.length (y6 ++ [48] ++ y14)) then some (y6 ++ [48] ++ y14)
          else none)
         else none)
        else (if Int.toNat (Int.tmod (w64 (Int.tdiv y1.fst 3)) 5) = 4 then (if roomS (List.length (y6 ++ [120])) then ((L_spec_l2Bool (Decidable.decide (Int.tmod y5.fst (w64 ((↑(List.length y4.fst) : Int) + 1)) < (↑(List.length y4.fst) : Int)))).bind fun y15 =>
           (cut y4.fst (w64 (w64 (Int.tmod y5.fst (w64 ((↑(List.length y4.fst) : Int) + 1)) + w64 (w64 ((↑(List.length y4.fst) : Int) - Int.tmod y5.fst (w64 ((↑(List.length y4.fst) : Int) + 1))) * 0)) + y15)) (↑(List.length y4.fst) : Int)).bind fun y16 =>
           if roomS (List.length (y6 ++ [120] ++ y16)) then some (y6 ++ [120] ++ y16)
           else none)
          else none)
         else none)))))
    else none))
  else some y4.fst
theorem spec_DrawReadReport_g (E : En) (hy : Hy E [] [] [] r_spec_DrawReadReport none (fun y => nocap y) flatIds) (L_spec_l1Open : (List Int) → Option (List Int × Int)) (h_spec_l1Open : H_spec_l1Open E L_spec_l1Open) (L___spec_l1Rd__next : (List Int) → Int → Option (Int × List Int × Int)) (h___spec_l1Rd__next : H___spec_l1Rd__next E L___spec_l1Rd__next) (L_spec_l6Id : (List Int) → Int → Option (List UInt8 × List Int × Int)) (h_spec_l6Id : H_spec_l6Id E L_spec_l6Id) (L_spec_l6Verdicts : (List Int) → Int → Option (List TVerdict × List Int × Int)) (h_spec_l6Verdicts : H_spec_l6Verdicts E L_spec_l6Verdicts) (L_spec_Report : (List UInt8) → (List TVerdict) → Option (List UInt8 × Bool)) (h_spec_Report : H_spec_Report E L_spec_Report) (L_spec_l2Bool : Bool → Option (Int)) (h_spec_l2Bool : H_spec_l2Bool E L_spec_l2Bool) (a0 : List Int) : G E c_spec_DrawReadReport [] ⟨slotsOf [(0, .d (lstT c8 a0))], obsOf []⟩ = (spec_DrawReadReport_f L_spec_l1Open L___spec_l1Rd__next L_spec_l6Id L_spec_l6Verdicts L_spec_Report L_spec_l2Bool E.n a0).bind fun r => some (.ret (.d (sD r)) []) := by
  simp (config := {maxSteps := 40000000}) only [↓rPre, rPost, rCan, rObj, rI, rS, rB, r8, rLI, rLit, rEtc, hy.p, hy.l, hy.k, hy.r, hy.d, hy.w, hy.f, flatIds, oid, r_spec_DrawReadReport, ↓G_unf _ _ c_spec_DrawReadReport.eq_1, h_spec_l1Open.2, h_spec_l1Open.1, h___spec_l1Rd__next.2, h___spec_l1Rd__next.1, h_spec_l6Id.2, h_spec_l6Id.1, h_spec_l6Verdicts.2, h_spec_l6Verdicts.1, h_spec_Report.2, h_spec_Report.1, h_spec_l2Bool.2, h_spec_l2Bool.1, bind_ite, spec_DrawReadReport_f, rRow5, rVerdict, rRow43, rRow9, rRow3, rMap70, rMap75, rLog, ↓reduceIte, Nat.reduceMul, Nat.reduceAdd, Nat.reduceSub, Nat.reduceEqDiff, Nat.reduceBEq, Nat.reduceLeDiff, Nat.reduceLT, reduceCtorEq, Int.reduceAdd, Int.reduceSub, Int.reduceToNat, Int.reduceNeg, Int.reduceEq, Int.reduceLT, Int.reduceLE]
def H_spec_DrawReadReport (E : En) (L : (List Int) → Option (List UInt8)) : Prop := E.Γ.mu 4 = false ∧ (∀ (a0 : List Int), E.Γ 4 [.d (lstT c8 a0)] = (L a0).bind fun r => some (.ret (.d (sD r)) []))
-- loop.example/s02135/spec.l1Cut
def b0_spec_l1Cut : Cd :=
  sq (sq (r [0, 1, 5, 6, 7, 12] [o 9 .mv [t 7], o 10 .mv [t 0], o 11 (.len true) [t 10], o 12 (.bin .leq) [t 9, t 11]])
   (.cond (t 12) (.skip) (.exit 0)))
  (sq (.block 1 (sq (r [0, 1, 5, 6, 7, 25] [o 15 .mv [t 7], o 16 .mv [t 0], o 17 (.len true) [t 16], o 18 (.bin .eql) [t 15, t 17], o 19 .mv [t 18], g 19 false 20 .mv [t 0], g 19 false 21 .mv [t 7], g 19 false 22 .ixs [t 20, t 21], g 19 false 23 .mv [t 1], g 19 false 24 (.bin .eql) [t 22, t 23], o 25 .pick [t 19, b true, t 24]])
     (.cond (t 25) (sq (r [0, 1, 5, 7] [o 26 .mv [t 5], o 27 .mv [t 0], o 28 .mv [t 6], o 29 .mv [t 7], o 30 (.slc true 1 true true) [t 27, t 28, t 29], o 31 (lit 9 1 1) [t 30], o 32 (.app 9 1 16) [t 26, t 31], o 5 .mv [t 32]])
       (r [0, 1, 5, 6, 7] [o 33 .mv [t 7], o 34 (.bin .add) [t 33, i 1], o 6 .mv [t 34]])) (.skip))))
   (r [0, 1, 5, 6, 7] [o 13 .mv [t 7], o 14 (.bin .add) [t 13, i 1], o 7 .mv [t 14]]))
def k1_spec_l1Cut : Cd :=
  sq (r [4] [o 35 .mv [t 5], o 4 .mv [t 35]])
  (.ret)
def c_spec_l1Cut : Cd :=
  sq (r [0, 1] [o 4 .mv [n]])
  (sq (r [0, 1, 5] [o 8 (lit 9 1 0) [], o 5 .mv [t 8]])
   (sq (r [0, 1, 5, 6] [o 6 .mv [i 0]])
    (sq (sq (r [0, 1, 5, 6, 7] [o 7 .mv [i 0]])
      (.block 0 (.loop [0, 1, 5, 6, 7] b0_spec_l1Cut))) k1_spec_l1Cut)))
def r_spec_l1Cut : List RV := [.tmp 4]
def spec_l1Cut_l0 : Nat → (List UInt8) → Int → Int → Int → (List (List UInt8)) → Option (List (List UInt8))
  | 0, _, _, _, _, _ => none
  | m0 + 1, x0, x1, x6, x7, o320 =>
    if x7 ≤ (↑(List.length x0) : Int) then (if x7 = (↑(List.length x0) : Int) then ((cut x0 x6 x7).bind fun y0 =>
      if room 16 (List.length (o320 ++ [y0])) then spec_l1Cut_l0 m0 x0 x1 (w64 (x7 + 1)) (w64 (x7 + 1)) (o320 ++ [y0])
      else none)
     else ((idxB x0 x7).bind fun y1 =>
      if y1 = x1 then ((cut x0 x6 x7).bind fun y2 =>
       if room 16 (List.length (o320 ++ [y2])) then spec_l1Cut_l0 m0 x0 x1 (w64 (x7 + 1)) (w64 (x7 + 1)) (o320 ++ [y2])
       else none)
      else spec_l1Cut_l0 m0 x0 x1 x6 (w64 (x7 + 1)) o320))
    else some o320
def spec_l1Cut_f (N : Nat) (a0 : List UInt8) (a1 : Int) : Option (List (List UInt8)) :=
  spec_l1Cut_l0 N a0 a1 0 0 []
theorem spec_l1Cut_l0_eq (E : En) (hy : Hy E [] [] [] r_spec_l1Cut none (fun y => nocap y) flatIds) : ∀ (m0 : Nat) (x0 : List UInt8) (x1 : Int) (x6 : Int) (x7 : Int) (o320 : List (List UInt8)), gH E [0, 1, 5, 6, 7] b0_spec_l1Cut [KJ.b 0, KJ.c k1_spec_l1Cut] m0 ⟨slotsOf [(0, .d (sD x0)), (1, .d (.int .u8 x1)), (5, A.row 320 1), (6, .d (.int .i64 x6)), (7, .d (.int .i64 x7))], obsOf [(320, ⟨1, rowT (cS) 9 none o320, false⟩)]⟩ = (spec_l1Cut_l0 m0 x0 x1 x6 x7 o320).bind fun r => some (.ret (ownT (cS) 9 none false r) []) := by
  intro m0
  induction m0 with
  | zero => intros; rfl
  | succ m0 ih =>
    intros
    simp (config := {maxSteps := 40000000}) only [↓rPre, rPost, rCan, rObj, rI, rS, rB, r8, rLI, rLit, rEtc, hy.p, hy.l, hy.k, hy.r, hy.d, hy.w, hy.f, flatIds, oid, r_spec_l1Cut, ↓G_unf _ _ b0_spec_l1Cut.eq_1, ↓G_unf _ _ k1_spec_l1Cut.eq_1, ↓G_unf _ _ c_spec_l1Cut.eq_1, gH_succ, ih, bind_ite, spec_l1Cut_l0, rRow5, rVerdict, rRow43, rRow9, rRow3, rMap70, rMap75, rLog, ↓reduceIte, Nat.reduceMul, Nat.reduceAdd, Nat.reduceSub, Nat.reduceEqDiff, Nat.reduceBEq, Nat.reduceLeDiff, Nat.reduceLT, reduceCtorEq, Int.reduceAdd, Int.reduceSub, Int.reduceToNat, Int.reduceNeg, Int.reduceEq, Int.reduceLT, Int.reduceLE]
theorem spec_l1Cut_g (E : En) (hy : Hy E [] [] [] r_spec_l1Cut none (fun y => nocap y) flatIds) (a0 : List UInt8) (a1 : Int) : G E c_spec_l1Cut [] ⟨slotsOf [(0, .d (sD a0)), (1, .d (.int .u8 a1))], obsOf []⟩ = (spec_l1Cut_f E.n a0 a1).bind fun r => some (.ret (ownT (cS) 9 none false r) []) := by
  simp (config := {maxSteps := 40000000}) only [↓rPre, rPost, rCan, rObj, rI, rS, rB, r8, rLI, rLit, rEtc, hy.p, hy.l, hy.k, hy.r, hy.d, hy.w, hy.f, flatIds, oid, r_spec_l1Cut, ↓G_unf _ _ b0_spec_l1Cut.eq_1, ↓G_unf _ _ k1_spec_l1Cut.eq_1, ↓G_unf _ _ c_spec_l1Cut.eq_1, bind_ite, spec_l1Cut_f, spec_l1Cut_l0_eq E hy, rRow5, rVerdict, rRow43, rRow9, rRow3, rMap70, rMap75, rLog, ↓reduceIte, Nat.reduceMul, Nat.reduceAdd, Nat.reduceSub, Nat.reduceEqDiff, Nat.reduceBEq, Nat.reduceLeDiff, Nat.reduceLT, reduceCtorEq, Int.reduceAdd, Int.reduceSub, Int.reduceToNat, Int.reduceNeg, Int.reduceEq, Int.reduceLT, Int.reduceLE]
def H_spec_l1Cut (E : En) (L : (List UInt8) → Int → Option (List (List UInt8))) : Prop := E.Γ.mu 16 = false ∧ (∀ (a0 : List UInt8) (a1 : Int), E.Γ 16 [.d (sD a0), .d (.int .u8 a1)] = (L a0 a1).bind fun r => some (.ret (ownT (cS) 9 none false r) []))
-- loop.example/s02135/spec.l6After
def c_spec_l6After : Cd :=
  sq (r [0, 1] [o 4 .mv [s []]])
  (sq (sq (r [0, 1, 17] [o 5 .mv [t 0], o 6 (.len true) [t 5], o 7 .mv [t 1], o 8 (.len true) [t 7], o 9 (.bin .lss) [t 6, t 8], o 10 .mv [t 9], g 10 false 11 .mv [t 0], g 10 false 12 .mv [t 1], g 10 false 13 (.len true) [t 12], g 10 false 14 (.slc true 1 false true) [t 11, t 13], g 10 false 15 .mv [t 1], g 10 false 16 (.bin .neq) [t 14, t 15], o 17 .pick [t 10, b true, t 16]])
    (.cond (t 17) (sq (r [4] [o 4 .mv [s []]])
      (.ret)) (.skip)))
   (sq (r [4] [o 18 .mv [t 0], o 19 .mv [t 1], o 20 (.len true) [t 19], o 21 (.slc true 1 true false) [t 18, t 20], o 4 .mv [t 21]])
    (.ret)))
def r_spec_l6After : List RV := [.tmp 4]
def spec_l6After_f (N : Nat) (a0 : List UInt8) (a1 : List UInt8) : Option (List UInt8) :=
  if (↑(List.length a0) : Int) < (↑(List.length a1) : Int) then some []
  else ((cut a0 0 (↑(List.length a1) : Int)).bind fun y0 =>
   if y0 = a1 then ((cut a0 (↑(List.length a1) : Int) (↑(List.length a0) : Int)).bind fun y1 =>
    some y1)
   else some [])
theorem spec_l6After_g (E : En) (hy : Hy E [] [] [] r_spec_l6After none (fun y => nocap y) flatIds) (a0 : List UInt8) (a1 : List UInt8) : G E c_spec_l6After [] ⟨slotsOf [(0, .d (sD a0)), (1, .d (sD a1))], obsOf []⟩ = (spec_l6After_f E.n a0 a1).bind fun r => some (.ret (.d (sD r)) []) := by
  simp (config := {maxSteps := 40000000}) only [↓rPre, rPost, rCan, rObj, rI, rS, rB, r8, rLI, rLit, rEtc, hy.p, hy.l, hy.k, hy.r, hy.d, hy.w, hy.f, flatIds, oid, r_spec_l6After, ↓G_unf _ _ c_spec_l6After.eq_1, bind_ite, spec_l6After_f, rRow5, rVerdict, rRow43, rRow9, rRow3, rMap70, rMap75, rLog, ↓reduceIte, Nat.reduceMul, Nat.reduceAdd, Nat.reduceSub, Nat.reduceEqDiff, Nat.reduceBEq, Nat.reduceLeDiff, Nat.reduceLT, reduceCtorEq, Int.reduceAdd, Int.reduceSub, Int.reduceToNat, Int.reduceNeg, Int.reduceEq, Int.reduceLT, Int.reduceLE]
def H_spec_l6After (E : En) (L : (List UInt8) → (List UInt8) → Option (List UInt8)) : Prop := E.Γ.mu 17 = false ∧ (∀ (a0 : List UInt8) (a1 : List UInt8), E.Γ 17 [.d (sD a0), .d (sD a1)] = (L a0 a1).bind fun r => some (.ret (.d (sD r)) []))
-- loop.example/s02135/spec.l6Verdict
def b0_spec_l6Verdict : Cd :=
  sq (sq (r [0, 2, 3, 7] [o 6 .mv [t 3], o 7 (.bin .leq) [t 6, i 5]])
   (.cond (t 7) (.skip) (.exit 0)))
  (sq (.block 1 (sq (r [0, 2, 3, 18] [o 10 .mv [t 3], o 11 (.bin .neq) [t 10, i 3], o 12 .mv [t 11], g 12 true 13 .mv [t 0], g 12 true 14 .mv [t 3], g 12 true 15 (.bld [(.d (iD 0)), (.d (iD 0))] [(0, 1)]) [t 14], g 12 true 16 (.call 29) [t 15], g 12 true 17 (.bin .eql) [t 13, t 16], o 18 .pick [t 12, t 17, b false]])
     (.cond (t 18) (sq (r [2] [o 19 .mv [t 3], o 20 (.bld [(.d (iD 0)), (.d (iD 0))] [(0, 1)]) [t 19], e (.st 2) [t 2, t 20]])
       (.ret)) (.skip))))
   (r [0, 2, 3] [o 8 .mv [t 3], o 9 (.bin .add) [t 8, i 1], o 3 .mv [t 9]]))
def b1_spec_l6Verdict : Cd :=
  sq (sq (r [0, 2, 4, 22] [o 21 .mv [t 4], o 22 (.bin .leq) [t 21, i 99]])
   (.cond (t 22) (.skip) (.exit 2)))
  (sq (.block 3 (sq (r [0, 2, 4, 5] [o 25 .mv [t 4], o 26 (.bld [(.d (iD 0)), (.d (iD 0))] [(0, 1), (1, 1)]) [i 3, t 25], o 5 (.alloc [(.d (iD 0)), (.d (iD 0))]) [], e (.st 2) [t 5, t 26]])
     (sq (r [0, 2, 4, 5, 30] [o 27 .mv [t 0], o 28 (.ld (some 2)) [t 5], o 29 (.call 29) [t 28], o 30 (.bin .eql) [t 27, t 29]])
      (.cond (t 30) (sq (r [2] [o 31 (.ld (some 2)) [t 5], e (.st 2) [t 2, t 31]])
        (.ret)) (.skip)))))
   (r [0, 2, 4] [o 23 .mv [t 4], o 24 (.bin .add) [t 23, i 1], o 4 .mv [t 24]]))
def k2_spec_l6Verdict : Cd :=
  sq (r [2] [o 32 (.bld [(.d (iD 0)), (.d (iD 0))] []) [], e (.st 2) [t 2, t 32]])
  (.ret)
def k3_spec_l6Verdict : Cd :=
  sq (sq (r [0, 2, 4] [o 4 .mv [i 1]])
   (.block 2 (.loop [0, 2, 4] b1_spec_l6Verdict))) k2_spec_l6Verdict
def c_spec_l6Verdict : Cd :=
  sq (r [0, 2] [o 2 (.alloc [(.d (iD 0)), (.d (iD 0))]) []])
  (sq (sq (r [0, 2, 3] [o 3 .mv [i 1]])
    (.block 0 (.loop [0, 2, 3] b0_spec_l6Verdict))) k3_spec_l6Verdict)
def r_spec_l6Verdict : List RV := [.cell 2 (some 2)]
def spec_l6Verdict_l1 (L_spec_l6Word : Int → Int → Option (List UInt8)) : Nat → (List UInt8) → Int → Int → Int → Option (Int × Int)
  | 0, _, _, _, _ => none
  | m1 + 1, x0, x4, o128_0, o128_1 =>
    if x4 ≤ 99 then ((L_spec_l6Word 3 x4).bind fun y0 =>
     if x0 = y0 then some ((3, x4))
     else spec_l6Verdict_l1 L_spec_l6Word m1 x0 (w64 (x4 + 1)) o128_0 o128_1)
    else some ((0, 0))
def spec_l6Verdict_l0 (L_spec_l6Word : Int → Int → Option (List UInt8)) (N : Nat) : Nat → (List UInt8) → Int → Int → Int → Option (Int × Int)
  | 0, _, _, _, _ => none
  | m0 + 1, x0, x3, o128_0, o128_1 =>
    if x3 ≤ 5 then (if x3 = 3 then spec_l6Verdict_l0 L_spec_l6Word N m0 x0 (w64 (x3 + 1)) o128_0 o128_1
     else ((L_spec_l6Word x3 0).bind fun y0 =>
      if x0 = y0 then some ((x3, 0))
      else spec_l6Verdict_l0 L_spec_l6Word N m0 x0 (w64 (x3 + 1)) o128_0 o128_1))
    else spec_l6Verdict_l1 L_spec_l6Word N x0 1 o128_0 o128_1
def spec_l6Verdict_f (L_spec_l6Word : Int → Int → Option (List UInt8)) (N : Nat) (a0 : List UInt8) : Option (Int × Int) :=
  spec_l6Verdict_l0 L_spec_l6Word N N a0 1 0 0
theorem spec_l6Verdict_l1_eq (E : En) (hy : Hy E [] [] [] r_spec_l6Verdict none (fun y => nocap y) flatIds) (L_spec_l6Word : Int → Int → Option (List UInt8)) (h_spec_l6Word : H_spec_l6Word E L_spec_l6Word) : ∀ (m1 : Nat) (x0 : List UInt8) (x4 : Int) (o128_0 : Int) (o128_1 : Int), gH E [0, 2, 4] b1_spec_l6Verdict [KJ.b 2, KJ.c k2_spec_l6Verdict] m1 ⟨slotsOf [(0, .d (sD x0)), (2, A.adr 128 1 0), (4, .d (.int .i64 x4))], obsOf [(128, ⟨1, .box [.d (.int .i64 o128_0), .d (.int .i64 o128_1)], false⟩)]⟩ = (spec_l6Verdict_l1 L_spec_l6Word m1 x0 x4 o128_0 o128_1).bind fun r => some (.ret (.agg [.d (.int .i64 r.1), .d (.int .i64 r.2)]) []) := by
  intro m1
  induction m1 with
  | zero => intros; rfl
  | succ m1 ih =>
    intros
    simp (config := {maxSteps := 40000000}) only [↓rPre, rPost, rCan, rObj, rI, rS, rB, r8, rLI, rLit, rEtc, hy.p, hy.l, hy.k, hy.r, hy.d, hy.w, hy.f, flatIds, oid, r_spec_l6Verdict, ↓G_unf _ _ b0_spec_l6Verdict.eq_1, ↓G_unf _ _ b1_spec_l6Verdict.eq_1, ↓G_unf _ _ k2_spec_l6Verdict.eq_1, ↓G_unf _ _ k3_spec_l6Verdict.eq_1, ↓G_unf _ _ c_spec_l6Verdict.eq_1, h_spec_l6Word.2, h_spec_l6Word.1, gH_succ, ih, bind_ite, spec_l6Verdict_l1, rRow5, rVerdict, rRow43, rRow9, rRow3, rMap70, rMap75, rLog, ↓reduceIte, Nat.reduceMul, Nat.reduceAdd, Nat.reduceSub, Nat.reduceEqDiff, Nat.reduceBEq, Nat.reduceLeDiff, Nat.reduceLT, reduceCtorEq, Int.reduceAdd, Int.reduceSub, Int.reduceToNat, Int.reduceNeg, Int.reduceEq, Int.reduceLT, Int.reduceLE]
theorem spec_l6Verdict_l0_eq (E : En) (hy : Hy E [] [] [] r_spec_l6Verdict none (fun y => nocap y) flatIds) (L_spec_l6Word : Int → Int → Option (List UInt8)) (h_spec_l6Word : H_spec_l6Word E L_spec_l6Word) : ∀ (m0 : Nat) (x0 : List UInt8) (x3 : Int) (o128_0 : Int) (o128_1 : Int), gH E [0, 2, 3] b0_spec_l6Verdict [KJ.b 0, KJ.c k3_spec_l6Verdict] m0 ⟨slotsOf [(0, .d (sD x0)), (2, A.adr 128 1 0), (3, .d (.int .i64 x3))], obsOf [(128, ⟨1, .box [.d (.int .i64 o128_0), .d (.int .i64 o128_1)], false⟩)]⟩ = (spec_l6Verdict_l0 L_spec_l6Word E.n m0 x0 x3 o128_0 o128_1).bind fun r => some (.ret (.agg [.d (.int .i64 r.1), .d (.int .i64 r.2)]) []) := by
  intro m0
  induction m0 with
  | zero => intros; rfl
  | succ m0 ih =>
    intros
    simp (config := {maxSteps := 40000000}) only [↓rPre, rPost, rCan, rObj, rI, rS, rB, r8, rLI, rLit, rEtc, hy.p, hy.l, hy.k, hy.r, hy.d, hy.w, hy.f, flatIds, oid, r_spec_l6Verdict, ↓G_unf _ _ b0_spec_l6Verdict.eq_1, ↓G_unf _ _ b1_spec_l6Verdict.eq_1, ↓G_unf _ _ k2_spec_l6Verdict.eq_1, ↓G_unf _ _ k3_spec_l6Verdict.eq_1, ↓G_unf _ _ c_spec_l6Verdict.eq_1, h_spec_l6Word.2, h_spec_l6Word.1, gH_succ, ih, bind_ite, spec_l6Verdict_l0, spec_l6Verdict_l1_eq E hy L_spec_l6Word h_spec_l6Word, rRow5, rVerdict, rRow43, rRow9, rRow3, rMap70, rMap75, rLog, ↓reduceIte, Nat.reduceMul, Nat.reduceAdd, Nat.reduceSub, Nat.reduceEqDiff, Nat.reduceBEq, Nat.reduceLeDiff, Nat.reduceLT, reduceCtorEq, Int.reduceAdd, Int.reduceSub, Int.reduceToNat, Int.reduceNeg, Int.reduceEq, Int.reduceLT, Int.reduceLE]
theorem spec_l6Verdict_g (E : En) (hy : Hy E [] [] [] r_spec_l6Verdict none (fun y => nocap y) flatIds) (L_spec_l6Word : Int → Int → Option (List UInt8)) (h_spec_l6Word : H_spec_l6Word E L_spec_l6Word) (a0 : List UInt8) : G E c_spec_l6Verdict [] ⟨slotsOf [(0, .d (sD a0))], obsOf []⟩ = (spec_l6Verdict_f L_spec_l6Word E.n a0).bind fun r => some (.ret (.agg [.d (.int .i64 r.1), .d (.int .i64 r.2)]) []) := by
  simp (config := {maxSteps := 40000000}) only [↓rPre, rPost, rCan, rObj, rI, rS, rB, r8, rLI, rLit, rEtc, hy.p, hy.l, hy.k, hy.r, hy.d, hy.w, hy.f, flatIds, oid, r_spec_l6Verdict, ↓G_unf _ _ b0_spec_l6Verdict.eq_1, ↓G_unf _ _ b1_spec_l6Verdict.eq_1, ↓G_unf _ _ k2_spec_l6Verdict.eq_1, ↓G_unf _ _ k3_spec_l6Verdict.eq_1, ↓G_unf _ _ c_spec_l6Verdict.eq_1, h_spec_l6Word.2, h_spec_l6Word.1, bind_ite, spec_l6Verdict_f, spec_l6Verdict_l0_eq E hy L_spec_l6Word h_spec_l6Word, rRow5, rVerdict, rRow43, rRow9, rRow3, rMap70, rMap75, rLog, ↓reduceIte, Nat.reduceMul, Nat.reduceAdd, Nat.reduceSub, Nat.reduceEqDiff, Nat.reduceBEq, Nat.reduceLeDiff, Nat.reduceLT, reduceCtorEq, Int.reduceAdd, Int.reduceSub, Int.reduceToNat, Int.reduceNeg, Int.reduceEq, Int.reduceLT, Int.reduceLE]
def H_spec_l6Verdict (E : En) (L : (List UInt8) → Option (Int × Int)) : Prop := E.Γ.mu 18 = false ∧ (∀ (a0 : List UInt8), E.Γ 18 [.d (sD a0)] = (L a0).bind fun r => some (.ret (.agg [.d (.int .i64 r.1), .d (.int .i64 r.2)]) []))
-- loop.example/s02135/spec.ReadReport
def b0_spec_ReadReport : Cd :=
  sq (sq (r [0, 5, 6, 7, 8, 9, 32] [o 28 .mv [t 9], o 29 (.bin .add) [t 28, i 2], o 30 .mv [t 6], o 31 (.len false) [t 30], o 32 (.bin .lss) [t 29, t 31]])
   (.cond (t 32) (.skip) (.exit 0)))
  (sq (.block 1 (rd [] [0, 5, 6, 7, 8, 9] [o 35 .mv [t 8], o 36 .mv [t 6], o 37 .mv [t 9], o 38 (.ia 1) [t 36, t 37], o 39 (.ld none) [t 38], o 40 .mv [t 9], ap [] false [36, 37, 38] (o 41 (.call 19) [t 40]), o 42 (.bin .add) [s [116, 101, 115, 116, 32], t 41], o 43 (.bin .add) [t 42, s [32]], o 44 (.call 17) [t 39, t 43], o 45 (.call 18) [t 44], o 46 (lit 43 2 1) [t 45], o 47 (.app 43 2 16) [t 35, t 46], o 8 .mv [t 47]]))
   (r [0, 5, 6, 7, 8, 9] [o 33 .mv [t 9], o 34 (.bin .add) [t 33, i 1], o 9 .mv [t 34]]))
def k1_spec_ReadReport : Cd :=
  sq (r [0, 5, 7, 8, 10, 11] [o 49 .mv [t 7], o 50 .mv [t 8], o 51 (.call 8) [t 49, t 50], o 48 .mv [t 51], o 52 (.ext 0) [t 48], o 53 (.ext 1) [t 48], o 10 .mv [t 52], o 11 .mv [t 53]])
  (sq (sq (r [5, 7, 8, 60] [o 54 .mv [t 11], o 55 .not [t 54], o 56 .mv [t 55], g 56 false 57 .mv [t 10], g 56 false 58 .mv [t 0], g 56 false 59 (.bin .neq) [t 57, t 58], o 60 .pick [t 56, b true, t 59]])
    (.cond (t 60) (sq (r [2, 3, 4] [o 61 .mv [t 5], o 2 .mv [s []], o 3 .mv [t 61], o 4 .mv [b false]])
      (.ret)) (.skip)))
   (sq (r [2, 3, 4] [o 62 .mv [t 7], o 63 .mv [t 8], o 2 .mv [t 62], o 3 .mv [t 63], o 4 .mv [b true]])
    (.ret)))
def c_spec_ReadReport : Cd :=
  sq (r [0] [o 2 .mv [s []], o 3 .mv [n], o 4 .mv [b false]])
  (sq (r [0, 5] [o 12 (lit 43 2 0) [], o 5 .mv [t 12]])
   (sq (sq (r [0, 5, 15] [o 13 .mv [t 0], o 14 (.len true) [t 13], o 15 (.bin .gtr) [t 14, i 2000]])
     (.cond (t 15) (sq (r [2, 3, 4] [o 16 .mv [t 5], o 2 .mv [s []], o 3 .mv [t 16], o 4 .mv [b false]])
       (.ret)) (.skip)))
    (sq (r [0, 5, 6] [o 17 .mv [t 0], o 18 (.call 16) [t 17, .k (.d (.int .u8 10))], o 6 .mv [t 18]])
     (sq (sq (r [0, 5, 6, 21] [o 19 .mv [t 6], o 20 (.len false) [t 19], o 21 (.bin .lss) [t 20, i 3]])
       (.cond (t 21) (sq (r [2, 3, 4] [o 22 .mv [t 5], o 2 .mv [s []], o 3 .mv [t 22], o 4 .mv [b false]])
         (.ret)) (.skip)))
      (sq (r [0, 5, 6, 7] [o 23 .mv [t 6], o 24 (.ia 1) [t 23, i 0], o 25 (.ld none) [t 24], o 26 (.call 17) [t 25, s [115, 116, 117, 100, 101, 110, 116, 32]], o 7 .mv [t 26]])
       (sq (r [0, 5, 6, 7, 8] [o 27 (lit 43 2 0) [], o 8 .mv [t 27]])
        (sq (sq (r [0, 5, 6, 7, 8, 9] [o 9 .mv [i 1]])
          (.block 0 (.loop [0, 5, 6, 7, 8, 9] b0_spec_ReadReport))) k1_spec_ReadReport)))))))
def r_spec_ReadReport : List RV := [.tmp 2, .tmp 3, .tmp 4]
def spec_ReadReport_l0 (L_spec_l1Cut : (List UInt8) → Int → Option (List (List UInt8))) (L_spec_l6After : (List UInt8) → (List UInt8) → Option (List UInt8)) (L_spec_l1Dec : Int → Option (List UInt8)) (L_spec_l6Verdict : (List UInt8) → Option (Int × Int)) (L_spec_Report : (List UInt8) → (List TVerdict) → Option (List UInt8 × Bool)) : Nat → (List UInt8) → (List UInt8) → Int → (List TVerdict) → (List (List UInt8)) → (List TVerdict) → Option (List UInt8 × List TVerdict × Bool)
  | 0, _, _, _, _, _, _ => none
  | m0 + 1, x0, x7, x9, o320, o384, o512 =>
    if w64 (x9 + 2) < (↑(List.length o384) : Int) then (if 0 ≤ x9 ∧ x9 < (↑(List.length o384) : Int) then ((o384[Int.toNat x9]?).bind fun y0 =>
      (L_spec_l1Dec x9).bind fun y1 =>
      if roomS (List.length y1 + 1 + 1 + 1 + 1 + 1) then (if roomS (List.length (y1 ++ [32]) + 1 + 1 + 1 + 1 + 1) then ((L_spec_l6After y0 (116 :: 101 :: 115 :: 116 :: 32 :: (y1 ++ [32]))).bind fun y2 =>
        (L_spec_l6Verdict y2).bind fun y3 =>
        if room 16 (List.length (o512 ++ [{ Kind := y3.fst, Code := y3.snd }])) then spec_ReadReport_l0 L_spec_l1Cut L_spec_l6After L_spec_l1Dec L_spec_l6Verdict L_spec_Report m0 x0 x7 (w64 (x9 + 1)) o320 o384 (o512 ++ [{ Kind := y3.fst, Code := y3.snd }])
        else none)
       else none)
      else none)
     else none)
    else ((L_spec_Report x7 o512).bind fun y4 =>
     if y4.snd = false then some (([], o320, false))
     else (if y4.fst = x0 then some ((x7, o512, true))
      else some (([], o320, false))))
def spec_ReadReport_f (L_spec_l1Cut : (List UInt8) → Int → Option (List (List UInt8))) (L_spec_l6After : (List UInt8) → (List UInt8) → Option (List UInt8)) (L_spec_l1Dec : Int → Option (List UInt8)) (L_spec_l6Verdict : (List UInt8) → Option (Int × Int)) (L_spec_Report : (List UInt8) → (List TVerdict) → Option (List UInt8 × Bool)) (N : Nat) (a0 : List UInt8) : Option (List UInt8 × List TVerdict × Bool) :=
  if 2000 < (↑(List.length a0) : Int) then some (([], [], false))
  else ((L_spec_l1Cut a0 10).bind fun y0 =>
   if (↑(List.length y0) : Int) < 3 then some (([], [], false))
   else (if 0 < (↑(List.length y0) : Int) then ((y0[0]?).bind fun y1 =>
     (L_spec_l6After y1 [115, 116, 117, 100, 101, 110, 116, 32]).bind fun y2 =>
     spec_ReadReport_l0 L_spec_l1Cut L_spec_l6After L_spec_l1Dec L_spec_l6Verdict L_spec_Report N a0 y2 1 [] y0 [])
    else none))
theorem spec_ReadReport_l0_eq (E : En) (hy : Hy E [] [] [] r_spec_ReadReport none (fun y => nocap y) flatIds) (L_spec_l1Cut : (List UInt8) → Int → Option (List (List UInt8))) (h_spec_l1Cut : H_spec_l1Cut E L_spec_l1Cut) (L_spec_l6After : (List UInt8) → (List UInt8) → Option (List UInt8)) (h_spec_l6After : H_spec_l6After E L_spec_l6After) (L_spec_l1Dec : Int → Option (List UInt8)) (h_spec_l1Dec : H_spec_l1Dec E L_spec_l1Dec) (L_spec_l6Verdict : (List UInt8) → Option (Int × Int)) (h_spec_l6Verdict : H_spec_l6Verdict E L_spec_l6Verdict) (L_spec_Report : (List UInt8) → (List TVerdict) → Option (List UInt8 × Bool)) (h_spec_Report : H_spec_Report E L_spec_Report) : ∀ (m0 : Nat) (x0 : List UInt8) (x7 : List UInt8) (x9 : Int) (o320 : List TVerdict) (o384 : List (List UInt8)) (o512 : List TVerdict), gH E [0, 5, 6, 7, 8, 9] b0_spec_ReadReport [KJ.b 0, KJ.c k1_spec_ReadReport] m0 ⟨slotsOf [(0, .d (sD x0)), (5, A.row 320 1), (6, A.row 384 1), (7, .d (sD x7)), (8, A.row 512 1), (9, .d (.int .i64 x9))], obsOf [(320, ⟨1, rowT (cVerdict) 43 none o320, false⟩), (384, ⟨1, rowT (cS) 9 none o384, false⟩), (512, ⟨1, rowT (cVerdict) 43 none o512, false⟩)]⟩ = (spec_ReadReport_l0 L_spec_l1Cut L_spec_l6After L_spec_l1Dec L_spec_l6Verdict L_spec_Report m0 x0 x7 x9 o320 o384 o512).bind fun r => some (.ret (.tup [.d (sD r.1), ownT (cVerdict) 43 none false r.2.1, .d (.bool r.2.2)]) []) := by
  intro m0
  induction m0 with
  | zero => intros; rfl
  | succ m0 ih =>
    intros
    simp (config := {maxSteps := 40000000}) only [↓rPre, rPost, rCan, rObj, rI, rS, rB, r8, rLI, rLit, rEtc, hy.p, hy.l, hy.k, hy.r, hy.d, hy.w, hy.f, flatIds, oid, r_spec_ReadReport, ↓G_unf _ _ b0_spec_ReadReport.eq_1, ↓G_unf _ _ k1_spec_ReadReport.eq_1, ↓G_unf _ _ c_spec_ReadReport.eq_1, h_spec_l1Cut.2, h_spec_l1Cut.1, h_spec_l6After.2, h_spec_l6After.1, h_spec_l1Dec.2, h_spec_l1Dec.1, h_spec_l6Verdict.2, h_spec_l6Verdict.1, h_spec_Report.2, h_spec_Report.1, gH_succ, ih, bind_ite, spec_ReadReport_l0, rRow5, rVerdict, rRow43, rRow9, rRow3, rMap70, rMap75, rLog, ↓reduceIte, Nat.reduceMul, Nat.reduceAdd, Nat.reduceSub, Nat.reduceEqDiff, Nat.reduceBEq, Nat.reduceLeDiff, Nat.reduceLT, reduceCtorEq, Int.reduceAdd, Int.reduceSub, Int.reduceToNat, Int.reduceNeg, Int.reduceEq, Int.reduceLT, Int.reduceLE]
theorem spec_ReadReport_g (E : En) (hy : Hy E [] [] [] r_spec_ReadReport none (fun y => nocap y) flatIds) (L_spec_l1Cut : (List UInt8) → Int → Option (List (List UInt8))) (h_spec_l1Cut : H_spec_l1Cut E L_spec_l1Cut) (L_spec_l6After : (List UInt8) → (List UInt8) → Option (List UInt8)) (h_spec_l6After : H_spec_l6After E L_spec_l6After) (L_spec_l1Dec : Int → Option (List UInt8)) (h_spec_l1Dec : H_spec_l1Dec E L_spec_l1Dec) (L_spec_l6Verdict : (List UInt8) → Option (Int × Int)) (h_spec_l6Verdict : H_spec_l6Verdict E L_spec_l6Verdict) (L_spec_Report : (List UInt8) → (List TVerdict) → Option (List UInt8 × Bool)) (h_spec_Report : H_spec_Report E L_spec_Report) (a0 : List UInt8) : G E c_spec_ReadReport [] ⟨slotsOf [(0, .d (sD a0))], obsOf []⟩ = (spec_ReadReport_f L_spec_l1Cut L_spec_l6After L_spec_l1Dec L_spec_l6Verdict L_spec_Report E.n a0).bind fun r => some (.ret (.tup [.d (sD r.1), ownT (cVerdict) 43 none false r.2.1, .d (.bool r.2.2)]) []) := by
  simp (config := {maxSteps := 40000000}) only [↓rPre, rPost, rCan, rObj, rI, rS, rB, r8, rLI, rLit, rEtc, hy.p, hy.l, hy.k, hy.r, hy.d, hy.w, hy.f, flatIds, oid, r_spec_ReadReport, ↓G_unf _ _ b0_spec_ReadReport.eq_1, ↓G_unf _ _ k1_spec_ReadReport.eq_1, ↓G_unf _ _ c_spec_ReadReport.eq_1, h_spec_l1Cut.2, h_spec_l1Cut.1, h_spec_l6After.2, h_spec_l6After.1, h_spec_l1Dec.2, h_spec_l1Dec.1, h_spec_l6Verdict.2, h_spec_l6Verdict.1, h_spec_Report.2, h_spec_Report.1, bind_ite, spec_ReadReport_f, spec_ReadReport_l0_eq E hy L_spec_l1Cut h_spec_l1Cut L_spec_l6After h_spec_l6After L_spec_l1Dec h_spec_l1Dec L_spec_l6Verdict h_spec_l6Verdict L_spec_Report h_spec_Report, rRow5, rVerdict, rRow43, rRow9, rRow3, rMap70, rMap75, rLog, ↓reduceIte, Nat.reduceMul, Nat.reduceAdd, Nat.reduceSub, Nat.reduceEqDiff, Nat.reduceBEq, Nat.reduceLeDiff, Nat.reduceLT, reduceCtorEq, Int.reduceAdd, Int.reduceSub, Int.reduceToNat, Int.reduceNeg, Int.reduceEq, Int.reduceLT, Int.reduceLE]
def H_spec_ReadReport (E : En) (L : (List UInt8) → Option (List UInt8 × List TVerdict × Bool)) : Prop := E.Γ.mu 5 = false ∧ (∀ (a0 : List UInt8), E.Γ 5 [.d (sD a0)] = (L a0).bind fun r => some (.ret (.tup [.d (sD r.1), ownT (cVerdict) 43 none false r.2.1, .d (.bool r.2.2)]) []))
-- internal/stringslite.HasSuffix
def c_internal_stringslite_HasSuffix : Cd :=
  sq (r [0, 1] [o 4 .mv [b false]])
  (sq (r [4] [o 5 .mv [t 0], o 6 (.len true) [t 5], o 7 .mv [t 1], o 8 (.len true) [t 7], o 9 (.bin .geq) [t 6, t 8], o 10 .mv [t 9], g 10 true 11 .mv [t 0], g 10 true 12 .mv [t 0], g 10 true 13 (.len true) [t 12], g 10 true 14 .mv [t 1], g 10 true 15 (.len true) [t 14], g 10 true 16 (.bin .sub) [t 13, t 15], g 10 true 17 (.slc true 1 true false) [t 11, t 16], g 10 true 18 .mv [t 1], g 10 true 19 (.bin .eql) [t 17, t 18], o 20 .pick [t 10, t 19, b false], o 4 .mv [t 20]])
   (.ret))
def r_internal_stringslite_HasSuffix : List RV := [.tmp 4]
def internal_stringslite_HasSuffix_f (N : Nat) (a0 : List UInt8) (a1 : List UInt8) : Option (Bool) :=
  if (↑(List.length a1) : Int) ≤ (↑(List.length a0) : Int) then ((cut a0 (w64 ((↑(List.length a0) : Int) - (↑(List.length a1) : Int))) (↑(List.length a0) : Int)).bind fun y0 =>
   some (Decidable.decide (y0 = a1)))
  else some false
theorem internal_stringslite_HasSuffix_g (E : En) (hy : Hy E [] [] [] r_internal_stringslite_HasSuffix none (fun y => nocap y) flatIds) (a0 : List UInt8) (a1 : List UInt8) : G E c_internal_stringslite_HasSuffix [] ⟨slotsOf [(0, .d (sD a0)), (1, .d (sD a1))], obsOf []⟩ = (internal_stringslite_HasSuffix_f E.n a0 a1).bind fun r => some (.ret (.d (.bool r)) []) := by
  simp (config := {maxSteps := 40000000}) only [↓rPre, rPost, rCan, rObj, rI, rS, rB, r8, rLI, rLit, rEtc, hy.p, hy.l, hy.k, hy.r, hy.d, hy.w, hy.f, flatIds, oid, r_internal_stringslite_HasSuffix, ↓G_unf _ _ c_internal_stringslite_HasSuffix.eq_1, bind_ite, internal_stringslite_HasSuffix_f, rRow5, rVerdict, rRow43, rRow9, rRow3, rMap70, rMap75, rLog, ↓reduceIte, Nat.reduceMul, Nat.reduceAdd, Nat.reduceSub, Nat.reduceEqDiff, Nat.reduceBEq, Nat.reduceLeDiff, Nat.reduceLT, reduceCtorEq, Int.reduceAdd, Int.reduceSub, Int.reduceToNat, Int.reduceNeg, Int.reduceEq, Int.reduceLT, Int.reduceLE]
def H_internal_stringslite_HasSuffix (E : En) (L : (List UInt8) → (List UInt8) → Option (Bool)) : Prop := E.Γ.mu 34 = false ∧ (∀ (a0 : List UInt8) (a1 : List UInt8), E.Γ 34 [.d (sD a0), .d (sD a1)] = (L a0 a1).bind fun r => some (.ret (.d (.bool r)) []))
-- strings.HasSuffix
def c_strings_HasSuffix : Cd :=
  sq (r [0, 1] [o 4 .mv [b false]])
  (sq (r [4] [o 5 .mv [t 0], o 6 .mv [t 1], o 7 (.call 34) [t 5, t 6], o 4 .mv [t 7]])
   (.ret))
def r_strings_HasSuffix : List RV := [.tmp 4]
def strings_HasSuffix_f (L_internal_stringslite_HasSuffix : (List UInt8) → (List UInt8) → Option (Bool)) (N : Nat) (a0 : List UInt8) (a1 : List UInt8) : Option (Bool) :=
  (L_internal_stringslite_HasSuffix a0 a1).bind fun y0 =>
  some y0
theorem strings_HasSuffix_g (E : En) (hy : Hy E [] [] [] r_strings_HasSuffix none (fun y => nocap y) flatIds) (L_internal_stringslite_HasSuffix : (List UInt8) → (List UInt8) → Option (Bool)) (h_internal_stringslite_HasSuffix : H_internal_stringslite_HasSuffix E L_internal_stringslite_HasSuffix) (a0 : List UInt8) (a1 : List UInt8) : G E c_strings_HasSuffix [] ⟨slotsOf [(0, .d (sD a0)), (1, .d (sD a1))], obsOf []⟩ = (strings_HasSuffix_f L_internal_stringslite_HasSuffix E.n a0 a1).bind fun r => some (.ret (.d (.bool r)) []) := by
  simp (config := {maxSteps := 40000000}) only [↓rPre, rPost, rCan, rObj, rI, rS, rB, r8, rLI, rLit, rEtc, hy.p, hy.l, hy.k, hy.r, hy.d, hy.w, hy.f, flatIds, oid, r_strings_HasSuffix, ↓G_unf _ _ c_strings_HasSuffix.eq_1, h_internal_stringslite_HasSuffix.2, h_internal_stringslite_HasSuffix.1, bind_ite, strings_HasSuffix_f, rRow5, rVerdict, rRow43, rRow9, rRow3, rMap70, rMap75, rLog, ↓reduceIte, Nat.reduceMul, Nat.reduceAdd, Nat.reduceSub, Nat.reduceEqDiff, Nat.reduceBEq, Nat.reduceLeDiff, Nat.reduceLT, reduceCtorEq, Int.reduceAdd, Int.reduceSub, Int.reduceToNat, Int.reduceNeg, Int.reduceEq, Int.reduceLT, Int.reduceLE]
def H_strings_HasSuffix (E : En) (L : (List UInt8) → (List UInt8) → Option (Bool)) : Prop := E.Γ.mu 20 = false ∧ (∀ (a0 : List UInt8) (a1 : List UInt8), E.Γ 20 [.d (sD a0), .d (sD a1)] = (L a0 a1).bind fun r => some (.ret (.d (.bool r)) []))
-- internal/stringslite.TrimSuffix
def c_internal_stringslite_TrimSuffix : Cd :=
  sq (r [0, 1] [o 4 .mv [s []]])
  (sq (sq (r [0, 1, 7] [o 5 .mv [t 0], o 6 .mv [t 1], o 7 (.call 34) [t 5, t 6]])
    (.cond (t 7) (sq (r [4] [o 8 .mv [t 0], o 9 .mv [t 0], o 10 (.len true) [t 9], o 11 .mv [t 1], o 12 (.len true) [t 11], o 13 (.bin .sub) [t 10, t 12], o 14 (.slc true 1 false true) [t 8, t 13], o 4 .mv [t 14]])
      (.ret)) (.skip)))
   (sq (r [4] [o 15 .mv [t 0], o 4 .mv [t 15]])
    (.ret)))
def r_internal_stringslite_TrimSuffix : List RV := [.tmp 4]
def internal_stringslite_TrimSuffix_f (L_internal_stringslite_HasSuffix : (List UInt8) → (List UInt8) → Option (Bool)) (N : Nat) (a0 : List UInt8) (a1 : List UInt8) : Option (List UInt8) :=
  (L_internal_stringslite_HasSuffix a0 a1).bind fun y0 =>
  if y0 = true then ((cut a0 0 (w64 ((↑(List.length a0) : Int) - (↑(List.length a1) : Int)))).bind fun y1 =>
   some y1)
  else some a0
theorem internal_stringslite_TrimSuffix_g (E : En) (hy : Hy E [] [] [] r_internal_stringslite_TrimSuffix none (fun y => nocap y) flatIds) (L_internal_stringslite_HasSuffix : (List UInt8) → (List UInt8) → Option (Bool)) (h_internal_stringslite_HasSuffix : H_internal_stringslite_HasSuffix E L_internal_stringslite_HasSuffix) (a0 : List UInt8) (a1 : List UInt8) : G E c_internal_stringslite_TrimSuffix [] ⟨slotsOf [(0, .d (sD a0)), (1, .d (sD a1))], obsOf []⟩ = (internal_stringslite_TrimSuffix_f L_internal_stringslite_HasSuffix E.n a0 a1).bind fun r => some (.ret (.d (sD r)) []) := by
  simp (config := {maxSteps := 40000000}) only [↓rPre, rPost, rCan, rObj, rI, rS, rB, r8, rLI, rLit, rEtc, hy.p, hy.l, hy.k, hy.r, hy.d, hy.w, hy.f, flatIds, oid, r_internal_stringslite_TrimSuffix, ↓G_unf _ _ c_internal_stringslite_TrimSuffix.eq_1, h_internal_stringslite_HasSuffix.2, h_internal_stringslite_HasSuffix.1, bind_ite, internal_stringslite_TrimSuffix_f, rRow5, rVerdict, rRow43, rRow9, rRow3, rMap70, rMap75, rLog, ↓reduceIte, Nat.reduceMul, Nat.reduceAdd, Nat.reduceSub, Nat.reduceEqDiff, Nat.reduceBEq, Nat.reduceLeDiff, Nat.reduceLT, reduceCtorEq, Int.reduceAdd, Int.reduceSub, Int.reduceToNat, Int.reduceNeg, Int.reduceEq, Int.reduceLT, Int.reduceLE]
def H_internal_stringslite_TrimSuffix (E : En) (L : (List UInt8) → (List UInt8) → Option (List UInt8)) : Prop := E.Γ.mu 36 = false ∧ (∀ (a0 : List UInt8) (a1 : List UInt8), E.Γ 36 [.d (sD a0), .d (sD a1)] = (L a0 a1).bind fun r => some (.ret (.d (sD r)) []))
-- strings.TrimSuffix
def c_strings_TrimSuffix : Cd :=
  sq (r [0, 1] [o 4 .mv [s []]])
  (sq (r [4] [o 5 .mv [t 0], o 6 .mv [t 1], o 7 (.call 36) [t 5, t 6], o 4 .mv [t 7]])
   (.ret))
def r_strings_TrimSuffix : List RV := [.tmp 4]
def strings_TrimSuffix_f (L_internal_stringslite_TrimSuffix : (List UInt8) → (List UInt8) → Option (List UInt8)) (N : Nat) (a0 : List UInt8) (a1 : List UInt8) : Option (List UInt8) :=
  (L_internal_stringslite_TrimSuffix a0 a1).bind fun y0 =>
  some y0
theorem strings_TrimSuffix_g (E : En) (hy : Hy E [] [] [] r_strings_TrimSuffix none (fun y => nocap y) flatIds) (L_internal_stringslite_TrimSuffix : (List UInt8) → (List UInt8) → Option (List UInt8)) (h_internal_stringslite_TrimSuffix : H_internal_stringslite_TrimSuffix E L_internal_stringslite_TrimSuffix) (a0 : List UInt8) (a1 : List UInt8) : G E c_strings_TrimSuffix [] ⟨slotsOf [(0, .d (sD a0)), (1, .d (sD a1))], obsOf []⟩ = (strings_TrimSuffix_f L_internal_stringslite_TrimSuffix E.n a0 a1).bind fun r => some (.ret (.d (sD r)) []) := by
  simp (config := {maxSteps := 40000000}) only [↓rPre, rPost, rCan, rObj, rI, rS, rB, r8, rLI, rLit, rEtc, hy.p, hy.l, hy.k, hy.r, hy.d, hy.w, hy.f, flatIds, oid, r_strings_TrimSuffix, ↓G_unf _ _ c_strings_TrimSuffix.eq_1, h_internal_stringslite_TrimSuffix.2, h_internal_stringslite_TrimSuffix.1, bind_ite, strings_TrimSuffix_f, rRow5, rVerdict, rRow43, rRow9, rRow3, rMap70, rMap75, rLog, ↓reduceIte, Nat.reduceMul, Nat.reduceAdd, Nat.reduceSub, Nat.reduceEqDiff, Nat.reduceBEq, Nat.reduceLeDiff, Nat.reduceLT, reduceCtorEq, Int.reduceAdd, Int.reduceSub, Int.reduceToNat, Int.reduceNeg, Int.reduceEq, Int.reduceLT, Int.reduceLE]
def H_strings_TrimSuffix (E : En) (L : (List UInt8) → (List UInt8) → Option (List UInt8)) : Prop := E.Γ.mu 22 = false ∧ (∀ (a0 : List UInt8) (a1 : List UInt8), E.Γ 22 [.d (sD a0), .d (sD a1)] = (L a0 a1).bind fun r => some (.ret (.d (sD r)) []))
-- strings.Split
def H_strings_Split (E : En) (L : (List UInt8) → (List UInt8) → Option (List (List UInt8))) : Prop := E.Γ.mu 21 = false ∧ (∀ (a0 : List UInt8) (a1 : List UInt8), E.Γ 21 [.d (sD a0), .d (sD a1)] = (L a0 a1).bind fun r => some (.ret (.d (lstT cS r)) []))
-- internal/stringslite.HasPrefix
def c_internal_stringslite_HasPrefix : Cd :=
  sq (r [0, 1] [o 4 .mv [b false]])
  (sq (r [4] [o 5 .mv [t 0], o 6 (.len true) [t 5], o 7 .mv [t 1], o 8 (.len true) [t 7], o 9 (.bin .geq) [t 6, t 8], o 10 .mv [t 9], g 10 true 11 .mv [t 0], g 10 true 12 .mv [t 1], g 10 true 13 (.len true) [t 12], g 10 true 14 (.slc true 1 false true) [t 11, t 13], g 10 true 15 .mv [t 1], g 10 true 16 (.bin .eql) [t 14, t 15], o 17 .pick [t 10, t 16, b false], o 4 .mv [t 17]])
   (.ret))
def r_internal_stringslite_HasPrefix : List RV := [.tmp 4]
def internal_stringslite_HasPrefix_f (N : Nat) (a0 : List UInt8) (a1 : List UInt8) : Option (Bool) :=
  if (↑(List.length a1) : Int) ≤ (↑(List.length a0) : Int) then ((cut a0 0 (↑(List.length a1) : Int)).bind fun y0 =>
   some (Decidable.decide (y0 = a1)))
  else some false
theorem internal_stringslite_HasPrefix_g (E : En) (hy : Hy E [] [] [] r_internal_stringslite_HasPrefix none (fun y => nocap y) flatIds) (a0 : List UInt8) (a1 : List UInt8) : G E c_internal_stringslite_HasPrefix [] ⟨slotsOf [(0, .d (sD a0)), (1, .d (sD a1))], obsOf []⟩ = (internal_stringslite_HasPrefix_f E.n a0 a1).bind fun r => some (.ret (.d (.bool r)) []) := by
  simp (config := {maxSteps := 40000000}) only [↓rPre, rPost, rCan, rObj, rI, rS, rB, r8, rLI, rLit, rEtc, hy.p, hy.l, hy.k, hy.r, hy.d, hy.w, hy.f, flatIds, oid, r_internal_stringslite_HasPrefix, ↓G_unf _ _ c_internal_stringslite_HasPrefix.eq_1, bind_ite, internal_stringslite_HasPrefix_f, rRow5, rVerdict, rRow43, rRow9, rRow3, rMap70, rMap75, rLog, ↓reduceIte, Nat.reduceMul, Nat.reduceAdd, Nat.reduceSub, Nat.reduceEqDiff, Nat.reduceBEq, Nat.reduceLeDiff, Nat.reduceLT, reduceCtorEq, Int.reduceAdd, Int.reduceSub, Int.reduceToNat, Int.reduceNeg, Int.reduceEq, Int.reduceLT, Int.reduceLE]
def H_internal_stringslite_HasPrefix (E : En) (L : (List UInt8) → (List UInt8) → Option (Bool)) : Prop := E.Γ.mu 50 = false ∧ (∀ (a0 : List UInt8) (a1 : List UInt8), E.Γ 50 [.d (sD a0), .d (sD a1)] = (L a0 a1).bind fun r => some (.ret (.d (.bool r)) []))
-- internal/stringslite.CutPrefix
def c_internal_stringslite_CutPrefix : Cd :=
  sq (r [0, 1] [o 4 .mv [s []], o 5 .mv [b false]])
  (sq (sq (r [0, 1, 9] [o 6 .mv [t 0], o 7 .mv [t 1], o 8 (.call 50) [t 6, t 7], o 9 .not [t 8]])
    (.cond (t 9) (sq (r [4, 5] [o 10 .mv [t 0], o 4 .mv [t 10], o 5 .mv [b false]])
      (.ret)) (.skip)))
   (sq (r [4, 5] [o 11 .mv [t 0], o 12 .mv [t 1], o 13 (.len true) [t 12], o 14 (.slc true 1 true false) [t 11, t 13], o 4 .mv [t 14], o 5 .mv [b true]])
    (.ret)))
def r_internal_stringslite_CutPrefix : List RV := [.tmp 4, .tmp 5]
def internal_stringslite_CutPrefix_f (L_internal_stringslite_HasPrefix : (List UInt8) → (List UInt8) → Option (Bool)) (N : Nat) (a0 : List UInt8) (a1 : List UInt8) : Option (List UInt8 × Bool) :=
  (L_internal_stringslite_HasPrefix a0 a1).bind fun y0 =>
  if y0 = false then some ((a0, false))
  else ((cut a0 (↑(List.length a1) : Int) (↑(List.length a0) : Int)).bind fun y1 =>
   some ((y1, true)))
theorem internal_stringslite_CutPrefix_g (E : En) (hy : Hy E [] [] [] r_internal_stringslite_CutPrefix none (fun y => nocap y) flatIds) (L_internal_stringslite_HasPrefix : (List UInt8) → (List UInt8) → Option (Bool)) (h_internal_stringslite_HasPrefix : H_internal_stringslite_HasPrefix E L_internal_stringslite_HasPrefix) (a0 : List UInt8) (a1 : List UInt8) : G E c_internal_stringslite_CutPrefix [] ⟨slotsOf [(0, .d (sD a0)), (1, .d (sD a1))], obsOf []⟩ = (internal_stringslite_CutPrefix_f L_internal_stringslite_HasPrefix E.n a0 a1).bind fun r => some (.ret (.tup [.d (sD r.1), .d (.bool r.2)]) []) := by
  simp (config := {maxSteps := 40000000}) only [↓rPre, rPost, rCan, rObj, rI, rS, rB, r8, rLI, rLit, rEtc, hy.p, hy.l, hy.k, hy.r, hy.d, hy.w, hy.f, flatIds, oid, r_internal_stringslite_CutPrefix, ↓G_unf _ _ c_internal_stringslite_CutPrefix.eq_1, h_internal_stringslite_HasPrefix.2, h_internal_stringslite_HasPrefix.1, bind_ite, internal_stringslite_CutPrefix_f, rRow5, rVerdict, rRow43, rRow9, rRow3, rMap70, rMap75, rLog, ↓reduceIte, Nat.reduceMul, Nat.reduceAdd, Nat.reduceSub, Nat.reduceEqDiff, Nat.reduceBEq, Nat.reduceLeDiff, Nat.reduceLT, reduceCtorEq, Int.reduceAdd, Int.reduceSub, Int.reduceToNat, Int.reduceNeg, Int.reduceEq, Int.reduceLT, Int.reduceLE]
def H_internal_stringslite_CutPrefix (E : En) (L : (List UInt8) → (List UInt8) → Option (List UInt8 × Bool)) : Prop := E.Γ.mu 37 = false ∧ (∀ (a0 : List UInt8) (a1 : List UInt8), E.Γ 37 [.d (sD a0), .d (sD a1)] = (L a0 a1).bind fun r => some (.ret (.tup [.d (sD r.1), .d (.bool r.2)]) []))
-- strings.CutPrefix
def c_strings_CutPrefix : Cd :=
  sq (r [0, 1] [o 4 .mv [s []], o 5 .mv [b false]])
  (sq (r [4, 5] [o 6 .mv [t 0], o 7 .mv [t 1], o 8 (.call 37) [t 6, t 7], o 9 (.ext 0) [t 8], o 10 (.ext 1) [t 8], o 4 .mv [t 9], o 5 .mv [t 10]])
   (.ret))
def r_strings_CutPrefix : List RV := [.tmp 4, .tmp 5]
def strings_CutPrefix_f (L_internal_stringslite_CutPrefix : (List UInt8) → (List UInt8) → Option (List UInt8 × Bool)) (N : Nat) (a0 : List UInt8) (a1 : List UInt8) : Option (List UInt8 × Bool) :=
  (L_internal_stringslite_CutPrefix a0 a1).bind fun y0 =>
  some ((y0.fst, y0.snd))
theorem strings_CutPrefix_g (E : En) (hy : Hy E [] [] [] r_strings_CutPrefix none (fun y => nocap y) flatIds) (L_internal_stringslite_CutPrefix : (List UInt8) → (List UInt8) → Option (List UInt8 × Bool)) (h_internal_stringslite_CutPrefix : H_internal_stringslite_CutPrefix E L_internal_stringslite_CutPrefix) (a0 : List UInt8) (a1 : List UInt8) : G E c_strings_CutPrefix [] ⟨slotsOf [(0, .d (sD a0)), (1, .d (sD a1))], obsOf []⟩ = (strings_CutPrefix_f L_internal_stringslite_CutPrefix E.n a0 a1).bind fun r => some (.ret (.tup [.d (sD r.1), .d (.bool r.2)]) []) := by
  simp (config := {maxSteps := 40000000}) only [↓rPre, rPost, rCan, rObj, rI, rS, rB, r8, rLI, rLit, rEtc, hy.p, hy.l, hy.k, hy.r, hy.d, hy.w, hy.f, flatIds, oid, r_strings_CutPrefix, ↓G_unf _ _ c_strings_CutPrefix.eq_1, h_internal_stringslite_CutPrefix.2, h_internal_stringslite_CutPrefix.1, bind_ite, strings_CutPrefix_f, rRow5, rVerdict, rRow43, rRow9, rRow3, rMap70, rMap75, rLog, ↓reduceIte, Nat.reduceMul, Nat.reduceAdd, Nat.reduceSub, Nat.reduceEqDiff, Nat.reduceBEq, Nat.reduceLeDiff, Nat.reduceLT, reduceCtorEq, Int.reduceAdd, Int.reduceSub, Int.reduceToNat, Int.reduceNeg, Int.reduceEq, Int.reduceLT, Int.reduceLE]
def H_strings_CutPrefix (E : En) (L : (List UInt8) → (List UInt8) → Option (List UInt8 × Bool)) : Prop := E.Γ.mu 23 = false ∧ (∀ (a0 : List UInt8) (a1 : List UInt8), E.Γ 23 [.d (sD a0), .d (sD a1)] = (L a0 a1).bind fun r => some (.ret (.tup [.d (sD r.1), .d (.bool r.2)]) []))
-- loop.example/s02135/impl.isDigit
def c_impl_isDigit : Cd :=
  sq (r [0] [o 2 .mv [b false]])
  (sq (r [2] [o 3 .mv [t 0], o 4 (.bin .leq) [.k (.d (.int .u8 48)), t 3], o 5 .mv [t 4], g 5 true 6 .mv [t 0], g 5 true 7 (.bin .leq) [t 6, .k (.d (.int .u8 57))], o 8 .pick [t 5, t 7, b false], o 2 .mv [t 8]])
   (.ret))
def r_impl_isDigit : List RV := [.tmp 2]
def impl_isDigit_f (N : Nat) (a0 : Int) : Option (Bool) :=
  if 48 ≤ a0 then some (Decidable.decide (a0 ≤ 57))
  else some false
theorem impl_isDigit_g (E : En) (hy : Hy E [] [] [] r_impl_isDigit none (fun y => nocap y) flatIds) (a0 : Int) : G E c_impl_isDigit [] ⟨slotsOf [(0, .d (.int .u8 a0))], obsOf []⟩ = (impl_isDigit_f E.n a0).bind fun r => some (.ret (.d (.bool r)) []) := by
  simp (config := {maxSteps := 40000000}) only [↓rPre, rPost, rCan, rObj, rI, rS, rB, r8, rLI, rLit, rEtc, hy.p, hy.l, hy.k, hy.r, hy.d, hy.w, hy.f, flatIds, oid, r_impl_isDigit, ↓G_unf _ _ c_impl_isDigit.eq_1, bind_ite, impl_isDigit_f, rRow5, rVerdict, rRow43, rRow9, rRow3, rMap70, rMap75, rLog, ↓reduceIte, Nat.reduceMul, Nat.reduceAdd, Nat.reduceSub, Nat.reduceEqDiff, Nat.reduceBEq, Nat.reduceLeDiff, Nat.reduceLT, reduceCtorEq, Int.reduceAdd, Int.reduceSub, Int.reduceToNat, Int.reduceNeg, Int.reduceEq, Int.reduceLT, Int.reduceLE]
def H_impl_isDigit (E : En) (L : Int → Option (Bool)) : Prop := E.Γ.mu 38 = false ∧ (∀ (a0 : Int), E.Γ 38 [.d (.int .u8 a0)] = (L a0).bind fun r => some (.ret (.d (.bool r)) []))
-- loop.example/s02135/impl.isLetter
def c_impl_isLetter : Cd :=
  sq (r [0] [o 2 .mv [b false]])
  (sq (r [2] [o 3 .mv [t 0], o 4 (.bin .leq) [.k (.d (.int .u8 97)), t 3], o 5 .mv [t 4], g 5 true 6 .mv [t 0], g 5 true 7 (.bin .leq) [t 6, .k (.d (.int .u8 122))], o 8 .pick [t 5, t 7, b false], o 9 .mv [t 8], g 9 false 10 .mv [t 0], g 9 false 11 (.bin .leq) [.k (.d (.int .u8 65)), t 10], g 9 false 12 .mv [t 11], g 12 true 13 .mv [t 0], g 12 true 14 (.bin .leq) [t 13, .k (.d (.int .u8 90))], g 9 false 15 .pick [t 12, t 14, b false], o 16 .pick [t 9, b true, t 15], o 2 .mv [t 16]])
   (.ret))
def r_impl_isLetter : List RV := [.tmp 2]
def impl_isLetter_f (N : Nat) (a0 : Int) : Option (Bool) :=
  if 97 ≤ a0 then (if a0 ≤ 122 then some true
   else (if 65 ≤ a0 then some (Decidable.decide (a0 ≤ 90))
    else some false))
  else (if 65 ≤ a0 then some (Decidable.decide (a0 ≤ 90))
   else some false)
theorem impl_isLetter_g (E : En) (hy : Hy E [] [] [] r_impl_isLetter none (fun y => nocap y) flatIds) (a0 : Int) : G E c_impl_isLetter [] ⟨slotsOf [(0, .d (.int .u8 a0))], obsOf []⟩ = (impl_isLetter_f E.n a0).bind fun r => some (.ret (.d (.bool r)) []) := by
  simp (config := {maxSteps := 40000000}) only [↓rPre, rPost, rCan, rObj, rI, rS, rB, r8, rLI, rLit, rEtc, hy.p, hy.l, hy.k, hy.r, hy.d, hy.w, hy.f, flatIds, oid, r_impl_isLetter, ↓G_unf _ _ c_impl_isLetter.eq_1, bind_ite, impl_isLetter_f, rRow5, rVerdict, rRow43, rRow9, rRow3, rMap70, rMap75, rLog, ↓reduceIte, Nat.reduceMul, Nat.reduceAdd, Nat.reduceSub, Nat.reduceEqDiff, Nat.reduceBEq, Nat.reduceLeDiff, Nat.reduceLT, reduceCtorEq, Int.reduceAdd, Int.reduceSub, Int.reduceToNat, Int.reduceNeg, Int.reduceEq, Int.reduceLT, Int.reduceLE]
def H_impl_isLetter (E : En) (L : Int → Option (Bool)) : Prop := E.Γ.mu 39 = false ∧ (∀ (a0 : Int), E.Γ 39 [.d (.int .u8 a0)] = (L a0).bind fun r => some (.ret (.d (.bool r)) []))
-- loop.example/s02135/impl.idOk
def b0_impl_idOk : Cd :=
  sq (r [0, 13, 14, 15] [o 15 (.bin .lss) [t 14, t 13]])
  (sq (.cond (t 15) (.skip) (.exit 0))
   (sq (.block 1 (sq (r [0, 3, 13, 14] [o 16 .mv [t 14], o 3 .mv [t 16]])
      (sq (r [0, 13, 14, 28] [o 17 .mv [t 0], o 18 .mv [t 3], o 19 .ixs [t 17, t 18], o 20 (.call 38) [t 19], o 21 .not [t 20], o 22 .mv [t 21], g 22 true 23 .mv [t 0], g 22 true 24 .mv [t 3], g 22 true 25 .ixs [t 23, t 24], g 22 true 26 (.call 39) [t 25], g 22 true 27 .not [t 26], o 28 .pick [t 22, t 27, b false]])
       (.cond (t 28) (sq (r [2] [o 2 .mv [b false]])
         (.ret)) (.skip)))))
    (r [0, 13, 14] [o 29 (.bin .add) [t 14, i 1], o 14 .mv [t 29]])))
def k1_impl_idOk : Cd :=
  sq (r [2] [o 2 .mv [b true]])
  (.ret)
def c_impl_idOk : Cd :=
  sq (r [0] [o 2 .mv [b false]])
  (sq (sq (r [0, 11] [o 4 .mv [t 0], o 5 (.len true) [t 4], o 6 (.bin .lss) [t 5, i 1], o 7 .mv [t 6], g 7 false 8 .mv [t 0], g 7 false 9 (.len true) [t 8], g 7 false 10 (.bin .gtr) [t 9, i 20], o 11 .pick [t 7, b true, t 10]])
    (.cond (t 11) (sq (r [2] [o 2 .mv [b false]])
      (.ret)) (.skip)))
   (sq (sq (r [0, 13, 14] [o 12 .mv [t 0], o 13 (.len true) [t 12], o 14 .mv [i 0]])
     (.block 0 (.loop [0, 13, 14] b0_impl_idOk))) k1_impl_idOk))
def r_impl_idOk : List RV := [.tmp 2]
def impl_idOk_l0 (L_impl_isDigit : Int → Option (Bool)) (L_impl_isLetter : Int → Option (Bool)) : Nat → (List UInt8) → Int → Int → Option (Bool)
  | 0, _, _, _ => none
  | m0 + 1, x0, x13, x14 =>
    if x14 < x13 then ((idxB x0 x14).bind fun y0 =>
     (L_impl_isDigit y0).bind fun y1 =>
     if y1 = false then ((idxB x0 x14).bind fun y2 =>
      (L_impl_isLetter y2).bind fun y3 =>
      if y3 = false then some false
      else impl_idOk_l0 L_impl_isDigit L_impl_isLetter m0 x0 x13 (w64 (x14 + 1)))
     else impl_idOk_l0 L_impl_isDigit L_impl_isLetter m0 x0 x13 (w64 (x14 + 1)))
    else some true
def impl_idOk_f (L_impl_isDigit : Int → Option (Bool)) (L_impl_isLetter : Int → Option (Bool)) (N : Nat) (a0 : List UInt8) : Option (Bool) :=
  if (↑(List.length a0) : Int) < 1 then some false
  else (if 20 < (↑(List.length a0) : Int) then some false
   else impl_idOk_l0 L_impl_isDigit L_impl_isLetter N a0 ((↑(List.length a0) : Int)) 0)
theorem impl_idOk_l0_eq (E : En) (hy : Hy E [] [] [] r_impl_idOk none (fun y => nocap y) flatIds) (L_impl_isDigit : Int → Option (Bool)) (h_impl_isDigit : H_impl_isDigit E L_impl_isDigit) (L_impl_isLetter : Int → Option (Bool)) (h_impl_isLetter : H_impl_isLetter E L_impl_isLetter) : ∀ (m0 : Nat) (x0 : List UInt8) (x13 : Int) (x14 : Int), gH E [0, 13, 14] b0_impl_idOk [KJ.b 0, KJ.c k1_impl_idOk] m0 ⟨slotsOf [(0, .d (sD x0)), (13, .d (.int .i64 x13)), (14, .d (.int .i64 x14))], obsOf []⟩ = (impl_idOk_l0 L_impl_isDigit L_impl_isLetter m0 x0 x13 x14).bind fun r => some (.ret (.d (.bool r)) []) := by
  intro m0
  induction m0 with
  | zero => intros; rfl
  | succ m0 ih =>
    intros
    simp (config := {maxSteps := 40000000}) only [↓rPre, rPost, rCan, rObj, rI, rS, rB, r8, rLI, rLit, rEtc, hy.p, hy.l, hy.k, hy.r, hy.d, hy.w, hy.f, flatIds, oid, r_impl_idOk, ↓G_unf _ _ b0_impl_idOk.eq_1, ↓G_unf _ _ k1_impl_idOk.eq_1, ↓G_unf _ _ c_impl_idOk.eq_1, h_impl_isDigit.2, h_impl_isDigit.1, h_impl_isLetter.2, h_impl_isLetter.1, gH_succ, ih, bind_ite, impl_idOk_l0, rRow5, rVerdict, rRow43, rRow9, rRow3, rMap70, rMap75, rLog, ↓reduceIte, Nat.reduceMul, Nat.reduceAdd, Nat.reduceSub, Nat.reduceEqDiff, Nat.reduceBEq, Nat.reduceLeDiff, Nat.reduceLT, reduceCtorEq, Int.reduceAdd, Int.reduceSub, Int.reduceToNat, Int.reduceNeg, Int.reduceEq, Int.reduceLT, Int.reduceLE]
theorem impl_idOk_g (E : En) (hy : Hy E [] [] [] r_impl_idOk none (fun y => nocap y) flatIds) (L_impl_isDigit : Int → Option (Bool)) (h_impl_isDigit : H_impl_isDigit E L_impl_isDigit) (L_impl_isLetter : Int → Option (Bool)) (h_impl_isLetter : H_impl_isLetter E L_impl_isLetter) (a0 : List UInt8) : G E c_impl_idOk [] ⟨slotsOf [(0, .d (sD a0))], obsOf []⟩ = (impl_idOk_f L_impl_isDigit L_impl_isLetter E.n a0).bind fun r => some (.ret (.d (.bool r)) []) := by
  simp (config := {maxSteps := 40000000}) only [↓rPre, rPost, rCan, rObj, rI, rS, rB, r8, rLI, rLit, rEtc, hy.p, hy.l, hy.k, hy.r, hy.d, hy.w, hy.f, flatIds, oid, r_impl_idOk, ↓G_unf _ _ b0_impl_idOk.eq_1, ↓G_unf _ _ k1_impl_idOk.eq_1, ↓G_unf _ _ c_impl_idOk.eq_1, h_impl_isDigit.2, h_impl_isDigit.1, h_impl_isLetter.2, h_impl_isLetter.1, bind_ite, impl_idOk_f, impl_idOk_l0_eq E hy L_impl_isDigit h_impl_isDigit L_impl_isLetter h_impl_isLetter, rRow5, rVerdict, rRow43, rRow9, rRow3, rMap70, rMap75, rLog, ↓reduceIte, Nat.reduceMul, Nat.reduceAdd, Nat.reduceSub, Nat.reduceEqDiff, Nat.reduceBEq, Nat.reduceLeDiff, Nat.reduceLT, reduceCtorEq, Int.reduceAdd, Int.reduceSub, Int.reduceToNat, Int.reduceNeg, Int.reduceEq, Int.reduceLT, Int.reduceLE]
def H_impl_idOk (E : En) (L : (List UInt8) → Option (Bool)) : Prop := E.Γ.mu 24 = false ∧ (∀ (a0 : List UInt8), E.Γ 24 [.d (sD a0)] = (L a0).bind fun r => some (.ret (.d (.bool r)) []))
-- strconv.Itoa
def H_strconv_Itoa (E : En) (L : Int → Option (List UInt8)) : Prop := E.Γ.mu 25 = false ∧ (∀ (a0 : Int), E.Γ 25 [.d (.int .i64 a0)] = (L a0).bind fun r => some (.ret (.d (sD r)) []))
-- strconv.Atoi
def H_strconv_Atoi (E : En) (L : (List UInt8) → Option (Alt Int Int)) : Prop := E.Γ.mu 41 = false ∧ (∀ (a0 : List UInt8), E.Γ 41 [.d (sD a0)] = (L a0).bind fun r => r.on (fun r => some (.ret (.tup [.d (.int .i64 r), .d .nili]) [])) (fun r => some (.ret (.tup [.d (.int .i64 r), .d (.iface 95 .opq)]) [])))
-- loop.example/s02135/impl.verdictOk
def c_impl_verdictOk : Cd :=
  sq (r [1] [o 1 .box [t 0], o 2 .mv [b false]])
  (sq (sq (r [1, 5] [o 3 (.fa 0) [t 1], o 4 (.ld none) [t 3], o 5 (.bin .eql) [t 4, i 3]])
    (.cond (t 5) (sq (r [2] [o 6 (.fa 1) [t 1], o 7 (.ld none) [t 6], o 8 (.bin .geq) [t 7, i 1], o 9 .mv [t 8], g 9 true 10 (.fa 1) [t 1], g 9 true 11 (.ld none) [t 10], g 9 true 12 (.bin .leq) [t 11, i 99], o 13 .pick [t 9, t 12, b false], o 2 .mv [t 13]])
      (.ret)) (.skip)))
   (sq (r [2] [o 14 (.fa 0) [t 1], o 15 (.ld none) [t 14], o 16 (.bin .geq) [t 15, i 1], o 17 .mv [t 16], g 17 true 18 (.fa 0) [t 1], g 17 true 19 (.ld none) [t 18], g 17 true 20 (.bin .leq) [t 19, i 5], o 21 .pick [t 17, t 20, b false], o 22 .mv [t 21], g 22 true 23 (.fa 1) [t 1], g 22 true 24 (.ld none) [t 23], g 22 true 25 (.bin .eql) [t 24, i 0], o 26 .pick [t 22, t 25, b false], o 2 .mv [t 26]])
    (.ret)))
def r_impl_verdictOk : List RV := [.tmp 2]
def impl_verdictOk_f (N : Nat) (a0_Kind : Int) (a0_Code : Int) : Option (Bool) :=
  if a0_Kind = 3 then (if 1 ≤ a0_Code then some (Decidable.decide (a0_Code ≤ 99))
   else some false)
  else (if 1 ≤ a0_Kind then (if a0_Kind ≤ 5 then some (Decidable.decide (a0_Code = 0))
    else some false)
   else some false)
theorem impl_verdictOk_g (E : En) (hy : Hy E [] [] [] r_impl_verdictOk none (fun y => nocap y) flatIds) (a0_Kind : Int) (a0_Code : Int) : G E c_impl_verdictOk [] ⟨slotsOf [(0, .agg [.d (.int .i64 a0_Kind), .d (.int .i64 a0_Code)])], obsOf []⟩ = (impl_verdictOk_f E.n a0_Kind a0_Code).bind fun r => some (.ret (.d (.bool r)) []) := by
  simp (config := {maxSteps := 40000000}) only [↓rPre, rPost, rCan, rObj, rI, rS, rB, r8, rLI, rLit, rEtc, hy.p, hy.l, hy.k, hy.r, hy.d, hy.w, hy.f, flatIds, oid, r_impl_verdictOk, ↓G_unf _ _ c_impl_verdictOk.eq_1, bind_ite, impl_verdictOk_f, rRow5, rVerdict, rRow43, rRow9, rRow3, rMap70, rMap75, rLog, ↓reduceIte, Nat.reduceMul, Nat.reduceAdd, Nat.reduceSub, Nat.reduceEqDiff, Nat.reduceBEq, Nat.reduceLeDiff, Nat.reduceLT, reduceCtorEq, Int.reduceAdd, Int.reduceSub, Int.reduceToNat, Int.reduceNeg, Int.reduceEq, Int.reduceLT, Int.reduceLE]
def H_impl_verdictOk (E : En) (L : Int → Int → Option (Bool)) : Prop := E.Γ.mu 31 = false ∧ (∀ (a0_Kind : Int) (a0_Code : Int), E.Γ 31 [.agg [.d (.int .i64 a0_Kind), .d (.int .i64 a0_Code)]] = (L a0_Kind a0_Code).bind fun r => some (.ret (.d (.bool r)) []))
-- loop.example/s02135/impl.verdictOfWords
def c_impl_verdictOfWords : Cd :=
  sq (r [0, 2] [o 2 (.alloc [(.d (iD 0)), (.d (iD 0))]) [], o 3 .mv [b false]])
  (sq (sq (r [0, 2, 18] [o 10 .mv [t 0], o 11 (.len false) [t 10], o 12 (.bin .eql) [t 11, i 2], o 13 .mv [t 12], g 13 true 14 .mv [t 0], g 13 true 15 (.ia 1) [t 14, i 0], g 13 true 16 (.ld none) [t 15], g 13 true 17 (.bin .eql) [t 16, s [101, 114, 114, 111, 114]], o 18 .pick [t 13, t 17, b false]])
    (.cond (t 18) (sq (r [0, 2, 4, 5] [o 20 .mv [t 0], o 21 (.ia 1) [t 20, i 1], o 22 (.ld none) [t 21], o 23 (.call 41) [t 22], o 19 .mv [t 23], o 24 (.ext 0) [t 19], o 25 (.ext 1) [t 19], o 4 .mv [t 24], o 5 .mv [t 25]])
      (sq (r [0, 2, 4, 5, 6] [o 26 .mv [t 4], o 27 (.bld [(.d (iD 0)), (.d (iD 0))] [(0, 1), (1, 1)]) [i 3, t 26], o 6 (.alloc [(.d (iD 0)), (.d (iD 0))]) [], e (.st 2) [t 6, t 27]])
       (sq (rd [] [2, 3] [o 28 (.ld (some 2)) [t 6], o 29 .mv [t 5], o 30 (.inil false) [t 29], o 31 .mv [t 30], g 31 true 32 .mv [t 4], g 31 true 34 .mv [t 0], g 31 true 35 (.ia 1) [t 34, i 1], g 31 true 36 (.ld none) [t 35], ap [] false [6, 34, 31, 35, 31] (g 31 true 33 (.call 25) [t 32]), g 31 true 37 (.bin .eql) [t 33, t 36], o 38 .pick [t 31, t 37, b false], o 39 .mv [t 38], g 39 true 40 (.ld (some 2)) [t 6], ap [] false [6] (g 39 true 41 (.call 31) [t 40]), o 42 .pick [t 39, t 41, b false], e (.st 2) [t 2, t 28], o 3 .mv [t 42]])
        (.ret)))) (.skip)))
   (sq (r [0, 2, 7] [o 43 (.mkR (.map 70 none)) [], e (.mset 70 1 none) [t 43, s [112, 97, 115, 115], i 1], e (.mset 70 1 none) [t 43, s [102, 97, 105, 108], i 2], e (.mset 70 1 none) [t 43, s [102, 117, 101, 108], i 4], e (.mset 70 1 none) [t 43, s [99, 101, 108, 108, 115], i 5], o 44 .mv [t 43], o 7 .mv [t 44]])
    (sq (sq (r [0, 2, 7, 47] [o 45 .mv [t 0], o 46 (.len false) [t 45], o 47 (.bin .neq) [t 46, i 1]])
      (.cond (t 47) (sq (r [2, 3] [o 48 (.bld [(.d (iD 0)), (.d (iD 0))] []) [], e (.st 2) [t 2, t 48], o 3 .mv [b false]])
        (.ret)) (.skip)))
     (sq (r [2, 8, 9] [o 50 .mv [t 7], o 51 .mv [t 0], o 52 (.ia 1) [t 51, i 0], o 53 (.ld none) [t 52], o 54 (.mget 70 1 none [(iD 0)] true) [t 50, t 53], o 49 .mv [t 54], o 55 (.ext 0) [t 49], o 56 (.ext 1) [t 49], o 8 .mv [t 55], o 9 .mv [t 56]])
      (sq (r [2, 3] [o 57 .mv [t 8], o 58 (.bld [(.d (iD 0)), (.d (iD 0))] [(0, 1)]) [t 57], o 59 .mv [t 9], e (.st 2) [t 2, t 58], o 3 .mv [t 59]])
       (.ret))))))
def r_impl_verdictOfWords : List RV := [.cell 2 (some 2), .tmp 3]
def impl_verdictOfWords_f (L_strconv_Atoi : (List UInt8) → Option (Alt Int Int)) (L_strconv_Itoa : Int → Option (List UInt8)) (L_impl_verdictOk : Int → Int → Option (Bool)) (N : Nat) (a0 : List (List UInt8)) : Option (Int × Int × Bool) :=
  if (↑(List.length a0) : Int) = 2 then ((idx a0 0).bind fun y0 =>
   if y0 = [101, 114, 114, 111, 114] then ((idx a0 1).bind fun y1 =>
    (L_strconv_Atoi y1).bind fun y2 =>
    (y2).on (fun y3 => (idx a0 1).bind fun y4 =>
     (L_strconv_Itoa y3).bind fun y5 =>
     if y5 = y4 then ((L_impl_verdictOk 3 y3).bind fun y6 =>
      some ((3, y3, y6)))
     else some ((3, y3, false))) (fun y3 => some ((3, y3, false))))
   else (if (↑(List.length a0) : Int) = 1 then ((idx a0 0).bind fun y7 =>
     some ((Option.getD (look (putM (putM (putM (putM ([] : List (List UInt8 × Int)) [112, 97, 115, 115] 1) [102, 97, 105, 108] 2) [102, 117, 101, 108] 4) [99, 101, 108, 108, 115] 5) y7) 0, 0, Option.isSome (look (putM (putM (putM (putM ([] : List (List UInt8 × Int)) [112, 97, 115, 115] 1) [102, 97, 105, 108] 2) [102, 117, 101, 108] 4) [99, 101, 108, 108, 115] 5) y7))))
    else some ((0, 0, false))))
  else (if (↑(List.length a0) : Int) = 1 then ((idx a0 0).bind fun y8 =>
    some ((Option.getD (look (putM (putM (putM (putM ([] : List (List UInt8 × Int)) [112, 97, 115, 115] 1) [102, 97, 105, 108] 2) [102, 117, 101, 108] 4) [99, 101, 108, 108, 115] 5) y8) 0, 0, Option.isSome (look (putM (putM (putM (putM ([] : List (List UInt8 × Int)) [112, 97, 115, 115] 1) [102, 97, 105, 108] 2) [102, 117, 101, 108] 4) [99, 101, 108, 108, 115] 5) y8))))
   else some ((0, 0, false)))
theorem impl_verdictOfWords_g (E : En) (hy : Hy E [] [] [] r_impl_verdictOfWords none (fun y => nocap y) flatIds) (L_strconv_Atoi : (List UInt8) → Option (Alt Int Int)) (h_strconv_Atoi : H_strconv_Atoi E L_strconv_Atoi) (L_strconv_Itoa : Int → Option (List UInt8)) (h_strconv_Itoa : H_strconv_Itoa E L_strconv_Itoa) (L_impl_verdictOk : Int → Int → Option (Bool)) (h_impl_verdictOk : H_impl_verdictOk E L_impl_verdictOk) (a0 : List (List UInt8)) : G E c_impl_verdictOfWords [] ⟨slotsOf [(0, .d (lstT cS a0))], obsOf []⟩ = (impl_verdictOfWords_f L_strconv_Atoi L_strconv_Itoa L_impl_verdictOk E.n a0).bind fun r => some (.ret (.tup [.agg [.d (.int .i64 r.1), .d (.int .i64 r.2.1)], .d (.bool r.2.2)]) []) := by
  simp (config := {maxSteps := 40000000}) only [↓rPre, rPost, rCan, rObj, rI, rS, rB, r8, rLI, rLit, rEtc, hy.p, hy.l, hy.k, hy.r, hy.d, hy.w, hy.f, flatIds, oid, r_impl_verdictOfWords, ↓G_unf _ _ c_impl_verdictOfWords.eq_1, h_strconv_Atoi.2, h_strconv_Atoi.1, h_strconv_Itoa.2, h_strconv_Itoa.1, h_impl_verdictOk.2, h_impl_verdictOk.1, bind_ite, impl_verdictOfWords_f, rRow5, rVerdict, rRow43, rRow9, rRow3, rMap70, rMap75, rLog, ↓reduceIte, Nat.reduceMul, Nat.reduceAdd, Nat.reduceSub, Nat.reduceEqDiff, Nat.reduceBEq, Nat.reduceLeDiff, Nat.reduceLT, reduceCtorEq, Int.reduceAdd, Int.reduceSub, Int.reduceToNat, Int.reduceNeg, Int.reduceEq, Int.reduceLT, Int.reduceLE]
def H_impl_verdictOfWords (E : En) (L : (List (List UInt8)) → Option (Int × Int × Bool)) : Prop := E.Γ.mu 26 = false ∧ (∀ (a0 : List (List UInt8)), E.Γ 26 [.d (lstT cS a0)] = (L a0).bind fun r => some (.ret (.tup [.agg [.d (.int .i64 r.1), .d (.int .i64 r.2.1)], .d (.bool r.2.2)]) []))
-- loop.example/s02135/impl.ReadReport
def b0_impl_ReadReport : Cd :=
  sq (r [5, 6, 8, 9, 56, 57, 58, 59] [o 59 (.bin .lss) [t 58, t 57]])
  (sq (.cond (t 59) (.skip) (.exit 0))
   (sq (.block 1 (sq (r [5, 6, 8, 9, 10, 11, 56, 57, 58] [o 60 .mv [t 58], o 61 (.ia 1) [t 56, t 58], o 62 (.ld none) [t 61], o 10 .mv [t 60], o 11 .mv [t 62]])
      (sq (r [5, 6, 8, 9, 10, 12, 56, 57, 58] [o 63 .mv [t 11], o 64 (.call 21) [t 63, s [32]], o 12 .mv [t 64]])
       (sq (sq (rd [] [5, 6, 8, 9, 12, 56, 57, 58, 82] [o 65 .mv [t 12], o 66 (.len false) [t 65], o 67 (.bin .lss) [t 66, i 3], o 68 .mv [t 67], g 68 false 69 .mv [t 12], g 68 false 70 (.ia 1) [t 69, i 0], g 68 false 71 (.ld none) [t 70], g 68 false 72 (.bin .neq) [t 71, s [116, 101, 115, 116]], o 73 .pick [t 68, b true, t 72], o 74 .mv [t 73], g 74 false 75 .mv [t 12], g 74 false 76 (.ia 1) [t 75, i 1], g 74 false 77 (.ld none) [t 76], g 74 false 78 .mv [t 10], g 74 false 79 (.bin .add) [t 78, i 1], ap [] false [75, 74, 76, 74] (g 74 false 80 (.call 25) [t 79]), g 74 false 81 (.bin .neq) [t 77, t 80], o 82 .pick [t 74, b true, t 81]])
         (.cond (t 82) (sq (r [2, 3, 4] [o 2 .mv [s []], o 3 .mv [n], o 4 .mv [b false]])
           (.ret)) (.skip)))
        (sq (r [5, 6, 8, 9, 13, 14, 56, 57, 58] [o 84 .mv [t 12], o 85 (.slc false 1 true false) [t 84, i 2], o 86 (.call 26) [t 85], o 83 .mv [t 86], o 87 (.ext 0) [t 83], o 88 (.ext 1) [t 83], o 13 (.alloc [(.d (iD 0)), (.d (iD 0))]) [], e (.st 2) [t 13, t 87], o 14 .mv [t 88]])
         (sq (sq (r [5, 6, 8, 9, 13, 56, 57, 58, 90] [o 89 .mv [t 14], o 90 .not [t 89]])
           (.cond (t 90) (sq (r [2, 3, 4] [o 2 .mv [s []], o 3 .mv [n], o 4 .mv [b false]])
             (.ret)) (.skip)))
          (sq (sq (r [5, 6, 8, 9, 13, 56, 57, 58, 93] [o 91 (.fa 0) [t 13], o 92 (.ld none) [t 91], o 93 (.bin .eql) [t 92, i 1]])
            (.cond (t 93) (r [5, 6, 8, 9, 13, 56, 57, 58] [o 94 .mv [t 9], o 95 (.bin .add) [t 94, i 1], o 9 .mv [t 95]]) (.skip)))
           (r [5, 6, 8, 9, 56, 57, 58] [o 96 .mv [t 8], o 97 (.ld (some 2)) [t 13], o 98 (lit 43 2 1) [t 97], o 99 (.app 43 2 16) [t 96, t 98], o 8 .mv [t 99]]))))))))
    (r [5, 6, 8, 9, 56, 57, 58] [o 100 (.bin .add) [t 58, i 1], o 58 .mv [t 100]])))
def k1_impl_ReadReport : Cd :=
  sq (sq (rd [] [6, 8, 115] [o 101 .mv [t 5], o 102 .mv [t 5], o 103 (.len false) [t 102], o 104 (.bin .sub) [t 103, i 1], o 105 (.ia 1) [t 101, t 104], o 106 (.ld none) [t 105], o 107 .mv [t 9], o 111 .mv [t 8], o 112 (.len false) [t 111], ap [] false [102, 101, 104, 105, 111] (o 108 (.call 25) [t 107]), o 109 (.bin .add) [s [112, 97, 115, 115, 101, 100, 32], t 108], o 110 (.bin .add) [t 109, s [32, 111, 102, 32]], ap [] false [102, 101, 104, 105] (o 113 (.call 25) [t 112]), o 114 (.bin .add) [t 110, t 113], o 115 (.bin .neq) [t 106, t 114]])
   (.cond (t 115) (sq (r [2, 3, 4] [o 2 .mv [s []], o 3 .mv [n], o 4 .mv [b false]])
     (.ret)) (.skip)))
  (sq (r [2, 3, 4] [o 116 .mv [t 6], o 117 .mv [t 8], o 2 .mv [t 116], o 3 .mv [t 117], o 4 .mv [b true]])
   (.ret))
def c_impl_ReadReport : Cd :=
  sq (r [0] [o 2 .mv [s []], o 3 .mv [n], o 4 .mv [b false]])
  (sq (sq (r [0, 22] [o 15 .mv [t 0], o 16 (.len true) [t 15], o 17 (.bin .gtr) [t 16, i 10000], o 18 .mv [t 17], g 18 false 19 .mv [t 0], g 18 false 20 (.call 20) [t 19, s [10]], g 18 false 21 .not [t 20], o 22 .pick [t 18, b true, t 21]])
    (.cond (t 22) (sq (r [2, 3, 4] [o 2 .mv [s []], o 3 .mv [n], o 4 .mv [b false]])
      (.ret)) (.skip)))
   (sq (r [5] [o 23 .mv [t 0], o 24 (.call 22) [t 23, s [10]], o 25 (.call 21) [t 24, s [10]], o 5 .mv [t 25]])
    (sq (r [5, 6, 7] [o 27 .mv [t 5], o 28 (.ia 1) [t 27, i 0], o 29 (.ld none) [t 28], o 30 (.call 23) [t 29, s [115, 116, 117, 100, 101, 110, 116, 32]], o 26 .mv [t 30], o 31 (.ext 0) [t 26], o 32 (.ext 1) [t 26], o 6 .mv [t 31], o 7 .mv [t 32]])
     (sq (sq (r [5, 6, 50] [o 33 .mv [t 7], o 34 .not [t 33], o 35 .mv [t 34], g 35 false 36 .mv [t 6], g 35 false 37 (.call 24) [t 36], g 35 false 38 .not [t 37], o 39 .pick [t 35, b true, t 38], o 40 .mv [t 39], g 40 false 41 .mv [t 5], g 40 false 42 (.len false) [t 41], g 40 false 43 (.bin .lss) [t 42, i 2], o 44 .pick [t 40, b true, t 43], o 45 .mv [t 44], g 45 false 46 .mv [t 5], g 45 false 47 (.len false) [t 46], g 45 false 48 (.bin .sub) [t 47, i 2], g 45 false 49 (.bin .gtr) [t 48, i 20], o 50 .pick [t 45, b true, t 49]])
       (.cond (t 50) (sq (r [2, 3, 4] [o 2 .mv [s []], o 3 .mv [n], o 4 .mv [b false]])
         (.ret)) (.skip)))
      (sq (r [5, 6, 8] [o 51 (lit 43 2 0) [], o 8 .mv [t 51]])
       (sq (r [5, 6, 8, 9] [o 9 .mv [i 0]])
        (sq (sq (r [5, 6, 8, 9, 56, 57, 58] [o 52 .mv [t 5], o 53 .mv [t 5], o 54 (.len false) [t 53], o 55 (.bin .sub) [t 54, i 1], o 56 (.slc false 1 true true) [t 52, i 1, t 55], o 57 (.len false) [t 56], o 58 .mv [i 0]])
          (.block 0 (.loop [5, 6, 8, 9, 56, 57, 58] b0_impl_ReadReport))) k1_impl_ReadReport)))))))
def r_impl_ReadReport : List RV := [.tmp 2, .tmp 3, .tmp 4]
def impl_ReadReport_l0 (L_strings_HasSuffix : (List UInt8) → (List UInt8) → Option (Bool)) (L_strings_TrimSuffix : (List UInt8) → (List UInt8) → Option (List UInt8)) (L_strings_Split : (List UInt8) → (List UInt8) → Option (List (List UInt8))) (L_strings_CutPrefix : (List UInt8) → (List UInt8) → Option (List UInt8 × Bool)) (L_impl_idOk : (List UInt8) → Option (Bool)) (L_strconv_Itoa : Int → Option (List UInt8)) (L_impl_verdictOfWords : (List (List UInt8)) → Option (Int × Int × Bool)) : Nat → (List (List UInt8)) → (List UInt8) → Int → (List (List UInt8)) → Int → Int → (List TVerdict) → Option (List UInt8 × List TVerdict × Bool)
  | 0, _, _, _, _, _, _, _ => none
  | m0 + 1, x5, x6, x9, x56, x57, x58, o512 =>
    if x58 < x57 then ((idx x56 x58).bind fun y0 =>
     (L_strings_Split y0 [32]).bind fun y1 =>
     if (↑(List.length y1) : Int) < 3 then some (([], [], false))
     else ((idx y1 0).bind fun y2 =>
      if y2 = [116, 101, 115, 116] then ((idx y1 1).bind fun y3 =>
       (L_strconv_Itoa (w64 (x58 + 1))).bind fun y4 =>
       if y3 = y4 then ((cut y1 2 (↑(List.length y1) : Int)).bind fun y5 =>
        (L_impl_verdictOfWords y5).bind fun y6 =>
        if y6.snd.snd = false then some (([], [], false))
        else (if y6.fst = 1 then (if room 16 (List.length (o512 ++ [{ Kind := y6.fst, Code := y6.snd.fst }])) then impl_ReadReport_l0 L_strings_HasSuffix L_strings_TrimSuffix L_strings_Split L_strings_CutPrefix L_impl_idOk L_strconv_Itoa L_impl_verdictOfWords m0 x5 x6 (w64 (x9 + 1)) x56 x57 (w64 (x58 + 1)) (o512 ++ [{ Kind := y6.fst, Code := y6.snd.fst }])
          else none)
         else (if room 16 (List.length (o512 ++ [{ Kind := y6.fst, Code := y6.snd.fst }])) then impl_ReadReport_l0 L_strings_HasSuffix L_strings_TrimSuffix L_strings_Split L_strings_CutPrefix L_impl_idOk L_strconv_Itoa L_impl_verdictOfWords m0 x5 x6 x9 x56 x57 (w64 (x58 + 1)) (o512 ++ [{ Kind := y6.fst, Code := y6.snd.fst }])
          else none)))
       else some (([], [], false)))
      else some (([], [], false))))
    else ((idx x5 (w64 ((↑(List.length x5) : Int) - 1))).bind fun y7 =>
     (L_strconv_Itoa x9).bind fun y8 =>
     if roomS (List.length y8 + 1 + 1 + 1 + 1 + 1 + 1 + 1) then (if roomS (List.length (y8 ++ [32, 111, 102, 32]) + 1 + 1 + 1 + 1 + 1 + 1 + 1) then ((L_strconv_Itoa (↑(List.length o512) : Int)).bind fun y9 =>
       if roomS (List.length (y8 ++ [32, 111, 102, 32] ++ y9) + 1 + 1 + 1 + 1 + 1 + 1 + 1) then (if y7 = 112 :: 97 :: 115 :: 115 :: 101 :: 100 :: 32 :: (y8 ++ [32, 111, 102, 32] ++ y9) then some ((x6, o512, true))
        else some (([], [], false)))
       else none)
      else none)
     else none)
def impl_ReadReport_f (L_strings_HasSuffix : (List UInt8) → (List UInt8) → Option (Bool)) (L_strings_TrimSuffix : (List UInt8) → (List UInt8) → Option (List UInt8)) (L_strings_Split : (List UInt8) → (List UInt8) → Option (List (List UInt8))) (L_strings_CutPrefix : (List UInt8) → (List UInt8) → Option (List UInt8 × Bool)) (L_impl_idOk : (List UInt8) → Option (Bool)) (L_strconv_Itoa : Int → Option (List UInt8)) (L_impl_verdictOfWords : (List (List UInt8)) → Option (Int × Int × Bool)) (N : Nat) (a0 : List UInt8) : Option (List UInt8 × List TVerdict × Bool) :=
  if 10000 < (↑(List.length a0) : Int) then some (([], [], false))
  else ((L_strings_HasSuffix a0 [10]).bind fun y0 =>
   if y0 = false then some (([], [], false))
   else ((L_strings_TrimSuffix a0 [10]).bind fun y1 =>
    (L_strings_Split y1 [10]).bind fun y2 =>
    (idx y2 0).bind fun y3 =>
    (L_strings_CutPrefix y3 [115, 116, 117, 100, 101, 110, 116, 32]).bind fun y4 =>
    if y4.snd = false then some (([], [], false))
    else ((L_impl_idOk y4.fst).bind fun y5 =>
     if y5 = false then some (([], [], false))
     else (if (↑(List.length y2) : Int) < 2 then some (([], [], false))
      else (if 20 < w64 ((↑(List.length y2) : Int) - 2) then some (([], [], false))
       else ((cut y2 1 (w64 ((↑(List.length y2) : Int) - 1))).bind fun y6 =>
        impl_ReadReport_l0 L_strings_HasSuffix L_strings_TrimSuffix L_strings_Split L_strings_CutPrefix L_impl_idOk L_strconv_Itoa L_impl_verdictOfWords N y2 y4.fst 0 y6 ((↑(List.length y6) : Int)) 0 []))))))
theorem impl_ReadReport_l0_eq (E : En) (hy : Hy E [] [] [] r_impl_ReadReport none (fun y => nocap (asOwn (.node [.k, .own 43 2, .k]) y)) flatIds) (L_strings_HasSuffix : (List UInt8) → (List UInt8) → Option (Bool)) (h_strings_HasSuffix : H_strings_HasSuffix E L_strings_HasSuffix) (L_strings_TrimSuffix : (List UInt8) → (List UInt8) → Option (List UInt8)) (h_strings_TrimSuffix : H_strings_TrimSuffix E L_strings_TrimSuffix) (L_strings_Split : (List UInt8) → (List UInt8) → Option (List (List UInt8))) (h_strings_Split : H_strings_Split E L_strings_Split) (L_strings_CutPrefix : (List UInt8) → (List UInt8) → Option (List UInt8 × Bool)) (h_strings_CutPrefix : H_strings_CutPrefix E L_strings_CutPrefix) (L_impl_idOk : (List UInt8) → Option (Bool)) (h_impl_idOk : H_impl_idOk E L_impl_idOk) (L_strconv_Itoa : Int → Option (List UInt8)) (h_strconv_Itoa : H_strconv_Itoa E L_strconv_Itoa) (L_impl_verdictOfWords : (List (List UInt8)) → Option (Int × Int × Bool)) (h_impl_verdictOfWords : H_impl_verdictOfWords E L_impl_verdictOfWords) : ∀ (m0 : Nat) (x5 : List (List UInt8)) (x6 : List UInt8) (x9 : Int) (x56 : List (List UInt8)) (x57 : Int) (x58 : Int) (o512 : List TVerdict), gH E [5, 6, 8, 9, 56, 57, 58] b0_impl_ReadReport [KJ.b 0, KJ.c k1_impl_ReadReport] m0 ⟨slotsOf [(5, .d (lstT (cS) x5)), (6, .d (sD x6)), (8, A.row 512 1), (9, .d (.int .i64 x9)), (56, .d (lstT (cS) x56)), (57, .d (.int .i64 x57)), (58, .d (.int .i64 x58))], obsOf [(512, ⟨1, rowT (cVerdict) 43 none o512, false⟩)]⟩ = (impl_ReadReport_l0 L_strings_HasSuffix L_strings_TrimSuffix L_strings_Split L_strings_CutPrefix L_impl_idOk L_strconv_Itoa L_impl_verdictOfWords m0 x5 x6 x9 x56 x57 x58 o512).bind fun r => some (.ret (.tup [.d (sD r.1), ownT (cVerdict) 43 none false r.2.1, .d (.bool r.2.2)]) []) := by
  intro m0
  induction m0 with
  | zero => intros; rfl
  | succ m0 ih =>
    intros
    simp (config := {maxSteps := 40000000}) only [↓rPre, rPost, rCan, rObj, rI, rS, rB, r8, rLI, rLit, rEtc, hy.p, hy.l, hy.k, hy.r, hy.d, hy.w, hy.f, flatIds, oid, r_impl_ReadReport, ↓G_unf _ _ b0_impl_ReadReport.eq_1, ↓G_unf _ _ k1_impl_ReadReport.eq_1, ↓G_unf _ _ c_impl_ReadReport.eq_1, h_strings_HasSuffix.2, h_strings_HasSuffix.1, h_strings_TrimSuffix.2, h_strings_TrimSuffix.1, h_strings_Split.2, h_strings_Split.1, h_strings_CutPrefix.2, h_strings_CutPrefix.1, h_impl_idOk.2, h_impl_idOk.1, h_strconv_Itoa.2, h_strconv_Itoa.1, h_impl_verdictOfWords.2, h_impl_verdictOfWords.1, gH_succ, ih, bind_ite, impl_ReadReport_l0, rRow5, rVerdict, rRow43, rRow9, rRow3, rMap70, rMap75, rLog, ↓reduceIte, Nat.reduceMul, Nat.reduceAdd, Nat.reduceSub, Nat.reduceEqDiff, Nat.reduceBEq, Nat.reduceLeDiff, Nat.reduceLT, reduceCtorEq, Int.reduceAdd, Int.reduceSub, Int.reduceToNat, Int.reduceNeg, Int.reduceEq, Int.reduceLT, Int.reduceLE]
theorem impl_ReadReport_g (E : En) (hy : Hy E [] [] [] r_impl_ReadReport none (fun y => nocap (asOwn (.node [.k, .own 43 2, .k]) y)) flatIds) (L_strings_HasSuffix : (List UInt8) → (List UInt8) → Option (Bool)) (h_strings_HasSuffix : H_strings_HasSuffix E L_strings_HasSuffix) (L_strings_TrimSuffix : (List UInt8) → (List UInt8) → Option (List UInt8)) (h_strings_TrimSuffix : H_strings_TrimSuffix E L_strings_TrimSuffix) (L_strings_Split : (List UInt8) → (List UInt8) → Option (List (List UInt8))) (h_strings_Split : H_strings_Split E L_strings_Split) (L_strings_CutPrefix : (List UInt8) → (List UInt8) → Option (List UInt8 × Bool)) (h_strings_CutPrefix : H_strings_CutPrefix E L_strings_CutPrefix) (L_impl_idOk : (List UInt8) → Option (Bool)) (h_impl_idOk : H_impl_idOk E L_impl_idOk) (L_strconv_Itoa : Int → Option (List UInt8)) (h_strconv_Itoa : H_strconv_Itoa E L_strconv_Itoa) (L_impl_verdictOfWords : (List (List UInt8)) → Option (Int × Int × Bool)) (h_impl_verdictOfWords : H_impl_verdictOfWords E L_impl_verdictOfWords) (a0 : List UInt8) : G E c_impl_ReadReport [] ⟨slotsOf [(0, .d (sD a0))], obsOf []⟩ = (impl_ReadReport_f L_strings_HasSuffix L_strings_TrimSuffix L_strings_Split L_strings_CutPrefix L_impl_idOk L_strconv_Itoa L_impl_verdictOfWords E.n a0).bind fun r => some (.ret (.tup [.d (sD r.1), ownT (cVerdict) 43 none false r.2.1, .d (.bool r.2.2)]) []) := by
  simp (config := {maxSteps := 40000000}) only [↓rPre, rPost, rCan, rObj, rI, rS, rB, r8, rLI, rLit, rEtc, hy.p, hy.l, hy.k, hy.r, hy.d, hy.w, hy.f, flatIds, oid, r_impl_ReadReport, ↓G_unf _ _ b0_impl_ReadReport.eq_1, ↓G_unf _ _ k1_impl_ReadReport.eq_1, ↓G_unf _ _ c_impl_ReadReport.eq_1, h_strings_HasSuffix.2, h_strings_HasSuffix.1, h_strings_TrimSuffix.2, h_strings_TrimSuffix.1, h_strings_Split.2, h_strings_Split.1, h_strings_CutPrefix.2, h_strings_CutPrefix.1, h_impl_idOk.2, h_impl_idOk.1, h_strconv_Itoa.2, h_strconv_Itoa.1, h_impl_verdictOfWords.2, h_impl_verdictOfWords.1, bind_ite, impl_ReadReport_f, impl_ReadReport_l0_eq E hy L_strings_HasSuffix h_strings_HasSuffix L_strings_TrimSuffix h_strings_TrimSuffix L_strings_Split h_strings_Split L_strings_CutPrefix h_strings_CutPrefix L_impl_idOk h_impl_idOk L_strconv_Itoa h_strconv_Itoa L_impl_verdictOfWords h_impl_verdictOfWords, rRow5, rVerdict, rRow43, rRow9, rRow3, rMap70, rMap75, rLog, ↓reduceIte, Nat.reduceMul, Nat.reduceAdd, Nat.reduceSub, Nat.reduceEqDiff, Nat.reduceBEq, Nat.reduceLeDiff, Nat.reduceLT, reduceCtorEq, Int.reduceAdd, Int.reduceSub, Int.reduceToNat, Int.reduceNeg, Int.reduceEq, Int.reduceLT, Int.reduceLE]
def H_impl_ReadReport (E : En) (L : (List UInt8) → Option (List UInt8 × List TVerdict × Bool)) : Prop := E.Γ.mu 6 = false ∧ (∀ (a0 : List UInt8), E.Γ 6 [.d (sD a0)] = (L a0).bind fun r => some (.ret (.tup [.d (sD r.1), ownT (cVerdict) 43 none false r.2.1, .d (.bool r.2.2)]) []))
-- loop.example/s02135/spec.DrawReport
def c_spec_DrawReport : Cd :=
  sq (r [0] [o 2 .mv [s []], o 3 .mv [n]])
  (sq (r [4] [o 6 .mv [t 0], o 7 (.call 11) [t 6], o 4 .mv [t 7]])
   (sq (r [4, 5] [o 8 .mv [t 4], o 9 (.call 13) [t 8], o 5 .mv [t 9]])
    (sq (r [2, 3] [o 10 .mv [t 5], o 11 .mv [t 4], o 12 (.call 14) [t 11], o 2 .mv [t 10], o 3 .mv [t 12]])
     (.ret))))
def r_spec_DrawReport : List RV := [.tmp 2, .tmp 3]
def spec_DrawReport_f (L_spec_l1Open : (List Int) → Option (List Int × Int)) (L_spec_l6Id : (List Int) → Int → Option (List UInt8 × List Int × Int)) (L_spec_l6Verdicts : (List Int) → Int → Option (List TVerdict × List Int × Int)) (N : Nat) (a0 : List Int) : Option (List UInt8 × List TVerdict) :=
  (L_spec_l1Open a0).bind fun y0 =>
  (L_spec_l6Id y0.fst y0.snd).bind fun y1 =>
  (L_spec_l6Verdicts y1.snd.fst y1.snd.snd).bind fun y2 =>
  some ((y1.fst, y2.fst))
theorem spec_DrawReport_g (E : En) (hy : Hy E [] [] [] r_spec_DrawReport none (fun y => nocap y) flatIds) (L_spec_l1Open : (List Int) → Option (List Int × Int)) (h_spec_l1Open : H_spec_l1Open E L_spec_l1Open) (L_spec_l6Id : (List Int) → Int → Option (List UInt8 × List Int × Int)) (h_spec_l6Id : H_spec_l6Id E L_spec_l6Id) (L_spec_l6Verdicts : (List Int) → Int → Option (List TVerdict × List Int × Int)) (h_spec_l6Verdicts : H_spec_l6Verdicts E L_spec_l6Verdicts) (a0 : List Int) : G E c_spec_DrawReport [] ⟨slotsOf [(0, .d (lstT c8 a0))], obsOf []⟩ = (spec_DrawReport_f L_spec_l1Open L_spec_l6Id L_spec_l6Verdicts E.n a0).bind fun r => some (.ret (.tup [.d (sD r.1), ownT (cVerdict) 43 none false r.2]) []) := by
  simp (config := {maxSteps := 40000000}) only [↓rPre, rPost, rCan, rObj, rI, rS, rB, r8, rLI, rLit, rEtc, hy.p, hy.l, hy.k, hy.r, hy.d, hy.w, hy.f, flatIds, oid, r_spec_DrawReport, ↓G_unf _ _ c_spec_DrawReport.eq_1, h_spec_l1Open.2, h_spec_l1Open.1, h_spec_l6Id.2, h_spec_l6Id.1, h_spec_l6Verdicts.2, h_spec_l6Verdicts.1, bind_ite, spec_DrawReport_f, rRow5, rVerdict, rRow43, rRow9, rRow3, rMap70, rMap75, rLog, ↓reduceIte, Nat.reduceMul, Nat.reduceAdd, Nat.reduceSub, Nat.reduceEqDiff, Nat.reduceBEq, Nat.reduceLeDiff, Nat.reduceLT, reduceCtorEq, Int.reduceAdd, Int.reduceSub, Int.reduceToNat, Int.reduceNeg, Int.reduceEq, Int.reduceLT, Int.reduceLE]
def H_spec_DrawReport (E : En) (L : (List Int) → Option (List UInt8 × List TVerdict)) : Prop := E.Γ.mu 7 = false ∧ (∀ (a0 : List Int), E.Γ 7 [.d (lstT c8 a0)] = (L a0).bind fun r => some (.ret (.tup [.d (sD r.1), ownT (cVerdict) 43 none false r.2]) []))
-- strings.Join
def H_strings_Join (E : En) (L : (List (List UInt8)) → (List UInt8) → Option (List UInt8)) : Prop := E.Γ.mu 45 = false ∧ (∀ (a0 : List (List UInt8)) (a1 : List UInt8), E.Γ 45 [.d (lstT cS a0), .d (sD a1)] = (L a0 a1).bind fun r => some (.ret (.d (sD r)) []))
-- (*strings.Builder).WriteString
def H___strings_Builder__WriteString (E : En) (L : Nat → (List UInt8) → (List UInt8) → Option (Int × List UInt8)) : Prop := E.Γ.mu 44 = false ∧ (∀ (T : Nat) (b : List UInt8) (a1 : List UInt8), E.Γ 44 [.res (.bld T 5) (sD b), .d (sD a1)] = (L T b a1).bind fun r => some (.ret (.tup [.d (.int .i64 r.1), .d .nili]) [[sD r.2]]))
-- (*strings.Builder).WriteByte
def H___strings_Builder__WriteByte (E : En) (L : Nat → (List UInt8) → Int → Option (List UInt8)) : Prop := E.Γ.mu 46 = false ∧ (∀ (T : Nat) (b : List UInt8) (a1 : Int), E.Γ 46 [.res (.bld T 5) (sD b), .d (.int .u8 a1)] = (L T b a1).bind fun r => some (.ret (.d .nili) [[sD r]]))
-- (*loop.example/s02135/impl.lines).put
def c___impl_lines__put : Cd :=
  sq (rd [] [0] [o 4 .mv [t 0], o 5 .nilck [t 4], o 6 (.fa 0) [t 5], o 7 .mv [t 1], ap [] false [4, 5] (o 8 (.call 45) [t 7, s [32]]), o 9 (.call 44) [t 6, t 8]])
  (r [0] [o 10 .mv [t 0], o 11 .nilck [t 10], o 12 (.fa 0) [t 11], o 13 (.call 46) [t 12, .k (.d (.int .u8 10))]])
def r___impl_lines__put : List RV := []
def __impl_lines__put_f (L_strings_Join : (List (List UInt8)) → (List UInt8) → Option (List UInt8)) (L___strings_Builder__WriteString : Nat → (List UInt8) → (List UInt8) → Option (Int × List UInt8)) (L___strings_Builder__WriteByte : Nat → (List UInt8) → Int → Option (List UInt8)) (N : Nat) (a0 : List UInt8) (a1 : List (List UInt8)) : Option (List UInt8) :=
  (L_strings_Join a1 [32]).bind fun y0 =>
  (L___strings_Builder__WriteString 58 a0 y0).bind fun y1 =>
  (L___strings_Builder__WriteByte 58 y1.snd 10).bind fun y2 =>
  some y2
theorem __impl_lines__put_g (E : En) (hy : Hy E [0] [0] [(0, .res (.bld 58 5))] r___impl_lines__put none (fun y => nocap y) flatIds) (L_strings_Join : (List (List UInt8)) → (List UInt8) → Option (List UInt8)) (h_strings_Join : H_strings_Join E L_strings_Join) (L___strings_Builder__WriteString : Nat → (List UInt8) → (List UInt8) → Option (Int × List UInt8)) (h___strings_Builder__WriteString : H___strings_Builder__WriteString E L___strings_Builder__WriteString) (L___strings_Builder__WriteByte : Nat → (List UInt8) → Int → Option (List UInt8)) (h___strings_Builder__WriteByte : H___strings_Builder__WriteByte E L___strings_Builder__WriteByte) (a0 : List UInt8) (a1 : List (List UInt8)) : G E c___impl_lines__put [] ⟨slotsOf [(0, .row 0 1), (1, .d (lstT cS a1))], obsOf [(0, ⟨1, .res (.bld 58 5) (sD a0), false⟩)]⟩ = (__impl_lines__put_f L_strings_Join L___strings_Builder__WriteString L___strings_Builder__WriteByte E.n a0 a1).bind fun r => some (.ret (.tup []) [[sD r]]) := by
  simp (config := {maxSteps := 40000000}) only [↓rPre, rPost, rCan, rObj, rI, rS, rB, r8, rLI, rLit, rEtc, hy.p, hy.l, hy.k, hy.r, hy.d, hy.w, hy.f, flatIds, oid, r___impl_lines__put, ↓G_unf _ _ c___impl_lines__put.eq_1, h_strings_Join.2, h_strings_Join.1, h___strings_Builder__WriteString.2, h___strings_Builder__WriteString.1, h___strings_Builder__WriteByte.2, h___strings_Builder__WriteByte.1, bind_ite, __impl_lines__put_f, rRow5, rVerdict, rRow43, rRow9, rRow3, rMap70, rMap75, rLog, ↓reduceIte, Nat.reduceMul, Nat.reduceAdd, Nat.reduceSub, Nat.reduceEqDiff, Nat.reduceBEq, Nat.reduceLeDiff, Nat.reduceLT, reduceCtorEq, Int.reduceAdd, Int.reduceSub, Int.reduceToNat, Int.reduceNeg, Int.reduceEq, Int.reduceLT, Int.reduceLE]
def H___impl_lines__put (E : En) (L : (List UInt8) → (List (List UInt8)) → Option (List UInt8)) : Prop := E.Γ.mu 30 = false ∧ (∀ (a0 : List UInt8) (a1 : List (List UInt8)), E.Γ 30 [.res (.bld 58 5) (sD a0), .d (lstT cS a1)] = (L a0 a1).bind fun r => some (.ret (.tup []) [[sD r]]))
-- loop.example/s02135/impl.verdictWord
def c_impl_verdictWord : Cd :=
  sq (r [1] [o 1 .box [t 0], o 2 .mv [s []]])
  (sq (r [1, 3] [o 4 (.mkR (.map 75 none)) [], e (.mset 75 0 none) [t 4, i 1, s [112, 97, 115, 115]], e (.mset 75 0 none) [t 4, i 2, s [102, 97, 105, 108]], e (.mset 75 0 none) [t 4, i 4, s [102, 117, 101, 108]], e (.mset 75 0 none) [t 4, i 5, s [99, 101, 108, 108, 115]], o 5 .mv [t 4], o 3 .mv [t 5]])
   (sq (sq (r [1, 3, 8] [o 6 (.fa 0) [t 1], o 7 (.ld none) [t 6], o 8 (.bin .eql) [t 7, i 3]])
     (.cond (t 8) (sq (r [2] [o 9 (.fa 1) [t 1], o 10 (.ld none) [t 9], o 11 (.call 25) [t 10], o 12 (.bin .add) [s [101, 114, 114, 111, 114, 32], t 11], o 2 .mv [t 12]])
       (.ret)) (.skip)))
    (sq (r [2] [o 13 .mv [t 3], o 14 (.fa 0) [t 1], o 15 (.ld none) [t 14], o 16 (.mget 75 0 none [(sD [])] false) [t 13, t 15], o 2 .mv [t 16]])
     (.ret))))
def r_impl_verdictWord : List RV := [.tmp 2]
def impl_verdictWord_f (L_strconv_Itoa : Int → Option (List UInt8)) (N : Nat) (a0_Kind : Int) (a0_Code : Int) : Option (List UInt8) :=
  if a0_Kind = 3 then ((L_strconv_Itoa a0_Code).bind fun y0 =>
   if roomS (List.length y0 + 1 + 1 + 1 + 1 + 1 + 1) then some (101 :: 114 :: 114 :: 111 :: 114 :: 32 :: y0)
   else none)
  else some (Option.getD (look (putM (putM (putM (putM [] 1 [112, 97, 115, 115]) 2 [102, 97, 105, 108]) 4 [102, 117, 101, 108]) 5 [99, 101, 108, 108, 115]) a0_Kind) [])
theorem impl_verdictWord_g (E : En) (hy : Hy E [] [] [] r_impl_verdictWord none (fun y => nocap y) flatIds) (L_strconv_Itoa : Int → Option (List UInt8)) (h_strconv_Itoa : H_strconv_Itoa E L_strconv_Itoa) (a0_Kind : Int) (a0_Code : Int) : G E c_impl_verdictWord [] ⟨slotsOf [(0, .agg [.d (.int .i64 a0_Kind), .d (.int .i64 a0_Code)])], obsOf []⟩ = (impl_verdictWord_f L_strconv_Itoa E.n a0_Kind a0_Code).bind fun r => some (.ret (.d (sD r)) []) := by
  simp (config := {maxSteps := 40000000}) only [↓rPre, rPost, rCan, rObj, rI, rS, rB, r8, rLI, rLit, rEtc, hy.p, hy.l, hy.k, hy.r, hy.d, hy.w, hy.f, flatIds, oid, r_impl_verdictWord, ↓G_unf _ _ c_impl_verdictWord.eq_1, h_strconv_Itoa.2, h_strconv_Itoa.1, bind_ite, impl_verdictWord_f, rRow5, rVerdict, rRow43, rRow9, rRow3, rMap70, rMap75, rLog, ↓reduceIte, Nat.reduceMul, Nat.reduceAdd, Nat.reduceSub, Nat.reduceEqDiff, Nat.reduceBEq, Nat.reduceLeDiff, Nat.reduceLT, reduceCtorEq, Int.reduceAdd, Int.reduceSub, Int.reduceToNat, Int.reduceNeg, Int.reduceEq, Int.reduceLT, Int.reduceLE]
def H_impl_verdictWord (E : En) (L : Int → Int → Option (List UInt8)) : Prop := E.Γ.mu 32 = false ∧ (∀ (a0_Kind : Int) (a0_Code : Int), E.Γ 32 [.agg [.d (.int .i64 a0_Kind), .d (.int .i64 a0_Code)]] = (L a0_Kind a0_Code).bind fun r => some (.ret (.d (sD r)) []))
-- (*strings.Builder).String
def H___strings_Builder__String (E : En) (L : Nat → (List UInt8) → Option (List UInt8 × List UInt8)) : Prop := E.Γ.mu 33 = false ∧ (∀ (T : Nat) (b : List UInt8), E.Γ 33 [.res (.bld T 5) (sD b)] = (L T b).bind fun r => some (.ret (.d (sD r.1)) [[sD r.2]]))
-- loop.example/s02135/impl.Report
def b0_impl_Report : Cd :=
  sq (r [1, 6, 7, 21, 22, 23, 24] [o 24 (.bin .lss) [t 23, t 22]])
  (sq (.cond (t 24) (.skip) (.exit 0))
   (sq (.block 1 (sq (r [1, 6, 7, 8, 9, 21, 22, 23] [o 25 .mv [t 23], o 26 (.ia 2) [t 21, t 23], o 27 (.ld (some 2)) [t 26], o 9 (.alloc [(.d (iD 0)), (.d (iD 0))]) [], o 8 .mv [t 25], e (.st 2) [t 9, t 27]])
      (sq (sq (r [1, 6, 7, 8, 9, 21, 22, 23, 30] [o 28 (.ld (some 2)) [t 9], o 29 (.call 31) [t 28], o 30 .not [t 29]])
        (.cond (t 30) (sq (r [4, 5] [o 4 .mv [s []], o 5 .mv [b false]])
          (.ret)) (.skip)))
       (sq (sq (r [1, 6, 7, 8, 9, 21, 22, 23, 33] [o 31 (.fa 0) [t 9], o 32 (.ld none) [t 31], o 33 (.bin .eql) [t 32, i 1]])
         (.cond (t 33) (r [1, 6, 7, 8, 9, 21, 22, 23] [o 34 .mv [t 7], o 35 (.bin .add) [t 34, i 1], o 7 .mv [t 35]]) (.skip)))
        (rd [] [1, 6, 7, 21, 22, 23] [o 36 .mv [t 8], o 37 (.bin .add) [t 36, i 1], o 39 (.ld (some 2)) [t 9], ap [] false [9] (o 38 (.call 25) [t 37]), o 40 (.call 32) [t 39], o 41 (lit 9 1 3) [s [116, 101, 115, 116], t 38, t 40], o 42 (.call 30) [t 6, t 41]])))))
    (r [1, 6, 7, 21, 22, 23] [o 43 (.bin .add) [t 23, i 1], o 23 .mv [t 43]])))
def k1_impl_Report : Cd :=
  sq (r [6] [o 44 .mv [t 7], o 45 (.call 25) [t 44], o 46 .mv [t 1], o 47 (.len false) [t 46], o 48 (.call 25) [t 47], o 49 (lit 9 1 4) [s [112, 97, 115, 115, 101, 100], t 45, s [111, 102], t 48], o 50 (.call 30) [t 6, t 49]])
  (sq (r [4, 5] [o 51 (.fa 0) [t 6], o 52 (.call 33) [t 51], o 4 .mv [t 52], o 5 .mv [b true]])
   (.ret))
def c_impl_Report : Cd :=
  sq (r [0, 1] [o 4 .mv [s []], o 5 .mv [b false]])
  (sq (sq (r [0, 1, 17] [o 10 .mv [t 0], o 11 (.call 24) [t 10], o 12 .not [t 11], o 13 .mv [t 12], g 13 false 14 .mv [t 1], g 13 false 15 (.len false) [t 14], g 13 false 16 (.bin .gtr) [t 15, i 20], o 17 .pick [t 13, b true, t 16]])
    (.cond (t 17) (sq (r [4, 5] [o 4 .mv [s []], o 5 .mv [b false]])
      (.ret)) (.skip)))
   (sq (r [0, 1, 6] [o 6 (.mkR (.bld 58 5)) []])
    (sq (r [1, 6] [o 18 .mv [t 0], o 19 (lit 9 1 2) [s [115, 116, 117, 100, 101, 110, 116], t 18], o 20 (.call 30) [t 6, t 19]])
     (sq (r [1, 6, 7] [o 7 .mv [i 0]])
      (sq (sq (r [1, 6, 7, 21, 22, 23] [o 21 .mv [t 1], o 22 (.len false) [t 21], o 23 .mv [i 0]])
        (.block 0 (.loop [1, 6, 7, 21, 22, 23] b0_impl_Report))) k1_impl_Report)))))
def r_impl_Report : List RV := [.tmp 4, .tmp 5]
def impl_Report_l0 (L_impl_idOk : (List UInt8) → Option (Bool)) (L___impl_lines__put : (List UInt8) → (List (List UInt8)) → Option (List UInt8)) (L_impl_verdictOk : Int → Int → Option (Bool)) (L_strconv_Itoa : Int → Option (List UInt8)) (L_impl_verdictWord : Int → Int → Option (List UInt8)) (L___strings_Builder__String : Nat → (List UInt8) → Option (List UInt8 × List UInt8)) : Nat → (List TVerdict) → Int → (List TVerdict) → Int → Int → (List UInt8) → Option (List UInt8 × Bool)
  | 0, _, _, _, _, _, _ => none
  | m0 + 1, x1, x7, x21, x22, x23, o384 =>
    if x23 < x22 then ((idx x21 x23).bind fun y0 =>
     (L_impl_verdictOk y0.Kind y0.Code).bind fun y1 =>
     if y1 = false then some (([], false))
     else (if y0.Kind = 1 then ((L_strconv_Itoa (w64 (x23 + 1))).bind fun y2 =>
       (L_impl_verdictWord y0.Kind y0.Code).bind fun y3 =>
       (L___impl_lines__put o384 [[116, 101, 115, 116], y2, y3]).bind fun y4 =>
       impl_Report_l0 L_impl_idOk L___impl_lines__put L_impl_verdictOk L_strconv_Itoa L_impl_verdictWord L___strings_Builder__String m0 x1 (w64 (x7 + 1)) x21 x22 (w64 (x23 + 1)) y4)
      else ((L_strconv_Itoa (w64 (x23 + 1))).bind fun y5 =>
       (L_impl_verdictWord y0.Kind y0.Code).bind fun y6 =>
       (L___impl_lines__put o384 [[116, 101, 115, 116], y5, y6]).bind fun y7 =>
       impl_Report_l0 L_impl_idOk L___impl_lines__put L_impl_verdictOk L_strconv_Itoa L_impl_verdictWord L___strings_Builder__String m0 x1 x7 x21 x22 (w64 (x23 + 1)) y7)))
    else ((L_strconv_Itoa x7).bind fun y8 =>
     (L_strconv_Itoa (↑(List.length x1) : Int)).bind fun y9 =>
     (L___impl_lines__put o384 [[112, 97, 115, 115, 101, 100], y8, [111, 102], y9]).bind fun y10 =>
     (L___strings_Builder__String 58 y10).bind fun y11 =>
     some ((y11.fst, true)))
def impl_Report_f (L_impl_idOk : (List UInt8) → Option (Bool)) (L___impl_lines__put : (List UInt8) → (List (List UInt8)) → Option (List UInt8)) (L_impl_verdictOk : Int → Int → Option (Bool)) (L_strconv_Itoa : Int → Option (List UInt8)) (L_impl_verdictWord : Int → Int → Option (List UInt8)) (L___strings_Builder__String : Nat → (List UInt8) → Option (List UInt8 × List UInt8)) (N : Nat) (a0 : List UInt8) (a1 : List TVerdict) : Option (List UInt8 × Bool) :=
  (L_impl_idOk a0).bind fun y0 =>
  if y0 = false then some (([], false))
  else (if 20 < (↑(List.length a1) : Int) then some (([], false))
   else ((L___impl_lines__put [] [[115, 116, 117, 100, 101, 110, 116], a0]).bind fun y1 =>
    impl_Report_l0 L_impl_idOk L___impl_lines__put L_impl_verdictOk L_strconv_Itoa L_impl_verdictWord L___strings_Builder__String N a1 0 a1 ((↑(List.length a1) : Int)) 0 y1))
theorem impl_Report_l0_eq (E : En) (hy : Hy E [] [] [] r_impl_Report none (fun y => nocap y) flatIds) (L_impl_idOk : (List UInt8) → Option (Bool)) (h_impl_idOk : H_impl_idOk E L_impl_idOk) (L___impl_lines__put : (List UInt8) → (List (List UInt8)) → Option (List UInt8)) (h___impl_lines__put : H___impl_lines__put E L___impl_lines__put) (L_impl_verdictOk : Int → Int → Option (Bool)) (h_impl_verdictOk : H_impl_verdictOk E L_impl_verdictOk) (L_strconv_Itoa : Int → Option (List UInt8)) (h_strconv_Itoa : H_strconv_Itoa E L_strconv_Itoa) (L_impl_verdictWord : Int → Int → Option (List UInt8)) (h_impl_verdictWord : H_impl_verdictWord E L_impl_verdictWord) (L___strings_Builder__String : Nat → (List UInt8) → Option (List UInt8 × List UInt8)) (h___strings_Builder__String : H___strings_Builder__String E L___strings_Builder__String) : ∀ (m0 : Nat) (x1 : List TVerdict) (x7 : Int) (x21 : List TVerdict) (x22 : Int) (x23 : Int) (o384 : List UInt8), gH E [1, 6, 7, 21, 22, 23] b0_impl_Report [KJ.b 0, KJ.c k1_impl_Report] m0 ⟨slotsOf [(1, .d (lstT (cVerdict) x1)), (6, A.row 384 1), (7, .d (.int .i64 x7)), (21, .d (lstT (cVerdict) x21)), (22, .d (.int .i64 x22)), (23, .d (.int .i64 x23))], obsOf [(384, ⟨1, .res (.bld 58 5) (sD o384), false⟩)]⟩ = (impl_Report_l0 L_impl_idOk L___impl_lines__put L_impl_verdictOk L_strconv_Itoa L_impl_verdictWord L___strings_Builder__String m0 x1 x7 x21 x22 x23 o384).bind fun r => some (.ret (.tup [.d (sD r.1), .d (.bool r.2)]) []) := by
  intro m0
  induction m0 with
  | zero => intros; rfl
  | succ m0 ih =>
    intros
    simp (config := {maxSteps := 40000000}) only [↓rPre, rPost, rCan, rObj, rI, rS, rB, r8, rLI, rLit, rEtc, hy.p, hy.l, hy.k, hy.r, hy.d, hy.w, hy.f, flatIds, oid, r_impl_Report, ↓G_unf _ _ b0_impl_Report.eq_1, ↓G_unf _ _ k1_impl_Report.eq_1, ↓G_unf _ _ c_impl_Report.eq_1, h_impl_idOk.2, h_impl_idOk.1, h___impl_lines__put.2, h___impl_lines__put.1, h_impl_verdictOk.2, h_impl_verdictOk.1, h_strconv_Itoa.2, h_strconv_Itoa.1, h_impl_verdictWord.2, h_impl_verdictWord.1, h___strings_Builder__String.2, h___strings_Builder__String.1, gH_succ, ih, bind_ite, impl_Report_l0, rRow5, rVerdict, rRow43, rRow9, rRow3, rMap70, rMap75, rLog, ↓reduceIte, Nat.reduceMul, Nat.reduceAdd, Nat.reduceSub, Nat.reduceEqDiff, Nat.reduceBEq, Nat.reduceLeDiff, Nat.reduceLT, reduceCtorEq, Int.reduceAdd, Int.reduceSub, Int.reduceToNat, Int.reduceNeg, Int.reduceEq, Int.reduceLT, Int.reduceLE]
theorem impl_Report_g (E : En) (hy : Hy E [] [] [] r_impl_Report none (fun y => nocap y) flatIds) (L_impl_idOk : (List UInt8) → Option (Bool)) (h_impl_idOk : H_impl_idOk E L_impl_idOk) (L___impl_lines__put : (List UInt8) → (List (List UInt8)) → Option (List UInt8)) (h___impl_lines__put : H___impl_lines__put E L___impl_lines__put) (L_impl_verdictOk : Int → Int → Option (Bool)) (h_impl_verdictOk : H_impl_verdictOk E L_impl_verdictOk) (L_strconv_Itoa : Int → Option (List UInt8)) (h_strconv_Itoa : H_strconv_Itoa E L_strconv_Itoa) (L_impl_verdictWord : Int → Int → Option (List UInt8)) (h_impl_verdictWord : H_impl_verdictWord E L_impl_verdictWord) (L___strings_Builder__String : Nat → (List UInt8) → Option (List UInt8 × List UInt8)) (h___strings_Builder__String : H___strings_Builder__String E L___strings_Builder__String) (a0 : List UInt8) (a1 : List TVerdict) : G E c_impl_Report [] ⟨slotsOf [(0, .d (sD a0)), (1, .d (lstT cVerdict a1))], obsOf []⟩ = (impl_Report_f L_impl_idOk L___impl_lines__put L_impl_verdictOk L_strconv_Itoa L_impl_verdictWord L___strings_Builder__String E.n a0 a1).bind fun r => some (.ret (.tup [.d (sD r.1), .d (.bool r.2)]) []) := by
  simp (config := {maxSteps := 40000000}) only [↓rPre, rPost, rCan, rObj, rI, rS, rB, r8, rLI, rLit, rEtc, hy.p, hy.l, hy.k, hy.r, hy.d, hy.w, hy.f, flatIds, oid, r_impl_Report, ↓G_unf _ _ b0_impl_Report.eq_1, ↓G_unf _ _ k1_impl_Report.eq_1, ↓G_unf _ _ c_impl_Report.eq_1, h_impl_idOk.2, h_impl_idOk.1, h___impl_lines__put.2, h___impl_lines__put.1, h_impl_verdictOk.2, h_impl_verdictOk.1, h_strconv_Itoa.2, h_strconv_Itoa.1, h_impl_verdictWord.2, h_impl_verdictWord.1, h___strings_Builder__String.2, h___strings_Builder__String.1, bind_ite, impl_Report_f, impl_Report_l0_eq E hy L_impl_idOk h_impl_idOk L___impl_lines__put h___impl_lines__put L_impl_verdictOk h_impl_verdictOk L_strconv_Itoa h_strconv_Itoa L_impl_verdictWord h_impl_verdictWord L___strings_Builder__String h___strings_Builder__String, rRow5, rVerdict, rRow43, rRow9, rRow3, rMap70, rMap75, rLog, ↓reduceIte, Nat.reduceMul, Nat.reduceAdd, Nat.reduceSub, Nat.reduceEqDiff, Nat.reduceBEq, Nat.reduceLeDiff, Nat.reduceLT, reduceCtorEq, Int.reduceAdd, Int.reduceSub, Int.reduceToNat, Int.reduceNeg, Int.reduceEq, Int.reduceLT, Int.reduceLE]
def H_impl_Report (E : En) (L : (List UInt8) → (List TVerdict) → Option (List UInt8 × Bool)) : Prop := E.Γ.mu 9 = false ∧ (∀ (a0 : List UInt8) (a1 : List TVerdict), E.Γ 9 [.d (sD a0), .d (lstT cVerdict a1)] = (L a0 a1).bind fun r => some (.ret (.tup [.d (sD r.1), .d (.bool r.2)]) []))
-- loop.example/s02135/spec.SameVerdicts
def b0_spec_SameVerdicts : Cd :=
  sq (sq (r [0, 1, 5, 14] [o 11 .mv [t 5], o 12 .mv [t 0], o 13 (.len false) [t 12], o 14 (.bin .lss) [t 11, t 13]])
   (.cond (t 14) (.skip) (.exit 0)))
  (sq (.block 1 (sq (rd [] [0, 1, 5, 25] [o 17 .mv [t 0], o 18 .mv [t 5], o 19 (.ia 2) [t 17, t 18], o 20 (.ld (some 2)) [t 19], o 21 .mv [t 1], o 22 .mv [t 5], o 23 (.ia 2) [t 21, t 22], o 24 (.ld (some 2)) [t 23], o 25 (.seq true [0, 0]) [t 20, t 24]])
     (.cond (t 25) (sq (r [4] [o 4 .mv [b false]])
       (.ret)) (.skip))))
   (r [0, 1, 5] [o 15 .mv [t 5], o 16 (.bin .add) [t 15, i 1], o 5 .mv [t 16]]))
def k1_spec_SameVerdicts : Cd :=
  sq (r [4] [o 4 .mv [b true]])
  (.ret)
def c_spec_SameVerdicts : Cd :=
  sq (r [0, 1] [o 4 .mv [b false]])
  (sq (sq (r [0, 1, 10] [o 6 .mv [t 0], o 7 (.len false) [t 6], o 8 .mv [t 1], o 9 (.len false) [t 8], o 10 (.bin .neq) [t 7, t 9]])
    (.cond (t 10) (sq (r [4] [o 4 .mv [b false]])
      (.ret)) (.skip)))
   (sq (sq (r [0, 1, 5] [o 5 .mv [i 0]])
     (.block 0 (.loop [0, 1, 5] b0_spec_SameVerdicts))) k1_spec_SameVerdicts))
def r_spec_SameVerdicts : List RV := [.tmp 4]
def spec_SameVerdicts_l0 : Nat → (List TVerdict) → (List TVerdict) → Int → Option (Bool)
  | 0, _, _, _ => none
  | m0 + 1, x0, x1, x5 =>
    if x5 < (↑(List.length x0) : Int) then ((idx x0 x5).bind fun y0 =>
     (idx x1 x5).bind fun y1 =>
     if (Decidable.decide (y0.Kind = y1.Kind) && Decidable.decide (y0.Code = y1.Code)) = false then some false
     else spec_SameVerdicts_l0 m0 x0 x1 (w64 (x5 + 1)))
    else some true
def spec_SameVerdicts_f (N : Nat) (a0 : List TVerdict) (a1 : List TVerdict) : Option (Bool) :=
  if (↑(List.length a0) : Int) = (↑(List.length a1) : Int) then spec_SameVerdicts_l0 N a0 a1 0
  else some false
theorem spec_SameVerdicts_l0_eq (E : En) (hy : Hy E [] [] [] r_spec_SameVerdicts none (fun y => nocap y) flatIds) : ∀ (m0 : Nat) (x0 : List TVerdict) (x1 : List TVerdict) (x5 : Int), gH E [0, 1, 5] b0_spec_SameVerdicts [KJ.b 0, KJ.c k1_spec_SameVerdicts] m0 ⟨slotsOf [(0, .d (lstT (cVerdict) x0)), (1, .d (lstT (cVerdict) x1)), (5, .d (.int .i64 x5))], obsOf []⟩ = (spec_SameVerdicts_l0 m0 x0 x1 x5).bind fun r => some (.ret (.d (.bool r)) []) := by
  intro m0
  induction m0 with
  | zero => intros; rfl
  | succ m0 ih =>
    intros
    simp (config := {maxSteps := 40000000}) only [↓rPre, rPost, rCan, rObj, rI, rS, rB, r8, rLI, rLit, rEtc, hy.p, hy.l, hy.k, hy.r, hy.d, hy.w, hy.f, flatIds, oid, r_spec_SameVerdicts, ↓G_unf _ _ b0_spec_SameVerdicts.eq_1, ↓G_unf _ _ k1_spec_SameVerdicts.eq_1, ↓G_unf _ _ c_spec_SameVerdicts.eq_1, gH_succ, ih, bind_ite, spec_SameVerdicts_l0, rRow5, rVerdict, rRow43, rRow9, rRow3, rMap70, rMap75, rLog, ↓reduceIte, Nat.reduceMul, Nat.reduceAdd, Nat.reduceSub, Nat.reduceEqDiff, Nat.reduceBEq, Nat.reduceLeDiff, Nat.reduceLT, reduceCtorEq, Int.reduceAdd, Int.reduceSub, Int.reduceToNat, Int.reduceNeg, Int.reduceEq, Int.reduceLT, Int.reduceLE]
theorem spec_SameVerdicts_g (E : En) (hy : Hy E [] [] [] r_spec_SameVerdicts none (fun y => nocap y) flatIds) (a0 : List TVerdict) (a1 : List TVerdict) : G E c_spec_SameVerdicts [] ⟨slotsOf [(0, .d (lstT cVerdict a0)), (1, .d (lstT cVerdict a1))], obsOf []⟩ = (spec_SameVerdicts_f E.n a0 a1).bind fun r => some (.ret (.d (.bool r)) []) := by
  simp (config := {maxSteps := 40000000}) only [↓rPre, rPost, rCan, rObj, rI, rS, rB, r8, rLI, rLit, rEtc, hy.p, hy.l, hy.k, hy.r, hy.d, hy.w, hy.f, flatIds, oid, r_spec_SameVerdicts, ↓G_unf _ _ b0_spec_SameVerdicts.eq_1, ↓G_unf _ _ k1_spec_SameVerdicts.eq_1, ↓G_unf _ _ c_spec_SameVerdicts.eq_1, bind_ite, spec_SameVerdicts_f, spec_SameVerdicts_l0_eq E hy, rRow5, rVerdict, rRow43, rRow9, rRow3, rMap70, rMap75, rLog, ↓reduceIte, Nat.reduceMul, Nat.reduceAdd, Nat.reduceSub, Nat.reduceEqDiff, Nat.reduceBEq, Nat.reduceLeDiff, Nat.reduceLT, reduceCtorEq, Int.reduceAdd, Int.reduceSub, Int.reduceToNat, Int.reduceNeg, Int.reduceEq, Int.reduceLT, Int.reduceLE]
def H_spec_SameVerdicts (E : En) (L : (List TVerdict) → (List TVerdict) → Option (Bool)) : Prop := E.Γ.mu 10 = false ∧ (∀ (a0 : List TVerdict) (a1 : List TVerdict), E.Γ 10 [.d (lstT cVerdict a0), .d (lstT cVerdict a1)] = (L a0 a1).bind fun r => some (.ret (.d (.bool r)) []))
-- loop.example/s02135/laws.FnReport
def c_laws_FnReport : Cd :=
  sq (r [0] [o 2 .mv [b false]])
  (sq (sq (r [0, 26] [o 24 .mv [t 0], o 25 (.len false) [t 24], o 26 (.bin .gtr) [t 25, i 1048576]])
    (.cond (t 26) (sq (r [2] [o 2 .mv [b true]])
      (.ret)) (.skip)))
   (sq (r [0, 3] [o 27 .mv [t 0], o 28 (.call 4) [t 27], o 3 .mv [t 28]])
    (sq (r [0, 3, 6] [o 30 .mv [t 3], o 31 (.call 5) [t 30], o 29 .mv [t 31], o 32 (.ext 0) [t 29], o 33 (.ext 1) [t 29], o 34 (.ext 2) [t 29], o 4 .mv [t 32], o 5 .mv [t 33], o 6 .mv [t 34]])
     (sq (r [0, 6, 9] [o 36 .mv [t 3], o 37 (.call 6) [t 36], o 35 .mv [t 37], o 38 (.ext 0) [t 35], o 39 (.ext 1) [t 35], o 40 (.ext 2) [t 35], o 7 .mv [t 38], o 8 .mv [t 39], o 9 .mv [t 40]])
      (sq (r [6, 9, 10, 11] [o 42 .mv [t 0], o 43 (.call 7) [t 42], o 41 .mv [t 43], o 44 (.ext 0) [t 41], o 45 (.ext 1) [t 41], o 10 .mv [t 44], o 11 .mv [t 45]])
       (sq (r [6, 9, 10, 11, 13] [o 47 .mv [t 10], o 48 .mv [t 11], o 49 (.call 8) [t 47, t 48], o 46 .mv [t 49], o 50 (.ext 0) [t 46], o 51 (.ext 1) [t 46], o 12 .mv [t 50], o 13 .mv [t 51]])
        (sq (r [6, 9, 10, 11, 13, 14, 15] [o 53 .mv [t 10], o 54 .mv [t 11], o 55 (.call 9) [t 53, t 54], o 52 .mv [t 55], o 56 (.ext 0) [t 52], o 57 (.ext 1) [t 52], o 14 .mv [t 56], o 15 .mv [t 57]])
         (sq (sq (r [10, 11, 13, 14, 65] [o 58 .mv [t 15], o 59 .mv [t 13], o 60 (.beq true) [t 58, t 59], o 61 .mv [t 60], g 61 false 62 .mv [t 9], g 61 false 63 .mv [t 6], g 61 false 64 (.beq true) [t 62, t 63], o 65 .pick [t 61, b true, t 64]])
           (.cond (t 65) (sq (r [2] [o 2 .mv [b false]])
             (.ret)) (.skip)))
          (sq (sq (r [10, 11, 14, 67] [o 66 .mv [t 13], o 67 .not [t 66]])
            (.cond (t 67) (sq (r [2] [o 68 .mv [t 14], o 69 (.bin .eql) [t 68, s []], o 2 .mv [t 69]])
              (.ret)) (.skip)))
           (sq (r [10, 11, 14, 16, 17, 18] [o 71 .mv [t 14], o 72 (.call 6) [t 71], o 70 .mv [t 72], o 73 (.ext 0) [t 70], o 74 (.ext 1) [t 70], o 75 (.ext 2) [t 70], o 16 .mv [t 73], o 17 .mv [t 74], o 18 .mv [t 75]])
            (sq (r [10, 11, 14, 16, 17, 18, 19, 20] [o 77 .mv [t 11], o 78 (.call 9) [s [120], t 77], o 76 .mv [t 78], o 79 (.ext 0) [t 76], o 80 (.ext 1) [t 76], o 19 .mv [t 79], o 20 .mv [t 80]])
             (sq (r [10, 11, 14, 16, 17, 18, 19, 20, 22, 23] [o 82 .mv [t 19], o 83 (.call 6) [t 82], o 81 .mv [t 83], o 84 (.ext 0) [t 81], o 85 (.ext 1) [t 81], o 86 (.ext 2) [t 81], o 21 .mv [t 84], o 22 .mv [t 85], o 23 .mv [t 86]])
              (sq (sq (r [10, 14, 19, 113] [o 87 .mv [t 18], o 88 .not [t 87], o 89 .mv [t 88], g 89 false 90 .mv [t 16], g 89 false 91 .mv [t 10], g 89 false 92 (.bin .neq) [t 90, t 91], o 93 .pick [t 89, b true, t 92], o 94 .mv [t 93], g 94 false 95 .mv [t 17], g 94 false 96 .mv [t 11], g 94 false 97 (.call 10) [t 95, t 96], g 94 false 98 .not [t 97], o 99 .pick [t 94, b true, t 98], o 100 .mv [t 99], g 100 false 101 .mv [t 20], g 100 false 102 .not [t 101], o 103 .pick [t 100, b true, t 102], o 104 .mv [t 103], g 104 false 105 .mv [t 23], g 104 false 106 .not [t 105], o 107 .pick [t 104, b true, t 106], o 108 .mv [t 107], g 108 false 109 .mv [t 22], g 108 false 110 .mv [t 11], g 108 false 111 (.call 10) [t 109, t 110], g 108 false 112 .not [t 111], o 113 .pick [t 108, b true, t 112]])
                (.cond (t 113) (sq (r [2] [o 2 .mv [b false]])
                  (.ret)) (.skip)))
               (sq (rd [] [2] [o 114 .mv [t 19], o 115 (.len true) [t 114], o 116 (.bin .gtr) [t 115, i 9], o 117 .mv [t 116], g 117 true 118 .mv [t 14], g 117 true 119 (.len true) [t 118], g 117 true 120 .mv [t 10], g 117 true 121 (.len true) [t 120], g 117 true 122 (.bin .add) [i 8, t 121], g 117 true 123 (.bin .gtr) [t 119, t 122], o 124 .pick [t 117, t 123, b false], o 125 .mv [t 124], g 125 true 126 .mv [t 19], g 125 true 127 (.slc true 1 true false) [t 126, i 9], g 125 true 128 .mv [t 14], g 125 true 129 .mv [t 10], g 125 true 130 (.len true) [t 129], g 125 true 131 (.bin .add) [i 8, t 130], g 125 true 132 (.slc true 1 true false) [t 128, t 131], g 125 true 133 (.bin .eql) [t 127, t 132], o 134 .pick [t 125, t 133, b false], o 2 .mv [t 134]])
                (.ret)))))))))))))))
def r_laws_FnReport : List RV := [.tmp 2]
def laws_FnReport_f (L_spec_DrawReadReport : (List Int) → Option (List UInt8)) (L_spec_ReadReport : (List UInt8) → Option (List UInt8 × List TVerdict × Bool)) (L_impl_ReadReport : (List UInt8) → Option (List UInt8 × List TVerdict × Bool)) (L_spec_DrawReport : (List Int) → Option (List UInt8 × List TVerdict)) (L_spec_Report : (List UInt8) → (List TVerdict) → Option (List UInt8 × Bool)) (L_impl_Report : (List UInt8) → (List TVerdict) → Option (List UInt8 × Bool)) (L_spec_SameVerdicts : (List TVerdict) → (List TVerdict) → Option (Bool)) (N : Nat) (a0 : List Int) : Option (Bool) :=
  if 1048576 < (↑(List.length a0) : Int) then some true
  else ((L_spec_DrawReadReport a0).bind fun y0 =>
   (L_spec_ReadReport y0).bind fun y1 =>
   (L_impl_ReadReport y0).bind fun y2 =>
   (L_spec_DrawReport a0).bind fun y3 =>
   (L_spec_Report y3.fst y3.snd).bind fun y4 =>
   (L_impl_Report y3.fst y3.snd).bind fun y5 =>
   if (y5.snd == y4.snd) = false then some false
   else (if (y2.snd.snd == y1.snd.snd) = false then some false
    else (if y4.snd = false then some (Decidable.decide (y5.fst = []))
     else ((L_impl_ReadReport y5.fst).bind fun y6 =>
      (L_impl_Report [120] y3.snd).bind fun y7 =>
      (L_impl_ReadReport y7.fst).bind fun y8 =>
      if y6.snd.snd = false then some false
      else (if y6.fst = y3.fst then ((L_spec_SameVerdicts y6.snd.fst y3.snd).bind fun y9 =>
        if y9 = false then some false
        else (if y7.snd = false then some false
         else (if y8.snd.snd = false then some false
          else ((L_spec_SameVerdicts y8.snd.fst y3.snd).bind fun y10 =>
           if y10 = false then some false
           else (if 9 < (↑(List.length y7.fst) : Int) then (if w64 (8 + (↑(List.length y3.fst) : Int)) < (↑(List.length y5.fst) : Int) then ((cut y7.fst 9 (↑(List.length y7.fst) : Int)).bind fun y11 =>
              (cut y5.fst (w64 (8 + (↑(List.length y3.fst) : Int))) (↑(List.length y5.fst) : Int)).bind fun y12 =>
              some (Decidable.decide (y11 = y12)))
             else some false)
            else some false)))))
       else some false)))))
theorem laws_FnReport_g (E : En) (hy : Hy E [] [] [] r_laws_FnReport none (fun y => nocap y) flatIds) (L_spec_DrawReadReport : (List Int) → Option (List UInt8)) (h_spec_DrawReadReport : H_spec_DrawReadReport E L_spec_DrawReadReport) (L_spec_ReadReport : (List UInt8) → Option (List UInt8 × List TVerdict × Bool)) (h_spec_ReadReport : H_spec_ReadReport E L_spec_ReadReport) (L_impl_ReadReport : (List UInt8) → Option (List UInt8 × List TVerdict × Bool)) (h_impl_ReadReport : H_impl_ReadReport E L_impl_ReadReport) (L_spec_DrawReport : (List Int) → Option (List UInt8 × List TVerdict)) (h_spec_DrawReport : H_spec_DrawReport E L_spec_DrawReport) (L_spec_Report : (List UInt8) → (List TVerdict) → Option (List UInt8 × Bool)) (h_spec_Report : H_spec_Report E L_spec_Report) (L_impl_Report : (List UInt8) → (List TVerdict) → Option (List UInt8 × Bool)) (h_impl_Report : H_impl_Report E L_impl_Report) (L_spec_SameVerdicts : (List TVerdict) → (List TVerdict) → Option (Bool)) (h_spec_SameVerdicts : H_spec_SameVerdicts E L_spec_SameVerdicts) (a0 : List Int) : G E c_laws_FnReport [] ⟨slotsOf [(0, .d (lstT c8 a0))], obsOf []⟩ = (laws_FnReport_f L_spec_DrawReadReport L_spec_ReadReport L_impl_ReadReport L_spec_DrawReport L_spec_Report L_impl_Report L_spec_SameVerdicts E.n a0).bind fun r => some (.ret (.d (.bool r)) []) := by
  simp (config := {maxSteps := 40000000}) only [↓rPre, rPost, rCan, rObj, rI, rS, rB, r8, rLI, rLit, rEtc, hy.p, hy.l, hy.k, hy.r, hy.d, hy.w, hy.f, flatIds, oid, r_laws_FnReport, ↓G_unf _ _ c_laws_FnReport.eq_1, h_spec_DrawReadReport.2, h_spec_DrawReadReport.1, h_spec_ReadReport.2, h_spec_ReadReport.1, h_impl_ReadReport.2, h_impl_ReadReport.1, h_spec_DrawReport.2, h_spec_DrawReport.1, h_spec_Report.2, h_spec_Report.1, h_impl_Report.2, h_impl_Report.1, h_spec_SameVerdicts.2, h_spec_SameVerdicts.1, bind_ite, laws_FnReport_f, rRow5, rVerdict, rRow43, rRow9, rRow3, rMap70, rMap75, rLog, ↓reduceIte, Nat.reduceMul, Nat.reduceAdd, Nat.reduceSub, Nat.reduceEqDiff, Nat.reduceBEq, Nat.reduceLeDiff, Nat.reduceLT, reduceCtorEq, Int.reduceAdd, Int.reduceSub, Int.reduceToNat, Int.reduceNeg, Int.reduceEq, Int.reduceLT, Int.reduceLE]
def H_laws_FnReport (E : En) (L : (List Int) → Option (Bool)) : Prop := E.Γ.mu 3 = false ∧ (∀ (a0 : List Int), E.Γ 3 [.d (lstT c8 a0)] = (L a0).bind fun r => some (.ret (.d (.bool r)) []))
end Go.Vm
