/- The contracts of the functions under laws_FnReport, one upon the other. Printed by a program of this session. -/
import Derived.Test.YtafjdofgafppgaaDoorFFr
import Derived.Test.YtafjdofgafppgaaDoorPFrX
import Derived.Test.YtafjdofgafppgaaDoorLayC
import Derived.Test.YtafjdofgafppgaaDoorBldS
import Derived.Test.YtafjdofgafppgaaDoorVmLayer
import Derived.Test.YtafjdofgafppgaaDoorProg
set_option linter.all false
set_option maxRecDepth 100000
namespace Go.Proofs.YtafjdofgafppgaaDoor.TowFr
open Go.Vm
variable [gl : Gl] [tb : GlTab]
theorem mixed : Tryd.prog.follows .mixedOrders = true := by kernel_rfl
noncomputable def G0 : Ctx := Γ0 flatIds
theorem so0 : SoundAll Tryd.prog G0 := Γ0_sound _ _
-- loop.example/s02135/spec.l1Open
noncomputable def S_spec_l1Open (a0 : List Int) : Option (List Int × Int) := under (pre_spec_l1Open a0) (s_spec_l1Open a0)
def e_spec_l1Open (a : (List Int)) : List X := [.d (lstT c8 a)]
noncomputable def C_spec_l1Open : List X → Option XOut := lay e_spec_l1Open fun a => ((S_spec_l1Open a)).bind fun r => some (.ret (.box [.d (lstT (c8) r.1), .d (.int .i64 r.2)]) [])
theorem C_spec_l1Open_eq (a0 : List Int) : C_spec_l1Open [.d (lstT c8 a0)] = ((S_spec_l1Open a0)).bind fun r => some (.ret (.box [.d (lstT (c8) r.1), .d (.int .i64 r.2)]) []) := lay_eq (enc := e_spec_l1Open) (by
  intro a b h
  simp only [e_spec_l1Open, List.cons.injEq, X.d.injEq, X.res.injEq, RK.bld.injEq, X.agg.injEq, X.box.injEq, D.int.injEq, D.bool.injEq, D.fn.injEq, sD_inj, lstT_inj, ownT_inj, and_true, true_and, and_assoc] at h
  exact h) a0
noncomputable def G1 : Ctx := G0.with 11 C_spec_l1Open
theorem so1 : SoundAll Tryd.prog G1 := by
  refine layer (cuts := [7]) (k := 1) (cd := c_spec_l1Open) (rs := r_spec_l1Open) (enc := e_spec_l1Open) mixed so0 Tryd.func11 (by kernel_rfl) (by kernel_rfl) (by kernel_rfl) (by kernel_rfl) (by kernel_rfl) (by kernel_rfl) (wk := fun y => nocap y) Same.nocap ?_
  intro a out ho
  obtain ⟨r, h1, h2⟩ := Option.bind_eq_some_iff.mp ho
  obtain ⟨hp, rfl⟩ := under_some h1
  obtain ⟨N, hN⟩ := p_spec_l1Open a hp
  refine ⟨N, ?_⟩
  refine ((callF_G (fun y => some (nocap y)) 1 c_spec_l1Open r_spec_l1Open (e_spec_l1Open a) ⟨rfl, rfl, rfl⟩).trans (spec_l1Open_g ⟨G0, [], [], [], N, r_spec_l1Open, none, fun _ _ => none, fun y => some (nocap y)⟩ ⟨rfl, rfl, rfl, rfl, rfl, fun _ => rfl, fun _ => rfl⟩ a)).trans ?_
  show (spec_l1Open_f N a).bind _ = _
  rw [hN]; exact h2
-- (*loop.example/s02135/spec.l1Rd).next
noncomputable def S___spec_l1Rd__next (a0_b : List Int) (a0_p : Int) : Option (Int × List Int × Int) := under (pre___spec_l1Rd__next a0_b a0_p) (s___spec_l1Rd__next a0_b a0_p)
def e___spec_l1Rd__next (a : (List Int) × Int) : List X := [.box [.d (lstT c8 a.1), .d (.int .i64 a.2)]]
noncomputable def C___spec_l1Rd__next : List X → Option XOut := lay e___spec_l1Rd__next fun a => ((S___spec_l1Rd__next a.1 a.2)).bind fun r => some (.ret (.d (.int .i64 r.1)) [[lstT (c8) r.2.1, .int .i64 r.2.2]])
theorem C___spec_l1Rd__next_eq (a0_b : List Int) (a0_p : Int) : C___spec_l1Rd__next [.box [.d (lstT c8 a0_b), .d (.int .i64 a0_p)]] = ((S___spec_l1Rd__next a0_b a0_p)).bind fun r => some (.ret (.d (.int .i64 r.1)) [[lstT (c8) r.2.1, .int .i64 r.2.2]]) := lay_eq (enc := e___spec_l1Rd__next) (by
  intro a b h
  simp only [e___spec_l1Rd__next, List.cons.injEq, X.d.injEq, X.res.injEq, RK.bld.injEq, X.agg.injEq, X.box.injEq, D.int.injEq, D.bool.injEq, D.fn.injEq, sD_inj, lstT_inj, ownT_inj, and_true, true_and, and_assoc] at h
  simp only [Prod.ext_iff]; exact h) (a0_b, a0_p)
noncomputable def G2 : Ctx := G1.with 12 C___spec_l1Rd__next
theorem so2 : SoundAll Tryd.prog G2 := by
  refine layer (cuts := []) (k := 1) (cd := c___spec_l1Rd__next) (rs := r___spec_l1Rd__next) (enc := e___spec_l1Rd__next) mixed so1 Tryd.func12 (by kernel_rfl) (by kernel_rfl) (by kernel_rfl) (by kernel_rfl) (by kernel_rfl) (by kernel_rfl) (wk := fun y => nocap y) Same.nocap ?_
  intro a out ho
  obtain ⟨r, h1, h2⟩ := Option.bind_eq_some_iff.mp ho
  obtain ⟨hp, rfl⟩ := under_some h1
  obtain ⟨N, hN⟩ := p___spec_l1Rd__next a.1 a.2 hp
  refine ⟨N, ?_⟩
  refine ((callF_G (fun y => some (nocap y)) 1 c___spec_l1Rd__next r___spec_l1Rd__next (e___spec_l1Rd__next a) ⟨rfl, rfl, rfl⟩).trans (__spec_l1Rd__next_g ⟨G1, [0], [0], [(0, .box)], N, r___spec_l1Rd__next, none, fun _ _ => none, fun y => some (nocap y)⟩ ⟨rfl, rfl, rfl, rfl, rfl, fun _ => rfl, fun _ => rfl⟩ a.1 a.2)).trans ?_
  show (__spec_l1Rd__next_f N a.1 a.2).bind _ = _
  rw [hN]; exact h2
-- loop.example/s02135/spec.l6Id
noncomputable def S_spec_l6Id (a0_b : List Int) (a0_p : Int) : Option (List UInt8 × List Int × Int) := under (pre_spec_l6Id a0_b a0_p) (s_spec_l6Id a0_b a0_p)
def e_spec_l6Id (a : (List Int) × Int) : List X := [.box [.d (lstT c8 a.1), .d (.int .i64 a.2)]]
noncomputable def C_spec_l6Id : List X → Option XOut := lay e_spec_l6Id fun a => ((S_spec_l6Id a.1 a.2)).bind fun r => some (.ret (.d (sD r.1)) [[lstT (c8) r.2.1, .int .i64 r.2.2]])
theorem C_spec_l6Id_eq (a0_b : List Int) (a0_p : Int) : C_spec_l6Id [.box [.d (lstT c8 a0_b), .d (.int .i64 a0_p)]] = ((S_spec_l6Id a0_b a0_p)).bind fun r => some (.ret (.d (sD r.1)) [[lstT (c8) r.2.1, .int .i64 r.2.2]]) := lay_eq (enc := e_spec_l6Id) (by
  intro a b h
  simp only [e_spec_l6Id, List.cons.injEq, X.d.injEq, X.res.injEq, RK.bld.injEq, X.agg.injEq, X.box.injEq, D.int.injEq, D.bool.injEq, D.fn.injEq, sD_inj, lstT_inj, ownT_inj, and_true, true_and, and_assoc] at h
  simp only [Prod.ext_iff]; exact h) (a0_b, a0_p)
noncomputable def G3 : Ctx := G2.with 13 C_spec_l6Id
theorem so3 : SoundAll Tryd.prog G3 := by
  refine layer (cuts := []) (k := 1) (cd := c_spec_l6Id) (rs := r_spec_l6Id) (enc := e_spec_l6Id) mixed so2 Tryd.func13 (by kernel_rfl) (by kernel_rfl) (by kernel_rfl) (by kernel_rfl) (by kernel_rfl) (by kernel_rfl) (wk := fun y => nocap y) Same.nocap ?_
  intro a out ho
  obtain ⟨r, h1, h2⟩ := Option.bind_eq_some_iff.mp ho
  obtain ⟨hp, rfl⟩ := under_some h1
  obtain ⟨N, hN⟩ := p_spec_l6Id S___spec_l1Rd__next (fun _ _ h => under_pos h) a.1 a.2 hp
  refine ⟨N, ?_⟩
  refine ((callF_G (fun y => some (nocap y)) 1 c_spec_l6Id r_spec_l6Id (e_spec_l6Id a) ⟨rfl, rfl, rfl⟩).trans (spec_l6Id_g ⟨G2, [0], [0], [(0, .box)], N, r_spec_l6Id, none, fun _ _ => none, fun y => some (nocap y)⟩ ⟨rfl, rfl, rfl, rfl, rfl, fun _ => rfl, fun _ => rfl⟩ S___spec_l1Rd__next ⟨rfl, (fun a0_b a0_p => (show G2 12 _ = _ from rfl).trans (C___spec_l1Rd__next_eq a0_b a0_p))⟩ a.1 a.2)).trans ?_
  show (spec_l6Id_f S___spec_l1Rd__next N a.1 a.2).bind _ = _
  rw [hN]; exact h2
-- loop.example/s02135/spec.l6Verdicts
noncomputable def S_spec_l6Verdicts (a0_b : List Int) (a0_p : Int) : Option (List TVerdict × List Int × Int) := under (pre_spec_l6Verdicts a0_b a0_p) (s_spec_l6Verdicts a0_b a0_p)
def e_spec_l6Verdicts (a : (List Int) × Int) : List X := [.box [.d (lstT c8 a.1), .d (.int .i64 a.2)]]
noncomputable def C_spec_l6Verdicts : List X → Option XOut := lay e_spec_l6Verdicts fun a => ((S_spec_l6Verdicts a.1 a.2)).bind fun r => some (.ret (ownT (cVerdict) 43 none false r.1) [[lstT (c8) r.2.1, .int .i64 r.2.2]])
theorem C_spec_l6Verdicts_eq (a0_b : List Int) (a0_p : Int) : C_spec_l6Verdicts [.box [.d (lstT c8 a0_b), .d (.int .i64 a0_p)]] = ((S_spec_l6Verdicts a0_b a0_p)).bind fun r => some (.ret (ownT (cVerdict) 43 none false r.1) [[lstT (c8) r.2.1, .int .i64 r.2.2]]) := lay_eq (enc := e_spec_l6Verdicts) (by
  intro a b h
  simp only [e_spec_l6Verdicts, List.cons.injEq, X.d.injEq, X.res.injEq, RK.bld.injEq, X.agg.injEq, X.box.injEq, D.int.injEq, D.bool.injEq, D.fn.injEq, sD_inj, lstT_inj, ownT_inj, and_true, true_and, and_assoc] at h
  simp only [Prod.ext_iff]; exact h) (a0_b, a0_p)
noncomputable def G4 : Ctx := G3.with 14 C_spec_l6Verdicts
theorem so4 : SoundAll Tryd.prog G4 := by
  refine layer (cuts := []) (k := 1) (cd := c_spec_l6Verdicts) (rs := r_spec_l6Verdicts) (enc := e_spec_l6Verdicts) mixed so3 Tryd.func14 (by kernel_rfl) (by kernel_rfl) (by kernel_rfl) (by kernel_rfl) (by kernel_rfl) (by kernel_rfl) (wk := fun y => nocap y) Same.nocap ?_
  intro a out ho
  obtain ⟨r, h1, h2⟩ := Option.bind_eq_some_iff.mp ho
  obtain ⟨hp, rfl⟩ := under_some h1
  obtain ⟨N, hN⟩ := p_spec_l6Verdicts S___spec_l1Rd__next (fun _ _ h => under_pos h) a.1 a.2 hp
  refine ⟨N, ?_⟩
  refine ((callF_G (fun y => some (nocap y)) 1 c_spec_l6Verdicts r_spec_l6Verdicts (e_spec_l6Verdicts a) ⟨rfl, rfl, rfl⟩).trans (spec_l6Verdicts_g ⟨G3, [0], [0], [(0, .box)], N, r_spec_l6Verdicts, none, fun _ _ => none, fun y => some (nocap y)⟩ ⟨rfl, rfl, rfl, rfl, rfl, fun _ => rfl, fun _ => rfl⟩ S___spec_l1Rd__next ⟨rfl, (fun a0_b a0_p => (show G3 12 _ = _ from rfl).trans (C___spec_l1Rd__next_eq a0_b a0_p))⟩ a.1 a.2)).trans ?_
  show (spec_l6Verdicts_f S___spec_l1Rd__next N a.1 a.2).bind _ = _
  rw [hN]; exact h2
-- loop.example/s02135/spec.l3Digit
noncomputable def S_spec_l3Digit (a0 : Int) : Option (Bool) := under (pre_spec_l3Digit a0) (s_spec_l3Digit a0)
def e_spec_l3Digit (a : Int) : List X := [.d (.int .u8 a)]
noncomputable def C_spec_l3Digit : List X → Option XOut := lay e_spec_l3Digit fun a => ((S_spec_l3Digit a)).bind fun r => some (.ret (.d (.bool r)) [])
theorem C_spec_l3Digit_eq (a0 : Int) : C_spec_l3Digit [.d (.int .u8 a0)] = ((S_spec_l3Digit a0)).bind fun r => some (.ret (.d (.bool r)) []) := lay_eq (enc := e_spec_l3Digit) (by
  intro a b h
  simp only [e_spec_l3Digit, List.cons.injEq, X.d.injEq, X.res.injEq, RK.bld.injEq, X.agg.injEq, X.box.injEq, D.int.injEq, D.bool.injEq, D.fn.injEq, sD_inj, lstT_inj, ownT_inj, and_true, true_and, and_assoc] at h
  exact h) a0
noncomputable def G5 : Ctx := G4.with 42 C_spec_l3Digit
theorem so5 : SoundAll Tryd.prog G5 := by
  refine layer (cuts := []) (k := 1) (cd := c_spec_l3Digit) (rs := r_spec_l3Digit) (enc := e_spec_l3Digit) mixed so4 Tryd.func42 (by kernel_rfl) (by kernel_rfl) (by kernel_rfl) (by kernel_rfl) (by kernel_rfl) (by kernel_rfl) (wk := fun y => nocap y) Same.nocap ?_
  intro a out ho
  obtain ⟨r, h1, h2⟩ := Option.bind_eq_some_iff.mp ho
  obtain ⟨hp, rfl⟩ := under_some h1
  obtain ⟨N, hN⟩ := p_spec_l3Digit a hp
  refine ⟨N, ?_⟩
  refine ((callF_G (fun y => some (nocap y)) 1 c_spec_l3Digit r_spec_l3Digit (e_spec_l3Digit a) ⟨rfl, rfl, rfl⟩).trans (spec_l3Digit_g ⟨G4, [], [], [], N, r_spec_l3Digit, none, fun _ _ => none, fun y => some (nocap y)⟩ ⟨rfl, rfl, rfl, rfl, rfl, fun _ => rfl, fun _ => rfl⟩ a)).trans ?_
  show (spec_l3Digit_f N a).bind _ = _
  rw [hN]; exact h2
-- loop.example/s02135/spec.l3Letter
noncomputable def S_spec_l3Letter (a0 : Int) : Option (Bool) := under (pre_spec_l3Letter a0) (s_spec_l3Letter a0)
def e_spec_l3Letter (a : Int) : List X := [.d (.int .u8 a)]
noncomputable def C_spec_l3Letter : List X → Option XOut := lay e_spec_l3Letter fun a => ((S_spec_l3Letter a)).bind fun r => some (.ret (.d (.bool r)) [])
theorem C_spec_l3Letter_eq (a0 : Int) : C_spec_l3Letter [.d (.int .u8 a0)] = ((S_spec_l3Letter a0)).bind fun r => some (.ret (.d (.bool r)) []) := lay_eq (enc := e_spec_l3Letter) (by
  intro a b h
  simp only [e_spec_l3Letter, List.cons.injEq, X.d.injEq, X.res.injEq, RK.bld.injEq, X.agg.injEq, X.box.injEq, D.int.injEq, D.bool.injEq, D.fn.injEq, sD_inj, lstT_inj, ownT_inj, and_true, true_and, and_assoc] at h
  exact h) a0
noncomputable def G6 : Ctx := G5.with 43 C_spec_l3Letter
theorem so6 : SoundAll Tryd.prog G6 := by
  refine layer (cuts := []) (k := 1) (cd := c_spec_l3Letter) (rs := r_spec_l3Letter) (enc := e_spec_l3Letter) mixed so5 Tryd.func43 (by kernel_rfl) (by kernel_rfl) (by kernel_rfl) (by kernel_rfl) (by kernel_rfl) (by kernel_rfl) (wk := fun y => nocap y) Same.nocap ?_
  intro a out ho
  obtain ⟨r, h1, h2⟩ := Option.bind_eq_some_iff.mp ho
  obtain ⟨hp, rfl⟩ := under_some h1
  obtain ⟨N, hN⟩ := p_spec_l3Letter a hp
  refine ⟨N, ?_⟩
  refine ((callF_G (fun y => some (nocap y)) 1 c_spec_l3Letter r_spec_l3Letter (e_spec_l3Letter a) ⟨rfl, rfl, rfl⟩).trans (spec_l3Letter_g ⟨G5, [], [], [], N, r_spec_l3Letter, none, fun _ _ => none, fun y => some (nocap y)⟩ ⟨rfl, rfl, rfl, rfl, rfl, fun _ => rfl, fun _ => rfl⟩ a)).trans ?_
  show (spec_l3Letter_f N a).bind _ = _
  rw [hN]; exact h2
-- loop.example/s02135/spec.l6IdOk
noncomputable def S_spec_l6IdOk (a0 : List UInt8) : Option (Bool) := under (pre_spec_l6IdOk a0) (s_spec_l6IdOk a0)
def e_spec_l6IdOk (a : (List UInt8)) : List X := [.d (sD a)]
noncomputable def C_spec_l6IdOk : List X → Option XOut := lay e_spec_l6IdOk fun a => ((S_spec_l6IdOk a)).bind fun r => some (.ret (.d (.bool r)) [])
theorem C_spec_l6IdOk_eq (a0 : List UInt8) : C_spec_l6IdOk [.d (sD a0)] = ((S_spec_l6IdOk a0)).bind fun r => some (.ret (.d (.bool r)) []) := lay_eq (enc := e_spec_l6IdOk) (by
  intro a b h
  simp only [e_spec_l6IdOk, List.cons.injEq, X.d.injEq, X.res.injEq, RK.bld.injEq, X.agg.injEq, X.box.injEq, D.int.injEq, D.bool.injEq, D.fn.injEq, sD_inj, lstT_inj, ownT_inj, and_true, true_and, and_assoc] at h
  exact h) a0
noncomputable def G7 : Ctx := G6.with 27 C_spec_l6IdOk
theorem so7 : SoundAll Tryd.prog G7 := by
  refine layer (cuts := []) (k := 1) (cd := c_spec_l6IdOk) (rs := r_spec_l6IdOk) (enc := e_spec_l6IdOk) mixed so6 Tryd.func27 (by kernel_rfl) (by kernel_rfl) (by kernel_rfl) (by kernel_rfl) (by kernel_rfl) (by kernel_rfl) (wk := fun y => nocap y) Same.nocap ?_
  intro a out ho
  obtain ⟨r, h1, h2⟩ := Option.bind_eq_some_iff.mp ho
  obtain ⟨hp, rfl⟩ := under_some h1
  obtain ⟨N, hN⟩ := p_spec_l6IdOk S_spec_l3Digit (fun _ h => under_pos h) S_spec_l3Letter (fun _ h => under_pos h) a hp
  refine ⟨N, ?_⟩
  refine ((callF_G (fun y => some (nocap y)) 1 c_spec_l6IdOk r_spec_l6IdOk (e_spec_l6IdOk a) ⟨rfl, rfl, rfl⟩).trans (spec_l6IdOk_g ⟨G6, [], [], [], N, r_spec_l6IdOk, none, fun _ _ => none, fun y => some (nocap y)⟩ ⟨rfl, rfl, rfl, rfl, rfl, fun _ => rfl, fun _ => rfl⟩ S_spec_l3Digit ⟨rfl, (fun a0 => (show G6 42 _ = _ from rfl).trans (C_spec_l3Digit_eq a0))⟩ S_spec_l3Letter ⟨rfl, (fun a0 => (show G6 43 _ = _ from rfl).trans (C_spec_l3Letter_eq a0))⟩ a)).trans ?_
  show (spec_l6IdOk_f S_spec_l3Digit S_spec_l3Letter N a).bind _ = _
  rw [hN]; exact h2
-- loop.example/s02135/spec.l6VerdictsOk
noncomputable def S_spec_l6VerdictsOk (a0 : List TVerdict) : Option (Bool) := under (pre_spec_l6VerdictsOk a0) (s_spec_l6VerdictsOk a0)
def e_spec_l6VerdictsOk (a : (List TVerdict)) : List X := [.d (lstT cVerdict a)]
noncomputable def C_spec_l6VerdictsOk : List X → Option XOut := lay e_spec_l6VerdictsOk fun a => ((S_spec_l6VerdictsOk a)).bind fun r => some (.ret (.d (.bool r)) [])
theorem C_spec_l6VerdictsOk_eq (a0 : List TVerdict) : C_spec_l6VerdictsOk [.d (lstT cVerdict a0)] = ((S_spec_l6VerdictsOk a0)).bind fun r => some (.ret (.d (.bool r)) []) := lay_eq (enc := e_spec_l6VerdictsOk) (by
  intro a b h
  simp only [e_spec_l6VerdictsOk, List.cons.injEq, X.d.injEq, X.res.injEq, RK.bld.injEq, X.agg.injEq, X.box.injEq, D.int.injEq, D.bool.injEq, D.fn.injEq, sD_inj, lstT_inj, ownT_inj, and_true, true_and, and_assoc] at h
  exact h) a0
noncomputable def G8 : Ctx := G7.with 28 C_spec_l6VerdictsOk
theorem so8 : SoundAll Tryd.prog G8 := by
  refine layer (cuts := []) (k := 1) (cd := c_spec_l6VerdictsOk) (rs := r_spec_l6VerdictsOk) (enc := e_spec_l6VerdictsOk) mixed so7 Tryd.func28 (by kernel_rfl) (by kernel_rfl) (by kernel_rfl) (by kernel_rfl) (by kernel_rfl) (by kernel_rfl) (wk := fun y => nocap y) Same.nocap ?_
  intro a out ho
  obtain ⟨r, h1, h2⟩ := Option.bind_eq_some_iff.mp ho
  obtain ⟨hp, rfl⟩ := under_some h1
  obtain ⟨N, hN⟩ := p_spec_l6VerdictsOk a hp
  refine ⟨N, ?_⟩
  refine ((callF_G (fun y => some (nocap y)) 1 c_spec_l6VerdictsOk r_spec_l6VerdictsOk (e_spec_l6VerdictsOk a) ⟨rfl, rfl, rfl⟩).trans (spec_l6VerdictsOk_g ⟨G7, [], [], [], N, r_spec_l6VerdictsOk, none, fun _ _ => none, fun y => some (nocap y)⟩ ⟨rfl, rfl, rfl, rfl, rfl, fun _ => rfl, fun _ => rfl⟩ a)).trans ?_
  show (spec_l6VerdictsOk_f N a).bind _ = _
  rw [hN]; exact h2
-- loop.example/s02135/spec.l1Dec
noncomputable def S_spec_l1Dec (a0 : Int) : Option (List UInt8) := under (pre_spec_l1Dec a0) (s_spec_l1Dec a0)
def e_spec_l1Dec (a : Int) : List X := [.d (.int .i64 a)]
noncomputable def C_spec_l1Dec : List X → Option XOut := lay e_spec_l1Dec fun a => ((S_spec_l1Dec a)).bind fun r => some (.ret (.d (sD r)) [])
theorem inj_spec_l1Dec : ∀ a b, e_spec_l1Dec a = e_spec_l1Dec b → a = b := by
  intro a b h
  simp only [e_spec_l1Dec, List.cons.injEq, X.d.injEq, X.res.injEq, RK.bld.injEq, X.agg.injEq, X.box.injEq, D.int.injEq, D.bool.injEq, D.fn.injEq, sD_inj, lstT_inj, ownT_inj, and_true, true_and, and_assoc] at h
  exact h
theorem C_spec_l1Dec_eq (a0 : Int) : C_spec_l1Dec [.d (.int .i64 a0)] = ((S_spec_l1Dec a0)).bind fun r => some (.ret (.d (sD r)) []) := lay_eq (enc := e_spec_l1Dec) (by
  intro a b h
  simp only [e_spec_l1Dec, List.cons.injEq, X.d.injEq, X.res.injEq, RK.bld.injEq, X.agg.injEq, X.box.injEq, D.int.injEq, D.bool.injEq, D.fn.injEq, sD_inj, lstT_inj, ownT_inj, and_true, true_and, and_assoc] at h
  exact h) a0
noncomputable def G9 : Ctx := G8.with 19 C_spec_l1Dec
theorem so9 : SoundAll Tryd.prog G9 := by
  refine layer_rec (mu := fun a => mu_spec_l1Dec a) (cuts := []) (k := 1) (cd := c_spec_l1Dec) (rs := r_spec_l1Dec) (enc := e_spec_l1Dec) mixed so8 Tryd.func19 (by kernel_rfl) (by kernel_rfl) (by kernel_rfl) (by kernel_rfl) (by kernel_rfl) (by kernel_rfl) (wk := fun y => nocap y) Same.nocap ?_
  intro j a out ho hj
  obtain ⟨r, h1, h2⟩ := Option.bind_eq_some_iff.mp ho
  obtain ⟨hp, rfl⟩ := under_some h1
  obtain ⟨N, hN⟩ := p_spec_l1Dec (fun a0 => if mu_spec_l1Dec a0 < j then S_spec_l1Dec a0 else none) j (fun _ hm h => (if_pos hm).trans (under_pos h)) a hp hj
  refine ⟨N, ?_⟩
  refine ((callF_G (fun y => some (nocap y)) 1 c_spec_l1Dec r_spec_l1Dec (e_spec_l1Dec a) ⟨rfl, rfl, rfl⟩).trans (spec_l1Dec_g ⟨(G8.with 19 (lay e_spec_l1Dec fun a => if mu_spec_l1Dec a < j then ((S_spec_l1Dec a)).bind fun r => some (.ret (.d (sD r)) []) else none)), [], [], [], N, r_spec_l1Dec, none, fun _ _ => none, fun y => some (nocap y)⟩ ⟨rfl, rfl, rfl, rfl, rfl, fun _ => rfl, fun _ => rfl⟩ (fun a0 => if mu_spec_l1Dec a0 < j then S_spec_l1Dec a0 else none) ⟨rfl, fun a0 => (show (G8.with 19 (lay e_spec_l1Dec fun a => if mu_spec_l1Dec a < j then ((S_spec_l1Dec a)).bind fun r => some (.ret (.d (sD r)) []) else none)) 19 _ = _ from rfl).trans ((lay_eq (β := XOut) (enc := e_spec_l1Dec) (C := fun a => if mu_spec_l1Dec a < j then ((S_spec_l1Dec a)).bind fun r => some (.ret (.d (sD r)) []) else none) inj_spec_l1Dec a0).trans (by dsimp only; split <;> rfl))⟩ a)).trans ?_
  show (spec_l1Dec_f (fun a0 => if mu_spec_l1Dec a0 < j then S_spec_l1Dec a0 else none) N a).bind _ = _
  rw [hN]; exact h2
-- loop.example/s02135/spec.l6Word
noncomputable def S_spec_l6Word (a0_Kind : Int) (a0_Code : Int) : Option (List UInt8) := under (pre_spec_l6Word a0_Kind a0_Code) (s_spec_l6Word a0_Kind a0_Code)
def e_spec_l6Word (a : Int × Int) : List X := [.agg [.d (.int .i64 a.1), .d (.int .i64 a.2)]]
noncomputable def C_spec_l6Word : List X → Option XOut := lay e_spec_l6Word fun a => ((S_spec_l6Word a.1 a.2)).bind fun r => some (.ret (.d (sD r)) [])
theorem C_spec_l6Word_eq (a0_Kind : Int) (a0_Code : Int) : C_spec_l6Word [.agg [.d (.int .i64 a0_Kind), .d (.int .i64 a0_Code)]] = ((S_spec_l6Word a0_Kind a0_Code)).bind fun r => some (.ret (.d (sD r)) []) := lay_eq (enc := e_spec_l6Word) (by
  intro a b h
  simp only [e_spec_l6Word, List.cons.injEq, X.d.injEq, X.res.injEq, RK.bld.injEq, X.agg.injEq, X.box.injEq, D.int.injEq, D.bool.injEq, D.fn.injEq, sD_inj, lstT_inj, ownT_inj, and_true, true_and, and_assoc] at h
  simp only [Prod.ext_iff]; exact h) (a0_Kind, a0_Code)
noncomputable def G10 : Ctx := G9.with 29 C_spec_l6Word
theorem so10 : SoundAll Tryd.prog G10 := by
  refine layer (cuts := []) (k := 1) (cd := c_spec_l6Word) (rs := r_spec_l6Word) (enc := e_spec_l6Word) mixed so9 Tryd.func29 (by kernel_rfl) (by kernel_rfl) (by kernel_rfl) (by kernel_rfl) (by kernel_rfl) (by kernel_rfl) (wk := fun y => nocap y) Same.nocap ?_
  intro a out ho
  obtain ⟨r, h1, h2⟩ := Option.bind_eq_some_iff.mp ho
  obtain ⟨hp, rfl⟩ := under_some h1
  obtain ⟨N, hN⟩ := p_spec_l6Word S_spec_l1Dec (fun _ h => under_pos h) a.1 a.2 hp
  refine ⟨N, ?_⟩
  refine ((callF_G (fun y => some (nocap y)) 1 c_spec_l6Word r_spec_l6Word (e_spec_l6Word a) ⟨rfl, rfl, rfl⟩).trans (spec_l6Word_g ⟨G9, [], [], [], N, r_spec_l6Word, none, fun _ _ => none, fun y => some (nocap y)⟩ ⟨rfl, rfl, rfl, rfl, rfl, fun _ => rfl, fun _ => rfl⟩ S_spec_l1Dec ⟨rfl, (fun a0 => (show G9 19 _ = _ from rfl).trans (C_spec_l1Dec_eq a0))⟩ a.1 a.2)).trans ?_
  show (spec_l6Word_f S_spec_l1Dec N a.1 a.2).bind _ = _
  rw [hN]; exact h2
-- loop.example/s02135/spec.l2Bool
noncomputable def S_spec_l2Bool (a0 : Bool) : Option (Int) := under (pre_spec_l2Bool a0) (s_spec_l2Bool a0)
def e_spec_l2Bool (a : Bool) : List X := [.d (.bool a)]
noncomputable def C_spec_l2Bool : List X → Option XOut := lay e_spec_l2Bool fun a => ((S_spec_l2Bool a)).bind fun r => some (.ret (.d (.int .i64 r)) [])
theorem C_spec_l2Bool_eq (a0 : Bool) : C_spec_l2Bool [.d (.bool a0)] = ((S_spec_l2Bool a0)).bind fun r => some (.ret (.d (.int .i64 r)) []) := lay_eq (enc := e_spec_l2Bool) (by
  intro a b h
  simp only [e_spec_l2Bool, List.cons.injEq, X.d.injEq, X.res.injEq, RK.bld.injEq, X.agg.injEq, X.box.injEq, D.int.injEq, D.bool.injEq, D.fn.injEq, sD_inj, lstT_inj, ownT_inj, and_true, true_and, and_assoc] at h
  exact h) a0
noncomputable def G11 : Ctx := G10.with 15 C_spec_l2Bool
theorem so11 : SoundAll Tryd.prog G11 := by
  refine layer (cuts := []) (k := 1) (cd := c_spec_l2Bool) (rs := r_spec_l2Bool) (enc := e_spec_l2Bool) mixed so10 Tryd.func15 (by kernel_rfl) (by kernel_rfl) (by kernel_rfl) (by kernel_rfl) (by kernel_rfl) (by kernel_rfl) (wk := fun y => nocap y) Same.nocap ?_
  intro a out ho
  obtain ⟨r, h1, h2⟩ := Option.bind_eq_some_iff.mp ho
  obtain ⟨hp, rfl⟩ := under_some h1
  obtain ⟨N, hN⟩ := p_spec_l2Bool a hp
  refine ⟨N, ?_⟩
  refine ((callF_G (fun y => some (nocap y)) 1 c_spec_l2Bool r_spec_l2Bool (e_spec_l2Bool a) ⟨rfl, rfl, rfl⟩).trans (spec_l2Bool_g ⟨G10, [], [], [], N, r_spec_l2Bool, none, fun _ _ => none, fun y => some (nocap y)⟩ ⟨rfl, rfl, rfl, rfl, rfl, fun _ => rfl, fun _ => rfl⟩ a)).trans ?_
  show (spec_l2Bool_f N a).bind _ = _
  rw [hN]; exact h2
-- loop.example/s02135/spec.Report
noncomputable def S_spec_Report (a0 : List UInt8) (a1 : List TVerdict) : Option (List UInt8 × Bool) := under (pre_spec_Report a0 a1) (s_spec_Report a0 a1)
def e_spec_Report (a : (List UInt8) × (List TVerdict)) : List X := [.d (sD a.1), .d (lstT cVerdict a.2)]
noncomputable def C_spec_Report : List X → Option XOut := lay e_spec_Report fun a => ((S_spec_Report a.1 a.2)).bind fun r => some (.ret (.tup [.d (sD r.1), .d (.bool r.2)]) [])
theorem C_spec_Report_eq (a0 : List UInt8) (a1 : List TVerdict) : C_spec_Report [.d (sD a0), .d (lstT cVerdict a1)] = ((S_spec_Report a0 a1)).bind fun r => some (.ret (.tup [.d (sD r.1), .d (.bool r.2)]) []) := lay_eq (enc := e_spec_Report) (by
  intro a b h
  simp only [e_spec_Report, List.cons.injEq, X.d.injEq, X.res.injEq, RK.bld.injEq, X.agg.injEq, X.box.injEq, D.int.injEq, D.bool.injEq, D.fn.injEq, sD_inj, lstT_inj, ownT_inj, and_true, true_and, and_assoc] at h
  simp only [Prod.ext_iff]; exact h) (a0, a1)
noncomputable def G12 : Ctx := G11.with 8 C_spec_Report
theorem so12 : SoundAll Tryd.prog G12 := by
  refine layer (cuts := []) (k := 2) (cd := c_spec_Report) (rs := r_spec_Report) (enc := e_spec_Report) mixed so11 Tryd.func8 (by kernel_rfl) (by kernel_rfl) (by kernel_rfl) (by kernel_rfl) (by kernel_rfl) (by kernel_rfl) (wk := fun y => nocap y) Same.nocap ?_
  intro a out ho
  obtain ⟨r, h1, h2⟩ := Option.bind_eq_some_iff.mp ho
  obtain ⟨hp, rfl⟩ := under_some h1
  obtain ⟨N, hN⟩ := p_spec_Report S_spec_l6IdOk (fun _ h => under_pos h) S_spec_l6VerdictsOk (fun _ h => under_pos h) S_spec_l1Dec (fun _ h => under_pos h) S_spec_l6Word (fun _ _ h => under_pos h) S_spec_l2Bool (fun _ h => under_pos h) a.1 a.2 hp
  refine ⟨N, ?_⟩
  refine ((callF_G (fun y => some (nocap y)) 2 c_spec_Report r_spec_Report (e_spec_Report a) ⟨rfl, rfl, rfl⟩).trans (spec_Report_g ⟨G11, [], [], [], N, r_spec_Report, none, fun _ _ => none, fun y => some (nocap y)⟩ ⟨rfl, rfl, rfl, rfl, rfl, fun _ => rfl, fun _ => rfl⟩ S_spec_l6IdOk ⟨rfl, (fun a0 => (show G11 27 _ = _ from rfl).trans (C_spec_l6IdOk_eq a0))⟩ S_spec_l6VerdictsOk ⟨rfl, (fun a0 => (show G11 28 _ = _ from rfl).trans (C_spec_l6VerdictsOk_eq a0))⟩ S_spec_l1Dec ⟨rfl, (fun a0 => (show G11 19 _ = _ from rfl).trans (C_spec_l1Dec_eq a0))⟩ S_spec_l6Word ⟨rfl, (fun a0_Kind a0_Code => (show G11 29 _ = _ from rfl).trans (C_spec_l6Word_eq a0_Kind a0_Code))⟩ S_spec_l2Bool ⟨rfl, (fun a0 => (show G11 15 _ = _ from rfl).trans (C_spec_l2Bool_eq a0))⟩ a.1 a.2)).trans ?_
  show (spec_Report_f S_spec_l6IdOk S_spec_l6VerdictsOk S_spec_l1Dec S_spec_l6Word S_spec_l2Bool N a.1 a.2).bind _ = _
  rw [hN]; exact h2
-- loop.example/s02135/spec.DrawReadReport
noncomputable def S_spec_DrawReadReport (a0 : List Int) : Option (List UInt8) := under (pre_spec_DrawReadReport a0) (s_spec_DrawReadReport a0)
def e_spec_DrawReadReport (a : (List Int)) : List X := [.d (lstT c8 a)]
noncomputable def C_spec_DrawReadReport : List X → Option XOut := lay e_spec_DrawReadReport fun a => ((S_spec_DrawReadReport a)).bind fun r => some (.ret (.d (sD r)) [])
theorem C_spec_DrawReadReport_eq (a0 : List Int) : C_spec_DrawReadReport [.d (lstT c8 a0)] = ((S_spec_DrawReadReport a0)).bind fun r => some (.ret (.d (sD r)) []) := lay_eq (enc := e_spec_DrawReadReport) (by
  intro a b h
  simp only [e_spec_DrawReadReport, List.cons.injEq, X.d.injEq, X.res.injEq, RK.bld.injEq, X.agg.injEq, X.box.injEq, D.int.injEq, D.bool.injEq, D.fn.injEq, sD_inj, lstT_inj, ownT_inj, and_true, true_and, and_assoc] at h
  exact h) a0
noncomputable def G13 : Ctx := G12.with 4 C_spec_DrawReadReport
theorem so13 : SoundAll Tryd.prog G13 := by
  refine layer (cuts := []) (k := 1) (cd := c_spec_DrawReadReport) (rs := r_spec_DrawReadReport) (enc := e_spec_DrawReadReport) mixed so12 Tryd.func4 (by kernel_rfl) (by kernel_rfl) (by kernel_rfl) (by kernel_rfl) (by kernel_rfl) (by kernel_rfl) (wk := fun y => nocap y) Same.nocap ?_
  intro a out ho
  obtain ⟨r, h1, h2⟩ := Option.bind_eq_some_iff.mp ho
  obtain ⟨hp, rfl⟩ := under_some h1
  obtain ⟨N, hN⟩ := p_spec_DrawReadReport S_spec_l1Open (fun _ h => under_pos h) S___spec_l1Rd__next (fun _ _ h => under_pos h) S_spec_l6Id (fun _ _ h => under_pos h) S_spec_l6Verdicts (fun _ _ h => under_pos h) S_spec_Report (fun _ _ h => under_pos h) S_spec_l2Bool (fun _ h => under_pos h) a hp
  refine ⟨N, ?_⟩
  refine ((callF_G (fun y => some (nocap y)) 1 c_spec_DrawReadReport r_spec_DrawReadReport (e_spec_DrawReadReport a) ⟨rfl, rfl, rfl⟩).trans (spec_DrawReadReport_g ⟨G12, [], [], [], N, r_spec_DrawReadReport, none, fun _ _ => none, fun y => some (nocap y)⟩ ⟨rfl, rfl, rfl, rfl, rfl, fun _ => rfl, fun _ => rfl⟩ S_spec_l1Open ⟨rfl, (fun a0 => (show G12 11 _ = _ from rfl).trans (C_spec_l1Open_eq a0))⟩ S___spec_l1Rd__next ⟨rfl, (fun a0_b a0_p => (show G12 12 _ = _ from rfl).trans (C___spec_l1Rd__next_eq a0_b a0_p))⟩ S_spec_l6Id ⟨rfl, (fun a0_b a0_p => (show G12 13 _ = _ from rfl).trans (C_spec_l6Id_eq a0_b a0_p))⟩ S_spec_l6Verdicts ⟨rfl, (fun a0_b a0_p => (show G12 14 _ = _ from rfl).trans (C_spec_l6Verdicts_eq a0_b a0_p))⟩ S_spec_Report ⟨rfl, (fun a0 a1 => (show G12 8 _ = _ from rfl).trans (C_spec_Report_eq a0 a1))⟩ S_spec_l2Bool ⟨rfl, (fun a0 => (show G12 15 _ = _ from rfl).trans (C_spec_l2Bool_eq a0))⟩ a)).trans ?_
  show (spec_DrawReadReport_f S_spec_l1Open S___spec_l1Rd__next S_spec_l6Id S_spec_l6Verdicts S_spec_Report S_spec_l2Bool N a).bind _ = _
  rw [hN]; exact h2
-- loop.example/s02135/spec.l1Cut
noncomputable def S_spec_l1Cut (a0 : List UInt8) (a1 : Int) : Option (List (List UInt8)) := under (pre_spec_l1Cut a0 a1) (s_spec_l1Cut a0 a1)
def e_spec_l1Cut (a : (List UInt8) × Int) : List X := [.d (sD a.1), .d (.int .u8 a.2)]
noncomputable def C_spec_l1Cut : List X → Option XOut := lay e_spec_l1Cut fun a => ((S_spec_l1Cut a.1 a.2)).bind fun r => some (.ret (ownT (cS) 9 none false r) [])
theorem C_spec_l1Cut_eq (a0 : List UInt8) (a1 : Int) : C_spec_l1Cut [.d (sD a0), .d (.int .u8 a1)] = ((S_spec_l1Cut a0 a1)).bind fun r => some (.ret (ownT (cS) 9 none false r) []) := lay_eq (enc := e_spec_l1Cut) (by
  intro a b h
  simp only [e_spec_l1Cut, List.cons.injEq, X.d.injEq, X.res.injEq, RK.bld.injEq, X.agg.injEq, X.box.injEq, D.int.injEq, D.bool.injEq, D.fn.injEq, sD_inj, lstT_inj, ownT_inj, and_true, true_and, and_assoc] at h
  simp only [Prod.ext_iff]; exact h) (a0, a1)
noncomputable def G14 : Ctx := G13.with 16 C_spec_l1Cut
theorem so14 : SoundAll Tryd.prog G14 := by
  refine layer (cuts := []) (k := 2) (cd := c_spec_l1Cut) (rs := r_spec_l1Cut) (enc := e_spec_l1Cut) mixed so13 Tryd.func16 (by kernel_rfl) (by kernel_rfl) (by kernel_rfl) (by kernel_rfl) (by kernel_rfl) (by kernel_rfl) (wk := fun y => nocap y) Same.nocap ?_
  intro a out ho
  obtain ⟨r, h1, h2⟩ := Option.bind_eq_some_iff.mp ho
  obtain ⟨hp, rfl⟩ := under_some h1
  obtain ⟨N, hN⟩ := p_spec_l1Cut a.1 a.2 hp
  refine ⟨N, ?_⟩
  refine ((callF_G (fun y => some (nocap y)) 2 c_spec_l1Cut r_spec_l1Cut (e_spec_l1Cut a) ⟨rfl, rfl, rfl⟩).trans (spec_l1Cut_g ⟨G13, [], [], [], N, r_spec_l1Cut, none, fun _ _ => none, fun y => some (nocap y)⟩ ⟨rfl, rfl, rfl, rfl, rfl, fun _ => rfl, fun _ => rfl⟩ a.1 a.2)).trans ?_
  show (spec_l1Cut_f N a.1 a.2).bind _ = _
  rw [hN]; exact h2
-- loop.example/s02135/spec.l6After
noncomputable def S_spec_l6After (a0 : List UInt8) (a1 : List UInt8) : Option (List UInt8) := under (pre_spec_l6After a0 a1) (s_spec_l6After a0 a1)
def e_spec_l6After (a : (List UInt8) × (List UInt8)) : List X := [.d (sD a.1), .d (sD a.2)]
noncomputable def C_spec_l6After : List X → Option XOut := lay e_spec_l6After fun a => ((S_spec_l6After a.1 a.2)).bind fun r => some (.ret (.d (sD r)) [])
theorem C_spec_l6After_eq (a0 : List UInt8) (a1 : List UInt8) : C_spec_l6After [.d (sD a0), .d (sD a1)] = ((S_spec_l6After a0 a1)).bind fun r => some (.ret (.d (sD r)) []) := lay_eq (enc := e_spec_l6After) (by
  intro a b h
  simp only [e_spec_l6After, List.cons.injEq, X.d.injEq, X.res.injEq, RK.bld.injEq, X.agg.injEq, X.box.injEq, D.int.injEq, D.bool.injEq, D.fn.injEq, sD_inj, lstT_inj, ownT_inj, and_true, true_and, and_assoc] at h
  simp only [Prod.ext_iff]; exact h) (a0, a1)
noncomputable def G15 : Ctx := G14.with 17 C_spec_l6After
theorem so15 : SoundAll Tryd.prog G15 := by
  refine layer (cuts := []) (k := 2) (cd := c_spec_l6After) (rs := r_spec_l6After) (enc := e_spec_l6After) mixed so14 Tryd.func17 (by kernel_rfl) (by kernel_rfl) (by kernel_rfl) (by kernel_rfl) (by kernel_rfl) (by kernel_rfl) (wk := fun y => nocap y) Same.nocap ?_
  intro a out ho
  obtain ⟨r, h1, h2⟩ := Option.bind_eq_some_iff.mp ho
  obtain ⟨hp, rfl⟩ := under_some h1
  obtain ⟨N, hN⟩ := p_spec_l6After a.1 a.2 hp
  refine ⟨N, ?_⟩
  refine ((callF_G (fun y => some (nocap y)) 2 c_spec_l6After r_spec_l6After (e_spec_l6After a) ⟨rfl, rfl, rfl⟩).trans (spec_l6After_g ⟨G14, [], [], [], N, r_spec_l6After, none, fun _ _ => none, fun y => some (nocap y)⟩ ⟨rfl, rfl, rfl, rfl, rfl, fun _ => rfl, fun _ => rfl⟩ a.1 a.2)).trans ?_
  show (spec_l6After_f N a.1 a.2).bind _ = _
  rw [hN]; exact h2
-- loop.example/s02135/spec.l6Verdict
noncomputable def S_spec_l6Verdict (a0 : List UInt8) : Option (Int × Int) := under (pre_spec_l6Verdict a0) (s_spec_l6Verdict a0)
def e_spec_l6Verdict (a : (List UInt8)) : List X := [.d (sD a)]
noncomputable def C_spec_l6Verdict : List X → Option XOut := lay e_spec_l6Verdict fun a => ((S_spec_l6Verdict a)).bind fun r => some (.ret (.agg [.d (.int .i64 r.1), .d (.int .i64 r.2)]) [])
theorem C_spec_l6Verdict_eq (a0 : List UInt8) : C_spec_l6Verdict [.d (sD a0)] = ((S_spec_l6Verdict a0)).bind fun r => some (.ret (.agg [.d (.int .i64 r.1), .d (.int .i64 r.2)]) []) := lay_eq (enc := e_spec_l6Verdict) (by
  intro a b h
  simp only [e_spec_l6Verdict, List.cons.injEq, X.d.injEq, X.res.injEq, RK.bld.injEq, X.agg.injEq, X.box.injEq, D.int.injEq, D.bool.injEq, D.fn.injEq, sD_inj, lstT_inj, ownT_inj, and_true, true_and, and_assoc] at h
  exact h) a0
noncomputable def G16 : Ctx := G15.with 18 C_spec_l6Verdict
theorem so16 : SoundAll Tryd.prog G16 := by
  refine layer (cuts := []) (k := 1) (cd := c_spec_l6Verdict) (rs := r_spec_l6Verdict) (enc := e_spec_l6Verdict) mixed so15 Tryd.func18 (by kernel_rfl) (by kernel_rfl) (by kernel_rfl) (by kernel_rfl) (by kernel_rfl) (by kernel_rfl) (wk := fun y => nocap y) Same.nocap ?_
  intro a out ho
  obtain ⟨r, h1, h2⟩ := Option.bind_eq_some_iff.mp ho
  obtain ⟨hp, rfl⟩ := under_some h1
  obtain ⟨N, hN⟩ := p_spec_l6Verdict S_spec_l6Word (fun _ _ h => under_pos h) a hp
  refine ⟨N, ?_⟩
  refine ((callF_G (fun y => some (nocap y)) 1 c_spec_l6Verdict r_spec_l6Verdict (e_spec_l6Verdict a) ⟨rfl, rfl, rfl⟩).trans (spec_l6Verdict_g ⟨G15, [], [], [], N, r_spec_l6Verdict, none, fun _ _ => none, fun y => some (nocap y)⟩ ⟨rfl, rfl, rfl, rfl, rfl, fun _ => rfl, fun _ => rfl⟩ S_spec_l6Word ⟨rfl, (fun a0_Kind a0_Code => (show G15 29 _ = _ from rfl).trans (C_spec_l6Word_eq a0_Kind a0_Code))⟩ a)).trans ?_
  show (spec_l6Verdict_f S_spec_l6Word N a).bind _ = _
  rw [hN]; exact h2
-- loop.example/s02135/spec.ReadReport
noncomputable def S_spec_ReadReport (a0 : List UInt8) : Option (List UInt8 × List TVerdict × Bool) := under (pre_spec_ReadReport a0) (s_spec_ReadReport a0)
def e_spec_ReadReport (a : (List UInt8)) : List X := [.d (sD a)]
noncomputable def C_spec_ReadReport : List X → Option XOut := lay e_spec_ReadReport fun a => ((S_spec_ReadReport a)).bind fun r => some (.ret (.tup [.d (sD r.1), ownT (cVerdict) 43 none false r.2.1, .d (.bool r.2.2)]) [])
theorem C_spec_ReadReport_eq (a0 : List UInt8) : C_spec_ReadReport [.d (sD a0)] = ((S_spec_ReadReport a0)).bind fun r => some (.ret (.tup [.d (sD r.1), ownT (cVerdict) 43 none false r.2.1, .d (.bool r.2.2)]) []) := lay_eq (enc := e_spec_ReadReport) (by
  intro a b h
  simp only [e_spec_ReadReport, List.cons.injEq, X.d.injEq, X.res.injEq, RK.bld.injEq, X.agg.injEq, X.box.injEq, D.int.injEq, D.bool.injEq, D.fn.injEq, sD_inj, lstT_inj, ownT_inj, and_true, true_and, and_assoc] at h
  exact h) a0
noncomputable def G17 : Ctx := G16.with 5 C_spec_ReadReport
theorem so17 : SoundAll Tryd.prog G17 := by
  refine layer (cuts := []) (k := 1) (cd := c_spec_ReadReport) (rs := r_spec_ReadReport) (enc := e_spec_ReadReport) mixed so16 Tryd.func5 (by kernel_rfl) (by kernel_rfl) (by kernel_rfl) (by kernel_rfl) (by kernel_rfl) (by kernel_rfl) (wk := fun y => nocap y) Same.nocap ?_
  intro a out ho
  obtain ⟨r, h1, h2⟩ := Option.bind_eq_some_iff.mp ho
  obtain ⟨hp, rfl⟩ := under_some h1
  obtain ⟨N, hN⟩ := p_spec_ReadReport S_spec_l1Cut (fun _ _ h => under_pos h) S_spec_l6After (fun _ _ h => under_pos h) S_spec_l1Dec (fun _ h => under_pos h) S_spec_l6Verdict (fun _ h => under_pos h) S_spec_Report (fun _ _ h => under_pos h) a hp
  refine ⟨N, ?_⟩
  refine ((callF_G (fun y => some (nocap y)) 1 c_spec_ReadReport r_spec_ReadReport (e_spec_ReadReport a) ⟨rfl, rfl, rfl⟩).trans (spec_ReadReport_g ⟨G16, [], [], [], N, r_spec_ReadReport, none, fun _ _ => none, fun y => some (nocap y)⟩ ⟨rfl, rfl, rfl, rfl, rfl, fun _ => rfl, fun _ => rfl⟩ S_spec_l1Cut ⟨rfl, (fun a0 a1 => (show G16 16 _ = _ from rfl).trans (C_spec_l1Cut_eq a0 a1))⟩ S_spec_l6After ⟨rfl, (fun a0 a1 => (show G16 17 _ = _ from rfl).trans (C_spec_l6After_eq a0 a1))⟩ S_spec_l1Dec ⟨rfl, (fun a0 => (show G16 19 _ = _ from rfl).trans (C_spec_l1Dec_eq a0))⟩ S_spec_l6Verdict ⟨rfl, (fun a0 => (show G16 18 _ = _ from rfl).trans (C_spec_l6Verdict_eq a0))⟩ S_spec_Report ⟨rfl, (fun a0 a1 => (show G16 8 _ = _ from rfl).trans (C_spec_Report_eq a0 a1))⟩ a)).trans ?_
  show (spec_ReadReport_f S_spec_l1Cut S_spec_l6After S_spec_l1Dec S_spec_l6Verdict S_spec_Report N a).bind _ = _
  rw [hN]; exact h2
-- internal/stringslite.HasSuffix
noncomputable def S_internal_stringslite_HasSuffix (a0 : List UInt8) (a1 : List UInt8) : Option (Bool) := under (pre_internal_stringslite_HasSuffix a0 a1) (s_internal_stringslite_HasSuffix a0 a1)
def e_internal_stringslite_HasSuffix (a : (List UInt8) × (List UInt8)) : List X := [.d (sD a.1), .d (sD a.2)]
noncomputable def C_internal_stringslite_HasSuffix : List X → Option XOut := lay e_internal_stringslite_HasSuffix fun a => ((S_internal_stringslite_HasSuffix a.1 a.2)).bind fun r => some (.ret (.d (.bool r)) [])
theorem C_internal_stringslite_HasSuffix_eq (a0 : List UInt8) (a1 : List UInt8) : C_internal_stringslite_HasSuffix [.d (sD a0), .d (sD a1)] = ((S_internal_stringslite_HasSuffix a0 a1)).bind fun r => some (.ret (.d (.bool r)) []) := lay_eq (enc := e_internal_stringslite_HasSuffix) (by
  intro a b h
  simp only [e_internal_stringslite_HasSuffix, List.cons.injEq, X.d.injEq, X.res.injEq, RK.bld.injEq, X.agg.injEq, X.box.injEq, D.int.injEq, D.bool.injEq, D.fn.injEq, sD_inj, lstT_inj, ownT_inj, and_true, true_and, and_assoc] at h
  simp only [Prod.ext_iff]; exact h) (a0, a1)
noncomputable def G18 : Ctx := G17.with 34 C_internal_stringslite_HasSuffix
theorem so18 : SoundAll Tryd.prog G18 := by
  refine layer (cuts := []) (k := 2) (cd := c_internal_stringslite_HasSuffix) (rs := r_internal_stringslite_HasSuffix) (enc := e_internal_stringslite_HasSuffix) mixed so17 Tryd.func34 (by kernel_rfl) (by kernel_rfl) (by kernel_rfl) (by kernel_rfl) (by kernel_rfl) (by kernel_rfl) (wk := fun y => nocap y) Same.nocap ?_
  intro a out ho
  obtain ⟨r, h1, h2⟩ := Option.bind_eq_some_iff.mp ho
  obtain ⟨hp, rfl⟩ := under_some h1
  obtain ⟨N, hN⟩ := p_internal_stringslite_HasSuffix a.1 a.2 hp
  refine ⟨N, ?_⟩
  refine ((callF_G (fun y => some (nocap y)) 2 c_internal_stringslite_HasSuffix r_internal_stringslite_HasSuffix (e_internal_stringslite_HasSuffix a) ⟨rfl, rfl, rfl⟩).trans (internal_stringslite_HasSuffix_g ⟨G17, [], [], [], N, r_internal_stringslite_HasSuffix, none, fun _ _ => none, fun y => some (nocap y)⟩ ⟨rfl, rfl, rfl, rfl, rfl, fun _ => rfl, fun _ => rfl⟩ a.1 a.2)).trans ?_
  show (internal_stringslite_HasSuffix_f N a.1 a.2).bind _ = _
  rw [hN]; exact h2
-- strings.HasSuffix
noncomputable def S_strings_HasSuffix (a0 : List UInt8) (a1 : List UInt8) : Option (Bool) := under (pre_strings_HasSuffix a0 a1) (s_strings_HasSuffix a0 a1)
def e_strings_HasSuffix (a : (List UInt8) × (List UInt8)) : List X := [.d (sD a.1), .d (sD a.2)]
noncomputable def C_strings_HasSuffix : List X → Option XOut := lay e_strings_HasSuffix fun a => ((S_strings_HasSuffix a.1 a.2)).bind fun r => some (.ret (.d (.bool r)) [])
theorem C_strings_HasSuffix_eq (a0 : List UInt8) (a1 : List UInt8) : C_strings_HasSuffix [.d (sD a0), .d (sD a1)] = ((S_strings_HasSuffix a0 a1)).bind fun r => some (.ret (.d (.bool r)) []) := lay_eq (enc := e_strings_HasSuffix) (by
  intro a b h
  simp only [e_strings_HasSuffix, List.cons.injEq, X.d.injEq, X.res.injEq, RK.bld.injEq, X.agg.injEq, X.box.injEq, D.int.injEq, D.bool.injEq, D.fn.injEq, sD_inj, lstT_inj, ownT_inj, and_true, true_and, and_assoc] at h
  simp only [Prod.ext_iff]; exact h) (a0, a1)
noncomputable def G19 : Ctx := G18.with 20 C_strings_HasSuffix
theorem so19 : SoundAll Tryd.prog G19 := by
  refine layer (cuts := []) (k := 2) (cd := c_strings_HasSuffix) (rs := r_strings_HasSuffix) (enc := e_strings_HasSuffix) mixed so18 Tryd.func20 (by kernel_rfl) (by kernel_rfl) (by kernel_rfl) (by kernel_rfl) (by kernel_rfl) (by kernel_rfl) (wk := fun y => nocap y) Same.nocap ?_
  intro a out ho
  obtain ⟨r, h1, h2⟩ := Option.bind_eq_some_iff.mp ho
  obtain ⟨hp, rfl⟩ := under_some h1
  obtain ⟨N, hN⟩ := p_strings_HasSuffix S_internal_stringslite_HasSuffix (fun _ _ h => under_pos h) a.1 a.2 hp
  refine ⟨N, ?_⟩
  refine ((callF_G (fun y => some (nocap y)) 2 c_strings_HasSuffix r_strings_HasSuffix (e_strings_HasSuffix a) ⟨rfl, rfl, rfl⟩).trans (strings_HasSuffix_g ⟨G18, [], [], [], N, r_strings_HasSuffix, none, fun _ _ => none, fun y => some (nocap y)⟩ ⟨rfl, rfl, rfl, rfl, rfl, fun _ => rfl, fun _ => rfl⟩ S_internal_stringslite_HasSuffix ⟨rfl, (fun a0 a1 => (show G18 34 _ = _ from rfl).trans (C_internal_stringslite_HasSuffix_eq a0 a1))⟩ a.1 a.2)).trans ?_
  show (strings_HasSuffix_f S_internal_stringslite_HasSuffix N a.1 a.2).bind _ = _
  rw [hN]; exact h2
-- internal/stringslite.TrimSuffix
noncomputable def S_internal_stringslite_TrimSuffix (a0 : List UInt8) (a1 : List UInt8) : Option (List UInt8) := under (pre_internal_stringslite_TrimSuffix a0 a1) (s_internal_stringslite_TrimSuffix a0 a1)
def e_internal_stringslite_TrimSuffix (a : (List UInt8) × (List UInt8)) : List X := [.d (sD a.1), .d (sD a.2)]
noncomputable def C_internal_stringslite_TrimSuffix : List X → Option XOut := lay e_internal_stringslite_TrimSuffix fun a => ((S_internal_stringslite_TrimSuffix a.1 a.2)).bind fun r => some (.ret (.d (sD r)) [])
theorem C_internal_stringslite_TrimSuffix_eq (a0 : List UInt8) (a1 : List UInt8) : C_internal_stringslite_TrimSuffix [.d (sD a0), .d (sD a1)] = ((S_internal_stringslite_TrimSuffix a0 a1)).bind fun r => some (.ret (.d (sD r)) []) := lay_eq (enc := e_internal_stringslite_TrimSuffix) (by
  intro a b h
  simp only [e_internal_stringslite_TrimSuffix, List.cons.injEq, X.d.injEq, X.res.injEq, RK.bld.injEq, X.agg.injEq, X.box.injEq, D.int.injEq, D.bool.injEq, D.fn.injEq, sD_inj, lstT_inj, ownT_inj, and_true, true_and, and_assoc] at h
  simp only [Prod.ext_iff]; exact h) (a0, a1)
noncomputable def G20 : Ctx := G19.with 36 C_internal_stringslite_TrimSuffix
theorem so20 : SoundAll Tryd.prog G20 := by
  refine layer (cuts := []) (k := 2) (cd := c_internal_stringslite_TrimSuffix) (rs := r_internal_stringslite_TrimSuffix) (enc := e_internal_stringslite_TrimSuffix) mixed so19 Tryd.func36 (by kernel_rfl) (by kernel_rfl) (by kernel_rfl) (by kernel_rfl) (by kernel_rfl) (by kernel_rfl) (wk := fun y => nocap y) Same.nocap ?_
  intro a out ho
  obtain ⟨r, h1, h2⟩ := Option.bind_eq_some_iff.mp ho
  obtain ⟨hp, rfl⟩ := under_some h1
  obtain ⟨N, hN⟩ := p_internal_stringslite_TrimSuffix S_internal_stringslite_HasSuffix (fun _ _ h => under_pos h) a.1 a.2 hp
  refine ⟨N, ?_⟩
  refine ((callF_G (fun y => some (nocap y)) 2 c_internal_stringslite_TrimSuffix r_internal_stringslite_TrimSuffix (e_internal_stringslite_TrimSuffix a) ⟨rfl, rfl, rfl⟩).trans (internal_stringslite_TrimSuffix_g ⟨G19, [], [], [], N, r_internal_stringslite_TrimSuffix, none, fun _ _ => none, fun y => some (nocap y)⟩ ⟨rfl, rfl, rfl, rfl, rfl, fun _ => rfl, fun _ => rfl⟩ S_internal_stringslite_HasSuffix ⟨rfl, (fun a0 a1 => (show G19 34 _ = _ from rfl).trans (C_internal_stringslite_HasSuffix_eq a0 a1))⟩ a.1 a.2)).trans ?_
  show (internal_stringslite_TrimSuffix_f S_internal_stringslite_HasSuffix N a.1 a.2).bind _ = _
  rw [hN]; exact h2
-- strings.TrimSuffix
noncomputable def S_strings_TrimSuffix (a0 : List UInt8) (a1 : List UInt8) : Option (List UInt8) := under (pre_strings_TrimSuffix a0 a1) (s_strings_TrimSuffix a0 a1)
def e_strings_TrimSuffix (a : (List UInt8) × (List UInt8)) : List X := [.d (sD a.1), .d (sD a.2)]
noncomputable def C_strings_TrimSuffix : List X → Option XOut := lay e_strings_TrimSuffix fun a => ((S_strings_TrimSuffix a.1 a.2)).bind fun r => some (.ret (.d (sD r)) [])
theorem C_strings_TrimSuffix_eq (a0 : List UInt8) (a1 : List UInt8) : C_strings_TrimSuffix [.d (sD a0), .d (sD a1)] = ((S_strings_TrimSuffix a0 a1)).bind fun r => some (.ret (.d (sD r)) []) := lay_eq (enc := e_strings_TrimSuffix) (by
  intro a b h
  simp only [e_strings_TrimSuffix, List.cons.injEq, X.d.injEq, X.res.injEq, RK.bld.injEq, X.agg.injEq, X.box.injEq, D.int.injEq, D.bool.injEq, D.fn.injEq, sD_inj, lstT_inj, ownT_inj, and_true, true_and, and_assoc] at h
  simp only [Prod.ext_iff]; exact h) (a0, a1)
noncomputable def G21 : Ctx := G20.with 22 C_strings_TrimSuffix
theorem so21 : SoundAll Tryd.prog G21 := by
  refine layer (cuts := []) (k := 2) (cd := c_strings_TrimSuffix) (rs := r_strings_TrimSuffix) (enc := e_strings_TrimSuffix) mixed so20 Tryd.func22 (by kernel_rfl) (by kernel_rfl) (by kernel_rfl) (by kernel_rfl) (by kernel_rfl) (by kernel_rfl) (wk := fun y => nocap y) Same.nocap ?_
  intro a out ho
  obtain ⟨r, h1, h2⟩ := Option.bind_eq_some_iff.mp ho
  obtain ⟨hp, rfl⟩ := under_some h1
  obtain ⟨N, hN⟩ := p_strings_TrimSuffix S_internal_stringslite_TrimSuffix (fun _ _ h => under_pos h) a.1 a.2 hp
  refine ⟨N, ?_⟩
  refine ((callF_G (fun y => some (nocap y)) 2 c_strings_TrimSuffix r_strings_TrimSuffix (e_strings_TrimSuffix a) ⟨rfl, rfl, rfl⟩).trans (strings_TrimSuffix_g ⟨G20, [], [], [], N, r_strings_TrimSuffix, none, fun _ _ => none, fun y => some (nocap y)⟩ ⟨rfl, rfl, rfl, rfl, rfl, fun _ => rfl, fun _ => rfl⟩ S_internal_stringslite_TrimSuffix ⟨rfl, (fun a0 a1 => (show G20 36 _ = _ from rfl).trans (C_internal_stringslite_TrimSuffix_eq a0 a1))⟩ a.1 a.2)).trans ?_
  show (strings_TrimSuffix_f S_internal_stringslite_TrimSuffix N a.1 a.2).bind _ = _
  rw [hN]; exact h2
-- strings.Split
noncomputable def S_strings_Split (a0 : List UInt8) (a1 : List UInt8) : Option (List (List UInt8)) := under (pre_strings_Split a0 a1) (s_strings_Split a0 a1)
def e_strings_Split (a : (List UInt8) × (List UInt8)) : List X := [.d (sD a.1), .d (sD a.2)]
noncomputable def C_strings_Split : List X → Option XOut := lay e_strings_Split fun a => ((S_strings_Split a.1 a.2)).bind fun r => some (.ret (.d (lstT cS r)) [])
theorem C_strings_Split_eq (a0 : List UInt8) (a1 : List UInt8) : C_strings_Split [.d (sD a0), .d (sD a1)] = ((S_strings_Split a0 a1)).bind fun r => some (.ret (.d (lstT cS r)) []) := lay_eq (enc := e_strings_Split) (by
  intro a b h
  simp only [e_strings_Split, List.cons.injEq, X.d.injEq, X.res.injEq, RK.bld.injEq, X.agg.injEq, X.box.injEq, D.int.injEq, D.bool.injEq, D.fn.injEq, sD_inj, lstT_inj, ownT_inj, and_true, true_and, and_assoc] at h
  simp only [Prod.ext_iff]; exact h) (a0, a1)
noncomputable def G22 : Ctx := G21.with 21 C_strings_Split
theorem so22 : SoundAll Tryd.prog G22 := so21.with (sound_Split (enc := e_strings_Split) (fun _ => rfl) (fun a out ho => by
  obtain ⟨r, h1, h2⟩ := Option.bind_eq_some_iff.mp ho
  obtain ⟨hp, rfl⟩ := under_some h1
  exact ⟨q_strings_Split hp, (Option.some.inj h2).symm⟩))
-- internal/stringslite.HasPrefix
noncomputable def S_internal_stringslite_HasPrefix (a0 : List UInt8) (a1 : List UInt8) : Option (Bool) := under (pre_internal_stringslite_HasPrefix a0 a1) (s_internal_stringslite_HasPrefix a0 a1)
def e_internal_stringslite_HasPrefix (a : (List UInt8) × (List UInt8)) : List X := [.d (sD a.1), .d (sD a.2)]
noncomputable def C_internal_stringslite_HasPrefix : List X → Option XOut := lay e_internal_stringslite_HasPrefix fun a => ((S_internal_stringslite_HasPrefix a.1 a.2)).bind fun r => some (.ret (.d (.bool r)) [])
theorem C_internal_stringslite_HasPrefix_eq (a0 : List UInt8) (a1 : List UInt8) : C_internal_stringslite_HasPrefix [.d (sD a0), .d (sD a1)] = ((S_internal_stringslite_HasPrefix a0 a1)).bind fun r => some (.ret (.d (.bool r)) []) := lay_eq (enc := e_internal_stringslite_HasPrefix) (by
  intro a b h
  simp only [e_internal_stringslite_HasPrefix, List.cons.injEq, X.d.injEq, X.res.injEq, RK.bld.injEq, X.agg.injEq, X.box.injEq, D.int.injEq, D.bool.injEq, D.fn.injEq, sD_inj, lstT_inj, ownT_inj, and_true, true_and, and_assoc] at h
  simp only [Prod.ext_iff]; exact h) (a0, a1)
noncomputable def G23 : Ctx := G22.with 50 C_internal_stringslite_HasPrefix
theorem so23 : SoundAll Tryd.prog G23 := by
  refine layer (cuts := []) (k := 2) (cd := c_internal_stringslite_HasPrefix) (rs := r_internal_stringslite_HasPrefix) (enc := e_internal_stringslite_HasPrefix) mixed so22 Tryd.func50 (by kernel_rfl) (by kernel_rfl) (by kernel_rfl) (by kernel_rfl) (by kernel_rfl) (by kernel_rfl) (wk := fun y => nocap y) Same.nocap ?_
  intro a out ho
  obtain ⟨r, h1, h2⟩ := Option.bind_eq_some_iff.mp ho
  obtain ⟨hp, rfl⟩ := under_some h1
  obtain ⟨N, hN⟩ := p_internal_stringslite_HasPrefix a.1 a.2 hp
  refine ⟨N, ?_⟩
  refine ((callF_G (fun y => some (nocap y)) 2 c_internal_stringslite_HasPrefix r_internal_stringslite_HasPrefix (e_internal_stringslite_HasPrefix a) ⟨rfl, rfl, rfl⟩).trans (internal_stringslite_HasPrefix_g ⟨G22, [], [], [], N, r_internal_stringslite_HasPrefix, none, fun _ _ => none, fun y => some (nocap y)⟩ ⟨rfl, rfl, rfl, rfl, rfl, fun _ => rfl, fun _ => rfl⟩ a.1 a.2)).trans ?_
  show (internal_stringslite_HasPrefix_f N a.1 a.2).bind _ = _
  rw [hN]; exact h2
-- internal/stringslite.CutPrefix
noncomputable def S_internal_stringslite_CutPrefix (a0 : List UInt8) (a1 : List UInt8) : Option (List UInt8 × Bool) := under (pre_internal_stringslite_CutPrefix a0 a1) (s_internal_stringslite_CutPrefix a0 a1)
def e_internal_stringslite_CutPrefix (a : (List UInt8) × (List UInt8)) : List X := [.d (sD a.1), .d (sD a.2)]
noncomputable def C_internal_stringslite_CutPrefix : List X → Option XOut := lay e_internal_stringslite_CutPrefix fun a => ((S_internal_stringslite_CutPrefix a.1 a.2)).bind fun r => some (.ret (.tup [.d (sD r.1), .d (.bool r.2)]) [])
theorem C_internal_stringslite_CutPrefix_eq (a0 : List UInt8) (a1 : List UInt8) : C_internal_stringslite_CutPrefix [.d (sD a0), .d (sD a1)] = ((S_internal_stringslite_CutPrefix a0 a1)).bind fun r => some (.ret (.tup [.d (sD r.1), .d (.bool r.2)]) []) := lay_eq (enc := e_internal_stringslite_CutPrefix) (by
  intro a b h
  simp only [e_internal_stringslite_CutPrefix, List.cons.injEq, X.d.injEq, X.res.injEq, RK.bld.injEq, X.agg.injEq, X.box.injEq, D.int.injEq, D.bool.injEq, D.fn.injEq, sD_inj, lstT_inj, ownT_inj, and_true, true_and, and_assoc] at h
  simp only [Prod.ext_iff]; exact h) (a0, a1)
noncomputable def G24 : Ctx := G23.with 37 C_internal_stringslite_CutPrefix
theorem so24 : SoundAll Tryd.prog G24 := by
  refine layer (cuts := []) (k := 2) (cd := c_internal_stringslite_CutPrefix) (rs := r_internal_stringslite_CutPrefix) (enc := e_internal_stringslite_CutPrefix) mixed so23 Tryd.func37 (by kernel_rfl) (by kernel_rfl) (by kernel_rfl) (by kernel_rfl) (by kernel_rfl) (by kernel_rfl) (wk := fun y => nocap y) Same.nocap ?_
  intro a out ho
  obtain ⟨r, h1, h2⟩ := Option.bind_eq_some_iff.mp ho
  obtain ⟨hp, rfl⟩ := under_some h1
  obtain ⟨N, hN⟩ := p_internal_stringslite_CutPrefix S_internal_stringslite_HasPrefix (fun _ _ h => under_pos h) a.1 a.2 hp
  refine ⟨N, ?_⟩
  refine ((callF_G (fun y => some (nocap y)) 2 c_internal_stringslite_CutPrefix r_internal_stringslite_CutPrefix (e_internal_stringslite_CutPrefix a) ⟨rfl, rfl, rfl⟩).trans (internal_stringslite_CutPrefix_g ⟨G23, [], [], [], N, r_internal_stringslite_CutPrefix, none, fun _ _ => none, fun y => some (nocap y)⟩ ⟨rfl, rfl, rfl, rfl, rfl, fun _ => rfl, fun _ => rfl⟩ S_internal_stringslite_HasPrefix ⟨rfl, (fun a0 a1 => (show G23 50 _ = _ from rfl).trans (C_internal_stringslite_HasPrefix_eq a0 a1))⟩ a.1 a.2)).trans ?_
  show (internal_stringslite_CutPrefix_f S_internal_stringslite_HasPrefix N a.1 a.2).bind _ = _
  rw [hN]; exact h2
-- strings.CutPrefix
noncomputable def S_strings_CutPrefix (a0 : List UInt8) (a1 : List UInt8) : Option (List UInt8 × Bool) := under (pre_strings_CutPrefix a0 a1) (s_strings_CutPrefix a0 a1)
def e_strings_CutPrefix (a : (List UInt8) × (List UInt8)) : List X := [.d (sD a.1), .d (sD a.2)]
noncomputable def C_strings_CutPrefix : List X → Option XOut := lay e_strings_CutPrefix fun a => ((S_strings_CutPrefix a.1 a.2)).bind fun r => some (.ret (.tup [.d (sD r.1), .d (.bool r.2)]) [])
theorem C_strings_CutPrefix_eq (a0 : List UInt8) (a1 : List UInt8) : C_strings_CutPrefix [.d (sD a0), .d (sD a1)] = ((S_strings_CutPrefix a0 a1)).bind fun r => some (.ret (.tup [.d (sD r.1), .d (.bool r.2)]) []) := lay_eq (enc := e_strings_CutPrefix) (by
  intro a b h
  simp only [e_strings_CutPrefix, List.cons.injEq, X.d.injEq, X.res.injEq, RK.bld.injEq, X.agg.injEq, X.box.injEq, D.int.injEq, D.bool.injEq, D.fn.injEq, sD_inj, lstT_inj, ownT_inj, and_true, true_and, and_assoc] at h
  simp only [Prod.ext_iff]; exact h) (a0, a1)
noncomputable def G25 : Ctx := G24.with 23 C_strings_CutPrefix
theorem so25 : SoundAll Tryd.prog G25 := by
  refine layer (cuts := []) (k := 2) (cd := c_strings_CutPrefix) (rs := r_strings_CutPrefix) (enc := e_strings_CutPrefix) mixed so24 Tryd.func23 (by kernel_rfl) (by kernel_rfl) (by kernel_rfl) (by kernel_rfl) (by kernel_rfl) (by kernel_rfl) (wk := fun y => nocap y) Same.nocap ?_
  intro a out ho
  obtain ⟨r, h1, h2⟩ := Option.bind_eq_some_iff.mp ho
  obtain ⟨hp, rfl⟩ := under_some h1
  obtain ⟨N, hN⟩ := p_strings_CutPrefix S_internal_stringslite_CutPrefix (fun _ _ h => under_pos h) a.1 a.2 hp
  refine ⟨N, ?_⟩
  refine ((callF_G (fun y => some (nocap y)) 2 c_strings_CutPrefix r_strings_CutPrefix (e_strings_CutPrefix a) ⟨rfl, rfl, rfl⟩).trans (strings_CutPrefix_g ⟨G24, [], [], [], N, r_strings_CutPrefix, none, fun _ _ => none, fun y => some (nocap y)⟩ ⟨rfl, rfl, rfl, rfl, rfl, fun _ => rfl, fun _ => rfl⟩ S_internal_stringslite_CutPrefix ⟨rfl, (fun a0 a1 => (show G24 37 _ = _ from rfl).trans (C_internal_stringslite_CutPrefix_eq a0 a1))⟩ a.1 a.2)).trans ?_
  show (strings_CutPrefix_f S_internal_stringslite_CutPrefix N a.1 a.2).bind _ = _
  rw [hN]; exact h2
-- loop.example/s02135/impl.isDigit
noncomputable def S_impl_isDigit (a0 : Int) : Option (Bool) := under (pre_impl_isDigit a0) (s_impl_isDigit a0)
def e_impl_isDigit (a : Int) : List X := [.d (.int .u8 a)]
noncomputable def C_impl_isDigit : List X → Option XOut := lay e_impl_isDigit fun a => ((S_impl_isDigit a)).bind fun r => some (.ret (.d (.bool r)) [])
theorem C_impl_isDigit_eq (a0 : Int) : C_impl_isDigit [.d (.int .u8 a0)] = ((S_impl_isDigit a0)).bind fun r => some (.ret (.d (.bool r)) []) := lay_eq (enc := e_impl_isDigit) (by
  intro a b h
  simp only [e_impl_isDigit, List.cons.injEq, X.d.injEq, X.res.injEq, RK.bld.injEq, X.agg.injEq, X.box.injEq, D.int.injEq, D.bool.injEq, D.fn.injEq, sD_inj, lstT_inj, ownT_inj, and_true, true_and, and_assoc] at h
  exact h) a0
noncomputable def G26 : Ctx := G25.with 38 C_impl_isDigit
theorem so26 : SoundAll Tryd.prog G26 := by
  refine layer (cuts := []) (k := 1) (cd := c_impl_isDigit) (rs := r_impl_isDigit) (enc := e_impl_isDigit) mixed so25 Tryd.func38 (by kernel_rfl) (by kernel_rfl) (by kernel_rfl) (by kernel_rfl) (by kernel_rfl) (by kernel_rfl) (wk := fun y => nocap y) Same.nocap ?_
  intro a out ho
  obtain ⟨r, h1, h2⟩ := Option.bind_eq_some_iff.mp ho
  obtain ⟨hp, rfl⟩ := under_some h1
  obtain ⟨N, hN⟩ := p_impl_isDigit a hp
  refine ⟨N, ?_⟩
  refine ((callF_G (fun y => some (nocap y)) 1 c_impl_isDigit r_impl_isDigit (e_impl_isDigit a) ⟨rfl, rfl, rfl⟩).trans (impl_isDigit_g ⟨G25, [], [], [], N, r_impl_isDigit, none, fun _ _ => none, fun y => some (nocap y)⟩ ⟨rfl, rfl, rfl, rfl, rfl, fun _ => rfl, fun _ => rfl⟩ a)).trans ?_
  show (impl_isDigit_f N a).bind _ = _
  rw [hN]; exact h2
-- loop.example/s02135/impl.isLetter
noncomputable def S_impl_isLetter (a0 : Int) : Option (Bool) := under (pre_impl_isLetter a0) (s_impl_isLetter a0)
def e_impl_isLetter (a : Int) : List X := [.d (.int .u8 a)]
noncomputable def C_impl_isLetter : List X → Option XOut := lay e_impl_isLetter fun a => ((S_impl_isLetter a)).bind fun r => some (.ret (.d (.bool r)) [])
theorem C_impl_isLetter_eq (a0 : Int) : C_impl_isLetter [.d (.int .u8 a0)] = ((S_impl_isLetter a0)).bind fun r => some (.ret (.d (.bool r)) []) := lay_eq (enc := e_impl_isLetter) (by
  intro a b h
  simp only [e_impl_isLetter, List.cons.injEq, X.d.injEq, X.res.injEq, RK.bld.injEq, X.agg.injEq, X.box.injEq, D.int.injEq, D.bool.injEq, D.fn.injEq, sD_inj, lstT_inj, ownT_inj, and_true, true_and, and_assoc] at h
  exact h) a0
noncomputable def G27 : Ctx := G26.with 39 C_impl_isLetter
theorem so27 : SoundAll Tryd.prog G27 := by
  refine layer (cuts := []) (k := 1) (cd := c_impl_isLetter) (rs := r_impl_isLetter) (enc := e_impl_isLetter) mixed so26 Tryd.func39 (by kernel_rfl) (by kernel_rfl) (by kernel_rfl) (by kernel_rfl) (by kernel_rfl) (by kernel_rfl) (wk := fun y => nocap y) Same.nocap ?_
  intro a out ho
  obtain ⟨r, h1, h2⟩ := Option.bind_eq_some_iff.mp ho
  obtain ⟨hp, rfl⟩ := under_some h1
  obtain ⟨N, hN⟩ := p_impl_isLetter a hp
  refine ⟨N, ?_⟩
  refine ((callF_G (fun y => some (nocap y)) 1 c_impl_isLetter r_impl_isLetter (e_impl_isLetter a) ⟨rfl, rfl, rfl⟩).trans (impl_isLetter_g ⟨G26, [], [], [], N, r_impl_isLetter, none, fun _ _ => none, fun y => some (nocap y)⟩ ⟨rfl, rfl, rfl, rfl, rfl, fun _ => rfl, fun _ => rfl⟩ a)).trans ?_
  show (impl_isLetter_f N a).bind _ = _
  rw [hN]; exact h2
-- loop.example/s02135/impl.idOk
noncomputable def S_impl_idOk (a0 : List UInt8) : Option (Bool) := under (pre_impl_idOk a0) (s_impl_idOk a0)
def e_impl_idOk (a : (List UInt8)) : List X := [.d (sD a)]
noncomputable def C_impl_idOk : List X → Option XOut := lay e_impl_idOk fun a => ((S_impl_idOk a)).bind fun r => some (.ret (.d (.bool r)) [])
theorem C_impl_idOk_eq (a0 : List UInt8) : C_impl_idOk [.d (sD a0)] = ((S_impl_idOk a0)).bind fun r => some (.ret (.d (.bool r)) []) := lay_eq (enc := e_impl_idOk) (by
  intro a b h
  simp only [e_impl_idOk, List.cons.injEq, X.d.injEq, X.res.injEq, RK.bld.injEq, X.agg.injEq, X.box.injEq, D.int.injEq, D.bool.injEq, D.fn.injEq, sD_inj, lstT_inj, ownT_inj, and_true, true_and, and_assoc] at h
  exact h) a0
noncomputable def G28 : Ctx := G27.with 24 C_impl_idOk
theorem so28 : SoundAll Tryd.prog G28 := by
  refine layer (cuts := []) (k := 1) (cd := c_impl_idOk) (rs := r_impl_idOk) (enc := e_impl_idOk) mixed so27 Tryd.func24 (by kernel_rfl) (by kernel_rfl) (by kernel_rfl) (by kernel_rfl) (by kernel_rfl) (by kernel_rfl) (wk := fun y => nocap y) Same.nocap ?_
  intro a out ho
  obtain ⟨r, h1, h2⟩ := Option.bind_eq_some_iff.mp ho
  obtain ⟨hp, rfl⟩ := under_some h1
  obtain ⟨N, hN⟩ := p_impl_idOk S_impl_isDigit (fun _ h => under_pos h) S_impl_isLetter (fun _ h => under_pos h) a hp
  refine ⟨N, ?_⟩
  refine ((callF_G (fun y => some (nocap y)) 1 c_impl_idOk r_impl_idOk (e_impl_idOk a) ⟨rfl, rfl, rfl⟩).trans (impl_idOk_g ⟨G27, [], [], [], N, r_impl_idOk, none, fun _ _ => none, fun y => some (nocap y)⟩ ⟨rfl, rfl, rfl, rfl, rfl, fun _ => rfl, fun _ => rfl⟩ S_impl_isDigit ⟨rfl, (fun a0 => (show G27 38 _ = _ from rfl).trans (C_impl_isDigit_eq a0))⟩ S_impl_isLetter ⟨rfl, (fun a0 => (show G27 39 _ = _ from rfl).trans (C_impl_isLetter_eq a0))⟩ a)).trans ?_
  show (impl_idOk_f S_impl_isDigit S_impl_isLetter N a).bind _ = _
  rw [hN]; exact h2
-- strconv.Itoa
noncomputable def S_strconv_Itoa (a0 : Int) : Option (List UInt8) := under (pre_strconv_Itoa a0) (s_strconv_Itoa a0)
def e_strconv_Itoa (a : Int) : List X := [.d (.int .i64 a)]
noncomputable def C_strconv_Itoa : List X → Option XOut := lay e_strconv_Itoa fun a => ((S_strconv_Itoa a)).bind fun r => some (.ret (.d (sD r)) [])
theorem C_strconv_Itoa_eq (a0 : Int) : C_strconv_Itoa [.d (.int .i64 a0)] = ((S_strconv_Itoa a0)).bind fun r => some (.ret (.d (sD r)) []) := lay_eq (enc := e_strconv_Itoa) (by
  intro a b h
  simp only [e_strconv_Itoa, List.cons.injEq, X.d.injEq, X.res.injEq, RK.bld.injEq, X.agg.injEq, X.box.injEq, D.int.injEq, D.bool.injEq, D.fn.injEq, sD_inj, lstT_inj, ownT_inj, and_true, true_and, and_assoc] at h
  exact h) a0
noncomputable def G29 : Ctx := G28.with 25 C_strconv_Itoa
theorem so29 : SoundAll Tryd.prog G29 := so28.with (sound_Itoa (enc := e_strconv_Itoa) (fun _ => rfl) (fun a out ho => by
  obtain ⟨r, h1, h2⟩ := Option.bind_eq_some_iff.mp ho
  obtain ⟨hp, rfl⟩ := under_some h1
  exact ⟨q_strconv_Itoa hp, (Option.some.inj h2).symm⟩))
-- strconv.Atoi
noncomputable def S_strconv_Atoi (a0 : List UInt8) : Option (Alt Int Int) := under (pre_strconv_Atoi a0) (s_strconv_Atoi a0)
def e_strconv_Atoi (a : (List UInt8)) : List X := [.d (sD a)]
noncomputable def C_strconv_Atoi : List X → Option XOut := lay e_strconv_Atoi fun a => ((S_strconv_Atoi a)).bind fun r => r.on (fun r => some (.ret (.tup [.d (.int .i64 r), .d .nili]) [])) (fun r => some (.ret (.tup [.d (.int .i64 r), .d (.iface 95 .opq)]) []))
theorem C_strconv_Atoi_eq (a0 : List UInt8) : C_strconv_Atoi [.d (sD a0)] = ((S_strconv_Atoi a0)).bind fun r => r.on (fun r => some (.ret (.tup [.d (.int .i64 r), .d .nili]) [])) (fun r => some (.ret (.tup [.d (.int .i64 r), .d (.iface 95 .opq)]) [])) := lay_eq (enc := e_strconv_Atoi) (by
  intro a b h
  simp only [e_strconv_Atoi, List.cons.injEq, X.d.injEq, X.res.injEq, RK.bld.injEq, X.agg.injEq, X.box.injEq, D.int.injEq, D.bool.injEq, D.fn.injEq, sD_inj, lstT_inj, ownT_inj, and_true, true_and, and_assoc] at h
  exact h) a0
noncomputable def G30 : Ctx := G29.with 41 C_strconv_Atoi
theorem so30 : SoundAll Tryd.prog G30 := so29.with (sound_Atoi (enc := e_strconv_Atoi) (fun _ => rfl) (fun a out ho => by
  obtain ⟨r, h1, h2⟩ := Option.bind_eq_some_iff.mp ho
  obtain ⟨hp, rfl⟩ := under_some h1
  exact ⟨q_strconv_Atoi hp, h2⟩))
-- loop.example/s02135/impl.verdictOk
noncomputable def S_impl_verdictOk (a0_Kind : Int) (a0_Code : Int) : Option (Bool) := under (pre_impl_verdictOk a0_Kind a0_Code) (s_impl_verdictOk a0_Kind a0_Code)
def e_impl_verdictOk (a : Int × Int) : List X := [.agg [.d (.int .i64 a.1), .d (.int .i64 a.2)]]
noncomputable def C_impl_verdictOk : List X → Option XOut := lay e_impl_verdictOk fun a => ((S_impl_verdictOk a.1 a.2)).bind fun r => some (.ret (.d (.bool r)) [])
theorem C_impl_verdictOk_eq (a0_Kind : Int) (a0_Code : Int) : C_impl_verdictOk [.agg [.d (.int .i64 a0_Kind), .d (.int .i64 a0_Code)]] = ((S_impl_verdictOk a0_Kind a0_Code)).bind fun r => some (.ret (.d (.bool r)) []) := lay_eq (enc := e_impl_verdictOk) (by
  intro a b h
  simp only [e_impl_verdictOk, List.cons.injEq, X.d.injEq, X.res.injEq, RK.bld.injEq, X.agg.injEq, X.box.injEq, D.int.injEq, D.bool.injEq, D.fn.injEq, sD_inj, lstT_inj, ownT_inj, and_true, true_and, and_assoc] at h
  simp only [Prod.ext_iff]; exact h) (a0_Kind, a0_Code)
noncomputable def G31 : Ctx := G30.with 31 C_impl_verdictOk
theorem so31 : SoundAll Tryd.prog G31 := by
  refine layer (cuts := []) (k := 1) (cd := c_impl_verdictOk) (rs := r_impl_verdictOk) (enc := e_impl_verdictOk) mixed so30 Tryd.func31 (by kernel_rfl) (by kernel_rfl) (by kernel_rfl) (by kernel_rfl) (by kernel_rfl) (by kernel_rfl) (wk := fun y => nocap y) Same.nocap ?_
  intro a out ho
  obtain ⟨r, h1, h2⟩ := Option.bind_eq_some_iff.mp ho
  obtain ⟨hp, rfl⟩ := under_some h1
  obtain ⟨N, hN⟩ := p_impl_verdictOk a.1 a.2 hp
  refine ⟨N, ?_⟩
  refine ((callF_G (fun y => some (nocap y)) 1 c_impl_verdictOk r_impl_verdictOk (e_impl_verdictOk a) ⟨rfl, rfl, rfl⟩).trans (impl_verdictOk_g ⟨G30, [], [], [], N, r_impl_verdictOk, none, fun _ _ => none, fun y => some (nocap y)⟩ ⟨rfl, rfl, rfl, rfl, rfl, fun _ => rfl, fun _ => rfl⟩ a.1 a.2)).trans ?_
  show (impl_verdictOk_f N a.1 a.2).bind _ = _
  rw [hN]; exact h2
-- loop.example/s02135/impl.verdictOfWords
noncomputable def S_impl_verdictOfWords (a0 : List (List UInt8)) : Option (Int × Int × Bool) := under (pre_impl_verdictOfWords a0) (s_impl_verdictOfWords a0)
def e_impl_verdictOfWords (a : (List (List UInt8))) : List X := [.d (lstT cS a)]
noncomputable def C_impl_verdictOfWords : List X → Option XOut := lay e_impl_verdictOfWords fun a => ((S_impl_verdictOfWords a)).bind fun r => some (.ret (.tup [.agg [.d (.int .i64 r.1), .d (.int .i64 r.2.1)], .d (.bool r.2.2)]) [])
theorem C_impl_verdictOfWords_eq (a0 : List (List UInt8)) : C_impl_verdictOfWords [.d (lstT cS a0)] = ((S_impl_verdictOfWords a0)).bind fun r => some (.ret (.tup [.agg [.d (.int .i64 r.1), .d (.int .i64 r.2.1)], .d (.bool r.2.2)]) []) := lay_eq (enc := e_impl_verdictOfWords) (by
  intro a b h
  simp only [e_impl_verdictOfWords, List.cons.injEq, X.d.injEq, X.res.injEq, RK.bld.injEq, X.agg.injEq, X.box.injEq, D.int.injEq, D.bool.injEq, D.fn.injEq, sD_inj, lstT_inj, ownT_inj, and_true, true_and, and_assoc] at h
  exact h) a0
noncomputable def G32 : Ctx := G31.with 26 C_impl_verdictOfWords
theorem so32 : SoundAll Tryd.prog G32 := by
  refine layer (cuts := []) (k := 1) (cd := c_impl_verdictOfWords) (rs := r_impl_verdictOfWords) (enc := e_impl_verdictOfWords) mixed so31 Tryd.func26 (by kernel_rfl) (by kernel_rfl) (by kernel_rfl) (by kernel_rfl) (by kernel_rfl) (by kernel_rfl) (wk := fun y => nocap y) Same.nocap ?_
  intro a out ho
  obtain ⟨r, h1, h2⟩ := Option.bind_eq_some_iff.mp ho
  obtain ⟨hp, rfl⟩ := under_some h1
  obtain ⟨N, hN⟩ := p_impl_verdictOfWords S_strconv_Atoi (fun _ h => under_pos h) S_strconv_Itoa (fun _ h => under_pos h) S_impl_verdictOk (fun _ _ h => under_pos h) a hp
  refine ⟨N, ?_⟩
  refine ((callF_G (fun y => some (nocap y)) 1 c_impl_verdictOfWords r_impl_verdictOfWords (e_impl_verdictOfWords a) ⟨rfl, rfl, rfl⟩).trans (impl_verdictOfWords_g ⟨G31, [], [], [], N, r_impl_verdictOfWords, none, fun _ _ => none, fun y => some (nocap y)⟩ ⟨rfl, rfl, rfl, rfl, rfl, fun _ => rfl, fun _ => rfl⟩ S_strconv_Atoi ⟨rfl, (fun a0 => (show G31 41 _ = _ from rfl).trans (C_strconv_Atoi_eq a0))⟩ S_strconv_Itoa ⟨rfl, (fun a0 => (show G31 25 _ = _ from rfl).trans (C_strconv_Itoa_eq a0))⟩ S_impl_verdictOk ⟨rfl, (fun a0_Kind a0_Code => (show G31 31 _ = _ from rfl).trans (C_impl_verdictOk_eq a0_Kind a0_Code))⟩ a)).trans ?_
  show (impl_verdictOfWords_f S_strconv_Atoi S_strconv_Itoa S_impl_verdictOk N a).bind _ = _
  rw [hN]; exact h2
-- loop.example/s02135/impl.ReadReport
noncomputable def S_impl_ReadReport (a0 : List UInt8) : Option (List UInt8 × List TVerdict × Bool) := under (pre_impl_ReadReport a0) (s_impl_ReadReport a0)
def e_impl_ReadReport (a : (List UInt8)) : List X := [.d (sD a)]
noncomputable def C_impl_ReadReport : List X → Option XOut := lay e_impl_ReadReport fun a => ((S_impl_ReadReport a)).bind fun r => some (.ret (.tup [.d (sD r.1), ownT (cVerdict) 43 none false r.2.1, .d (.bool r.2.2)]) [])
theorem C_impl_ReadReport_eq (a0 : List UInt8) : C_impl_ReadReport [.d (sD a0)] = ((S_impl_ReadReport a0)).bind fun r => some (.ret (.tup [.d (sD r.1), ownT (cVerdict) 43 none false r.2.1, .d (.bool r.2.2)]) []) := lay_eq (enc := e_impl_ReadReport) (by
  intro a b h
  simp only [e_impl_ReadReport, List.cons.injEq, X.d.injEq, X.res.injEq, RK.bld.injEq, X.agg.injEq, X.box.injEq, D.int.injEq, D.bool.injEq, D.fn.injEq, sD_inj, lstT_inj, ownT_inj, and_true, true_and, and_assoc] at h
  exact h) a0
noncomputable def G33 : Ctx := G32.with 6 C_impl_ReadReport
theorem so33 : SoundAll Tryd.prog G33 := by
  refine layer (cuts := []) (k := 1) (cd := c_impl_ReadReport) (rs := r_impl_ReadReport) (enc := e_impl_ReadReport) mixed so32 Tryd.func6 (by kernel_rfl) (by kernel_rfl) (by kernel_rfl) (by kernel_rfl) (by kernel_rfl) (by kernel_rfl) (wk := fun y => nocap (asOwn (.node [.k, .own 43 2, .k]) y)) (Same.comp Same.nocap (Same.own (.node [.k, .own 43 2, .k]))) ?_
  intro a out ho
  obtain ⟨r, h1, h2⟩ := Option.bind_eq_some_iff.mp ho
  obtain ⟨hp, rfl⟩ := under_some h1
  obtain ⟨N, hN⟩ := p_impl_ReadReport S_strings_HasSuffix (fun _ _ h => under_pos h) S_strings_TrimSuffix (fun _ _ h => under_pos h) S_strings_Split (fun _ _ h => under_pos h) S_strings_CutPrefix (fun _ _ h => under_pos h) S_impl_idOk (fun _ h => under_pos h) S_strconv_Itoa (fun _ h => under_pos h) S_impl_verdictOfWords (fun _ h => under_pos h) a hp
  refine ⟨N, ?_⟩
  refine ((callF_G (fun y => some (nocap (asOwn (.node [.k, .own 43 2, .k]) y))) 1 c_impl_ReadReport r_impl_ReadReport (e_impl_ReadReport a) ⟨rfl, rfl, rfl⟩).trans (impl_ReadReport_g ⟨G32, [], [], [], N, r_impl_ReadReport, none, fun _ _ => none, fun y => some (nocap (asOwn (.node [.k, .own 43 2, .k]) y))⟩ ⟨rfl, rfl, rfl, rfl, rfl, fun _ => rfl, fun _ => rfl⟩ S_strings_HasSuffix ⟨rfl, (fun a0 a1 => (show G32 20 _ = _ from rfl).trans (C_strings_HasSuffix_eq a0 a1))⟩ S_strings_TrimSuffix ⟨rfl, (fun a0 a1 => (show G32 22 _ = _ from rfl).trans (C_strings_TrimSuffix_eq a0 a1))⟩ S_strings_Split ⟨rfl, (fun a0 a1 => (show G32 21 _ = _ from rfl).trans (C_strings_Split_eq a0 a1))⟩ S_strings_CutPrefix ⟨rfl, (fun a0 a1 => (show G32 23 _ = _ from rfl).trans (C_strings_CutPrefix_eq a0 a1))⟩ S_impl_idOk ⟨rfl, (fun a0 => (show G32 24 _ = _ from rfl).trans (C_impl_idOk_eq a0))⟩ S_strconv_Itoa ⟨rfl, (fun a0 => (show G32 25 _ = _ from rfl).trans (C_strconv_Itoa_eq a0))⟩ S_impl_verdictOfWords ⟨rfl, (fun a0 => (show G32 26 _ = _ from rfl).trans (C_impl_verdictOfWords_eq a0))⟩ a)).trans ?_
  show (impl_ReadReport_f S_strings_HasSuffix S_strings_TrimSuffix S_strings_Split S_strings_CutPrefix S_impl_idOk S_strconv_Itoa S_impl_verdictOfWords N a).bind _ = _
  rw [hN]; exact h2
-- loop.example/s02135/spec.DrawReport
noncomputable def S_spec_DrawReport (a0 : List Int) : Option (List UInt8 × List TVerdict) := under (pre_spec_DrawReport a0) (s_spec_DrawReport a0)
def e_spec_DrawReport (a : (List Int)) : List X := [.d (lstT c8 a)]
noncomputable def C_spec_DrawReport : List X → Option XOut := lay e_spec_DrawReport fun a => ((S_spec_DrawReport a)).bind fun r => some (.ret (.tup [.d (sD r.1), ownT (cVerdict) 43 none false r.2]) [])
theorem C_spec_DrawReport_eq (a0 : List Int) : C_spec_DrawReport [.d (lstT c8 a0)] = ((S_spec_DrawReport a0)).bind fun r => some (.ret (.tup [.d (sD r.1), ownT (cVerdict) 43 none false r.2]) []) := lay_eq (enc := e_spec_DrawReport) (by
  intro a b h
  simp only [e_spec_DrawReport, List.cons.injEq, X.d.injEq, X.res.injEq, RK.bld.injEq, X.agg.injEq, X.box.injEq, D.int.injEq, D.bool.injEq, D.fn.injEq, sD_inj, lstT_inj, ownT_inj, and_true, true_and, and_assoc] at h
  exact h) a0
noncomputable def G34 : Ctx := G33.with 7 C_spec_DrawReport
theorem so34 : SoundAll Tryd.prog G34 := by
  refine layer (cuts := []) (k := 1) (cd := c_spec_DrawReport) (rs := r_spec_DrawReport) (enc := e_spec_DrawReport) mixed so33 Tryd.func7 (by kernel_rfl) (by kernel_rfl) (by kernel_rfl) (by kernel_rfl) (by kernel_rfl) (by kernel_rfl) (wk := fun y => nocap y) Same.nocap ?_
  intro a out ho
  obtain ⟨r, h1, h2⟩ := Option.bind_eq_some_iff.mp ho
  obtain ⟨hp, rfl⟩ := under_some h1
  obtain ⟨N, hN⟩ := p_spec_DrawReport S_spec_l1Open (fun _ h => under_pos h) S_spec_l6Id (fun _ _ h => under_pos h) S_spec_l6Verdicts (fun _ _ h => under_pos h) a hp
  refine ⟨N, ?_⟩
  refine ((callF_G (fun y => some (nocap y)) 1 c_spec_DrawReport r_spec_DrawReport (e_spec_DrawReport a) ⟨rfl, rfl, rfl⟩).trans (spec_DrawReport_g ⟨G33, [], [], [], N, r_spec_DrawReport, none, fun _ _ => none, fun y => some (nocap y)⟩ ⟨rfl, rfl, rfl, rfl, rfl, fun _ => rfl, fun _ => rfl⟩ S_spec_l1Open ⟨rfl, (fun a0 => (show G33 11 _ = _ from rfl).trans (C_spec_l1Open_eq a0))⟩ S_spec_l6Id ⟨rfl, (fun a0_b a0_p => (show G33 13 _ = _ from rfl).trans (C_spec_l6Id_eq a0_b a0_p))⟩ S_spec_l6Verdicts ⟨rfl, (fun a0_b a0_p => (show G33 14 _ = _ from rfl).trans (C_spec_l6Verdicts_eq a0_b a0_p))⟩ a)).trans ?_
  show (spec_DrawReport_f S_spec_l1Open S_spec_l6Id S_spec_l6Verdicts N a).bind _ = _
  rw [hN]; exact h2
-- strings.Join
noncomputable def S_strings_Join (a0 : List (List UInt8)) (a1 : List UInt8) : Option (List UInt8) := under (pre_strings_Join a0 a1) (s_strings_Join a0 a1)
def e_strings_Join (a : (List (List UInt8)) × (List UInt8)) : List X := [.d (lstT cS a.1), .d (sD a.2)]
noncomputable def C_strings_Join : List X → Option XOut := lay e_strings_Join fun a => ((S_strings_Join a.1 a.2)).bind fun r => some (.ret (.d (sD r)) [])
theorem C_strings_Join_eq (a0 : List (List UInt8)) (a1 : List UInt8) : C_strings_Join [.d (lstT cS a0), .d (sD a1)] = ((S_strings_Join a0 a1)).bind fun r => some (.ret (.d (sD r)) []) := lay_eq (enc := e_strings_Join) (by
  intro a b h
  simp only [e_strings_Join, List.cons.injEq, X.d.injEq, X.res.injEq, RK.bld.injEq, X.agg.injEq, X.box.injEq, D.int.injEq, D.bool.injEq, D.fn.injEq, sD_inj, lstT_inj, ownT_inj, and_true, true_and, and_assoc] at h
  simp only [Prod.ext_iff]; exact h) (a0, a1)
noncomputable def G35 : Ctx := G34.with 45 C_strings_Join
theorem so35 : SoundAll Tryd.prog G35 := so34.with (sound_Join (enc := e_strings_Join) (fun _ => rfl) (fun a out ho => by
  obtain ⟨r, h1, h2⟩ := Option.bind_eq_some_iff.mp ho
  obtain ⟨hp, rfl⟩ := under_some h1
  exact ⟨q_strings_Join hp, (Option.some.inj h2).symm⟩))
-- (*strings.Builder).WriteString
noncomputable def S___strings_Builder__WriteString (T : Nat) (b : List UInt8) (a1 : List UInt8) : Option (Int × List UInt8) := under (pre___strings_Builder__WriteString T b a1) (s___strings_Builder__WriteString T b a1)
def e___strings_Builder__WriteString (a : Nat × (List UInt8) × (List UInt8)) : List X := [.res (.bld a.1 5) (sD a.2.1), .d (sD a.2.2)]
noncomputable def C___strings_Builder__WriteString : List X → Option XOut := lay e___strings_Builder__WriteString fun a => ((S___strings_Builder__WriteString a.1 a.2.1 a.2.2)).bind fun r => some (.ret (.tup [.d (.int .i64 r.1), .d .nili]) [[sD r.2]])
theorem C___strings_Builder__WriteString_eq (T : Nat) (b : List UInt8) (a1 : List UInt8) : C___strings_Builder__WriteString [.res (.bld T 5) (sD b), .d (sD a1)] = ((S___strings_Builder__WriteString T b a1)).bind fun r => some (.ret (.tup [.d (.int .i64 r.1), .d .nili]) [[sD r.2]]) := lay_eq (enc := e___strings_Builder__WriteString) (by
  intro a b h
  simp only [e___strings_Builder__WriteString, List.cons.injEq, X.d.injEq, X.res.injEq, RK.bld.injEq, X.agg.injEq, X.box.injEq, D.int.injEq, D.bool.injEq, D.fn.injEq, sD_inj, lstT_inj, ownT_inj, and_true, true_and, and_assoc] at h
  simp only [Prod.ext_iff]; exact h) (T, b, a1)
noncomputable def G36 : Ctx := G35.with 44 C___strings_Builder__WriteString
theorem so36 : SoundAll Tryd.prog G36 := so35.with (sound_WriteString (enc := e___strings_Builder__WriteString) (fun _ => rfl) (fun a out ho => by
  obtain ⟨r, h1, h2⟩ := Option.bind_eq_some_iff.mp ho
  obtain ⟨hp, rfl⟩ := under_some h1
  exact ⟨q___strings_Builder__WriteString hp, (Option.some.inj h2).symm⟩))
-- (*strings.Builder).WriteByte
noncomputable def S___strings_Builder__WriteByte (T : Nat) (b : List UInt8) (a1 : Int) : Option (List UInt8) := under (pre___strings_Builder__WriteByte T b a1) (s___strings_Builder__WriteByte T b a1)
def e___strings_Builder__WriteByte (a : Nat × (List UInt8) × Int) : List X := [.res (.bld a.1 5) (sD a.2.1), .d (.int .u8 a.2.2)]
noncomputable def C___strings_Builder__WriteByte : List X → Option XOut := lay e___strings_Builder__WriteByte fun a => ((S___strings_Builder__WriteByte a.1 a.2.1 a.2.2)).bind fun r => some (.ret (.d .nili) [[sD r]])
theorem C___strings_Builder__WriteByte_eq (T : Nat) (b : List UInt8) (a1 : Int) : C___strings_Builder__WriteByte [.res (.bld T 5) (sD b), .d (.int .u8 a1)] = ((S___strings_Builder__WriteByte T b a1)).bind fun r => some (.ret (.d .nili) [[sD r]]) := lay_eq (enc := e___strings_Builder__WriteByte) (by
  intro a b h
  simp only [e___strings_Builder__WriteByte, List.cons.injEq, X.d.injEq, X.res.injEq, RK.bld.injEq, X.agg.injEq, X.box.injEq, D.int.injEq, D.bool.injEq, D.fn.injEq, sD_inj, lstT_inj, ownT_inj, and_true, true_and, and_assoc] at h
  simp only [Prod.ext_iff]; exact h) (T, b, a1)
noncomputable def G37 : Ctx := G36.with 46 C___strings_Builder__WriteByte
theorem so37 : SoundAll Tryd.prog G37 := so36.with (sound_WriteByte (enc := e___strings_Builder__WriteByte) (fun _ => rfl) (fun a out ho => by
  obtain ⟨r, h1, h2⟩ := Option.bind_eq_some_iff.mp ho
  obtain ⟨hp, rfl⟩ := under_some h1
  exact ⟨q___strings_Builder__WriteByte hp, (Option.some.inj h2).symm⟩))
-- (*loop.example/s02135/impl.lines).put
noncomputable def S___impl_lines__put (a0 : List UInt8) (a1 : List (List UInt8)) : Option (List UInt8) := under (pre___impl_lines__put a0 a1) (s___impl_lines__put a0 a1)
def e___impl_lines__put (a : (List UInt8) × (List (List UInt8))) : List X := [.res (.bld 58 5) (sD a.1), .d (lstT cS a.2)]
noncomputable def C___impl_lines__put : List X → Option XOut := lay e___impl_lines__put fun a => ((S___impl_lines__put a.1 a.2)).bind fun r => some (.ret (.tup []) [[sD r]])
theorem C___impl_lines__put_eq (a0 : List UInt8) (a1 : List (List UInt8)) : C___impl_lines__put [.res (.bld 58 5) (sD a0), .d (lstT cS a1)] = ((S___impl_lines__put a0 a1)).bind fun r => some (.ret (.tup []) [[sD r]]) := lay_eq (enc := e___impl_lines__put) (by
  intro a b h
  simp only [e___impl_lines__put, List.cons.injEq, X.d.injEq, X.res.injEq, RK.bld.injEq, X.agg.injEq, X.box.injEq, D.int.injEq, D.bool.injEq, D.fn.injEq, sD_inj, lstT_inj, ownT_inj, and_true, true_and, and_assoc] at h
  simp only [Prod.ext_iff]; exact h) (a0, a1)
noncomputable def G38 : Ctx := G37.with 30 C___impl_lines__put
theorem so38 : SoundAll Tryd.prog G38 := by
  refine layer (cuts := []) (k := 2) (cd := c___impl_lines__put) (rs := r___impl_lines__put) (enc := e___impl_lines__put) mixed so37 Tryd.func30 (by kernel_rfl) (by kernel_rfl) (by kernel_rfl) (by kernel_rfl) (by kernel_rfl) (by kernel_rfl) (wk := fun y => nocap y) Same.nocap ?_
  intro a out ho
  obtain ⟨r, h1, h2⟩ := Option.bind_eq_some_iff.mp ho
  obtain ⟨hp, rfl⟩ := under_some h1
  obtain ⟨N, hN⟩ := p___impl_lines__put S_strings_Join (fun _ _ h => under_pos h) S___strings_Builder__WriteString (fun _ _ _ h => under_pos h) S___strings_Builder__WriteByte (fun _ _ _ h => under_pos h) a.1 a.2 hp
  refine ⟨N, ?_⟩
  refine ((callF_G (fun y => some (nocap y)) 2 c___impl_lines__put r___impl_lines__put (e___impl_lines__put a) ⟨rfl, rfl, rfl⟩).trans (__impl_lines__put_g ⟨G37, [0], [0], [(0, .res (.bld 58 5))], N, r___impl_lines__put, none, fun _ _ => none, fun y => some (nocap y)⟩ ⟨rfl, rfl, rfl, rfl, rfl, fun _ => rfl, fun _ => rfl⟩ S_strings_Join ⟨rfl, (fun a0 a1 => (show G37 45 _ = _ from rfl).trans (C_strings_Join_eq a0 a1))⟩ S___strings_Builder__WriteString ⟨rfl, (fun T b a1 => (show G37 44 _ = _ from rfl).trans (C___strings_Builder__WriteString_eq T b a1))⟩ S___strings_Builder__WriteByte ⟨rfl, (fun T b a1 => (show G37 46 _ = _ from rfl).trans (C___strings_Builder__WriteByte_eq T b a1))⟩ a.1 a.2)).trans ?_
  show (__impl_lines__put_f S_strings_Join S___strings_Builder__WriteString S___strings_Builder__WriteByte N a.1 a.2).bind _ = _
  rw [hN]; exact h2
-- loop.example/s02135/impl.verdictWord
noncomputable def S_impl_verdictWord (a0_Kind : Int) (a0_Code : Int) : Option (List UInt8) := under (pre_impl_verdictWord a0_Kind a0_Code) (s_impl_verdictWord a0_Kind a0_Code)
def e_impl_verdictWord (a : Int × Int) : List X := [.agg [.d (.int .i64 a.1), .d (.int .i64 a.2)]]
noncomputable def C_impl_verdictWord : List X → Option XOut := lay e_impl_verdictWord fun a => ((S_impl_verdictWord a.1 a.2)).bind fun r => some (.ret (.d (sD r)) [])
theorem C_impl_verdictWord_eq (a0_Kind : Int) (a0_Code : Int) : C_impl_verdictWord [.agg [.d (.int .i64 a0_Kind), .d (.int .i64 a0_Code)]] = ((S_impl_verdictWord a0_Kind a0_Code)).bind fun r => some (.ret (.d (sD r)) []) := lay_eq (enc := e_impl_verdictWord) (by
  intro a b h
  simp only [e_impl_verdictWord, List.cons.injEq, X.d.injEq, X.res.injEq, RK.bld.injEq, X.agg.injEq, X.box.injEq, D.int.injEq, D.bool.injEq, D.fn.injEq, sD_inj, lstT_inj, ownT_inj, and_true, true_and, and_assoc] at h
  simp only [Prod.ext_iff]; exact h) (a0_Kind, a0_Code)
noncomputable def G39 : Ctx := G38.with 32 C_impl_verdictWord
theorem so39 : SoundAll Tryd.prog G39 := by
  refine layer (cuts := []) (k := 1) (cd := c_impl_verdictWord) (rs := r_impl_verdictWord) (enc := e_impl_verdictWord) mixed so38 Tryd.func32 (by kernel_rfl) (by kernel_rfl) (by kernel_rfl) (by kernel_rfl) (by kernel_rfl) (by kernel_rfl) (wk := fun y => nocap y) Same.nocap ?_
  intro a out ho
  obtain ⟨r, h1, h2⟩ := Option.bind_eq_some_iff.mp ho
  obtain ⟨hp, rfl⟩ := under_some h1
  obtain ⟨N, hN⟩ := p_impl_verdictWord S_strconv_Itoa (fun _ h => under_pos h) a.1 a.2 hp
  refine ⟨N, ?_⟩
  refine ((callF_G (fun y => some (nocap y)) 1 c_impl_verdictWord r_impl_verdictWord (e_impl_verdictWord a) ⟨rfl, rfl, rfl⟩).trans (impl_verdictWord_g ⟨G38, [], [], [], N, r_impl_verdictWord, none, fun _ _ => none, fun y => some (nocap y)⟩ ⟨rfl, rfl, rfl, rfl, rfl, fun _ => rfl, fun _ => rfl⟩ S_strconv_Itoa ⟨rfl, (fun a0 => (show G38 25 _ = _ from rfl).trans (C_strconv_Itoa_eq a0))⟩ a.1 a.2)).trans ?_
  show (impl_verdictWord_f S_strconv_Itoa N a.1 a.2).bind _ = _
  rw [hN]; exact h2
-- (*strings.Builder).String
noncomputable def S___strings_Builder__String (T : Nat) (b : List UInt8) : Option (List UInt8 × List UInt8) := under (pre___strings_Builder__String T b) (s___strings_Builder__String T b)
def e___strings_Builder__String (a : Nat × (List UInt8)) : List X := [.res (.bld a.1 5) (sD a.2)]
noncomputable def C___strings_Builder__String : List X → Option XOut := lay e___strings_Builder__String fun a => ((S___strings_Builder__String a.1 a.2)).bind fun r => some (.ret (.d (sD r.1)) [[sD r.2]])
theorem C___strings_Builder__String_eq (T : Nat) (b : List UInt8) : C___strings_Builder__String [.res (.bld T 5) (sD b)] = ((S___strings_Builder__String T b)).bind fun r => some (.ret (.d (sD r.1)) [[sD r.2]]) := lay_eq (enc := e___strings_Builder__String) (by
  intro a b h
  simp only [e___strings_Builder__String, List.cons.injEq, X.d.injEq, X.res.injEq, RK.bld.injEq, X.agg.injEq, X.box.injEq, D.int.injEq, D.bool.injEq, D.fn.injEq, sD_inj, lstT_inj, ownT_inj, and_true, true_and, and_assoc] at h
  simp only [Prod.ext_iff]; exact h) (T, b)
noncomputable def G40 : Ctx := G39.with 33 C___strings_Builder__String
theorem so40 : SoundAll Tryd.prog G40 := so39.with (sound_String (enc := e___strings_Builder__String) (fun _ => rfl) (fun a out ho => by
  obtain ⟨r, h1, h2⟩ := Option.bind_eq_some_iff.mp ho
  obtain ⟨hp, rfl⟩ := under_some h1
  exact ⟨q___strings_Builder__String hp, (Option.some.inj h2).symm⟩))
-- loop.example/s02135/impl.Report
noncomputable def S_impl_Report (a0 : List UInt8) (a1 : List TVerdict) : Option (List UInt8 × Bool) := under (pre_impl_Report a0 a1) (s_impl_Report a0 a1)
def e_impl_Report (a : (List UInt8) × (List TVerdict)) : List X := [.d (sD a.1), .d (lstT cVerdict a.2)]
noncomputable def C_impl_Report : List X → Option XOut := lay e_impl_Report fun a => ((S_impl_Report a.1 a.2)).bind fun r => some (.ret (.tup [.d (sD r.1), .d (.bool r.2)]) [])
theorem C_impl_Report_eq (a0 : List UInt8) (a1 : List TVerdict) : C_impl_Report [.d (sD a0), .d (lstT cVerdict a1)] = ((S_impl_Report a0 a1)).bind fun r => some (.ret (.tup [.d (sD r.1), .d (.bool r.2)]) []) := lay_eq (enc := e_impl_Report) (by
  intro a b h
  simp only [e_impl_Report, List.cons.injEq, X.d.injEq, X.res.injEq, RK.bld.injEq, X.agg.injEq, X.box.injEq, D.int.injEq, D.bool.injEq, D.fn.injEq, sD_inj, lstT_inj, ownT_inj, and_true, true_and, and_assoc] at h
  simp only [Prod.ext_iff]; exact h) (a0, a1)
noncomputable def G41 : Ctx := G40.with 9 C_impl_Report
theorem so41 : SoundAll Tryd.prog G41 := by
  refine layer (cuts := []) (k := 2) (cd := c_impl_Report) (rs := r_impl_Report) (enc := e_impl_Report) mixed so40 Tryd.func9 (by kernel_rfl) (by kernel_rfl) (by kernel_rfl) (by kernel_rfl) (by kernel_rfl) (by kernel_rfl) (wk := fun y => nocap y) Same.nocap ?_
  intro a out ho
  obtain ⟨r, h1, h2⟩ := Option.bind_eq_some_iff.mp ho
  obtain ⟨hp, rfl⟩ := under_some h1
  obtain ⟨N, hN⟩ := p_impl_Report S_impl_idOk (fun _ h => under_pos h) S___impl_lines__put (fun _ _ h => under_pos h) S_impl_verdictOk (fun _ _ h => under_pos h) S_strconv_Itoa (fun _ h => under_pos h) S_impl_verdictWord (fun _ _ h => under_pos h) S___strings_Builder__String (fun _ _ h => under_pos h) a.1 a.2 hp
  refine ⟨N, ?_⟩
  refine ((callF_G (fun y => some (nocap y)) 2 c_impl_Report r_impl_Report (e_impl_Report a) ⟨rfl, rfl, rfl⟩).trans (impl_Report_g ⟨G40, [], [], [], N, r_impl_Report, none, fun _ _ => none, fun y => some (nocap y)⟩ ⟨rfl, rfl, rfl, rfl, rfl, fun _ => rfl, fun _ => rfl⟩ S_impl_idOk ⟨rfl, (fun a0 => (show G40 24 _ = _ from rfl).trans (C_impl_idOk_eq a0))⟩ S___impl_lines__put ⟨rfl, (fun a0 a1 => (show G40 30 _ = _ from rfl).trans (C___impl_lines__put_eq a0 a1))⟩ S_impl_verdictOk ⟨rfl, (fun a0_Kind a0_Code => (show G40 31 _ = _ from rfl).trans (C_impl_verdictOk_eq a0_Kind a0_Code))⟩ S_strconv_Itoa ⟨rfl, (fun a0 => (show G40 25 _ = _ from rfl).trans (C_strconv_Itoa_eq a0))⟩ S_impl_verdictWord ⟨rfl, (fun a0_Kind a0_Code => (show G40 32 _ = _ from rfl).trans (C_impl_verdictWord_eq a0_Kind a0_Code))⟩ S___strings_Builder__String ⟨rfl, (fun T b => (show G40 33 _ = _ from rfl).trans (C___strings_Builder__String_eq T b))⟩ a.1 a.2)).trans ?_
  show (impl_Report_f S_impl_idOk S___impl_lines__put S_impl_verdictOk S_strconv_Itoa S_impl_verdictWord S___strings_Builder__String N a.1 a.2).bind _ = _
  rw [hN]; exact h2
-- loop.example/s02135/spec.SameVerdicts
noncomputable def S_spec_SameVerdicts (a0 : List TVerdict) (a1 : List TVerdict) : Option (Bool) := under (pre_spec_SameVerdicts a0 a1) (s_spec_SameVerdicts a0 a1)
def e_spec_SameVerdicts (a : (List TVerdict) × (List TVerdict)) : List X := [.d (lstT cVerdict a.1), .d (lstT cVerdict a.2)]
noncomputable def C_spec_SameVerdicts : List X → Option XOut := lay e_spec_SameVerdicts fun a => ((S_spec_SameVerdicts a.1 a.2)).bind fun r => some (.ret (.d (.bool r)) [])
theorem C_spec_SameVerdicts_eq (a0 : List TVerdict) (a1 : List TVerdict) : C_spec_SameVerdicts [.d (lstT cVerdict a0), .d (lstT cVerdict a1)] = ((S_spec_SameVerdicts a0 a1)).bind fun r => some (.ret (.d (.bool r)) []) := lay_eq (enc := e_spec_SameVerdicts) (by
  intro a b h
  simp only [e_spec_SameVerdicts, List.cons.injEq, X.d.injEq, X.res.injEq, RK.bld.injEq, X.agg.injEq, X.box.injEq, D.int.injEq, D.bool.injEq, D.fn.injEq, sD_inj, lstT_inj, ownT_inj, and_true, true_and, and_assoc] at h
  simp only [Prod.ext_iff]; exact h) (a0, a1)
noncomputable def G42 : Ctx := G41.with 10 C_spec_SameVerdicts
theorem so42 : SoundAll Tryd.prog G42 := by
  refine layer (cuts := []) (k := 2) (cd := c_spec_SameVerdicts) (rs := r_spec_SameVerdicts) (enc := e_spec_SameVerdicts) mixed so41 Tryd.func10 (by kernel_rfl) (by kernel_rfl) (by kernel_rfl) (by kernel_rfl) (by kernel_rfl) (by kernel_rfl) (wk := fun y => nocap y) Same.nocap ?_
  intro a out ho
  obtain ⟨r, h1, h2⟩ := Option.bind_eq_some_iff.mp ho
  obtain ⟨hp, rfl⟩ := under_some h1
  obtain ⟨N, hN⟩ := p_spec_SameVerdicts a.1 a.2 hp
  refine ⟨N, ?_⟩
  refine ((callF_G (fun y => some (nocap y)) 2 c_spec_SameVerdicts r_spec_SameVerdicts (e_spec_SameVerdicts a) ⟨rfl, rfl, rfl⟩).trans (spec_SameVerdicts_g ⟨G41, [], [], [], N, r_spec_SameVerdicts, none, fun _ _ => none, fun y => some (nocap y)⟩ ⟨rfl, rfl, rfl, rfl, rfl, fun _ => rfl, fun _ => rfl⟩ a.1 a.2)).trans ?_
  show (spec_SameVerdicts_f N a.1 a.2).bind _ = _
  rw [hN]; exact h2
-- loop.example/s02135/laws.FnReport
noncomputable def S_laws_FnReport (a0 : List Int) : Option (Bool) := under (pre_laws_FnReport a0) (s_laws_FnReport a0)
def e_laws_FnReport (a : (List Int)) : List X := [.d (lstT c8 a)]
noncomputable def C_laws_FnReport : List X → Option XOut := lay e_laws_FnReport fun a => ((S_laws_FnReport a)).bind fun r => some (.ret (.d (.bool r)) [])
theorem C_laws_FnReport_eq (a0 : List Int) : C_laws_FnReport [.d (lstT c8 a0)] = ((S_laws_FnReport a0)).bind fun r => some (.ret (.d (.bool r)) []) := lay_eq (enc := e_laws_FnReport) (by
  intro a b h
  simp only [e_laws_FnReport, List.cons.injEq, X.d.injEq, X.res.injEq, RK.bld.injEq, X.agg.injEq, X.box.injEq, D.int.injEq, D.bool.injEq, D.fn.injEq, sD_inj, lstT_inj, ownT_inj, and_true, true_and, and_assoc] at h
  exact h) a0
noncomputable def G43 : Ctx := G42.with 3 C_laws_FnReport
theorem so43 : SoundAll Tryd.prog G43 := by
  refine layer (cuts := []) (k := 1) (cd := c_laws_FnReport) (rs := r_laws_FnReport) (enc := e_laws_FnReport) mixed so42 Tryd.func3 (by kernel_rfl) (by kernel_rfl) (by kernel_rfl) (by kernel_rfl) (by kernel_rfl) (by kernel_rfl) (wk := fun y => nocap y) Same.nocap ?_
  intro a out ho
  obtain ⟨r, h1, h2⟩ := Option.bind_eq_some_iff.mp ho
  obtain ⟨hp, rfl⟩ := under_some h1
  obtain ⟨N, hN⟩ := p_laws_FnReport S_spec_DrawReadReport (fun _ h => under_pos h) S_spec_ReadReport (fun _ h => under_pos h) S_impl_ReadReport (fun _ h => under_pos h) S_spec_DrawReport (fun _ h => under_pos h) S_spec_Report (fun _ _ h => under_pos h) S_impl_Report (fun _ _ h => under_pos h) S_spec_SameVerdicts (fun _ _ h => under_pos h) a hp
  refine ⟨N, ?_⟩
  refine ((callF_G (fun y => some (nocap y)) 1 c_laws_FnReport r_laws_FnReport (e_laws_FnReport a) ⟨rfl, rfl, rfl⟩).trans (laws_FnReport_g ⟨G42, [], [], [], N, r_laws_FnReport, none, fun _ _ => none, fun y => some (nocap y)⟩ ⟨rfl, rfl, rfl, rfl, rfl, fun _ => rfl, fun _ => rfl⟩ S_spec_DrawReadReport ⟨rfl, (fun a0 => (show G42 4 _ = _ from rfl).trans (C_spec_DrawReadReport_eq a0))⟩ S_spec_ReadReport ⟨rfl, (fun a0 => (show G42 5 _ = _ from rfl).trans (C_spec_ReadReport_eq a0))⟩ S_impl_ReadReport ⟨rfl, (fun a0 => (show G42 6 _ = _ from rfl).trans (C_impl_ReadReport_eq a0))⟩ S_spec_DrawReport ⟨rfl, (fun a0 => (show G42 7 _ = _ from rfl).trans (C_spec_DrawReport_eq a0))⟩ S_spec_Report ⟨rfl, (fun a0 a1 => (show G42 8 _ = _ from rfl).trans (C_spec_Report_eq a0 a1))⟩ S_impl_Report ⟨rfl, (fun a0 a1 => (show G42 9 _ = _ from rfl).trans (C_impl_Report_eq a0 a1))⟩ S_spec_SameVerdicts ⟨rfl, (fun a0 a1 => (show G42 10 _ = _ from rfl).trans (C_spec_SameVerdicts_eq a0 a1))⟩ a)).trans ?_
  show (laws_FnReport_f S_spec_DrawReadReport S_spec_ReadReport S_impl_ReadReport S_spec_DrawReport S_spec_Report S_impl_Report S_spec_SameVerdicts N a).bind _ = _
  rw [hN]; exact h2
theorem law : Sound Tryd.prog 3 C_laws_FnReport := by
  have h := so43 3
  exact h
end Go.Proofs.YtafjdofgafppgaaDoor.TowFr
