/- The contracts of the functions under laws_FnExactReport, one upon the other. Printed by a program of this session. -/
import Derived.Test.YtbfmeoiblppnbaaDoorFRp
import Derived.Test.YtbfmeoiblppnbaaDoorPRp
import Derived.Test.YtbfmeoiblppnbaaDoorBldA
import Derived.Test.YtbfmeoiblppnbaaDoorJoinC
import Derived.Test.YtbfmeoiblppnbaaDoorVmLayer
import Derived.Test.YtbfmeoiblppnbaaDoorProg
set_option linter.all false
set_option maxRecDepth 100000
namespace Go.Proofs.YtbfmeoiblppnbaaDoor.TowRp
open Go.Vm
variable [gl : Gl] [tb : GlTab]
theorem mixed : Tryd.prog.follows .mixedOrders = true := by kernel_rfl
noncomputable def G0 : Ctx := Γ0 flatIds
theorem so0 : SoundAll Tryd.prog G0 := Γ0_sound _ _
-- loop.example/s02135/laws.szVerdictS
noncomputable def S_laws_szVerdictS (a0 : List TVerdict) (a1 : Int) : Option (Int) := under (pre_laws_szVerdictS a0 a1) (s_laws_szVerdictS a0 a1)
def e_laws_szVerdictS (a : (List TVerdict) × Int) : List X := [.d (lstT cVerdict a.1), .d (.int .i64 a.2)]
noncomputable def C_laws_szVerdictS : List X → Option XOut := lay e_laws_szVerdictS fun a => ((S_laws_szVerdictS a.1 a.2)).bind fun r => some (.ret (.d (.int .i64 r)) [])
theorem C_laws_szVerdictS_eq (a0 : List TVerdict) (a1 : Int) : C_laws_szVerdictS [.d (lstT cVerdict a0), .d (.int .i64 a1)] = ((S_laws_szVerdictS a0 a1)).bind fun r => some (.ret (.d (.int .i64 r)) []) := lay_eq (enc := e_laws_szVerdictS) (by
  intro a b h
  simp only [e_laws_szVerdictS, List.cons.injEq, X.d.injEq, X.res.injEq, RK.bld.injEq, X.agg.injEq, X.box.injEq, D.int.injEq, D.bool.injEq, D.fn.injEq, sD_inj, lstT_inj, ownT_inj, and_true, true_and, and_assoc] at h
  simp only [Prod.ext_iff]; exact h) (a0, a1)
noncomputable def G1 : Ctx := G0.with 11 C_laws_szVerdictS
theorem so1 : SoundAll Tryd.prog G1 := by
  refine layer (cuts := []) (k := 2) (cd := c_laws_szVerdictS) (rs := r_laws_szVerdictS) (enc := e_laws_szVerdictS) mixed so0 Tryd.func11 (by kernel_rfl) (by kernel_rfl) (by kernel_rfl) (by kernel_rfl) (by kernel_rfl) (by kernel_rfl) (wk := fun y => nocap y) Same.nocap ?_
  intro a out ho
  obtain ⟨r, h1, h2⟩ := Option.bind_eq_some_iff.mp ho
  obtain ⟨hp, rfl⟩ := under_some h1
  obtain ⟨N, hN⟩ := p_laws_szVerdictS a.1 a.2 hp
  refine ⟨N, ?_⟩
  refine ((callF_G (fun y => some (nocap y)) 2 c_laws_szVerdictS r_laws_szVerdictS (e_laws_szVerdictS a) ⟨rfl, rfl, rfl⟩).trans (laws_szVerdictS_g ⟨G0, [], [], [], N, r_laws_szVerdictS, none, fun _ _ => none, fun y => some (nocap y)⟩ ⟨rfl, rfl, rfl, rfl, rfl, fun _ => rfl, fun _ => rfl⟩ a.1 a.2)).trans ?_
  show (laws_szVerdictS_f N a.1 a.2).bind _ = _
  rw [hN]; exact h2
-- loop.example/s02135/laws.toVerdict
noncomputable def S_laws_toVerdict (a0_Kind : Int) (a0_Code : Int) : Option (Int × Int) := under (pre_laws_toVerdict a0_Kind a0_Code) (s_laws_toVerdict a0_Kind a0_Code)
def e_laws_toVerdict (a : Int × Int) : List X := [.agg [.d (.int .i64 a.1), .d (.int .i64 a.2)]]
noncomputable def C_laws_toVerdict : List X → Option XOut := lay e_laws_toVerdict fun a => ((S_laws_toVerdict a.1 a.2)).bind fun r => some (.ret (.agg [.d (.int .i64 r.1), .d (.int .i64 r.2)]) [])
theorem C_laws_toVerdict_eq (a0_Kind : Int) (a0_Code : Int) : C_laws_toVerdict [.agg [.d (.int .i64 a0_Kind), .d (.int .i64 a0_Code)]] = ((S_laws_toVerdict a0_Kind a0_Code)).bind fun r => some (.ret (.agg [.d (.int .i64 r.1), .d (.int .i64 r.2)]) []) := lay_eq (enc := e_laws_toVerdict) (by
  intro a b h
  simp only [e_laws_toVerdict, List.cons.injEq, X.d.injEq, X.res.injEq, RK.bld.injEq, X.agg.injEq, X.box.injEq, D.int.injEq, D.bool.injEq, D.fn.injEq, sD_inj, lstT_inj, ownT_inj, and_true, true_and, and_assoc] at h
  simp only [Prod.ext_iff]; exact h) (a0_Kind, a0_Code)
noncomputable def G2 : Ctx := G1.with 33 C_laws_toVerdict
theorem so2 : SoundAll Tryd.prog G2 := by
  refine layer (cuts := []) (k := 1) (cd := c_laws_toVerdict) (rs := r_laws_toVerdict) (enc := e_laws_toVerdict) mixed so1 Tryd.func33 (by kernel_rfl) (by kernel_rfl) (by kernel_rfl) (by kernel_rfl) (by kernel_rfl) (by kernel_rfl) (wk := fun y => nocap y) Same.nocap ?_
  intro a out ho
  obtain ⟨r, h1, h2⟩ := Option.bind_eq_some_iff.mp ho
  obtain ⟨hp, rfl⟩ := under_some h1
  obtain ⟨N, hN⟩ := p_laws_toVerdict a.1 a.2 hp
  refine ⟨N, ?_⟩
  refine ((callF_G (fun y => some (nocap y)) 1 c_laws_toVerdict r_laws_toVerdict (e_laws_toVerdict a) ⟨rfl, rfl, rfl⟩).trans (laws_toVerdict_g ⟨G1, [], [], [], N, r_laws_toVerdict, none, fun _ _ => none, fun y => some (nocap y)⟩ ⟨rfl, rfl, rfl, rfl, rfl, fun _ => rfl, fun _ => rfl⟩ a.1 a.2)).trans ?_
  show (laws_toVerdict_f N a.1 a.2).bind _ = _
  rw [hN]; exact h2
-- loop.example/s02135/laws.toVerdictS
noncomputable def S_laws_toVerdictS (a0 : List TVerdict) : Option (List TVerdict) := under (pre_laws_toVerdictS a0) (s_laws_toVerdictS a0)
def e_laws_toVerdictS (a : (List TVerdict)) : List X := [.d (lstT cVerdict a)]
noncomputable def C_laws_toVerdictS : List X → Option XOut := lay e_laws_toVerdictS fun a => ((S_laws_toVerdictS a)).bind fun r => some (.ret (ownT (cVerdict) 56 none false r) [])
theorem C_laws_toVerdictS_eq (a0 : List TVerdict) : C_laws_toVerdictS [.d (lstT cVerdict a0)] = ((S_laws_toVerdictS a0)).bind fun r => some (.ret (ownT (cVerdict) 56 none false r) []) := lay_eq (enc := e_laws_toVerdictS) (by
  intro a b h
  simp only [e_laws_toVerdictS, List.cons.injEq, X.d.injEq, X.res.injEq, RK.bld.injEq, X.agg.injEq, X.box.injEq, D.int.injEq, D.bool.injEq, D.fn.injEq, sD_inj, lstT_inj, ownT_inj, and_true, true_and, and_assoc] at h
  exact h) a0
noncomputable def G3 : Ctx := G2.with 13 C_laws_toVerdictS
theorem so3 : SoundAll Tryd.prog G3 := by
  refine layer (cuts := []) (k := 1) (cd := c_laws_toVerdictS) (rs := r_laws_toVerdictS) (enc := e_laws_toVerdictS) mixed so2 Tryd.func13 (by kernel_rfl) (by kernel_rfl) (by kernel_rfl) (by kernel_rfl) (by kernel_rfl) (by kernel_rfl) (wk := fun y => nocap y) Same.nocap ?_
  intro a out ho
  obtain ⟨r, h1, h2⟩ := Option.bind_eq_some_iff.mp ho
  obtain ⟨hp, rfl⟩ := under_some h1
  obtain ⟨N, hN⟩ := p_laws_toVerdictS S_laws_toVerdict (fun _ _ h => under_pos h) a hp
  refine ⟨N, ?_⟩
  refine ((callF_G (fun y => some (nocap y)) 1 c_laws_toVerdictS r_laws_toVerdictS (e_laws_toVerdictS a) ⟨rfl, rfl, rfl⟩).trans (laws_toVerdictS_g ⟨G2, [], [], [], N, r_laws_toVerdictS, none, fun _ _ => none, fun y => some (nocap y)⟩ ⟨rfl, rfl, rfl, rfl, rfl, fun _ => rfl, fun _ => rfl⟩ S_laws_toVerdict ⟨rfl, (fun a0_Kind a0_Code => (show G2 33 _ = _ from rfl).trans (C_laws_toVerdict_eq a0_Kind a0_Code))⟩ a)).trans ?_
  show (laws_toVerdictS_f S_laws_toVerdict N a).bind _ = _
  rw [hN]; exact h2
-- loop.example/s02135/spec.l3Digit
noncomputable def S_spec_l3Digit (a0 : Int) : Option (Bool) := under (pre_spec_l3Digit a0) (s_spec_l3Digit a0)
def e_spec_l3Digit (a : Int) : List X := [.d (.int .u8 a)]
noncomputable def C_spec_l3Digit : List X → Option XOut := lay e_spec_l3Digit fun a => ((S_spec_l3Digit a)).bind fun r => some (.ret (.d (.bool r)) [])
theorem C_spec_l3Digit_eq (a0 : Int) : C_spec_l3Digit [.d (.int .u8 a0)] = ((S_spec_l3Digit a0)).bind fun r => some (.ret (.d (.bool r)) []) := lay_eq (enc := e_spec_l3Digit) (by
  intro a b h
  simp only [e_spec_l3Digit, List.cons.injEq, X.d.injEq, X.res.injEq, RK.bld.injEq, X.agg.injEq, X.box.injEq, D.int.injEq, D.bool.injEq, D.fn.injEq, sD_inj, lstT_inj, ownT_inj, and_true, true_and, and_assoc] at h
  exact h) a0
noncomputable def G4 : Ctx := G3.with 50 C_spec_l3Digit
theorem so4 : SoundAll Tryd.prog G4 := by
  refine layer (cuts := []) (k := 1) (cd := c_spec_l3Digit) (rs := r_spec_l3Digit) (enc := e_spec_l3Digit) mixed so3 Tryd.func50 (by kernel_rfl) (by kernel_rfl) (by kernel_rfl) (by kernel_rfl) (by kernel_rfl) (by kernel_rfl) (wk := fun y => nocap y) Same.nocap ?_
  intro a out ho
  obtain ⟨r, h1, h2⟩ := Option.bind_eq_some_iff.mp ho
  obtain ⟨hp, rfl⟩ := under_some h1
  obtain ⟨N, hN⟩ := p_spec_l3Digit a hp
  refine ⟨N, ?_⟩
  refine ((callF_G (fun y => some (nocap y)) 1 c_spec_l3Digit r_spec_l3Digit (e_spec_l3Digit a) ⟨rfl, rfl, rfl⟩).trans (spec_l3Digit_g ⟨G3, [], [], [], N, r_spec_l3Digit, none, fun _ _ => none, fun y => some (nocap y)⟩ ⟨rfl, rfl, rfl, rfl, rfl, fun _ => rfl, fun _ => rfl⟩ a)).trans ?_
  show (spec_l3Digit_f N a).bind _ = _
  rw [hN]; exact h2
-- loop.example/s02135/spec.l3Letter
noncomputable def S_spec_l3Letter (a0 : Int) : Option (Bool) := under (pre_spec_l3Letter a0) (s_spec_l3Letter a0)
def e_spec_l3Letter (a : Int) : List X := [.d (.int .u8 a)]
noncomputable def C_spec_l3Letter : List X → Option XOut := lay e_spec_l3Letter fun a => ((S_spec_l3Letter a)).bind fun r => some (.ret (.d (.bool r)) [])
theorem C_spec_l3Letter_eq (a0 : Int) : C_spec_l3Letter [.d (.int .u8 a0)] = ((S_spec_l3Letter a0)).bind fun r => some (.ret (.d (.bool r)) []) := lay_eq (enc := e_spec_l3Letter) (by
  intro a b h
  simp only [e_spec_l3Letter, List.cons.injEq, X.d.injEq, X.res.injEq, RK.bld.injEq, X.agg.injEq, X.box.injEq, D.int.injEq, D.bool.injEq, D.fn.injEq, sD_inj, lstT_inj, ownT_inj, and_true, true_and, and_assoc] at h
  exact h) a0
noncomputable def G5 : Ctx := G4.with 51 C_spec_l3Letter
theorem so5 : SoundAll Tryd.prog G5 := by
  refine layer (cuts := []) (k := 1) (cd := c_spec_l3Letter) (rs := r_spec_l3Letter) (enc := e_spec_l3Letter) mixed so4 Tryd.func51 (by kernel_rfl) (by kernel_rfl) (by kernel_rfl) (by kernel_rfl) (by kernel_rfl) (by kernel_rfl) (wk := fun y => nocap y) Same.nocap ?_
  intro a out ho
  obtain ⟨r, h1, h2⟩ := Option.bind_eq_some_iff.mp ho
  obtain ⟨hp, rfl⟩ := under_some h1
  obtain ⟨N, hN⟩ := p_spec_l3Letter a hp
  refine ⟨N, ?_⟩
  refine ((callF_G (fun y => some (nocap y)) 1 c_spec_l3Letter r_spec_l3Letter (e_spec_l3Letter a) ⟨rfl, rfl, rfl⟩).trans (spec_l3Letter_g ⟨G4, [], [], [], N, r_spec_l3Letter, none, fun _ _ => none, fun y => some (nocap y)⟩ ⟨rfl, rfl, rfl, rfl, rfl, fun _ => rfl, fun _ => rfl⟩ a)).trans ?_
  show (spec_l3Letter_f N a).bind _ = _
  rw [hN]; exact h2
-- loop.example/s02135/spec.l6IdOk
noncomputable def S_spec_l6IdOk (a0 : List UInt8) : Option (Bool) := under (pre_spec_l6IdOk a0) (s_spec_l6IdOk a0)
def e_spec_l6IdOk (a : (List UInt8)) : List X := [.d (sD a)]
noncomputable def C_spec_l6IdOk : List X → Option XOut := lay e_spec_l6IdOk fun a => ((S_spec_l6IdOk a)).bind fun r => some (.ret (.d (.bool r)) [])
theorem C_spec_l6IdOk_eq (a0 : List UInt8) : C_spec_l6IdOk [.d (sD a0)] = ((S_spec_l6IdOk a0)).bind fun r => some (.ret (.d (.bool r)) []) := lay_eq (enc := e_spec_l6IdOk) (by
  intro a b h
  simp only [e_spec_l6IdOk, List.cons.injEq, X.d.injEq, X.res.injEq, RK.bld.injEq, X.agg.injEq, X.box.injEq, D.int.injEq, D.bool.injEq, D.fn.injEq, sD_inj, lstT_inj, ownT_inj, and_true, true_and, and_assoc] at h
  exact h) a0
noncomputable def G6 : Ctx := G5.with 28 C_spec_l6IdOk
theorem so6 : SoundAll Tryd.prog G6 := by
  refine layer (cuts := []) (k := 1) (cd := c_spec_l6IdOk) (rs := r_spec_l6IdOk) (enc := e_spec_l6IdOk) mixed so5 Tryd.func28 (by kernel_rfl) (by kernel_rfl) (by kernel_rfl) (by kernel_rfl) (by kernel_rfl) (by kernel_rfl) (wk := fun y => nocap y) Same.nocap ?_
  intro a out ho
  obtain ⟨r, h1, h2⟩ := Option.bind_eq_some_iff.mp ho
  obtain ⟨hp, rfl⟩ := under_some h1
  obtain ⟨N, hN⟩ := p_spec_l6IdOk S_spec_l3Digit (fun _ h => under_pos h) S_spec_l3Letter (fun _ h => under_pos h) a hp
  refine ⟨N, ?_⟩
  refine ((callF_G (fun y => some (nocap y)) 1 c_spec_l6IdOk r_spec_l6IdOk (e_spec_l6IdOk a) ⟨rfl, rfl, rfl⟩).trans (spec_l6IdOk_g ⟨G5, [], [], [], N, r_spec_l6IdOk, none, fun _ _ => none, fun y => some (nocap y)⟩ ⟨rfl, rfl, rfl, rfl, rfl, fun _ => rfl, fun _ => rfl⟩ S_spec_l3Digit ⟨rfl, (fun a0 => (show G5 50 _ = _ from rfl).trans (C_spec_l3Digit_eq a0))⟩ S_spec_l3Letter ⟨rfl, (fun a0 => (show G5 51 _ = _ from rfl).trans (C_spec_l3Letter_eq a0))⟩ a)).trans ?_
  show (spec_l6IdOk_f S_spec_l3Digit S_spec_l3Letter N a).bind _ = _
  rw [hN]; exact h2
-- loop.example/s02135/spec.l6VerdictsOk
noncomputable def S_spec_l6VerdictsOk (a0 : List TVerdict) : Option (Bool) := under (pre_spec_l6VerdictsOk a0) (s_spec_l6VerdictsOk a0)
def e_spec_l6VerdictsOk (a : (List TVerdict)) : List X := [.d (lstT cVerdict a)]
noncomputable def C_spec_l6VerdictsOk : List X → Option XOut := lay e_spec_l6VerdictsOk fun a => ((S_spec_l6VerdictsOk a)).bind fun r => some (.ret (.d (.bool r)) [])
theorem C_spec_l6VerdictsOk_eq (a0 : List TVerdict) : C_spec_l6VerdictsOk [.d (lstT cVerdict a0)] = ((S_spec_l6VerdictsOk a0)).bind fun r => some (.ret (.d (.bool r)) []) := lay_eq (enc := e_spec_l6VerdictsOk) (by
  intro a b h
  simp only [e_spec_l6VerdictsOk, List.cons.injEq, X.d.injEq, X.res.injEq, RK.bld.injEq, X.agg.injEq, X.box.injEq, D.int.injEq, D.bool.injEq, D.fn.injEq, sD_inj, lstT_inj, ownT_inj, and_true, true_and, and_assoc] at h
  exact h) a0
noncomputable def G7 : Ctx := G6.with 29 C_spec_l6VerdictsOk
theorem so7 : SoundAll Tryd.prog G7 := by
  refine layer (cuts := []) (k := 1) (cd := c_spec_l6VerdictsOk) (rs := r_spec_l6VerdictsOk) (enc := e_spec_l6VerdictsOk) mixed so6 Tryd.func29 (by kernel_rfl) (by kernel_rfl) (by kernel_rfl) (by kernel_rfl) (by kernel_rfl) (by kernel_rfl) (wk := fun y => nocap y) Same.nocap ?_
  intro a out ho
  obtain ⟨r, h1, h2⟩ := Option.bind_eq_some_iff.mp ho
  obtain ⟨hp, rfl⟩ := under_some h1
  obtain ⟨N, hN⟩ := p_spec_l6VerdictsOk a hp
  refine ⟨N, ?_⟩
  refine ((callF_G (fun y => some (nocap y)) 1 c_spec_l6VerdictsOk r_spec_l6VerdictsOk (e_spec_l6VerdictsOk a) ⟨rfl, rfl, rfl⟩).trans (spec_l6VerdictsOk_g ⟨G6, [], [], [], N, r_spec_l6VerdictsOk, none, fun _ _ => none, fun y => some (nocap y)⟩ ⟨rfl, rfl, rfl, rfl, rfl, fun _ => rfl, fun _ => rfl⟩ a)).trans ?_
  show (spec_l6VerdictsOk_f N a).bind _ = _
  rw [hN]; exact h2
-- loop.example/s02135/spec.l1Dec
noncomputable def S_spec_l1Dec (a0 : Int) : Option (List UInt8) := under (pre_spec_l1Dec a0) (s_spec_l1Dec a0)
def e_spec_l1Dec (a : Int) : List X := [.d (.int .i64 a)]
noncomputable def C_spec_l1Dec : List X → Option XOut := lay e_spec_l1Dec fun a => ((S_spec_l1Dec a)).bind fun r => some (.ret (.d (sD r)) [])
theorem inj_spec_l1Dec : ∀ a b, e_spec_l1Dec a = e_spec_l1Dec b → a = b := by
  intro a b h
  simp only [e_spec_l1Dec, List.cons.injEq, X.d.injEq, X.res.injEq, RK.bld.injEq, X.agg.injEq, X.box.injEq, D.int.injEq, D.bool.injEq, D.fn.injEq, sD_inj, lstT_inj, ownT_inj, and_true, true_and, and_assoc] at h
  exact h
theorem C_spec_l1Dec_eq (a0 : Int) : C_spec_l1Dec [.d (.int .i64 a0)] = ((S_spec_l1Dec a0)).bind fun r => some (.ret (.d (sD r)) []) := lay_eq (enc := e_spec_l1Dec) (by
  intro a b h
  simp only [e_spec_l1Dec, List.cons.injEq, X.d.injEq, X.res.injEq, RK.bld.injEq, X.agg.injEq, X.box.injEq, D.int.injEq, D.bool.injEq, D.fn.injEq, sD_inj, lstT_inj, ownT_inj, and_true, true_and, and_assoc] at h
  exact h) a0
noncomputable def G8 : Ctx := G7.with 30 C_spec_l1Dec
theorem so8 : SoundAll Tryd.prog G8 := by
  refine layer_rec (mu := fun a => mu_spec_l1Dec a) (cuts := []) (k := 1) (cd := c_spec_l1Dec) (rs := r_spec_l1Dec) (enc := e_spec_l1Dec) mixed so7 Tryd.func30 (by kernel_rfl) (by kernel_rfl) (by kernel_rfl) (by kernel_rfl) (by kernel_rfl) (by kernel_rfl) (wk := fun y => nocap y) Same.nocap ?_
  intro j a out ho hj
  obtain ⟨r, h1, h2⟩ := Option.bind_eq_some_iff.mp ho
  obtain ⟨hp, rfl⟩ := under_some h1
  obtain ⟨N, hN⟩ := p_spec_l1Dec (fun a0 => if mu_spec_l1Dec a0 < j then S_spec_l1Dec a0 else none) j (fun _ hm h => (if_pos hm).trans (under_pos h)) a hp hj
  refine ⟨N, ?_⟩
  refine ((callF_G (fun y => some (nocap y)) 1 c_spec_l1Dec r_spec_l1Dec (e_spec_l1Dec a) ⟨rfl, rfl, rfl⟩).trans (spec_l1Dec_g ⟨(G7.with 30 (lay e_spec_l1Dec fun a => if mu_spec_l1Dec a < j then ((S_spec_l1Dec a)).bind fun r => some (.ret (.d (sD r)) []) else none)), [], [], [], N, r_spec_l1Dec, none, fun _ _ => none, fun y => some (nocap y)⟩ ⟨rfl, rfl, rfl, rfl, rfl, fun _ => rfl, fun _ => rfl⟩ (fun a0 => if mu_spec_l1Dec a0 < j then S_spec_l1Dec a0 else none) ⟨rfl, fun a0 => (show (G7.with 30 (lay e_spec_l1Dec fun a => if mu_spec_l1Dec a < j then ((S_spec_l1Dec a)).bind fun r => some (.ret (.d (sD r)) []) else none)) 30 _ = _ from rfl).trans ((lay_eq (β := XOut) (enc := e_spec_l1Dec) (C := fun a => if mu_spec_l1Dec a < j then ((S_spec_l1Dec a)).bind fun r => some (.ret (.d (sD r)) []) else none) inj_spec_l1Dec a0).trans (by dsimp only; split <;> rfl))⟩ a)).trans ?_
  show (spec_l1Dec_f (fun a0 => if mu_spec_l1Dec a0 < j then S_spec_l1Dec a0 else none) N a).bind _ = _
  rw [hN]; exact h2
-- loop.example/s02135/spec.l6Word
noncomputable def S_spec_l6Word (a0_Kind : Int) (a0_Code : Int) : Option (List UInt8) := under (pre_spec_l6Word a0_Kind a0_Code) (s_spec_l6Word a0_Kind a0_Code)
def e_spec_l6Word (a : Int × Int) : List X := [.agg [.d (.int .i64 a.1), .d (.int .i64 a.2)]]
noncomputable def C_spec_l6Word : List X → Option XOut := lay e_spec_l6Word fun a => ((S_spec_l6Word a.1 a.2)).bind fun r => some (.ret (.d (sD r)) [])
theorem C_spec_l6Word_eq (a0_Kind : Int) (a0_Code : Int) : C_spec_l6Word [.agg [.d (.int .i64 a0_Kind), .d (.int .i64 a0_Code)]] = ((S_spec_l6Word a0_Kind a0_Code)).bind fun r => some (.ret (.d (sD r)) []) := lay_eq (enc := e_spec_l6Word) (by
  intro a b h
  simp only [e_spec_l6Word, List.cons.injEq, X.d.injEq, X.res.injEq, RK.bld.injEq, X.agg.injEq, X.box.injEq, D.int.injEq, D.bool.injEq, D.fn.injEq, sD_inj, lstT_inj, ownT_inj, and_true, true_and, and_assoc] at h
  simp only [Prod.ext_iff]; exact h) (a0_Kind, a0_Code)
noncomputable def G9 : Ctx := G8.with 31 C_spec_l6Word
theorem so9 : SoundAll Tryd.prog G9 := by
  refine layer (cuts := []) (k := 1) (cd := c_spec_l6Word) (rs := r_spec_l6Word) (enc := e_spec_l6Word) mixed so8 Tryd.func31 (by kernel_rfl) (by kernel_rfl) (by kernel_rfl) (by kernel_rfl) (by kernel_rfl) (by kernel_rfl) (wk := fun y => nocap y) Same.nocap ?_
  intro a out ho
  obtain ⟨r, h1, h2⟩ := Option.bind_eq_some_iff.mp ho
  obtain ⟨hp, rfl⟩ := under_some h1
  obtain ⟨N, hN⟩ := p_spec_l6Word S_spec_l1Dec (fun _ h => under_pos h) a.1 a.2 hp
  refine ⟨N, ?_⟩
  refine ((callF_G (fun y => some (nocap y)) 1 c_spec_l6Word r_spec_l6Word (e_spec_l6Word a) ⟨rfl, rfl, rfl⟩).trans (spec_l6Word_g ⟨G8, [], [], [], N, r_spec_l6Word, none, fun _ _ => none, fun y => some (nocap y)⟩ ⟨rfl, rfl, rfl, rfl, rfl, fun _ => rfl, fun _ => rfl⟩ S_spec_l1Dec ⟨rfl, (fun a0 => (show G8 30 _ = _ from rfl).trans (C_spec_l1Dec_eq a0))⟩ a.1 a.2)).trans ?_
  show (spec_l6Word_f S_spec_l1Dec N a.1 a.2).bind _ = _
  rw [hN]; exact h2
-- loop.example/s02135/spec.l2Bool
noncomputable def S_spec_l2Bool (a0 : Bool) : Option (Int) := under (pre_spec_l2Bool a0) (s_spec_l2Bool a0)
def e_spec_l2Bool (a : Bool) : List X := [.d (.bool a)]
noncomputable def C_spec_l2Bool : List X → Option XOut := lay e_spec_l2Bool fun a => ((S_spec_l2Bool a)).bind fun r => some (.ret (.d (.int .i64 r)) [])
theorem C_spec_l2Bool_eq (a0 : Bool) : C_spec_l2Bool [.d (.bool a0)] = ((S_spec_l2Bool a0)).bind fun r => some (.ret (.d (.int .i64 r)) []) := lay_eq (enc := e_spec_l2Bool) (by
  intro a b h
  simp only [e_spec_l2Bool, List.cons.injEq, X.d.injEq, X.res.injEq, RK.bld.injEq, X.agg.injEq, X.box.injEq, D.int.injEq, D.bool.injEq, D.fn.injEq, sD_inj, lstT_inj, ownT_inj, and_true, true_and, and_assoc] at h
  exact h) a0
noncomputable def G10 : Ctx := G9.with 32 C_spec_l2Bool
theorem so10 : SoundAll Tryd.prog G10 := by
  refine layer (cuts := []) (k := 1) (cd := c_spec_l2Bool) (rs := r_spec_l2Bool) (enc := e_spec_l2Bool) mixed so9 Tryd.func32 (by kernel_rfl) (by kernel_rfl) (by kernel_rfl) (by kernel_rfl) (by kernel_rfl) (by kernel_rfl) (wk := fun y => nocap y) Same.nocap ?_
  intro a out ho
  obtain ⟨r, h1, h2⟩ := Option.bind_eq_some_iff.mp ho
  obtain ⟨hp, rfl⟩ := under_some h1
  obtain ⟨N, hN⟩ := p_spec_l2Bool a hp
  refine ⟨N, ?_⟩
  refine ((callF_G (fun y => some (nocap y)) 1 c_spec_l2Bool r_spec_l2Bool (e_spec_l2Bool a) ⟨rfl, rfl, rfl⟩).trans (spec_l2Bool_g ⟨G9, [], [], [], N, r_spec_l2Bool, none, fun _ _ => none, fun y => some (nocap y)⟩ ⟨rfl, rfl, rfl, rfl, rfl, fun _ => rfl, fun _ => rfl⟩ a)).trans ?_
  show (spec_l2Bool_f N a).bind _ = _
  rw [hN]; exact h2
-- loop.example/s02135/spec.Report
noncomputable def S_spec_Report (a0 : List UInt8) (a1 : List TVerdict) : Option (List UInt8 × Bool) := under (pre_spec_Report a0 a1) (s_spec_Report a0 a1)
def e_spec_Report (a : (List UInt8) × (List TVerdict)) : List X := [.d (sD a.1), .d (lstT cVerdict a.2)]
noncomputable def C_spec_Report : List X → Option XOut := lay e_spec_Report fun a => ((S_spec_Report a.1 a.2)).bind fun r => some (.ret (.tup [.d (sD r.1), .d (.bool r.2)]) [])
theorem C_spec_Report_eq (a0 : List UInt8) (a1 : List TVerdict) : C_spec_Report [.d (sD a0), .d (lstT cVerdict a1)] = ((S_spec_Report a0 a1)).bind fun r => some (.ret (.tup [.d (sD r.1), .d (.bool r.2)]) []) := lay_eq (enc := e_spec_Report) (by
  intro a b h
  simp only [e_spec_Report, List.cons.injEq, X.d.injEq, X.res.injEq, RK.bld.injEq, X.agg.injEq, X.box.injEq, D.int.injEq, D.bool.injEq, D.fn.injEq, sD_inj, lstT_inj, ownT_inj, and_true, true_and, and_assoc] at h
  simp only [Prod.ext_iff]; exact h) (a0, a1)
noncomputable def G11 : Ctx := G10.with 12 C_spec_Report
theorem so11 : SoundAll Tryd.prog G11 := by
  refine layer (cuts := []) (k := 2) (cd := c_spec_Report) (rs := r_spec_Report) (enc := e_spec_Report) mixed so10 Tryd.func12 (by kernel_rfl) (by kernel_rfl) (by kernel_rfl) (by kernel_rfl) (by kernel_rfl) (by kernel_rfl) (wk := fun y => nocap y) Same.nocap ?_
  intro a out ho
  obtain ⟨r, h1, h2⟩ := Option.bind_eq_some_iff.mp ho
  obtain ⟨hp, rfl⟩ := under_some h1
  obtain ⟨N, hN⟩ := p_spec_Report S_spec_l6IdOk (fun _ h => under_pos h) S_spec_l6VerdictsOk (fun _ h => under_pos h) S_spec_l1Dec (fun _ h => under_pos h) S_spec_l6Word (fun _ _ h => under_pos h) S_spec_l2Bool (fun _ h => under_pos h) a.1 a.2 hp
  refine ⟨N, ?_⟩
  refine ((callF_G (fun y => some (nocap y)) 2 c_spec_Report r_spec_Report (e_spec_Report a) ⟨rfl, rfl, rfl⟩).trans (spec_Report_g ⟨G10, [], [], [], N, r_spec_Report, none, fun _ _ => none, fun y => some (nocap y)⟩ ⟨rfl, rfl, rfl, rfl, rfl, fun _ => rfl, fun _ => rfl⟩ S_spec_l6IdOk ⟨rfl, (fun a0 => (show G10 28 _ = _ from rfl).trans (C_spec_l6IdOk_eq a0))⟩ S_spec_l6VerdictsOk ⟨rfl, (fun a0 => (show G10 29 _ = _ from rfl).trans (C_spec_l6VerdictsOk_eq a0))⟩ S_spec_l1Dec ⟨rfl, (fun a0 => (show G10 30 _ = _ from rfl).trans (C_spec_l1Dec_eq a0))⟩ S_spec_l6Word ⟨rfl, (fun a0_Kind a0_Code => (show G10 31 _ = _ from rfl).trans (C_spec_l6Word_eq a0_Kind a0_Code))⟩ S_spec_l2Bool ⟨rfl, (fun a0 => (show G10 32 _ = _ from rfl).trans (C_spec_l2Bool_eq a0))⟩ a.1 a.2)).trans ?_
  show (spec_Report_f S_spec_l6IdOk S_spec_l6VerdictsOk S_spec_l1Dec S_spec_l6Word S_spec_l2Bool N a.1 a.2).bind _ = _
  rw [hN]; exact h2
-- loop.example/s02135/impl.isDigit
noncomputable def S_impl_isDigit (a0 : Int) : Option (Bool) := under (pre_impl_isDigit a0) (s_impl_isDigit a0)
def e_impl_isDigit (a : Int) : List X := [.d (.int .u8 a)]
noncomputable def C_impl_isDigit : List X → Option XOut := lay e_impl_isDigit fun a => ((S_impl_isDigit a)).bind fun r => some (.ret (.d (.bool r)) [])
theorem C_impl_isDigit_eq (a0 : Int) : C_impl_isDigit [.d (.int .u8 a0)] = ((S_impl_isDigit a0)).bind fun r => some (.ret (.d (.bool r)) []) := lay_eq (enc := e_impl_isDigit) (by
  intro a b h
  simp only [e_impl_isDigit, List.cons.injEq, X.d.injEq, X.res.injEq, RK.bld.injEq, X.agg.injEq, X.box.injEq, D.int.injEq, D.bool.injEq, D.fn.injEq, sD_inj, lstT_inj, ownT_inj, and_true, true_and, and_assoc] at h
  exact h) a0
noncomputable def G12 : Ctx := G11.with 52 C_impl_isDigit
theorem so12 : SoundAll Tryd.prog G12 := by
  refine layer (cuts := []) (k := 1) (cd := c_impl_isDigit) (rs := r_impl_isDigit) (enc := e_impl_isDigit) mixed so11 Tryd.func52 (by kernel_rfl) (by kernel_rfl) (by kernel_rfl) (by kernel_rfl) (by kernel_rfl) (by kernel_rfl) (wk := fun y => nocap y) Same.nocap ?_
  intro a out ho
  obtain ⟨r, h1, h2⟩ := Option.bind_eq_some_iff.mp ho
  obtain ⟨hp, rfl⟩ := under_some h1
  obtain ⟨N, hN⟩ := p_impl_isDigit a hp
  refine ⟨N, ?_⟩
  refine ((callF_G (fun y => some (nocap y)) 1 c_impl_isDigit r_impl_isDigit (e_impl_isDigit a) ⟨rfl, rfl, rfl⟩).trans (impl_isDigit_g ⟨G11, [], [], [], N, r_impl_isDigit, none, fun _ _ => none, fun y => some (nocap y)⟩ ⟨rfl, rfl, rfl, rfl, rfl, fun _ => rfl, fun _ => rfl⟩ a)).trans ?_
  show (impl_isDigit_f N a).bind _ = _
  rw [hN]; exact h2
-- loop.example/s02135/impl.isLetter
noncomputable def S_impl_isLetter (a0 : Int) : Option (Bool) := under (pre_impl_isLetter a0) (s_impl_isLetter a0)
def e_impl_isLetter (a : Int) : List X := [.d (.int .u8 a)]
noncomputable def C_impl_isLetter : List X → Option XOut := lay e_impl_isLetter fun a => ((S_impl_isLetter a)).bind fun r => some (.ret (.d (.bool r)) [])
theorem C_impl_isLetter_eq (a0 : Int) : C_impl_isLetter [.d (.int .u8 a0)] = ((S_impl_isLetter a0)).bind fun r => some (.ret (.d (.bool r)) []) := lay_eq (enc := e_impl_isLetter) (by
  intro a b h
  simp only [e_impl_isLetter, List.cons.injEq, X.d.injEq, X.res.injEq, RK.bld.injEq, X.agg.injEq, X.box.injEq, D.int.injEq, D.bool.injEq, D.fn.injEq, sD_inj, lstT_inj, ownT_inj, and_true, true_and, and_assoc] at h
  exact h) a0
noncomputable def G13 : Ctx := G12.with 53 C_impl_isLetter
theorem so13 : SoundAll Tryd.prog G13 := by
  refine layer (cuts := []) (k := 1) (cd := c_impl_isLetter) (rs := r_impl_isLetter) (enc := e_impl_isLetter) mixed so12 Tryd.func53 (by kernel_rfl) (by kernel_rfl) (by kernel_rfl) (by kernel_rfl) (by kernel_rfl) (by kernel_rfl) (wk := fun y => nocap y) Same.nocap ?_
  intro a out ho
  obtain ⟨r, h1, h2⟩ := Option.bind_eq_some_iff.mp ho
  obtain ⟨hp, rfl⟩ := under_some h1
  obtain ⟨N, hN⟩ := p_impl_isLetter a hp
  refine ⟨N, ?_⟩
  refine ((callF_G (fun y => some (nocap y)) 1 c_impl_isLetter r_impl_isLetter (e_impl_isLetter a) ⟨rfl, rfl, rfl⟩).trans (impl_isLetter_g ⟨G12, [], [], [], N, r_impl_isLetter, none, fun _ _ => none, fun y => some (nocap y)⟩ ⟨rfl, rfl, rfl, rfl, rfl, fun _ => rfl, fun _ => rfl⟩ a)).trans ?_
  show (impl_isLetter_f N a).bind _ = _
  rw [hN]; exact h2
-- loop.example/s02135/impl.idOk
noncomputable def S_impl_idOk (a0 : List UInt8) : Option (Bool) := under (pre_impl_idOk a0) (s_impl_idOk a0)
def e_impl_idOk (a : (List UInt8)) : List X := [.d (sD a)]
noncomputable def C_impl_idOk : List X → Option XOut := lay e_impl_idOk fun a => ((S_impl_idOk a)).bind fun r => some (.ret (.d (.bool r)) [])
theorem C_impl_idOk_eq (a0 : List UInt8) : C_impl_idOk [.d (sD a0)] = ((S_impl_idOk a0)).bind fun r => some (.ret (.d (.bool r)) []) := lay_eq (enc := e_impl_idOk) (by
  intro a b h
  simp only [e_impl_idOk, List.cons.injEq, X.d.injEq, X.res.injEq, RK.bld.injEq, X.agg.injEq, X.box.injEq, D.int.injEq, D.bool.injEq, D.fn.injEq, sD_inj, lstT_inj, ownT_inj, and_true, true_and, and_assoc] at h
  exact h) a0
noncomputable def G14 : Ctx := G13.with 34 C_impl_idOk
theorem so14 : SoundAll Tryd.prog G14 := by
  refine layer (cuts := []) (k := 1) (cd := c_impl_idOk) (rs := r_impl_idOk) (enc := e_impl_idOk) mixed so13 Tryd.func34 (by kernel_rfl) (by kernel_rfl) (by kernel_rfl) (by kernel_rfl) (by kernel_rfl) (by kernel_rfl) (wk := fun y => nocap y) Same.nocap ?_
  intro a out ho
  obtain ⟨r, h1, h2⟩ := Option.bind_eq_some_iff.mp ho
  obtain ⟨hp, rfl⟩ := under_some h1
  obtain ⟨N, hN⟩ := p_impl_idOk S_impl_isDigit (fun _ h => under_pos h) S_impl_isLetter (fun _ h => under_pos h) a hp
  refine ⟨N, ?_⟩
  refine ((callF_G (fun y => some (nocap y)) 1 c_impl_idOk r_impl_idOk (e_impl_idOk a) ⟨rfl, rfl, rfl⟩).trans (impl_idOk_g ⟨G13, [], [], [], N, r_impl_idOk, none, fun _ _ => none, fun y => some (nocap y)⟩ ⟨rfl, rfl, rfl, rfl, rfl, fun _ => rfl, fun _ => rfl⟩ S_impl_isDigit ⟨rfl, (fun a0 => (show G13 52 _ = _ from rfl).trans (C_impl_isDigit_eq a0))⟩ S_impl_isLetter ⟨rfl, (fun a0 => (show G13 53 _ = _ from rfl).trans (C_impl_isLetter_eq a0))⟩ a)).trans ?_
  show (impl_idOk_f S_impl_isDigit S_impl_isLetter N a).bind _ = _
  rw [hN]; exact h2
-- strings.Join
noncomputable def S_strings_Join (a0 : List (List UInt8)) (a1 : List UInt8) : Option (List UInt8) := under (pre_strings_Join a0 a1) (s_strings_Join a0 a1)
def e_strings_Join (a : (List (List UInt8)) × (List UInt8)) : List X := [.d (lstT cS a.1), .d (sD a.2)]
noncomputable def C_strings_Join : List X → Option XOut := lay e_strings_Join fun a => ((S_strings_Join a.1 a.2)).bind fun r => some (.ret (.d (sD r)) [])
theorem C_strings_Join_eq (a0 : List (List UInt8)) (a1 : List UInt8) : C_strings_Join [.d (lstT cS a0), .d (sD a1)] = ((S_strings_Join a0 a1)).bind fun r => some (.ret (.d (sD r)) []) := lay_eq (enc := e_strings_Join) (by
  intro a b h
  simp only [e_strings_Join, List.cons.injEq, X.d.injEq, X.res.injEq, RK.bld.injEq, X.agg.injEq, X.box.injEq, D.int.injEq, D.bool.injEq, D.fn.injEq, sD_inj, lstT_inj, ownT_inj, and_true, true_and, and_assoc] at h
  simp only [Prod.ext_iff]; exact h) (a0, a1)
noncomputable def G15 : Ctx := G14.with 54 C_strings_Join
theorem so15 : SoundAll Tryd.prog G15 := so14.with (sound_Join (enc := e_strings_Join) (fun _ => rfl) (fun a out ho => by
  obtain ⟨r, h1, h2⟩ := Option.bind_eq_some_iff.mp ho
  obtain ⟨hp, rfl⟩ := under_some h1
  exact ⟨q_strings_Join hp, (Option.some.inj h2).symm⟩))
-- (*strings.Builder).WriteString
noncomputable def S___strings_Builder__WriteString (T : Nat) (b : List UInt8) (a1 : List UInt8) : Option (Int × List UInt8) := under (pre___strings_Builder__WriteString T b a1) (s___strings_Builder__WriteString T b a1)
def e___strings_Builder__WriteString (a : Nat × (List UInt8) × (List UInt8)) : List X := [.res (.bld a.1 5) (sD a.2.1), .d (sD a.2.2)]
noncomputable def C___strings_Builder__WriteString : List X → Option XOut := lay e___strings_Builder__WriteString fun a => ((S___strings_Builder__WriteString a.1 a.2.1 a.2.2)).bind fun r => some (.ret (.tup [.d (.int .i64 r.1), .d .nili]) [[sD r.2]])
theorem C___strings_Builder__WriteString_eq (T : Nat) (b : List UInt8) (a1 : List UInt8) : C___strings_Builder__WriteString [.res (.bld T 5) (sD b), .d (sD a1)] = ((S___strings_Builder__WriteString T b a1)).bind fun r => some (.ret (.tup [.d (.int .i64 r.1), .d .nili]) [[sD r.2]]) := lay_eq (enc := e___strings_Builder__WriteString) (by
  intro a b h
  simp only [e___strings_Builder__WriteString, List.cons.injEq, X.d.injEq, X.res.injEq, RK.bld.injEq, X.agg.injEq, X.box.injEq, D.int.injEq, D.bool.injEq, D.fn.injEq, sD_inj, lstT_inj, ownT_inj, and_true, true_and, and_assoc] at h
  simp only [Prod.ext_iff]; exact h) (T, b, a1)
noncomputable def G16 : Ctx := G15.with 49 C___strings_Builder__WriteString
theorem so16 : SoundAll Tryd.prog G16 := so15.with (sound_WriteString (enc := e___strings_Builder__WriteString) (fun _ => rfl) (fun a out ho => by
  obtain ⟨r, h1, h2⟩ := Option.bind_eq_some_iff.mp ho
  obtain ⟨hp, rfl⟩ := under_some h1
  exact ⟨q___strings_Builder__WriteString hp, (Option.some.inj h2).symm⟩))
-- (*strings.Builder).WriteByte
noncomputable def S___strings_Builder__WriteByte (T : Nat) (b : List UInt8) (a1 : Int) : Option (List UInt8) := under (pre___strings_Builder__WriteByte T b a1) (s___strings_Builder__WriteByte T b a1)
def e___strings_Builder__WriteByte (a : Nat × (List UInt8) × Int) : List X := [.res (.bld a.1 5) (sD a.2.1), .d (.int .u8 a.2.2)]
noncomputable def C___strings_Builder__WriteByte : List X → Option XOut := lay e___strings_Builder__WriteByte fun a => ((S___strings_Builder__WriteByte a.1 a.2.1 a.2.2)).bind fun r => some (.ret (.d .nili) [[sD r]])
theorem C___strings_Builder__WriteByte_eq (T : Nat) (b : List UInt8) (a1 : Int) : C___strings_Builder__WriteByte [.res (.bld T 5) (sD b), .d (.int .u8 a1)] = ((S___strings_Builder__WriteByte T b a1)).bind fun r => some (.ret (.d .nili) [[sD r]]) := lay_eq (enc := e___strings_Builder__WriteByte) (by
  intro a b h
  simp only [e___strings_Builder__WriteByte, List.cons.injEq, X.d.injEq, X.res.injEq, RK.bld.injEq, X.agg.injEq, X.box.injEq, D.int.injEq, D.bool.injEq, D.fn.injEq, sD_inj, lstT_inj, ownT_inj, and_true, true_and, and_assoc] at h
  simp only [Prod.ext_iff]; exact h) (T, b, a1)
noncomputable def G17 : Ctx := G16.with 48 C___strings_Builder__WriteByte
theorem so17 : SoundAll Tryd.prog G17 := so16.with (sound_WriteByte (enc := e___strings_Builder__WriteByte) (fun _ => rfl) (fun a out ho => by
  obtain ⟨r, h1, h2⟩ := Option.bind_eq_some_iff.mp ho
  obtain ⟨hp, rfl⟩ := under_some h1
  exact ⟨q___strings_Builder__WriteByte hp, (Option.some.inj h2).symm⟩))
-- (*loop.example/s02135/impl.lines).put
noncomputable def S___impl_lines__put (a0 : List UInt8) (a1 : List (List UInt8)) : Option (List UInt8) := under (pre___impl_lines__put a0 a1) (s___impl_lines__put a0 a1)
def e___impl_lines__put (a : (List UInt8) × (List (List UInt8))) : List X := [.res (.bld 65 5) (sD a.1), .d (lstT cS a.2)]
noncomputable def C___impl_lines__put : List X → Option XOut := lay e___impl_lines__put fun a => ((S___impl_lines__put a.1 a.2)).bind fun r => some (.ret (.tup []) [[sD r]])
theorem C___impl_lines__put_eq (a0 : List UInt8) (a1 : List (List UInt8)) : C___impl_lines__put [.res (.bld 65 5) (sD a0), .d (lstT cS a1)] = ((S___impl_lines__put a0 a1)).bind fun r => some (.ret (.tup []) [[sD r]]) := lay_eq (enc := e___impl_lines__put) (by
  intro a b h
  simp only [e___impl_lines__put, List.cons.injEq, X.d.injEq, X.res.injEq, RK.bld.injEq, X.agg.injEq, X.box.injEq, D.int.injEq, D.bool.injEq, D.fn.injEq, sD_inj, lstT_inj, ownT_inj, and_true, true_and, and_assoc] at h
  simp only [Prod.ext_iff]; exact h) (a0, a1)
noncomputable def G18 : Ctx := G17.with 35 C___impl_lines__put
theorem so18 : SoundAll Tryd.prog G18 := by
  refine layer (cuts := []) (k := 2) (cd := c___impl_lines__put) (rs := r___impl_lines__put) (enc := e___impl_lines__put) mixed so17 Tryd.func35 (by kernel_rfl) (by kernel_rfl) (by kernel_rfl) (by kernel_rfl) (by kernel_rfl) (by kernel_rfl) (wk := fun y => nocap y) Same.nocap ?_
  intro a out ho
  obtain ⟨r, h1, h2⟩ := Option.bind_eq_some_iff.mp ho
  obtain ⟨hp, rfl⟩ := under_some h1
  obtain ⟨N, hN⟩ := p___impl_lines__put S_strings_Join (fun _ _ h => under_pos h) S___strings_Builder__WriteString (fun _ _ _ h => under_pos h) S___strings_Builder__WriteByte (fun _ _ _ h => under_pos h) a.1 a.2 hp
  refine ⟨N, ?_⟩
  refine ((callF_G (fun y => some (nocap y)) 2 c___impl_lines__put r___impl_lines__put (e___impl_lines__put a) ⟨rfl, rfl, rfl⟩).trans (__impl_lines__put_g ⟨G17, [0], [0], [(0, .res (.bld 65 5))], N, r___impl_lines__put, none, fun _ _ => none, fun y => some (nocap y)⟩ ⟨rfl, rfl, rfl, rfl, rfl, fun _ => rfl, fun _ => rfl⟩ S_strings_Join ⟨rfl, (fun a0 a1 => (show G17 54 _ = _ from rfl).trans (C_strings_Join_eq a0 a1))⟩ S___strings_Builder__WriteString ⟨rfl, (fun T b a1 => (show G17 49 _ = _ from rfl).trans (C___strings_Builder__WriteString_eq T b a1))⟩ S___strings_Builder__WriteByte ⟨rfl, (fun T b a1 => (show G17 48 _ = _ from rfl).trans (C___strings_Builder__WriteByte_eq T b a1))⟩ a.1 a.2)).trans ?_
  show (__impl_lines__put_f S_strings_Join S___strings_Builder__WriteString S___strings_Builder__WriteByte N a.1 a.2).bind _ = _
  rw [hN]; exact h2
-- loop.example/s02135/impl.verdictOk
noncomputable def S_impl_verdictOk (a0_Kind : Int) (a0_Code : Int) : Option (Bool) := under (pre_impl_verdictOk a0_Kind a0_Code) (s_impl_verdictOk a0_Kind a0_Code)
def e_impl_verdictOk (a : Int × Int) : List X := [.agg [.d (.int .i64 a.1), .d (.int .i64 a.2)]]
noncomputable def C_impl_verdictOk : List X → Option XOut := lay e_impl_verdictOk fun a => ((S_impl_verdictOk a.1 a.2)).bind fun r => some (.ret (.d (.bool r)) [])
theorem C_impl_verdictOk_eq (a0_Kind : Int) (a0_Code : Int) : C_impl_verdictOk [.agg [.d (.int .i64 a0_Kind), .d (.int .i64 a0_Code)]] = ((S_impl_verdictOk a0_Kind a0_Code)).bind fun r => some (.ret (.d (.bool r)) []) := lay_eq (enc := e_impl_verdictOk) (by
  intro a b h
  simp only [e_impl_verdictOk, List.cons.injEq, X.d.injEq, X.res.injEq, RK.bld.injEq, X.agg.injEq, X.box.injEq, D.int.injEq, D.bool.injEq, D.fn.injEq, sD_inj, lstT_inj, ownT_inj, and_true, true_and, and_assoc] at h
  simp only [Prod.ext_iff]; exact h) (a0_Kind, a0_Code)
noncomputable def G19 : Ctx := G18.with 36 C_impl_verdictOk
theorem so19 : SoundAll Tryd.prog G19 := by
  refine layer (cuts := []) (k := 1) (cd := c_impl_verdictOk) (rs := r_impl_verdictOk) (enc := e_impl_verdictOk) mixed so18 Tryd.func36 (by kernel_rfl) (by kernel_rfl) (by kernel_rfl) (by kernel_rfl) (by kernel_rfl) (by kernel_rfl) (wk := fun y => nocap y) Same.nocap ?_
  intro a out ho
  obtain ⟨r, h1, h2⟩ := Option.bind_eq_some_iff.mp ho
  obtain ⟨hp, rfl⟩ := under_some h1
  obtain ⟨N, hN⟩ := p_impl_verdictOk a.1 a.2 hp
  refine ⟨N, ?_⟩
  refine ((callF_G (fun y => some (nocap y)) 1 c_impl_verdictOk r_impl_verdictOk (e_impl_verdictOk a) ⟨rfl, rfl, rfl⟩).trans (impl_verdictOk_g ⟨G18, [], [], [], N, r_impl_verdictOk, none, fun _ _ => none, fun y => some (nocap y)⟩ ⟨rfl, rfl, rfl, rfl, rfl, fun _ => rfl, fun _ => rfl⟩ a.1 a.2)).trans ?_
  show (impl_verdictOk_f N a.1 a.2).bind _ = _
  rw [hN]; exact h2
-- strconv.Itoa
noncomputable def S_strconv_Itoa (a0 : Int) : Option (List UInt8) := under (pre_strconv_Itoa a0) (s_strconv_Itoa a0)
def e_strconv_Itoa (a : Int) : List X := [.d (.int .i64 a)]
noncomputable def C_strconv_Itoa : List X → Option XOut := lay e_strconv_Itoa fun a => ((S_strconv_Itoa a)).bind fun r => some (.ret (.d (sD r)) [])
theorem C_strconv_Itoa_eq (a0 : Int) : C_strconv_Itoa [.d (.int .i64 a0)] = ((S_strconv_Itoa a0)).bind fun r => some (.ret (.d (sD r)) []) := lay_eq (enc := e_strconv_Itoa) (by
  intro a b h
  simp only [e_strconv_Itoa, List.cons.injEq, X.d.injEq, X.res.injEq, RK.bld.injEq, X.agg.injEq, X.box.injEq, D.int.injEq, D.bool.injEq, D.fn.injEq, sD_inj, lstT_inj, ownT_inj, and_true, true_and, and_assoc] at h
  exact h) a0
noncomputable def G20 : Ctx := G19.with 37 C_strconv_Itoa
theorem so20 : SoundAll Tryd.prog G20 := so19.with (sound_Itoa (enc := e_strconv_Itoa) (fun _ => rfl) (fun a out ho => by
  obtain ⟨r, h1, h2⟩ := Option.bind_eq_some_iff.mp ho
  obtain ⟨hp, rfl⟩ := under_some h1
  exact ⟨q_strconv_Itoa hp, (Option.some.inj h2).symm⟩))
-- loop.example/s02135/impl.verdictWord
noncomputable def S_impl_verdictWord (a0_Kind : Int) (a0_Code : Int) : Option (List UInt8) := under (pre_impl_verdictWord a0_Kind a0_Code) (s_impl_verdictWord a0_Kind a0_Code)
def e_impl_verdictWord (a : Int × Int) : List X := [.agg [.d (.int .i64 a.1), .d (.int .i64 a.2)]]
noncomputable def C_impl_verdictWord : List X → Option XOut := lay e_impl_verdictWord fun a => ((S_impl_verdictWord a.1 a.2)).bind fun r => some (.ret (.d (sD r)) [])
theorem C_impl_verdictWord_eq (a0_Kind : Int) (a0_Code : Int) : C_impl_verdictWord [.agg [.d (.int .i64 a0_Kind), .d (.int .i64 a0_Code)]] = ((S_impl_verdictWord a0_Kind a0_Code)).bind fun r => some (.ret (.d (sD r)) []) := lay_eq (enc := e_impl_verdictWord) (by
  intro a b h
  simp only [e_impl_verdictWord, List.cons.injEq, X.d.injEq, X.res.injEq, RK.bld.injEq, X.agg.injEq, X.box.injEq, D.int.injEq, D.bool.injEq, D.fn.injEq, sD_inj, lstT_inj, ownT_inj, and_true, true_and, and_assoc] at h
  simp only [Prod.ext_iff]; exact h) (a0_Kind, a0_Code)
noncomputable def G21 : Ctx := G20.with 38 C_impl_verdictWord
theorem so21 : SoundAll Tryd.prog G21 := by
  refine layer (cuts := []) (k := 1) (cd := c_impl_verdictWord) (rs := r_impl_verdictWord) (enc := e_impl_verdictWord) mixed so20 Tryd.func38 (by kernel_rfl) (by kernel_rfl) (by kernel_rfl) (by kernel_rfl) (by kernel_rfl) (by kernel_rfl) (wk := fun y => nocap y) Same.nocap ?_
  intro a out ho
  obtain ⟨r, h1, h2⟩ := Option.bind_eq_some_iff.mp ho
  obtain ⟨hp, rfl⟩ := under_some h1
  obtain ⟨N, hN⟩ := p_impl_verdictWord S_strconv_Itoa (fun _ h => under_pos h) a.1 a.2 hp
  refine ⟨N, ?_⟩
  refine ((callF_G (fun y => some (nocap y)) 1 c_impl_verdictWord r_impl_verdictWord (e_impl_verdictWord a) ⟨rfl, rfl, rfl⟩).trans (impl_verdictWord_g ⟨G20, [], [], [], N, r_impl_verdictWord, none, fun _ _ => none, fun y => some (nocap y)⟩ ⟨rfl, rfl, rfl, rfl, rfl, fun _ => rfl, fun _ => rfl⟩ S_strconv_Itoa ⟨rfl, (fun a0 => (show G20 37 _ = _ from rfl).trans (C_strconv_Itoa_eq a0))⟩ a.1 a.2)).trans ?_
  show (impl_verdictWord_f S_strconv_Itoa N a.1 a.2).bind _ = _
  rw [hN]; exact h2
-- (*strings.Builder).String
noncomputable def S___strings_Builder__String (T : Nat) (b : List UInt8) : Option (List UInt8 × List UInt8) := under (pre___strings_Builder__String T b) (s___strings_Builder__String T b)
def e___strings_Builder__String (a : Nat × (List UInt8)) : List X := [.res (.bld a.1 5) (sD a.2)]
noncomputable def C___strings_Builder__String : List X → Option XOut := lay e___strings_Builder__String fun a => ((S___strings_Builder__String a.1 a.2)).bind fun r => some (.ret (.d (sD r.1)) [[sD r.2]])
theorem C___strings_Builder__String_eq (T : Nat) (b : List UInt8) : C___strings_Builder__String [.res (.bld T 5) (sD b)] = ((S___strings_Builder__String T b)).bind fun r => some (.ret (.d (sD r.1)) [[sD r.2]]) := lay_eq (enc := e___strings_Builder__String) (by
  intro a b h
  simp only [e___strings_Builder__String, List.cons.injEq, X.d.injEq, X.res.injEq, RK.bld.injEq, X.agg.injEq, X.box.injEq, D.int.injEq, D.bool.injEq, D.fn.injEq, sD_inj, lstT_inj, ownT_inj, and_true, true_and, and_assoc] at h
  simp only [Prod.ext_iff]; exact h) (T, b)
noncomputable def G22 : Ctx := G21.with 39 C___strings_Builder__String
theorem so22 : SoundAll Tryd.prog G22 := so21.with (sound_String (enc := e___strings_Builder__String) (fun _ => rfl) (fun a out ho => by
  obtain ⟨r, h1, h2⟩ := Option.bind_eq_some_iff.mp ho
  obtain ⟨hp, rfl⟩ := under_some h1
  exact ⟨q___strings_Builder__String hp, (Option.some.inj h2).symm⟩))
-- loop.example/s02135/impl.Report
noncomputable def S_impl_Report (a0 : List UInt8) (a1 : List TVerdict) : Option (List UInt8 × Bool) := under (pre_impl_Report a0 a1) (s_impl_Report a0 a1)
def e_impl_Report (a : (List UInt8) × (List TVerdict)) : List X := [.d (sD a.1), .d (lstT cVerdict a.2)]
noncomputable def C_impl_Report : List X → Option XOut := lay e_impl_Report fun a => ((S_impl_Report a.1 a.2)).bind fun r => some (.ret (.tup [.d (sD r.1), .d (.bool r.2)]) [])
theorem C_impl_Report_eq (a0 : List UInt8) (a1 : List TVerdict) : C_impl_Report [.d (sD a0), .d (lstT cVerdict a1)] = ((S_impl_Report a0 a1)).bind fun r => some (.ret (.tup [.d (sD r.1), .d (.bool r.2)]) []) := lay_eq (enc := e_impl_Report) (by
  intro a b h
  simp only [e_impl_Report, List.cons.injEq, X.d.injEq, X.res.injEq, RK.bld.injEq, X.agg.injEq, X.box.injEq, D.int.injEq, D.bool.injEq, D.fn.injEq, sD_inj, lstT_inj, ownT_inj, and_true, true_and, and_assoc] at h
  simp only [Prod.ext_iff]; exact h) (a0, a1)
noncomputable def G23 : Ctx := G22.with 14 C_impl_Report
theorem so23 : SoundAll Tryd.prog G23 := by
  refine layer (cuts := []) (k := 2) (cd := c_impl_Report) (rs := r_impl_Report) (enc := e_impl_Report) mixed so22 Tryd.func14 (by kernel_rfl) (by kernel_rfl) (by kernel_rfl) (by kernel_rfl) (by kernel_rfl) (by kernel_rfl) (wk := fun y => nocap y) Same.nocap ?_
  intro a out ho
  obtain ⟨r, h1, h2⟩ := Option.bind_eq_some_iff.mp ho
  obtain ⟨hp, rfl⟩ := under_some h1
  obtain ⟨N, hN⟩ := p_impl_Report S_impl_idOk (fun _ h => under_pos h) S___impl_lines__put (fun _ _ h => under_pos h) S_impl_verdictOk (fun _ _ h => under_pos h) S_strconv_Itoa (fun _ h => under_pos h) S_impl_verdictWord (fun _ _ h => under_pos h) S___strings_Builder__String (fun _ _ h => under_pos h) a.1 a.2 hp
  refine ⟨N, ?_⟩
  refine ((callF_G (fun y => some (nocap y)) 2 c_impl_Report r_impl_Report (e_impl_Report a) ⟨rfl, rfl, rfl⟩).trans (impl_Report_g ⟨G22, [], [], [], N, r_impl_Report, none, fun _ _ => none, fun y => some (nocap y)⟩ ⟨rfl, rfl, rfl, rfl, rfl, fun _ => rfl, fun _ => rfl⟩ S_impl_idOk ⟨rfl, (fun a0 => (show G22 34 _ = _ from rfl).trans (C_impl_idOk_eq a0))⟩ S___impl_lines__put ⟨rfl, (fun a0 a1 => (show G22 35 _ = _ from rfl).trans (C___impl_lines__put_eq a0 a1))⟩ S_impl_verdictOk ⟨rfl, (fun a0_Kind a0_Code => (show G22 36 _ = _ from rfl).trans (C_impl_verdictOk_eq a0_Kind a0_Code))⟩ S_strconv_Itoa ⟨rfl, (fun a0 => (show G22 37 _ = _ from rfl).trans (C_strconv_Itoa_eq a0))⟩ S_impl_verdictWord ⟨rfl, (fun a0_Kind a0_Code => (show G22 38 _ = _ from rfl).trans (C_impl_verdictWord_eq a0_Kind a0_Code))⟩ S___strings_Builder__String ⟨rfl, (fun T b => (show G22 39 _ = _ from rfl).trans (C___strings_Builder__String_eq T b))⟩ a.1 a.2)).trans ?_
  show (impl_Report_f S_impl_idOk S___impl_lines__put S_impl_verdictOk S_strconv_Itoa S_impl_verdictWord S___strings_Builder__String N a.1 a.2).bind _ = _
  rw [hN]; exact h2
-- loop.example/s02135/laws.eqVerdict
noncomputable def S_laws_eqVerdict (a0_Kind : Int) (a0_Code : Int) (a1_Kind : Int) (a1_Code : Int) : Option (Bool) := under (pre_laws_eqVerdict a0_Kind a0_Code a1_Kind a1_Code) (s_laws_eqVerdict a0_Kind a0_Code a1_Kind a1_Code)
def e_laws_eqVerdict (a : Int × Int × Int × Int) : List X := [.agg [.d (.int .i64 a.1), .d (.int .i64 a.2.1)], .agg [.d (.int .i64 a.2.2.1), .d (.int .i64 a.2.2.2)]]
noncomputable def C_laws_eqVerdict : List X → Option XOut := lay e_laws_eqVerdict fun a => ((S_laws_eqVerdict a.1 a.2.1 a.2.2.1 a.2.2.2)).bind fun r => some (.ret (.d (.bool r)) [])
theorem C_laws_eqVerdict_eq (a0_Kind : Int) (a0_Code : Int) (a1_Kind : Int) (a1_Code : Int) : C_laws_eqVerdict [.agg [.d (.int .i64 a0_Kind), .d (.int .i64 a0_Code)], .agg [.d (.int .i64 a1_Kind), .d (.int .i64 a1_Code)]] = ((S_laws_eqVerdict a0_Kind a0_Code a1_Kind a1_Code)).bind fun r => some (.ret (.d (.bool r)) []) := lay_eq (enc := e_laws_eqVerdict) (by
  intro a b h
  simp only [e_laws_eqVerdict, List.cons.injEq, X.d.injEq, X.res.injEq, RK.bld.injEq, X.agg.injEq, X.box.injEq, D.int.injEq, D.bool.injEq, D.fn.injEq, sD_inj, lstT_inj, ownT_inj, and_true, true_and, and_assoc] at h
  simp only [Prod.ext_iff]; exact h) (a0_Kind, a0_Code, a1_Kind, a1_Code)
noncomputable def G24 : Ctx := G23.with 40 C_laws_eqVerdict
theorem so24 : SoundAll Tryd.prog G24 := by
  refine layer (cuts := []) (k := 2) (cd := c_laws_eqVerdict) (rs := r_laws_eqVerdict) (enc := e_laws_eqVerdict) mixed so23 Tryd.func40 (by kernel_rfl) (by kernel_rfl) (by kernel_rfl) (by kernel_rfl) (by kernel_rfl) (by kernel_rfl) (wk := fun y => nocap y) Same.nocap ?_
  intro a out ho
  obtain ⟨r, h1, h2⟩ := Option.bind_eq_some_iff.mp ho
  obtain ⟨hp, rfl⟩ := under_some h1
  obtain ⟨N, hN⟩ := p_laws_eqVerdict a.1 a.2.1 a.2.2.1 a.2.2.2 hp
  refine ⟨N, ?_⟩
  refine ((callF_G (fun y => some (nocap y)) 2 c_laws_eqVerdict r_laws_eqVerdict (e_laws_eqVerdict a) ⟨rfl, rfl, rfl⟩).trans (laws_eqVerdict_g ⟨G23, [], [], [], N, r_laws_eqVerdict, none, fun _ _ => none, fun y => some (nocap y)⟩ ⟨rfl, rfl, rfl, rfl, rfl, fun _ => rfl, fun _ => rfl⟩ a.1 a.2.1 a.2.2.1 a.2.2.2)).trans ?_
  show (laws_eqVerdict_f N a.1 a.2.1 a.2.2.1 a.2.2.2).bind _ = _
  rw [hN]; exact h2
-- loop.example/s02135/laws.eqVerdictS
noncomputable def S_laws_eqVerdictS (a0 : List TVerdict) (a1 : List TVerdict) : Option (Bool) := under (pre_laws_eqVerdictS a0 a1) (s_laws_eqVerdictS a0 a1)
def e_laws_eqVerdictS (a : (List TVerdict) × (List TVerdict)) : List X := [.d (lstT cVerdict a.1), .d (lstT cVerdict a.2)]
noncomputable def C_laws_eqVerdictS : List X → Option XOut := lay e_laws_eqVerdictS fun a => ((S_laws_eqVerdictS a.1 a.2)).bind fun r => some (.ret (.d (.bool r)) [])
theorem C_laws_eqVerdictS_eq (a0 : List TVerdict) (a1 : List TVerdict) : C_laws_eqVerdictS [.d (lstT cVerdict a0), .d (lstT cVerdict a1)] = ((S_laws_eqVerdictS a0 a1)).bind fun r => some (.ret (.d (.bool r)) []) := lay_eq (enc := e_laws_eqVerdictS) (by
  intro a b h
  simp only [e_laws_eqVerdictS, List.cons.injEq, X.d.injEq, X.res.injEq, RK.bld.injEq, X.agg.injEq, X.box.injEq, D.int.injEq, D.bool.injEq, D.fn.injEq, sD_inj, lstT_inj, ownT_inj, and_true, true_and, and_assoc] at h
  simp only [Prod.ext_iff]; exact h) (a0, a1)
noncomputable def G25 : Ctx := G24.with 15 C_laws_eqVerdictS
theorem so25 : SoundAll Tryd.prog G25 := by
  refine layer (cuts := []) (k := 2) (cd := c_laws_eqVerdictS) (rs := r_laws_eqVerdictS) (enc := e_laws_eqVerdictS) mixed so24 Tryd.func15 (by kernel_rfl) (by kernel_rfl) (by kernel_rfl) (by kernel_rfl) (by kernel_rfl) (by kernel_rfl) (wk := fun y => nocap y) Same.nocap ?_
  intro a out ho
  obtain ⟨r, h1, h2⟩ := Option.bind_eq_some_iff.mp ho
  obtain ⟨hp, rfl⟩ := under_some h1
  obtain ⟨N, hN⟩ := p_laws_eqVerdictS S_laws_eqVerdict (fun _ _ _ _ h => under_pos h) a.1 a.2 hp
  refine ⟨N, ?_⟩
  refine ((callF_G (fun y => some (nocap y)) 2 c_laws_eqVerdictS r_laws_eqVerdictS (e_laws_eqVerdictS a) ⟨rfl, rfl, rfl⟩).trans (laws_eqVerdictS_g ⟨G24, [], [], [], N, r_laws_eqVerdictS, none, fun _ _ => none, fun y => some (nocap y)⟩ ⟨rfl, rfl, rfl, rfl, rfl, fun _ => rfl, fun _ => rfl⟩ S_laws_eqVerdict ⟨rfl, (fun a0_Kind a0_Code a1_Kind a1_Code => (show G24 40 _ = _ from rfl).trans (C_laws_eqVerdict_eq a0_Kind a0_Code a1_Kind a1_Code))⟩ a.1 a.2)).trans ?_
  show (laws_eqVerdictS_f S_laws_eqVerdict N a.1 a.2).bind _ = _
  rw [hN]; exact h2
-- loop.example/s02135/laws.FnExactReport
noncomputable def S_laws_FnExactReport (a0 : List UInt8) (a1 : List TVerdict) : Option (Bool) := under (pre_laws_FnExactReport a0 a1) (s_laws_FnExactReport a0 a1)
def e_laws_FnExactReport (a : (List UInt8) × (List TVerdict)) : List X := [.d (sD a.1), .d (lstT cVerdict a.2)]
noncomputable def C_laws_FnExactReport : List X → Option XOut := lay e_laws_FnExactReport fun a => ((S_laws_FnExactReport a.1 a.2)).bind fun r => some (.ret (.d (.bool r)) [])
theorem C_laws_FnExactReport_eq (a0 : List UInt8) (a1 : List TVerdict) : C_laws_FnExactReport [.d (sD a0), .d (lstT cVerdict a1)] = ((S_laws_FnExactReport a0 a1)).bind fun r => some (.ret (.d (.bool r)) []) := lay_eq (enc := e_laws_FnExactReport) (by
  intro a b h
  simp only [e_laws_FnExactReport, List.cons.injEq, X.d.injEq, X.res.injEq, RK.bld.injEq, X.agg.injEq, X.box.injEq, D.int.injEq, D.bool.injEq, D.fn.injEq, sD_inj, lstT_inj, ownT_inj, and_true, true_and, and_assoc] at h
  simp only [Prod.ext_iff]; exact h) (a0, a1)
noncomputable def G26 : Ctx := G25.with 4 C_laws_FnExactReport
theorem so26 : SoundAll Tryd.prog G26 := by
  refine layer (cuts := []) (k := 2) (cd := c_laws_FnExactReport) (rs := r_laws_FnExactReport) (enc := e_laws_FnExactReport) mixed so25 Tryd.func4 (by kernel_rfl) (by kernel_rfl) (by kernel_rfl) (by kernel_rfl) (by kernel_rfl) (by kernel_rfl) (wk := fun y => nocap y) Same.nocap ?_
  intro a out ho
  obtain ⟨r, h1, h2⟩ := Option.bind_eq_some_iff.mp ho
  obtain ⟨hp, rfl⟩ := under_some h1
  obtain ⟨N, hN⟩ := p_laws_FnExactReport S_laws_szVerdictS (fun _ _ h => under_pos h) S_laws_toVerdictS (fun _ h => under_pos h) S_spec_Report (fun _ _ h => under_pos h) S_impl_Report (fun _ _ h => under_pos h) S_laws_eqVerdictS (fun _ _ h => under_pos h) a.1 a.2 hp
  refine ⟨N, ?_⟩
  refine ((callF_G (fun y => some (nocap y)) 2 c_laws_FnExactReport r_laws_FnExactReport (e_laws_FnExactReport a) ⟨rfl, rfl, rfl⟩).trans (laws_FnExactReport_g ⟨G25, [], [], [], N, r_laws_FnExactReport, none, fun _ _ => none, fun y => some (nocap y)⟩ ⟨rfl, rfl, rfl, rfl, rfl, fun _ => rfl, fun _ => rfl⟩ S_laws_szVerdictS ⟨rfl, (fun a0 a1 => (show G25 11 _ = _ from rfl).trans (C_laws_szVerdictS_eq a0 a1))⟩ S_laws_toVerdictS ⟨rfl, (fun a0 => (show G25 13 _ = _ from rfl).trans (C_laws_toVerdictS_eq a0))⟩ S_spec_Report ⟨rfl, (fun a0 a1 => (show G25 12 _ = _ from rfl).trans (C_spec_Report_eq a0 a1))⟩ S_impl_Report ⟨rfl, (fun a0 a1 => (show G25 14 _ = _ from rfl).trans (C_impl_Report_eq a0 a1))⟩ S_laws_eqVerdictS ⟨rfl, (fun a0 a1 => (show G25 15 _ = _ from rfl).trans (C_laws_eqVerdictS_eq a0 a1))⟩ a.1 a.2)).trans ?_
  show (laws_FnExactReport_f S_laws_szVerdictS S_laws_toVerdictS S_spec_Report S_impl_Report S_laws_eqVerdictS N a.1 a.2).bind _ = _
  rw [hN]; exact h2
theorem law : Sound Tryd.prog 4 C_laws_FnExactReport := by
  have h := so26 4
  exact h
end Go.Proofs.YtbfmeoiblppnbaaDoor.TowRp
