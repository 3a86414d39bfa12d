/- The contracts of the functions under laws_FnExactArrayText, one upon the other. Printed by a program of this session. -/
import Derived.Test.YtbfmeoiblppnbaaDoorFAT
import Derived.Test.YtbfmeoiblppnbaaDoorPAT
import Derived.Test.YtbfmeoiblppnbaaDoorBldA
import Derived.Test.YtbfmeoiblppnbaaDoorVmLayer
import Derived.Test.YtbfmeoiblppnbaaDoorProg
set_option linter.all false
set_option maxRecDepth 100000
namespace Go.Proofs.YtbfmeoiblppnbaaDoor.TowAT
open Go.Vm
variable [gl : Gl] [tb : GlTab]
theorem mixed : Tryd.prog.follows .mixedOrders = true := by kernel_rfl
noncomputable def G0 : Ctx := Γ0 flatIds
theorem so0 : SoundAll Tryd.prog G0 := Γ0_sound _ _
-- loop.example/s02135/laws.szIntS
noncomputable def S_laws_szIntS (a0 : List Int) (a1 : Int) : Option (Int) := under (pre_laws_szIntS a0 a1) (s_laws_szIntS a0 a1)
def e_laws_szIntS (a : (List Int) × Int) : List X := [.d (lstT cI a.1), .d (.int .i64 a.2)]
noncomputable def C_laws_szIntS : List X → Option XOut := lay e_laws_szIntS fun a => ((S_laws_szIntS a.1 a.2)).bind fun r => some (.ret (.d (.int .i64 r)) [])
theorem C_laws_szIntS_eq (a0 : List Int) (a1 : Int) : C_laws_szIntS [.d (lstT cI a0), .d (.int .i64 a1)] = ((S_laws_szIntS a0 a1)).bind fun r => some (.ret (.d (.int .i64 r)) []) := lay_eq (enc := e_laws_szIntS) (by
  intro a b h
  simp only [e_laws_szIntS, List.cons.injEq, X.d.injEq, X.res.injEq, RK.bld.injEq, X.agg.injEq, X.box.injEq, D.int.injEq, D.bool.injEq, D.fn.injEq, sD_inj, lstT_inj, ownT_inj, and_true, true_and, and_assoc] at h
  simp only [Prod.ext_iff]; exact h) (a0, a1)
noncomputable def G1 : Ctx := G0.with 21 C_laws_szIntS
theorem so1 : SoundAll Tryd.prog G1 := by
  refine layer (cuts := []) (k := 2) (cd := c_laws_szIntS) (rs := r_laws_szIntS) (enc := e_laws_szIntS) mixed so0 Tryd.func21 (by kernel_rfl) (by kernel_rfl) (by kernel_rfl) (by kernel_rfl) (by kernel_rfl) (by kernel_rfl) (wk := fun y => nocap y) Same.nocap ?_
  intro a out ho
  obtain ⟨r, h1, h2⟩ := Option.bind_eq_some_iff.mp ho
  obtain ⟨hp, rfl⟩ := under_some h1
  obtain ⟨N, hN⟩ := p_laws_szIntS a.1 a.2 hp
  refine ⟨N, ?_⟩
  refine ((callF_G (fun y => some (nocap y)) 2 c_laws_szIntS r_laws_szIntS (e_laws_szIntS a) ⟨rfl, rfl, rfl⟩).trans (laws_szIntS_g ⟨G0, [], [], [], N, r_laws_szIntS, none, fun _ _ => none, fun y => some (nocap y)⟩ ⟨rfl, rfl, rfl, rfl, rfl, fun _ => rfl, fun _ => rfl⟩ a.1 a.2)).trans ?_
  show (laws_szIntS_f N a.1 a.2).bind _ = _
  rw [hN]; exact h2
-- loop.example/s02135/laws.szArray
noncomputable def S_laws_szArray (a0_Shape : List Int) (a0_Data : List Int) (a1 : Int) : Option (Int) := under (pre_laws_szArray a0_Shape a0_Data a1) (s_laws_szArray a0_Shape a0_Data a1)
def e_laws_szArray (a : (List Int) × (List Int) × Int) : List X := [.agg [.d (lstT cI a.1), .d (lstT cI a.2.1)], .d (.int .i64 a.2.2)]
noncomputable def C_laws_szArray : List X → Option XOut := lay e_laws_szArray fun a => ((S_laws_szArray a.1 a.2.1 a.2.2)).bind fun r => some (.ret (.d (.int .i64 r)) [])
theorem C_laws_szArray_eq (a0_Shape : List Int) (a0_Data : List Int) (a1 : Int) : C_laws_szArray [.agg [.d (lstT cI a0_Shape), .d (lstT cI a0_Data)], .d (.int .i64 a1)] = ((S_laws_szArray a0_Shape a0_Data a1)).bind fun r => some (.ret (.d (.int .i64 r)) []) := lay_eq (enc := e_laws_szArray) (by
  intro a b h
  simp only [e_laws_szArray, List.cons.injEq, X.d.injEq, X.res.injEq, RK.bld.injEq, X.agg.injEq, X.box.injEq, D.int.injEq, D.bool.injEq, D.fn.injEq, sD_inj, lstT_inj, ownT_inj, and_true, true_and, and_assoc] at h
  simp only [Prod.ext_iff]; exact h) (a0_Shape, a0_Data, a1)
noncomputable def G2 : Ctx := G1.with 6 C_laws_szArray
theorem so2 : SoundAll Tryd.prog G2 := by
  refine layer (cuts := []) (k := 2) (cd := c_laws_szArray) (rs := r_laws_szArray) (enc := e_laws_szArray) mixed so1 Tryd.func6 (by kernel_rfl) (by kernel_rfl) (by kernel_rfl) (by kernel_rfl) (by kernel_rfl) (by kernel_rfl) (wk := fun y => nocap y) Same.nocap ?_
  intro a out ho
  obtain ⟨r, h1, h2⟩ := Option.bind_eq_some_iff.mp ho
  obtain ⟨hp, rfl⟩ := under_some h1
  obtain ⟨N, hN⟩ := p_laws_szArray S_laws_szIntS (fun _ _ h => under_pos h) a.1 a.2.1 a.2.2 hp
  refine ⟨N, ?_⟩
  refine ((callF_G (fun y => some (nocap y)) 2 c_laws_szArray r_laws_szArray (e_laws_szArray a) ⟨rfl, rfl, rfl⟩).trans (laws_szArray_g ⟨G1, [], [], [], N, r_laws_szArray, none, fun _ _ => none, fun y => some (nocap y)⟩ ⟨rfl, rfl, rfl, rfl, rfl, fun _ => rfl, fun _ => rfl⟩ S_laws_szIntS ⟨rfl, (fun a0 a1 => (show G1 21 _ = _ from rfl).trans (C_laws_szIntS_eq a0 a1))⟩ a.1 a.2.1 a.2.2)).trans ?_
  show (laws_szArray_f S_laws_szIntS N a.1 a.2.1 a.2.2).bind _ = _
  rw [hN]; exact h2
-- loop.example/s02135/laws.toIntS
noncomputable def S_laws_toIntS (a0 : List Int) : Option (List Int) := under (pre_laws_toIntS a0) (s_laws_toIntS a0)
def e_laws_toIntS (a : (List Int)) : List X := [.d (lstT cI a)]
noncomputable def C_laws_toIntS : List X → Option XOut := lay e_laws_toIntS fun a => ((S_laws_toIntS a)).bind fun r => some (.ret (ownT (cI) 3 none false r) [])
theorem C_laws_toIntS_eq (a0 : List Int) : C_laws_toIntS [.d (lstT cI a0)] = ((S_laws_toIntS a0)).bind fun r => some (.ret (ownT (cI) 3 none false r) []) := lay_eq (enc := e_laws_toIntS) (by
  intro a b h
  simp only [e_laws_toIntS, List.cons.injEq, X.d.injEq, X.res.injEq, RK.bld.injEq, X.agg.injEq, X.box.injEq, D.int.injEq, D.bool.injEq, D.fn.injEq, sD_inj, lstT_inj, ownT_inj, and_true, true_and, and_assoc] at h
  exact h) a0
noncomputable def G3 : Ctx := G2.with 24 C_laws_toIntS
theorem so3 : SoundAll Tryd.prog G3 := by
  refine layer (cuts := []) (k := 1) (cd := c_laws_toIntS) (rs := r_laws_toIntS) (enc := e_laws_toIntS) mixed so2 Tryd.func24 (by kernel_rfl) (by kernel_rfl) (by kernel_rfl) (by kernel_rfl) (by kernel_rfl) (by kernel_rfl) (wk := fun y => nocap y) Same.nocap ?_
  intro a out ho
  obtain ⟨r, h1, h2⟩ := Option.bind_eq_some_iff.mp ho
  obtain ⟨hp, rfl⟩ := under_some h1
  obtain ⟨N, hN⟩ := p_laws_toIntS a hp
  refine ⟨N, ?_⟩
  refine ((callF_G (fun y => some (nocap y)) 1 c_laws_toIntS r_laws_toIntS (e_laws_toIntS a) ⟨rfl, rfl, rfl⟩).trans (laws_toIntS_g ⟨G2, [], [], [], N, r_laws_toIntS, none, fun _ _ => none, fun y => some (nocap y)⟩ ⟨rfl, rfl, rfl, rfl, rfl, fun _ => rfl, fun _ => rfl⟩ a)).trans ?_
  show (laws_toIntS_f N a).bind _ = _
  rw [hN]; exact h2
-- loop.example/s02135/laws.toArray
noncomputable def S_laws_toArray (a0_Shape : List Int) (a0_Data : List Int) : Option (List Int × List Int) := under (pre_laws_toArray a0_Shape a0_Data) (s_laws_toArray a0_Shape a0_Data)
def e_laws_toArray (a : (List Int) × (List Int)) : List X := [.agg [.d (lstT cI a.1), .d (lstT cI a.2)]]
noncomputable def C_laws_toArray : List X → Option XOut := lay e_laws_toArray fun a => ((S_laws_toArray a.1 a.2)).bind fun r => some (.ret (.agg [ownT (cI) 3 none false r.1, ownT (cI) 3 none false r.2]) [])
theorem C_laws_toArray_eq (a0_Shape : List Int) (a0_Data : List Int) : C_laws_toArray [.agg [.d (lstT cI a0_Shape), .d (lstT cI a0_Data)]] = ((S_laws_toArray a0_Shape a0_Data)).bind fun r => some (.ret (.agg [ownT (cI) 3 none false r.1, ownT (cI) 3 none false r.2]) []) := lay_eq (enc := e_laws_toArray) (by
  intro a b h
  simp only [e_laws_toArray, List.cons.injEq, X.d.injEq, X.res.injEq, RK.bld.injEq, X.agg.injEq, X.box.injEq, D.int.injEq, D.bool.injEq, D.fn.injEq, sD_inj, lstT_inj, ownT_inj, and_true, true_and, and_assoc] at h
  simp only [Prod.ext_iff]; exact h) (a0_Shape, a0_Data)
noncomputable def G4 : Ctx := G3.with 8 C_laws_toArray
theorem so4 : SoundAll Tryd.prog G4 := by
  refine layer (cuts := []) (k := 1) (cd := c_laws_toArray) (rs := r_laws_toArray) (enc := e_laws_toArray) mixed so3 Tryd.func8 (by kernel_rfl) (by kernel_rfl) (by kernel_rfl) (by kernel_rfl) (by kernel_rfl) (by kernel_rfl) (wk := fun y => nocap y) Same.nocap ?_
  intro a out ho
  obtain ⟨r, h1, h2⟩ := Option.bind_eq_some_iff.mp ho
  obtain ⟨hp, rfl⟩ := under_some h1
  obtain ⟨N, hN⟩ := p_laws_toArray S_laws_toIntS (fun _ h => under_pos h) a.1 a.2 hp
  refine ⟨N, ?_⟩
  refine ((callF_G (fun y => some (nocap y)) 1 c_laws_toArray r_laws_toArray (e_laws_toArray a) ⟨rfl, rfl, rfl⟩).trans (laws_toArray_g ⟨G3, [], [], [], N, r_laws_toArray, none, fun _ _ => none, fun y => some (nocap y)⟩ ⟨rfl, rfl, rfl, rfl, rfl, fun _ => rfl, fun _ => rfl⟩ S_laws_toIntS ⟨rfl, (fun a0 => (show G3 24 _ = _ from rfl).trans (C_laws_toIntS_eq a0))⟩ a.1 a.2)).trans ?_
  show (laws_toArray_f S_laws_toIntS N a.1 a.2).bind _ = _
  rw [hN]; exact h2
-- loop.example/s02135/spec.l1Product
noncomputable def S_spec_l1Product (a0 : List Int) : Option (Int) := under (pre_spec_l1Product a0) (s_spec_l1Product a0)
def e_spec_l1Product (a : (List Int)) : List X := [.d (lstT cI a)]
noncomputable def C_spec_l1Product : List X → Option XOut := lay e_spec_l1Product fun a => ((S_spec_l1Product a)).bind fun r => some (.ret (.d (.int .i64 r)) [])
theorem C_spec_l1Product_eq (a0 : List Int) : C_spec_l1Product [.d (lstT cI a0)] = ((S_spec_l1Product a0)).bind fun r => some (.ret (.d (.int .i64 r)) []) := lay_eq (enc := e_spec_l1Product) (by
  intro a b h
  simp only [e_spec_l1Product, List.cons.injEq, X.d.injEq, X.res.injEq, RK.bld.injEq, X.agg.injEq, X.box.injEq, D.int.injEq, D.bool.injEq, D.fn.injEq, sD_inj, lstT_inj, ownT_inj, and_true, true_and, and_assoc] at h
  exact h) a0
noncomputable def G5 : Ctx := G4.with 46 C_spec_l1Product
theorem so5 : SoundAll Tryd.prog G5 := by
  refine layer (cuts := []) (k := 1) (cd := c_spec_l1Product) (rs := r_spec_l1Product) (enc := e_spec_l1Product) mixed so4 Tryd.func46 (by kernel_rfl) (by kernel_rfl) (by kernel_rfl) (by kernel_rfl) (by kernel_rfl) (by kernel_rfl) (wk := fun y => nocap y) Same.nocap ?_
  intro a out ho
  obtain ⟨r, h1, h2⟩ := Option.bind_eq_some_iff.mp ho
  obtain ⟨hp, rfl⟩ := under_some h1
  obtain ⟨N, hN⟩ := p_spec_l1Product a hp
  refine ⟨N, ?_⟩
  refine ((callF_G (fun y => some (nocap y)) 1 c_spec_l1Product r_spec_l1Product (e_spec_l1Product a) ⟨rfl, rfl, rfl⟩).trans (spec_l1Product_g ⟨G4, [], [], [], N, r_spec_l1Product, none, fun _ _ => none, fun y => some (nocap y)⟩ ⟨rfl, rfl, rfl, rfl, rfl, fun _ => rfl, fun _ => rfl⟩ a)).trans ?_
  show (spec_l1Product_f N a).bind _ = _
  rw [hN]; exact h2
-- loop.example/s02135/spec.l1Fits
noncomputable def S_spec_l1Fits (a0 : List Int) : Option (Bool) := under (pre_spec_l1Fits a0) (s_spec_l1Fits a0)
def e_spec_l1Fits (a : (List Int)) : List X := [.d (lstT cI a)]
noncomputable def C_spec_l1Fits : List X → Option XOut := lay e_spec_l1Fits fun a => ((S_spec_l1Fits a)).bind fun r => some (.ret (.d (.bool r)) [])
theorem C_spec_l1Fits_eq (a0 : List Int) : C_spec_l1Fits [.d (lstT cI a0)] = ((S_spec_l1Fits a0)).bind fun r => some (.ret (.d (.bool r)) []) := lay_eq (enc := e_spec_l1Fits) (by
  intro a b h
  simp only [e_spec_l1Fits, List.cons.injEq, X.d.injEq, X.res.injEq, RK.bld.injEq, X.agg.injEq, X.box.injEq, D.int.injEq, D.bool.injEq, D.fn.injEq, sD_inj, lstT_inj, ownT_inj, and_true, true_and, and_assoc] at h
  exact h) a0
noncomputable def G6 : Ctx := G5.with 45 C_spec_l1Fits
theorem so6 : SoundAll Tryd.prog G6 := by
  refine layer (cuts := []) (k := 1) (cd := c_spec_l1Fits) (rs := r_spec_l1Fits) (enc := e_spec_l1Fits) mixed so5 Tryd.func45 (by kernel_rfl) (by kernel_rfl) (by kernel_rfl) (by kernel_rfl) (by kernel_rfl) (by kernel_rfl) (wk := fun y => nocap y) Same.nocap ?_
  intro a out ho
  obtain ⟨r, h1, h2⟩ := Option.bind_eq_some_iff.mp ho
  obtain ⟨hp, rfl⟩ := under_some h1
  obtain ⟨N, hN⟩ := p_spec_l1Fits S_spec_l1Product (fun _ h => under_pos h) a hp
  refine ⟨N, ?_⟩
  refine ((callF_G (fun y => some (nocap y)) 1 c_spec_l1Fits r_spec_l1Fits (e_spec_l1Fits a) ⟨rfl, rfl, rfl⟩).trans (spec_l1Fits_g ⟨G5, [], [], [], N, r_spec_l1Fits, none, fun _ _ => none, fun y => some (nocap y)⟩ ⟨rfl, rfl, rfl, rfl, rfl, fun _ => rfl, fun _ => rfl⟩ S_spec_l1Product ⟨rfl, (fun a0 => (show G5 46 _ = _ from rfl).trans (C_spec_l1Product_eq a0))⟩ a)).trans ?_
  show (spec_l1Fits_f S_spec_l1Product N a).bind _ = _
  rw [hN]; exact h2
-- loop.example/s02135/spec.ArrayOk
noncomputable def S_spec_ArrayOk (a0_Shape : List Int) (a0_Data : List Int) : Option (Bool) := under (pre_spec_ArrayOk a0_Shape a0_Data) (s_spec_ArrayOk a0_Shape a0_Data)
def e_spec_ArrayOk (a : (List Int) × (List Int)) : List X := [.agg [.d (lstT cI a.1), .d (lstT cI a.2)]]
noncomputable def C_spec_ArrayOk : List X → Option XOut := lay e_spec_ArrayOk fun a => ((S_spec_ArrayOk a.1 a.2)).bind fun r => some (.ret (.d (.bool r)) [])
theorem C_spec_ArrayOk_eq (a0_Shape : List Int) (a0_Data : List Int) : C_spec_ArrayOk [.agg [.d (lstT cI a0_Shape), .d (lstT cI a0_Data)]] = ((S_spec_ArrayOk a0_Shape a0_Data)).bind fun r => some (.ret (.d (.bool r)) []) := lay_eq (enc := e_spec_ArrayOk) (by
  intro a b h
  simp only [e_spec_ArrayOk, List.cons.injEq, X.d.injEq, X.res.injEq, RK.bld.injEq, X.agg.injEq, X.box.injEq, D.int.injEq, D.bool.injEq, D.fn.injEq, sD_inj, lstT_inj, ownT_inj, and_true, true_and, and_assoc] at h
  simp only [Prod.ext_iff]; exact h) (a0_Shape, a0_Data)
noncomputable def G7 : Ctx := G6.with 22 C_spec_ArrayOk
theorem so7 : SoundAll Tryd.prog G7 := by
  refine layer (cuts := []) (k := 1) (cd := c_spec_ArrayOk) (rs := r_spec_ArrayOk) (enc := e_spec_ArrayOk) mixed so6 Tryd.func22 (by kernel_rfl) (by kernel_rfl) (by kernel_rfl) (by kernel_rfl) (by kernel_rfl) (by kernel_rfl) (wk := fun y => nocap y) Same.nocap ?_
  intro a out ho
  obtain ⟨r, h1, h2⟩ := Option.bind_eq_some_iff.mp ho
  obtain ⟨hp, rfl⟩ := under_some h1
  obtain ⟨N, hN⟩ := p_spec_ArrayOk S_spec_l1Fits (fun _ h => under_pos h) S_spec_l1Product (fun _ h => under_pos h) a.1 a.2 hp
  refine ⟨N, ?_⟩
  refine ((callF_G (fun y => some (nocap y)) 1 c_spec_ArrayOk r_spec_ArrayOk (e_spec_ArrayOk a) ⟨rfl, rfl, rfl⟩).trans (spec_ArrayOk_g ⟨G6, [], [], [], N, r_spec_ArrayOk, none, fun _ _ => none, fun y => some (nocap y)⟩ ⟨rfl, rfl, rfl, rfl, rfl, fun _ => rfl, fun _ => rfl⟩ S_spec_l1Fits ⟨rfl, (fun a0 => (show G6 45 _ = _ from rfl).trans (C_spec_l1Fits_eq a0))⟩ S_spec_l1Product ⟨rfl, (fun a0 => (show G6 46 _ = _ from rfl).trans (C_spec_l1Product_eq a0))⟩ a.1 a.2)).trans ?_
  show (spec_ArrayOk_f S_spec_l1Fits S_spec_l1Product N a.1 a.2).bind _ = _
  rw [hN]; exact h2
-- loop.example/s02135/spec.l1Dec
noncomputable def S_spec_l1Dec (a0 : Int) : Option (List UInt8) := under (pre_spec_l1Dec a0) (s_spec_l1Dec a0)
def e_spec_l1Dec (a : Int) : List X := [.d (.int .i64 a)]
noncomputable def C_spec_l1Dec : List X → Option XOut := lay e_spec_l1Dec fun a => ((S_spec_l1Dec a)).bind fun r => some (.ret (.d (sD r)) [])
theorem inj_spec_l1Dec : ∀ a b, e_spec_l1Dec a = e_spec_l1Dec b → a = b := by
  intro a b h
  simp only [e_spec_l1Dec, List.cons.injEq, X.d.injEq, X.res.injEq, RK.bld.injEq, X.agg.injEq, X.box.injEq, D.int.injEq, D.bool.injEq, D.fn.injEq, sD_inj, lstT_inj, ownT_inj, and_true, true_and, and_assoc] at h
  exact h
theorem C_spec_l1Dec_eq (a0 : Int) : C_spec_l1Dec [.d (.int .i64 a0)] = ((S_spec_l1Dec a0)).bind fun r => some (.ret (.d (sD r)) []) := lay_eq (enc := e_spec_l1Dec) (by
  intro a b h
  simp only [e_spec_l1Dec, List.cons.injEq, X.d.injEq, X.res.injEq, RK.bld.injEq, X.agg.injEq, X.box.injEq, D.int.injEq, D.bool.injEq, D.fn.injEq, sD_inj, lstT_inj, ownT_inj, and_true, true_and, and_assoc] at h
  exact h) a0
noncomputable def G8 : Ctx := G7.with 30 C_spec_l1Dec
theorem so8 : SoundAll Tryd.prog G8 := by
  refine layer_rec (mu := fun a => mu_spec_l1Dec a) (cuts := []) (k := 1) (cd := c_spec_l1Dec) (rs := r_spec_l1Dec) (enc := e_spec_l1Dec) mixed so7 Tryd.func30 (by kernel_rfl) (by kernel_rfl) (by kernel_rfl) (by kernel_rfl) (by kernel_rfl) (by kernel_rfl) (wk := fun y => nocap y) Same.nocap ?_
  intro j a out ho hj
  obtain ⟨r, h1, h2⟩ := Option.bind_eq_some_iff.mp ho
  obtain ⟨hp, rfl⟩ := under_some h1
  obtain ⟨N, hN⟩ := p_spec_l1Dec (fun a0 => if mu_spec_l1Dec a0 < j then S_spec_l1Dec a0 else none) j (fun _ hm h => (if_pos hm).trans (under_pos h)) a hp hj
  refine ⟨N, ?_⟩
  refine ((callF_G (fun y => some (nocap y)) 1 c_spec_l1Dec r_spec_l1Dec (e_spec_l1Dec a) ⟨rfl, rfl, rfl⟩).trans (spec_l1Dec_g ⟨(G7.with 30 (lay e_spec_l1Dec fun a => if mu_spec_l1Dec a < j then ((S_spec_l1Dec a)).bind fun r => some (.ret (.d (sD r)) []) else none)), [], [], [], N, r_spec_l1Dec, none, fun _ _ => none, fun y => some (nocap y)⟩ ⟨rfl, rfl, rfl, rfl, rfl, fun _ => rfl, fun _ => rfl⟩ (fun a0 => if mu_spec_l1Dec a0 < j then S_spec_l1Dec a0 else none) ⟨rfl, fun a0 => (show (G7.with 30 (lay e_spec_l1Dec fun a => if mu_spec_l1Dec a < j then ((S_spec_l1Dec a)).bind fun r => some (.ret (.d (sD r)) []) else none)) 30 _ = _ from rfl).trans ((lay_eq (β := XOut) (enc := e_spec_l1Dec) (C := fun a => if mu_spec_l1Dec a < j then ((S_spec_l1Dec a)).bind fun r => some (.ret (.d (sD r)) []) else none) inj_spec_l1Dec a0).trans (by dsimp only; split <;> rfl))⟩ a)).trans ?_
  show (spec_l1Dec_f (fun a0 => if mu_spec_l1Dec a0 < j then S_spec_l1Dec a0 else none) N a).bind _ = _
  rw [hN]; exact h2
-- loop.example/s02135/spec.l1Join
noncomputable def S_spec_l1Join (a0 : List Int) : Option (List UInt8) := under (pre_spec_l1Join a0) (s_spec_l1Join a0)
def e_spec_l1Join (a : (List Int)) : List X := [.d (lstT cI a)]
noncomputable def C_spec_l1Join : List X → Option XOut := lay e_spec_l1Join fun a => ((S_spec_l1Join a)).bind fun r => some (.ret (.d (sD r)) [])
theorem C_spec_l1Join_eq (a0 : List Int) : C_spec_l1Join [.d (lstT cI a0)] = ((S_spec_l1Join a0)).bind fun r => some (.ret (.d (sD r)) []) := lay_eq (enc := e_spec_l1Join) (by
  intro a b h
  simp only [e_spec_l1Join, List.cons.injEq, X.d.injEq, X.res.injEq, RK.bld.injEq, X.agg.injEq, X.box.injEq, D.int.injEq, D.bool.injEq, D.fn.injEq, sD_inj, lstT_inj, ownT_inj, and_true, true_and, and_assoc] at h
  exact h) a0
noncomputable def G9 : Ctx := G8.with 23 C_spec_l1Join
theorem so9 : SoundAll Tryd.prog G9 := by
  refine layer (cuts := []) (k := 1) (cd := c_spec_l1Join) (rs := r_spec_l1Join) (enc := e_spec_l1Join) mixed so8 Tryd.func23 (by kernel_rfl) (by kernel_rfl) (by kernel_rfl) (by kernel_rfl) (by kernel_rfl) (by kernel_rfl) (wk := fun y => nocap y) Same.nocap ?_
  intro a out ho
  obtain ⟨r, h1, h2⟩ := Option.bind_eq_some_iff.mp ho
  obtain ⟨hp, rfl⟩ := under_some h1
  obtain ⟨N, hN⟩ := p_spec_l1Join S_spec_l1Dec (fun _ h => under_pos h) a hp
  refine ⟨N, ?_⟩
  refine ((callF_G (fun y => some (nocap y)) 1 c_spec_l1Join r_spec_l1Join (e_spec_l1Join a) ⟨rfl, rfl, rfl⟩).trans (spec_l1Join_g ⟨G8, [], [], [], N, r_spec_l1Join, none, fun _ _ => none, fun y => some (nocap y)⟩ ⟨rfl, rfl, rfl, rfl, rfl, fun _ => rfl, fun _ => rfl⟩ S_spec_l1Dec ⟨rfl, (fun a0 => (show G8 30 _ = _ from rfl).trans (C_spec_l1Dec_eq a0))⟩ a)).trans ?_
  show (spec_l1Join_f S_spec_l1Dec N a).bind _ = _
  rw [hN]; exact h2
-- loop.example/s02135/spec.ArrayText
noncomputable def S_spec_ArrayText (a0_Shape : List Int) (a0_Data : List Int) : Option (List UInt8 × Bool) := under (pre_spec_ArrayText a0_Shape a0_Data) (s_spec_ArrayText a0_Shape a0_Data)
def e_spec_ArrayText (a : (List Int) × (List Int)) : List X := [.agg [.d (lstT cI a.1), .d (lstT cI a.2)]]
noncomputable def C_spec_ArrayText : List X → Option XOut := lay e_spec_ArrayText fun a => ((S_spec_ArrayText a.1 a.2)).bind fun r => some (.ret (.tup [.d (sD r.1), .d (.bool r.2)]) [])
theorem C_spec_ArrayText_eq (a0_Shape : List Int) (a0_Data : List Int) : C_spec_ArrayText [.agg [.d (lstT cI a0_Shape), .d (lstT cI a0_Data)]] = ((S_spec_ArrayText a0_Shape a0_Data)).bind fun r => some (.ret (.tup [.d (sD r.1), .d (.bool r.2)]) []) := lay_eq (enc := e_spec_ArrayText) (by
  intro a b h
  simp only [e_spec_ArrayText, List.cons.injEq, X.d.injEq, X.res.injEq, RK.bld.injEq, X.agg.injEq, X.box.injEq, D.int.injEq, D.bool.injEq, D.fn.injEq, sD_inj, lstT_inj, ownT_inj, and_true, true_and, and_assoc] at h
  simp only [Prod.ext_iff]; exact h) (a0_Shape, a0_Data)
noncomputable def G10 : Ctx := G9.with 7 C_spec_ArrayText
theorem so10 : SoundAll Tryd.prog G10 := by
  refine layer (cuts := []) (k := 1) (cd := c_spec_ArrayText) (rs := r_spec_ArrayText) (enc := e_spec_ArrayText) mixed so9 Tryd.func7 (by kernel_rfl) (by kernel_rfl) (by kernel_rfl) (by kernel_rfl) (by kernel_rfl) (by kernel_rfl) (wk := fun y => nocap y) Same.nocap ?_
  intro a out ho
  obtain ⟨r, h1, h2⟩ := Option.bind_eq_some_iff.mp ho
  obtain ⟨hp, rfl⟩ := under_some h1
  obtain ⟨N, hN⟩ := p_spec_ArrayText S_spec_ArrayOk (fun _ _ h => under_pos h) S_spec_l1Join (fun _ h => under_pos h) a.1 a.2 hp
  refine ⟨N, ?_⟩
  refine ((callF_G (fun y => some (nocap y)) 1 c_spec_ArrayText r_spec_ArrayText (e_spec_ArrayText a) ⟨rfl, rfl, rfl⟩).trans (spec_ArrayText_g ⟨G9, [], [], [], N, r_spec_ArrayText, none, fun _ _ => none, fun y => some (nocap y)⟩ ⟨rfl, rfl, rfl, rfl, rfl, fun _ => rfl, fun _ => rfl⟩ S_spec_ArrayOk ⟨rfl, (fun a0_Shape a0_Data => (show G9 22 _ = _ from rfl).trans (C_spec_ArrayOk_eq a0_Shape a0_Data))⟩ S_spec_l1Join ⟨rfl, (fun a0 => (show G9 23 _ = _ from rfl).trans (C_spec_l1Join_eq a0))⟩ a.1 a.2)).trans ?_
  show (spec_ArrayText_f S_spec_ArrayOk S_spec_l1Join N a.1 a.2).bind _ = _
  rw [hN]; exact h2
-- loop.example/s02135/impl.cellsOf
noncomputable def S_impl_cellsOf (a0 : List Int) : Option (Int × Bool) := under (pre_impl_cellsOf a0) (s_impl_cellsOf a0)
def e_impl_cellsOf (a : (List Int)) : List X := [.d (lstT cI a)]
noncomputable def C_impl_cellsOf : List X → Option XOut := lay e_impl_cellsOf fun a => ((S_impl_cellsOf a)).bind fun r => some (.ret (.tup [.d (.int .i64 r.1), .d (.bool r.2)]) [])
theorem C_impl_cellsOf_eq (a0 : List Int) : C_impl_cellsOf [.d (lstT cI a0)] = ((S_impl_cellsOf a0)).bind fun r => some (.ret (.tup [.d (.int .i64 r.1), .d (.bool r.2)]) []) := lay_eq (enc := e_impl_cellsOf) (by
  intro a b h
  simp only [e_impl_cellsOf, List.cons.injEq, X.d.injEq, X.res.injEq, RK.bld.injEq, X.agg.injEq, X.box.injEq, D.int.injEq, D.bool.injEq, D.fn.injEq, sD_inj, lstT_inj, ownT_inj, and_true, true_and, and_assoc] at h
  exact h) a0
noncomputable def G11 : Ctx := G10.with 47 C_impl_cellsOf
theorem so11 : SoundAll Tryd.prog G11 := by
  refine layer (cuts := []) (k := 1) (cd := c_impl_cellsOf) (rs := r_impl_cellsOf) (enc := e_impl_cellsOf) mixed so10 Tryd.func47 (by kernel_rfl) (by kernel_rfl) (by kernel_rfl) (by kernel_rfl) (by kernel_rfl) (by kernel_rfl) (wk := fun y => nocap y) Same.nocap ?_
  intro a out ho
  obtain ⟨r, h1, h2⟩ := Option.bind_eq_some_iff.mp ho
  obtain ⟨hp, rfl⟩ := under_some h1
  obtain ⟨N, hN⟩ := p_impl_cellsOf a hp
  refine ⟨N, ?_⟩
  refine ((callF_G (fun y => some (nocap y)) 1 c_impl_cellsOf r_impl_cellsOf (e_impl_cellsOf a) ⟨rfl, rfl, rfl⟩).trans (impl_cellsOf_g ⟨G10, [], [], [], N, r_impl_cellsOf, none, fun _ _ => none, fun y => some (nocap y)⟩ ⟨rfl, rfl, rfl, rfl, rfl, fun _ => rfl, fun _ => rfl⟩ a)).trans ?_
  show (impl_cellsOf_f N a).bind _ = _
  rw [hN]; exact h2
-- loop.example/s02135/impl.ArrayOk
noncomputable def S_impl_ArrayOk (a0_Shape : List Int) (a0_Data : List Int) : Option (Bool) := under (pre_impl_ArrayOk a0_Shape a0_Data) (s_impl_ArrayOk a0_Shape a0_Data)
def e_impl_ArrayOk (a : (List Int) × (List Int)) : List X := [.agg [.d (lstT cI a.1), .d (lstT cI a.2)]]
noncomputable def C_impl_ArrayOk : List X → Option XOut := lay e_impl_ArrayOk fun a => ((S_impl_ArrayOk a.1 a.2)).bind fun r => some (.ret (.d (.bool r)) [])
theorem C_impl_ArrayOk_eq (a0_Shape : List Int) (a0_Data : List Int) : C_impl_ArrayOk [.agg [.d (lstT cI a0_Shape), .d (lstT cI a0_Data)]] = ((S_impl_ArrayOk a0_Shape a0_Data)).bind fun r => some (.ret (.d (.bool r)) []) := lay_eq (enc := e_impl_ArrayOk) (by
  intro a b h
  simp only [e_impl_ArrayOk, List.cons.injEq, X.d.injEq, X.res.injEq, RK.bld.injEq, X.agg.injEq, X.box.injEq, D.int.injEq, D.bool.injEq, D.fn.injEq, sD_inj, lstT_inj, ownT_inj, and_true, true_and, and_assoc] at h
  simp only [Prod.ext_iff]; exact h) (a0_Shape, a0_Data)
noncomputable def G12 : Ctx := G11.with 25 C_impl_ArrayOk
theorem so12 : SoundAll Tryd.prog G12 := by
  refine layer (cuts := []) (k := 1) (cd := c_impl_ArrayOk) (rs := r_impl_ArrayOk) (enc := e_impl_ArrayOk) mixed so11 Tryd.func25 (by kernel_rfl) (by kernel_rfl) (by kernel_rfl) (by kernel_rfl) (by kernel_rfl) (by kernel_rfl) (wk := fun y => nocap y) Same.nocap ?_
  intro a out ho
  obtain ⟨r, h1, h2⟩ := Option.bind_eq_some_iff.mp ho
  obtain ⟨hp, rfl⟩ := under_some h1
  obtain ⟨N, hN⟩ := p_impl_ArrayOk S_impl_cellsOf (fun _ h => under_pos h) a.1 a.2 hp
  refine ⟨N, ?_⟩
  refine ((callF_G (fun y => some (nocap y)) 1 c_impl_ArrayOk r_impl_ArrayOk (e_impl_ArrayOk a) ⟨rfl, rfl, rfl⟩).trans (impl_ArrayOk_g ⟨G11, [], [], [], N, r_impl_ArrayOk, none, fun _ _ => none, fun y => some (nocap y)⟩ ⟨rfl, rfl, rfl, rfl, rfl, fun _ => rfl, fun _ => rfl⟩ S_impl_cellsOf ⟨rfl, (fun a0 => (show G11 47 _ = _ from rfl).trans (C_impl_cellsOf_eq a0))⟩ a.1 a.2)).trans ?_
  show (impl_ArrayOk_f S_impl_cellsOf N a.1 a.2).bind _ = _
  rw [hN]; exact h2
-- (*strings.Builder).WriteByte
noncomputable def S___strings_Builder__WriteByte (T : Nat) (b : List UInt8) (a1 : Int) : Option (List UInt8) := under (pre___strings_Builder__WriteByte T b a1) (s___strings_Builder__WriteByte T b a1)
def e___strings_Builder__WriteByte (a : Nat × (List UInt8) × Int) : List X := [.res (.bld a.1 5) (sD a.2.1), .d (.int .u8 a.2.2)]
noncomputable def C___strings_Builder__WriteByte : List X → Option XOut := lay e___strings_Builder__WriteByte fun a => ((S___strings_Builder__WriteByte a.1 a.2.1 a.2.2)).bind fun r => some (.ret (.d .nili) [[sD r]])
theorem C___strings_Builder__WriteByte_eq (T : Nat) (b : List UInt8) (a1 : Int) : C___strings_Builder__WriteByte [.res (.bld T 5) (sD b), .d (.int .u8 a1)] = ((S___strings_Builder__WriteByte T b a1)).bind fun r => some (.ret (.d .nili) [[sD r]]) := lay_eq (enc := e___strings_Builder__WriteByte) (by
  intro a b h
  simp only [e___strings_Builder__WriteByte, List.cons.injEq, X.d.injEq, X.res.injEq, RK.bld.injEq, X.agg.injEq, X.box.injEq, D.int.injEq, D.bool.injEq, D.fn.injEq, sD_inj, lstT_inj, ownT_inj, and_true, true_and, and_assoc] at h
  simp only [Prod.ext_iff]; exact h) (T, b, a1)
noncomputable def G13 : Ctx := G12.with 48 C___strings_Builder__WriteByte
theorem so13 : SoundAll Tryd.prog G13 := so12.with (sound_WriteByte (enc := e___strings_Builder__WriteByte) (fun _ => rfl) (fun a out ho => by
  obtain ⟨r, h1, h2⟩ := Option.bind_eq_some_iff.mp ho
  obtain ⟨hp, rfl⟩ := under_some h1
  exact ⟨q___strings_Builder__WriteByte hp, (Option.some.inj h2).symm⟩))
-- strconv.Itoa
noncomputable def S_strconv_Itoa (a0 : Int) : Option (List UInt8) := under (pre_strconv_Itoa a0) (s_strconv_Itoa a0)
def e_strconv_Itoa (a : Int) : List X := [.d (.int .i64 a)]
noncomputable def C_strconv_Itoa : List X → Option XOut := lay e_strconv_Itoa fun a => ((S_strconv_Itoa a)).bind fun r => some (.ret (.d (sD r)) [])
theorem C_strconv_Itoa_eq (a0 : Int) : C_strconv_Itoa [.d (.int .i64 a0)] = ((S_strconv_Itoa a0)).bind fun r => some (.ret (.d (sD r)) []) := lay_eq (enc := e_strconv_Itoa) (by
  intro a b h
  simp only [e_strconv_Itoa, List.cons.injEq, X.d.injEq, X.res.injEq, RK.bld.injEq, X.agg.injEq, X.box.injEq, D.int.injEq, D.bool.injEq, D.fn.injEq, sD_inj, lstT_inj, ownT_inj, and_true, true_and, and_assoc] at h
  exact h) a0
noncomputable def G14 : Ctx := G13.with 37 C_strconv_Itoa
theorem so14 : SoundAll Tryd.prog G14 := so13.with (sound_Itoa (enc := e_strconv_Itoa) (fun _ => rfl) (fun a out ho => by
  obtain ⟨r, h1, h2⟩ := Option.bind_eq_some_iff.mp ho
  obtain ⟨hp, rfl⟩ := under_some h1
  exact ⟨q_strconv_Itoa hp, (Option.some.inj h2).symm⟩))
-- (*strings.Builder).WriteString
noncomputable def S___strings_Builder__WriteString (T : Nat) (b : List UInt8) (a1 : List UInt8) : Option (Int × List UInt8) := under (pre___strings_Builder__WriteString T b a1) (s___strings_Builder__WriteString T b a1)
def e___strings_Builder__WriteString (a : Nat × (List UInt8) × (List UInt8)) : List X := [.res (.bld a.1 5) (sD a.2.1), .d (sD a.2.2)]
noncomputable def C___strings_Builder__WriteString : List X → Option XOut := lay e___strings_Builder__WriteString fun a => ((S___strings_Builder__WriteString a.1 a.2.1 a.2.2)).bind fun r => some (.ret (.tup [.d (.int .i64 r.1), .d .nili]) [[sD r.2]])
theorem C___strings_Builder__WriteString_eq (T : Nat) (b : List UInt8) (a1 : List UInt8) : C___strings_Builder__WriteString [.res (.bld T 5) (sD b), .d (sD a1)] = ((S___strings_Builder__WriteString T b a1)).bind fun r => some (.ret (.tup [.d (.int .i64 r.1), .d .nili]) [[sD r.2]]) := lay_eq (enc := e___strings_Builder__WriteString) (by
  intro a b h
  simp only [e___strings_Builder__WriteString, List.cons.injEq, X.d.injEq, X.res.injEq, RK.bld.injEq, X.agg.injEq, X.box.injEq, D.int.injEq, D.bool.injEq, D.fn.injEq, sD_inj, lstT_inj, ownT_inj, and_true, true_and, and_assoc] at h
  simp only [Prod.ext_iff]; exact h) (T, b, a1)
noncomputable def G15 : Ctx := G14.with 49 C___strings_Builder__WriteString
theorem so15 : SoundAll Tryd.prog G15 := so14.with (sound_WriteString (enc := e___strings_Builder__WriteString) (fun _ => rfl) (fun a out ho => by
  obtain ⟨r, h1, h2⟩ := Option.bind_eq_some_iff.mp ho
  obtain ⟨hp, rfl⟩ := under_some h1
  exact ⟨q___strings_Builder__WriteString hp, (Option.some.inj h2).symm⟩))
-- (*strings.Builder).String
noncomputable def S___strings_Builder__String (T : Nat) (b : List UInt8) : Option (List UInt8 × List UInt8) := under (pre___strings_Builder__String T b) (s___strings_Builder__String T b)
def e___strings_Builder__String (a : Nat × (List UInt8)) : List X := [.res (.bld a.1 5) (sD a.2)]
noncomputable def C___strings_Builder__String : List X → Option XOut := lay e___strings_Builder__String fun a => ((S___strings_Builder__String a.1 a.2)).bind fun r => some (.ret (.d (sD r.1)) [[sD r.2]])
theorem C___strings_Builder__String_eq (T : Nat) (b : List UInt8) : C___strings_Builder__String [.res (.bld T 5) (sD b)] = ((S___strings_Builder__String T b)).bind fun r => some (.ret (.d (sD r.1)) [[sD r.2]]) := lay_eq (enc := e___strings_Builder__String) (by
  intro a b h
  simp only [e___strings_Builder__String, List.cons.injEq, X.d.injEq, X.res.injEq, RK.bld.injEq, X.agg.injEq, X.box.injEq, D.int.injEq, D.bool.injEq, D.fn.injEq, sD_inj, lstT_inj, ownT_inj, and_true, true_and, and_assoc] at h
  simp only [Prod.ext_iff]; exact h) (T, b)
noncomputable def G16 : Ctx := G15.with 39 C___strings_Builder__String
theorem so16 : SoundAll Tryd.prog G16 := so15.with (sound_String (enc := e___strings_Builder__String) (fun _ => rfl) (fun a out ho => by
  obtain ⟨r, h1, h2⟩ := Option.bind_eq_some_iff.mp ho
  obtain ⟨hp, rfl⟩ := under_some h1
  exact ⟨q___strings_Builder__String hp, (Option.some.inj h2).symm⟩))
-- loop.example/s02135/impl.joined
noncomputable def S_impl_joined (a0 : List Int) : Option (List UInt8) := under (pre_impl_joined a0) (s_impl_joined a0)
def e_impl_joined (a : (List Int)) : List X := [.d (lstT cI a)]
noncomputable def C_impl_joined : List X → Option XOut := lay e_impl_joined fun a => ((S_impl_joined a)).bind fun r => some (.ret (.d (sD r)) [])
theorem C_impl_joined_eq (a0 : List Int) : C_impl_joined [.d (lstT cI a0)] = ((S_impl_joined a0)).bind fun r => some (.ret (.d (sD r)) []) := lay_eq (enc := e_impl_joined) (by
  intro a b h
  simp only [e_impl_joined, List.cons.injEq, X.d.injEq, X.res.injEq, RK.bld.injEq, X.agg.injEq, X.box.injEq, D.int.injEq, D.bool.injEq, D.fn.injEq, sD_inj, lstT_inj, ownT_inj, and_true, true_and, and_assoc] at h
  exact h) a0
noncomputable def G17 : Ctx := G16.with 26 C_impl_joined
theorem so17 : SoundAll Tryd.prog G17 := by
  refine layer (cuts := []) (k := 1) (cd := c_impl_joined) (rs := r_impl_joined) (enc := e_impl_joined) mixed so16 Tryd.func26 (by kernel_rfl) (by kernel_rfl) (by kernel_rfl) (by kernel_rfl) (by kernel_rfl) (by kernel_rfl) (wk := fun y => nocap y) Same.nocap ?_
  intro a out ho
  obtain ⟨r, h1, h2⟩ := Option.bind_eq_some_iff.mp ho
  obtain ⟨hp, rfl⟩ := under_some h1
  obtain ⟨N, hN⟩ := p_impl_joined S___strings_Builder__WriteByte (fun _ _ _ h => under_pos h) S_strconv_Itoa (fun _ h => under_pos h) S___strings_Builder__WriteString (fun _ _ _ h => under_pos h) S___strings_Builder__String (fun _ _ h => under_pos h) a hp
  refine ⟨N, ?_⟩
  refine ((callF_G (fun y => some (nocap y)) 1 c_impl_joined r_impl_joined (e_impl_joined a) ⟨rfl, rfl, rfl⟩).trans (impl_joined_g ⟨G16, [], [], [], N, r_impl_joined, none, fun _ _ => none, fun y => some (nocap y)⟩ ⟨rfl, rfl, rfl, rfl, rfl, fun _ => rfl, fun _ => rfl⟩ S___strings_Builder__WriteByte ⟨rfl, (fun T b a1 => (show G16 48 _ = _ from rfl).trans (C___strings_Builder__WriteByte_eq T b a1))⟩ S_strconv_Itoa ⟨rfl, (fun a0 => (show G16 37 _ = _ from rfl).trans (C_strconv_Itoa_eq a0))⟩ S___strings_Builder__WriteString ⟨rfl, (fun T b a1 => (show G16 49 _ = _ from rfl).trans (C___strings_Builder__WriteString_eq T b a1))⟩ S___strings_Builder__String ⟨rfl, (fun T b => (show G16 39 _ = _ from rfl).trans (C___strings_Builder__String_eq T b))⟩ a)).trans ?_
  show (impl_joined_f S___strings_Builder__WriteByte S_strconv_Itoa S___strings_Builder__WriteString S___strings_Builder__String N a).bind _ = _
  rw [hN]; exact h2
-- loop.example/s02135/impl.ArrayText
noncomputable def S_impl_ArrayText (a0_Shape : List Int) (a0_Data : List Int) : Option (List UInt8 × Bool) := under (pre_impl_ArrayText a0_Shape a0_Data) (s_impl_ArrayText a0_Shape a0_Data)
def e_impl_ArrayText (a : (List Int) × (List Int)) : List X := [.agg [.d (lstT cI a.1), .d (lstT cI a.2)]]
noncomputable def C_impl_ArrayText : List X → Option XOut := lay e_impl_ArrayText fun a => ((S_impl_ArrayText a.1 a.2)).bind fun r => some (.ret (.tup [.d (sD r.1), .d (.bool r.2)]) [])
theorem C_impl_ArrayText_eq (a0_Shape : List Int) (a0_Data : List Int) : C_impl_ArrayText [.agg [.d (lstT cI a0_Shape), .d (lstT cI a0_Data)]] = ((S_impl_ArrayText a0_Shape a0_Data)).bind fun r => some (.ret (.tup [.d (sD r.1), .d (.bool r.2)]) []) := lay_eq (enc := e_impl_ArrayText) (by
  intro a b h
  simp only [e_impl_ArrayText, List.cons.injEq, X.d.injEq, X.res.injEq, RK.bld.injEq, X.agg.injEq, X.box.injEq, D.int.injEq, D.bool.injEq, D.fn.injEq, sD_inj, lstT_inj, ownT_inj, and_true, true_and, and_assoc] at h
  simp only [Prod.ext_iff]; exact h) (a0_Shape, a0_Data)
noncomputable def G18 : Ctx := G17.with 9 C_impl_ArrayText
theorem so18 : SoundAll Tryd.prog G18 := by
  refine layer (cuts := []) (k := 1) (cd := c_impl_ArrayText) (rs := r_impl_ArrayText) (enc := e_impl_ArrayText) mixed so17 Tryd.func9 (by kernel_rfl) (by kernel_rfl) (by kernel_rfl) (by kernel_rfl) (by kernel_rfl) (by kernel_rfl) (wk := fun y => nocap y) Same.nocap ?_
  intro a out ho
  obtain ⟨r, h1, h2⟩ := Option.bind_eq_some_iff.mp ho
  obtain ⟨hp, rfl⟩ := under_some h1
  obtain ⟨N, hN⟩ := p_impl_ArrayText S_impl_ArrayOk (fun _ _ h => under_pos h) S_impl_joined (fun _ h => under_pos h) a.1 a.2 hp
  refine ⟨N, ?_⟩
  refine ((callF_G (fun y => some (nocap y)) 1 c_impl_ArrayText r_impl_ArrayText (e_impl_ArrayText a) ⟨rfl, rfl, rfl⟩).trans (impl_ArrayText_g ⟨G17, [], [], [], N, r_impl_ArrayText, none, fun _ _ => none, fun y => some (nocap y)⟩ ⟨rfl, rfl, rfl, rfl, rfl, fun _ => rfl, fun _ => rfl⟩ S_impl_ArrayOk ⟨rfl, (fun a0_Shape a0_Data => (show G17 25 _ = _ from rfl).trans (C_impl_ArrayOk_eq a0_Shape a0_Data))⟩ S_impl_joined ⟨rfl, (fun a0 => (show G17 26 _ = _ from rfl).trans (C_impl_joined_eq a0))⟩ a.1 a.2)).trans ?_
  show (impl_ArrayText_f S_impl_ArrayOk S_impl_joined N a.1 a.2).bind _ = _
  rw [hN]; exact h2
-- loop.example/s02135/laws.eqIntS
noncomputable def S_laws_eqIntS (a0 : List Int) (a1 : List Int) : Option (Bool) := under (pre_laws_eqIntS a0 a1) (s_laws_eqIntS a0 a1)
def e_laws_eqIntS (a : (List Int) × (List Int)) : List X := [.d (lstT cI a.1), .d (lstT cI a.2)]
noncomputable def C_laws_eqIntS : List X → Option XOut := lay e_laws_eqIntS fun a => ((S_laws_eqIntS a.1 a.2)).bind fun r => some (.ret (.d (.bool r)) [])
theorem C_laws_eqIntS_eq (a0 : List Int) (a1 : List Int) : C_laws_eqIntS [.d (lstT cI a0), .d (lstT cI a1)] = ((S_laws_eqIntS a0 a1)).bind fun r => some (.ret (.d (.bool r)) []) := lay_eq (enc := e_laws_eqIntS) (by
  intro a b h
  simp only [e_laws_eqIntS, List.cons.injEq, X.d.injEq, X.res.injEq, RK.bld.injEq, X.agg.injEq, X.box.injEq, D.int.injEq, D.bool.injEq, D.fn.injEq, sD_inj, lstT_inj, ownT_inj, and_true, true_and, and_assoc] at h
  simp only [Prod.ext_iff]; exact h) (a0, a1)
noncomputable def G19 : Ctx := G18.with 27 C_laws_eqIntS
theorem so19 : SoundAll Tryd.prog G19 := by
  refine layer (cuts := []) (k := 2) (cd := c_laws_eqIntS) (rs := r_laws_eqIntS) (enc := e_laws_eqIntS) mixed so18 Tryd.func27 (by kernel_rfl) (by kernel_rfl) (by kernel_rfl) (by kernel_rfl) (by kernel_rfl) (by kernel_rfl) (wk := fun y => nocap y) Same.nocap ?_
  intro a out ho
  obtain ⟨r, h1, h2⟩ := Option.bind_eq_some_iff.mp ho
  obtain ⟨hp, rfl⟩ := under_some h1
  obtain ⟨N, hN⟩ := p_laws_eqIntS a.1 a.2 hp
  refine ⟨N, ?_⟩
  refine ((callF_G (fun y => some (nocap y)) 2 c_laws_eqIntS r_laws_eqIntS (e_laws_eqIntS a) ⟨rfl, rfl, rfl⟩).trans (laws_eqIntS_g ⟨G18, [], [], [], N, r_laws_eqIntS, none, fun _ _ => none, fun y => some (nocap y)⟩ ⟨rfl, rfl, rfl, rfl, rfl, fun _ => rfl, fun _ => rfl⟩ a.1 a.2)).trans ?_
  show (laws_eqIntS_f N a.1 a.2).bind _ = _
  rw [hN]; exact h2
-- loop.example/s02135/laws.eqArray
noncomputable def S_laws_eqArray (a0_Shape : List Int) (a0_Data : List Int) (a1_Shape : List Int) (a1_Data : List Int) : Option (Bool) := under (pre_laws_eqArray a0_Shape a0_Data a1_Shape a1_Data) (s_laws_eqArray a0_Shape a0_Data a1_Shape a1_Data)
def e_laws_eqArray (a : (List Int) × (List Int) × (List Int) × (List Int)) : List X := [.agg [.d (lstT cI a.1), .d (lstT cI a.2.1)], .agg [.d (lstT cI a.2.2.1), .d (lstT cI a.2.2.2)]]
noncomputable def C_laws_eqArray : List X → Option XOut := lay e_laws_eqArray fun a => ((S_laws_eqArray a.1 a.2.1 a.2.2.1 a.2.2.2)).bind fun r => some (.ret (.d (.bool r)) [])
theorem C_laws_eqArray_eq (a0_Shape : List Int) (a0_Data : List Int) (a1_Shape : List Int) (a1_Data : List Int) : C_laws_eqArray [.agg [.d (lstT cI a0_Shape), .d (lstT cI a0_Data)], .agg [.d (lstT cI a1_Shape), .d (lstT cI a1_Data)]] = ((S_laws_eqArray a0_Shape a0_Data a1_Shape a1_Data)).bind fun r => some (.ret (.d (.bool r)) []) := lay_eq (enc := e_laws_eqArray) (by
  intro a b h
  simp only [e_laws_eqArray, List.cons.injEq, X.d.injEq, X.res.injEq, RK.bld.injEq, X.agg.injEq, X.box.injEq, D.int.injEq, D.bool.injEq, D.fn.injEq, sD_inj, lstT_inj, ownT_inj, and_true, true_and, and_assoc] at h
  simp only [Prod.ext_iff]; exact h) (a0_Shape, a0_Data, a1_Shape, a1_Data)
noncomputable def G20 : Ctx := G19.with 10 C_laws_eqArray
theorem so20 : SoundAll Tryd.prog G20 := by
  refine layer (cuts := []) (k := 2) (cd := c_laws_eqArray) (rs := r_laws_eqArray) (enc := e_laws_eqArray) mixed so19 Tryd.func10 (by kernel_rfl) (by kernel_rfl) (by kernel_rfl) (by kernel_rfl) (by kernel_rfl) (by kernel_rfl) (wk := fun y => nocap y) Same.nocap ?_
  intro a out ho
  obtain ⟨r, h1, h2⟩ := Option.bind_eq_some_iff.mp ho
  obtain ⟨hp, rfl⟩ := under_some h1
  obtain ⟨N, hN⟩ := p_laws_eqArray S_laws_eqIntS (fun _ _ h => under_pos h) a.1 a.2.1 a.2.2.1 a.2.2.2 hp
  refine ⟨N, ?_⟩
  refine ((callF_G (fun y => some (nocap y)) 2 c_laws_eqArray r_laws_eqArray (e_laws_eqArray a) ⟨rfl, rfl, rfl⟩).trans (laws_eqArray_g ⟨G19, [], [], [], N, r_laws_eqArray, none, fun _ _ => none, fun y => some (nocap y)⟩ ⟨rfl, rfl, rfl, rfl, rfl, fun _ => rfl, fun _ => rfl⟩ S_laws_eqIntS ⟨rfl, (fun a0 a1 => (show G19 27 _ = _ from rfl).trans (C_laws_eqIntS_eq a0 a1))⟩ a.1 a.2.1 a.2.2.1 a.2.2.2)).trans ?_
  show (laws_eqArray_f S_laws_eqIntS N a.1 a.2.1 a.2.2.1 a.2.2.2).bind _ = _
  rw [hN]; exact h2
-- loop.example/s02135/laws.FnExactArrayText
noncomputable def S_laws_FnExactArrayText (a0_Shape : List Int) (a0_Data : List Int) : Option (Bool) := under (pre_laws_FnExactArrayText a0_Shape a0_Data) (s_laws_FnExactArrayText a0_Shape a0_Data)
def e_laws_FnExactArrayText (a : (List Int) × (List Int)) : List X := [.agg [.d (lstT cI a.1), .d (lstT cI a.2)]]
noncomputable def C_laws_FnExactArrayText : List X → Option XOut := lay e_laws_FnExactArrayText fun a => ((S_laws_FnExactArrayText a.1 a.2)).bind fun r => some (.ret (.d (.bool r)) [])
theorem C_laws_FnExactArrayText_eq (a0_Shape : List Int) (a0_Data : List Int) : C_laws_FnExactArrayText [.agg [.d (lstT cI a0_Shape), .d (lstT cI a0_Data)]] = ((S_laws_FnExactArrayText a0_Shape a0_Data)).bind fun r => some (.ret (.d (.bool r)) []) := lay_eq (enc := e_laws_FnExactArrayText) (by
  intro a b h
  simp only [e_laws_FnExactArrayText, List.cons.injEq, X.d.injEq, X.res.injEq, RK.bld.injEq, X.agg.injEq, X.box.injEq, D.int.injEq, D.bool.injEq, D.fn.injEq, sD_inj, lstT_inj, ownT_inj, and_true, true_and, and_assoc] at h
  simp only [Prod.ext_iff]; exact h) (a0_Shape, a0_Data)
noncomputable def G21 : Ctx := G20.with 3 C_laws_FnExactArrayText
theorem so21 : SoundAll Tryd.prog G21 := by
  refine layer (cuts := []) (k := 1) (cd := c_laws_FnExactArrayText) (rs := r_laws_FnExactArrayText) (enc := e_laws_FnExactArrayText) mixed so20 Tryd.func3 (by kernel_rfl) (by kernel_rfl) (by kernel_rfl) (by kernel_rfl) (by kernel_rfl) (by kernel_rfl) (wk := fun y => nocap y) Same.nocap ?_
  intro a out ho
  obtain ⟨r, h1, h2⟩ := Option.bind_eq_some_iff.mp ho
  obtain ⟨hp, rfl⟩ := under_some h1
  obtain ⟨N, hN⟩ := p_laws_FnExactArrayText S_laws_szArray (fun _ _ _ h => under_pos h) S_laws_toArray (fun _ _ h => under_pos h) S_spec_ArrayText (fun _ _ h => under_pos h) S_impl_ArrayText (fun _ _ h => under_pos h) S_laws_eqArray (fun _ _ _ _ h => under_pos h) a.1 a.2 hp
  refine ⟨N, ?_⟩
  refine ((callF_G (fun y => some (nocap y)) 1 c_laws_FnExactArrayText r_laws_FnExactArrayText (e_laws_FnExactArrayText a) ⟨rfl, rfl, rfl⟩).trans (laws_FnExactArrayText_g ⟨G20, [], [], [], N, r_laws_FnExactArrayText, none, fun _ _ => none, fun y => some (nocap y)⟩ ⟨rfl, rfl, rfl, rfl, rfl, fun _ => rfl, fun _ => rfl⟩ S_laws_szArray ⟨rfl, (fun a0_Shape a0_Data a1 => (show G20 6 _ = _ from rfl).trans (C_laws_szArray_eq a0_Shape a0_Data a1))⟩ S_laws_toArray ⟨rfl, (fun a0_Shape a0_Data => (show G20 8 _ = _ from rfl).trans (C_laws_toArray_eq a0_Shape a0_Data))⟩ S_spec_ArrayText ⟨rfl, (fun a0_Shape a0_Data => (show G20 7 _ = _ from rfl).trans (C_spec_ArrayText_eq a0_Shape a0_Data))⟩ S_impl_ArrayText ⟨rfl, (fun a0_Shape a0_Data => (show G20 9 _ = _ from rfl).trans (C_impl_ArrayText_eq a0_Shape a0_Data))⟩ S_laws_eqArray ⟨rfl, (fun a0_Shape a0_Data a1_Shape a1_Data => (show G20 10 _ = _ from rfl).trans (C_laws_eqArray_eq a0_Shape a0_Data a1_Shape a1_Data))⟩ a.1 a.2)).trans ?_
  show (laws_FnExactArrayText_f S_laws_szArray S_laws_toArray S_spec_ArrayText S_impl_ArrayText S_laws_eqArray N a.1 a.2).bind _ = _
  rw [hN]; exact h2
theorem law : Sound Tryd.prog 3 C_laws_FnExactArrayText := by
  have h := so21 3
  exact h
end Go.Proofs.YtbfmeoiblppnbaaDoor.TowAT
