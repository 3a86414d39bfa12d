/- The contracts of the functions under laws_FnExactParseArray, one upon the other. Printed by a program of this session. -/
import Derived.Test.YtkfmlfihobkcmaaDoorFPar
import Derived.Test.YtkfmlfihobkcmaaDoorPParX
import Derived.Test.YtkfmlfihobkcmaaDoorLayC
import Derived.Test.YtkfmlfihobkcmaaDoorVmLayer
import Derived.Test.YtkfmlfihobkcmaaDoorProg
set_option linter.all false
set_option maxRecDepth 100000
namespace Go.Proofs.YtkfmlfihobkcmaaDoor.TowPar
open Go.Vm
variable [gl : Gl] [tb : GlTab]
theorem mixed : Tryd.prog.follows .mixedOrders = true := by kernel_rfl
noncomputable def G0 : Ctx := Γ0 flatIds
theorem so0 : SoundAll Tryd.prog G0 := Γ0_sound _ _
-- loop.example/s02135/spec.l1Cut
noncomputable def S_spec_l1Cut (a0 : List UInt8) (a1 : Int) : Option (List (List UInt8)) := under (pre_spec_l1Cut a0 a1) (s_spec_l1Cut a0 a1)
def e_spec_l1Cut (a : (List UInt8) × Int) : List X := [.d (sD a.1), .d (.int .u8 a.2)]
noncomputable def C_spec_l1Cut : List X → Option XOut := lay e_spec_l1Cut fun a => ((S_spec_l1Cut a.1 a.2)).bind fun r => some (.ret (ownT (cS) 9 none false r) [])
theorem C_spec_l1Cut_eq (a0 : List UInt8) (a1 : Int) : C_spec_l1Cut [.d (sD a0), .d (.int .u8 a1)] = ((S_spec_l1Cut a0 a1)).bind fun r => some (.ret (ownT (cS) 9 none false r) []) := lay_eq (enc := e_spec_l1Cut) (by
  intro a b h
  simp only [e_spec_l1Cut, List.cons.injEq, X.d.injEq, X.res.injEq, RK.bld.injEq, X.agg.injEq, X.box.injEq, D.int.injEq, D.bool.injEq, D.fn.injEq, sD_inj, lstT_inj, ownT_inj, and_true, true_and, and_assoc] at h
  simp only [Prod.ext_iff]; exact h) (a0, a1)
noncomputable def G1 : Ctx := G0.with 21 C_spec_l1Cut
theorem so1 : SoundAll Tryd.prog G1 := by
  refine layer (cuts := []) (k := 2) (cd := c_spec_l1Cut) (rs := r_spec_l1Cut) (enc := e_spec_l1Cut) mixed so0 Tryd.func21 (by kernel_rfl) (by kernel_rfl) (by kernel_rfl) (by kernel_rfl) (by kernel_rfl) (by kernel_rfl) (wk := fun y => nocap y) Same.nocap ?_
  intro a out ho
  obtain ⟨r, h1, h2⟩ := Option.bind_eq_some_iff.mp ho
  obtain ⟨hp, rfl⟩ := under_some h1
  obtain ⟨N, hN⟩ := p_spec_l1Cut a.1 a.2 hp
  refine ⟨N, ?_⟩
  refine ((callF_G (fun y => some (nocap y)) 2 c_spec_l1Cut r_spec_l1Cut (e_spec_l1Cut a) ⟨rfl, rfl, rfl⟩).trans (spec_l1Cut_g ⟨G0, [], [], [], N, r_spec_l1Cut, none, fun _ _ => none, fun y => some (nocap y)⟩ ⟨rfl, rfl, rfl, rfl, rfl, fun _ => rfl, fun _ => rfl⟩ a.1 a.2)).trans ?_
  show (spec_l1Cut_f N a.1 a.2).bind _ = _
  rw [hN]; exact h2
-- loop.example/s02135/spec.l1Dec
noncomputable def S_spec_l1Dec (a0 : Int) : Option (List UInt8) := under (pre_spec_l1Dec a0) (s_spec_l1Dec a0)
def e_spec_l1Dec (a : Int) : List X := [.d (.int .i64 a)]
noncomputable def C_spec_l1Dec : List X → Option XOut := lay e_spec_l1Dec fun a => ((S_spec_l1Dec a)).bind fun r => some (.ret (.d (sD r)) [])
theorem inj_spec_l1Dec : ∀ a b, e_spec_l1Dec a = e_spec_l1Dec b → a = b := by
  intro a b h
  simp only [e_spec_l1Dec, List.cons.injEq, X.d.injEq, X.res.injEq, RK.bld.injEq, X.agg.injEq, X.box.injEq, D.int.injEq, D.bool.injEq, D.fn.injEq, sD_inj, lstT_inj, ownT_inj, and_true, true_and, and_assoc] at h
  exact h
theorem C_spec_l1Dec_eq (a0 : Int) : C_spec_l1Dec [.d (.int .i64 a0)] = ((S_spec_l1Dec a0)).bind fun r => some (.ret (.d (sD r)) []) := lay_eq (enc := e_spec_l1Dec) (by
  intro a b h
  simp only [e_spec_l1Dec, List.cons.injEq, X.d.injEq, X.res.injEq, RK.bld.injEq, X.agg.injEq, X.box.injEq, D.int.injEq, D.bool.injEq, D.fn.injEq, sD_inj, lstT_inj, ownT_inj, and_true, true_and, and_assoc] at h
  exact h) a0
noncomputable def G2 : Ctx := G1.with 32 C_spec_l1Dec
theorem so2 : SoundAll Tryd.prog G2 := by
  refine layer_rec (mu := fun a => mu_spec_l1Dec a) (cuts := []) (k := 1) (cd := c_spec_l1Dec) (rs := r_spec_l1Dec) (enc := e_spec_l1Dec) mixed so1 Tryd.func32 (by kernel_rfl) (by kernel_rfl) (by kernel_rfl) (by kernel_rfl) (by kernel_rfl) (by kernel_rfl) (wk := fun y => nocap y) Same.nocap ?_
  intro j a out ho hj
  obtain ⟨r, h1, h2⟩ := Option.bind_eq_some_iff.mp ho
  obtain ⟨hp, rfl⟩ := under_some h1
  obtain ⟨N, hN⟩ := p_spec_l1Dec (fun a0 => if mu_spec_l1Dec a0 < j then S_spec_l1Dec a0 else none) j (fun _ hm h => (if_pos hm).trans (under_pos h)) a hp hj
  refine ⟨N, ?_⟩
  refine ((callF_G (fun y => some (nocap y)) 1 c_spec_l1Dec r_spec_l1Dec (e_spec_l1Dec a) ⟨rfl, rfl, rfl⟩).trans (spec_l1Dec_g ⟨(G1.with 32 (lay e_spec_l1Dec fun a => if mu_spec_l1Dec a < j then ((S_spec_l1Dec a)).bind fun r => some (.ret (.d (sD r)) []) else none)), [], [], [], N, r_spec_l1Dec, none, fun _ _ => none, fun y => some (nocap y)⟩ ⟨rfl, rfl, rfl, rfl, rfl, fun _ => rfl, fun _ => rfl⟩ (fun a0 => if mu_spec_l1Dec a0 < j then S_spec_l1Dec a0 else none) ⟨rfl, fun a0 => (show (G1.with 32 (lay e_spec_l1Dec fun a => if mu_spec_l1Dec a < j then ((S_spec_l1Dec a)).bind fun r => some (.ret (.d (sD r)) []) else none)) 32 _ = _ from rfl).trans ((lay_eq (β := XOut) (enc := e_spec_l1Dec) (C := fun a => if mu_spec_l1Dec a < j then ((S_spec_l1Dec a)).bind fun r => some (.ret (.d (sD r)) []) else none) inj_spec_l1Dec a0).trans (by dsimp only; split <;> rfl))⟩ a)).trans ?_
  show (spec_l1Dec_f (fun a0 => if mu_spec_l1Dec a0 < j then S_spec_l1Dec a0 else none) N a).bind _ = _
  rw [hN]; exact h2
-- loop.example/s02135/spec.l1Num
noncomputable def S_spec_l1Num (a0 : List UInt8) : Option (Int × Bool) := under (pre_spec_l1Num a0) (s_spec_l1Num a0)
def e_spec_l1Num (a : (List UInt8)) : List X := [.d (sD a)]
noncomputable def C_spec_l1Num : List X → Option XOut := lay e_spec_l1Num fun a => ((S_spec_l1Num a)).bind fun r => some (.ret (.tup [.d (.int .i64 r.1), .d (.bool r.2)]) [])
theorem C_spec_l1Num_eq (a0 : List UInt8) : C_spec_l1Num [.d (sD a0)] = ((S_spec_l1Num a0)).bind fun r => some (.ret (.tup [.d (.int .i64 r.1), .d (.bool r.2)]) []) := lay_eq (enc := e_spec_l1Num) (by
  intro a b h
  simp only [e_spec_l1Num, List.cons.injEq, X.d.injEq, X.res.injEq, RK.bld.injEq, X.agg.injEq, X.box.injEq, D.int.injEq, D.bool.injEq, D.fn.injEq, sD_inj, lstT_inj, ownT_inj, and_true, true_and, and_assoc] at h
  exact h) a0
noncomputable def G3 : Ctx := G2.with 44 C_spec_l1Num
theorem so3 : SoundAll Tryd.prog G3 := by
  refine layer (cuts := []) (k := 1) (cd := c_spec_l1Num) (rs := r_spec_l1Num) (enc := e_spec_l1Num) mixed so2 Tryd.func44 (by kernel_rfl) (by kernel_rfl) (by kernel_rfl) (by kernel_rfl) (by kernel_rfl) (by kernel_rfl) (wk := fun y => nocap y) Same.nocap ?_
  intro a out ho
  obtain ⟨r, h1, h2⟩ := Option.bind_eq_some_iff.mp ho
  obtain ⟨hp, rfl⟩ := under_some h1
  obtain ⟨N, hN⟩ := p_spec_l1Num S_spec_l1Dec (fun _ h => under_pos h) a hp
  refine ⟨N, ?_⟩
  refine ((callF_G (fun y => some (nocap y)) 1 c_spec_l1Num r_spec_l1Num (e_spec_l1Num a) ⟨rfl, rfl, rfl⟩).trans (spec_l1Num_g ⟨G2, [], [], [], N, r_spec_l1Num, none, fun _ _ => none, fun y => some (nocap y)⟩ ⟨rfl, rfl, rfl, rfl, rfl, fun _ => rfl, fun _ => rfl⟩ S_spec_l1Dec ⟨rfl, (fun a0 => (show G2 32 _ = _ from rfl).trans (C_spec_l1Dec_eq a0))⟩ a)).trans ?_
  show (spec_l1Num_f S_spec_l1Dec N a).bind _ = _
  rw [hN]; exact h2
-- loop.example/s02135/spec.l1Nums
noncomputable def S_spec_l1Nums (a0 : List UInt8) : Option (List Int × Bool) := under (pre_spec_l1Nums a0) (s_spec_l1Nums a0)
def e_spec_l1Nums (a : (List UInt8)) : List X := [.d (sD a)]
noncomputable def C_spec_l1Nums : List X → Option XOut := lay e_spec_l1Nums fun a => ((S_spec_l1Nums a)).bind fun r => some (.ret (.tup [ownT (cI) 3 none false r.1, .d (.bool r.2)]) [])
theorem C_spec_l1Nums_eq (a0 : List UInt8) : C_spec_l1Nums [.d (sD a0)] = ((S_spec_l1Nums a0)).bind fun r => some (.ret (.tup [ownT (cI) 3 none false r.1, .d (.bool r.2)]) []) := lay_eq (enc := e_spec_l1Nums) (by
  intro a b h
  simp only [e_spec_l1Nums, List.cons.injEq, X.d.injEq, X.res.injEq, RK.bld.injEq, X.agg.injEq, X.box.injEq, D.int.injEq, D.bool.injEq, D.fn.injEq, sD_inj, lstT_inj, ownT_inj, and_true, true_and, and_assoc] at h
  exact h) a0
noncomputable def G4 : Ctx := G3.with 22 C_spec_l1Nums
theorem so4 : SoundAll Tryd.prog G4 := by
  refine layer (cuts := []) (k := 1) (cd := c_spec_l1Nums) (rs := r_spec_l1Nums) (enc := e_spec_l1Nums) mixed so3 Tryd.func22 (by kernel_rfl) (by kernel_rfl) (by kernel_rfl) (by kernel_rfl) (by kernel_rfl) (by kernel_rfl) (wk := fun y => nocap y) Same.nocap ?_
  intro a out ho
  obtain ⟨r, h1, h2⟩ := Option.bind_eq_some_iff.mp ho
  obtain ⟨hp, rfl⟩ := under_some h1
  obtain ⟨N, hN⟩ := p_spec_l1Nums S_spec_l1Cut (fun _ _ h => under_pos h) S_spec_l1Num (fun _ h => under_pos h) a hp
  refine ⟨N, ?_⟩
  refine ((callF_G (fun y => some (nocap y)) 1 c_spec_l1Nums r_spec_l1Nums (e_spec_l1Nums a) ⟨rfl, rfl, rfl⟩).trans (spec_l1Nums_g ⟨G3, [], [], [], N, r_spec_l1Nums, none, fun _ _ => none, fun y => some (nocap y)⟩ ⟨rfl, rfl, rfl, rfl, rfl, fun _ => rfl, fun _ => rfl⟩ S_spec_l1Cut ⟨rfl, (fun a0 a1 => (show G3 21 _ = _ from rfl).trans (C_spec_l1Cut_eq a0 a1))⟩ S_spec_l1Num ⟨rfl, (fun a0 => (show G3 44 _ = _ from rfl).trans (C_spec_l1Num_eq a0))⟩ a)).trans ?_
  show (spec_l1Nums_f S_spec_l1Cut S_spec_l1Num N a).bind _ = _
  rw [hN]; exact h2
-- loop.example/s02135/spec.l1Product
noncomputable def S_spec_l1Product (a0 : List Int) : Option (Int) := under (pre_spec_l1Product a0) (s_spec_l1Product a0)
def e_spec_l1Product (a : (List Int)) : List X := [.d (lstT cI a)]
noncomputable def C_spec_l1Product : List X → Option XOut := lay e_spec_l1Product fun a => ((S_spec_l1Product a)).bind fun r => some (.ret (.d (.int .i64 r)) [])
theorem C_spec_l1Product_eq (a0 : List Int) : C_spec_l1Product [.d (lstT cI a0)] = ((S_spec_l1Product a0)).bind fun r => some (.ret (.d (.int .i64 r)) []) := lay_eq (enc := e_spec_l1Product) (by
  intro a b h
  simp only [e_spec_l1Product, List.cons.injEq, X.d.injEq, X.res.injEq, RK.bld.injEq, X.agg.injEq, X.box.injEq, D.int.injEq, D.bool.injEq, D.fn.injEq, sD_inj, lstT_inj, ownT_inj, and_true, true_and, and_assoc] at h
  exact h) a0
noncomputable def G5 : Ctx := G4.with 46 C_spec_l1Product
theorem so5 : SoundAll Tryd.prog G5 := by
  refine layer (cuts := []) (k := 1) (cd := c_spec_l1Product) (rs := r_spec_l1Product) (enc := e_spec_l1Product) mixed so4 Tryd.func46 (by kernel_rfl) (by kernel_rfl) (by kernel_rfl) (by kernel_rfl) (by kernel_rfl) (by kernel_rfl) (wk := fun y => nocap y) Same.nocap ?_
  intro a out ho
  obtain ⟨r, h1, h2⟩ := Option.bind_eq_some_iff.mp ho
  obtain ⟨hp, rfl⟩ := under_some h1
  obtain ⟨N, hN⟩ := p_spec_l1Product a hp
  refine ⟨N, ?_⟩
  refine ((callF_G (fun y => some (nocap y)) 1 c_spec_l1Product r_spec_l1Product (e_spec_l1Product a) ⟨rfl, rfl, rfl⟩).trans (spec_l1Product_g ⟨G4, [], [], [], N, r_spec_l1Product, none, fun _ _ => none, fun y => some (nocap y)⟩ ⟨rfl, rfl, rfl, rfl, rfl, fun _ => rfl, fun _ => rfl⟩ a)).trans ?_
  show (spec_l1Product_f N a).bind _ = _
  rw [hN]; exact h2
-- loop.example/s02135/spec.l1Fits
noncomputable def S_spec_l1Fits (a0 : List Int) : Option (Bool) := under (pre_spec_l1Fits a0) (s_spec_l1Fits a0)
def e_spec_l1Fits (a : (List Int)) : List X := [.d (lstT cI a)]
noncomputable def C_spec_l1Fits : List X → Option XOut := lay e_spec_l1Fits fun a => ((S_spec_l1Fits a)).bind fun r => some (.ret (.d (.bool r)) [])
theorem C_spec_l1Fits_eq (a0 : List Int) : C_spec_l1Fits [.d (lstT cI a0)] = ((S_spec_l1Fits a0)).bind fun r => some (.ret (.d (.bool r)) []) := lay_eq (enc := e_spec_l1Fits) (by
  intro a b h
  simp only [e_spec_l1Fits, List.cons.injEq, X.d.injEq, X.res.injEq, RK.bld.injEq, X.agg.injEq, X.box.injEq, D.int.injEq, D.bool.injEq, D.fn.injEq, sD_inj, lstT_inj, ownT_inj, and_true, true_and, and_assoc] at h
  exact h) a0
noncomputable def G6 : Ctx := G5.with 45 C_spec_l1Fits
theorem so6 : SoundAll Tryd.prog G6 := by
  refine layer (cuts := []) (k := 1) (cd := c_spec_l1Fits) (rs := r_spec_l1Fits) (enc := e_spec_l1Fits) mixed so5 Tryd.func45 (by kernel_rfl) (by kernel_rfl) (by kernel_rfl) (by kernel_rfl) (by kernel_rfl) (by kernel_rfl) (wk := fun y => nocap y) Same.nocap ?_
  intro a out ho
  obtain ⟨r, h1, h2⟩ := Option.bind_eq_some_iff.mp ho
  obtain ⟨hp, rfl⟩ := under_some h1
  obtain ⟨N, hN⟩ := p_spec_l1Fits S_spec_l1Product (fun _ h => under_pos h) a hp
  refine ⟨N, ?_⟩
  refine ((callF_G (fun y => some (nocap y)) 1 c_spec_l1Fits r_spec_l1Fits (e_spec_l1Fits a) ⟨rfl, rfl, rfl⟩).trans (spec_l1Fits_g ⟨G5, [], [], [], N, r_spec_l1Fits, none, fun _ _ => none, fun y => some (nocap y)⟩ ⟨rfl, rfl, rfl, rfl, rfl, fun _ => rfl, fun _ => rfl⟩ S_spec_l1Product ⟨rfl, (fun a0 => (show G5 46 _ = _ from rfl).trans (C_spec_l1Product_eq a0))⟩ a)).trans ?_
  show (spec_l1Fits_f S_spec_l1Product N a).bind _ = _
  rw [hN]; exact h2
-- loop.example/s02135/spec.ArrayOk
noncomputable def S_spec_ArrayOk (a0_Shape : List Int) (a0_Data : List Int) : Option (Bool) := under (pre_spec_ArrayOk a0_Shape a0_Data) (s_spec_ArrayOk a0_Shape a0_Data)
def e_spec_ArrayOk (a : (List Int) × (List Int)) : List X := [.agg [.d (lstT cI a.1), .d (lstT cI a.2)]]
noncomputable def C_spec_ArrayOk : List X → Option XOut := lay e_spec_ArrayOk fun a => ((S_spec_ArrayOk a.1 a.2)).bind fun r => some (.ret (.d (.bool r)) [])
theorem C_spec_ArrayOk_eq (a0_Shape : List Int) (a0_Data : List Int) : C_spec_ArrayOk [.agg [.d (lstT cI a0_Shape), .d (lstT cI a0_Data)]] = ((S_spec_ArrayOk a0_Shape a0_Data)).bind fun r => some (.ret (.d (.bool r)) []) := lay_eq (enc := e_spec_ArrayOk) (by
  intro a b h
  simp only [e_spec_ArrayOk, List.cons.injEq, X.d.injEq, X.res.injEq, RK.bld.injEq, X.agg.injEq, X.box.injEq, D.int.injEq, D.bool.injEq, D.fn.injEq, sD_inj, lstT_inj, ownT_inj, and_true, true_and, and_assoc] at h
  simp only [Prod.ext_iff]; exact h) (a0_Shape, a0_Data)
noncomputable def G7 : Ctx := G6.with 23 C_spec_ArrayOk
theorem so7 : SoundAll Tryd.prog G7 := by
  refine layer (cuts := []) (k := 1) (cd := c_spec_ArrayOk) (rs := r_spec_ArrayOk) (enc := e_spec_ArrayOk) mixed so6 Tryd.func23 (by kernel_rfl) (by kernel_rfl) (by kernel_rfl) (by kernel_rfl) (by kernel_rfl) (by kernel_rfl) (wk := fun y => nocap y) Same.nocap ?_
  intro a out ho
  obtain ⟨r, h1, h2⟩ := Option.bind_eq_some_iff.mp ho
  obtain ⟨hp, rfl⟩ := under_some h1
  obtain ⟨N, hN⟩ := p_spec_ArrayOk S_spec_l1Fits (fun _ h => under_pos h) S_spec_l1Product (fun _ h => under_pos h) a.1 a.2 hp
  refine ⟨N, ?_⟩
  refine ((callF_G (fun y => some (nocap y)) 1 c_spec_ArrayOk r_spec_ArrayOk (e_spec_ArrayOk a) ⟨rfl, rfl, rfl⟩).trans (spec_ArrayOk_g ⟨G6, [], [], [], N, r_spec_ArrayOk, none, fun _ _ => none, fun y => some (nocap y)⟩ ⟨rfl, rfl, rfl, rfl, rfl, fun _ => rfl, fun _ => rfl⟩ S_spec_l1Fits ⟨rfl, (fun a0 => (show G6 45 _ = _ from rfl).trans (C_spec_l1Fits_eq a0))⟩ S_spec_l1Product ⟨rfl, (fun a0 => (show G6 46 _ = _ from rfl).trans (C_spec_l1Product_eq a0))⟩ a.1 a.2)).trans ?_
  show (spec_ArrayOk_f S_spec_l1Fits S_spec_l1Product N a.1 a.2).bind _ = _
  rw [hN]; exact h2
-- loop.example/s02135/spec.ParseArray
noncomputable def S_spec_ParseArray (a0 : List UInt8) : Option (List Int × List Int × Int) := under (pre_spec_ParseArray a0) (s_spec_ParseArray a0)
def e_spec_ParseArray (a : (List UInt8)) : List X := [.d (sD a)]
noncomputable def C_spec_ParseArray : List X → Option XOut := lay e_spec_ParseArray fun a => ((S_spec_ParseArray a)).bind fun r => some (.ret (.tup [.agg [ownT (cI) 3 none false r.1, ownT (cI) 3 none false r.2.1], .d (.int .i64 r.2.2)]) [])
theorem C_spec_ParseArray_eq (a0 : List UInt8) : C_spec_ParseArray [.d (sD a0)] = ((S_spec_ParseArray a0)).bind fun r => some (.ret (.tup [.agg [ownT (cI) 3 none false r.1, ownT (cI) 3 none false r.2.1], .d (.int .i64 r.2.2)]) []) := lay_eq (enc := e_spec_ParseArray) (by
  intro a b h
  simp only [e_spec_ParseArray, List.cons.injEq, X.d.injEq, X.res.injEq, RK.bld.injEq, X.agg.injEq, X.box.injEq, D.int.injEq, D.bool.injEq, D.fn.injEq, sD_inj, lstT_inj, ownT_inj, and_true, true_and, and_assoc] at h
  exact h) a0
noncomputable def G8 : Ctx := G7.with 6 C_spec_ParseArray
theorem so8 : SoundAll Tryd.prog G8 := by
  refine layer (cuts := []) (k := 1) (cd := c_spec_ParseArray) (rs := r_spec_ParseArray) (enc := e_spec_ParseArray) mixed so7 Tryd.func6 (by kernel_rfl) (by kernel_rfl) (by kernel_rfl) (by kernel_rfl) (by kernel_rfl) (by kernel_rfl) (wk := fun y => nocap (asOwn (.node [.node [.own 3 1, .own 3 1], .k]) y)) (Same.comp Same.nocap (Same.own (.node [.node [.own 3 1, .own 3 1], .k]))) ?_
  intro a out ho
  obtain ⟨r, h1, h2⟩ := Option.bind_eq_some_iff.mp ho
  obtain ⟨hp, rfl⟩ := under_some h1
  obtain ⟨N, hN⟩ := p_spec_ParseArray S_spec_l1Cut (fun _ _ h => under_pos h) S_spec_l1Nums (fun _ h => under_pos h) S_spec_ArrayOk (fun _ _ h => under_pos h) a hp
  refine ⟨N, ?_⟩
  refine ((callF_G (fun y => some (nocap (asOwn (.node [.node [.own 3 1, .own 3 1], .k]) y))) 1 c_spec_ParseArray r_spec_ParseArray (e_spec_ParseArray a) ⟨rfl, rfl, rfl⟩).trans (spec_ParseArray_g ⟨G7, [], [], [], N, r_spec_ParseArray, none, fun _ _ => none, fun y => some (nocap (asOwn (.node [.node [.own 3 1, .own 3 1], .k]) y))⟩ ⟨rfl, rfl, rfl, rfl, rfl, fun _ => rfl, fun _ => rfl⟩ S_spec_l1Cut ⟨rfl, (fun a0 a1 => (show G7 21 _ = _ from rfl).trans (C_spec_l1Cut_eq a0 a1))⟩ S_spec_l1Nums ⟨rfl, (fun a0 => (show G7 22 _ = _ from rfl).trans (C_spec_l1Nums_eq a0))⟩ S_spec_ArrayOk ⟨rfl, (fun a0_Shape a0_Data => (show G7 23 _ = _ from rfl).trans (C_spec_ArrayOk_eq a0_Shape a0_Data))⟩ a)).trans ?_
  show (spec_ParseArray_f S_spec_l1Cut S_spec_l1Nums S_spec_ArrayOk N a).bind _ = _
  rw [hN]; exact h2
-- strings.Cut
noncomputable def S_strings_Cut (a0 : List UInt8) (a1 : List UInt8) : Option (List UInt8 × List UInt8 × Bool) := under (pre_strings_Cut a0 a1) (s_strings_Cut a0 a1)
def e_strings_Cut (a : (List UInt8) × (List UInt8)) : List X := [.d (sD a.1), .d (sD a.2)]
noncomputable def C_strings_Cut : List X → Option XOut := lay e_strings_Cut fun a => ((S_strings_Cut a.1 a.2)).bind fun r => some (.ret (.tup [.d (sD r.1), .d (sD r.2.1), .d (.bool r.2.2)]) [])
theorem C_strings_Cut_eq (a0 : List UInt8) (a1 : List UInt8) : C_strings_Cut [.d (sD a0), .d (sD a1)] = ((S_strings_Cut a0 a1)).bind fun r => some (.ret (.tup [.d (sD r.1), .d (sD r.2.1), .d (.bool r.2.2)]) []) := lay_eq (enc := e_strings_Cut) (by
  intro a b h
  simp only [e_strings_Cut, List.cons.injEq, X.d.injEq, X.res.injEq, RK.bld.injEq, X.agg.injEq, X.box.injEq, D.int.injEq, D.bool.injEq, D.fn.injEq, sD_inj, lstT_inj, ownT_inj, and_true, true_and, and_assoc] at h
  simp only [Prod.ext_iff]; exact h) (a0, a1)
noncomputable def G9 : Ctx := G8.with 24 C_strings_Cut
theorem so9 : SoundAll Tryd.prog G9 := so8.with (sound_Cut (enc := e_strings_Cut) (fun _ => rfl) (fun a out ho => by
  obtain ⟨r, h1, h2⟩ := Option.bind_eq_some_iff.mp ho
  obtain ⟨hp, rfl⟩ := under_some h1
  exact ⟨q_strings_Cut hp, (Option.some.inj h2).symm⟩))
-- strings.Split
noncomputable def S_strings_Split (a0 : List UInt8) (a1 : List UInt8) : Option (List (List UInt8)) := under (pre_strings_Split a0 a1) (s_strings_Split a0 a1)
def e_strings_Split (a : (List UInt8) × (List UInt8)) : List X := [.d (sD a.1), .d (sD a.2)]
noncomputable def C_strings_Split : List X → Option XOut := lay e_strings_Split fun a => ((S_strings_Split a.1 a.2)).bind fun r => some (.ret (.d (lstT cS r)) [])
theorem C_strings_Split_eq (a0 : List UInt8) (a1 : List UInt8) : C_strings_Split [.d (sD a0), .d (sD a1)] = ((S_strings_Split a0 a1)).bind fun r => some (.ret (.d (lstT cS r)) []) := lay_eq (enc := e_strings_Split) (by
  intro a b h
  simp only [e_strings_Split, List.cons.injEq, X.d.injEq, X.res.injEq, RK.bld.injEq, X.agg.injEq, X.box.injEq, D.int.injEq, D.bool.injEq, D.fn.injEq, sD_inj, lstT_inj, ownT_inj, and_true, true_and, and_assoc] at h
  simp only [Prod.ext_iff]; exact h) (a0, a1)
noncomputable def G10 : Ctx := G9.with 35 C_strings_Split
theorem so10 : SoundAll Tryd.prog G10 := so9.with (sound_Split (enc := e_strings_Split) (fun _ => rfl) (fun a out ho => by
  obtain ⟨r, h1, h2⟩ := Option.bind_eq_some_iff.mp ho
  obtain ⟨hp, rfl⟩ := under_some h1
  exact ⟨q_strings_Split hp, (Option.some.inj h2).symm⟩))
-- strconv.Atoi
noncomputable def S_strconv_Atoi (a0 : List UInt8) : Option (Alt Int Int) := under (pre_strconv_Atoi a0) (s_strconv_Atoi a0)
def e_strconv_Atoi (a : (List UInt8)) : List X := [.d (sD a)]
noncomputable def C_strconv_Atoi : List X → Option XOut := lay e_strconv_Atoi fun a => ((S_strconv_Atoi a)).bind fun r => r.on (fun r => some (.ret (.tup [.d (.int .i64 r), .d .nili]) [])) (fun r => some (.ret (.tup [.d (.int .i64 r), .d (.iface 94 .opq)]) []))
theorem C_strconv_Atoi_eq (a0 : List UInt8) : C_strconv_Atoi [.d (sD a0)] = ((S_strconv_Atoi a0)).bind fun r => r.on (fun r => some (.ret (.tup [.d (.int .i64 r), .d .nili]) [])) (fun r => some (.ret (.tup [.d (.int .i64 r), .d (.iface 94 .opq)]) [])) := lay_eq (enc := e_strconv_Atoi) (by
  intro a b h
  simp only [e_strconv_Atoi, List.cons.injEq, X.d.injEq, X.res.injEq, RK.bld.injEq, X.agg.injEq, X.box.injEq, D.int.injEq, D.bool.injEq, D.fn.injEq, sD_inj, lstT_inj, ownT_inj, and_true, true_and, and_assoc] at h
  exact h) a0
noncomputable def G11 : Ctx := G10.with 48 C_strconv_Atoi
theorem so11 : SoundAll Tryd.prog G11 := so10.with (sound_Atoi (enc := e_strconv_Atoi) (fun _ => rfl) (fun a out ho => by
  obtain ⟨r, h1, h2⟩ := Option.bind_eq_some_iff.mp ho
  obtain ⟨hp, rfl⟩ := under_some h1
  exact ⟨q_strconv_Atoi hp, h2⟩))
-- strconv.Itoa
noncomputable def S_strconv_Itoa (a0 : Int) : Option (List UInt8) := under (pre_strconv_Itoa a0) (s_strconv_Itoa a0)
def e_strconv_Itoa (a : Int) : List X := [.d (.int .i64 a)]
noncomputable def C_strconv_Itoa : List X → Option XOut := lay e_strconv_Itoa fun a => ((S_strconv_Itoa a)).bind fun r => some (.ret (.d (sD r)) [])
theorem C_strconv_Itoa_eq (a0 : Int) : C_strconv_Itoa [.d (.int .i64 a0)] = ((S_strconv_Itoa a0)).bind fun r => some (.ret (.d (sD r)) []) := lay_eq (enc := e_strconv_Itoa) (by
  intro a b h
  simp only [e_strconv_Itoa, List.cons.injEq, X.d.injEq, X.res.injEq, RK.bld.injEq, X.agg.injEq, X.box.injEq, D.int.injEq, D.bool.injEq, D.fn.injEq, sD_inj, lstT_inj, ownT_inj, and_true, true_and, and_assoc] at h
  exact h) a0
noncomputable def G12 : Ctx := G11.with 39 C_strconv_Itoa
theorem so12 : SoundAll Tryd.prog G12 := so11.with (sound_Itoa (enc := e_strconv_Itoa) (fun _ => rfl) (fun a out ho => by
  obtain ⟨r, h1, h2⟩ := Option.bind_eq_some_iff.mp ho
  obtain ⟨hp, rfl⟩ := under_some h1
  exact ⟨q_strconv_Itoa hp, (Option.some.inj h2).symm⟩))
-- loop.example/s02135/impl.numbers
noncomputable def S_impl_numbers (a0 : List UInt8) : Option (List Int × Bool) := under (pre_impl_numbers a0) (s_impl_numbers a0)
def e_impl_numbers (a : (List UInt8)) : List X := [.d (sD a)]
noncomputable def C_impl_numbers : List X → Option XOut := lay e_impl_numbers fun a => ((S_impl_numbers a)).bind fun r => some (.ret (.tup [ownT (cI) 3 none false r.1, .d (.bool r.2)]) [])
theorem C_impl_numbers_eq (a0 : List UInt8) : C_impl_numbers [.d (sD a0)] = ((S_impl_numbers a0)).bind fun r => some (.ret (.tup [ownT (cI) 3 none false r.1, .d (.bool r.2)]) []) := lay_eq (enc := e_impl_numbers) (by
  intro a b h
  simp only [e_impl_numbers, List.cons.injEq, X.d.injEq, X.res.injEq, RK.bld.injEq, X.agg.injEq, X.box.injEq, D.int.injEq, D.bool.injEq, D.fn.injEq, sD_inj, lstT_inj, ownT_inj, and_true, true_and, and_assoc] at h
  exact h) a0
noncomputable def G13 : Ctx := G12.with 25 C_impl_numbers
theorem so13 : SoundAll Tryd.prog G13 := by
  refine layer (cuts := []) (k := 1) (cd := c_impl_numbers) (rs := r_impl_numbers) (enc := e_impl_numbers) mixed so12 Tryd.func25 (by kernel_rfl) (by kernel_rfl) (by kernel_rfl) (by kernel_rfl) (by kernel_rfl) (by kernel_rfl) (wk := fun y => nocap (asOwn (.node [.own 3 1, .k]) y)) (Same.comp Same.nocap (Same.own (.node [.own 3 1, .k]))) ?_
  intro a out ho
  obtain ⟨r, h1, h2⟩ := Option.bind_eq_some_iff.mp ho
  obtain ⟨hp, rfl⟩ := under_some h1
  obtain ⟨N, hN⟩ := p_impl_numbers S_strings_Split (fun _ _ h => under_pos h) S_strconv_Atoi (fun _ h => under_pos h) S_strconv_Itoa (fun _ h => under_pos h) a hp
  refine ⟨N, ?_⟩
  refine ((callF_G (fun y => some (nocap (asOwn (.node [.own 3 1, .k]) y))) 1 c_impl_numbers r_impl_numbers (e_impl_numbers a) ⟨rfl, rfl, rfl⟩).trans (impl_numbers_g ⟨G12, [], [], [], N, r_impl_numbers, none, fun _ _ => none, fun y => some (nocap (asOwn (.node [.own 3 1, .k]) y))⟩ ⟨rfl, rfl, rfl, rfl, rfl, fun _ => rfl, fun _ => rfl⟩ S_strings_Split ⟨rfl, (fun a0 a1 => (show G12 35 _ = _ from rfl).trans (C_strings_Split_eq a0 a1))⟩ S_strconv_Atoi ⟨rfl, (fun a0 => (show G12 48 _ = _ from rfl).trans (C_strconv_Atoi_eq a0))⟩ S_strconv_Itoa ⟨rfl, (fun a0 => (show G12 39 _ = _ from rfl).trans (C_strconv_Itoa_eq a0))⟩ a)).trans ?_
  show (impl_numbers_f S_strings_Split S_strconv_Atoi S_strconv_Itoa N a).bind _ = _
  rw [hN]; exact h2
-- loop.example/s02135/impl.cellsOf
noncomputable def S_impl_cellsOf (a0 : List Int) : Option (Int × Bool) := under (pre_impl_cellsOf a0) (s_impl_cellsOf a0)
def e_impl_cellsOf (a : (List Int)) : List X := [.d (lstT cI a)]
noncomputable def C_impl_cellsOf : List X → Option XOut := lay e_impl_cellsOf fun a => ((S_impl_cellsOf a)).bind fun r => some (.ret (.tup [.d (.int .i64 r.1), .d (.bool r.2)]) [])
theorem C_impl_cellsOf_eq (a0 : List Int) : C_impl_cellsOf [.d (lstT cI a0)] = ((S_impl_cellsOf a0)).bind fun r => some (.ret (.tup [.d (.int .i64 r.1), .d (.bool r.2)]) []) := lay_eq (enc := e_impl_cellsOf) (by
  intro a b h
  simp only [e_impl_cellsOf, List.cons.injEq, X.d.injEq, X.res.injEq, RK.bld.injEq, X.agg.injEq, X.box.injEq, D.int.injEq, D.bool.injEq, D.fn.injEq, sD_inj, lstT_inj, ownT_inj, and_true, true_and, and_assoc] at h
  exact h) a0
noncomputable def G14 : Ctx := G13.with 49 C_impl_cellsOf
theorem so14 : SoundAll Tryd.prog G14 := by
  refine layer (cuts := []) (k := 1) (cd := c_impl_cellsOf) (rs := r_impl_cellsOf) (enc := e_impl_cellsOf) mixed so13 Tryd.func49 (by kernel_rfl) (by kernel_rfl) (by kernel_rfl) (by kernel_rfl) (by kernel_rfl) (by kernel_rfl) (wk := fun y => nocap y) Same.nocap ?_
  intro a out ho
  obtain ⟨r, h1, h2⟩ := Option.bind_eq_some_iff.mp ho
  obtain ⟨hp, rfl⟩ := under_some h1
  obtain ⟨N, hN⟩ := p_impl_cellsOf a hp
  refine ⟨N, ?_⟩
  refine ((callF_G (fun y => some (nocap y)) 1 c_impl_cellsOf r_impl_cellsOf (e_impl_cellsOf a) ⟨rfl, rfl, rfl⟩).trans (impl_cellsOf_g ⟨G13, [], [], [], N, r_impl_cellsOf, none, fun _ _ => none, fun y => some (nocap y)⟩ ⟨rfl, rfl, rfl, rfl, rfl, fun _ => rfl, fun _ => rfl⟩ a)).trans ?_
  show (impl_cellsOf_f N a).bind _ = _
  rw [hN]; exact h2
-- loop.example/s02135/impl.ArrayOk
noncomputable def S_impl_ArrayOk (a0_Shape : List Int) (a0_Data : List Int) : Option (Bool) := under (pre_impl_ArrayOk a0_Shape a0_Data) (s_impl_ArrayOk a0_Shape a0_Data)
def e_impl_ArrayOk (a : (List Int) × (List Int)) : List X := [.agg [.d (lstT cI a.1), .d (lstT cI a.2)]]
noncomputable def C_impl_ArrayOk : List X → Option XOut := lay e_impl_ArrayOk fun a => ((S_impl_ArrayOk a.1 a.2)).bind fun r => some (.ret (.d (.bool r)) [])
theorem C_impl_ArrayOk_eq (a0_Shape : List Int) (a0_Data : List Int) : C_impl_ArrayOk [.agg [.d (lstT cI a0_Shape), .d (lstT cI a0_Data)]] = ((S_impl_ArrayOk a0_Shape a0_Data)).bind fun r => some (.ret (.d (.bool r)) []) := lay_eq (enc := e_impl_ArrayOk) (by
  intro a b h
  simp only [e_impl_ArrayOk, List.cons.injEq, X.d.injEq, X.res.injEq, RK.bld.injEq, X.agg.injEq, X.box.injEq, D.int.injEq, D.bool.injEq, D.fn.injEq, sD_inj, lstT_inj, ownT_inj, and_true, true_and, and_assoc] at h
  simp only [Prod.ext_iff]; exact h) (a0_Shape, a0_Data)
noncomputable def G15 : Ctx := G14.with 26 C_impl_ArrayOk
theorem so15 : SoundAll Tryd.prog G15 := by
  refine layer (cuts := []) (k := 1) (cd := c_impl_ArrayOk) (rs := r_impl_ArrayOk) (enc := e_impl_ArrayOk) mixed so14 Tryd.func26 (by kernel_rfl) (by kernel_rfl) (by kernel_rfl) (by kernel_rfl) (by kernel_rfl) (by kernel_rfl) (wk := fun y => nocap y) Same.nocap ?_
  intro a out ho
  obtain ⟨r, h1, h2⟩ := Option.bind_eq_some_iff.mp ho
  obtain ⟨hp, rfl⟩ := under_some h1
  obtain ⟨N, hN⟩ := p_impl_ArrayOk S_impl_cellsOf (fun _ h => under_pos h) a.1 a.2 hp
  refine ⟨N, ?_⟩
  refine ((callF_G (fun y => some (nocap y)) 1 c_impl_ArrayOk r_impl_ArrayOk (e_impl_ArrayOk a) ⟨rfl, rfl, rfl⟩).trans (impl_ArrayOk_g ⟨G14, [], [], [], N, r_impl_ArrayOk, none, fun _ _ => none, fun y => some (nocap y)⟩ ⟨rfl, rfl, rfl, rfl, rfl, fun _ => rfl, fun _ => rfl⟩ S_impl_cellsOf ⟨rfl, (fun a0 => (show G14 49 _ = _ from rfl).trans (C_impl_cellsOf_eq a0))⟩ a.1 a.2)).trans ?_
  show (impl_ArrayOk_f S_impl_cellsOf N a.1 a.2).bind _ = _
  rw [hN]; exact h2
-- loop.example/s02135/impl.ParseArray
noncomputable def S_impl_ParseArray (a0 : List UInt8) : Option (List Int × List Int × Int) := under (pre_impl_ParseArray a0) (s_impl_ParseArray a0)
def e_impl_ParseArray (a : (List UInt8)) : List X := [.d (sD a)]
noncomputable def C_impl_ParseArray : List X → Option XOut := lay e_impl_ParseArray fun a => ((S_impl_ParseArray a)).bind fun r => some (.ret (.tup [.agg [ownT (cI) 3 none false r.1, ownT (cI) 3 none false r.2.1], .d (.int .i64 r.2.2)]) [])
theorem C_impl_ParseArray_eq (a0 : List UInt8) : C_impl_ParseArray [.d (sD a0)] = ((S_impl_ParseArray a0)).bind fun r => some (.ret (.tup [.agg [ownT (cI) 3 none false r.1, ownT (cI) 3 none false r.2.1], .d (.int .i64 r.2.2)]) []) := lay_eq (enc := e_impl_ParseArray) (by
  intro a b h
  simp only [e_impl_ParseArray, List.cons.injEq, X.d.injEq, X.res.injEq, RK.bld.injEq, X.agg.injEq, X.box.injEq, D.int.injEq, D.bool.injEq, D.fn.injEq, sD_inj, lstT_inj, ownT_inj, and_true, true_and, and_assoc] at h
  exact h) a0
noncomputable def G16 : Ctx := G15.with 7 C_impl_ParseArray
theorem so16 : SoundAll Tryd.prog G16 := by
  refine layer (cuts := []) (k := 1) (cd := c_impl_ParseArray) (rs := r_impl_ParseArray) (enc := e_impl_ParseArray) mixed so15 Tryd.func7 (by kernel_rfl) (by kernel_rfl) (by kernel_rfl) (by kernel_rfl) (by kernel_rfl) (by kernel_rfl) (wk := fun y => nocap (asOwn (.node [.node [.own 3 1, .own 3 1], .k]) y)) (Same.comp Same.nocap (Same.own (.node [.node [.own 3 1, .own 3 1], .k]))) ?_
  intro a out ho
  obtain ⟨r, h1, h2⟩ := Option.bind_eq_some_iff.mp ho
  obtain ⟨hp, rfl⟩ := under_some h1
  obtain ⟨N, hN⟩ := p_impl_ParseArray S_strings_Cut (fun _ _ h => under_pos h) S_impl_numbers (fun _ h => under_pos h) S_impl_ArrayOk (fun _ _ h => under_pos h) a hp
  refine ⟨N, ?_⟩
  refine ((callF_G (fun y => some (nocap (asOwn (.node [.node [.own 3 1, .own 3 1], .k]) y))) 1 c_impl_ParseArray r_impl_ParseArray (e_impl_ParseArray a) ⟨rfl, rfl, rfl⟩).trans (impl_ParseArray_g ⟨G15, [], [], [], N, r_impl_ParseArray, none, fun _ _ => none, fun y => some (nocap (asOwn (.node [.node [.own 3 1, .own 3 1], .k]) y))⟩ ⟨rfl, rfl, rfl, rfl, rfl, fun _ => rfl, fun _ => rfl⟩ S_strings_Cut ⟨rfl, (fun a0 a1 => (show G15 24 _ = _ from rfl).trans (C_strings_Cut_eq a0 a1))⟩ S_impl_numbers ⟨rfl, (fun a0 => (show G15 25 _ = _ from rfl).trans (C_impl_numbers_eq a0))⟩ S_impl_ArrayOk ⟨rfl, (fun a0_Shape a0_Data => (show G15 26 _ = _ from rfl).trans (C_impl_ArrayOk_eq a0_Shape a0_Data))⟩ a)).trans ?_
  show (impl_ParseArray_f S_strings_Cut S_impl_numbers S_impl_ArrayOk N a).bind _ = _
  rw [hN]; exact h2
-- loop.example/s02135/laws.eqIntS
noncomputable def S_laws_eqIntS (a0 : List Int) (a1 : List Int) : Option (Bool) := under (pre_laws_eqIntS a0 a1) (s_laws_eqIntS a0 a1)
def e_laws_eqIntS (a : (List Int) × (List Int)) : List X := [.d (lstT cI a.1), .d (lstT cI a.2)]
noncomputable def C_laws_eqIntS : List X → Option XOut := lay e_laws_eqIntS fun a => ((S_laws_eqIntS a.1 a.2)).bind fun r => some (.ret (.d (.bool r)) [])
theorem C_laws_eqIntS_eq (a0 : List Int) (a1 : List Int) : C_laws_eqIntS [.d (lstT cI a0), .d (lstT cI a1)] = ((S_laws_eqIntS a0 a1)).bind fun r => some (.ret (.d (.bool r)) []) := lay_eq (enc := e_laws_eqIntS) (by
  intro a b h
  simp only [e_laws_eqIntS, List.cons.injEq, X.d.injEq, X.res.injEq, RK.bld.injEq, X.agg.injEq, X.box.injEq, D.int.injEq, D.bool.injEq, D.fn.injEq, sD_inj, lstT_inj, ownT_inj, and_true, true_and, and_assoc] at h
  simp only [Prod.ext_iff]; exact h) (a0, a1)
noncomputable def G17 : Ctx := G16.with 27 C_laws_eqIntS
theorem so17 : SoundAll Tryd.prog G17 := by
  refine layer (cuts := []) (k := 2) (cd := c_laws_eqIntS) (rs := r_laws_eqIntS) (enc := e_laws_eqIntS) mixed so16 Tryd.func27 (by kernel_rfl) (by kernel_rfl) (by kernel_rfl) (by kernel_rfl) (by kernel_rfl) (by kernel_rfl) (wk := fun y => nocap y) Same.nocap ?_
  intro a out ho
  obtain ⟨r, h1, h2⟩ := Option.bind_eq_some_iff.mp ho
  obtain ⟨hp, rfl⟩ := under_some h1
  obtain ⟨N, hN⟩ := p_laws_eqIntS a.1 a.2 hp
  refine ⟨N, ?_⟩
  refine ((callF_G (fun y => some (nocap y)) 2 c_laws_eqIntS r_laws_eqIntS (e_laws_eqIntS a) ⟨rfl, rfl, rfl⟩).trans (laws_eqIntS_g ⟨G16, [], [], [], N, r_laws_eqIntS, none, fun _ _ => none, fun y => some (nocap y)⟩ ⟨rfl, rfl, rfl, rfl, rfl, fun _ => rfl, fun _ => rfl⟩ a.1 a.2)).trans ?_
  show (laws_eqIntS_f N a.1 a.2).bind _ = _
  rw [hN]; exact h2
-- loop.example/s02135/laws.eqArray
noncomputable def S_laws_eqArray (a0_Shape : List Int) (a0_Data : List Int) (a1_Shape : List Int) (a1_Data : List Int) : Option (Bool) := under (pre_laws_eqArray a0_Shape a0_Data a1_Shape a1_Data) (s_laws_eqArray a0_Shape a0_Data a1_Shape a1_Data)
def e_laws_eqArray (a : (List Int) × (List Int) × (List Int) × (List Int)) : List X := [.agg [.d (lstT cI a.1), .d (lstT cI a.2.1)], .agg [.d (lstT cI a.2.2.1), .d (lstT cI a.2.2.2)]]
noncomputable def C_laws_eqArray : List X → Option XOut := lay e_laws_eqArray fun a => ((S_laws_eqArray a.1 a.2.1 a.2.2.1 a.2.2.2)).bind fun r => some (.ret (.d (.bool r)) [])
theorem C_laws_eqArray_eq (a0_Shape : List Int) (a0_Data : List Int) (a1_Shape : List Int) (a1_Data : List Int) : C_laws_eqArray [.agg [.d (lstT cI a0_Shape), .d (lstT cI a0_Data)], .agg [.d (lstT cI a1_Shape), .d (lstT cI a1_Data)]] = ((S_laws_eqArray a0_Shape a0_Data a1_Shape a1_Data)).bind fun r => some (.ret (.d (.bool r)) []) := lay_eq (enc := e_laws_eqArray) (by
  intro a b h
  simp only [e_laws_eqArray, List.cons.injEq, X.d.injEq, X.res.injEq, RK.bld.injEq, X.agg.injEq, X.box.injEq, D.int.injEq, D.bool.injEq, D.fn.injEq, sD_inj, lstT_inj, ownT_inj, and_true, true_and, and_assoc] at h
  simp only [Prod.ext_iff]; exact h) (a0_Shape, a0_Data, a1_Shape, a1_Data)
noncomputable def G18 : Ctx := G17.with 8 C_laws_eqArray
theorem so18 : SoundAll Tryd.prog G18 := by
  refine layer (cuts := []) (k := 2) (cd := c_laws_eqArray) (rs := r_laws_eqArray) (enc := e_laws_eqArray) mixed so17 Tryd.func8 (by kernel_rfl) (by kernel_rfl) (by kernel_rfl) (by kernel_rfl) (by kernel_rfl) (by kernel_rfl) (wk := fun y => nocap y) Same.nocap ?_
  intro a out ho
  obtain ⟨r, h1, h2⟩ := Option.bind_eq_some_iff.mp ho
  obtain ⟨hp, rfl⟩ := under_some h1
  obtain ⟨N, hN⟩ := p_laws_eqArray S_laws_eqIntS (fun _ _ h => under_pos h) a.1 a.2.1 a.2.2.1 a.2.2.2 hp
  refine ⟨N, ?_⟩
  refine ((callF_G (fun y => some (nocap y)) 2 c_laws_eqArray r_laws_eqArray (e_laws_eqArray a) ⟨rfl, rfl, rfl⟩).trans (laws_eqArray_g ⟨G17, [], [], [], N, r_laws_eqArray, none, fun _ _ => none, fun y => some (nocap y)⟩ ⟨rfl, rfl, rfl, rfl, rfl, fun _ => rfl, fun _ => rfl⟩ S_laws_eqIntS ⟨rfl, (fun a0 a1 => (show G17 27 _ = _ from rfl).trans (C_laws_eqIntS_eq a0 a1))⟩ a.1 a.2.1 a.2.2.1 a.2.2.2)).trans ?_
  show (laws_eqArray_f S_laws_eqIntS N a.1 a.2.1 a.2.2.1 a.2.2.2).bind _ = _
  rw [hN]; exact h2
-- loop.example/s02135/laws.markIntS
noncomputable def S_laws_markIntS (a0 : List Int) (a1 : Int) : Option (Int × List Int) := under (pre_laws_markIntS a0 a1) (s_laws_markIntS a0 a1)
def e_laws_markIntS (a : (List Int) × Int) : List X := [ownT cI 3 none false a.1, .d (.int .i64 a.2)]
noncomputable def C_laws_markIntS : List X → Option XOut := lay e_laws_markIntS fun a => ((S_laws_markIntS a.1 a.2)).bind fun r => some (.ret (.d (.int .i64 r.1)) [[lstT (cI) r.2]])
theorem C_laws_markIntS_eq (a0 : List Int) (a1 : Int) : C_laws_markIntS [ownT cI 3 none false a0, .d (.int .i64 a1)] = ((S_laws_markIntS a0 a1)).bind fun r => some (.ret (.d (.int .i64 r.1)) [[lstT (cI) r.2]]) := lay_eq (enc := e_laws_markIntS) (by
  intro a b h
  simp only [e_laws_markIntS, List.cons.injEq, X.d.injEq, X.res.injEq, RK.bld.injEq, X.agg.injEq, X.box.injEq, D.int.injEq, D.bool.injEq, D.fn.injEq, sD_inj, lstT_inj, ownT_inj, and_true, true_and, and_assoc] at h
  simp only [Prod.ext_iff]; exact h) (a0, a1)
noncomputable def G19 : Ctx := G18.with 28 C_laws_markIntS true
theorem so19 : SoundAll Tryd.prog G19 := by
  refine layer (cuts := []) (k := 2) (cd := c_laws_markIntS) (rs := r_laws_markIntS) (enc := e_laws_markIntS) mixed so18 Tryd.func28 (by kernel_rfl) (by kernel_rfl) (by kernel_rfl) (by kernel_rfl) (by kernel_rfl) (by kernel_rfl) (wk := fun y => nocap y) Same.nocap ?_
  intro a out ho
  obtain ⟨r, h1, h2⟩ := Option.bind_eq_some_iff.mp ho
  obtain ⟨hp, rfl⟩ := under_some h1
  obtain ⟨N, hN⟩ := p_laws_markIntS a.1 a.2 hp
  refine ⟨N, ?_⟩
  refine ((callF_G (fun y => some (nocap y)) 2 c_laws_markIntS r_laws_markIntS (e_laws_markIntS a) ⟨rfl, rfl, rfl⟩).trans (laws_markIntS_g ⟨G18, [0], [0], [(0, .row 3 1)], N, r_laws_markIntS, none, fun _ _ => none, fun y => some (nocap y)⟩ ⟨rfl, rfl, rfl, rfl, rfl, fun _ => rfl, fun _ => rfl⟩ a.1 a.2)).trans ?_
  show (laws_markIntS_f N a.1 a.2).bind _ = _
  rw [hN]; exact h2
-- loop.example/s02135/laws.markArray
noncomputable def S_laws_markArray (a0_Shape : List Int) (a0_Data : List Int) (a1 : Int) : Option (Int × List Int × List Int) := under (pre_laws_markArray a0_Shape a0_Data a1) (s_laws_markArray a0_Shape a0_Data a1)
def e_laws_markArray (a : (List Int) × (List Int) × Int) : List X := [.agg [ownT cI 3 none false a.1, ownT cI 3 none false a.2.1], .d (.int .i64 a.2.2)]
noncomputable def C_laws_markArray : List X → Option XOut := lay e_laws_markArray fun a => ((S_laws_markArray a.1 a.2.1 a.2.2)).bind fun r => some (.ret (.d (.int .i64 r.1)) [[lstT (cI) r.2.1], [lstT (cI) r.2.2]])
theorem C_laws_markArray_eq (a0_Shape : List Int) (a0_Data : List Int) (a1 : Int) : C_laws_markArray [.agg [ownT cI 3 none false a0_Shape, ownT cI 3 none false a0_Data], .d (.int .i64 a1)] = ((S_laws_markArray a0_Shape a0_Data a1)).bind fun r => some (.ret (.d (.int .i64 r.1)) [[lstT (cI) r.2.1], [lstT (cI) r.2.2]]) := lay_eq (enc := e_laws_markArray) (by
  intro a b h
  simp only [e_laws_markArray, List.cons.injEq, X.d.injEq, X.res.injEq, RK.bld.injEq, X.agg.injEq, X.box.injEq, D.int.injEq, D.bool.injEq, D.fn.injEq, sD_inj, lstT_inj, ownT_inj, and_true, true_and, and_assoc] at h
  simp only [Prod.ext_iff]; exact h) (a0_Shape, a0_Data, a1)
noncomputable def G20 : Ctx := G19.with 9 C_laws_markArray true
theorem so20 : SoundAll Tryd.prog G20 := by
  refine layer (cuts := []) (k := 2) (cd := c_laws_markArray) (rs := r_laws_markArray) (enc := e_laws_markArray) mixed so19 Tryd.func9 (by kernel_rfl) (by kernel_rfl) (by kernel_rfl) (by kernel_rfl) (by kernel_rfl) (by kernel_rfl) (wk := fun y => nocap y) Same.nocap ?_
  intro a out ho
  obtain ⟨r, h1, h2⟩ := Option.bind_eq_some_iff.mp ho
  obtain ⟨hp, rfl⟩ := under_some h1
  obtain ⟨N, hN⟩ := p_laws_markArray S_laws_markIntS (fun _ _ h => under_pos h) a.1 a.2.1 a.2.2 hp
  refine ⟨N, ?_⟩
  refine ((callF_G (fun y => some (nocap y)) 2 c_laws_markArray r_laws_markArray (e_laws_markArray a) ⟨rfl, rfl, rfl⟩).trans (laws_markArray_g ⟨G19, [0, 1], [0, 1], [(0, .row 3 1), (1, .row 3 1)], N, r_laws_markArray, none, fun _ _ => none, fun y => some (nocap y)⟩ ⟨rfl, rfl, rfl, rfl, rfl, fun _ => rfl, fun _ => rfl⟩ S_laws_markIntS ⟨rfl, (fun a0 a1 => (show G19 28 _ = _ from rfl).trans (C_laws_markIntS_eq a0 a1))⟩ a.1 a.2.1 a.2.2)).trans ?_
  show (laws_markArray_f S_laws_markIntS N a.1 a.2.1 a.2.2).bind _ = _
  rw [hN]; exact h2
-- loop.example/s02135/laws.heldIntS
noncomputable def S_laws_heldIntS (a0 : List Int) (a1 : Int) : Option (Int) := under (pre_laws_heldIntS a0 a1) (s_laws_heldIntS a0 a1)
def e_laws_heldIntS (a : (List Int) × Int) : List X := [.d (lstT cI a.1), .d (.int .i64 a.2)]
noncomputable def C_laws_heldIntS : List X → Option XOut := lay e_laws_heldIntS fun a => ((S_laws_heldIntS a.1 a.2)).bind fun r => some (.ret (.d (.int .i64 r)) [])
theorem C_laws_heldIntS_eq (a0 : List Int) (a1 : Int) : C_laws_heldIntS [.d (lstT cI a0), .d (.int .i64 a1)] = ((S_laws_heldIntS a0 a1)).bind fun r => some (.ret (.d (.int .i64 r)) []) := lay_eq (enc := e_laws_heldIntS) (by
  intro a b h
  simp only [e_laws_heldIntS, List.cons.injEq, X.d.injEq, X.res.injEq, RK.bld.injEq, X.agg.injEq, X.box.injEq, D.int.injEq, D.bool.injEq, D.fn.injEq, sD_inj, lstT_inj, ownT_inj, and_true, true_and, and_assoc] at h
  simp only [Prod.ext_iff]; exact h) (a0, a1)
noncomputable def G21 : Ctx := G20.with 29 C_laws_heldIntS
theorem so21 : SoundAll Tryd.prog G21 := by
  refine layer (cuts := []) (k := 2) (cd := c_laws_heldIntS) (rs := r_laws_heldIntS) (enc := e_laws_heldIntS) mixed so20 Tryd.func29 (by kernel_rfl) (by kernel_rfl) (by kernel_rfl) (by kernel_rfl) (by kernel_rfl) (by kernel_rfl) (wk := fun y => nocap y) Same.nocap ?_
  intro a out ho
  obtain ⟨r, h1, h2⟩ := Option.bind_eq_some_iff.mp ho
  obtain ⟨hp, rfl⟩ := under_some h1
  obtain ⟨N, hN⟩ := p_laws_heldIntS a.1 a.2 hp
  refine ⟨N, ?_⟩
  refine ((callF_G (fun y => some (nocap y)) 2 c_laws_heldIntS r_laws_heldIntS (e_laws_heldIntS a) ⟨rfl, rfl, rfl⟩).trans (laws_heldIntS_g ⟨G20, [], [], [], N, r_laws_heldIntS, none, fun _ _ => none, fun y => some (nocap y)⟩ ⟨rfl, rfl, rfl, rfl, rfl, fun _ => rfl, fun _ => rfl⟩ a.1 a.2)).trans ?_
  show (laws_heldIntS_f N a.1 a.2).bind _ = _
  rw [hN]; exact h2
-- loop.example/s02135/laws.heldArray
noncomputable def S_laws_heldArray (a0_Shape : List Int) (a0_Data : List Int) (a1 : Int) : Option (Int) := under (pre_laws_heldArray a0_Shape a0_Data a1) (s_laws_heldArray a0_Shape a0_Data a1)
def e_laws_heldArray (a : (List Int) × (List Int) × Int) : List X := [.agg [.d (lstT cI a.1), .d (lstT cI a.2.1)], .d (.int .i64 a.2.2)]
noncomputable def C_laws_heldArray : List X → Option XOut := lay e_laws_heldArray fun a => ((S_laws_heldArray a.1 a.2.1 a.2.2)).bind fun r => some (.ret (.d (.int .i64 r)) [])
theorem C_laws_heldArray_eq (a0_Shape : List Int) (a0_Data : List Int) (a1 : Int) : C_laws_heldArray [.agg [.d (lstT cI a0_Shape), .d (lstT cI a0_Data)], .d (.int .i64 a1)] = ((S_laws_heldArray a0_Shape a0_Data a1)).bind fun r => some (.ret (.d (.int .i64 r)) []) := lay_eq (enc := e_laws_heldArray) (by
  intro a b h
  simp only [e_laws_heldArray, List.cons.injEq, X.d.injEq, X.res.injEq, RK.bld.injEq, X.agg.injEq, X.box.injEq, D.int.injEq, D.bool.injEq, D.fn.injEq, sD_inj, lstT_inj, ownT_inj, and_true, true_and, and_assoc] at h
  simp only [Prod.ext_iff]; exact h) (a0_Shape, a0_Data, a1)
noncomputable def G22 : Ctx := G21.with 10 C_laws_heldArray
theorem so22 : SoundAll Tryd.prog G22 := by
  refine layer (cuts := []) (k := 2) (cd := c_laws_heldArray) (rs := r_laws_heldArray) (enc := e_laws_heldArray) mixed so21 Tryd.func10 (by kernel_rfl) (by kernel_rfl) (by kernel_rfl) (by kernel_rfl) (by kernel_rfl) (by kernel_rfl) (wk := fun y => nocap y) Same.nocap ?_
  intro a out ho
  obtain ⟨r, h1, h2⟩ := Option.bind_eq_some_iff.mp ho
  obtain ⟨hp, rfl⟩ := under_some h1
  obtain ⟨N, hN⟩ := p_laws_heldArray S_laws_heldIntS (fun _ _ h => under_pos h) a.1 a.2.1 a.2.2 hp
  refine ⟨N, ?_⟩
  refine ((callF_G (fun y => some (nocap y)) 2 c_laws_heldArray r_laws_heldArray (e_laws_heldArray a) ⟨rfl, rfl, rfl⟩).trans (laws_heldArray_g ⟨G21, [], [], [], N, r_laws_heldArray, none, fun _ _ => none, fun y => some (nocap y)⟩ ⟨rfl, rfl, rfl, rfl, rfl, fun _ => rfl, fun _ => rfl⟩ S_laws_heldIntS ⟨rfl, (fun a0 a1 => (show G21 29 _ = _ from rfl).trans (C_laws_heldIntS_eq a0 a1))⟩ a.1 a.2.1 a.2.2)).trans ?_
  show (laws_heldArray_f S_laws_heldIntS N a.1 a.2.1 a.2.2).bind _ = _
  rw [hN]; exact h2
-- loop.example/s02135/laws.FnExactParseArray
noncomputable def S_laws_FnExactParseArray (a0 : List UInt8) : Option (Bool) := under (pre_laws_FnExactParseArray a0) (s_laws_FnExactParseArray a0)
def e_laws_FnExactParseArray (a : (List UInt8)) : List X := [.d (sD a)]
noncomputable def C_laws_FnExactParseArray : List X → Option XOut := lay e_laws_FnExactParseArray fun a => ((S_laws_FnExactParseArray a)).bind fun r => some (.ret (.d (.bool r)) [])
theorem C_laws_FnExactParseArray_eq (a0 : List UInt8) : C_laws_FnExactParseArray [.d (sD a0)] = ((S_laws_FnExactParseArray a0)).bind fun r => some (.ret (.d (.bool r)) []) := lay_eq (enc := e_laws_FnExactParseArray) (by
  intro a b h
  simp only [e_laws_FnExactParseArray, List.cons.injEq, X.d.injEq, X.res.injEq, RK.bld.injEq, X.agg.injEq, X.box.injEq, D.int.injEq, D.bool.injEq, D.fn.injEq, sD_inj, lstT_inj, ownT_inj, and_true, true_and, and_assoc] at h
  exact h) a0
noncomputable def G23 : Ctx := G22.with 3 C_laws_FnExactParseArray
theorem so23 : SoundAll Tryd.prog G23 := by
  refine layer (cuts := []) (k := 1) (cd := c_laws_FnExactParseArray) (rs := r_laws_FnExactParseArray) (enc := e_laws_FnExactParseArray) mixed so22 Tryd.func3 (by kernel_rfl) (by kernel_rfl) (by kernel_rfl) (by kernel_rfl) (by kernel_rfl) (by kernel_rfl) (wk := fun y => nocap y) Same.nocap ?_
  intro a out ho
  obtain ⟨r, h1, h2⟩ := Option.bind_eq_some_iff.mp ho
  obtain ⟨hp, rfl⟩ := under_some h1
  obtain ⟨N, hN⟩ := p_laws_FnExactParseArray S_spec_ParseArray (fun _ h => under_pos h) S_impl_ParseArray (fun _ h => under_pos h) S_laws_eqArray (fun _ _ _ _ h => under_pos h) S_laws_markArray (fun _ _ _ h => under_pos h) S_laws_heldArray (fun _ _ _ h => under_pos h) a hp
  refine ⟨N, ?_⟩
  refine ((callF_G (fun y => some (nocap y)) 1 c_laws_FnExactParseArray r_laws_FnExactParseArray (e_laws_FnExactParseArray a) ⟨rfl, rfl, rfl⟩).trans (laws_FnExactParseArray_g ⟨G22, [], [], [], N, r_laws_FnExactParseArray, none, fun _ _ => none, fun y => some (nocap y)⟩ ⟨rfl, rfl, rfl, rfl, rfl, fun _ => rfl, fun _ => rfl⟩ S_spec_ParseArray ⟨rfl, (fun a0 => (show G22 6 _ = _ from rfl).trans (C_spec_ParseArray_eq a0))⟩ S_impl_ParseArray ⟨rfl, (fun a0 => (show G22 7 _ = _ from rfl).trans (C_impl_ParseArray_eq a0))⟩ S_laws_eqArray ⟨rfl, (fun a0_Shape a0_Data a1_Shape a1_Data => (show G22 8 _ = _ from rfl).trans (C_laws_eqArray_eq a0_Shape a0_Data a1_Shape a1_Data))⟩ S_laws_markArray ⟨rfl, (fun a0_Shape a0_Data a1 => (show G22 9 _ = _ from rfl).trans (C_laws_markArray_eq a0_Shape a0_Data a1))⟩ S_laws_heldArray ⟨rfl, (fun a0_Shape a0_Data a1 => (show G22 10 _ = _ from rfl).trans (C_laws_heldArray_eq a0_Shape a0_Data a1))⟩ a)).trans ?_
  show (laws_FnExactParseArray_f S_spec_ParseArray S_impl_ParseArray S_laws_eqArray S_laws_markArray S_laws_heldArray N a).bind _ = _
  rw [hN]; exact h2
theorem law : Sound Tryd.prog 3 C_laws_FnExactParseArray := by
  have h := so23 3
  exact h
end Go.Proofs.YtkfmlfihobkcmaaDoor.TowPar
