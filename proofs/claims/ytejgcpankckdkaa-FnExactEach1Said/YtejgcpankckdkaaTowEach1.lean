/- The contracts of the functions under laws_FnExactEach1, one upon the other. Printed by a program of this session. -/
import Derived.Test.YtejgcpankckdkaaFEach1
import Derived.Test.YtejgcpankckdkaaPEach1
import Derived.Test.YtejgcpankckdkaaVmLayer
import Derived.Test.YtejgcpankckdkaaProg
set_option linter.all false
set_option maxRecDepth 100000
namespace Go.Proofs.Ytejgcpankckdkaa.TowEach1
open Go.Vm
theorem mixed : Try.prog.follows .mixedOrders = true := by kernel_rfl
noncomputable def G0 : Ctx := Γ0 flatIds
theorem so0 : SoundAll Try.prog G0 := Γ0_sound _ _
-- loop.example/s02135/laws.szIntS
noncomputable def S_laws_szIntS (a0 : List Int) (a1 : Int) : Option (Int) := under (pre_laws_szIntS a0 a1) (s_laws_szIntS a0 a1)
def e_laws_szIntS (a : (List Int) × Int) : List X := [.d (lstT cI a.1), .d (.int .i64 a.2)]
noncomputable def C_laws_szIntS : List X → Option XOut := lay e_laws_szIntS fun a => ((S_laws_szIntS a.1 a.2)).bind fun r => some (.ret (.d (.int .i64 r)) [])
theorem C_laws_szIntS_eq (a0 : List Int) (a1 : Int) : C_laws_szIntS [.d (lstT cI a0), .d (.int .i64 a1)] = ((S_laws_szIntS a0 a1)).bind fun r => some (.ret (.d (.int .i64 r)) []) := lay_eq (enc := e_laws_szIntS) (by
  intro a b h
  simp only [e_laws_szIntS, List.cons.injEq, X.d.injEq, X.agg.injEq, X.box.injEq, D.int.injEq, D.bool.injEq, D.fn.injEq, sD_inj, lstT_inj, ownT_inj, and_true, true_and, and_assoc] at h
  simp only [Prod.ext_iff]; exact h) (a0, a1)
noncomputable def G1 : Ctx := G0.with 46 C_laws_szIntS
theorem so1 : SoundAll Try.prog G1 := by
  refine layer (cuts := []) (k := 2) (cd := c_laws_szIntS) (rs := r_laws_szIntS) (enc := e_laws_szIntS) mixed so0 Try.func46 (by kernel_rfl) (by kernel_rfl) (by kernel_rfl) (by kernel_rfl) (by kernel_rfl) (by kernel_rfl) (wk := fun y => nocap y) Same.nocap ?_
  intro a out ho
  obtain ⟨r, h1, h2⟩ := Option.bind_eq_some_iff.mp ho
  obtain ⟨hp, rfl⟩ := under_some h1
  obtain ⟨N, hN⟩ := p_laws_szIntS a.1 a.2 hp
  refine ⟨N, ?_⟩
  refine ((callF_G (fun y => some (nocap y)) 2 c_laws_szIntS r_laws_szIntS (e_laws_szIntS a) ⟨rfl, rfl, rfl⟩).trans (laws_szIntS_g ⟨G0, [], [], [], N, r_laws_szIntS, none, fun _ _ => none, fun y => some (nocap y)⟩ rfl rfl rfl rfl rfl (fun _ => rfl) (fun _ => rfl) a.1 a.2)).trans ?_
  show (laws_szIntS_f N a.1 a.2).bind _ = _
  rw [hN]; exact h2
-- loop.example/s02135/laws.szArray
noncomputable def S_laws_szArray (a0_Shape : List Int) (a0_Data : List Int) (a1 : Int) : Option (Int) := under (pre_laws_szArray a0_Shape a0_Data a1) (s_laws_szArray a0_Shape a0_Data a1)
def e_laws_szArray (a : (List Int) × (List Int) × Int) : List X := [.agg [.d (lstT cI a.1), .d (lstT cI a.2.1)], .d (.int .i64 a.2.2)]
noncomputable def C_laws_szArray : List X → Option XOut := lay e_laws_szArray fun a => ((S_laws_szArray a.1 a.2.1 a.2.2)).bind fun r => some (.ret (.d (.int .i64 r)) [])
theorem C_laws_szArray_eq (a0_Shape : List Int) (a0_Data : List Int) (a1 : Int) : C_laws_szArray [.agg [.d (lstT cI a0_Shape), .d (lstT cI a0_Data)], .d (.int .i64 a1)] = ((S_laws_szArray a0_Shape a0_Data a1)).bind fun r => some (.ret (.d (.int .i64 r)) []) := lay_eq (enc := e_laws_szArray) (by
  intro a b h
  simp only [e_laws_szArray, List.cons.injEq, X.d.injEq, X.agg.injEq, X.box.injEq, D.int.injEq, D.bool.injEq, D.fn.injEq, sD_inj, lstT_inj, ownT_inj, and_true, true_and, and_assoc] at h
  simp only [Prod.ext_iff]; exact h) (a0_Shape, a0_Data, a1)
noncomputable def G2 : Ctx := G1.with 14 C_laws_szArray
theorem so2 : SoundAll Try.prog G2 := by
  refine layer (cuts := []) (k := 2) (cd := c_laws_szArray) (rs := r_laws_szArray) (enc := e_laws_szArray) mixed so1 Try.func14 (by kernel_rfl) (by kernel_rfl) (by kernel_rfl) (by kernel_rfl) (by kernel_rfl) (by kernel_rfl) (wk := fun y => nocap y) Same.nocap ?_
  intro a out ho
  obtain ⟨r, h1, h2⟩ := Option.bind_eq_some_iff.mp ho
  obtain ⟨hp, rfl⟩ := under_some h1
  obtain ⟨N, hN⟩ := p_laws_szArray S_laws_szIntS (fun _ _ h => under_pos h) a.1 a.2.1 a.2.2 hp
  refine ⟨N, ?_⟩
  refine ((callF_G (fun y => some (nocap y)) 2 c_laws_szArray r_laws_szArray (e_laws_szArray a) ⟨rfl, rfl, rfl⟩).trans (laws_szArray_g ⟨G1, [], [], [], N, r_laws_szArray, none, fun _ _ => none, fun y => some (nocap y)⟩ rfl rfl rfl rfl rfl (fun _ => rfl) (fun _ => rfl) rfl S_laws_szIntS (fun a0 a1 => (show G1 46 _ = _ from rfl).trans (C_laws_szIntS_eq a0 a1)) a.1 a.2.1 a.2.2)).trans ?_
  show (laws_szArray_f S_laws_szIntS N a.1 a.2.1 a.2.2).bind _ = _
  rw [hN]; exact h2
-- loop.example/s02135/laws.toIntS
noncomputable def S_laws_toIntS (a0 : List Int) : Option (List Int) := under (pre_laws_toIntS a0) (s_laws_toIntS a0)
def e_laws_toIntS (a : (List Int)) : List X := [.d (lstT cI a)]
noncomputable def C_laws_toIntS : List X → Option XOut := lay e_laws_toIntS fun a => ((S_laws_toIntS a)).bind fun r => some (.ret (ownT (cI) 3 none false r) [])
theorem C_laws_toIntS_eq (a0 : List Int) : C_laws_toIntS [.d (lstT cI a0)] = ((S_laws_toIntS a0)).bind fun r => some (.ret (ownT (cI) 3 none false r) []) := lay_eq (enc := e_laws_toIntS) (by
  intro a b h
  simp only [e_laws_toIntS, List.cons.injEq, X.d.injEq, X.agg.injEq, X.box.injEq, D.int.injEq, D.bool.injEq, D.fn.injEq, sD_inj, lstT_inj, ownT_inj, and_true, true_and, and_assoc] at h
  exact h) a0
noncomputable def G3 : Ctx := G2.with 49 C_laws_toIntS
theorem so3 : SoundAll Try.prog G3 := by
  refine layer (cuts := []) (k := 1) (cd := c_laws_toIntS) (rs := r_laws_toIntS) (enc := e_laws_toIntS) mixed so2 Try.func49 (by kernel_rfl) (by kernel_rfl) (by kernel_rfl) (by kernel_rfl) (by kernel_rfl) (by kernel_rfl) (wk := fun y => nocap y) Same.nocap ?_
  intro a out ho
  obtain ⟨r, h1, h2⟩ := Option.bind_eq_some_iff.mp ho
  obtain ⟨hp, rfl⟩ := under_some h1
  obtain ⟨N, hN⟩ := p_laws_toIntS a hp
  refine ⟨N, ?_⟩
  refine ((callF_G (fun y => some (nocap y)) 1 c_laws_toIntS r_laws_toIntS (e_laws_toIntS a) ⟨rfl, rfl, rfl⟩).trans (laws_toIntS_g ⟨G2, [], [], [], N, r_laws_toIntS, none, fun _ _ => none, fun y => some (nocap y)⟩ rfl rfl rfl rfl rfl (fun _ => rfl) (fun _ => rfl) a)).trans ?_
  show (laws_toIntS_f N a).bind _ = _
  rw [hN]; exact h2
-- loop.example/s02135/laws.toArray
noncomputable def S_laws_toArray (a0_Shape : List Int) (a0_Data : List Int) : Option (List Int × List Int) := under (pre_laws_toArray a0_Shape a0_Data) (s_laws_toArray a0_Shape a0_Data)
def e_laws_toArray (a : (List Int) × (List Int)) : List X := [.agg [.d (lstT cI a.1), .d (lstT cI a.2)]]
noncomputable def C_laws_toArray : List X → Option XOut := lay e_laws_toArray fun a => ((S_laws_toArray a.1 a.2)).bind fun r => some (.ret (.agg [ownT (cI) 3 none false r.1, ownT (cI) 3 none false r.2]) [])
theorem C_laws_toArray_eq (a0_Shape : List Int) (a0_Data : List Int) : C_laws_toArray [.agg [.d (lstT cI a0_Shape), .d (lstT cI a0_Data)]] = ((S_laws_toArray a0_Shape a0_Data)).bind fun r => some (.ret (.agg [ownT (cI) 3 none false r.1, ownT (cI) 3 none false r.2]) []) := lay_eq (enc := e_laws_toArray) (by
  intro a b h
  simp only [e_laws_toArray, List.cons.injEq, X.d.injEq, X.agg.injEq, X.box.injEq, D.int.injEq, D.bool.injEq, D.fn.injEq, sD_inj, lstT_inj, ownT_inj, and_true, true_and, and_assoc] at h
  simp only [Prod.ext_iff]; exact h) (a0_Shape, a0_Data)
noncomputable def G4 : Ctx := G3.with 16 C_laws_toArray
theorem so4 : SoundAll Try.prog G4 := by
  refine layer (cuts := []) (k := 1) (cd := c_laws_toArray) (rs := r_laws_toArray) (enc := e_laws_toArray) mixed so3 Try.func16 (by kernel_rfl) (by kernel_rfl) (by kernel_rfl) (by kernel_rfl) (by kernel_rfl) (by kernel_rfl) (wk := fun y => nocap y) Same.nocap ?_
  intro a out ho
  obtain ⟨r, h1, h2⟩ := Option.bind_eq_some_iff.mp ho
  obtain ⟨hp, rfl⟩ := under_some h1
  obtain ⟨N, hN⟩ := p_laws_toArray S_laws_toIntS (fun _ h => under_pos h) a.1 a.2 hp
  refine ⟨N, ?_⟩
  refine ((callF_G (fun y => some (nocap y)) 1 c_laws_toArray r_laws_toArray (e_laws_toArray a) ⟨rfl, rfl, rfl⟩).trans (laws_toArray_g ⟨G3, [], [], [], N, r_laws_toArray, none, fun _ _ => none, fun y => some (nocap y)⟩ rfl rfl rfl rfl rfl (fun _ => rfl) (fun _ => rfl) rfl S_laws_toIntS (fun a0 => (show G3 49 _ = _ from rfl).trans (C_laws_toIntS_eq a0)) a.1 a.2)).trans ?_
  show (laws_toArray_f S_laws_toIntS N a.1 a.2).bind _ = _
  rw [hN]; exact h2
-- loop.example/s02135/spec.l1Product
noncomputable def S_spec_l1Product (a0 : List Int) : Option (Int) := under (pre_spec_l1Product a0) (s_spec_l1Product a0)
def e_spec_l1Product (a : (List Int)) : List X := [.d (lstT cI a)]
noncomputable def C_spec_l1Product : List X → Option XOut := lay e_spec_l1Product fun a => ((S_spec_l1Product a)).bind fun r => some (.ret (.d (.int .i64 r)) [])
theorem C_spec_l1Product_eq (a0 : List Int) : C_spec_l1Product [.d (lstT cI a0)] = ((S_spec_l1Product a0)).bind fun r => some (.ret (.d (.int .i64 r)) []) := lay_eq (enc := e_spec_l1Product) (by
  intro a b h
  simp only [e_spec_l1Product, List.cons.injEq, X.d.injEq, X.agg.injEq, X.box.injEq, D.int.injEq, D.bool.injEq, D.fn.injEq, sD_inj, lstT_inj, ownT_inj, and_true, true_and, and_assoc] at h
  exact h) a0
noncomputable def G5 : Ctx := G4.with 48 C_spec_l1Product
theorem so5 : SoundAll Try.prog G5 := by
  refine layer (cuts := []) (k := 1) (cd := c_spec_l1Product) (rs := r_spec_l1Product) (enc := e_spec_l1Product) mixed so4 Try.func48 (by kernel_rfl) (by kernel_rfl) (by kernel_rfl) (by kernel_rfl) (by kernel_rfl) (by kernel_rfl) (wk := fun y => nocap y) Same.nocap ?_
  intro a out ho
  obtain ⟨r, h1, h2⟩ := Option.bind_eq_some_iff.mp ho
  obtain ⟨hp, rfl⟩ := under_some h1
  obtain ⟨N, hN⟩ := p_spec_l1Product a hp
  refine ⟨N, ?_⟩
  refine ((callF_G (fun y => some (nocap y)) 1 c_spec_l1Product r_spec_l1Product (e_spec_l1Product a) ⟨rfl, rfl, rfl⟩).trans (spec_l1Product_g ⟨G4, [], [], [], N, r_spec_l1Product, none, fun _ _ => none, fun y => some (nocap y)⟩ rfl rfl rfl rfl rfl (fun _ => rfl) (fun _ => rfl) a)).trans ?_
  show (spec_l1Product_f N a).bind _ = _
  rw [hN]; exact h2
-- loop.example/s02135/spec.l1Fits
noncomputable def S_spec_l1Fits (a0 : List Int) : Option (Bool) := under (pre_spec_l1Fits a0) (s_spec_l1Fits a0)
def e_spec_l1Fits (a : (List Int)) : List X := [.d (lstT cI a)]
noncomputable def C_spec_l1Fits : List X → Option XOut := lay e_spec_l1Fits fun a => ((S_spec_l1Fits a)).bind fun r => some (.ret (.d (.bool r)) [])
theorem C_spec_l1Fits_eq (a0 : List Int) : C_spec_l1Fits [.d (lstT cI a0)] = ((S_spec_l1Fits a0)).bind fun r => some (.ret (.d (.bool r)) []) := lay_eq (enc := e_spec_l1Fits) (by
  intro a b h
  simp only [e_spec_l1Fits, List.cons.injEq, X.d.injEq, X.agg.injEq, X.box.injEq, D.int.injEq, D.bool.injEq, D.fn.injEq, sD_inj, lstT_inj, ownT_inj, and_true, true_and, and_assoc] at h
  exact h) a0
noncomputable def G6 : Ctx := G5.with 47 C_spec_l1Fits
theorem so6 : SoundAll Try.prog G6 := by
  refine layer (cuts := []) (k := 1) (cd := c_spec_l1Fits) (rs := r_spec_l1Fits) (enc := e_spec_l1Fits) mixed so5 Try.func47 (by kernel_rfl) (by kernel_rfl) (by kernel_rfl) (by kernel_rfl) (by kernel_rfl) (by kernel_rfl) (wk := fun y => nocap y) Same.nocap ?_
  intro a out ho
  obtain ⟨r, h1, h2⟩ := Option.bind_eq_some_iff.mp ho
  obtain ⟨hp, rfl⟩ := under_some h1
  obtain ⟨N, hN⟩ := p_spec_l1Fits S_spec_l1Product (fun _ h => under_pos h) a hp
  refine ⟨N, ?_⟩
  refine ((callF_G (fun y => some (nocap y)) 1 c_spec_l1Fits r_spec_l1Fits (e_spec_l1Fits a) ⟨rfl, rfl, rfl⟩).trans (spec_l1Fits_g ⟨G5, [], [], [], N, r_spec_l1Fits, none, fun _ _ => none, fun y => some (nocap y)⟩ rfl rfl rfl rfl rfl (fun _ => rfl) (fun _ => rfl) rfl S_spec_l1Product (fun a0 => (show G5 48 _ = _ from rfl).trans (C_spec_l1Product_eq a0)) a)).trans ?_
  show (spec_l1Fits_f S_spec_l1Product N a).bind _ = _
  rw [hN]; exact h2
-- loop.example/s02135/spec.ArrayOk
noncomputable def S_spec_ArrayOk (a0_Shape : List Int) (a0_Data : List Int) : Option (Bool) := under (pre_spec_ArrayOk a0_Shape a0_Data) (s_spec_ArrayOk a0_Shape a0_Data)
def e_spec_ArrayOk (a : (List Int) × (List Int)) : List X := [.agg [.d (lstT cI a.1), .d (lstT cI a.2)]]
noncomputable def C_spec_ArrayOk : List X → Option XOut := lay e_spec_ArrayOk fun a => ((S_spec_ArrayOk a.1 a.2)).bind fun r => some (.ret (.d (.bool r)) [])
theorem C_spec_ArrayOk_eq (a0_Shape : List Int) (a0_Data : List Int) : C_spec_ArrayOk [.agg [.d (lstT cI a0_Shape), .d (lstT cI a0_Data)]] = ((S_spec_ArrayOk a0_Shape a0_Data)).bind fun r => some (.ret (.d (.bool r)) []) := lay_eq (enc := e_spec_ArrayOk) (by
  intro a b h
  simp only [e_spec_ArrayOk, List.cons.injEq, X.d.injEq, X.agg.injEq, X.box.injEq, D.int.injEq, D.bool.injEq, D.fn.injEq, sD_inj, lstT_inj, ownT_inj, and_true, true_and, and_assoc] at h
  simp only [Prod.ext_iff]; exact h) (a0_Shape, a0_Data)
noncomputable def G7 : Ctx := G6.with 15 C_spec_ArrayOk
theorem so7 : SoundAll Try.prog G7 := by
  refine layer (cuts := []) (k := 1) (cd := c_spec_ArrayOk) (rs := r_spec_ArrayOk) (enc := e_spec_ArrayOk) mixed so6 Try.func15 (by kernel_rfl) (by kernel_rfl) (by kernel_rfl) (by kernel_rfl) (by kernel_rfl) (by kernel_rfl) (wk := fun y => nocap y) Same.nocap ?_
  intro a out ho
  obtain ⟨r, h1, h2⟩ := Option.bind_eq_some_iff.mp ho
  obtain ⟨hp, rfl⟩ := under_some h1
  obtain ⟨N, hN⟩ := p_spec_ArrayOk S_spec_l1Fits (fun _ h => under_pos h) S_spec_l1Product (fun _ h => under_pos h) a.1 a.2 hp
  refine ⟨N, ?_⟩
  refine ((callF_G (fun y => some (nocap y)) 1 c_spec_ArrayOk r_spec_ArrayOk (e_spec_ArrayOk a) ⟨rfl, rfl, rfl⟩).trans (spec_ArrayOk_g ⟨G6, [], [], [], N, r_spec_ArrayOk, none, fun _ _ => none, fun y => some (nocap y)⟩ rfl rfl rfl rfl rfl (fun _ => rfl) (fun _ => rfl) rfl S_spec_l1Fits (fun a0 => (show G6 47 _ = _ from rfl).trans (C_spec_l1Fits_eq a0)) rfl S_spec_l1Product (fun a0 => (show G6 48 _ = _ from rfl).trans (C_spec_l1Product_eq a0)) a.1 a.2)).trans ?_
  show (spec_ArrayOk_f S_spec_l1Fits S_spec_l1Product N a.1 a.2).bind _ = _
  rw [hN]; exact h2
-- loop.example/s02135/spec.l2Copy
noncomputable def S_spec_l2Copy (a0 : List Int) : Option (List Int) := under (pre_spec_l2Copy a0) (s_spec_l2Copy a0)
def e_spec_l2Copy (a : (List Int)) : List X := [.d (lstT cI a)]
noncomputable def C_spec_l2Copy : List X → Option XOut := lay e_spec_l2Copy fun a => ((S_spec_l2Copy a)).bind fun r => some (.ret (ownT (cI) 3 none false r) [])
theorem C_spec_l2Copy_eq (a0 : List Int) : C_spec_l2Copy [.d (lstT cI a0)] = ((S_spec_l2Copy a0)).bind fun r => some (.ret (ownT (cI) 3 none false r) []) := lay_eq (enc := e_spec_l2Copy) (by
  intro a b h
  simp only [e_spec_l2Copy, List.cons.injEq, X.d.injEq, X.agg.injEq, X.box.injEq, D.int.injEq, D.bool.injEq, D.fn.injEq, sD_inj, lstT_inj, ownT_inj, and_true, true_and, and_assoc] at h
  exact h) a0
noncomputable def G8 : Ctx := G7.with 57 C_spec_l2Copy
theorem so8 : SoundAll Try.prog G8 := by
  refine layer (cuts := []) (k := 1) (cd := c_spec_l2Copy) (rs := r_spec_l2Copy) (enc := e_spec_l2Copy) mixed so7 Try.func57 (by kernel_rfl) (by kernel_rfl) (by kernel_rfl) (by kernel_rfl) (by kernel_rfl) (by kernel_rfl) (wk := fun y => nocap y) Same.nocap ?_
  intro a out ho
  obtain ⟨r, h1, h2⟩ := Option.bind_eq_some_iff.mp ho
  obtain ⟨hp, rfl⟩ := under_some h1
  obtain ⟨N, hN⟩ := p_spec_l2Copy a hp
  refine ⟨N, ?_⟩
  refine ((callF_G (fun y => some (nocap y)) 1 c_spec_l2Copy r_spec_l2Copy (e_spec_l2Copy a) ⟨rfl, rfl, rfl⟩).trans (spec_l2Copy_g ⟨G7, [], [], [], N, r_spec_l2Copy, none, fun _ _ => none, fun y => some (nocap y)⟩ rfl rfl rfl rfl rfl (fun _ => rfl) (fun _ => rfl) a)).trans ?_
  show (spec_l2Copy_f N a).bind _ = _
  rw [hN]; exact h2
-- loop.example/s02135/spec.l2Bool
noncomputable def S_spec_l2Bool (a0 : Bool) : Option (Int) := under (pre_spec_l2Bool a0) (s_spec_l2Bool a0)
def e_spec_l2Bool (a : Bool) : List X := [.d (.bool a)]
noncomputable def C_spec_l2Bool : List X → Option XOut := lay e_spec_l2Bool fun a => ((S_spec_l2Bool a)).bind fun r => some (.ret (.d (.int .i64 r)) [])
theorem C_spec_l2Bool_eq (a0 : Bool) : C_spec_l2Bool [.d (.bool a0)] = ((S_spec_l2Bool a0)).bind fun r => some (.ret (.d (.int .i64 r)) []) := lay_eq (enc := e_spec_l2Bool) (by
  intro a b h
  simp only [e_spec_l2Bool, List.cons.injEq, X.d.injEq, X.agg.injEq, X.box.injEq, D.int.injEq, D.bool.injEq, D.fn.injEq, sD_inj, lstT_inj, ownT_inj, and_true, true_and, and_assoc] at h
  exact h) a0
noncomputable def G9 : Ctx := G8.with 107 C_spec_l2Bool
theorem so9 : SoundAll Try.prog G9 := by
  refine layer (cuts := []) (k := 1) (cd := c_spec_l2Bool) (rs := r_spec_l2Bool) (enc := e_spec_l2Bool) mixed so8 Try.func107 (by kernel_rfl) (by kernel_rfl) (by kernel_rfl) (by kernel_rfl) (by kernel_rfl) (by kernel_rfl) (wk := fun y => nocap y) Same.nocap ?_
  intro a out ho
  obtain ⟨r, h1, h2⟩ := Option.bind_eq_some_iff.mp ho
  obtain ⟨hp, rfl⟩ := under_some h1
  obtain ⟨N, hN⟩ := p_spec_l2Bool a hp
  refine ⟨N, ?_⟩
  refine ((callF_G (fun y => some (nocap y)) 1 c_spec_l2Bool r_spec_l2Bool (e_spec_l2Bool a) ⟨rfl, rfl, rfl⟩).trans (spec_l2Bool_g ⟨G8, [], [], [], N, r_spec_l2Bool, none, fun _ _ => none, fun y => some (nocap y)⟩ rfl rfl rfl rfl rfl (fun _ => rfl) (fun _ => rfl) a)).trans ?_
  show (spec_l2Bool_f N a).bind _ = _
  rw [hN]; exact h2
-- loop.example/s02135/spec.l2One
noncomputable def S_spec_l2One (a0 : Int) (a1 : Int) : Option (Int × Int) := under (pre_spec_l2One a0 a1) (s_spec_l2One a0 a1)
def e_spec_l2One (a : Int × Int) : List X := [.d (.int .i64 a.1), .d (.int .i64 a.2)]
noncomputable def C_spec_l2One : List X → Option XOut := lay e_spec_l2One fun a => ((S_spec_l2One a.1 a.2)).bind fun r => some (.ret (.tup [.d (.int .i64 r.1), .d (.int .i64 r.2)]) [])
theorem C_spec_l2One_eq (a0 : Int) (a1 : Int) : C_spec_l2One [.d (.int .i64 a0), .d (.int .i64 a1)] = ((S_spec_l2One a0 a1)).bind fun r => some (.ret (.tup [.d (.int .i64 r.1), .d (.int .i64 r.2)]) []) := lay_eq (enc := e_spec_l2One) (by
  intro a b h
  simp only [e_spec_l2One, List.cons.injEq, X.d.injEq, X.agg.injEq, X.box.injEq, D.int.injEq, D.bool.injEq, D.fn.injEq, sD_inj, lstT_inj, ownT_inj, and_true, true_and, and_assoc] at h
  simp only [Prod.ext_iff]; exact h) (a0, a1)
noncomputable def G10 : Ctx := G9.with 58 C_spec_l2One
theorem so10 : SoundAll Try.prog G10 := by
  refine layer (cuts := []) (k := 2) (cd := c_spec_l2One) (rs := r_spec_l2One) (enc := e_spec_l2One) mixed so9 Try.func58 (by kernel_rfl) (by kernel_rfl) (by kernel_rfl) (by kernel_rfl) (by kernel_rfl) (by kernel_rfl) (wk := fun y => nocap y) Same.nocap ?_
  intro a out ho
  obtain ⟨r, h1, h2⟩ := Option.bind_eq_some_iff.mp ho
  obtain ⟨hp, rfl⟩ := under_some h1
  obtain ⟨N, hN⟩ := p_spec_l2One S_spec_l2Bool (fun _ h => under_pos h) a.1 a.2 hp
  refine ⟨N, ?_⟩
  refine ((callF_G (fun y => some (nocap y)) 2 c_spec_l2One r_spec_l2One (e_spec_l2One a) ⟨rfl, rfl, rfl⟩).trans (spec_l2One_g ⟨G9, [], [], [], N, r_spec_l2One, none, fun _ _ => none, fun y => some (nocap y)⟩ rfl rfl rfl rfl rfl (fun _ => rfl) (fun _ => rfl) rfl S_spec_l2Bool (fun a0 => (show G9 107 _ = _ from rfl).trans (C_spec_l2Bool_eq a0)) a.1 a.2)).trans ?_
  show (spec_l2One_f S_spec_l2Bool N a.1 a.2).bind _ = _
  rw [hN]; exact h2
-- loop.example/s02135/spec.Each1
noncomputable def S_spec_Each1 (a0 : Int) (a1_Shape : List Int) (a1_Data : List Int) : Option (List Int × List Int × Int) := under (pre_spec_Each1 a0 a1_Shape a1_Data) (s_spec_Each1 a0 a1_Shape a1_Data)
def e_spec_Each1 (a : Int × (List Int) × (List Int)) : List X := [.d (.int .i64 a.1), .agg [.d (lstT cI a.2.1), .d (lstT cI a.2.2)]]
noncomputable def C_spec_Each1 : List X → Option XOut := lay e_spec_Each1 fun a => ((S_spec_Each1 a.1 a.2.1 a.2.2)).bind fun r => some (.ret (.tup [.agg [ownT (cI) 3 none false r.1, ownT (cI) 3 none false r.2.1], .d (.int .i64 r.2.2)]) [])
theorem C_spec_Each1_eq (a0 : Int) (a1_Shape : List Int) (a1_Data : List Int) : C_spec_Each1 [.d (.int .i64 a0), .agg [.d (lstT cI a1_Shape), .d (lstT cI a1_Data)]] = ((S_spec_Each1 a0 a1_Shape a1_Data)).bind fun r => some (.ret (.tup [.agg [ownT (cI) 3 none false r.1, ownT (cI) 3 none false r.2.1], .d (.int .i64 r.2.2)]) []) := lay_eq (enc := e_spec_Each1) (by
  intro a b h
  simp only [e_spec_Each1, List.cons.injEq, X.d.injEq, X.agg.injEq, X.box.injEq, D.int.injEq, D.bool.injEq, D.fn.injEq, sD_inj, lstT_inj, ownT_inj, and_true, true_and, and_assoc] at h
  simp only [Prod.ext_iff]; exact h) (a0, a1_Shape, a1_Data)
noncomputable def G11 : Ctx := G10.with 24 C_spec_Each1
theorem so11 : SoundAll Try.prog G11 := by
  refine layer (cuts := []) (k := 2) (cd := c_spec_Each1) (rs := r_spec_Each1) (enc := e_spec_Each1) mixed so10 Try.func24 (by kernel_rfl) (by kernel_rfl) (by kernel_rfl) (by kernel_rfl) (by kernel_rfl) (by kernel_rfl) (wk := fun y => nocap (asOwn (.node [.node [.own 3 1, .own 3 1], .k]) y)) (Same.comp Same.nocap (Same.own (.node [.node [.own 3 1, .own 3 1], .k]))) ?_
  intro a out ho
  obtain ⟨r, h1, h2⟩ := Option.bind_eq_some_iff.mp ho
  obtain ⟨hp, rfl⟩ := under_some h1
  obtain ⟨N, hN⟩ := p_spec_Each1 S_spec_ArrayOk (fun _ _ h => under_pos h) S_spec_l2Copy (fun _ h => under_pos h) S_spec_l2One (fun _ _ h => under_pos h) a.1 a.2.1 a.2.2 hp
  refine ⟨N, ?_⟩
  refine ((callF_G (fun y => some (nocap (asOwn (.node [.node [.own 3 1, .own 3 1], .k]) y))) 2 c_spec_Each1 r_spec_Each1 (e_spec_Each1 a) ⟨rfl, rfl, rfl⟩).trans (spec_Each1_g ⟨G10, [], [], [], N, r_spec_Each1, none, fun _ _ => none, fun y => some (nocap (asOwn (.node [.node [.own 3 1, .own 3 1], .k]) y))⟩ rfl rfl rfl rfl rfl (fun _ => rfl) (fun _ => rfl) rfl S_spec_ArrayOk (fun a0_Shape a0_Data => (show G10 15 _ = _ from rfl).trans (C_spec_ArrayOk_eq a0_Shape a0_Data)) rfl S_spec_l2Copy (fun a0 => (show G10 57 _ = _ from rfl).trans (C_spec_l2Copy_eq a0)) rfl S_spec_l2One (fun a0 a1 => (show G10 58 _ = _ from rfl).trans (C_spec_l2One_eq a0 a1)) a.1 a.2.1 a.2.2)).trans ?_
  show (spec_Each1_f S_spec_ArrayOk S_spec_l2Copy S_spec_l2One N a.1 a.2.1 a.2.2).bind _ = _
  rw [hN]; exact h2
-- loop.example/s02135/impl.Each1$1
noncomputable def S_impl_Each1_1 (a0 : Int) : Option (Int) := under (pre_impl_Each1_1 a0) (s_impl_Each1_1 a0)
def e_impl_Each1_1 (a : Int) : List X := [.d (.int .i64 a)]
noncomputable def C_impl_Each1_1 : List X → Option XOut := lay e_impl_Each1_1 fun a => ((S_impl_Each1_1 a)).bind fun r => some (.ret (.d (.int .i64 r)) [])
theorem C_impl_Each1_1_eq (a0 : Int) : C_impl_Each1_1 [.d (.int .i64 a0)] = ((S_impl_Each1_1 a0)).bind fun r => some (.ret (.d (.int .i64 r)) []) := lay_eq (enc := e_impl_Each1_1) (by
  intro a b h
  simp only [e_impl_Each1_1, List.cons.injEq, X.d.injEq, X.agg.injEq, X.box.injEq, D.int.injEq, D.bool.injEq, D.fn.injEq, sD_inj, lstT_inj, ownT_inj, and_true, true_and, and_assoc] at h
  exact h) a0
noncomputable def G12 : Ctx := G11.with 59 C_impl_Each1_1
theorem so12 : SoundAll Try.prog G12 := by
  refine layer (cuts := []) (k := 1) (cd := c_impl_Each1_1) (rs := r_impl_Each1_1) (enc := e_impl_Each1_1) mixed so11 Try.func59 (by kernel_rfl) (by kernel_rfl) (by kernel_rfl) (by kernel_rfl) (by kernel_rfl) (by kernel_rfl) (wk := fun y => nocap y) Same.nocap ?_
  intro a out ho
  obtain ⟨r, h1, h2⟩ := Option.bind_eq_some_iff.mp ho
  obtain ⟨hp, rfl⟩ := under_some h1
  obtain ⟨N, hN⟩ := p_impl_Each1_1 a hp
  refine ⟨N, ?_⟩
  refine ((callF_G (fun y => some (nocap y)) 1 c_impl_Each1_1 r_impl_Each1_1 (e_impl_Each1_1 a) ⟨rfl, rfl, rfl⟩).trans (impl_Each1_1_g ⟨G11, [], [], [], N, r_impl_Each1_1, none, fun _ _ => none, fun y => some (nocap y)⟩ rfl rfl rfl rfl rfl (fun _ => rfl) (fun _ => rfl) a)).trans ?_
  show (impl_Each1_1_f N a).bind _ = _
  rw [hN]; exact h2
-- loop.example/s02135/impl.Each1$2
noncomputable def S_impl_Each1_2 (a0 : Int) : Option (Int) := under (pre_impl_Each1_2 a0) (s_impl_Each1_2 a0)
def e_impl_Each1_2 (a : Int) : List X := [.d (.int .i64 a)]
noncomputable def C_impl_Each1_2 : List X → Option XOut := lay e_impl_Each1_2 fun a => ((S_impl_Each1_2 a)).bind fun r => some (.ret (.d (.int .i64 r)) [])
theorem C_impl_Each1_2_eq (a0 : Int) : C_impl_Each1_2 [.d (.int .i64 a0)] = ((S_impl_Each1_2 a0)).bind fun r => some (.ret (.d (.int .i64 r)) []) := lay_eq (enc := e_impl_Each1_2) (by
  intro a b h
  simp only [e_impl_Each1_2, List.cons.injEq, X.d.injEq, X.agg.injEq, X.box.injEq, D.int.injEq, D.bool.injEq, D.fn.injEq, sD_inj, lstT_inj, ownT_inj, and_true, true_and, and_assoc] at h
  exact h) a0
noncomputable def G13 : Ctx := G12.with 60 C_impl_Each1_2
theorem so13 : SoundAll Try.prog G13 := by
  refine layer (cuts := []) (k := 1) (cd := c_impl_Each1_2) (rs := r_impl_Each1_2) (enc := e_impl_Each1_2) mixed so12 Try.func60 (by kernel_rfl) (by kernel_rfl) (by kernel_rfl) (by kernel_rfl) (by kernel_rfl) (by kernel_rfl) (wk := fun y => nocap y) Same.nocap ?_
  intro a out ho
  obtain ⟨r, h1, h2⟩ := Option.bind_eq_some_iff.mp ho
  obtain ⟨hp, rfl⟩ := under_some h1
  obtain ⟨N, hN⟩ := p_impl_Each1_2 a hp
  refine ⟨N, ?_⟩
  refine ((callF_G (fun y => some (nocap y)) 1 c_impl_Each1_2 r_impl_Each1_2 (e_impl_Each1_2 a) ⟨rfl, rfl, rfl⟩).trans (impl_Each1_2_g ⟨G12, [], [], [], N, r_impl_Each1_2, none, fun _ _ => none, fun y => some (nocap y)⟩ rfl rfl rfl rfl rfl (fun _ => rfl) (fun _ => rfl) a)).trans ?_
  show (impl_Each1_2_f N a).bind _ = _
  rw [hN]; exact h2
-- loop.example/s02135/impl.Each1$3
noncomputable def S_impl_Each1_3 (a0 : Int) : Option (Int) := under (pre_impl_Each1_3 a0) (s_impl_Each1_3 a0)
def e_impl_Each1_3 (a : Int) : List X := [.d (.int .i64 a)]
noncomputable def C_impl_Each1_3 : List X → Option XOut := lay e_impl_Each1_3 fun a => ((S_impl_Each1_3 a)).bind fun r => some (.ret (.d (.int .i64 r)) [])
theorem C_impl_Each1_3_eq (a0 : Int) : C_impl_Each1_3 [.d (.int .i64 a0)] = ((S_impl_Each1_3 a0)).bind fun r => some (.ret (.d (.int .i64 r)) []) := lay_eq (enc := e_impl_Each1_3) (by
  intro a b h
  simp only [e_impl_Each1_3, List.cons.injEq, X.d.injEq, X.agg.injEq, X.box.injEq, D.int.injEq, D.bool.injEq, D.fn.injEq, sD_inj, lstT_inj, ownT_inj, and_true, true_and, and_assoc] at h
  exact h) a0
noncomputable def G14 : Ctx := G13.with 61 C_impl_Each1_3
theorem so14 : SoundAll Try.prog G14 := by
  refine layer (cuts := []) (k := 1) (cd := c_impl_Each1_3) (rs := r_impl_Each1_3) (enc := e_impl_Each1_3) mixed so13 Try.func61 (by kernel_rfl) (by kernel_rfl) (by kernel_rfl) (by kernel_rfl) (by kernel_rfl) (by kernel_rfl) (wk := fun y => nocap y) Same.nocap ?_
  intro a out ho
  obtain ⟨r, h1, h2⟩ := Option.bind_eq_some_iff.mp ho
  obtain ⟨hp, rfl⟩ := under_some h1
  obtain ⟨N, hN⟩ := p_impl_Each1_3 a hp
  refine ⟨N, ?_⟩
  refine ((callF_G (fun y => some (nocap y)) 1 c_impl_Each1_3 r_impl_Each1_3 (e_impl_Each1_3 a) ⟨rfl, rfl, rfl⟩).trans (impl_Each1_3_g ⟨G13, [], [], [], N, r_impl_Each1_3, none, fun _ _ => none, fun y => some (nocap y)⟩ rfl rfl rfl rfl rfl (fun _ => rfl) (fun _ => rfl) a)).trans ?_
  show (impl_Each1_3_f N a).bind _ = _
  rw [hN]; exact h2
-- loop.example/s02135/impl.Each1$4
noncomputable def S_impl_Each1_4 (a0 : Int) : Option (Res (Int)) := under (pre_impl_Each1_4 a0) (s_impl_Each1_4 a0)
def e_impl_Each1_4 (a : Int) : List X := [.d (.int .i64 a)]
noncomputable def C_impl_Each1_4 : List X → Option XOut := lay e_impl_Each1_4 fun a => ((S_impl_Each1_4 a)).bind fun r => r.on (fun r => some (.ret (.d (.int .i64 r)) [])) (fun x => some (.pan x []))
theorem C_impl_Each1_4_eq (a0 : Int) : C_impl_Each1_4 [.d (.int .i64 a0)] = ((S_impl_Each1_4 a0)).bind fun r => r.on (fun r => some (.ret (.d (.int .i64 r)) [])) (fun x => some (.pan x [])) := lay_eq (enc := e_impl_Each1_4) (by
  intro a b h
  simp only [e_impl_Each1_4, List.cons.injEq, X.d.injEq, X.agg.injEq, X.box.injEq, D.int.injEq, D.bool.injEq, D.fn.injEq, sD_inj, lstT_inj, ownT_inj, and_true, true_and, and_assoc] at h
  exact h) a0
noncomputable def G15 : Ctx := G14.with 62 C_impl_Each1_4
theorem so15 : SoundAll Try.prog G15 := by
  refine layer (cuts := []) (k := 1) (cd := c_impl_Each1_4) (rs := r_impl_Each1_4) (enc := e_impl_Each1_4) mixed so14 Try.func62 (by kernel_rfl) (by kernel_rfl) (by kernel_rfl) (by kernel_rfl) (by kernel_rfl) (by kernel_rfl) (wk := fun y => nocap y) Same.nocap ?_
  intro a out ho
  obtain ⟨r, h1, h2⟩ := Option.bind_eq_some_iff.mp ho
  obtain ⟨hp, rfl⟩ := under_some h1
  obtain ⟨N, hN⟩ := p_impl_Each1_4 a hp
  refine ⟨N, ?_⟩
  refine ((callF_G (fun y => some (nocap y)) 1 c_impl_Each1_4 r_impl_Each1_4 (e_impl_Each1_4 a) ⟨rfl, rfl, rfl⟩).trans (impl_Each1_4_g ⟨G14, [], [], [], N, r_impl_Each1_4, none, fun _ _ => none, fun y => some (nocap y)⟩ rfl rfl rfl rfl rfl (fun _ => rfl) (fun _ => rfl) a)).trans ?_
  show (impl_Each1_4_f N a).bind _ = _
  rw [hN]; exact h2
-- loop.example/s02135/impl.cellsOf
noncomputable def S_impl_cellsOf (a0 : List Int) : Option (Int × Bool) := under (pre_impl_cellsOf a0) (s_impl_cellsOf a0)
def e_impl_cellsOf (a : (List Int)) : List X := [.d (lstT cI a)]
noncomputable def C_impl_cellsOf : List X → Option XOut := lay e_impl_cellsOf fun a => ((S_impl_cellsOf a)).bind fun r => some (.ret (.tup [.d (.int .i64 r.1), .d (.bool r.2)]) [])
theorem C_impl_cellsOf_eq (a0 : List Int) : C_impl_cellsOf [.d (lstT cI a0)] = ((S_impl_cellsOf a0)).bind fun r => some (.ret (.tup [.d (.int .i64 r.1), .d (.bool r.2)]) []) := lay_eq (enc := e_impl_cellsOf) (by
  intro a b h
  simp only [e_impl_cellsOf, List.cons.injEq, X.d.injEq, X.agg.injEq, X.box.injEq, D.int.injEq, D.bool.injEq, D.fn.injEq, sD_inj, lstT_inj, ownT_inj, and_true, true_and, and_assoc] at h
  exact h) a0
noncomputable def G16 : Ctx := G15.with 50 C_impl_cellsOf
theorem so16 : SoundAll Try.prog G16 := by
  refine layer (cuts := []) (k := 1) (cd := c_impl_cellsOf) (rs := r_impl_cellsOf) (enc := e_impl_cellsOf) mixed so15 Try.func50 (by kernel_rfl) (by kernel_rfl) (by kernel_rfl) (by kernel_rfl) (by kernel_rfl) (by kernel_rfl) (wk := fun y => nocap y) Same.nocap ?_
  intro a out ho
  obtain ⟨r, h1, h2⟩ := Option.bind_eq_some_iff.mp ho
  obtain ⟨hp, rfl⟩ := under_some h1
  obtain ⟨N, hN⟩ := p_impl_cellsOf a hp
  refine ⟨N, ?_⟩
  refine ((callF_G (fun y => some (nocap y)) 1 c_impl_cellsOf r_impl_cellsOf (e_impl_cellsOf a) ⟨rfl, rfl, rfl⟩).trans (impl_cellsOf_g ⟨G15, [], [], [], N, r_impl_cellsOf, none, fun _ _ => none, fun y => some (nocap y)⟩ rfl rfl rfl rfl rfl (fun _ => rfl) (fun _ => rfl) a)).trans ?_
  show (impl_cellsOf_f N a).bind _ = _
  rw [hN]; exact h2
-- loop.example/s02135/impl.ArrayOk
noncomputable def S_impl_ArrayOk (a0_Shape : List Int) (a0_Data : List Int) : Option (Bool) := under (pre_impl_ArrayOk a0_Shape a0_Data) (s_impl_ArrayOk a0_Shape a0_Data)
def e_impl_ArrayOk (a : (List Int) × (List Int)) : List X := [.agg [.d (lstT cI a.1), .d (lstT cI a.2)]]
noncomputable def C_impl_ArrayOk : List X → Option XOut := lay e_impl_ArrayOk fun a => ((S_impl_ArrayOk a.1 a.2)).bind fun r => some (.ret (.d (.bool r)) [])
theorem C_impl_ArrayOk_eq (a0_Shape : List Int) (a0_Data : List Int) : C_impl_ArrayOk [.agg [.d (lstT cI a0_Shape), .d (lstT cI a0_Data)]] = ((S_impl_ArrayOk a0_Shape a0_Data)).bind fun r => some (.ret (.d (.bool r)) []) := lay_eq (enc := e_impl_ArrayOk) (by
  intro a b h
  simp only [e_impl_ArrayOk, List.cons.injEq, X.d.injEq, X.agg.injEq, X.box.injEq, D.int.injEq, D.bool.injEq, D.fn.injEq, sD_inj, lstT_inj, ownT_inj, and_true, true_and, and_assoc] at h
  simp only [Prod.ext_iff]; exact h) (a0_Shape, a0_Data)
noncomputable def G17 : Ctx := G16.with 17 C_impl_ArrayOk
theorem so17 : SoundAll Try.prog G17 := by
  refine layer (cuts := []) (k := 1) (cd := c_impl_ArrayOk) (rs := r_impl_ArrayOk) (enc := e_impl_ArrayOk) mixed so16 Try.func17 (by kernel_rfl) (by kernel_rfl) (by kernel_rfl) (by kernel_rfl) (by kernel_rfl) (by kernel_rfl) (wk := fun y => nocap y) Same.nocap ?_
  intro a out ho
  obtain ⟨r, h1, h2⟩ := Option.bind_eq_some_iff.mp ho
  obtain ⟨hp, rfl⟩ := under_some h1
  obtain ⟨N, hN⟩ := p_impl_ArrayOk S_impl_cellsOf (fun _ h => under_pos h) a.1 a.2 hp
  refine ⟨N, ?_⟩
  refine ((callF_G (fun y => some (nocap y)) 1 c_impl_ArrayOk r_impl_ArrayOk (e_impl_ArrayOk a) ⟨rfl, rfl, rfl⟩).trans (impl_ArrayOk_g ⟨G16, [], [], [], N, r_impl_ArrayOk, none, fun _ _ => none, fun y => some (nocap y)⟩ rfl rfl rfl rfl rfl (fun _ => rfl) (fun _ => rfl) rfl S_impl_cellsOf (fun a0 => (show G16 50 _ = _ from rfl).trans (C_impl_cellsOf_eq a0)) a.1 a.2)).trans ?_
  show (impl_ArrayOk_f S_impl_cellsOf N a.1 a.2).bind _ = _
  rw [hN]; exact h2
-- loop.example/s02135/impl.caught
noncomputable def S_impl_caught (x : D) (a0 : Int) (a1_Shape : List Int) (a1_Data : List Int) : Option (Int) := (pn_impl_caught x).bind fun x => under (pre_impl_caught x a0 a1_Shape a1_Data) (s_impl_caught x a0 a1_Shape a1_Data)
def e_impl_caught (a : Int × (List Int) × (List Int)) : List X := [.box [.d (.int .i64 a.1)], .box [.d (lstT cI a.2.1), .d (lstT cI a.2.2)]]
theorem e_impl_caught_inj : ∀ a b, e_impl_caught a = e_impl_caught b → a = b := by
  intro a b h
  simp only [e_impl_caught, List.cons.injEq, X.d.injEq, X.agg.injEq, X.box.injEq, D.int.injEq, D.bool.injEq, D.fn.injEq, sD_inj, lstT_inj, ownT_inj, and_true, true_and, and_assoc] at h
  simp only [Prod.ext_iff]; exact h
noncomputable def FD_impl_caught (x : D) (xs : List X) : Option (List (List D)) := lay e_impl_caught (fun a => (S_impl_caught x a.1 a.2.1 a.2.2).bind fun r => some [[.int .i64 r], [D.nils, D.nils]]) xs
theorem FD_impl_caught_eq (x : D) (a0 : Int) (a1_Shape : List Int) (a1_Data : List Int) : FD_impl_caught x [.box [.d (.int .i64 a0)], .box [.d (lstT cI a1_Shape), .d (lstT cI a1_Data)]] = (S_impl_caught x a0 a1_Shape a1_Data).bind fun r => some [[.int .i64 r], [D.nils, D.nils]] := @lay_eq _ (List (List D)) e_impl_caught (fun a => (S_impl_caught x a.1 a.2.1 a.2.2).bind fun r => some [[.int .i64 r], [D.nils, D.nils]]) e_impl_caught_inj (a0, a1_Shape, a1_Data)
theorem pn_impl_caught_some {x : D} {c : Int} (h : pn_impl_caught x = some c) : x = .ifaceS 70 [.int .i64 c] := by
  unfold pn_impl_caught at h
  split at h
  · split at h
    · rename_i e; subst e; injection h with h; rw [h]
    · cases h
  · cases h
theorem S_impl_caught_eq (x : Int) (a0 : Int) (a1_Shape : List Int) (a1_Data : List Int) : S_impl_caught (.ifaceS 70 [.int .i64 x]) a0 a1_Shape a1_Data = under (pre_impl_caught x a0 a1_Shape a1_Data) (s_impl_caught x a0 a1_Shape a1_Data) := by
  unfold S_impl_caught pn_impl_caught
  simp only [if_true, Option.bind_some]
theorem sd_impl_caught : SoundD Try.prog 63 FD_impl_caught := by
  refine layerR' (cuts := []) (k := 2) (a := 7) (b := 4) (cd := c_impl_caught) mixed so17 Try.func63 (by kernel_rfl) (by kernel_rfl) (by kernel_rfl) (by kernel_rfl) (by kernel_rfl) (by kernel_rfl) (by kernel_rfl) (by kernel_rfl) ?_
  intro x xs outs ho
  obtain ⟨a, rfl, ho2⟩ := lay_some ho
  obtain ⟨r, h1, h2⟩ := Option.bind_eq_some_iff.mp ho2
  obtain ⟨c, h3, h4⟩ := Option.bind_eq_some_iff.mp h1
  obtain rfl := pn_impl_caught_some h3
  obtain ⟨hp, rfl⟩ := under_some h4
  obtain ⟨N, hN⟩ := p_impl_caught c a.1 a.2.1 a.2.2 hp
  refine ⟨N, ?_⟩
  rw [callR_G 2 4 c_impl_caught _ (e_impl_caught a) ⟨rfl, rfl, rfl⟩]
  refine (congrArg (fun z : Option XOut => z.bind _) (impl_caught_g ⟨G17, [0, 64], [0, 64], [], N, [], none, fun _ _ => none, some⟩ rfl rfl rfl rfl rfl (fun _ => rfl) (fun _ => rfl) c a.1 a.2.1 a.2.2)).trans ?_
  show ((impl_caught_f N c a.1 a.2.1 a.2.2).bind _).bind _ = _
  rw [hN]; exact h2
-- slices.Clone[[]int,int]
noncomputable def S_slices_Clone___int_int_ (a0 : List Int) : Option (List Int) := under (pre_slices_Clone___int_int_ a0) (s_slices_Clone___int_int_ a0)
def e_slices_Clone___int_int_ (l : List Int) : List X := [.d (lstT cI l)]
noncomputable def C_slices_Clone___int_int_ : List X → Option XOut := lay e_slices_Clone___int_int_ fun a => ((S_slices_Clone___int_int_ a)).bind fun r => some (.ret (ownT (cI) 3 none false r) [])
theorem C_slices_Clone___int_int__eq (a0 : List Int) : C_slices_Clone___int_int_ [.d (lstT cI a0)] = ((S_slices_Clone___int_int_ a0)).bind fun r => some (.ret (ownT (cI) 3 none false r) []) := lay_eq (enc := e_slices_Clone___int_int_) (by
  intro a b h
  simp only [e_slices_Clone___int_int_, List.cons.injEq, X.d.injEq, X.agg.injEq, X.box.injEq, D.int.injEq, D.bool.injEq, D.fn.injEq, sD_inj, lstT_inj, ownT_inj, and_true, true_and, and_assoc] at h
  exact h) a0
noncomputable def G18 : Ctx := G17.with 126 C_slices_Clone___int_int_
theorem so18 : SoundAll Try.prog G18 := by
  refine layerN (cuts := []) (cd := c_slices_Clone___int_int_) (rs := r_slices_Clone___int_int_) mixed so17 Try.func126 (by kernel_rfl) (by kernel_rfl) (by kernel_rfl) (by kernel_rfl) (by kernel_rfl) (by kernel_rfl) cI (wk := fun y => nocap (asOwn (.own 3 1) y)) (Same.comp Same.nocap (Same.own (.own 3 1))) ?_ ?_
  · intro l out ho
    obtain ⟨r, h1, h2⟩ := Option.bind_eq_some_iff.mp ho
    obtain ⟨hp, rfl⟩ := under_some h1
    obtain ⟨N, hN⟩ := (p_slices_Clone___int_int_ l hp).1
    refine ⟨N, ?_⟩
    refine ((callF_G (fun y => some (nocap (asOwn (.own 3 1) y))) 1 c_slices_Clone___int_int_ r_slices_Clone___int_int_ [.d (lstST cI l)] ⟨rfl, rfl, rfl⟩).trans (slices_Clone___int_int__S_g ⟨G17, [], [], [], N, r_slices_Clone___int_int_, none, fun _ _ => none, fun y => some (nocap (asOwn (.own 3 1) y))⟩ rfl rfl rfl rfl rfl (fun _ => rfl) (fun _ => rfl) l)).trans ?_
    show (slices_Clone___int_int__S_f N l).bind _ = _
    rw [hN]; exact h2
  · intro out ho
    obtain ⟨r, h1, h2⟩ := Option.bind_eq_some_iff.mp ho
    obtain ⟨hp, rfl⟩ := under_some h1
    obtain ⟨N, hN⟩ := (p_slices_Clone___int_int_ [] hp).2
    refine ⟨N, ?_⟩
    refine ((callF_G (fun y => some (nocap (asOwn (.own 3 1) y))) 1 c_slices_Clone___int_int_ r_slices_Clone___int_int_ [.nil] ⟨rfl, rfl, rfl⟩).trans (slices_Clone___int_int__N_g ⟨G17, [], [], [], N, r_slices_Clone___int_int_, none, fun _ _ => none, fun y => some (nocap (asOwn (.own 3 1) y))⟩ rfl rfl rfl rfl rfl (fun _ => rfl) (fun _ => rfl))).trans ?_
    show (slices_Clone___int_int__N_f N).bind _ = _
    rw [hN]; exact h2
-- loop.example/s02135/impl.made
noncomputable def S_impl_made (a0 : List Int) : Option (Res (List Int × Option Nat × List Int)) := under (pre_impl_made a0) (s_impl_made a0)
def e_impl_made (a : (List Int)) : List X := [.d (lstT cI a)]
noncomputable def C_impl_made : List X → Option XOut := lay e_impl_made fun a => ((S_impl_made a)).bind fun r => r.on (fun r => some (.ret (.agg [ownT (cI) 3 none false r.1, ownT (cI) 3 r.2.1 false r.2.2]) [])) (fun x => some (.pan x []))
theorem C_impl_made_eq (a0 : List Int) : C_impl_made [.d (lstT cI a0)] = ((S_impl_made a0)).bind fun r => r.on (fun r => some (.ret (.agg [ownT (cI) 3 none false r.1, ownT (cI) 3 r.2.1 false r.2.2]) [])) (fun x => some (.pan x [])) := lay_eq (enc := e_impl_made) (by
  intro a b h
  simp only [e_impl_made, List.cons.injEq, X.d.injEq, X.agg.injEq, X.box.injEq, D.int.injEq, D.bool.injEq, D.fn.injEq, sD_inj, lstT_inj, ownT_inj, and_true, true_and, and_assoc] at h
  exact h) a0
noncomputable def G19 : Ctx := G18.with 64 C_impl_made
theorem so19 : SoundAll Try.prog G19 := by
  refine layer (cuts := []) (k := 1) (cd := c_impl_made) (rs := r_impl_made) (enc := e_impl_made) mixed so18 Try.func64 (by kernel_rfl) (by kernel_rfl) (by kernel_rfl) (by kernel_rfl) (by kernel_rfl) (by kernel_rfl) (wk := fun y => y) Same.id ?_
  intro a out ho
  obtain ⟨r, h1, h2⟩ := Option.bind_eq_some_iff.mp ho
  obtain ⟨hp, rfl⟩ := under_some h1
  obtain ⟨N, hN⟩ := p_impl_made S_impl_cellsOf (fun _ h => under_pos h) S_slices_Clone___int_int_ (fun _ h => under_pos h) a hp
  refine ⟨N, ?_⟩
  refine ((callF_G (fun y => some (y)) 1 c_impl_made r_impl_made (e_impl_made a) ⟨rfl, rfl, rfl⟩).trans (impl_made_g ⟨G18, [], [], [], N, r_impl_made, none, fun _ _ => none, fun y => some (y)⟩ rfl rfl rfl rfl rfl (fun _ => rfl) (fun _ => rfl) rfl S_impl_cellsOf (fun a0 => (show G18 50 _ = _ from rfl).trans (C_impl_cellsOf_eq a0)) rfl S_slices_Clone___int_int_ (fun a0 => (show G18 126 _ = _ from rfl).trans (C_slices_Clone___int_int__eq a0)) a)).trans ?_
  show (impl_made_f S_impl_cellsOf S_slices_Clone___int_int_ N a).bind _ = _
  rw [hN]; exact h2
-- loop.example/s02135/impl.Each1
noncomputable def S_impl_Each1 (a0 : Int) (a1_Shape : List Int) (a1_Data : List Int) : Option (List Int × List Int × Int) := under (pre_impl_Each1 a0 a1_Shape a1_Data) (s_impl_Each1 a0 a1_Shape a1_Data)
def e_impl_Each1 (a : Int × (List Int) × (List Int)) : List X := [.d (.int .i64 a.1), .agg [.d (lstT cI a.2.1), .d (lstT cI a.2.2)]]
noncomputable def C_impl_Each1 : List X → Option XOut := lay e_impl_Each1 fun a => ((S_impl_Each1 a.1 a.2.1 a.2.2)).bind fun r => some (.ret (.tup [.agg [ownT (cI) 3 none false r.1, ownT (cI) 3 none false r.2.1], .d (.int .i64 r.2.2)]) [])
theorem C_impl_Each1_eq (a0 : Int) (a1_Shape : List Int) (a1_Data : List Int) : C_impl_Each1 [.d (.int .i64 a0), .agg [.d (lstT cI a1_Shape), .d (lstT cI a1_Data)]] = ((S_impl_Each1 a0 a1_Shape a1_Data)).bind fun r => some (.ret (.tup [.agg [ownT (cI) 3 none false r.1, ownT (cI) 3 none false r.2.1], .d (.int .i64 r.2.2)]) []) := lay_eq (enc := e_impl_Each1) (by
  intro a b h
  simp only [e_impl_Each1, List.cons.injEq, X.d.injEq, X.agg.injEq, X.box.injEq, D.int.injEq, D.bool.injEq, D.fn.injEq, sD_inj, lstT_inj, ownT_inj, and_true, true_and, and_assoc] at h
  simp only [Prod.ext_iff]; exact h) (a0, a1_Shape, a1_Data)
noncomputable def G20 : Ctx := G19.with 25 C_impl_Each1
theorem so20 : SoundAll Try.prog G20 := by
  refine layerD' (cuts := []) (k := 2) (A := c_impl_Each1) (B := d_impl_Each1) (da := da_impl_Each1) (keep := kp_impl_Each1) (rs := r_impl_Each1) (enc := e_impl_Each1) mixed so19 sd_impl_caught Try.func25 (by kernel_rfl) (by kernel_rfl) (by kernel_rfl) (by kernel_rfl) (by kernel_rfl) (by kernel_rfl) (by kernel_rfl) (by kernel_rfl) (wk := fun y => nocap (asOwn (.node [.node [.own 3 1, .own 3 1], .k]) y)) (Same.comp Same.nocap (Same.own (.node [.node [.own 3 1, .own 3 1], .k]))) ?_
  intro a out ho
  obtain ⟨r, h1, h2⟩ := Option.bind_eq_some_iff.mp ho
  obtain ⟨hp, rfl⟩ := under_some h1
  obtain ⟨N, hN⟩ := p_impl_Each1 S_impl_Each1_1 (fun _ h => under_pos h) S_impl_Each1_2 (fun _ h => under_pos h) S_impl_Each1_3 (fun _ h => under_pos h) S_impl_Each1_4 (fun _ h => under_pos h) S_impl_ArrayOk (fun _ _ h => under_pos h) S_impl_made (fun _ h => under_pos h) S_impl_caught (fun x a0 a1_Shape a1_Data h => (S_impl_caught_eq x a0 a1_Shape a1_Data).trans (under_pos h)) a.1 a.2.1 a.2.2 hp
  refine ⟨N, ?_⟩
  refine ((callFD_G (FD := FD_impl_caught) (fun y => some (nocap (asOwn (.node [.node [.own 3 1, .own 3 1], .k]) y))) 2 c_impl_Each1 da_impl_Each1 kp_impl_Each1 d_impl_Each1 r_impl_Each1 (e_impl_Each1 a) ⟨rfl, rfl, rfl⟩).trans (impl_Each1_g ⟨G19, [], [], [], N, r_impl_Each1, none, FD_impl_caught, fun y => some (nocap (asOwn (.node [.node [.own 3 1, .own 3 1], .k]) y))⟩ rfl rfl rfl rfl rfl (fun _ => rfl) (fun _ => rfl) rfl S_impl_Each1_1 (fun a0 => (show G19 59 _ = _ from rfl).trans (C_impl_Each1_1_eq a0)) rfl S_impl_Each1_2 (fun a0 => (show G19 60 _ = _ from rfl).trans (C_impl_Each1_2_eq a0)) rfl S_impl_Each1_3 (fun a0 => (show G19 61 _ = _ from rfl).trans (C_impl_Each1_3_eq a0)) rfl S_impl_Each1_4 (fun a0 => (show G19 62 _ = _ from rfl).trans (C_impl_Each1_4_eq a0)) rfl S_impl_ArrayOk (fun a0_Shape a0_Data => (show G19 17 _ = _ from rfl).trans (C_impl_ArrayOk_eq a0_Shape a0_Data)) rfl S_impl_made (fun a0 => (show G19 64 _ = _ from rfl).trans (C_impl_made_eq a0)) S_impl_caught (fun x a0 a1_Shape a1_Data => FD_impl_caught_eq x a0 a1_Shape a1_Data) a.1 a.2.1 a.2.2)).trans ?_
  show (impl_Each1_f S_impl_Each1_1 S_impl_Each1_2 S_impl_Each1_3 S_impl_Each1_4 S_impl_ArrayOk S_impl_made S_impl_caught N a.1 a.2.1 a.2.2).bind _ = _
  rw [hN]; exact h2
-- loop.example/s02135/laws.eqIntS
noncomputable def S_laws_eqIntS (a0 : List Int) (a1 : List Int) : Option (Bool) := under (pre_laws_eqIntS a0 a1) (s_laws_eqIntS a0 a1)
def e_laws_eqIntS (a : (List Int) × (List Int)) : List X := [.d (lstT cI a.1), .d (lstT cI a.2)]
noncomputable def C_laws_eqIntS : List X → Option XOut := lay e_laws_eqIntS fun a => ((S_laws_eqIntS a.1 a.2)).bind fun r => some (.ret (.d (.bool r)) [])
theorem C_laws_eqIntS_eq (a0 : List Int) (a1 : List Int) : C_laws_eqIntS [.d (lstT cI a0), .d (lstT cI a1)] = ((S_laws_eqIntS a0 a1)).bind fun r => some (.ret (.d (.bool r)) []) := lay_eq (enc := e_laws_eqIntS) (by
  intro a b h
  simp only [e_laws_eqIntS, List.cons.injEq, X.d.injEq, X.agg.injEq, X.box.injEq, D.int.injEq, D.bool.injEq, D.fn.injEq, sD_inj, lstT_inj, ownT_inj, and_true, true_and, and_assoc] at h
  simp only [Prod.ext_iff]; exact h) (a0, a1)
noncomputable def G21 : Ctx := G20.with 51 C_laws_eqIntS
theorem so21 : SoundAll Try.prog G21 := by
  refine layer (cuts := []) (k := 2) (cd := c_laws_eqIntS) (rs := r_laws_eqIntS) (enc := e_laws_eqIntS) mixed so20 Try.func51 (by kernel_rfl) (by kernel_rfl) (by kernel_rfl) (by kernel_rfl) (by kernel_rfl) (by kernel_rfl) (wk := fun y => nocap y) Same.nocap ?_
  intro a out ho
  obtain ⟨r, h1, h2⟩ := Option.bind_eq_some_iff.mp ho
  obtain ⟨hp, rfl⟩ := under_some h1
  obtain ⟨N, hN⟩ := p_laws_eqIntS a.1 a.2 hp
  refine ⟨N, ?_⟩
  refine ((callF_G (fun y => some (nocap y)) 2 c_laws_eqIntS r_laws_eqIntS (e_laws_eqIntS a) ⟨rfl, rfl, rfl⟩).trans (laws_eqIntS_g ⟨G20, [], [], [], N, r_laws_eqIntS, none, fun _ _ => none, fun y => some (nocap y)⟩ rfl rfl rfl rfl rfl (fun _ => rfl) (fun _ => rfl) a.1 a.2)).trans ?_
  show (laws_eqIntS_f N a.1 a.2).bind _ = _
  rw [hN]; exact h2
-- loop.example/s02135/laws.eqArray
noncomputable def S_laws_eqArray (a0_Shape : List Int) (a0_Data : List Int) (a1_Shape : List Int) (a1_Data : List Int) : Option (Bool) := under (pre_laws_eqArray a0_Shape a0_Data a1_Shape a1_Data) (s_laws_eqArray a0_Shape a0_Data a1_Shape a1_Data)
def e_laws_eqArray (a : (List Int) × (List Int) × (List Int) × (List Int)) : List X := [.agg [.d (lstT cI a.1), .d (lstT cI a.2.1)], .agg [.d (lstT cI a.2.2.1), .d (lstT cI a.2.2.2)]]
noncomputable def C_laws_eqArray : List X → Option XOut := lay e_laws_eqArray fun a => ((S_laws_eqArray a.1 a.2.1 a.2.2.1 a.2.2.2)).bind fun r => some (.ret (.d (.bool r)) [])
theorem C_laws_eqArray_eq (a0_Shape : List Int) (a0_Data : List Int) (a1_Shape : List Int) (a1_Data : List Int) : C_laws_eqArray [.agg [.d (lstT cI a0_Shape), .d (lstT cI a0_Data)], .agg [.d (lstT cI a1_Shape), .d (lstT cI a1_Data)]] = ((S_laws_eqArray a0_Shape a0_Data a1_Shape a1_Data)).bind fun r => some (.ret (.d (.bool r)) []) := lay_eq (enc := e_laws_eqArray) (by
  intro a b h
  simp only [e_laws_eqArray, List.cons.injEq, X.d.injEq, X.agg.injEq, X.box.injEq, D.int.injEq, D.bool.injEq, D.fn.injEq, sD_inj, lstT_inj, ownT_inj, and_true, true_and, and_assoc] at h
  simp only [Prod.ext_iff]; exact h) (a0_Shape, a0_Data, a1_Shape, a1_Data)
noncomputable def G22 : Ctx := G21.with 18 C_laws_eqArray
theorem so22 : SoundAll Try.prog G22 := by
  refine layer (cuts := []) (k := 2) (cd := c_laws_eqArray) (rs := r_laws_eqArray) (enc := e_laws_eqArray) mixed so21 Try.func18 (by kernel_rfl) (by kernel_rfl) (by kernel_rfl) (by kernel_rfl) (by kernel_rfl) (by kernel_rfl) (wk := fun y => nocap y) Same.nocap ?_
  intro a out ho
  obtain ⟨r, h1, h2⟩ := Option.bind_eq_some_iff.mp ho
  obtain ⟨hp, rfl⟩ := under_some h1
  obtain ⟨N, hN⟩ := p_laws_eqArray S_laws_eqIntS (fun _ _ h => under_pos h) a.1 a.2.1 a.2.2.1 a.2.2.2 hp
  refine ⟨N, ?_⟩
  refine ((callF_G (fun y => some (nocap y)) 2 c_laws_eqArray r_laws_eqArray (e_laws_eqArray a) ⟨rfl, rfl, rfl⟩).trans (laws_eqArray_g ⟨G21, [], [], [], N, r_laws_eqArray, none, fun _ _ => none, fun y => some (nocap y)⟩ rfl rfl rfl rfl rfl (fun _ => rfl) (fun _ => rfl) rfl S_laws_eqIntS (fun a0 a1 => (show G21 51 _ = _ from rfl).trans (C_laws_eqIntS_eq a0 a1)) a.1 a.2.1 a.2.2.1 a.2.2.2)).trans ?_
  show (laws_eqArray_f S_laws_eqIntS N a.1 a.2.1 a.2.2.1 a.2.2.2).bind _ = _
  rw [hN]; exact h2
-- loop.example/s02135/laws.markIntS
noncomputable def S_laws_markIntS (a0 : List Int) (a1 : Int) : Option (Int × List Int) := under (pre_laws_markIntS a0 a1) (s_laws_markIntS a0 a1)
def e_laws_markIntS (a : (List Int) × Int) : List X := [ownT cI 3 none false a.1, .d (.int .i64 a.2)]
noncomputable def C_laws_markIntS : List X → Option XOut := lay e_laws_markIntS fun a => ((S_laws_markIntS a.1 a.2)).bind fun r => some (.ret (.d (.int .i64 r.1)) [[lstT (cI) r.2]])
theorem C_laws_markIntS_eq (a0 : List Int) (a1 : Int) : C_laws_markIntS [ownT cI 3 none false a0, .d (.int .i64 a1)] = ((S_laws_markIntS a0 a1)).bind fun r => some (.ret (.d (.int .i64 r.1)) [[lstT (cI) r.2]]) := lay_eq (enc := e_laws_markIntS) (by
  intro a b h
  simp only [e_laws_markIntS, List.cons.injEq, X.d.injEq, X.agg.injEq, X.box.injEq, D.int.injEq, D.bool.injEq, D.fn.injEq, sD_inj, lstT_inj, ownT_inj, and_true, true_and, and_assoc] at h
  simp only [Prod.ext_iff]; exact h) (a0, a1)
noncomputable def G23 : Ctx := G22.with 65 C_laws_markIntS true
theorem so23 : SoundAll Try.prog G23 := by
  refine layer (cuts := []) (k := 2) (cd := c_laws_markIntS) (rs := r_laws_markIntS) (enc := e_laws_markIntS) mixed so22 Try.func65 (by kernel_rfl) (by kernel_rfl) (by kernel_rfl) (by kernel_rfl) (by kernel_rfl) (by kernel_rfl) (wk := fun y => nocap y) Same.nocap ?_
  intro a out ho
  obtain ⟨r, h1, h2⟩ := Option.bind_eq_some_iff.mp ho
  obtain ⟨hp, rfl⟩ := under_some h1
  obtain ⟨N, hN⟩ := p_laws_markIntS a.1 a.2 hp
  refine ⟨N, ?_⟩
  refine ((callF_G (fun y => some (nocap y)) 2 c_laws_markIntS r_laws_markIntS (e_laws_markIntS a) ⟨rfl, rfl, rfl⟩).trans (laws_markIntS_g ⟨G22, [0], [0], [(0, 3, 1)], N, r_laws_markIntS, none, fun _ _ => none, fun y => some (nocap y)⟩ rfl rfl rfl rfl rfl (fun _ => rfl) (fun _ => rfl) a.1 a.2)).trans ?_
  show (laws_markIntS_f N a.1 a.2).bind _ = _
  rw [hN]; exact h2
-- loop.example/s02135/laws.markArray
noncomputable def S_laws_markArray (a0_Shape : List Int) (a0_Data : List Int) (a1 : Int) : Option (Int × List Int × List Int) := under (pre_laws_markArray a0_Shape a0_Data a1) (s_laws_markArray a0_Shape a0_Data a1)
def e_laws_markArray (a : (List Int) × (List Int) × Int) : List X := [.agg [ownT cI 3 none false a.1, ownT cI 3 none false a.2.1], .d (.int .i64 a.2.2)]
noncomputable def C_laws_markArray : List X → Option XOut := lay e_laws_markArray fun a => ((S_laws_markArray a.1 a.2.1 a.2.2)).bind fun r => some (.ret (.d (.int .i64 r.1)) [[lstT (cI) r.2.1], [lstT (cI) r.2.2]])
theorem C_laws_markArray_eq (a0_Shape : List Int) (a0_Data : List Int) (a1 : Int) : C_laws_markArray [.agg [ownT cI 3 none false a0_Shape, ownT cI 3 none false a0_Data], .d (.int .i64 a1)] = ((S_laws_markArray a0_Shape a0_Data a1)).bind fun r => some (.ret (.d (.int .i64 r.1)) [[lstT (cI) r.2.1], [lstT (cI) r.2.2]]) := lay_eq (enc := e_laws_markArray) (by
  intro a b h
  simp only [e_laws_markArray, List.cons.injEq, X.d.injEq, X.agg.injEq, X.box.injEq, D.int.injEq, D.bool.injEq, D.fn.injEq, sD_inj, lstT_inj, ownT_inj, and_true, true_and, and_assoc] at h
  simp only [Prod.ext_iff]; exact h) (a0_Shape, a0_Data, a1)
noncomputable def G24 : Ctx := G23.with 26 C_laws_markArray true
theorem so24 : SoundAll Try.prog G24 := by
  refine layer (cuts := []) (k := 2) (cd := c_laws_markArray) (rs := r_laws_markArray) (enc := e_laws_markArray) mixed so23 Try.func26 (by kernel_rfl) (by kernel_rfl) (by kernel_rfl) (by kernel_rfl) (by kernel_rfl) (by kernel_rfl) (wk := fun y => nocap y) Same.nocap ?_
  intro a out ho
  obtain ⟨r, h1, h2⟩ := Option.bind_eq_some_iff.mp ho
  obtain ⟨hp, rfl⟩ := under_some h1
  obtain ⟨N, hN⟩ := p_laws_markArray S_laws_markIntS (fun _ _ h => under_pos h) a.1 a.2.1 a.2.2 hp
  refine ⟨N, ?_⟩
  refine ((callF_G (fun y => some (nocap y)) 2 c_laws_markArray r_laws_markArray (e_laws_markArray a) ⟨rfl, rfl, rfl⟩).trans (laws_markArray_g ⟨G23, [0, 1], [0, 1], [(0, 3, 1), (1, 3, 1)], N, r_laws_markArray, none, fun _ _ => none, fun y => some (nocap y)⟩ rfl rfl rfl rfl rfl (fun _ => rfl) (fun _ => rfl) rfl S_laws_markIntS (fun a0 a1 => (show G23 65 _ = _ from rfl).trans (C_laws_markIntS_eq a0 a1)) a.1 a.2.1 a.2.2)).trans ?_
  show (laws_markArray_f S_laws_markIntS N a.1 a.2.1 a.2.2).bind _ = _
  rw [hN]; exact h2
-- loop.example/s02135/laws.heldIntS
noncomputable def S_laws_heldIntS (a0 : List Int) (a1 : Int) : Option (Int) := under (pre_laws_heldIntS a0 a1) (s_laws_heldIntS a0 a1)
def e_laws_heldIntS (a : (List Int) × Int) : List X := [.d (lstT cI a.1), .d (.int .i64 a.2)]
noncomputable def C_laws_heldIntS : List X → Option XOut := lay e_laws_heldIntS fun a => ((S_laws_heldIntS a.1 a.2)).bind fun r => some (.ret (.d (.int .i64 r)) [])
theorem C_laws_heldIntS_eq (a0 : List Int) (a1 : Int) : C_laws_heldIntS [.d (lstT cI a0), .d (.int .i64 a1)] = ((S_laws_heldIntS a0 a1)).bind fun r => some (.ret (.d (.int .i64 r)) []) := lay_eq (enc := e_laws_heldIntS) (by
  intro a b h
  simp only [e_laws_heldIntS, List.cons.injEq, X.d.injEq, X.agg.injEq, X.box.injEq, D.int.injEq, D.bool.injEq, D.fn.injEq, sD_inj, lstT_inj, ownT_inj, and_true, true_and, and_assoc] at h
  simp only [Prod.ext_iff]; exact h) (a0, a1)
noncomputable def G25 : Ctx := G24.with 66 C_laws_heldIntS
theorem so25 : SoundAll Try.prog G25 := by
  refine layer (cuts := []) (k := 2) (cd := c_laws_heldIntS) (rs := r_laws_heldIntS) (enc := e_laws_heldIntS) mixed so24 Try.func66 (by kernel_rfl) (by kernel_rfl) (by kernel_rfl) (by kernel_rfl) (by kernel_rfl) (by kernel_rfl) (wk := fun y => nocap y) Same.nocap ?_
  intro a out ho
  obtain ⟨r, h1, h2⟩ := Option.bind_eq_some_iff.mp ho
  obtain ⟨hp, rfl⟩ := under_some h1
  obtain ⟨N, hN⟩ := p_laws_heldIntS a.1 a.2 hp
  refine ⟨N, ?_⟩
  refine ((callF_G (fun y => some (nocap y)) 2 c_laws_heldIntS r_laws_heldIntS (e_laws_heldIntS a) ⟨rfl, rfl, rfl⟩).trans (laws_heldIntS_g ⟨G24, [], [], [], N, r_laws_heldIntS, none, fun _ _ => none, fun y => some (nocap y)⟩ rfl rfl rfl rfl rfl (fun _ => rfl) (fun _ => rfl) a.1 a.2)).trans ?_
  show (laws_heldIntS_f N a.1 a.2).bind _ = _
  rw [hN]; exact h2
-- loop.example/s02135/laws.heldArray
noncomputable def S_laws_heldArray (a0_Shape : List Int) (a0_Data : List Int) (a1 : Int) : Option (Int) := under (pre_laws_heldArray a0_Shape a0_Data a1) (s_laws_heldArray a0_Shape a0_Data a1)
def e_laws_heldArray (a : (List Int) × (List Int) × Int) : List X := [.agg [.d (lstT cI a.1), .d (lstT cI a.2.1)], .d (.int .i64 a.2.2)]
noncomputable def C_laws_heldArray : List X → Option XOut := lay e_laws_heldArray fun a => ((S_laws_heldArray a.1 a.2.1 a.2.2)).bind fun r => some (.ret (.d (.int .i64 r)) [])
theorem C_laws_heldArray_eq (a0_Shape : List Int) (a0_Data : List Int) (a1 : Int) : C_laws_heldArray [.agg [.d (lstT cI a0_Shape), .d (lstT cI a0_Data)], .d (.int .i64 a1)] = ((S_laws_heldArray a0_Shape a0_Data a1)).bind fun r => some (.ret (.d (.int .i64 r)) []) := lay_eq (enc := e_laws_heldArray) (by
  intro a b h
  simp only [e_laws_heldArray, List.cons.injEq, X.d.injEq, X.agg.injEq, X.box.injEq, D.int.injEq, D.bool.injEq, D.fn.injEq, sD_inj, lstT_inj, ownT_inj, and_true, true_and, and_assoc] at h
  simp only [Prod.ext_iff]; exact h) (a0_Shape, a0_Data, a1)
noncomputable def G26 : Ctx := G25.with 27 C_laws_heldArray
theorem so26 : SoundAll Try.prog G26 := by
  refine layer (cuts := []) (k := 2) (cd := c_laws_heldArray) (rs := r_laws_heldArray) (enc := e_laws_heldArray) mixed so25 Try.func27 (by kernel_rfl) (by kernel_rfl) (by kernel_rfl) (by kernel_rfl) (by kernel_rfl) (by kernel_rfl) (wk := fun y => nocap y) Same.nocap ?_
  intro a out ho
  obtain ⟨r, h1, h2⟩ := Option.bind_eq_some_iff.mp ho
  obtain ⟨hp, rfl⟩ := under_some h1
  obtain ⟨N, hN⟩ := p_laws_heldArray S_laws_heldIntS (fun _ _ h => under_pos h) a.1 a.2.1 a.2.2 hp
  refine ⟨N, ?_⟩
  refine ((callF_G (fun y => some (nocap y)) 2 c_laws_heldArray r_laws_heldArray (e_laws_heldArray a) ⟨rfl, rfl, rfl⟩).trans (laws_heldArray_g ⟨G25, [], [], [], N, r_laws_heldArray, none, fun _ _ => none, fun y => some (nocap y)⟩ rfl rfl rfl rfl rfl (fun _ => rfl) (fun _ => rfl) rfl S_laws_heldIntS (fun a0 a1 => (show G25 66 _ = _ from rfl).trans (C_laws_heldIntS_eq a0 a1)) a.1 a.2.1 a.2.2)).trans ?_
  show (laws_heldArray_f S_laws_heldIntS N a.1 a.2.1 a.2.2).bind _ = _
  rw [hN]; exact h2
-- loop.example/s02135/laws.FnExactEach1
noncomputable def S_laws_FnExactEach1 (a0 : Int) (a1_Shape : List Int) (a1_Data : List Int) : Option (Bool) := under (pre_laws_FnExactEach1 a0 a1_Shape a1_Data) (s_laws_FnExactEach1 a0 a1_Shape a1_Data)
def e_laws_FnExactEach1 (a : Int × (List Int) × (List Int)) : List X := [.d (.int .i64 a.1), .agg [.d (lstT cI a.2.1), .d (lstT cI a.2.2)]]
noncomputable def C_laws_FnExactEach1 : List X → Option XOut := lay e_laws_FnExactEach1 fun a => ((S_laws_FnExactEach1 a.1 a.2.1 a.2.2)).bind fun r => some (.ret (.d (.bool r)) [])
theorem C_laws_FnExactEach1_eq (a0 : Int) (a1_Shape : List Int) (a1_Data : List Int) : C_laws_FnExactEach1 [.d (.int .i64 a0), .agg [.d (lstT cI a1_Shape), .d (lstT cI a1_Data)]] = ((S_laws_FnExactEach1 a0 a1_Shape a1_Data)).bind fun r => some (.ret (.d (.bool r)) []) := lay_eq (enc := e_laws_FnExactEach1) (by
  intro a b h
  simp only [e_laws_FnExactEach1, List.cons.injEq, X.d.injEq, X.agg.injEq, X.box.injEq, D.int.injEq, D.bool.injEq, D.fn.injEq, sD_inj, lstT_inj, ownT_inj, and_true, true_and, and_assoc] at h
  simp only [Prod.ext_iff]; exact h) (a0, a1_Shape, a1_Data)
noncomputable def G27 : Ctx := G26.with 5 C_laws_FnExactEach1
theorem so27 : SoundAll Try.prog G27 := by
  refine layer (cuts := []) (k := 2) (cd := c_laws_FnExactEach1) (rs := r_laws_FnExactEach1) (enc := e_laws_FnExactEach1) mixed so26 Try.func5 (by kernel_rfl) (by kernel_rfl) (by kernel_rfl) (by kernel_rfl) (by kernel_rfl) (by kernel_rfl) (wk := fun y => nocap y) Same.nocap ?_
  intro a out ho
  obtain ⟨r, h1, h2⟩ := Option.bind_eq_some_iff.mp ho
  obtain ⟨hp, rfl⟩ := under_some h1
  obtain ⟨N, hN⟩ := p_laws_FnExactEach1 S_laws_szArray (fun _ _ _ h => under_pos h) S_laws_toArray (fun _ _ h => under_pos h) S_spec_Each1 (fun _ _ _ h => under_pos h) S_impl_Each1 (fun _ _ _ h => under_pos h) S_laws_eqArray (fun _ _ _ _ h => under_pos h) S_laws_markArray (fun _ _ _ h => under_pos h) S_laws_heldArray (fun _ _ _ h => under_pos h) a.1 a.2.1 a.2.2 hp
  refine ⟨N, ?_⟩
  refine ((callF_G (fun y => some (nocap y)) 2 c_laws_FnExactEach1 r_laws_FnExactEach1 (e_laws_FnExactEach1 a) ⟨rfl, rfl, rfl⟩).trans (laws_FnExactEach1_g ⟨G26, [], [], [], N, r_laws_FnExactEach1, none, fun _ _ => none, fun y => some (nocap y)⟩ rfl rfl rfl rfl rfl (fun _ => rfl) (fun _ => rfl) rfl S_laws_szArray (fun a0_Shape a0_Data a1 => (show G26 14 _ = _ from rfl).trans (C_laws_szArray_eq a0_Shape a0_Data a1)) rfl S_laws_toArray (fun a0_Shape a0_Data => (show G26 16 _ = _ from rfl).trans (C_laws_toArray_eq a0_Shape a0_Data)) rfl S_spec_Each1 (fun a0 a1_Shape a1_Data => (show G26 24 _ = _ from rfl).trans (C_spec_Each1_eq a0 a1_Shape a1_Data)) rfl S_impl_Each1 (fun a0 a1_Shape a1_Data => (show G26 25 _ = _ from rfl).trans (C_impl_Each1_eq a0 a1_Shape a1_Data)) rfl S_laws_eqArray (fun a0_Shape a0_Data a1_Shape a1_Data => (show G26 18 _ = _ from rfl).trans (C_laws_eqArray_eq a0_Shape a0_Data a1_Shape a1_Data)) rfl S_laws_markArray (fun a0_Shape a0_Data a1 => (show G26 26 _ = _ from rfl).trans (C_laws_markArray_eq a0_Shape a0_Data a1)) rfl S_laws_heldArray (fun a0_Shape a0_Data a1 => (show G26 27 _ = _ from rfl).trans (C_laws_heldArray_eq a0_Shape a0_Data a1)) a.1 a.2.1 a.2.2)).trans ?_
  show (laws_FnExactEach1_f S_laws_szArray S_laws_toArray S_spec_Each1 S_impl_Each1 S_laws_eqArray S_laws_markArray S_laws_heldArray N a.1 a.2.1 a.2.2).bind _ = _
  rw [hN]; exact h2
theorem law : Sound Try.prog 5 C_laws_FnExactEach1 := by
  have h := so27 5
  exact h
end Go.Proofs.Ytejgcpankckdkaa.TowEach1
