/- The contracts of the functions under laws_FnExactInner, one upon the other. Printed by a program of this session. -/
import Derived.Test.YtejgcpankckdkaaFInner
import Derived.Test.YtejgcpankckdkaaPInner
import Derived.Test.YtejgcpankckdkaaVmLayer
import Derived.Test.YtejgcpankckdkaaProg
set_option linter.all false
set_option maxRecDepth 100000
namespace Go.Proofs.Ytejgcpankckdkaa.TowInner
open Go.Vm
theorem mixed : Try.prog.follows .mixedOrders = true := by kernel_rfl
noncomputable def G0 : Ctx := Γ0 flatIds
theorem so0 : SoundAll Try.prog G0 := Γ0_sound _ _
-- loop.example/s02135/laws.szIntS
noncomputable def S_laws_szIntS (a0 : List Int) (a1 : Int) : Option (Int) := under (pre_laws_szIntS a0 a1) (s_laws_szIntS a0 a1)
def e_laws_szIntS (a : (List Int) × Int) : List X := [.d (lstT cI a.1), .d (.int .i64 a.2)]
noncomputable def C_laws_szIntS : List X → Option XOut := lay e_laws_szIntS fun a => ((S_laws_szIntS a.1 a.2)).bind fun r => some (.ret (.d (.int .i64 r)) [])
theorem C_laws_szIntS_eq (a0 : List Int) (a1 : Int) : C_laws_szIntS [.d (lstT cI a0), .d (.int .i64 a1)] = ((S_laws_szIntS a0 a1)).bind fun r => some (.ret (.d (.int .i64 r)) []) := lay_eq (enc := e_laws_szIntS) (by
  intro a b h
  simp only [e_laws_szIntS, List.cons.injEq, X.d.injEq, X.agg.injEq, X.box.injEq, D.int.injEq, D.bool.injEq, D.fn.injEq, sD_inj, lstT_inj, ownT_inj, and_true, true_and, and_assoc] at h
  simp only [Prod.ext_iff]; exact h) (a0, a1)
noncomputable def G1 : Ctx := G0.with 46 C_laws_szIntS
theorem so1 : SoundAll Try.prog G1 := by
  refine layer (cuts := []) (k := 2) (cd := c_laws_szIntS) (rs := r_laws_szIntS) (enc := e_laws_szIntS) mixed so0 Try.func46 (by kernel_rfl) (by kernel_rfl) (by kernel_rfl) (by kernel_rfl) (by kernel_rfl) (by kernel_rfl) (wk := fun y => nocap y) Same.nocap ?_
  intro a out ho
  obtain ⟨r, h1, h2⟩ := Option.bind_eq_some_iff.mp ho
  obtain ⟨hp, rfl⟩ := under_some h1
  obtain ⟨N, hN⟩ := p_laws_szIntS a.1 a.2 hp
  refine ⟨N, ?_⟩
  refine ((callF_G (fun y => some (nocap y)) 2 c_laws_szIntS r_laws_szIntS (e_laws_szIntS a) ⟨rfl, rfl, rfl⟩).trans (laws_szIntS_g ⟨G0, [], [], [], N, r_laws_szIntS, none, fun _ _ => none, fun y => some (nocap y)⟩ rfl rfl rfl rfl rfl (fun _ => rfl) (fun _ => rfl) a.1 a.2)).trans ?_
  show (laws_szIntS_f N a.1 a.2).bind _ = _
  rw [hN]; exact h2
-- loop.example/s02135/laws.szArray
noncomputable def S_laws_szArray (a0_Shape : List Int) (a0_Data : List Int) (a1 : Int) : Option (Int) := under (pre_laws_szArray a0_Shape a0_Data a1) (s_laws_szArray a0_Shape a0_Data a1)
def e_laws_szArray (a : (List Int) × (List Int) × Int) : List X := [.agg [.d (lstT cI a.1), .d (lstT cI a.2.1)], .d (.int .i64 a.2.2)]
noncomputable def C_laws_szArray : List X → Option XOut := lay e_laws_szArray fun a => ((S_laws_szArray a.1 a.2.1 a.2.2)).bind fun r => some (.ret (.d (.int .i64 r)) [])
theorem C_laws_szArray_eq (a0_Shape : List Int) (a0_Data : List Int) (a1 : Int) : C_laws_szArray [.agg [.d (lstT cI a0_Shape), .d (lstT cI a0_Data)], .d (.int .i64 a1)] = ((S_laws_szArray a0_Shape a0_Data a1)).bind fun r => some (.ret (.d (.int .i64 r)) []) := lay_eq (enc := e_laws_szArray) (by
  intro a b h
  simp only [e_laws_szArray, List.cons.injEq, X.d.injEq, X.agg.injEq, X.box.injEq, D.int.injEq, D.bool.injEq, D.fn.injEq, sD_inj, lstT_inj, ownT_inj, and_true, true_and, and_assoc] at h
  simp only [Prod.ext_iff]; exact h) (a0_Shape, a0_Data, a1)
noncomputable def G2 : Ctx := G1.with 14 C_laws_szArray
theorem so2 : SoundAll Try.prog G2 := by
  refine layer (cuts := []) (k := 2) (cd := c_laws_szArray) (rs := r_laws_szArray) (enc := e_laws_szArray) mixed so1 Try.func14 (by kernel_rfl) (by kernel_rfl) (by kernel_rfl) (by kernel_rfl) (by kernel_rfl) (by kernel_rfl) (wk := fun y => nocap y) Same.nocap ?_
  intro a out ho
  obtain ⟨r, h1, h2⟩ := Option.bind_eq_some_iff.mp ho
  obtain ⟨hp, rfl⟩ := under_some h1
  obtain ⟨N, hN⟩ := p_laws_szArray S_laws_szIntS (fun _ _ h => under_pos h) a.1 a.2.1 a.2.2 hp
  refine ⟨N, ?_⟩
  refine ((callF_G (fun y => some (nocap y)) 2 c_laws_szArray r_laws_szArray (e_laws_szArray a) ⟨rfl, rfl, rfl⟩).trans (laws_szArray_g ⟨G1, [], [], [], N, r_laws_szArray, none, fun _ _ => none, fun y => some (nocap y)⟩ rfl rfl rfl rfl rfl (fun _ => rfl) (fun _ => rfl) rfl S_laws_szIntS (fun a0 a1 => (show G1 46 _ = _ from rfl).trans (C_laws_szIntS_eq a0 a1)) a.1 a.2.1 a.2.2)).trans ?_
  show (laws_szArray_f S_laws_szIntS N a.1 a.2.1 a.2.2).bind _ = _
  rw [hN]; exact h2
-- loop.example/s02135/laws.toIntS
noncomputable def S_laws_toIntS (a0 : List Int) : Option (List Int) := under (pre_laws_toIntS a0) (s_laws_toIntS a0)
def e_laws_toIntS (a : (List Int)) : List X := [.d (lstT cI a)]
noncomputable def C_laws_toIntS : List X → Option XOut := lay e_laws_toIntS fun a => ((S_laws_toIntS a)).bind fun r => some (.ret (ownT (cI) 3 none false r) [])
theorem C_laws_toIntS_eq (a0 : List Int) : C_laws_toIntS [.d (lstT cI a0)] = ((S_laws_toIntS a0)).bind fun r => some (.ret (ownT (cI) 3 none false r) []) := lay_eq (enc := e_laws_toIntS) (by
  intro a b h
  simp only [e_laws_toIntS, List.cons.injEq, X.d.injEq, X.agg.injEq, X.box.injEq, D.int.injEq, D.bool.injEq, D.fn.injEq, sD_inj, lstT_inj, ownT_inj, and_true, true_and, and_assoc] at h
  exact h) a0
noncomputable def G3 : Ctx := G2.with 49 C_laws_toIntS
theorem so3 : SoundAll Try.prog G3 := by
  refine layer (cuts := []) (k := 1) (cd := c_laws_toIntS) (rs := r_laws_toIntS) (enc := e_laws_toIntS) mixed so2 Try.func49 (by kernel_rfl) (by kernel_rfl) (by kernel_rfl) (by kernel_rfl) (by kernel_rfl) (by kernel_rfl) (wk := fun y => nocap y) Same.nocap ?_
  intro a out ho
  obtain ⟨r, h1, h2⟩ := Option.bind_eq_some_iff.mp ho
  obtain ⟨hp, rfl⟩ := under_some h1
  obtain ⟨N, hN⟩ := p_laws_toIntS a hp
  refine ⟨N, ?_⟩
  refine ((callF_G (fun y => some (nocap y)) 1 c_laws_toIntS r_laws_toIntS (e_laws_toIntS a) ⟨rfl, rfl, rfl⟩).trans (laws_toIntS_g ⟨G2, [], [], [], N, r_laws_toIntS, none, fun _ _ => none, fun y => some (nocap y)⟩ rfl rfl rfl rfl rfl (fun _ => rfl) (fun _ => rfl) a)).trans ?_
  show (laws_toIntS_f N a).bind _ = _
  rw [hN]; exact h2
-- loop.example/s02135/laws.toArray
noncomputable def S_laws_toArray (a0_Shape : List Int) (a0_Data : List Int) : Option (List Int × List Int) := under (pre_laws_toArray a0_Shape a0_Data) (s_laws_toArray a0_Shape a0_Data)
def e_laws_toArray (a : (List Int) × (List Int)) : List X := [.agg [.d (lstT cI a.1), .d (lstT cI a.2)]]
noncomputable def C_laws_toArray : List X → Option XOut := lay e_laws_toArray fun a => ((S_laws_toArray a.1 a.2)).bind fun r => some (.ret (.agg [ownT (cI) 3 none false r.1, ownT (cI) 3 none false r.2]) [])
theorem C_laws_toArray_eq (a0_Shape : List Int) (a0_Data : List Int) : C_laws_toArray [.agg [.d (lstT cI a0_Shape), .d (lstT cI a0_Data)]] = ((S_laws_toArray a0_Shape a0_Data)).bind fun r => some (.ret (.agg [ownT (cI) 3 none false r.1, ownT (cI) 3 none false r.2]) []) := lay_eq (enc := e_laws_toArray) (by
  intro a b h
  simp only [e_laws_toArray, List.cons.injEq, X.d.injEq, X.agg.injEq, X.box.injEq, D.int.injEq, D.bool.injEq, D.fn.injEq, sD_inj, lstT_inj, ownT_inj, and_true, true_and, and_assoc] at h
  simp only [Prod.ext_iff]; exact h) (a0_Shape, a0_Data)
noncomputable def G4 : Ctx := G3.with 16 C_laws_toArray
theorem so4 : SoundAll Try.prog G4 := by
  refine layer (cuts := []) (k := 1) (cd := c_laws_toArray) (rs := r_laws_toArray) (enc := e_laws_toArray) mixed so3 Try.func16 (by kernel_rfl) (by kernel_rfl) (by kernel_rfl) (by kernel_rfl) (by kernel_rfl) (by kernel_rfl) (wk := fun y => nocap y) Same.nocap ?_
  intro a out ho
  obtain ⟨r, h1, h2⟩ := Option.bind_eq_some_iff.mp ho
  obtain ⟨hp, rfl⟩ := under_some h1
  obtain ⟨N, hN⟩ := p_laws_toArray S_laws_toIntS (fun _ h => under_pos h) a.1 a.2 hp
  refine ⟨N, ?_⟩
  refine ((callF_G (fun y => some (nocap y)) 1 c_laws_toArray r_laws_toArray (e_laws_toArray a) ⟨rfl, rfl, rfl⟩).trans (laws_toArray_g ⟨G3, [], [], [], N, r_laws_toArray, none, fun _ _ => none, fun y => some (nocap y)⟩ rfl rfl rfl rfl rfl (fun _ => rfl) (fun _ => rfl) rfl S_laws_toIntS (fun a0 => (show G3 49 _ = _ from rfl).trans (C_laws_toIntS_eq a0)) a.1 a.2)).trans ?_
  show (laws_toArray_f S_laws_toIntS N a.1 a.2).bind _ = _
  rw [hN]; exact h2
-- loop.example/s02135/spec.l2OpOk
noncomputable def S_spec_l2OpOk (a0 : Int) : Option (Bool) := under (pre_spec_l2OpOk a0) (s_spec_l2OpOk a0)
def e_spec_l2OpOk (a : Int) : List X := [.d (.int .i64 a)]
noncomputable def C_spec_l2OpOk : List X → Option XOut := lay e_spec_l2OpOk fun a => ((S_spec_l2OpOk a)).bind fun r => some (.ret (.d (.bool r)) [])
theorem C_spec_l2OpOk_eq (a0 : Int) : C_spec_l2OpOk [.d (.int .i64 a0)] = ((S_spec_l2OpOk a0)).bind fun r => some (.ret (.d (.bool r)) []) := lay_eq (enc := e_spec_l2OpOk) (by
  intro a b h
  simp only [e_spec_l2OpOk, List.cons.injEq, X.d.injEq, X.agg.injEq, X.box.injEq, D.int.injEq, D.bool.injEq, D.fn.injEq, sD_inj, lstT_inj, ownT_inj, and_true, true_and, and_assoc] at h
  exact h) a0
noncomputable def G5 : Ctx := G4.with 67 C_spec_l2OpOk
theorem so5 : SoundAll Try.prog G5 := by
  refine layer (cuts := []) (k := 1) (cd := c_spec_l2OpOk) (rs := r_spec_l2OpOk) (enc := e_spec_l2OpOk) mixed so4 Try.func67 (by kernel_rfl) (by kernel_rfl) (by kernel_rfl) (by kernel_rfl) (by kernel_rfl) (by kernel_rfl) (wk := fun y => nocap y) Same.nocap ?_
  intro a out ho
  obtain ⟨r, h1, h2⟩ := Option.bind_eq_some_iff.mp ho
  obtain ⟨hp, rfl⟩ := under_some h1
  obtain ⟨N, hN⟩ := p_spec_l2OpOk a hp
  refine ⟨N, ?_⟩
  refine ((callF_G (fun y => some (nocap y)) 1 c_spec_l2OpOk r_spec_l2OpOk (e_spec_l2OpOk a) ⟨rfl, rfl, rfl⟩).trans (spec_l2OpOk_g ⟨G4, [], [], [], N, r_spec_l2OpOk, none, fun _ _ => none, fun y => some (nocap y)⟩ rfl rfl rfl rfl rfl (fun _ => rfl) (fun _ => rfl) a)).trans ?_
  show (spec_l2OpOk_f N a).bind _ = _
  rw [hN]; exact h2
-- loop.example/s02135/spec.l1Product
noncomputable def S_spec_l1Product (a0 : List Int) : Option (Int) := under (pre_spec_l1Product a0) (s_spec_l1Product a0)
def e_spec_l1Product (a : (List Int)) : List X := [.d (lstT cI a)]
noncomputable def C_spec_l1Product : List X → Option XOut := lay e_spec_l1Product fun a => ((S_spec_l1Product a)).bind fun r => some (.ret (.d (.int .i64 r)) [])
theorem C_spec_l1Product_eq (a0 : List Int) : C_spec_l1Product [.d (lstT cI a0)] = ((S_spec_l1Product a0)).bind fun r => some (.ret (.d (.int .i64 r)) []) := lay_eq (enc := e_spec_l1Product) (by
  intro a b h
  simp only [e_spec_l1Product, List.cons.injEq, X.d.injEq, X.agg.injEq, X.box.injEq, D.int.injEq, D.bool.injEq, D.fn.injEq, sD_inj, lstT_inj, ownT_inj, and_true, true_and, and_assoc] at h
  exact h) a0
noncomputable def G6 : Ctx := G5.with 48 C_spec_l1Product
theorem so6 : SoundAll Try.prog G6 := by
  refine layer (cuts := []) (k := 1) (cd := c_spec_l1Product) (rs := r_spec_l1Product) (enc := e_spec_l1Product) mixed so5 Try.func48 (by kernel_rfl) (by kernel_rfl) (by kernel_rfl) (by kernel_rfl) (by kernel_rfl) (by kernel_rfl) (wk := fun y => nocap y) Same.nocap ?_
  intro a out ho
  obtain ⟨r, h1, h2⟩ := Option.bind_eq_some_iff.mp ho
  obtain ⟨hp, rfl⟩ := under_some h1
  obtain ⟨N, hN⟩ := p_spec_l1Product a hp
  refine ⟨N, ?_⟩
  refine ((callF_G (fun y => some (nocap y)) 1 c_spec_l1Product r_spec_l1Product (e_spec_l1Product a) ⟨rfl, rfl, rfl⟩).trans (spec_l1Product_g ⟨G5, [], [], [], N, r_spec_l1Product, none, fun _ _ => none, fun y => some (nocap y)⟩ rfl rfl rfl rfl rfl (fun _ => rfl) (fun _ => rfl) a)).trans ?_
  show (spec_l1Product_f N a).bind _ = _
  rw [hN]; exact h2
-- loop.example/s02135/spec.l1Fits
noncomputable def S_spec_l1Fits (a0 : List Int) : Option (Bool) := under (pre_spec_l1Fits a0) (s_spec_l1Fits a0)
def e_spec_l1Fits (a : (List Int)) : List X := [.d (lstT cI a)]
noncomputable def C_spec_l1Fits : List X → Option XOut := lay e_spec_l1Fits fun a => ((S_spec_l1Fits a)).bind fun r => some (.ret (.d (.bool r)) [])
theorem C_spec_l1Fits_eq (a0 : List Int) : C_spec_l1Fits [.d (lstT cI a0)] = ((S_spec_l1Fits a0)).bind fun r => some (.ret (.d (.bool r)) []) := lay_eq (enc := e_spec_l1Fits) (by
  intro a b h
  simp only [e_spec_l1Fits, List.cons.injEq, X.d.injEq, X.agg.injEq, X.box.injEq, D.int.injEq, D.bool.injEq, D.fn.injEq, sD_inj, lstT_inj, ownT_inj, and_true, true_and, and_assoc] at h
  exact h) a0
noncomputable def G7 : Ctx := G6.with 47 C_spec_l1Fits
theorem so7 : SoundAll Try.prog G7 := by
  refine layer (cuts := []) (k := 1) (cd := c_spec_l1Fits) (rs := r_spec_l1Fits) (enc := e_spec_l1Fits) mixed so6 Try.func47 (by kernel_rfl) (by kernel_rfl) (by kernel_rfl) (by kernel_rfl) (by kernel_rfl) (by kernel_rfl) (wk := fun y => nocap y) Same.nocap ?_
  intro a out ho
  obtain ⟨r, h1, h2⟩ := Option.bind_eq_some_iff.mp ho
  obtain ⟨hp, rfl⟩ := under_some h1
  obtain ⟨N, hN⟩ := p_spec_l1Fits S_spec_l1Product (fun _ h => under_pos h) a hp
  refine ⟨N, ?_⟩
  refine ((callF_G (fun y => some (nocap y)) 1 c_spec_l1Fits r_spec_l1Fits (e_spec_l1Fits a) ⟨rfl, rfl, rfl⟩).trans (spec_l1Fits_g ⟨G6, [], [], [], N, r_spec_l1Fits, none, fun _ _ => none, fun y => some (nocap y)⟩ rfl rfl rfl rfl rfl (fun _ => rfl) (fun _ => rfl) rfl S_spec_l1Product (fun a0 => (show G6 48 _ = _ from rfl).trans (C_spec_l1Product_eq a0)) a)).trans ?_
  show (spec_l1Fits_f S_spec_l1Product N a).bind _ = _
  rw [hN]; exact h2
-- loop.example/s02135/spec.ArrayOk
noncomputable def S_spec_ArrayOk (a0_Shape : List Int) (a0_Data : List Int) : Option (Bool) := under (pre_spec_ArrayOk a0_Shape a0_Data) (s_spec_ArrayOk a0_Shape a0_Data)
def e_spec_ArrayOk (a : (List Int) × (List Int)) : List X := [.agg [.d (lstT cI a.1), .d (lstT cI a.2)]]
noncomputable def C_spec_ArrayOk : List X → Option XOut := lay e_spec_ArrayOk fun a => ((S_spec_ArrayOk a.1 a.2)).bind fun r => some (.ret (.d (.bool r)) [])
theorem C_spec_ArrayOk_eq (a0_Shape : List Int) (a0_Data : List Int) : C_spec_ArrayOk [.agg [.d (lstT cI a0_Shape), .d (lstT cI a0_Data)]] = ((S_spec_ArrayOk a0_Shape a0_Data)).bind fun r => some (.ret (.d (.bool r)) []) := lay_eq (enc := e_spec_ArrayOk) (by
  intro a b h
  simp only [e_spec_ArrayOk, List.cons.injEq, X.d.injEq, X.agg.injEq, X.box.injEq, D.int.injEq, D.bool.injEq, D.fn.injEq, sD_inj, lstT_inj, ownT_inj, and_true, true_and, and_assoc] at h
  simp only [Prod.ext_iff]; exact h) (a0_Shape, a0_Data)
noncomputable def G8 : Ctx := G7.with 15 C_spec_ArrayOk
theorem so8 : SoundAll Try.prog G8 := by
  refine layer (cuts := []) (k := 1) (cd := c_spec_ArrayOk) (rs := r_spec_ArrayOk) (enc := e_spec_ArrayOk) mixed so7 Try.func15 (by kernel_rfl) (by kernel_rfl) (by kernel_rfl) (by kernel_rfl) (by kernel_rfl) (by kernel_rfl) (wk := fun y => nocap y) Same.nocap ?_
  intro a out ho
  obtain ⟨r, h1, h2⟩ := Option.bind_eq_some_iff.mp ho
  obtain ⟨hp, rfl⟩ := under_some h1
  obtain ⟨N, hN⟩ := p_spec_ArrayOk S_spec_l1Fits (fun _ h => under_pos h) S_spec_l1Product (fun _ h => under_pos h) a.1 a.2 hp
  refine ⟨N, ?_⟩
  refine ((callF_G (fun y => some (nocap y)) 1 c_spec_ArrayOk r_spec_ArrayOk (e_spec_ArrayOk a) ⟨rfl, rfl, rfl⟩).trans (spec_ArrayOk_g ⟨G7, [], [], [], N, r_spec_ArrayOk, none, fun _ _ => none, fun y => some (nocap y)⟩ rfl rfl rfl rfl rfl (fun _ => rfl) (fun _ => rfl) rfl S_spec_l1Fits (fun a0 => (show G7 47 _ = _ from rfl).trans (C_spec_l1Fits_eq a0)) rfl S_spec_l1Product (fun a0 => (show G7 48 _ = _ from rfl).trans (C_spec_l1Product_eq a0)) a.1 a.2)).trans ?_
  show (spec_ArrayOk_f S_spec_l1Fits S_spec_l1Product N a.1 a.2).bind _ = _
  rw [hN]; exact h2
-- loop.example/s02135/spec.l2Copy
noncomputable def S_spec_l2Copy (a0 : List Int) : Option (List Int) := under (pre_spec_l2Copy a0) (s_spec_l2Copy a0)
def e_spec_l2Copy (a : (List Int)) : List X := [.d (lstT cI a)]
noncomputable def C_spec_l2Copy : List X → Option XOut := lay e_spec_l2Copy fun a => ((S_spec_l2Copy a)).bind fun r => some (.ret (ownT (cI) 3 none false r) [])
theorem C_spec_l2Copy_eq (a0 : List Int) : C_spec_l2Copy [.d (lstT cI a0)] = ((S_spec_l2Copy a0)).bind fun r => some (.ret (ownT (cI) 3 none false r) []) := lay_eq (enc := e_spec_l2Copy) (by
  intro a b h
  simp only [e_spec_l2Copy, List.cons.injEq, X.d.injEq, X.agg.injEq, X.box.injEq, D.int.injEq, D.bool.injEq, D.fn.injEq, sD_inj, lstT_inj, ownT_inj, and_true, true_and, and_assoc] at h
  exact h) a0
noncomputable def G9 : Ctx := G8.with 57 C_spec_l2Copy
theorem so9 : SoundAll Try.prog G9 := by
  refine layer (cuts := []) (k := 1) (cd := c_spec_l2Copy) (rs := r_spec_l2Copy) (enc := e_spec_l2Copy) mixed so8 Try.func57 (by kernel_rfl) (by kernel_rfl) (by kernel_rfl) (by kernel_rfl) (by kernel_rfl) (by kernel_rfl) (wk := fun y => nocap y) Same.nocap ?_
  intro a out ho
  obtain ⟨r, h1, h2⟩ := Option.bind_eq_some_iff.mp ho
  obtain ⟨hp, rfl⟩ := under_some h1
  obtain ⟨N, hN⟩ := p_spec_l2Copy a hp
  refine ⟨N, ?_⟩
  refine ((callF_G (fun y => some (nocap y)) 1 c_spec_l2Copy r_spec_l2Copy (e_spec_l2Copy a) ⟨rfl, rfl, rfl⟩).trans (spec_l2Copy_g ⟨G8, [], [], [], N, r_spec_l2Copy, none, fun _ _ => none, fun y => some (nocap y)⟩ rfl rfl rfl rfl rfl (fun _ => rfl) (fun _ => rfl) a)).trans ?_
  show (spec_l2Copy_f N a).bind _ = _
  rw [hN]; exact h2
-- loop.example/s02135/spec.l2Made
noncomputable def S_spec_l2Made (a0 : List Int) (a1 : List Int) : Option (Alt (List Int × List Int) (List Int × List Int)) := under (pre_spec_l2Made a0 a1) (s_spec_l2Made a0 a1)
def e_spec_l2Made (a : (List Int) × (List Int)) : List X := [ownT cI 3 none false a.1, ownT cI 3 none false a.2]
noncomputable def C_spec_l2Made : List X → Option XOut := lay e_spec_l2Made fun a => ((S_spec_l2Made a.1 a.2)).bind fun r => r.on (fun r => some (.ret (.tup [.agg [.nil, .nil], .d (.int .i64 6)]) [[lstT (cI) r.1], [lstT (cI) r.2]])) (fun r => some (.ret (.tup [.agg [.par 0, .par 1], .d (.int .i64 0)]) [[lstT (cI) r.1], [lstT (cI) r.2]]))
theorem C_spec_l2Made_eq (a0 : List Int) (a1 : List Int) : C_spec_l2Made [ownT cI 3 none false a0, ownT cI 3 none false a1] = ((S_spec_l2Made a0 a1)).bind fun r => r.on (fun r => some (.ret (.tup [.agg [.nil, .nil], .d (.int .i64 6)]) [[lstT (cI) r.1], [lstT (cI) r.2]])) (fun r => some (.ret (.tup [.agg [.par 0, .par 1], .d (.int .i64 0)]) [[lstT (cI) r.1], [lstT (cI) r.2]])) := lay_eq (enc := e_spec_l2Made) (by
  intro a b h
  simp only [e_spec_l2Made, List.cons.injEq, X.d.injEq, X.agg.injEq, X.box.injEq, D.int.injEq, D.bool.injEq, D.fn.injEq, sD_inj, lstT_inj, ownT_inj, and_true, true_and, and_assoc] at h
  simp only [Prod.ext_iff]; exact h) (a0, a1)
noncomputable def G10 : Ctx := G9.with 71 C_spec_l2Made true
theorem so10 : SoundAll Try.prog G10 := by
  refine layer (cuts := []) (k := 2) (cd := c_spec_l2Made) (rs := r_spec_l2Made) (enc := e_spec_l2Made) mixed so9 Try.func71 (by kernel_rfl) (by kernel_rfl) (by kernel_rfl) (by kernel_rfl) (by kernel_rfl) (by kernel_rfl) (wk := fun y => nocap y) Same.nocap ?_
  intro a out ho
  obtain ⟨r, h1, h2⟩ := Option.bind_eq_some_iff.mp ho
  obtain ⟨hp, rfl⟩ := under_some h1
  obtain ⟨N, hN⟩ := p_spec_l2Made S_spec_l1Fits (fun _ h => under_pos h) a.1 a.2 hp
  refine ⟨N, ?_⟩
  refine ((callF_G (fun y => some (nocap y)) 2 c_spec_l2Made r_spec_l2Made (e_spec_l2Made a) ⟨rfl, rfl, rfl⟩).trans (spec_l2Made_g ⟨G9, [0, 64], [0, 64], [(0, 3, 1), (64, 3, 1)], N, r_spec_l2Made, none, fun _ _ => none, fun y => some (nocap y)⟩ rfl rfl rfl rfl rfl (fun _ => rfl) (fun _ => rfl) rfl S_spec_l1Fits (fun a0 => (show G9 47 _ = _ from rfl).trans (C_spec_l1Fits_eq a0)) a.1 a.2)).trans ?_
  show (spec_l2Made_f S_spec_l1Fits N a.1 a.2).bind _ = _
  rw [hN]; exact h2
-- loop.example/s02135/spec.l2Vector
noncomputable def S_spec_l2Vector (a0 : List Int) : Option (List Int × List Int) := under (pre_spec_l2Vector a0) (s_spec_l2Vector a0)
def e_spec_l2Vector (a : (List Int)) : List X := [.d (lstT cI a)]
noncomputable def C_spec_l2Vector : List X → Option XOut := lay e_spec_l2Vector fun a => ((S_spec_l2Vector a)).bind fun r => some (.ret (.agg [ownT (cI) 3 none false r.1, ownT (cI) 3 none false r.2]) [])
theorem C_spec_l2Vector_eq (a0 : List Int) : C_spec_l2Vector [.d (lstT cI a0)] = ((S_spec_l2Vector a0)).bind fun r => some (.ret (.agg [ownT (cI) 3 none false r.1, ownT (cI) 3 none false r.2]) []) := lay_eq (enc := e_spec_l2Vector) (by
  intro a b h
  simp only [e_spec_l2Vector, List.cons.injEq, X.d.injEq, X.agg.injEq, X.box.injEq, D.int.injEq, D.bool.injEq, D.fn.injEq, sD_inj, lstT_inj, ownT_inj, and_true, true_and, and_assoc] at h
  exact h) a0
noncomputable def G11 : Ctx := G10.with 79 C_spec_l2Vector
theorem so11 : SoundAll Try.prog G11 := by
  refine layer (cuts := []) (k := 1) (cd := c_spec_l2Vector) (rs := r_spec_l2Vector) (enc := e_spec_l2Vector) mixed so10 Try.func79 (by kernel_rfl) (by kernel_rfl) (by kernel_rfl) (by kernel_rfl) (by kernel_rfl) (by kernel_rfl) (wk := fun y => nocap y) Same.nocap ?_
  intro a out ho
  obtain ⟨r, h1, h2⟩ := Option.bind_eq_some_iff.mp ho
  obtain ⟨hp, rfl⟩ := under_some h1
  obtain ⟨N, hN⟩ := p_spec_l2Vector S_spec_l2Copy (fun _ h => under_pos h) a hp
  refine ⟨N, ?_⟩
  refine ((callF_G (fun y => some (nocap y)) 1 c_spec_l2Vector r_spec_l2Vector (e_spec_l2Vector a) ⟨rfl, rfl, rfl⟩).trans (spec_l2Vector_g ⟨G10, [], [], [], N, r_spec_l2Vector, none, fun _ _ => none, fun y => some (nocap y)⟩ rfl rfl rfl rfl rfl (fun _ => rfl) (fun _ => rfl) rfl S_spec_l2Copy (fun a0 => (show G10 57 _ = _ from rfl).trans (C_spec_l2Copy_eq a0)) a)).trans ?_
  show (spec_l2Vector_f S_spec_l2Copy N a).bind _ = _
  rw [hN]; exact h2
-- loop.example/s02135/spec.l2Wide
noncomputable def S_spec_l2Wide (a0_Shape : List Int) (a0_Data : List Int) (a1 : List Int) : Option (List Int × List Int) := under (pre_spec_l2Wide a0_Shape a0_Data a1) (s_spec_l2Wide a0_Shape a0_Data a1)
def e_spec_l2Wide (a : (List Int) × (List Int) × (List Int)) : List X := [.agg [.d (lstT cI a.1), .d (lstT cI a.2.1)], .d (lstT cI a.2.2)]
noncomputable def C_spec_l2Wide : List X → Option XOut := lay e_spec_l2Wide fun a => ((S_spec_l2Wide a.1 a.2.1 a.2.2)).bind fun r => some (.ret (.agg [ownT (cI) 3 none false r.1, ownT (cI) 3 none false r.2]) [])
theorem C_spec_l2Wide_eq (a0_Shape : List Int) (a0_Data : List Int) (a1 : List Int) : C_spec_l2Wide [.agg [.d (lstT cI a0_Shape), .d (lstT cI a0_Data)], .d (lstT cI a1)] = ((S_spec_l2Wide a0_Shape a0_Data a1)).bind fun r => some (.ret (.agg [ownT (cI) 3 none false r.1, ownT (cI) 3 none false r.2]) []) := lay_eq (enc := e_spec_l2Wide) (by
  intro a b h
  simp only [e_spec_l2Wide, List.cons.injEq, X.d.injEq, X.agg.injEq, X.box.injEq, D.int.injEq, D.bool.injEq, D.fn.injEq, sD_inj, lstT_inj, ownT_inj, and_true, true_and, and_assoc] at h
  simp only [Prod.ext_iff]; exact h) (a0_Shape, a0_Data, a1)
noncomputable def G12 : Ctx := G11.with 127 C_spec_l2Wide
theorem so12 : SoundAll Try.prog G12 := by
  refine layer (cuts := []) (k := 2) (cd := c_spec_l2Wide) (rs := r_spec_l2Wide) (enc := e_spec_l2Wide) mixed so11 Try.func127 (by kernel_rfl) (by kernel_rfl) (by kernel_rfl) (by kernel_rfl) (by kernel_rfl) (by kernel_rfl) (wk := fun y => nocap y) Same.nocap ?_
  intro a out ho
  obtain ⟨r, h1, h2⟩ := Option.bind_eq_some_iff.mp ho
  obtain ⟨hp, rfl⟩ := under_some h1
  obtain ⟨N, hN⟩ := p_spec_l2Wide S_spec_l2Copy (fun _ h => under_pos h) S_spec_l1Product (fun _ h => under_pos h) a.1 a.2.1 a.2.2 hp
  refine ⟨N, ?_⟩
  refine ((callF_G (fun y => some (nocap y)) 2 c_spec_l2Wide r_spec_l2Wide (e_spec_l2Wide a) ⟨rfl, rfl, rfl⟩).trans (spec_l2Wide_g ⟨G11, [], [], [], N, r_spec_l2Wide, none, fun _ _ => none, fun y => some (nocap y)⟩ rfl rfl rfl rfl rfl (fun _ => rfl) (fun _ => rfl) rfl S_spec_l2Copy (fun a0 => (show G11 57 _ = _ from rfl).trans (C_spec_l2Copy_eq a0)) rfl S_spec_l1Product (fun a0 => (show G11 48 _ = _ from rfl).trans (C_spec_l1Product_eq a0)) a.1 a.2.1 a.2.2)).trans ?_
  show (spec_l2Wide_f S_spec_l2Copy S_spec_l1Product N a.1 a.2.1 a.2.2).bind _ = _
  rw [hN]; exact h2
-- loop.example/s02135/spec.l2Same
noncomputable def S_spec_l2Same (a0 : List Int) (a1 : List Int) : Option (Bool) := under (pre_spec_l2Same a0 a1) (s_spec_l2Same a0 a1)
def e_spec_l2Same (a : (List Int) × (List Int)) : List X := [.d (lstT cI a.1), .d (lstT cI a.2)]
noncomputable def C_spec_l2Same : List X → Option XOut := lay e_spec_l2Same fun a => ((S_spec_l2Same a.1 a.2)).bind fun r => some (.ret (.d (.bool r)) [])
theorem C_spec_l2Same_eq (a0 : List Int) (a1 : List Int) : C_spec_l2Same [.d (lstT cI a0), .d (lstT cI a1)] = ((S_spec_l2Same a0 a1)).bind fun r => some (.ret (.d (.bool r)) []) := lay_eq (enc := e_spec_l2Same) (by
  intro a b h
  simp only [e_spec_l2Same, List.cons.injEq, X.d.injEq, X.agg.injEq, X.box.injEq, D.int.injEq, D.bool.injEq, D.fn.injEq, sD_inj, lstT_inj, ownT_inj, and_true, true_and, and_assoc] at h
  simp only [Prod.ext_iff]; exact h) (a0, a1)
noncomputable def G13 : Ctx := G12.with 108 C_spec_l2Same
theorem so13 : SoundAll Try.prog G13 := by
  refine layer (cuts := []) (k := 2) (cd := c_spec_l2Same) (rs := r_spec_l2Same) (enc := e_spec_l2Same) mixed so12 Try.func108 (by kernel_rfl) (by kernel_rfl) (by kernel_rfl) (by kernel_rfl) (by kernel_rfl) (by kernel_rfl) (wk := fun y => nocap y) Same.nocap ?_
  intro a out ho
  obtain ⟨r, h1, h2⟩ := Option.bind_eq_some_iff.mp ho
  obtain ⟨hp, rfl⟩ := under_some h1
  obtain ⟨N, hN⟩ := p_spec_l2Same a.1 a.2 hp
  refine ⟨N, ?_⟩
  refine ((callF_G (fun y => some (nocap y)) 2 c_spec_l2Same r_spec_l2Same (e_spec_l2Same a) ⟨rfl, rfl, rfl⟩).trans (spec_l2Same_g ⟨G12, [], [], [], N, r_spec_l2Same, none, fun _ _ => none, fun y => some (nocap y)⟩ rfl rfl rfl rfl rfl (fun _ => rfl) (fun _ => rfl) a.1 a.2)).trans ?_
  show (spec_l2Same_f N a.1 a.2).bind _ = _
  rw [hN]; exact h2
-- loop.example/s02135/spec.l2In
noncomputable def S_spec_l2In (a0 : Int) : Option (Int × Int) := under (pre_spec_l2In a0) (s_spec_l2In a0)
def e_spec_l2In (a : Int) : List X := [.d (.int .i64 a)]
noncomputable def C_spec_l2In : List X → Option XOut := lay e_spec_l2In fun a => ((S_spec_l2In a)).bind fun r => some (.ret (.tup [.d (.int .i64 r.1), .d (.int .i64 r.2)]) [])
theorem C_spec_l2In_eq (a0 : Int) : C_spec_l2In [.d (.int .i64 a0)] = ((S_spec_l2In a0)).bind fun r => some (.ret (.tup [.d (.int .i64 r.1), .d (.int .i64 r.2)]) []) := lay_eq (enc := e_spec_l2In) (by
  intro a b h
  simp only [e_spec_l2In, List.cons.injEq, X.d.injEq, X.agg.injEq, X.box.injEq, D.int.injEq, D.bool.injEq, D.fn.injEq, sD_inj, lstT_inj, ownT_inj, and_true, true_and, and_assoc] at h
  exact h) a0
noncomputable def G14 : Ctx := G13.with 129 C_spec_l2In
theorem so14 : SoundAll Try.prog G14 := by
  refine layer (cuts := []) (k := 1) (cd := c_spec_l2In) (rs := r_spec_l2In) (enc := e_spec_l2In) mixed so13 Try.func129 (by kernel_rfl) (by kernel_rfl) (by kernel_rfl) (by kernel_rfl) (by kernel_rfl) (by kernel_rfl) (wk := fun y => nocap y) Same.nocap ?_
  intro a out ho
  obtain ⟨r, h1, h2⟩ := Option.bind_eq_some_iff.mp ho
  obtain ⟨hp, rfl⟩ := under_some h1
  obtain ⟨N, hN⟩ := p_spec_l2In a hp
  refine ⟨N, ?_⟩
  refine ((callF_G (fun y => some (nocap y)) 1 c_spec_l2In r_spec_l2In (e_spec_l2In a) ⟨rfl, rfl, rfl⟩).trans (spec_l2In_g ⟨G13, [], [], [], N, r_spec_l2In, none, fun _ _ => none, fun y => some (nocap y)⟩ rfl rfl rfl rfl rfl (fun _ => rfl) (fun _ => rfl) a)).trans ?_
  show (spec_l2In_f N a).bind _ = _
  rw [hN]; exact h2
-- loop.example/s02135/spec.l2Floor
noncomputable def S_spec_l2Floor (a0 : Int) (a1 : Int) : Option (Int) := under (pre_spec_l2Floor a0 a1) (s_spec_l2Floor a0 a1)
def e_spec_l2Floor (a : Int × Int) : List X := [.d (.int .i64 a.1), .d (.int .i64 a.2)]
noncomputable def C_spec_l2Floor : List X → Option XOut := lay e_spec_l2Floor fun a => ((S_spec_l2Floor a.1 a.2)).bind fun r => some (.ret (.d (.int .i64 r)) [])
theorem C_spec_l2Floor_eq (a0 : Int) (a1 : Int) : C_spec_l2Floor [.d (.int .i64 a0), .d (.int .i64 a1)] = ((S_spec_l2Floor a0 a1)).bind fun r => some (.ret (.d (.int .i64 r)) []) := lay_eq (enc := e_spec_l2Floor) (by
  intro a b h
  simp only [e_spec_l2Floor, List.cons.injEq, X.d.injEq, X.agg.injEq, X.box.injEq, D.int.injEq, D.bool.injEq, D.fn.injEq, sD_inj, lstT_inj, ownT_inj, and_true, true_and, and_assoc] at h
  simp only [Prod.ext_iff]; exact h) (a0, a1)
noncomputable def G15 : Ctx := G14.with 130 C_spec_l2Floor
theorem so15 : SoundAll Try.prog G15 := by
  refine layer (cuts := []) (k := 2) (cd := c_spec_l2Floor) (rs := r_spec_l2Floor) (enc := e_spec_l2Floor) mixed so14 Try.func130 (by kernel_rfl) (by kernel_rfl) (by kernel_rfl) (by kernel_rfl) (by kernel_rfl) (by kernel_rfl) (wk := fun y => nocap y) Same.nocap ?_
  intro a out ho
  obtain ⟨r, h1, h2⟩ := Option.bind_eq_some_iff.mp ho
  obtain ⟨hp, rfl⟩ := under_some h1
  obtain ⟨N, hN⟩ := p_spec_l2Floor a.1 a.2 hp
  refine ⟨N, ?_⟩
  refine ((callF_G (fun y => some (nocap y)) 2 c_spec_l2Floor r_spec_l2Floor (e_spec_l2Floor a) ⟨rfl, rfl, rfl⟩).trans (spec_l2Floor_g ⟨G14, [], [], [], N, r_spec_l2Floor, none, fun _ _ => none, fun y => some (nocap y)⟩ rfl rfl rfl rfl rfl (fun _ => rfl) (fun _ => rfl) a.1 a.2)).trans ?_
  show (spec_l2Floor_f N a.1 a.2).bind _ = _
  rw [hN]; exact h2
-- loop.example/s02135/spec.l2Bool
noncomputable def S_spec_l2Bool (a0 : Bool) : Option (Int) := under (pre_spec_l2Bool a0) (s_spec_l2Bool a0)
def e_spec_l2Bool (a : Bool) : List X := [.d (.bool a)]
noncomputable def C_spec_l2Bool : List X → Option XOut := lay e_spec_l2Bool fun a => ((S_spec_l2Bool a)).bind fun r => some (.ret (.d (.int .i64 r)) [])
theorem C_spec_l2Bool_eq (a0 : Bool) : C_spec_l2Bool [.d (.bool a0)] = ((S_spec_l2Bool a0)).bind fun r => some (.ret (.d (.int .i64 r)) []) := lay_eq (enc := e_spec_l2Bool) (by
  intro a b h
  simp only [e_spec_l2Bool, List.cons.injEq, X.d.injEq, X.agg.injEq, X.box.injEq, D.int.injEq, D.bool.injEq, D.fn.injEq, sD_inj, lstT_inj, ownT_inj, and_true, true_and, and_assoc] at h
  exact h) a0
noncomputable def G16 : Ctx := G15.with 107 C_spec_l2Bool
theorem so16 : SoundAll Try.prog G16 := by
  refine layer (cuts := []) (k := 1) (cd := c_spec_l2Bool) (rs := r_spec_l2Bool) (enc := e_spec_l2Bool) mixed so15 Try.func107 (by kernel_rfl) (by kernel_rfl) (by kernel_rfl) (by kernel_rfl) (by kernel_rfl) (by kernel_rfl) (wk := fun y => nocap y) Same.nocap ?_
  intro a out ho
  obtain ⟨r, h1, h2⟩ := Option.bind_eq_some_iff.mp ho
  obtain ⟨hp, rfl⟩ := under_some h1
  obtain ⟨N, hN⟩ := p_spec_l2Bool a hp
  refine ⟨N, ?_⟩
  refine ((callF_G (fun y => some (nocap y)) 1 c_spec_l2Bool r_spec_l2Bool (e_spec_l2Bool a) ⟨rfl, rfl, rfl⟩).trans (spec_l2Bool_g ⟨G15, [], [], [], N, r_spec_l2Bool, none, fun _ _ => none, fun y => some (nocap y)⟩ rfl rfl rfl rfl rfl (fun _ => rfl) (fun _ => rfl) a)).trans ?_
  show (spec_l2Bool_f N a).bind _ = _
  rw [hN]; exact h2
-- loop.example/s02135/spec.l2Two
noncomputable def S_spec_l2Two (a0 : Int) (a1 : Int) (a2 : Int) : Option (Int × Int) := under (pre_spec_l2Two a0 a1 a2) (s_spec_l2Two a0 a1 a2)
def e_spec_l2Two (a : Int × Int × Int) : List X := [.d (.int .i64 a.1), .d (.int .i64 a.2.1), .d (.int .i64 a.2.2)]
noncomputable def C_spec_l2Two : List X → Option XOut := lay e_spec_l2Two fun a => ((S_spec_l2Two a.1 a.2.1 a.2.2)).bind fun r => some (.ret (.tup [.d (.int .i64 r.1), .d (.int .i64 r.2)]) [])
theorem C_spec_l2Two_eq (a0 : Int) (a1 : Int) (a2 : Int) : C_spec_l2Two [.d (.int .i64 a0), .d (.int .i64 a1), .d (.int .i64 a2)] = ((S_spec_l2Two a0 a1 a2)).bind fun r => some (.ret (.tup [.d (.int .i64 r.1), .d (.int .i64 r.2)]) []) := lay_eq (enc := e_spec_l2Two) (by
  intro a b h
  simp only [e_spec_l2Two, List.cons.injEq, X.d.injEq, X.agg.injEq, X.box.injEq, D.int.injEq, D.bool.injEq, D.fn.injEq, sD_inj, lstT_inj, ownT_inj, and_true, true_and, and_assoc] at h
  simp only [Prod.ext_iff]; exact h) (a0, a1, a2)
noncomputable def G17 : Ctx := G16.with 72 C_spec_l2Two
theorem so17 : SoundAll Try.prog G17 := by
  refine layer (cuts := []) (k := 3) (cd := c_spec_l2Two) (rs := r_spec_l2Two) (enc := e_spec_l2Two) mixed so16 Try.func72 (by kernel_rfl) (by kernel_rfl) (by kernel_rfl) (by kernel_rfl) (by kernel_rfl) (by kernel_rfl) (wk := fun y => nocap y) Same.nocap ?_
  intro a out ho
  obtain ⟨r, h1, h2⟩ := Option.bind_eq_some_iff.mp ho
  obtain ⟨hp, rfl⟩ := under_some h1
  obtain ⟨N, hN⟩ := p_spec_l2Two S_spec_l2In (fun _ h => under_pos h) S_spec_l2Floor (fun _ _ h => under_pos h) S_spec_l2Bool (fun _ h => under_pos h) a.1 a.2.1 a.2.2 hp
  refine ⟨N, ?_⟩
  refine ((callF_G (fun y => some (nocap y)) 3 c_spec_l2Two r_spec_l2Two (e_spec_l2Two a) ⟨rfl, rfl, rfl⟩).trans (spec_l2Two_g ⟨G16, [], [], [], N, r_spec_l2Two, none, fun _ _ => none, fun y => some (nocap y)⟩ rfl rfl rfl rfl rfl (fun _ => rfl) (fun _ => rfl) rfl S_spec_l2In (fun a0 => (show G16 129 _ = _ from rfl).trans (C_spec_l2In_eq a0)) rfl S_spec_l2Floor (fun a0 a1 => (show G16 130 _ = _ from rfl).trans (C_spec_l2Floor_eq a0 a1)) rfl S_spec_l2Bool (fun a0 => (show G16 107 _ = _ from rfl).trans (C_spec_l2Bool_eq a0)) a.1 a.2.1 a.2.2)).trans ?_
  show (spec_l2Two_f S_spec_l2In S_spec_l2Floor S_spec_l2Bool N a.1 a.2.1 a.2.2).bind _ = _
  rw [hN]; exact h2
-- loop.example/s02135/spec.l2Each
noncomputable def S_spec_l2Each (a0 : Int) (a1_Shape : List Int) (a1_Data : List Int) (a2_Shape : List Int) (a2_Data : List Int) : Option (List Int × List Int × Int) := under (pre_spec_l2Each a0 a1_Shape a1_Data a2_Shape a2_Data) (s_spec_l2Each a0 a1_Shape a1_Data a2_Shape a2_Data)
def e_spec_l2Each (a : Int × (List Int) × (List Int) × (List Int) × (List Int)) : List X := [.d (.int .i64 a.1), .agg [.d (lstT cI a.2.1), .d (lstT cI a.2.2.1)], .agg [.d (lstT cI a.2.2.2.1), .d (lstT cI a.2.2.2.2)]]
noncomputable def C_spec_l2Each : List X → Option XOut := lay e_spec_l2Each fun a => ((S_spec_l2Each a.1 a.2.1 a.2.2.1 a.2.2.2.1 a.2.2.2.2)).bind fun r => some (.ret (.tup [.agg [ownT (cI) 3 none false r.1, ownT (cI) 3 none false r.2.1], .d (.int .i64 r.2.2)]) [])
theorem C_spec_l2Each_eq (a0 : Int) (a1_Shape : List Int) (a1_Data : List Int) (a2_Shape : List Int) (a2_Data : List Int) : C_spec_l2Each [.d (.int .i64 a0), .agg [.d (lstT cI a1_Shape), .d (lstT cI a1_Data)], .agg [.d (lstT cI a2_Shape), .d (lstT cI a2_Data)]] = ((S_spec_l2Each a0 a1_Shape a1_Data a2_Shape a2_Data)).bind fun r => some (.ret (.tup [.agg [ownT (cI) 3 none false r.1, ownT (cI) 3 none false r.2.1], .d (.int .i64 r.2.2)]) []) := lay_eq (enc := e_spec_l2Each) (by
  intro a b h
  simp only [e_spec_l2Each, List.cons.injEq, X.d.injEq, X.agg.injEq, X.box.injEq, D.int.injEq, D.bool.injEq, D.fn.injEq, sD_inj, lstT_inj, ownT_inj, and_true, true_and, and_assoc] at h
  simp only [Prod.ext_iff]; exact h) (a0, a1_Shape, a1_Data, a2_Shape, a2_Data)
noncomputable def G18 : Ctx := G17.with 68 C_spec_l2Each
theorem so18 : SoundAll Try.prog G18 := by
  refine layer (cuts := []) (k := 3) (cd := c_spec_l2Each) (rs := r_spec_l2Each) (enc := e_spec_l2Each) mixed so17 Try.func68 (by kernel_rfl) (by kernel_rfl) (by kernel_rfl) (by kernel_rfl) (by kernel_rfl) (by kernel_rfl) (wk := fun y => nocap (asOwn (.node [.node [.own 3 1, .own 3 1], .k]) y)) (Same.comp Same.nocap (Same.own (.node [.node [.own 3 1, .own 3 1], .k]))) ?_
  intro a out ho
  obtain ⟨r, h1, h2⟩ := Option.bind_eq_some_iff.mp ho
  obtain ⟨hp, rfl⟩ := under_some h1
  obtain ⟨N, hN⟩ := p_spec_l2Each S_spec_l2Wide (fun _ _ _ h => under_pos h) S_spec_l2Same (fun _ _ h => under_pos h) S_spec_l2Copy (fun _ h => under_pos h) S_spec_l2Two (fun _ _ _ h => under_pos h) a.1 a.2.1 a.2.2.1 a.2.2.2.1 a.2.2.2.2 hp
  refine ⟨N, ?_⟩
  refine ((callF_G (fun y => some (nocap (asOwn (.node [.node [.own 3 1, .own 3 1], .k]) y))) 3 c_spec_l2Each r_spec_l2Each (e_spec_l2Each a) ⟨rfl, rfl, rfl⟩).trans (spec_l2Each_g ⟨G17, [], [], [], N, r_spec_l2Each, none, fun _ _ => none, fun y => some (nocap (asOwn (.node [.node [.own 3 1, .own 3 1], .k]) y))⟩ rfl rfl rfl rfl rfl (fun _ => rfl) (fun _ => rfl) rfl S_spec_l2Wide (fun a0_Shape a0_Data a1 => (show G17 127 _ = _ from rfl).trans (C_spec_l2Wide_eq a0_Shape a0_Data a1)) rfl S_spec_l2Same (fun a0 a1 => (show G17 108 _ = _ from rfl).trans (C_spec_l2Same_eq a0 a1)) rfl S_spec_l2Copy (fun a0 => (show G17 57 _ = _ from rfl).trans (C_spec_l2Copy_eq a0)) rfl S_spec_l2Two (fun a0 a1 a2 => (show G17 72 _ = _ from rfl).trans (C_spec_l2Two_eq a0 a1 a2)) a.1 a.2.1 a.2.2.1 a.2.2.2.1 a.2.2.2.2)).trans ?_
  show (spec_l2Each_f S_spec_l2Wide S_spec_l2Same S_spec_l2Copy S_spec_l2Two N a.1 a.2.1 a.2.2.1 a.2.2.2.1 a.2.2.2.2).bind _ = _
  rw [hN]; exact h2
-- loop.example/s02135/spec.l2None
noncomputable def S_spec_l2None (a0 : Int) : Option (Int × Bool) := under (pre_spec_l2None a0) (s_spec_l2None a0)
def e_spec_l2None (a : Int) : List X := [.d (.int .i64 a)]
noncomputable def C_spec_l2None : List X → Option XOut := lay e_spec_l2None fun a => ((S_spec_l2None a)).bind fun r => some (.ret (.tup [.d (.int .i64 r.1), .d (.bool r.2)]) [])
theorem C_spec_l2None_eq (a0 : Int) : C_spec_l2None [.d (.int .i64 a0)] = ((S_spec_l2None a0)).bind fun r => some (.ret (.tup [.d (.int .i64 r.1), .d (.bool r.2)]) []) := lay_eq (enc := e_spec_l2None) (by
  intro a b h
  simp only [e_spec_l2None, List.cons.injEq, X.d.injEq, X.agg.injEq, X.box.injEq, D.int.injEq, D.bool.injEq, D.fn.injEq, sD_inj, lstT_inj, ownT_inj, and_true, true_and, and_assoc] at h
  exact h) a0
noncomputable def G19 : Ctx := G18.with 132 C_spec_l2None
theorem so19 : SoundAll Try.prog G19 := by
  refine layer (cuts := []) (k := 1) (cd := c_spec_l2None) (rs := r_spec_l2None) (enc := e_spec_l2None) mixed so18 Try.func132 (by kernel_rfl) (by kernel_rfl) (by kernel_rfl) (by kernel_rfl) (by kernel_rfl) (by kernel_rfl) (wk := fun y => nocap y) Same.nocap ?_
  intro a out ho
  obtain ⟨r, h1, h2⟩ := Option.bind_eq_some_iff.mp ho
  obtain ⟨hp, rfl⟩ := under_some h1
  obtain ⟨N, hN⟩ := p_spec_l2None a hp
  refine ⟨N, ?_⟩
  refine ((callF_G (fun y => some (nocap y)) 1 c_spec_l2None r_spec_l2None (e_spec_l2None a) ⟨rfl, rfl, rfl⟩).trans (spec_l2None_g ⟨G18, [], [], [], N, r_spec_l2None, none, fun _ _ => none, fun y => some (nocap y)⟩ rfl rfl rfl rfl rfl (fun _ => rfl) (fun _ => rfl) a)).trans ?_
  show (spec_l2None_f N a).bind _ = _
  rw [hN]; exact h2
-- loop.example/s02135/spec.l2Row
noncomputable def S_spec_l2Row (a0_Shape : List Int) (a0_Data : List Int) (a1 : Int) : Option (List Int × List Int) := under (pre_spec_l2Row a0_Shape a0_Data a1) (s_spec_l2Row a0_Shape a0_Data a1)
def e_spec_l2Row (a : (List Int) × (List Int) × Int) : List X := [.agg [.d (lstT cI a.1), .d (lstT cI a.2.1)], .d (.int .i64 a.2.2)]
noncomputable def C_spec_l2Row : List X → Option XOut := lay e_spec_l2Row fun a => ((S_spec_l2Row a.1 a.2.1 a.2.2)).bind fun r => some (.ret (.agg [ownT (cI) 3 none false r.1, ownT (cI) 3 none false r.2]) [])
theorem C_spec_l2Row_eq (a0_Shape : List Int) (a0_Data : List Int) (a1 : Int) : C_spec_l2Row [.agg [.d (lstT cI a0_Shape), .d (lstT cI a0_Data)], .d (.int .i64 a1)] = ((S_spec_l2Row a0_Shape a0_Data a1)).bind fun r => some (.ret (.agg [ownT (cI) 3 none false r.1, ownT (cI) 3 none false r.2]) []) := lay_eq (enc := e_spec_l2Row) (by
  intro a b h
  simp only [e_spec_l2Row, List.cons.injEq, X.d.injEq, X.agg.injEq, X.box.injEq, D.int.injEq, D.bool.injEq, D.fn.injEq, sD_inj, lstT_inj, ownT_inj, and_true, true_and, and_assoc] at h
  simp only [Prod.ext_iff]; exact h) (a0_Shape, a0_Data, a1)
noncomputable def G20 : Ctx := G19.with 133 C_spec_l2Row
theorem so20 : SoundAll Try.prog G20 := by
  refine layer (cuts := []) (k := 2) (cd := c_spec_l2Row) (rs := r_spec_l2Row) (enc := e_spec_l2Row) mixed so19 Try.func133 (by kernel_rfl) (by kernel_rfl) (by kernel_rfl) (by kernel_rfl) (by kernel_rfl) (by kernel_rfl) (wk := fun y => nocap y) Same.nocap ?_
  intro a out ho
  obtain ⟨r, h1, h2⟩ := Option.bind_eq_some_iff.mp ho
  obtain ⟨hp, rfl⟩ := under_some h1
  obtain ⟨N, hN⟩ := p_spec_l2Row S_spec_l2Copy (fun _ h => under_pos h) S_spec_l1Product (fun _ h => under_pos h) a.1 a.2.1 a.2.2 hp
  refine ⟨N, ?_⟩
  refine ((callF_G (fun y => some (nocap y)) 2 c_spec_l2Row r_spec_l2Row (e_spec_l2Row a) ⟨rfl, rfl, rfl⟩).trans (spec_l2Row_g ⟨G19, [], [], [], N, r_spec_l2Row, none, fun _ _ => none, fun y => some (nocap y)⟩ rfl rfl rfl rfl rfl (fun _ => rfl) (fun _ => rfl) rfl S_spec_l2Copy (fun a0 => (show G19 57 _ = _ from rfl).trans (C_spec_l2Copy_eq a0)) rfl S_spec_l1Product (fun a0 => (show G19 48 _ = _ from rfl).trans (C_spec_l1Product_eq a0)) a.1 a.2.1 a.2.2)).trans ?_
  show (spec_l2Row_f S_spec_l2Copy S_spec_l1Product N a.1 a.2.1 a.2.2).bind _ = _
  rw [hN]; exact h2
-- loop.example/s02135/spec.l2Reduce
noncomputable def S_spec_l2Reduce (a0 : Int) (a1_Shape : List Int) (a1_Data : List Int) : Option (List Int × List Int × Int) := under (pre_spec_l2Reduce a0 a1_Shape a1_Data) (s_spec_l2Reduce a0 a1_Shape a1_Data)
def e_spec_l2Reduce (a : Int × (List Int) × (List Int)) : List X := [.d (.int .i64 a.1), .agg [.d (lstT cI a.2.1), .d (lstT cI a.2.2)]]
noncomputable def C_spec_l2Reduce : List X → Option XOut := lay e_spec_l2Reduce fun a => ((S_spec_l2Reduce a.1 a.2.1 a.2.2)).bind fun r => some (.ret (.tup [.agg [ownT (cI) 3 none false r.1, ownT (cI) 3 none false r.2.1], .d (.int .i64 r.2.2)]) [])
theorem C_spec_l2Reduce_eq (a0 : Int) (a1_Shape : List Int) (a1_Data : List Int) : C_spec_l2Reduce [.d (.int .i64 a0), .agg [.d (lstT cI a1_Shape), .d (lstT cI a1_Data)]] = ((S_spec_l2Reduce a0 a1_Shape a1_Data)).bind fun r => some (.ret (.tup [.agg [ownT (cI) 3 none false r.1, ownT (cI) 3 none false r.2.1], .d (.int .i64 r.2.2)]) []) := lay_eq (enc := e_spec_l2Reduce) (by
  intro a b h
  simp only [e_spec_l2Reduce, List.cons.injEq, X.d.injEq, X.agg.injEq, X.box.injEq, D.int.injEq, D.bool.injEq, D.fn.injEq, sD_inj, lstT_inj, ownT_inj, and_true, true_and, and_assoc] at h
  simp only [Prod.ext_iff]; exact h) (a0, a1_Shape, a1_Data)
noncomputable def G21 : Ctx := G20.with 74 C_spec_l2Reduce
theorem so21 : SoundAll Try.prog G21 := by
  refine layer (cuts := []) (k := 2) (cd := c_spec_l2Reduce) (rs := r_spec_l2Reduce) (enc := e_spec_l2Reduce) mixed so20 Try.func74 (by kernel_rfl) (by kernel_rfl) (by kernel_rfl) (by kernel_rfl) (by kernel_rfl) (by kernel_rfl) (wk := fun y => nocap (asOwn (.node [.node [.own 3 1, .own 3 1], .k]) y)) (Same.comp Same.nocap (Same.own (.node [.node [.own 3 1, .own 3 1], .k]))) ?_
  intro a out ho
  obtain ⟨r, h1, h2⟩ := Option.bind_eq_some_iff.mp ho
  obtain ⟨hp, rfl⟩ := under_some h1
  obtain ⟨N, hN⟩ := p_spec_l2Reduce S_spec_l2Copy (fun _ h => under_pos h) S_spec_l2None (fun _ h => under_pos h) S_spec_l2Made (fun _ _ h => under_pos h) S_spec_l2Wide (fun _ _ _ h => under_pos h) S_spec_l2Row (fun _ _ _ h => under_pos h) S_spec_l2Each (fun _ _ _ _ _ h => under_pos h) a.1 a.2.1 a.2.2 hp
  refine ⟨N, ?_⟩
  refine ((callF_G (fun y => some (nocap (asOwn (.node [.node [.own 3 1, .own 3 1], .k]) y))) 2 c_spec_l2Reduce r_spec_l2Reduce (e_spec_l2Reduce a) ⟨rfl, rfl, rfl⟩).trans (spec_l2Reduce_g ⟨G20, [], [], [], N, r_spec_l2Reduce, none, fun _ _ => none, fun y => some (nocap (asOwn (.node [.node [.own 3 1, .own 3 1], .k]) y))⟩ rfl rfl rfl rfl rfl (fun _ => rfl) (fun _ => rfl) rfl S_spec_l2Copy (fun a0 => (show G20 57 _ = _ from rfl).trans (C_spec_l2Copy_eq a0)) rfl S_spec_l2None (fun a0 => (show G20 132 _ = _ from rfl).trans (C_spec_l2None_eq a0)) rfl S_spec_l2Made (fun a0 a1 => (show G20 71 _ = _ from rfl).trans (C_spec_l2Made_eq a0 a1)) rfl S_spec_l2Wide (fun a0_Shape a0_Data a1 => (show G20 127 _ = _ from rfl).trans (C_spec_l2Wide_eq a0_Shape a0_Data a1)) rfl S_spec_l2Row (fun a0_Shape a0_Data a1 => (show G20 133 _ = _ from rfl).trans (C_spec_l2Row_eq a0_Shape a0_Data a1)) rfl S_spec_l2Each (fun a0 a1_Shape a1_Data a2_Shape a2_Data => (show G20 68 _ = _ from rfl).trans (C_spec_l2Each_eq a0 a1_Shape a1_Data a2_Shape a2_Data)) a.1 a.2.1 a.2.2)).trans ?_
  show (spec_l2Reduce_f S_spec_l2Copy S_spec_l2None S_spec_l2Made S_spec_l2Wide S_spec_l2Row S_spec_l2Each N a.1 a.2.1 a.2.2).bind _ = _
  rw [hN]; exact h2
-- loop.example/s02135/spec.Inner
noncomputable def S_spec_Inner (a0 : Int) (a1 : Int) (a2_Shape : List Int) (a2_Data : List Int) (a3_Shape : List Int) (a3_Data : List Int) : Option (List Int × List Int × Int) := under (pre_spec_Inner a0 a1 a2_Shape a2_Data a3_Shape a3_Data) (s_spec_Inner a0 a1 a2_Shape a2_Data a3_Shape a3_Data)
def e_spec_Inner (a : Int × Int × (List Int) × (List Int) × (List Int) × (List Int)) : List X := [.d (.int .i64 a.1), .d (.int .i64 a.2.1), .agg [.d (lstT cI a.2.2.1), .d (lstT cI a.2.2.2.1)], .agg [.d (lstT cI a.2.2.2.2.1), .d (lstT cI a.2.2.2.2.2)]]
noncomputable def C_spec_Inner : List X → Option XOut := lay e_spec_Inner fun a => ((S_spec_Inner a.1 a.2.1 a.2.2.1 a.2.2.2.1 a.2.2.2.2.1 a.2.2.2.2.2)).bind fun r => some (.ret (.tup [.agg [ownT (cI) 3 none false r.1, ownT (cI) 3 none false r.2.1], .d (.int .i64 r.2.2)]) [])
theorem C_spec_Inner_eq (a0 : Int) (a1 : Int) (a2_Shape : List Int) (a2_Data : List Int) (a3_Shape : List Int) (a3_Data : List Int) : C_spec_Inner [.d (.int .i64 a0), .d (.int .i64 a1), .agg [.d (lstT cI a2_Shape), .d (lstT cI a2_Data)], .agg [.d (lstT cI a3_Shape), .d (lstT cI a3_Data)]] = ((S_spec_Inner a0 a1 a2_Shape a2_Data a3_Shape a3_Data)).bind fun r => some (.ret (.tup [.agg [ownT (cI) 3 none false r.1, ownT (cI) 3 none false r.2.1], .d (.int .i64 r.2.2)]) []) := lay_eq (enc := e_spec_Inner) (by
  intro a b h
  simp only [e_spec_Inner, List.cons.injEq, X.d.injEq, X.agg.injEq, X.box.injEq, D.int.injEq, D.bool.injEq, D.fn.injEq, sD_inj, lstT_inj, ownT_inj, and_true, true_and, and_assoc] at h
  simp only [Prod.ext_iff]; exact h) (a0, a1, a2_Shape, a2_Data, a3_Shape, a3_Data)
noncomputable def G22 : Ctx := G21.with 36 C_spec_Inner
theorem so22 : SoundAll Try.prog G22 := by
  refine layer (cuts := [72, 89]) (k := 4) (cd := c_spec_Inner) (rs := r_spec_Inner) (enc := e_spec_Inner) mixed so21 Try.func36 (by kernel_rfl) (by kernel_rfl) (by kernel_rfl) (by kernel_rfl) (by kernel_rfl) (by kernel_rfl) (wk := fun y => nocap (asOwn (.node [.node [.own 3 1, .own 3 1], .k]) y)) (Same.comp Same.nocap (Same.own (.node [.node [.own 3 1, .own 3 1], .k]))) ?_
  intro a out ho
  obtain ⟨r, h1, h2⟩ := Option.bind_eq_some_iff.mp ho
  obtain ⟨hp, rfl⟩ := under_some h1
  obtain ⟨N, hN⟩ := p_spec_Inner S_spec_l2OpOk (fun _ h => under_pos h) S_spec_ArrayOk (fun _ _ h => under_pos h) S_spec_l2Copy (fun _ h => under_pos h) S_spec_l2Made (fun _ _ h => under_pos h) S_spec_l1Product (fun _ h => under_pos h) S_spec_l2Vector (fun _ h => under_pos h) S_spec_l2Each (fun _ _ _ _ _ h => under_pos h) S_spec_l2Reduce (fun _ _ _ h => under_pos h) a.1 a.2.1 a.2.2.1 a.2.2.2.1 a.2.2.2.2.1 a.2.2.2.2.2 hp
  refine ⟨N, ?_⟩
  refine ((callF_G (fun y => some (nocap (asOwn (.node [.node [.own 3 1, .own 3 1], .k]) y))) 4 c_spec_Inner r_spec_Inner (e_spec_Inner a) ⟨rfl, rfl, rfl⟩).trans (spec_Inner_g ⟨G21, [], [], [], N, r_spec_Inner, none, fun _ _ => none, fun y => some (nocap (asOwn (.node [.node [.own 3 1, .own 3 1], .k]) y))⟩ rfl rfl rfl rfl rfl (fun _ => rfl) (fun _ => rfl) rfl S_spec_l2OpOk (fun a0 => (show G21 67 _ = _ from rfl).trans (C_spec_l2OpOk_eq a0)) rfl S_spec_ArrayOk (fun a0_Shape a0_Data => (show G21 15 _ = _ from rfl).trans (C_spec_ArrayOk_eq a0_Shape a0_Data)) rfl S_spec_l2Copy (fun a0 => (show G21 57 _ = _ from rfl).trans (C_spec_l2Copy_eq a0)) rfl S_spec_l2Made (fun a0 a1 => (show G21 71 _ = _ from rfl).trans (C_spec_l2Made_eq a0 a1)) rfl S_spec_l1Product (fun a0 => (show G21 48 _ = _ from rfl).trans (C_spec_l1Product_eq a0)) rfl S_spec_l2Vector (fun a0 => (show G21 79 _ = _ from rfl).trans (C_spec_l2Vector_eq a0)) rfl S_spec_l2Each (fun a0 a1_Shape a1_Data a2_Shape a2_Data => (show G21 68 _ = _ from rfl).trans (C_spec_l2Each_eq a0 a1_Shape a1_Data a2_Shape a2_Data)) rfl S_spec_l2Reduce (fun a0 a1_Shape a1_Data => (show G21 74 _ = _ from rfl).trans (C_spec_l2Reduce_eq a0 a1_Shape a1_Data)) a.1 a.2.1 a.2.2.1 a.2.2.2.1 a.2.2.2.2.1 a.2.2.2.2.2)).trans ?_
  show (spec_Inner_f S_spec_l2OpOk S_spec_ArrayOk S_spec_l2Copy S_spec_l2Made S_spec_l1Product S_spec_l2Vector S_spec_l2Each S_spec_l2Reduce N a.1 a.2.1 a.2.2.1 a.2.2.2.1 a.2.2.2.2.1 a.2.2.2.2.2).bind _ = _
  rw [hN]; exact h2
-- loop.example/s02135/impl.inRange
noncomputable def S_impl_inRange (a0 : Int) : Option (Res (Int)) := under (pre_impl_inRange a0) (s_impl_inRange a0)
def e_impl_inRange (a : Int) : List X := [.d (.int .i64 a)]
noncomputable def C_impl_inRange : List X → Option XOut := lay e_impl_inRange fun a => ((S_impl_inRange a)).bind fun r => r.on (fun r => some (.ret (.d (.int .i64 r)) [])) (fun x => some (.pan x []))
theorem C_impl_inRange_eq (a0 : Int) : C_impl_inRange [.d (.int .i64 a0)] = ((S_impl_inRange a0)).bind fun r => r.on (fun r => some (.ret (.d (.int .i64 r)) [])) (fun x => some (.pan x [])) := lay_eq (enc := e_impl_inRange) (by
  intro a b h
  simp only [e_impl_inRange, List.cons.injEq, X.d.injEq, X.agg.injEq, X.box.injEq, D.int.injEq, D.bool.injEq, D.fn.injEq, sD_inj, lstT_inj, ownT_inj, and_true, true_and, and_assoc] at h
  exact h) a0
noncomputable def G23 : Ctx := G22.with 151 C_impl_inRange
theorem so23 : SoundAll Try.prog G23 := by
  refine layer (cuts := []) (k := 1) (cd := c_impl_inRange) (rs := r_impl_inRange) (enc := e_impl_inRange) mixed so22 Try.func151 (by kernel_rfl) (by kernel_rfl) (by kernel_rfl) (by kernel_rfl) (by kernel_rfl) (by kernel_rfl) (wk := fun y => nocap y) Same.nocap ?_
  intro a out ho
  obtain ⟨r, h1, h2⟩ := Option.bind_eq_some_iff.mp ho
  obtain ⟨hp, rfl⟩ := under_some h1
  obtain ⟨N, hN⟩ := p_impl_inRange a hp
  refine ⟨N, ?_⟩
  refine ((callF_G (fun y => some (nocap y)) 1 c_impl_inRange r_impl_inRange (e_impl_inRange a) ⟨rfl, rfl, rfl⟩).trans (impl_inRange_g ⟨G22, [], [], [], N, r_impl_inRange, none, fun _ _ => none, fun y => some (nocap y)⟩ rfl rfl rfl rfl rfl (fun _ => rfl) (fun _ => rfl) a)).trans ?_
  show (impl_inRange_f N a).bind _ = _
  rw [hN]; exact h2
-- loop.example/s02135/impl.cellOps$1
noncomputable def S_impl_cellOps_1 (a0 : Int) (a1 : Int) : Option (Res (Int)) := under (pre_impl_cellOps_1 a0 a1) (s_impl_cellOps_1 a0 a1)
def e_impl_cellOps_1 (a : Int × Int) : List X := [.d (.int .i64 a.1), .d (.int .i64 a.2)]
noncomputable def C_impl_cellOps_1 : List X → Option XOut := lay e_impl_cellOps_1 fun a => ((S_impl_cellOps_1 a.1 a.2)).bind fun r => r.on (fun r => some (.ret (.d (.int .i64 r)) [])) (fun x => some (.pan x []))
theorem C_impl_cellOps_1_eq (a0 : Int) (a1 : Int) : C_impl_cellOps_1 [.d (.int .i64 a0), .d (.int .i64 a1)] = ((S_impl_cellOps_1 a0 a1)).bind fun r => r.on (fun r => some (.ret (.d (.int .i64 r)) [])) (fun x => some (.pan x [])) := lay_eq (enc := e_impl_cellOps_1) (by
  intro a b h
  simp only [e_impl_cellOps_1, List.cons.injEq, X.d.injEq, X.agg.injEq, X.box.injEq, D.int.injEq, D.bool.injEq, D.fn.injEq, sD_inj, lstT_inj, ownT_inj, and_true, true_and, and_assoc] at h
  simp only [Prod.ext_iff]; exact h) (a0, a1)
noncomputable def G24 : Ctx := G23.with 150 C_impl_cellOps_1
theorem so24 : SoundAll Try.prog G24 := by
  refine layer (cuts := []) (k := 2) (cd := c_impl_cellOps_1) (rs := r_impl_cellOps_1) (enc := e_impl_cellOps_1) mixed so23 Try.func150 (by kernel_rfl) (by kernel_rfl) (by kernel_rfl) (by kernel_rfl) (by kernel_rfl) (by kernel_rfl) (wk := fun y => nocap y) Same.nocap ?_
  intro a out ho
  obtain ⟨r, h1, h2⟩ := Option.bind_eq_some_iff.mp ho
  obtain ⟨hp, rfl⟩ := under_some h1
  obtain ⟨N, hN⟩ := p_impl_cellOps_1 S_impl_inRange (fun _ h => under_pos h) a.1 a.2 hp
  refine ⟨N, ?_⟩
  refine ((callF_G (fun y => some (nocap y)) 2 c_impl_cellOps_1 r_impl_cellOps_1 (e_impl_cellOps_1 a) ⟨rfl, rfl, rfl⟩).trans (impl_cellOps_1_g ⟨G23, [], [], [], N, r_impl_cellOps_1, none, fun _ _ => none, fun y => some (nocap y)⟩ rfl rfl rfl rfl rfl (fun _ => rfl) (fun _ => rfl) rfl S_impl_inRange (fun a0 => (show G23 151 _ = _ from rfl).trans (C_impl_inRange_eq a0)) a.1 a.2)).trans ?_
  show (impl_cellOps_1_f S_impl_inRange N a.1 a.2).bind _ = _
  rw [hN]; exact h2
theorem snd_impl_cellOps_1 : Sound Try.prog 150 C_impl_cellOps_1 := by
  have h := so24 150
  exact h
-- loop.example/s02135/impl.cellOps$2
noncomputable def S_impl_cellOps_2 (a0 : Int) (a1 : Int) : Option (Res (Int)) := under (pre_impl_cellOps_2 a0 a1) (s_impl_cellOps_2 a0 a1)
def e_impl_cellOps_2 (a : Int × Int) : List X := [.d (.int .i64 a.1), .d (.int .i64 a.2)]
noncomputable def C_impl_cellOps_2 : List X → Option XOut := lay e_impl_cellOps_2 fun a => ((S_impl_cellOps_2 a.1 a.2)).bind fun r => r.on (fun r => some (.ret (.d (.int .i64 r)) [])) (fun x => some (.pan x []))
theorem C_impl_cellOps_2_eq (a0 : Int) (a1 : Int) : C_impl_cellOps_2 [.d (.int .i64 a0), .d (.int .i64 a1)] = ((S_impl_cellOps_2 a0 a1)).bind fun r => r.on (fun r => some (.ret (.d (.int .i64 r)) [])) (fun x => some (.pan x [])) := lay_eq (enc := e_impl_cellOps_2) (by
  intro a b h
  simp only [e_impl_cellOps_2, List.cons.injEq, X.d.injEq, X.agg.injEq, X.box.injEq, D.int.injEq, D.bool.injEq, D.fn.injEq, sD_inj, lstT_inj, ownT_inj, and_true, true_and, and_assoc] at h
  simp only [Prod.ext_iff]; exact h) (a0, a1)
noncomputable def G25 : Ctx := G24.with 152 C_impl_cellOps_2
theorem so25 : SoundAll Try.prog G25 := by
  refine layer (cuts := []) (k := 2) (cd := c_impl_cellOps_2) (rs := r_impl_cellOps_2) (enc := e_impl_cellOps_2) mixed so24 Try.func152 (by kernel_rfl) (by kernel_rfl) (by kernel_rfl) (by kernel_rfl) (by kernel_rfl) (by kernel_rfl) (wk := fun y => nocap y) Same.nocap ?_
  intro a out ho
  obtain ⟨r, h1, h2⟩ := Option.bind_eq_some_iff.mp ho
  obtain ⟨hp, rfl⟩ := under_some h1
  obtain ⟨N, hN⟩ := p_impl_cellOps_2 S_impl_inRange (fun _ h => under_pos h) a.1 a.2 hp
  refine ⟨N, ?_⟩
  refine ((callF_G (fun y => some (nocap y)) 2 c_impl_cellOps_2 r_impl_cellOps_2 (e_impl_cellOps_2 a) ⟨rfl, rfl, rfl⟩).trans (impl_cellOps_2_g ⟨G24, [], [], [], N, r_impl_cellOps_2, none, fun _ _ => none, fun y => some (nocap y)⟩ rfl rfl rfl rfl rfl (fun _ => rfl) (fun _ => rfl) rfl S_impl_inRange (fun a0 => (show G24 151 _ = _ from rfl).trans (C_impl_inRange_eq a0)) a.1 a.2)).trans ?_
  show (impl_cellOps_2_f S_impl_inRange N a.1 a.2).bind _ = _
  rw [hN]; exact h2
theorem snd_impl_cellOps_2 : Sound Try.prog 152 C_impl_cellOps_2 := by
  have h := so25 152
  exact h
-- loop.example/s02135/impl.cellOps$3
noncomputable def S_impl_cellOps_3 (a0 : Int) (a1 : Int) : Option (Res (Int)) := under (pre_impl_cellOps_3 a0 a1) (s_impl_cellOps_3 a0 a1)
def e_impl_cellOps_3 (a : Int × Int) : List X := [.d (.int .i64 a.1), .d (.int .i64 a.2)]
noncomputable def C_impl_cellOps_3 : List X → Option XOut := lay e_impl_cellOps_3 fun a => ((S_impl_cellOps_3 a.1 a.2)).bind fun r => r.on (fun r => some (.ret (.d (.int .i64 r)) [])) (fun x => some (.pan x []))
theorem C_impl_cellOps_3_eq (a0 : Int) (a1 : Int) : C_impl_cellOps_3 [.d (.int .i64 a0), .d (.int .i64 a1)] = ((S_impl_cellOps_3 a0 a1)).bind fun r => r.on (fun r => some (.ret (.d (.int .i64 r)) [])) (fun x => some (.pan x [])) := lay_eq (enc := e_impl_cellOps_3) (by
  intro a b h
  simp only [e_impl_cellOps_3, List.cons.injEq, X.d.injEq, X.agg.injEq, X.box.injEq, D.int.injEq, D.bool.injEq, D.fn.injEq, sD_inj, lstT_inj, ownT_inj, and_true, true_and, and_assoc] at h
  simp only [Prod.ext_iff]; exact h) (a0, a1)
noncomputable def G26 : Ctx := G25.with 153 C_impl_cellOps_3
theorem so26 : SoundAll Try.prog G26 := by
  refine layer (cuts := []) (k := 2) (cd := c_impl_cellOps_3) (rs := r_impl_cellOps_3) (enc := e_impl_cellOps_3) mixed so25 Try.func153 (by kernel_rfl) (by kernel_rfl) (by kernel_rfl) (by kernel_rfl) (by kernel_rfl) (by kernel_rfl) (wk := fun y => nocap y) Same.nocap ?_
  intro a out ho
  obtain ⟨r, h1, h2⟩ := Option.bind_eq_some_iff.mp ho
  obtain ⟨hp, rfl⟩ := under_some h1
  obtain ⟨N, hN⟩ := p_impl_cellOps_3 S_impl_inRange (fun _ h => under_pos h) a.1 a.2 hp
  refine ⟨N, ?_⟩
  refine ((callF_G (fun y => some (nocap y)) 2 c_impl_cellOps_3 r_impl_cellOps_3 (e_impl_cellOps_3 a) ⟨rfl, rfl, rfl⟩).trans (impl_cellOps_3_g ⟨G25, [], [], [], N, r_impl_cellOps_3, none, fun _ _ => none, fun y => some (nocap y)⟩ rfl rfl rfl rfl rfl (fun _ => rfl) (fun _ => rfl) rfl S_impl_inRange (fun a0 => (show G25 151 _ = _ from rfl).trans (C_impl_inRange_eq a0)) a.1 a.2)).trans ?_
  show (impl_cellOps_3_f S_impl_inRange N a.1 a.2).bind _ = _
  rw [hN]; exact h2
theorem snd_impl_cellOps_3 : Sound Try.prog 153 C_impl_cellOps_3 := by
  have h := so26 153
  exact h
-- loop.example/s02135/impl.floorDiv
noncomputable def S_impl_floorDiv (a0 : Int) (a1 : Int) : Option (Res (Int)) := under (pre_impl_floorDiv a0 a1) (s_impl_floorDiv a0 a1)
def e_impl_floorDiv (a : Int × Int) : List X := [.d (.int .i64 a.1), .d (.int .i64 a.2)]
noncomputable def C_impl_floorDiv : List X → Option XOut := lay e_impl_floorDiv fun a => ((S_impl_floorDiv a.1 a.2)).bind fun r => r.on (fun r => some (.ret (.d (.int .i64 r)) [])) (fun x => some (.pan x []))
theorem C_impl_floorDiv_eq (a0 : Int) (a1 : Int) : C_impl_floorDiv [.d (.int .i64 a0), .d (.int .i64 a1)] = ((S_impl_floorDiv a0 a1)).bind fun r => r.on (fun r => some (.ret (.d (.int .i64 r)) [])) (fun x => some (.pan x [])) := lay_eq (enc := e_impl_floorDiv) (by
  intro a b h
  simp only [e_impl_floorDiv, List.cons.injEq, X.d.injEq, X.agg.injEq, X.box.injEq, D.int.injEq, D.bool.injEq, D.fn.injEq, sD_inj, lstT_inj, ownT_inj, and_true, true_and, and_assoc] at h
  simp only [Prod.ext_iff]; exact h) (a0, a1)
noncomputable def G27 : Ctx := G26.with 155 C_impl_floorDiv
theorem so27 : SoundAll Try.prog G27 := by
  refine layer (cuts := []) (k := 2) (cd := c_impl_floorDiv) (rs := r_impl_floorDiv) (enc := e_impl_floorDiv) mixed so26 Try.func155 (by kernel_rfl) (by kernel_rfl) (by kernel_rfl) (by kernel_rfl) (by kernel_rfl) (by kernel_rfl) (wk := fun y => nocap y) Same.nocap ?_
  intro a out ho
  obtain ⟨r, h1, h2⟩ := Option.bind_eq_some_iff.mp ho
  obtain ⟨hp, rfl⟩ := under_some h1
  obtain ⟨N, hN⟩ := p_impl_floorDiv a.1 a.2 hp
  refine ⟨N, ?_⟩
  refine ((callF_G (fun y => some (nocap y)) 2 c_impl_floorDiv r_impl_floorDiv (e_impl_floorDiv a) ⟨rfl, rfl, rfl⟩).trans (impl_floorDiv_g ⟨G26, [], [], [], N, r_impl_floorDiv, none, fun _ _ => none, fun y => some (nocap y)⟩ rfl rfl rfl rfl rfl (fun _ => rfl) (fun _ => rfl) a.1 a.2)).trans ?_
  show (impl_floorDiv_f N a.1 a.2).bind _ = _
  rw [hN]; exact h2
-- loop.example/s02135/impl.cellOps$4
noncomputable def S_impl_cellOps_4 (a0 : Int) (a1 : Int) : Option (Res (Int)) := under (pre_impl_cellOps_4 a0 a1) (s_impl_cellOps_4 a0 a1)
def e_impl_cellOps_4 (a : Int × Int) : List X := [.d (.int .i64 a.1), .d (.int .i64 a.2)]
noncomputable def C_impl_cellOps_4 : List X → Option XOut := lay e_impl_cellOps_4 fun a => ((S_impl_cellOps_4 a.1 a.2)).bind fun r => r.on (fun r => some (.ret (.d (.int .i64 r)) [])) (fun x => some (.pan x []))
theorem C_impl_cellOps_4_eq (a0 : Int) (a1 : Int) : C_impl_cellOps_4 [.d (.int .i64 a0), .d (.int .i64 a1)] = ((S_impl_cellOps_4 a0 a1)).bind fun r => r.on (fun r => some (.ret (.d (.int .i64 r)) [])) (fun x => some (.pan x [])) := lay_eq (enc := e_impl_cellOps_4) (by
  intro a b h
  simp only [e_impl_cellOps_4, List.cons.injEq, X.d.injEq, X.agg.injEq, X.box.injEq, D.int.injEq, D.bool.injEq, D.fn.injEq, sD_inj, lstT_inj, ownT_inj, and_true, true_and, and_assoc] at h
  simp only [Prod.ext_iff]; exact h) (a0, a1)
noncomputable def G28 : Ctx := G27.with 154 C_impl_cellOps_4
theorem so28 : SoundAll Try.prog G28 := by
  refine layer (cuts := []) (k := 2) (cd := c_impl_cellOps_4) (rs := r_impl_cellOps_4) (enc := e_impl_cellOps_4) mixed so27 Try.func154 (by kernel_rfl) (by kernel_rfl) (by kernel_rfl) (by kernel_rfl) (by kernel_rfl) (by kernel_rfl) (wk := fun y => nocap y) Same.nocap ?_
  intro a out ho
  obtain ⟨r, h1, h2⟩ := Option.bind_eq_some_iff.mp ho
  obtain ⟨hp, rfl⟩ := under_some h1
  obtain ⟨N, hN⟩ := p_impl_cellOps_4 S_impl_floorDiv (fun _ _ h => under_pos h) S_impl_inRange (fun _ h => under_pos h) a.1 a.2 hp
  refine ⟨N, ?_⟩
  refine ((callF_G (fun y => some (nocap y)) 2 c_impl_cellOps_4 r_impl_cellOps_4 (e_impl_cellOps_4 a) ⟨rfl, rfl, rfl⟩).trans (impl_cellOps_4_g ⟨G27, [], [], [], N, r_impl_cellOps_4, none, fun _ _ => none, fun y => some (nocap y)⟩ rfl rfl rfl rfl rfl (fun _ => rfl) (fun _ => rfl) rfl S_impl_floorDiv (fun a0 a1 => (show G27 155 _ = _ from rfl).trans (C_impl_floorDiv_eq a0 a1)) rfl S_impl_inRange (fun a0 => (show G27 151 _ = _ from rfl).trans (C_impl_inRange_eq a0)) a.1 a.2)).trans ?_
  show (impl_cellOps_4_f S_impl_floorDiv S_impl_inRange N a.1 a.2).bind _ = _
  rw [hN]; exact h2
theorem snd_impl_cellOps_4 : Sound Try.prog 154 C_impl_cellOps_4 := by
  have h := so28 154
  exact h
-- loop.example/s02135/impl.residue
noncomputable def S_impl_residue (a0 : Int) (a1 : Int) : Option (Int) := under (pre_impl_residue a0 a1) (s_impl_residue a0 a1)
def e_impl_residue (a : Int × Int) : List X := [.d (.int .i64 a.1), .d (.int .i64 a.2)]
noncomputable def C_impl_residue : List X → Option XOut := lay e_impl_residue fun a => ((S_impl_residue a.1 a.2)).bind fun r => some (.ret (.d (.int .i64 r)) [])
theorem C_impl_residue_eq (a0 : Int) (a1 : Int) : C_impl_residue [.d (.int .i64 a0), .d (.int .i64 a1)] = ((S_impl_residue a0 a1)).bind fun r => some (.ret (.d (.int .i64 r)) []) := lay_eq (enc := e_impl_residue) (by
  intro a b h
  simp only [e_impl_residue, List.cons.injEq, X.d.injEq, X.agg.injEq, X.box.injEq, D.int.injEq, D.bool.injEq, D.fn.injEq, sD_inj, lstT_inj, ownT_inj, and_true, true_and, and_assoc] at h
  simp only [Prod.ext_iff]; exact h) (a0, a1)
noncomputable def G29 : Ctx := G28.with 156 C_impl_residue
theorem so29 : SoundAll Try.prog G29 := by
  refine layer (cuts := []) (k := 2) (cd := c_impl_residue) (rs := r_impl_residue) (enc := e_impl_residue) mixed so28 Try.func156 (by kernel_rfl) (by kernel_rfl) (by kernel_rfl) (by kernel_rfl) (by kernel_rfl) (by kernel_rfl) (wk := fun y => nocap y) Same.nocap ?_
  intro a out ho
  obtain ⟨r, h1, h2⟩ := Option.bind_eq_some_iff.mp ho
  obtain ⟨hp, rfl⟩ := under_some h1
  obtain ⟨N, hN⟩ := p_impl_residue a.1 a.2 hp
  refine ⟨N, ?_⟩
  refine ((callF_G (fun y => some (nocap y)) 2 c_impl_residue r_impl_residue (e_impl_residue a) ⟨rfl, rfl, rfl⟩).trans (impl_residue_g ⟨G28, [], [], [], N, r_impl_residue, none, fun _ _ => none, fun y => some (nocap y)⟩ rfl rfl rfl rfl rfl (fun _ => rfl) (fun _ => rfl) a.1 a.2)).trans ?_
  show (impl_residue_f N a.1 a.2).bind _ = _
  rw [hN]; exact h2
theorem snd_impl_residue : Sound Try.prog 156 C_impl_residue := by
  have h := so29 156
  exact h
-- loop.example/s02135/impl.cellOps$5
noncomputable def S_impl_cellOps_5 (a0 : Int) (a1 : Int) : Option (Int) := under (pre_impl_cellOps_5 a0 a1) (s_impl_cellOps_5 a0 a1)
def e_impl_cellOps_5 (a : Int × Int) : List X := [.d (.int .i64 a.1), .d (.int .i64 a.2)]
noncomputable def C_impl_cellOps_5 : List X → Option XOut := lay e_impl_cellOps_5 fun a => ((S_impl_cellOps_5 a.1 a.2)).bind fun r => some (.ret (.d (.int .i64 r)) [])
theorem C_impl_cellOps_5_eq (a0 : Int) (a1 : Int) : C_impl_cellOps_5 [.d (.int .i64 a0), .d (.int .i64 a1)] = ((S_impl_cellOps_5 a0 a1)).bind fun r => some (.ret (.d (.int .i64 r)) []) := lay_eq (enc := e_impl_cellOps_5) (by
  intro a b h
  simp only [e_impl_cellOps_5, List.cons.injEq, X.d.injEq, X.agg.injEq, X.box.injEq, D.int.injEq, D.bool.injEq, D.fn.injEq, sD_inj, lstT_inj, ownT_inj, and_true, true_and, and_assoc] at h
  simp only [Prod.ext_iff]; exact h) (a0, a1)
noncomputable def G30 : Ctx := G29.with 157 C_impl_cellOps_5
theorem so30 : SoundAll Try.prog G30 := by
  refine layer (cuts := []) (k := 2) (cd := c_impl_cellOps_5) (rs := r_impl_cellOps_5) (enc := e_impl_cellOps_5) mixed so29 Try.func157 (by kernel_rfl) (by kernel_rfl) (by kernel_rfl) (by kernel_rfl) (by kernel_rfl) (by kernel_rfl) (wk := fun y => nocap y) Same.nocap ?_
  intro a out ho
  obtain ⟨r, h1, h2⟩ := Option.bind_eq_some_iff.mp ho
  obtain ⟨hp, rfl⟩ := under_some h1
  obtain ⟨N, hN⟩ := p_impl_cellOps_5 a.1 a.2 hp
  refine ⟨N, ?_⟩
  refine ((callF_G (fun y => some (nocap y)) 2 c_impl_cellOps_5 r_impl_cellOps_5 (e_impl_cellOps_5 a) ⟨rfl, rfl, rfl⟩).trans (impl_cellOps_5_g ⟨G29, [], [], [], N, r_impl_cellOps_5, none, fun _ _ => none, fun y => some (nocap y)⟩ rfl rfl rfl rfl rfl (fun _ => rfl) (fun _ => rfl) a.1 a.2)).trans ?_
  show (impl_cellOps_5_f N a.1 a.2).bind _ = _
  rw [hN]; exact h2
theorem snd_impl_cellOps_5 : Sound Try.prog 157 C_impl_cellOps_5 := by
  have h := so30 157
  exact h
-- loop.example/s02135/impl.cellOps$6
noncomputable def S_impl_cellOps_6 (a0 : Int) (a1 : Int) : Option (Int) := under (pre_impl_cellOps_6 a0 a1) (s_impl_cellOps_6 a0 a1)
def e_impl_cellOps_6 (a : Int × Int) : List X := [.d (.int .i64 a.1), .d (.int .i64 a.2)]
noncomputable def C_impl_cellOps_6 : List X → Option XOut := lay e_impl_cellOps_6 fun a => ((S_impl_cellOps_6 a.1 a.2)).bind fun r => some (.ret (.d (.int .i64 r)) [])
theorem C_impl_cellOps_6_eq (a0 : Int) (a1 : Int) : C_impl_cellOps_6 [.d (.int .i64 a0), .d (.int .i64 a1)] = ((S_impl_cellOps_6 a0 a1)).bind fun r => some (.ret (.d (.int .i64 r)) []) := lay_eq (enc := e_impl_cellOps_6) (by
  intro a b h
  simp only [e_impl_cellOps_6, List.cons.injEq, X.d.injEq, X.agg.injEq, X.box.injEq, D.int.injEq, D.bool.injEq, D.fn.injEq, sD_inj, lstT_inj, ownT_inj, and_true, true_and, and_assoc] at h
  simp only [Prod.ext_iff]; exact h) (a0, a1)
noncomputable def G31 : Ctx := G30.with 158 C_impl_cellOps_6
theorem so31 : SoundAll Try.prog G31 := by
  refine layer (cuts := []) (k := 2) (cd := c_impl_cellOps_6) (rs := r_impl_cellOps_6) (enc := e_impl_cellOps_6) mixed so30 Try.func158 (by kernel_rfl) (by kernel_rfl) (by kernel_rfl) (by kernel_rfl) (by kernel_rfl) (by kernel_rfl) (wk := fun y => nocap y) Same.nocap ?_
  intro a out ho
  obtain ⟨r, h1, h2⟩ := Option.bind_eq_some_iff.mp ho
  obtain ⟨hp, rfl⟩ := under_some h1
  obtain ⟨N, hN⟩ := p_impl_cellOps_6 a.1 a.2 hp
  refine ⟨N, ?_⟩
  refine ((callF_G (fun y => some (nocap y)) 2 c_impl_cellOps_6 r_impl_cellOps_6 (e_impl_cellOps_6 a) ⟨rfl, rfl, rfl⟩).trans (impl_cellOps_6_g ⟨G30, [], [], [], N, r_impl_cellOps_6, none, fun _ _ => none, fun y => some (nocap y)⟩ rfl rfl rfl rfl rfl (fun _ => rfl) (fun _ => rfl) a.1 a.2)).trans ?_
  show (impl_cellOps_6_f N a.1 a.2).bind _ = _
  rw [hN]; exact h2
theorem snd_impl_cellOps_6 : Sound Try.prog 158 C_impl_cellOps_6 := by
  have h := so31 158
  exact h
-- loop.example/s02135/impl.truth
noncomputable def S_impl_truth (a0 : Bool) : Option (Int) := under (pre_impl_truth a0) (s_impl_truth a0)
def e_impl_truth (a : Bool) : List X := [.d (.bool a)]
noncomputable def C_impl_truth : List X → Option XOut := lay e_impl_truth fun a => ((S_impl_truth a)).bind fun r => some (.ret (.d (.int .i64 r)) [])
theorem C_impl_truth_eq (a0 : Bool) : C_impl_truth [.d (.bool a0)] = ((S_impl_truth a0)).bind fun r => some (.ret (.d (.int .i64 r)) []) := lay_eq (enc := e_impl_truth) (by
  intro a b h
  simp only [e_impl_truth, List.cons.injEq, X.d.injEq, X.agg.injEq, X.box.injEq, D.int.injEq, D.bool.injEq, D.fn.injEq, sD_inj, lstT_inj, ownT_inj, and_true, true_and, and_assoc] at h
  exact h) a0
noncomputable def G32 : Ctx := G31.with 117 C_impl_truth
theorem so32 : SoundAll Try.prog G32 := by
  refine layer (cuts := []) (k := 1) (cd := c_impl_truth) (rs := r_impl_truth) (enc := e_impl_truth) mixed so31 Try.func117 (by kernel_rfl) (by kernel_rfl) (by kernel_rfl) (by kernel_rfl) (by kernel_rfl) (by kernel_rfl) (wk := fun y => nocap y) Same.nocap ?_
  intro a out ho
  obtain ⟨r, h1, h2⟩ := Option.bind_eq_some_iff.mp ho
  obtain ⟨hp, rfl⟩ := under_some h1
  obtain ⟨N, hN⟩ := p_impl_truth a hp
  refine ⟨N, ?_⟩
  refine ((callF_G (fun y => some (nocap y)) 1 c_impl_truth r_impl_truth (e_impl_truth a) ⟨rfl, rfl, rfl⟩).trans (impl_truth_g ⟨G31, [], [], [], N, r_impl_truth, none, fun _ _ => none, fun y => some (nocap y)⟩ rfl rfl rfl rfl rfl (fun _ => rfl) (fun _ => rfl) a)).trans ?_
  show (impl_truth_f N a).bind _ = _
  rw [hN]; exact h2
-- loop.example/s02135/impl.cellOps$7
noncomputable def S_impl_cellOps_7 (a0 : Int) (a1 : Int) : Option (Int) := under (pre_impl_cellOps_7 a0 a1) (s_impl_cellOps_7 a0 a1)
def e_impl_cellOps_7 (a : Int × Int) : List X := [.d (.int .i64 a.1), .d (.int .i64 a.2)]
noncomputable def C_impl_cellOps_7 : List X → Option XOut := lay e_impl_cellOps_7 fun a => ((S_impl_cellOps_7 a.1 a.2)).bind fun r => some (.ret (.d (.int .i64 r)) [])
theorem C_impl_cellOps_7_eq (a0 : Int) (a1 : Int) : C_impl_cellOps_7 [.d (.int .i64 a0), .d (.int .i64 a1)] = ((S_impl_cellOps_7 a0 a1)).bind fun r => some (.ret (.d (.int .i64 r)) []) := lay_eq (enc := e_impl_cellOps_7) (by
  intro a b h
  simp only [e_impl_cellOps_7, List.cons.injEq, X.d.injEq, X.agg.injEq, X.box.injEq, D.int.injEq, D.bool.injEq, D.fn.injEq, sD_inj, lstT_inj, ownT_inj, and_true, true_and, and_assoc] at h
  simp only [Prod.ext_iff]; exact h) (a0, a1)
noncomputable def G33 : Ctx := G32.with 159 C_impl_cellOps_7
theorem so33 : SoundAll Try.prog G33 := by
  refine layer (cuts := []) (k := 2) (cd := c_impl_cellOps_7) (rs := r_impl_cellOps_7) (enc := e_impl_cellOps_7) mixed so32 Try.func159 (by kernel_rfl) (by kernel_rfl) (by kernel_rfl) (by kernel_rfl) (by kernel_rfl) (by kernel_rfl) (wk := fun y => nocap y) Same.nocap ?_
  intro a out ho
  obtain ⟨r, h1, h2⟩ := Option.bind_eq_some_iff.mp ho
  obtain ⟨hp, rfl⟩ := under_some h1
  obtain ⟨N, hN⟩ := p_impl_cellOps_7 S_impl_truth (fun _ h => under_pos h) a.1 a.2 hp
  refine ⟨N, ?_⟩
  refine ((callF_G (fun y => some (nocap y)) 2 c_impl_cellOps_7 r_impl_cellOps_7 (e_impl_cellOps_7 a) ⟨rfl, rfl, rfl⟩).trans (impl_cellOps_7_g ⟨G32, [], [], [], N, r_impl_cellOps_7, none, fun _ _ => none, fun y => some (nocap y)⟩ rfl rfl rfl rfl rfl (fun _ => rfl) (fun _ => rfl) rfl S_impl_truth (fun a0 => (show G32 117 _ = _ from rfl).trans (C_impl_truth_eq a0)) a.1 a.2)).trans ?_
  show (impl_cellOps_7_f S_impl_truth N a.1 a.2).bind _ = _
  rw [hN]; exact h2
theorem snd_impl_cellOps_7 : Sound Try.prog 159 C_impl_cellOps_7 := by
  have h := so33 159
  exact h
-- loop.example/s02135/impl.cellOps$8
noncomputable def S_impl_cellOps_8 (a0 : Int) (a1 : Int) : Option (Int) := under (pre_impl_cellOps_8 a0 a1) (s_impl_cellOps_8 a0 a1)
def e_impl_cellOps_8 (a : Int × Int) : List X := [.d (.int .i64 a.1), .d (.int .i64 a.2)]
noncomputable def C_impl_cellOps_8 : List X → Option XOut := lay e_impl_cellOps_8 fun a => ((S_impl_cellOps_8 a.1 a.2)).bind fun r => some (.ret (.d (.int .i64 r)) [])
theorem C_impl_cellOps_8_eq (a0 : Int) (a1 : Int) : C_impl_cellOps_8 [.d (.int .i64 a0), .d (.int .i64 a1)] = ((S_impl_cellOps_8 a0 a1)).bind fun r => some (.ret (.d (.int .i64 r)) []) := lay_eq (enc := e_impl_cellOps_8) (by
  intro a b h
  simp only [e_impl_cellOps_8, List.cons.injEq, X.d.injEq, X.agg.injEq, X.box.injEq, D.int.injEq, D.bool.injEq, D.fn.injEq, sD_inj, lstT_inj, ownT_inj, and_true, true_and, and_assoc] at h
  simp only [Prod.ext_iff]; exact h) (a0, a1)
noncomputable def G34 : Ctx := G33.with 160 C_impl_cellOps_8
theorem so34 : SoundAll Try.prog G34 := by
  refine layer (cuts := []) (k := 2) (cd := c_impl_cellOps_8) (rs := r_impl_cellOps_8) (enc := e_impl_cellOps_8) mixed so33 Try.func160 (by kernel_rfl) (by kernel_rfl) (by kernel_rfl) (by kernel_rfl) (by kernel_rfl) (by kernel_rfl) (wk := fun y => nocap y) Same.nocap ?_
  intro a out ho
  obtain ⟨r, h1, h2⟩ := Option.bind_eq_some_iff.mp ho
  obtain ⟨hp, rfl⟩ := under_some h1
  obtain ⟨N, hN⟩ := p_impl_cellOps_8 S_impl_truth (fun _ h => under_pos h) a.1 a.2 hp
  refine ⟨N, ?_⟩
  refine ((callF_G (fun y => some (nocap y)) 2 c_impl_cellOps_8 r_impl_cellOps_8 (e_impl_cellOps_8 a) ⟨rfl, rfl, rfl⟩).trans (impl_cellOps_8_g ⟨G33, [], [], [], N, r_impl_cellOps_8, none, fun _ _ => none, fun y => some (nocap y)⟩ rfl rfl rfl rfl rfl (fun _ => rfl) (fun _ => rfl) rfl S_impl_truth (fun a0 => (show G33 117 _ = _ from rfl).trans (C_impl_truth_eq a0)) a.1 a.2)).trans ?_
  show (impl_cellOps_8_f S_impl_truth N a.1 a.2).bind _ = _
  rw [hN]; exact h2
theorem snd_impl_cellOps_8 : Sound Try.prog 160 C_impl_cellOps_8 := by
  have h := so34 160
  exact h
-- loop.example/s02135/impl.cellOps$9
noncomputable def S_impl_cellOps_9 (a0 : Int) (a1 : Int) : Option (Int) := under (pre_impl_cellOps_9 a0 a1) (s_impl_cellOps_9 a0 a1)
def e_impl_cellOps_9 (a : Int × Int) : List X := [.d (.int .i64 a.1), .d (.int .i64 a.2)]
noncomputable def C_impl_cellOps_9 : List X → Option XOut := lay e_impl_cellOps_9 fun a => ((S_impl_cellOps_9 a.1 a.2)).bind fun r => some (.ret (.d (.int .i64 r)) [])
theorem C_impl_cellOps_9_eq (a0 : Int) (a1 : Int) : C_impl_cellOps_9 [.d (.int .i64 a0), .d (.int .i64 a1)] = ((S_impl_cellOps_9 a0 a1)).bind fun r => some (.ret (.d (.int .i64 r)) []) := lay_eq (enc := e_impl_cellOps_9) (by
  intro a b h
  simp only [e_impl_cellOps_9, List.cons.injEq, X.d.injEq, X.agg.injEq, X.box.injEq, D.int.injEq, D.bool.injEq, D.fn.injEq, sD_inj, lstT_inj, ownT_inj, and_true, true_and, and_assoc] at h
  simp only [Prod.ext_iff]; exact h) (a0, a1)
noncomputable def G35 : Ctx := G34.with 161 C_impl_cellOps_9
theorem so35 : SoundAll Try.prog G35 := by
  refine layer (cuts := []) (k := 2) (cd := c_impl_cellOps_9) (rs := r_impl_cellOps_9) (enc := e_impl_cellOps_9) mixed so34 Try.func161 (by kernel_rfl) (by kernel_rfl) (by kernel_rfl) (by kernel_rfl) (by kernel_rfl) (by kernel_rfl) (wk := fun y => nocap y) Same.nocap ?_
  intro a out ho
  obtain ⟨r, h1, h2⟩ := Option.bind_eq_some_iff.mp ho
  obtain ⟨hp, rfl⟩ := under_some h1
  obtain ⟨N, hN⟩ := p_impl_cellOps_9 S_impl_truth (fun _ h => under_pos h) a.1 a.2 hp
  refine ⟨N, ?_⟩
  refine ((callF_G (fun y => some (nocap y)) 2 c_impl_cellOps_9 r_impl_cellOps_9 (e_impl_cellOps_9 a) ⟨rfl, rfl, rfl⟩).trans (impl_cellOps_9_g ⟨G34, [], [], [], N, r_impl_cellOps_9, none, fun _ _ => none, fun y => some (nocap y)⟩ rfl rfl rfl rfl rfl (fun _ => rfl) (fun _ => rfl) rfl S_impl_truth (fun a0 => (show G34 117 _ = _ from rfl).trans (C_impl_truth_eq a0)) a.1 a.2)).trans ?_
  show (impl_cellOps_9_f S_impl_truth N a.1 a.2).bind _ = _
  rw [hN]; exact h2
theorem snd_impl_cellOps_9 : Sound Try.prog 161 C_impl_cellOps_9 := by
  have h := so35 161
  exact h
-- loop.example/s02135/impl.cellOps
noncomputable def S_impl_cellOps : Option (Unit) := under (pre_impl_cellOps ) (s_impl_cellOps )
def e_impl_cellOps (a : Unit) : List X := []
noncomputable def C_impl_cellOps : List X → Option XOut := lay e_impl_cellOps fun a => ((S_impl_cellOps )).bind fun r => some (.ret (.agg [.d (D.nilf), .d (.fn 150), .d (.fn 152), .d (.fn 153), .d (.fn 154), .d (.fn 156), .d (.fn 157), .d (.fn 158), .d (.fn 159), .d (.fn 160), .d (.fn 161)]) [])
theorem C_impl_cellOps_eq : C_impl_cellOps [] = ((S_impl_cellOps )).bind fun r => some (.ret (.agg [.d (D.nilf), .d (.fn 150), .d (.fn 152), .d (.fn 153), .d (.fn 154), .d (.fn 156), .d (.fn 157), .d (.fn 158), .d (.fn 159), .d (.fn 160), .d (.fn 161)]) []) := lay_eq (enc := e_impl_cellOps) (fun _ _ _ => rfl) ()
noncomputable def G36 : Ctx := G35.with 128 C_impl_cellOps
theorem so36 : SoundAll Try.prog G36 := by
  refine layer (cuts := []) (k := 0) (cd := c_impl_cellOps) (rs := r_impl_cellOps) (enc := e_impl_cellOps) mixed so35 Try.func128 (by kernel_rfl) (by kernel_rfl) (by kernel_rfl) (by kernel_rfl) (by kernel_rfl) (by kernel_rfl) (wk := fun y => nocap y) Same.nocap ?_
  intro a out ho
  obtain ⟨r, h1, h2⟩ := Option.bind_eq_some_iff.mp ho
  obtain ⟨hp, rfl⟩ := under_some h1
  obtain ⟨N, hN⟩ := p_impl_cellOps S_impl_cellOps_1 (fun _ _ h => under_pos h) S_impl_cellOps_2 (fun _ _ h => under_pos h) S_impl_cellOps_3 (fun _ _ h => under_pos h) S_impl_cellOps_4 (fun _ _ h => under_pos h) S_impl_residue (fun _ _ h => under_pos h) S_impl_cellOps_5 (fun _ _ h => under_pos h) S_impl_cellOps_6 (fun _ _ h => under_pos h) S_impl_cellOps_7 (fun _ _ h => under_pos h) S_impl_cellOps_8 (fun _ _ h => under_pos h) S_impl_cellOps_9 (fun _ _ h => under_pos h)  hp
  refine ⟨N, ?_⟩
  refine ((callF_G (fun y => some (nocap y)) 0 c_impl_cellOps r_impl_cellOps (e_impl_cellOps a) ⟨rfl, rfl, rfl⟩).trans (impl_cellOps_g ⟨G35, [], [], [], N, r_impl_cellOps, none, fun _ _ => none, fun y => some (nocap y)⟩ rfl rfl rfl rfl rfl (fun _ => rfl) (fun _ => rfl) rfl S_impl_cellOps_1 (fun a0 a1 => (show G35 150 _ = _ from rfl).trans (C_impl_cellOps_1_eq a0 a1)) rfl S_impl_cellOps_2 (fun a0 a1 => (show G35 152 _ = _ from rfl).trans (C_impl_cellOps_2_eq a0 a1)) rfl S_impl_cellOps_3 (fun a0 a1 => (show G35 153 _ = _ from rfl).trans (C_impl_cellOps_3_eq a0 a1)) rfl S_impl_cellOps_4 (fun a0 a1 => (show G35 154 _ = _ from rfl).trans (C_impl_cellOps_4_eq a0 a1)) rfl S_impl_residue (fun a0 a1 => (show G35 156 _ = _ from rfl).trans (C_impl_residue_eq a0 a1)) rfl S_impl_cellOps_5 (fun a0 a1 => (show G35 157 _ = _ from rfl).trans (C_impl_cellOps_5_eq a0 a1)) rfl S_impl_cellOps_6 (fun a0 a1 => (show G35 158 _ = _ from rfl).trans (C_impl_cellOps_6_eq a0 a1)) rfl S_impl_cellOps_7 (fun a0 a1 => (show G35 159 _ = _ from rfl).trans (C_impl_cellOps_7_eq a0 a1)) rfl S_impl_cellOps_8 (fun a0 a1 => (show G35 160 _ = _ from rfl).trans (C_impl_cellOps_8_eq a0 a1)) rfl S_impl_cellOps_9 (fun a0 a1 => (show G35 161 _ = _ from rfl).trans (C_impl_cellOps_9_eq a0 a1)) )).trans ?_
  show (impl_cellOps_f S_impl_cellOps_1 S_impl_cellOps_2 S_impl_cellOps_3 S_impl_cellOps_4 S_impl_residue S_impl_cellOps_5 S_impl_cellOps_6 S_impl_cellOps_7 S_impl_cellOps_8 S_impl_cellOps_9 N ).bind _ = _
  rw [hN]; exact h2
-- loop.example/s02135/impl.opOf
noncomputable def S_impl_opOf (a0 : Int) : Option (Alt Unit Nat) := under (pre_impl_opOf a0) (s_impl_opOf a0)
def e_impl_opOf (a : Int) : List X := [.d (.int .i64 a)]
noncomputable def C_impl_opOf : List X → Option XOut := lay e_impl_opOf fun a => ((S_impl_opOf a)).bind fun r => r.on (fun r => some (.ret (.tup [.d (D.nilf), .d (.bool false)]) [])) (fun r => some (.ret (.tup [.d (.fn r), .d (.bool true)]) []))
theorem C_impl_opOf_eq (a0 : Int) : C_impl_opOf [.d (.int .i64 a0)] = ((S_impl_opOf a0)).bind fun r => r.on (fun r => some (.ret (.tup [.d (D.nilf), .d (.bool false)]) [])) (fun r => some (.ret (.tup [.d (.fn r), .d (.bool true)]) [])) := lay_eq (enc := e_impl_opOf) (by
  intro a b h
  simp only [e_impl_opOf, List.cons.injEq, X.d.injEq, X.agg.injEq, X.box.injEq, D.int.injEq, D.bool.injEq, D.fn.injEq, sD_inj, lstT_inj, ownT_inj, and_true, true_and, and_assoc] at h
  exact h) a0
noncomputable def G37 : Ctx := G36.with 69 C_impl_opOf
theorem so37 : SoundAll Try.prog G37 := by
  refine layer (cuts := []) (k := 1) (cd := c_impl_opOf) (rs := r_impl_opOf) (enc := e_impl_opOf) mixed so36 Try.func69 (by kernel_rfl) (by kernel_rfl) (by kernel_rfl) (by kernel_rfl) (by kernel_rfl) (by kernel_rfl) (wk := fun y => nocap y) Same.nocap ?_
  intro a out ho
  obtain ⟨r, h1, h2⟩ := Option.bind_eq_some_iff.mp ho
  obtain ⟨hp, rfl⟩ := under_some h1
  obtain ⟨N, hN⟩ := p_impl_opOf S_impl_cellOps (fun h => under_pos h) a hp
  refine ⟨N, ?_⟩
  refine ((callF_G (fun y => some (nocap y)) 1 c_impl_opOf r_impl_opOf (e_impl_opOf a) ⟨rfl, rfl, rfl⟩).trans (impl_opOf_g ⟨G36, [], [], [], N, r_impl_opOf, none, fun _ _ => none, fun y => some (nocap y)⟩ rfl rfl rfl rfl rfl (fun _ => rfl) (fun _ => rfl) rfl S_impl_cellOps ((show G36 128 _ = _ from rfl).trans C_impl_cellOps_eq) a)).trans ?_
  show (impl_opOf_f S_impl_cellOps N a).bind _ = _
  rw [hN]; exact h2
theorem snd_impl_opOf : Sound Try.prog 69 C_impl_opOf := by
  have h := so37 69
  exact h
-- loop.example/s02135/impl.cellsOf
noncomputable def S_impl_cellsOf (a0 : List Int) : Option (Int × Bool) := under (pre_impl_cellsOf a0) (s_impl_cellsOf a0)
def e_impl_cellsOf (a : (List Int)) : List X := [.d (lstT cI a)]
noncomputable def C_impl_cellsOf : List X → Option XOut := lay e_impl_cellsOf fun a => ((S_impl_cellsOf a)).bind fun r => some (.ret (.tup [.d (.int .i64 r.1), .d (.bool r.2)]) [])
theorem C_impl_cellsOf_eq (a0 : List Int) : C_impl_cellsOf [.d (lstT cI a0)] = ((S_impl_cellsOf a0)).bind fun r => some (.ret (.tup [.d (.int .i64 r.1), .d (.bool r.2)]) []) := lay_eq (enc := e_impl_cellsOf) (by
  intro a b h
  simp only [e_impl_cellsOf, List.cons.injEq, X.d.injEq, X.agg.injEq, X.box.injEq, D.int.injEq, D.bool.injEq, D.fn.injEq, sD_inj, lstT_inj, ownT_inj, and_true, true_and, and_assoc] at h
  exact h) a0
noncomputable def G38 : Ctx := G37.with 50 C_impl_cellsOf
theorem so38 : SoundAll Try.prog G38 := by
  refine layer (cuts := []) (k := 1) (cd := c_impl_cellsOf) (rs := r_impl_cellsOf) (enc := e_impl_cellsOf) mixed so37 Try.func50 (by kernel_rfl) (by kernel_rfl) (by kernel_rfl) (by kernel_rfl) (by kernel_rfl) (by kernel_rfl) (wk := fun y => nocap y) Same.nocap ?_
  intro a out ho
  obtain ⟨r, h1, h2⟩ := Option.bind_eq_some_iff.mp ho
  obtain ⟨hp, rfl⟩ := under_some h1
  obtain ⟨N, hN⟩ := p_impl_cellsOf a hp
  refine ⟨N, ?_⟩
  refine ((callF_G (fun y => some (nocap y)) 1 c_impl_cellsOf r_impl_cellsOf (e_impl_cellsOf a) ⟨rfl, rfl, rfl⟩).trans (impl_cellsOf_g ⟨G37, [], [], [], N, r_impl_cellsOf, none, fun _ _ => none, fun y => some (nocap y)⟩ rfl rfl rfl rfl rfl (fun _ => rfl) (fun _ => rfl) a)).trans ?_
  show (impl_cellsOf_f N a).bind _ = _
  rw [hN]; exact h2
-- loop.example/s02135/impl.ArrayOk
noncomputable def S_impl_ArrayOk (a0_Shape : List Int) (a0_Data : List Int) : Option (Bool) := under (pre_impl_ArrayOk a0_Shape a0_Data) (s_impl_ArrayOk a0_Shape a0_Data)
def e_impl_ArrayOk (a : (List Int) × (List Int)) : List X := [.agg [.d (lstT cI a.1), .d (lstT cI a.2)]]
noncomputable def C_impl_ArrayOk : List X → Option XOut := lay e_impl_ArrayOk fun a => ((S_impl_ArrayOk a.1 a.2)).bind fun r => some (.ret (.d (.bool r)) [])
theorem C_impl_ArrayOk_eq (a0_Shape : List Int) (a0_Data : List Int) : C_impl_ArrayOk [.agg [.d (lstT cI a0_Shape), .d (lstT cI a0_Data)]] = ((S_impl_ArrayOk a0_Shape a0_Data)).bind fun r => some (.ret (.d (.bool r)) []) := lay_eq (enc := e_impl_ArrayOk) (by
  intro a b h
  simp only [e_impl_ArrayOk, List.cons.injEq, X.d.injEq, X.agg.injEq, X.box.injEq, D.int.injEq, D.bool.injEq, D.fn.injEq, sD_inj, lstT_inj, ownT_inj, and_true, true_and, and_assoc] at h
  simp only [Prod.ext_iff]; exact h) (a0_Shape, a0_Data)
noncomputable def G39 : Ctx := G38.with 17 C_impl_ArrayOk
theorem so39 : SoundAll Try.prog G39 := by
  refine layer (cuts := []) (k := 1) (cd := c_impl_ArrayOk) (rs := r_impl_ArrayOk) (enc := e_impl_ArrayOk) mixed so38 Try.func17 (by kernel_rfl) (by kernel_rfl) (by kernel_rfl) (by kernel_rfl) (by kernel_rfl) (by kernel_rfl) (wk := fun y => nocap y) Same.nocap ?_
  intro a out ho
  obtain ⟨r, h1, h2⟩ := Option.bind_eq_some_iff.mp ho
  obtain ⟨hp, rfl⟩ := under_some h1
  obtain ⟨N, hN⟩ := p_impl_ArrayOk S_impl_cellsOf (fun _ h => under_pos h) a.1 a.2 hp
  refine ⟨N, ?_⟩
  refine ((callF_G (fun y => some (nocap y)) 1 c_impl_ArrayOk r_impl_ArrayOk (e_impl_ArrayOk a) ⟨rfl, rfl, rfl⟩).trans (impl_ArrayOk_g ⟨G38, [], [], [], N, r_impl_ArrayOk, none, fun _ _ => none, fun y => some (nocap y)⟩ rfl rfl rfl rfl rfl (fun _ => rfl) (fun _ => rfl) rfl S_impl_cellsOf (fun a0 => (show G38 50 _ = _ from rfl).trans (C_impl_cellsOf_eq a0)) a.1 a.2)).trans ?_
  show (impl_ArrayOk_f S_impl_cellsOf N a.1 a.2).bind _ = _
  rw [hN]; exact h2
theorem snd_impl_ArrayOk : Sound Try.prog 17 C_impl_ArrayOk := by
  have h := so39 17
  exact h
-- loop.example/s02135/impl.caught
noncomputable def S_impl_caught (x : D) (a0 : Int) (a1_Shape : List Int) (a1_Data : List Int) : Option (Int) := (pn_impl_caught x).bind fun x => under (pre_impl_caught x a0 a1_Shape a1_Data) (s_impl_caught x a0 a1_Shape a1_Data)
def e_impl_caught (a : Int × (List Int) × (List Int)) : List X := [.box [.d (.int .i64 a.1)], .box [.d (lstT cI a.2.1), .d (lstT cI a.2.2)]]
theorem e_impl_caught_inj : ∀ a b, e_impl_caught a = e_impl_caught b → a = b := by
  intro a b h
  simp only [e_impl_caught, List.cons.injEq, X.d.injEq, X.agg.injEq, X.box.injEq, D.int.injEq, D.bool.injEq, D.fn.injEq, sD_inj, lstT_inj, ownT_inj, and_true, true_and, and_assoc] at h
  simp only [Prod.ext_iff]; exact h
noncomputable def FD_impl_caught (x : D) (xs : List X) : Option (List (List D)) := lay e_impl_caught (fun a => (S_impl_caught x a.1 a.2.1 a.2.2).bind fun r => some [[.int .i64 r], [D.nils, D.nils]]) xs
theorem FD_impl_caught_eq (x : D) (a0 : Int) (a1_Shape : List Int) (a1_Data : List Int) : FD_impl_caught x [.box [.d (.int .i64 a0)], .box [.d (lstT cI a1_Shape), .d (lstT cI a1_Data)]] = (S_impl_caught x a0 a1_Shape a1_Data).bind fun r => some [[.int .i64 r], [D.nils, D.nils]] := @lay_eq _ (List (List D)) e_impl_caught (fun a => (S_impl_caught x a.1 a.2.1 a.2.2).bind fun r => some [[.int .i64 r], [D.nils, D.nils]]) e_impl_caught_inj (a0, a1_Shape, a1_Data)
theorem pn_impl_caught_some {x : D} {c : Int} (h : pn_impl_caught x = some c) : x = .ifaceS 70 [.int .i64 c] := by
  unfold pn_impl_caught at h
  split at h
  · split at h
    · rename_i e; subst e; injection h with h; rw [h]
    · cases h
  · cases h
theorem S_impl_caught_eq (x : Int) (a0 : Int) (a1_Shape : List Int) (a1_Data : List Int) : S_impl_caught (.ifaceS 70 [.int .i64 x]) a0 a1_Shape a1_Data = under (pre_impl_caught x a0 a1_Shape a1_Data) (s_impl_caught x a0 a1_Shape a1_Data) := by
  unfold S_impl_caught pn_impl_caught
  simp only [if_true, Option.bind_some]
theorem sd_impl_caught : SoundD Try.prog 63 FD_impl_caught := by
  refine layerR' (cuts := []) (k := 2) (a := 7) (b := 4) (cd := c_impl_caught) mixed so39 Try.func63 (by kernel_rfl) (by kernel_rfl) (by kernel_rfl) (by kernel_rfl) (by kernel_rfl) (by kernel_rfl) (by kernel_rfl) (by kernel_rfl) ?_
  intro x xs outs ho
  obtain ⟨a, rfl, ho2⟩ := lay_some ho
  obtain ⟨r, h1, h2⟩ := Option.bind_eq_some_iff.mp ho2
  obtain ⟨c, h3, h4⟩ := Option.bind_eq_some_iff.mp h1
  obtain rfl := pn_impl_caught_some h3
  obtain ⟨hp, rfl⟩ := under_some h4
  obtain ⟨N, hN⟩ := p_impl_caught c a.1 a.2.1 a.2.2 hp
  refine ⟨N, ?_⟩
  rw [callR_G 2 4 c_impl_caught _ (e_impl_caught a) ⟨rfl, rfl, rfl⟩]
  refine (congrArg (fun z : Option XOut => z.bind _) (impl_caught_g ⟨G39, [0, 64], [0, 64], [], N, [], none, fun _ _ => none, some⟩ rfl rfl rfl rfl rfl (fun _ => rfl) (fun _ => rfl) c a.1 a.2.1 a.2.2)).trans ?_
  show ((impl_caught_f N c a.1 a.2.1 a.2.2).bind _).bind _ = _
  rw [hN]; exact h2
-- slices.Grow[[]int,int]
noncomputable def S_slices_Grow___int_int_ (a1 : Int) : Option (Res (List Int)) := under (pre_slices_Grow___int_int_ a1) (s_slices_Grow___int_int_ a1)
def e_slices_Grow___int_int_ (a : Int) : List X := [.nil, .d (.int .i64 a)]
noncomputable def C_slices_Grow___int_int_ : List X → Option XOut := lay e_slices_Grow___int_int_ fun a => ((S_slices_Grow___int_int_ a)).bind fun r => r.on (fun r => some (.ret (ownT (cI) 3 none false r) [])) (fun x => some (.pan x []))
theorem C_slices_Grow___int_int__eq (a1 : Int) : C_slices_Grow___int_int_ [.nil, .d (.int .i64 a1)] = ((S_slices_Grow___int_int_ a1)).bind fun r => r.on (fun r => some (.ret (ownT (cI) 3 none false r) [])) (fun x => some (.pan x [])) := lay_eq (enc := e_slices_Grow___int_int_) (by
  intro a b h
  simp only [e_slices_Grow___int_int_, List.cons.injEq, X.d.injEq, X.agg.injEq, X.box.injEq, D.int.injEq, D.bool.injEq, D.fn.injEq, sD_inj, lstT_inj, ownT_inj, and_true, true_and, and_assoc] at h
  exact h) a1
noncomputable def G40 : Ctx := G39.with 131 C_slices_Grow___int_int_ true
theorem so40 : SoundAll Try.prog G40 := by
  refine layer (cuts := [20, 25]) (k := 2) (cd := c_slices_Grow___int_int_) (rs := r_slices_Grow___int_int_) (enc := e_slices_Grow___int_int_) mixed so39 Try.func131 (by kernel_rfl) (by kernel_rfl) (by kernel_rfl) (by kernel_rfl) (by kernel_rfl) (by kernel_rfl) (wk := fun y => nocap (asOwn (.own 3 1) y)) (Same.comp Same.nocap (Same.own (.own 3 1))) ?_
  intro a out ho
  obtain ⟨r, h1, h2⟩ := Option.bind_eq_some_iff.mp ho
  obtain ⟨hp, rfl⟩ := under_some h1
  obtain ⟨N, hN⟩ := p_slices_Grow___int_int_ a hp
  refine ⟨N, ?_⟩
  refine ((callF_G (fun y => some (nocap (asOwn (.own 3 1) y))) 2 c_slices_Grow___int_int_ r_slices_Grow___int_int_ (e_slices_Grow___int_int_ a) ⟨rfl, rfl, rfl⟩).trans (slices_Grow___int_int__g ⟨G39, [], [], [], N, r_slices_Grow___int_int_, none, fun _ _ => none, fun y => some (nocap (asOwn (.own 3 1) y))⟩ rfl rfl rfl rfl rfl (fun _ => rfl) (fun _ => rfl) a)).trans ?_
  show (slices_Grow___int_int__f N a).bind _ = _
  rw [hN]; exact h2
-- slices.Concat[[]int,int]
noncomputable def S_slices_Concat___int_int_ (a0 : List (List Int)) : Option (Res (List Int)) := under (pre_slices_Concat___int_int_ a0) (s_slices_Concat___int_int_ a0)
def e_slices_Concat___int_int_ (a : (List (List Int))) : List X := [.d (lstT (cL cI) a)]
noncomputable def C_slices_Concat___int_int_ : List X → Option XOut := lay e_slices_Concat___int_int_ fun a => ((S_slices_Concat___int_int_ a)).bind fun r => r.on (fun r => some (.ret (ownT (cI) 3 none false r) [])) (fun x => some (.pan x []))
theorem C_slices_Concat___int_int__eq (a0 : List (List Int)) : C_slices_Concat___int_int_ [.d (lstT (cL cI) a0)] = ((S_slices_Concat___int_int_ a0)).bind fun r => r.on (fun r => some (.ret (ownT (cI) 3 none false r) [])) (fun x => some (.pan x [])) := lay_eq (enc := e_slices_Concat___int_int_) (by
  intro a b h
  simp only [e_slices_Concat___int_int_, List.cons.injEq, X.d.injEq, X.agg.injEq, X.box.injEq, D.int.injEq, D.bool.injEq, D.fn.injEq, sD_inj, lstT_inj, ownT_inj, and_true, true_and, and_assoc] at h
  exact h) a0
noncomputable def G41 : Ctx := G40.with 73 C_slices_Concat___int_int_
theorem so41 : SoundAll Try.prog G41 := by
  refine layer (cuts := []) (k := 1) (cd := c_slices_Concat___int_int_) (rs := r_slices_Concat___int_int_) (enc := e_slices_Concat___int_int_) mixed so40 Try.func73 (by kernel_rfl) (by kernel_rfl) (by kernel_rfl) (by kernel_rfl) (by kernel_rfl) (by kernel_rfl) (wk := fun y => nocap y) Same.nocap ?_
  intro a out ho
  obtain ⟨r, h1, h2⟩ := Option.bind_eq_some_iff.mp ho
  obtain ⟨hp, rfl⟩ := under_some h1
  obtain ⟨N, hN⟩ := p_slices_Concat___int_int_ S_slices_Grow___int_int_ (fun _ h => under_pos h) a hp
  refine ⟨N, ?_⟩
  refine ((callF_G (fun y => some (nocap y)) 1 c_slices_Concat___int_int_ r_slices_Concat___int_int_ (e_slices_Concat___int_int_ a) ⟨rfl, rfl, rfl⟩).trans (slices_Concat___int_int__g ⟨G40, [], [], [], N, r_slices_Concat___int_int_, none, fun _ _ => none, fun y => some (nocap y)⟩ rfl rfl rfl rfl rfl (fun _ => rfl) (fun _ => rfl) rfl S_slices_Grow___int_int_ (fun a1 => (show G40 131 _ = _ from rfl).trans (C_slices_Grow___int_int__eq a1)) a)).trans ?_
  show (slices_Concat___int_int__f S_slices_Grow___int_int_ N a).bind _ = _
  rw [hN]; exact h2
theorem snd_slices_Concat___int_int_ : Sound Try.prog 73 C_slices_Concat___int_int_ := by
  have h := so41 73
  exact h
-- slices.Clone[[]int,int]
noncomputable def S_slices_Clone___int_int_ (a0 : List Int) : Option (List Int) := under (pre_slices_Clone___int_int_ a0) (s_slices_Clone___int_int_ a0)
def e_slices_Clone___int_int_ (l : List Int) : List X := [.d (lstT cI l)]
noncomputable def C_slices_Clone___int_int_ : List X → Option XOut := lay e_slices_Clone___int_int_ fun a => ((S_slices_Clone___int_int_ a)).bind fun r => some (.ret (ownT (cI) 3 none false r) [])
theorem C_slices_Clone___int_int__eq (a0 : List Int) : C_slices_Clone___int_int_ [.d (lstT cI a0)] = ((S_slices_Clone___int_int_ a0)).bind fun r => some (.ret (ownT (cI) 3 none false r) []) := lay_eq (enc := e_slices_Clone___int_int_) (by
  intro a b h
  simp only [e_slices_Clone___int_int_, List.cons.injEq, X.d.injEq, X.agg.injEq, X.box.injEq, D.int.injEq, D.bool.injEq, D.fn.injEq, sD_inj, lstT_inj, ownT_inj, and_true, true_and, and_assoc] at h
  exact h) a0
noncomputable def G42 : Ctx := G41.with 126 C_slices_Clone___int_int_
theorem so42 : SoundAll Try.prog G42 := by
  refine layerN (cuts := []) (cd := c_slices_Clone___int_int_) (rs := r_slices_Clone___int_int_) mixed so41 Try.func126 (by kernel_rfl) (by kernel_rfl) (by kernel_rfl) (by kernel_rfl) (by kernel_rfl) (by kernel_rfl) cI (wk := fun y => nocap (asOwn (.own 3 1) y)) (Same.comp Same.nocap (Same.own (.own 3 1))) ?_ ?_
  · intro l out ho
    obtain ⟨r, h1, h2⟩ := Option.bind_eq_some_iff.mp ho
    obtain ⟨hp, rfl⟩ := under_some h1
    obtain ⟨N, hN⟩ := (p_slices_Clone___int_int_ l hp).1
    refine ⟨N, ?_⟩
    refine ((callF_G (fun y => some (nocap (asOwn (.own 3 1) y))) 1 c_slices_Clone___int_int_ r_slices_Clone___int_int_ [.d (lstST cI l)] ⟨rfl, rfl, rfl⟩).trans (slices_Clone___int_int__S_g ⟨G41, [], [], [], N, r_slices_Clone___int_int_, none, fun _ _ => none, fun y => some (nocap (asOwn (.own 3 1) y))⟩ rfl rfl rfl rfl rfl (fun _ => rfl) (fun _ => rfl) l)).trans ?_
    show (slices_Clone___int_int__S_f N l).bind _ = _
    rw [hN]; exact h2
  · intro out ho
    obtain ⟨r, h1, h2⟩ := Option.bind_eq_some_iff.mp ho
    obtain ⟨hp, rfl⟩ := under_some h1
    obtain ⟨N, hN⟩ := (p_slices_Clone___int_int_ [] hp).2
    refine ⟨N, ?_⟩
    refine ((callF_G (fun y => some (nocap (asOwn (.own 3 1) y))) 1 c_slices_Clone___int_int_ r_slices_Clone___int_int_ [.nil] ⟨rfl, rfl, rfl⟩).trans (slices_Clone___int_int__N_g ⟨G41, [], [], [], N, r_slices_Clone___int_int_, none, fun _ _ => none, fun y => some (nocap (asOwn (.own 3 1) y))⟩ rfl rfl rfl rfl rfl (fun _ => rfl) (fun _ => rfl))).trans ?_
    show (slices_Clone___int_int__N_f N).bind _ = _
    rw [hN]; exact h2
-- loop.example/s02135/impl.made
noncomputable def S_impl_made (a0 : List Int) : Option (Res (List Int × Option Nat × List Int)) := under (pre_impl_made a0) (s_impl_made a0)
def e_impl_made (a : (List Int)) : List X := [.d (lstT cI a)]
noncomputable def C_impl_made : List X → Option XOut := lay e_impl_made fun a => ((S_impl_made a)).bind fun r => r.on (fun r => some (.ret (.agg [ownT (cI) 3 none false r.1, ownT (cI) 3 r.2.1 false r.2.2]) [])) (fun x => some (.pan x []))
theorem C_impl_made_eq (a0 : List Int) : C_impl_made [.d (lstT cI a0)] = ((S_impl_made a0)).bind fun r => r.on (fun r => some (.ret (.agg [ownT (cI) 3 none false r.1, ownT (cI) 3 r.2.1 false r.2.2]) [])) (fun x => some (.pan x [])) := lay_eq (enc := e_impl_made) (by
  intro a b h
  simp only [e_impl_made, List.cons.injEq, X.d.injEq, X.agg.injEq, X.box.injEq, D.int.injEq, D.bool.injEq, D.fn.injEq, sD_inj, lstT_inj, ownT_inj, and_true, true_and, and_assoc] at h
  exact h) a0
noncomputable def G43 : Ctx := G42.with 64 C_impl_made
theorem so43 : SoundAll Try.prog G43 := by
  refine layer (cuts := []) (k := 1) (cd := c_impl_made) (rs := r_impl_made) (enc := e_impl_made) mixed so42 Try.func64 (by kernel_rfl) (by kernel_rfl) (by kernel_rfl) (by kernel_rfl) (by kernel_rfl) (by kernel_rfl) (wk := fun y => y) Same.id ?_
  intro a out ho
  obtain ⟨r, h1, h2⟩ := Option.bind_eq_some_iff.mp ho
  obtain ⟨hp, rfl⟩ := under_some h1
  obtain ⟨N, hN⟩ := p_impl_made S_impl_cellsOf (fun _ h => under_pos h) S_slices_Clone___int_int_ (fun _ h => under_pos h) a hp
  refine ⟨N, ?_⟩
  refine ((callF_G (fun y => some (y)) 1 c_impl_made r_impl_made (e_impl_made a) ⟨rfl, rfl, rfl⟩).trans (impl_made_g ⟨G42, [], [], [], N, r_impl_made, none, fun _ _ => none, fun y => some (y)⟩ rfl rfl rfl rfl rfl (fun _ => rfl) (fun _ => rfl) rfl S_impl_cellsOf (fun a0 => (show G42 50 _ = _ from rfl).trans (C_impl_cellsOf_eq a0)) rfl S_slices_Clone___int_int_ (fun a0 => (show G42 126 _ = _ from rfl).trans (C_slices_Clone___int_int__eq a0)) a)).trans ?_
  show (impl_made_f S_impl_cellsOf S_slices_Clone___int_int_ N a).bind _ = _
  rw [hN]; exact h2
theorem snd_impl_made : Sound Try.prog 64 C_impl_made := by
  have h := so43 64
  exact h
-- loop.example/s02135/impl.nothingOf
noncomputable def S_impl_nothingOf (a0 : Int) : Option (Res (Int)) := under (pre_impl_nothingOf a0) (s_impl_nothingOf a0)
def e_impl_nothingOf (a : Int) : List X := [.d (.int .i64 a)]
noncomputable def C_impl_nothingOf : List X → Option XOut := lay e_impl_nothingOf fun a => ((S_impl_nothingOf a)).bind fun r => r.on (fun r => some (.ret (.d (.int .i64 r)) [])) (fun x => some (.pan x []))
theorem C_impl_nothingOf_eq (a0 : Int) : C_impl_nothingOf [.d (.int .i64 a0)] = ((S_impl_nothingOf a0)).bind fun r => r.on (fun r => some (.ret (.d (.int .i64 r)) [])) (fun x => some (.pan x [])) := lay_eq (enc := e_impl_nothingOf) (by
  intro a b h
  simp only [e_impl_nothingOf, List.cons.injEq, X.d.injEq, X.agg.injEq, X.box.injEq, D.int.injEq, D.bool.injEq, D.fn.injEq, sD_inj, lstT_inj, ownT_inj, and_true, true_and, and_assoc] at h
  exact h) a0
noncomputable def G44 : Ctx := G43.with 80 C_impl_nothingOf
theorem so44 : SoundAll Try.prog G44 := by
  refine layer (cuts := []) (k := 1) (cd := c_impl_nothingOf) (rs := r_impl_nothingOf) (enc := e_impl_nothingOf) mixed so43 Try.func80 (by kernel_rfl) (by kernel_rfl) (by kernel_rfl) (by kernel_rfl) (by kernel_rfl) (by kernel_rfl) (wk := fun y => nocap y) Same.nocap ?_
  intro a out ho
  obtain ⟨r, h1, h2⟩ := Option.bind_eq_some_iff.mp ho
  obtain ⟨hp, rfl⟩ := under_some h1
  obtain ⟨N, hN⟩ := p_impl_nothingOf a hp
  refine ⟨N, ?_⟩
  refine ((callF_G (fun y => some (nocap y)) 1 c_impl_nothingOf r_impl_nothingOf (e_impl_nothingOf a) ⟨rfl, rfl, rfl⟩).trans (impl_nothingOf_g ⟨G43, [], [], [], N, r_impl_nothingOf, none, fun _ _ => none, fun y => some (nocap y)⟩ rfl rfl rfl rfl rfl (fun _ => rfl) (fun _ => rfl) a)).trans ?_
  show (impl_nothingOf_f N a).bind _ = _
  rw [hN]; exact h2
theorem snd_impl_nothingOf : Sound Try.prog 80 C_impl_nothingOf := by
  have h := so44 80
  exact h
-- loop.example/s02135/impl.Inner
noncomputable def D44 : Ctx := (((((((((((((((G0.with 150 C_impl_cellOps_1).with 152 C_impl_cellOps_2).with 153 C_impl_cellOps_3).with 154 C_impl_cellOps_4).with 156 C_impl_residue).with 157 C_impl_cellOps_5).with 158 C_impl_cellOps_6).with 159 C_impl_cellOps_7).with 160 C_impl_cellOps_8).with 161 C_impl_cellOps_9).with 69 C_impl_opOf).with 17 C_impl_ArrayOk).with 73 C_slices_Concat___int_int_).with 64 C_impl_made).with 80 C_impl_nothingOf)
theorem sD44 : SoundAll Try.prog D44 := (((((((((((((((so0.with snd_impl_cellOps_1).with snd_impl_cellOps_2).with snd_impl_cellOps_3).with snd_impl_cellOps_4).with snd_impl_residue).with snd_impl_cellOps_5).with snd_impl_cellOps_6).with snd_impl_cellOps_7).with snd_impl_cellOps_8).with snd_impl_cellOps_9).with snd_impl_opOf).with snd_impl_ArrayOk).with snd_slices_Concat___int_int_).with snd_impl_made).with snd_impl_nothingOf)
theorem dy44 (f : Nat) (x y : Int) : D44 f [.d (.int .i64 x), .d (.int .i64 y)] = (under (dyn_pre f x y) (dyn_s f x y)).bind fun r => r.on (fun r => some (.ret (.d (.int .i64 r)) [])) (fun x => some (.pan x [])) := by
  by_cases e0 : f = 150
  · subst e0
    refine (show D44 150 _ = _ from rfl).trans ((C_impl_cellOps_1_eq x y).trans ?_)
    unfold S_impl_cellOps_1
    by_cases h : pre_impl_cellOps_1 x y
    · rw [under_pos h, under_pos (show dyn_pre 150 x y from ⟨by simp, h⟩)] <;> first | rfl | simp [dyn_s, Res.on]
    · rw [under_neg h, under_neg (fun q => h q.2)] <;> rfl
  by_cases e1 : f = 152
  · subst e1
    refine (show D44 152 _ = _ from rfl).trans ((C_impl_cellOps_2_eq x y).trans ?_)
    unfold S_impl_cellOps_2
    by_cases h : pre_impl_cellOps_2 x y
    · rw [under_pos h, under_pos (show dyn_pre 152 x y from ⟨by simp, h⟩)] <;> first | rfl | simp [dyn_s, Res.on]
    · rw [under_neg h, under_neg (fun q => h q.2)] <;> rfl
  by_cases e2 : f = 153
  · subst e2
    refine (show D44 153 _ = _ from rfl).trans ((C_impl_cellOps_3_eq x y).trans ?_)
    unfold S_impl_cellOps_3
    by_cases h : pre_impl_cellOps_3 x y
    · rw [under_pos h, under_pos (show dyn_pre 153 x y from ⟨by simp, h⟩)] <;> first | rfl | simp [dyn_s, Res.on]
    · rw [under_neg h, under_neg (fun q => h q.2)] <;> rfl
  by_cases e3 : f = 154
  · subst e3
    refine (show D44 154 _ = _ from rfl).trans ((C_impl_cellOps_4_eq x y).trans ?_)
    unfold S_impl_cellOps_4
    by_cases h : pre_impl_cellOps_4 x y
    · rw [under_pos h, under_pos (show dyn_pre 154 x y from ⟨by simp, h⟩)] <;> first | rfl | simp [dyn_s, Res.on]
    · rw [under_neg h, under_neg (fun q => h q.2)] <;> rfl
  by_cases e4 : f = 156
  · subst e4
    refine (show D44 156 _ = _ from rfl).trans ((C_impl_residue_eq x y).trans ?_)
    unfold S_impl_residue
    by_cases h : pre_impl_residue x y
    · rw [under_pos h, under_pos (show dyn_pre 156 x y from ⟨by simp, h⟩)] <;> first | rfl | simp [dyn_s, Res.on]
    · rw [under_neg h, under_neg (fun q => h q.2)] <;> rfl
  by_cases e5 : f = 157
  · subst e5
    refine (show D44 157 _ = _ from rfl).trans ((C_impl_cellOps_5_eq x y).trans ?_)
    unfold S_impl_cellOps_5
    by_cases h : pre_impl_cellOps_5 x y
    · rw [under_pos h, under_pos (show dyn_pre 157 x y from ⟨by simp, h⟩)] <;> first | rfl | simp [dyn_s, Res.on]
    · rw [under_neg h, under_neg (fun q => h q.2)] <;> rfl
  by_cases e6 : f = 158
  · subst e6
    refine (show D44 158 _ = _ from rfl).trans ((C_impl_cellOps_6_eq x y).trans ?_)
    unfold S_impl_cellOps_6
    by_cases h : pre_impl_cellOps_6 x y
    · rw [under_pos h, under_pos (show dyn_pre 158 x y from ⟨by simp, h⟩)] <;> first | rfl | simp [dyn_s, Res.on]
    · rw [under_neg h, under_neg (fun q => h q.2)] <;> rfl
  by_cases e7 : f = 159
  · subst e7
    refine (show D44 159 _ = _ from rfl).trans ((C_impl_cellOps_7_eq x y).trans ?_)
    unfold S_impl_cellOps_7
    by_cases h : pre_impl_cellOps_7 x y
    · rw [under_pos h, under_pos (show dyn_pre 159 x y from ⟨by simp, h⟩)] <;> first | rfl | simp [dyn_s, Res.on]
    · rw [under_neg h, under_neg (fun q => h q.2)] <;> rfl
  by_cases e8 : f = 160
  · subst e8
    refine (show D44 160 _ = _ from rfl).trans ((C_impl_cellOps_8_eq x y).trans ?_)
    unfold S_impl_cellOps_8
    by_cases h : pre_impl_cellOps_8 x y
    · rw [under_pos h, under_pos (show dyn_pre 160 x y from ⟨by simp, h⟩)] <;> first | rfl | simp [dyn_s, Res.on]
    · rw [under_neg h, under_neg (fun q => h q.2)] <;> rfl
  by_cases e9 : f = 161
  · subst e9
    refine (show D44 161 _ = _ from rfl).trans ((C_impl_cellOps_9_eq x y).trans ?_)
    unfold S_impl_cellOps_9
    by_cases h : pre_impl_cellOps_9 x y
    · rw [under_pos h, under_pos (show dyn_pre 161 x y from ⟨by simp, h⟩)] <;> first | rfl | simp [dyn_s, Res.on]
    · rw [under_neg h, under_neg (fun q => h q.2)] <;> rfl
  by_cases e10 : f = 69
  · subst e10
    refine (show D44 69 _ = _ from rfl).trans ((show C_impl_opOf [.d (.int .i64 x), .d (.int .i64 y)] = none from lay_none (fun a h => by simp [e_impl_opOf, lstT] at h)).trans ?_)
    rw [under_neg (fun q => by simp [dyn_pre] at q)] <;> rfl
  by_cases e11 : f = 17
  · subst e11
    refine (show D44 17 _ = _ from rfl).trans ((show C_impl_ArrayOk [.d (.int .i64 x), .d (.int .i64 y)] = none from lay_none (fun a h => by simp [e_impl_ArrayOk, lstT] at h)).trans ?_)
    rw [under_neg (fun q => by simp [dyn_pre] at q)] <;> rfl
  by_cases e12 : f = 73
  · subst e12
    refine (show D44 73 _ = _ from rfl).trans ((show C_slices_Concat___int_int_ [.d (.int .i64 x), .d (.int .i64 y)] = none from lay_none (fun a h => by simp [e_slices_Concat___int_int_, lstT] at h)).trans ?_)
    rw [under_neg (fun q => by simp [dyn_pre] at q)] <;> rfl
  by_cases e13 : f = 64
  · subst e13
    refine (show D44 64 _ = _ from rfl).trans ((show C_impl_made [.d (.int .i64 x), .d (.int .i64 y)] = none from lay_none (fun a h => by simp [e_impl_made, lstT] at h)).trans ?_)
    rw [under_neg (fun q => by simp [dyn_pre] at q)] <;> rfl
  by_cases e14 : f = 80
  · subst e14
    refine (show D44 80 _ = _ from rfl).trans ((show C_impl_nothingOf [.d (.int .i64 x), .d (.int .i64 y)] = none from lay_none (fun a h => by simp [e_impl_nothingOf, lstT] at h)).trans ?_)
    rw [under_neg (fun q => by simp [dyn_pre] at q)] <;> rfl
  rw [under_neg (fun q => by have := q.1; omega)]
  show (if f = 80 then C_impl_nothingOf [.d (.int .i64 x), .d (.int .i64 y)] else if f = 64 then C_impl_made [.d (.int .i64 x), .d (.int .i64 y)] else if f = 73 then C_slices_Concat___int_int_ [.d (.int .i64 x), .d (.int .i64 y)] else if f = 17 then C_impl_ArrayOk [.d (.int .i64 x), .d (.int .i64 y)] else if f = 69 then C_impl_opOf [.d (.int .i64 x), .d (.int .i64 y)] else if f = 161 then C_impl_cellOps_9 [.d (.int .i64 x), .d (.int .i64 y)] else if f = 160 then C_impl_cellOps_8 [.d (.int .i64 x), .d (.int .i64 y)] else if f = 159 then C_impl_cellOps_7 [.d (.int .i64 x), .d (.int .i64 y)] else if f = 158 then C_impl_cellOps_6 [.d (.int .i64 x), .d (.int .i64 y)] else if f = 157 then C_impl_cellOps_5 [.d (.int .i64 x), .d (.int .i64 y)] else if f = 156 then C_impl_residue [.d (.int .i64 x), .d (.int .i64 y)] else if f = 154 then C_impl_cellOps_4 [.d (.int .i64 x), .d (.int .i64 y)] else if f = 153 then C_impl_cellOps_3 [.d (.int .i64 x), .d (.int .i64 y)] else if f = 152 then C_impl_cellOps_2 [.d (.int .i64 x), .d (.int .i64 y)] else if f = 150 then C_impl_cellOps_1 [.d (.int .i64 x), .d (.int .i64 y)] else G0 f [.d (.int .i64 x), .d (.int .i64 y)]) = none
  rw [if_neg e14, if_neg e13, if_neg e12, if_neg e11, if_neg e10, if_neg e9, if_neg e8, if_neg e7, if_neg e6, if_neg e5, if_neg e4, if_neg e3, if_neg e2, if_neg e1, if_neg e0]; rfl
noncomputable def S_impl_Inner (a0 : Int) (a1 : Int) (a2_Shape : List Int) (a2_Data : List Int) (a3_Shape : List Int) (a3_Data : List Int) : Option (List Int × List Int × Int) := under (pre_impl_Inner a0 a1 a2_Shape a2_Data a3_Shape a3_Data) (s_impl_Inner a0 a1 a2_Shape a2_Data a3_Shape a3_Data)
def e_impl_Inner (a : Int × Int × (List Int) × (List Int) × (List Int) × (List Int)) : List X := [.d (.int .i64 a.1), .d (.int .i64 a.2.1), .agg [.d (lstT cI a.2.2.1), .d (lstT cI a.2.2.2.1)], .agg [.d (lstT cI a.2.2.2.2.1), .d (lstT cI a.2.2.2.2.2)]]
noncomputable def C_impl_Inner : List X → Option XOut := lay e_impl_Inner fun a => ((S_impl_Inner a.1 a.2.1 a.2.2.1 a.2.2.2.1 a.2.2.2.2.1 a.2.2.2.2.2)).bind fun r => some (.ret (.tup [.agg [ownT (cI) 3 none false r.1, ownT (cI) 3 none false r.2.1], .d (.int .i64 r.2.2)]) [])
theorem C_impl_Inner_eq (a0 : Int) (a1 : Int) (a2_Shape : List Int) (a2_Data : List Int) (a3_Shape : List Int) (a3_Data : List Int) : C_impl_Inner [.d (.int .i64 a0), .d (.int .i64 a1), .agg [.d (lstT cI a2_Shape), .d (lstT cI a2_Data)], .agg [.d (lstT cI a3_Shape), .d (lstT cI a3_Data)]] = ((S_impl_Inner a0 a1 a2_Shape a2_Data a3_Shape a3_Data)).bind fun r => some (.ret (.tup [.agg [ownT (cI) 3 none false r.1, ownT (cI) 3 none false r.2.1], .d (.int .i64 r.2.2)]) []) := lay_eq (enc := e_impl_Inner) (by
  intro a b h
  simp only [e_impl_Inner, List.cons.injEq, X.d.injEq, X.agg.injEq, X.box.injEq, D.int.injEq, D.bool.injEq, D.fn.injEq, sD_inj, lstT_inj, ownT_inj, and_true, true_and, and_assoc] at h
  simp only [Prod.ext_iff]; exact h) (a0, a1, a2_Shape, a2_Data, a3_Shape, a3_Data)
noncomputable def G45 : Ctx := G44.with 37 C_impl_Inner
theorem sq45 : SoundAll Try.prog (D44.with 37 C_impl_Inner) := by
  refine layerD' (cuts := [82]) (k := 4) (A := c_impl_Inner) (B := d_impl_Inner) (da := da_impl_Inner) (keep := kp_impl_Inner) (rs := r_impl_Inner) (enc := e_impl_Inner) mixed sD44 sd_impl_caught Try.func37 (by kernel_rfl) (by kernel_rfl) (by kernel_rfl) (by kernel_rfl) (by kernel_rfl) (by kernel_rfl) (by kernel_rfl) (by kernel_rfl) (wk := fun y => nocap (asOwn (.node [.node [.own 3 1, .own 3 1], .k]) y)) (Same.comp Same.nocap (Same.own (.node [.node [.own 3 1, .own 3 1], .k]))) ?_
  intro a out ho
  obtain ⟨r, h1, h2⟩ := Option.bind_eq_some_iff.mp ho
  obtain ⟨hp, rfl⟩ := under_some h1
  obtain ⟨N, hN⟩ := p_impl_Inner S_impl_opOf (fun _ h => under_pos h) S_impl_ArrayOk (fun _ _ h => under_pos h) S_slices_Concat___int_int_ (fun _ h => under_pos h) S_impl_made (fun _ h => under_pos h) S_impl_nothingOf (fun _ h => under_pos h) S_impl_caught (fun x a0 a1_Shape a1_Data h => (S_impl_caught_eq x a0 a1_Shape a1_Data).trans (under_pos h)) (fun f x y => under (dyn_pre f x y) (dyn_s f x y)) (fun _ _ _ h => under_pos h) a.1 a.2.1 a.2.2.1 a.2.2.2.1 a.2.2.2.2.1 a.2.2.2.2.2 hp
  refine ⟨N, ?_⟩
  refine ((callFD_G (FD := FD_impl_caught) (fun y => some (nocap (asOwn (.node [.node [.own 3 1, .own 3 1], .k]) y))) 4 c_impl_Inner da_impl_Inner kp_impl_Inner d_impl_Inner r_impl_Inner (e_impl_Inner a) ⟨rfl, rfl, rfl⟩).trans (impl_Inner_g ⟨D44, [], [], [], N, r_impl_Inner, none, FD_impl_caught, fun y => some (nocap (asOwn (.node [.node [.own 3 1, .own 3 1], .k]) y))⟩ rfl rfl rfl rfl rfl (fun _ => rfl) (fun _ => rfl) rfl S_impl_opOf (fun a0 => (show D44 69 _ = _ from rfl).trans (C_impl_opOf_eq a0)) rfl S_impl_ArrayOk (fun a0_Shape a0_Data => (show D44 17 _ = _ from rfl).trans (C_impl_ArrayOk_eq a0_Shape a0_Data)) rfl S_slices_Concat___int_int_ (fun a0 => (show D44 73 _ = _ from rfl).trans (C_slices_Concat___int_int__eq a0)) rfl S_impl_made (fun a0 => (show D44 64 _ = _ from rfl).trans (C_impl_made_eq a0)) rfl S_impl_nothingOf (fun a0 => (show D44 80 _ = _ from rfl).trans (C_impl_nothingOf_eq a0)) S_impl_caught (fun x a0 a1_Shape a1_Data => FD_impl_caught_eq x a0 a1_Shape a1_Data) (fun f x y => under (dyn_pre f x y) (dyn_s f x y)) dy44 a.1 a.2.1 a.2.2.1 a.2.2.2.1 a.2.2.2.2.1 a.2.2.2.2.2)).trans ?_
  show (impl_Inner_f S_impl_opOf S_impl_ArrayOk S_slices_Concat___int_int_ S_impl_made S_impl_nothingOf S_impl_caught (fun f x y => under (dyn_pre f x y) (dyn_s f x y)) N a.1 a.2.1 a.2.2.1 a.2.2.2.1 a.2.2.2.2.1 a.2.2.2.2.2).bind _ = _
  rw [hN]; exact h2
theorem so45 : SoundAll Try.prog G45 := so44.with (by have h := sq45 37; exact h)
-- loop.example/s02135/laws.eqIntS
noncomputable def S_laws_eqIntS (a0 : List Int) (a1 : List Int) : Option (Bool) := under (pre_laws_eqIntS a0 a1) (s_laws_eqIntS a0 a1)
def e_laws_eqIntS (a : (List Int) × (List Int)) : List X := [.d (lstT cI a.1), .d (lstT cI a.2)]
noncomputable def C_laws_eqIntS : List X → Option XOut := lay e_laws_eqIntS fun a => ((S_laws_eqIntS a.1 a.2)).bind fun r => some (.ret (.d (.bool r)) [])
theorem C_laws_eqIntS_eq (a0 : List Int) (a1 : List Int) : C_laws_eqIntS [.d (lstT cI a0), .d (lstT cI a1)] = ((S_laws_eqIntS a0 a1)).bind fun r => some (.ret (.d (.bool r)) []) := lay_eq (enc := e_laws_eqIntS) (by
  intro a b h
  simp only [e_laws_eqIntS, List.cons.injEq, X.d.injEq, X.agg.injEq, X.box.injEq, D.int.injEq, D.bool.injEq, D.fn.injEq, sD_inj, lstT_inj, ownT_inj, and_true, true_and, and_assoc] at h
  simp only [Prod.ext_iff]; exact h) (a0, a1)
noncomputable def G46 : Ctx := G45.with 51 C_laws_eqIntS
theorem so46 : SoundAll Try.prog G46 := by
  refine layer (cuts := []) (k := 2) (cd := c_laws_eqIntS) (rs := r_laws_eqIntS) (enc := e_laws_eqIntS) mixed so45 Try.func51 (by kernel_rfl) (by kernel_rfl) (by kernel_rfl) (by kernel_rfl) (by kernel_rfl) (by kernel_rfl) (wk := fun y => nocap y) Same.nocap ?_
  intro a out ho
  obtain ⟨r, h1, h2⟩ := Option.bind_eq_some_iff.mp ho
  obtain ⟨hp, rfl⟩ := under_some h1
  obtain ⟨N, hN⟩ := p_laws_eqIntS a.1 a.2 hp
  refine ⟨N, ?_⟩
  refine ((callF_G (fun y => some (nocap y)) 2 c_laws_eqIntS r_laws_eqIntS (e_laws_eqIntS a) ⟨rfl, rfl, rfl⟩).trans (laws_eqIntS_g ⟨G45, [], [], [], N, r_laws_eqIntS, none, fun _ _ => none, fun y => some (nocap y)⟩ rfl rfl rfl rfl rfl (fun _ => rfl) (fun _ => rfl) a.1 a.2)).trans ?_
  show (laws_eqIntS_f N a.1 a.2).bind _ = _
  rw [hN]; exact h2
-- loop.example/s02135/laws.eqArray
noncomputable def S_laws_eqArray (a0_Shape : List Int) (a0_Data : List Int) (a1_Shape : List Int) (a1_Data : List Int) : Option (Bool) := under (pre_laws_eqArray a0_Shape a0_Data a1_Shape a1_Data) (s_laws_eqArray a0_Shape a0_Data a1_Shape a1_Data)
def e_laws_eqArray (a : (List Int) × (List Int) × (List Int) × (List Int)) : List X := [.agg [.d (lstT cI a.1), .d (lstT cI a.2.1)], .agg [.d (lstT cI a.2.2.1), .d (lstT cI a.2.2.2)]]
noncomputable def C_laws_eqArray : List X → Option XOut := lay e_laws_eqArray fun a => ((S_laws_eqArray a.1 a.2.1 a.2.2.1 a.2.2.2)).bind fun r => some (.ret (.d (.bool r)) [])
theorem C_laws_eqArray_eq (a0_Shape : List Int) (a0_Data : List Int) (a1_Shape : List Int) (a1_Data : List Int) : C_laws_eqArray [.agg [.d (lstT cI a0_Shape), .d (lstT cI a0_Data)], .agg [.d (lstT cI a1_Shape), .d (lstT cI a1_Data)]] = ((S_laws_eqArray a0_Shape a0_Data a1_Shape a1_Data)).bind fun r => some (.ret (.d (.bool r)) []) := lay_eq (enc := e_laws_eqArray) (by
  intro a b h
  simp only [e_laws_eqArray, List.cons.injEq, X.d.injEq, X.agg.injEq, X.box.injEq, D.int.injEq, D.bool.injEq, D.fn.injEq, sD_inj, lstT_inj, ownT_inj, and_true, true_and, and_assoc] at h
  simp only [Prod.ext_iff]; exact h) (a0_Shape, a0_Data, a1_Shape, a1_Data)
noncomputable def G47 : Ctx := G46.with 18 C_laws_eqArray
theorem so47 : SoundAll Try.prog G47 := by
  refine layer (cuts := []) (k := 2) (cd := c_laws_eqArray) (rs := r_laws_eqArray) (enc := e_laws_eqArray) mixed so46 Try.func18 (by kernel_rfl) (by kernel_rfl) (by kernel_rfl) (by kernel_rfl) (by kernel_rfl) (by kernel_rfl) (wk := fun y => nocap y) Same.nocap ?_
  intro a out ho
  obtain ⟨r, h1, h2⟩ := Option.bind_eq_some_iff.mp ho
  obtain ⟨hp, rfl⟩ := under_some h1
  obtain ⟨N, hN⟩ := p_laws_eqArray S_laws_eqIntS (fun _ _ h => under_pos h) a.1 a.2.1 a.2.2.1 a.2.2.2 hp
  refine ⟨N, ?_⟩
  refine ((callF_G (fun y => some (nocap y)) 2 c_laws_eqArray r_laws_eqArray (e_laws_eqArray a) ⟨rfl, rfl, rfl⟩).trans (laws_eqArray_g ⟨G46, [], [], [], N, r_laws_eqArray, none, fun _ _ => none, fun y => some (nocap y)⟩ rfl rfl rfl rfl rfl (fun _ => rfl) (fun _ => rfl) rfl S_laws_eqIntS (fun a0 a1 => (show G46 51 _ = _ from rfl).trans (C_laws_eqIntS_eq a0 a1)) a.1 a.2.1 a.2.2.1 a.2.2.2)).trans ?_
  show (laws_eqArray_f S_laws_eqIntS N a.1 a.2.1 a.2.2.1 a.2.2.2).bind _ = _
  rw [hN]; exact h2
-- loop.example/s02135/laws.markIntS
noncomputable def S_laws_markIntS (a0 : List Int) (a1 : Int) : Option (Int × List Int) := under (pre_laws_markIntS a0 a1) (s_laws_markIntS a0 a1)
def e_laws_markIntS (a : (List Int) × Int) : List X := [ownT cI 3 none false a.1, .d (.int .i64 a.2)]
noncomputable def C_laws_markIntS : List X → Option XOut := lay e_laws_markIntS fun a => ((S_laws_markIntS a.1 a.2)).bind fun r => some (.ret (.d (.int .i64 r.1)) [[lstT (cI) r.2]])
theorem C_laws_markIntS_eq (a0 : List Int) (a1 : Int) : C_laws_markIntS [ownT cI 3 none false a0, .d (.int .i64 a1)] = ((S_laws_markIntS a0 a1)).bind fun r => some (.ret (.d (.int .i64 r.1)) [[lstT (cI) r.2]]) := lay_eq (enc := e_laws_markIntS) (by
  intro a b h
  simp only [e_laws_markIntS, List.cons.injEq, X.d.injEq, X.agg.injEq, X.box.injEq, D.int.injEq, D.bool.injEq, D.fn.injEq, sD_inj, lstT_inj, ownT_inj, and_true, true_and, and_assoc] at h
  simp only [Prod.ext_iff]; exact h) (a0, a1)
noncomputable def G48 : Ctx := G47.with 65 C_laws_markIntS true
theorem so48 : SoundAll Try.prog G48 := by
  refine layer (cuts := []) (k := 2) (cd := c_laws_markIntS) (rs := r_laws_markIntS) (enc := e_laws_markIntS) mixed so47 Try.func65 (by kernel_rfl) (by kernel_rfl) (by kernel_rfl) (by kernel_rfl) (by kernel_rfl) (by kernel_rfl) (wk := fun y => nocap y) Same.nocap ?_
  intro a out ho
  obtain ⟨r, h1, h2⟩ := Option.bind_eq_some_iff.mp ho
  obtain ⟨hp, rfl⟩ := under_some h1
  obtain ⟨N, hN⟩ := p_laws_markIntS a.1 a.2 hp
  refine ⟨N, ?_⟩
  refine ((callF_G (fun y => some (nocap y)) 2 c_laws_markIntS r_laws_markIntS (e_laws_markIntS a) ⟨rfl, rfl, rfl⟩).trans (laws_markIntS_g ⟨G47, [0], [0], [(0, 3, 1)], N, r_laws_markIntS, none, fun _ _ => none, fun y => some (nocap y)⟩ rfl rfl rfl rfl rfl (fun _ => rfl) (fun _ => rfl) a.1 a.2)).trans ?_
  show (laws_markIntS_f N a.1 a.2).bind _ = _
  rw [hN]; exact h2
-- loop.example/s02135/laws.markArray
noncomputable def S_laws_markArray (a0_Shape : List Int) (a0_Data : List Int) (a1 : Int) : Option (Int × List Int × List Int) := under (pre_laws_markArray a0_Shape a0_Data a1) (s_laws_markArray a0_Shape a0_Data a1)
def e_laws_markArray (a : (List Int) × (List Int) × Int) : List X := [.agg [ownT cI 3 none false a.1, ownT cI 3 none false a.2.1], .d (.int .i64 a.2.2)]
noncomputable def C_laws_markArray : List X → Option XOut := lay e_laws_markArray fun a => ((S_laws_markArray a.1 a.2.1 a.2.2)).bind fun r => some (.ret (.d (.int .i64 r.1)) [[lstT (cI) r.2.1], [lstT (cI) r.2.2]])
theorem C_laws_markArray_eq (a0_Shape : List Int) (a0_Data : List Int) (a1 : Int) : C_laws_markArray [.agg [ownT cI 3 none false a0_Shape, ownT cI 3 none false a0_Data], .d (.int .i64 a1)] = ((S_laws_markArray a0_Shape a0_Data a1)).bind fun r => some (.ret (.d (.int .i64 r.1)) [[lstT (cI) r.2.1], [lstT (cI) r.2.2]]) := lay_eq (enc := e_laws_markArray) (by
  intro a b h
  simp only [e_laws_markArray, List.cons.injEq, X.d.injEq, X.agg.injEq, X.box.injEq, D.int.injEq, D.bool.injEq, D.fn.injEq, sD_inj, lstT_inj, ownT_inj, and_true, true_and, and_assoc] at h
  simp only [Prod.ext_iff]; exact h) (a0_Shape, a0_Data, a1)
noncomputable def G49 : Ctx := G48.with 26 C_laws_markArray true
theorem so49 : SoundAll Try.prog G49 := by
  refine layer (cuts := []) (k := 2) (cd := c_laws_markArray) (rs := r_laws_markArray) (enc := e_laws_markArray) mixed so48 Try.func26 (by kernel_rfl) (by kernel_rfl) (by kernel_rfl) (by kernel_rfl) (by kernel_rfl) (by kernel_rfl) (wk := fun y => nocap y) Same.nocap ?_
  intro a out ho
  obtain ⟨r, h1, h2⟩ := Option.bind_eq_some_iff.mp ho
  obtain ⟨hp, rfl⟩ := under_some h1
  obtain ⟨N, hN⟩ := p_laws_markArray S_laws_markIntS (fun _ _ h => under_pos h) a.1 a.2.1 a.2.2 hp
  refine ⟨N, ?_⟩
  refine ((callF_G (fun y => some (nocap y)) 2 c_laws_markArray r_laws_markArray (e_laws_markArray a) ⟨rfl, rfl, rfl⟩).trans (laws_markArray_g ⟨G48, [0, 1], [0, 1], [(0, 3, 1), (1, 3, 1)], N, r_laws_markArray, none, fun _ _ => none, fun y => some (nocap y)⟩ rfl rfl rfl rfl rfl (fun _ => rfl) (fun _ => rfl) rfl S_laws_markIntS (fun a0 a1 => (show G48 65 _ = _ from rfl).trans (C_laws_markIntS_eq a0 a1)) a.1 a.2.1 a.2.2)).trans ?_
  show (laws_markArray_f S_laws_markIntS N a.1 a.2.1 a.2.2).bind _ = _
  rw [hN]; exact h2
-- loop.example/s02135/laws.heldIntS
noncomputable def S_laws_heldIntS (a0 : List Int) (a1 : Int) : Option (Int) := under (pre_laws_heldIntS a0 a1) (s_laws_heldIntS a0 a1)
def e_laws_heldIntS (a : (List Int) × Int) : List X := [.d (lstT cI a.1), .d (.int .i64 a.2)]
noncomputable def C_laws_heldIntS : List X → Option XOut := lay e_laws_heldIntS fun a => ((S_laws_heldIntS a.1 a.2)).bind fun r => some (.ret (.d (.int .i64 r)) [])
theorem C_laws_heldIntS_eq (a0 : List Int) (a1 : Int) : C_laws_heldIntS [.d (lstT cI a0), .d (.int .i64 a1)] = ((S_laws_heldIntS a0 a1)).bind fun r => some (.ret (.d (.int .i64 r)) []) := lay_eq (enc := e_laws_heldIntS) (by
  intro a b h
  simp only [e_laws_heldIntS, List.cons.injEq, X.d.injEq, X.agg.injEq, X.box.injEq, D.int.injEq, D.bool.injEq, D.fn.injEq, sD_inj, lstT_inj, ownT_inj, and_true, true_and, and_assoc] at h
  simp only [Prod.ext_iff]; exact h) (a0, a1)
noncomputable def G50 : Ctx := G49.with 66 C_laws_heldIntS
theorem so50 : SoundAll Try.prog G50 := by
  refine layer (cuts := []) (k := 2) (cd := c_laws_heldIntS) (rs := r_laws_heldIntS) (enc := e_laws_heldIntS) mixed so49 Try.func66 (by kernel_rfl) (by kernel_rfl) (by kernel_rfl) (by kernel_rfl) (by kernel_rfl) (by kernel_rfl) (wk := fun y => nocap y) Same.nocap ?_
  intro a out ho
  obtain ⟨r, h1, h2⟩ := Option.bind_eq_some_iff.mp ho
  obtain ⟨hp, rfl⟩ := under_some h1
  obtain ⟨N, hN⟩ := p_laws_heldIntS a.1 a.2 hp
  refine ⟨N, ?_⟩
  refine ((callF_G (fun y => some (nocap y)) 2 c_laws_heldIntS r_laws_heldIntS (e_laws_heldIntS a) ⟨rfl, rfl, rfl⟩).trans (laws_heldIntS_g ⟨G49, [], [], [], N, r_laws_heldIntS, none, fun _ _ => none, fun y => some (nocap y)⟩ rfl rfl rfl rfl rfl (fun _ => rfl) (fun _ => rfl) a.1 a.2)).trans ?_
  show (laws_heldIntS_f N a.1 a.2).bind _ = _
  rw [hN]; exact h2
-- loop.example/s02135/laws.heldArray
noncomputable def S_laws_heldArray (a0_Shape : List Int) (a0_Data : List Int) (a1 : Int) : Option (Int) := under (pre_laws_heldArray a0_Shape a0_Data a1) (s_laws_heldArray a0_Shape a0_Data a1)
def e_laws_heldArray (a : (List Int) × (List Int) × Int) : List X := [.agg [.d (lstT cI a.1), .d (lstT cI a.2.1)], .d (.int .i64 a.2.2)]
noncomputable def C_laws_heldArray : List X → Option XOut := lay e_laws_heldArray fun a => ((S_laws_heldArray a.1 a.2.1 a.2.2)).bind fun r => some (.ret (.d (.int .i64 r)) [])
theorem C_laws_heldArray_eq (a0_Shape : List Int) (a0_Data : List Int) (a1 : Int) : C_laws_heldArray [.agg [.d (lstT cI a0_Shape), .d (lstT cI a0_Data)], .d (.int .i64 a1)] = ((S_laws_heldArray a0_Shape a0_Data a1)).bind fun r => some (.ret (.d (.int .i64 r)) []) := lay_eq (enc := e_laws_heldArray) (by
  intro a b h
  simp only [e_laws_heldArray, List.cons.injEq, X.d.injEq, X.agg.injEq, X.box.injEq, D.int.injEq, D.bool.injEq, D.fn.injEq, sD_inj, lstT_inj, ownT_inj, and_true, true_and, and_assoc] at h
  simp only [Prod.ext_iff]; exact h) (a0_Shape, a0_Data, a1)
noncomputable def G51 : Ctx := G50.with 27 C_laws_heldArray
theorem so51 : SoundAll Try.prog G51 := by
  refine layer (cuts := []) (k := 2) (cd := c_laws_heldArray) (rs := r_laws_heldArray) (enc := e_laws_heldArray) mixed so50 Try.func27 (by kernel_rfl) (by kernel_rfl) (by kernel_rfl) (by kernel_rfl) (by kernel_rfl) (by kernel_rfl) (wk := fun y => nocap y) Same.nocap ?_
  intro a out ho
  obtain ⟨r, h1, h2⟩ := Option.bind_eq_some_iff.mp ho
  obtain ⟨hp, rfl⟩ := under_some h1
  obtain ⟨N, hN⟩ := p_laws_heldArray S_laws_heldIntS (fun _ _ h => under_pos h) a.1 a.2.1 a.2.2 hp
  refine ⟨N, ?_⟩
  refine ((callF_G (fun y => some (nocap y)) 2 c_laws_heldArray r_laws_heldArray (e_laws_heldArray a) ⟨rfl, rfl, rfl⟩).trans (laws_heldArray_g ⟨G50, [], [], [], N, r_laws_heldArray, none, fun _ _ => none, fun y => some (nocap y)⟩ rfl rfl rfl rfl rfl (fun _ => rfl) (fun _ => rfl) rfl S_laws_heldIntS (fun a0 a1 => (show G50 66 _ = _ from rfl).trans (C_laws_heldIntS_eq a0 a1)) a.1 a.2.1 a.2.2)).trans ?_
  show (laws_heldArray_f S_laws_heldIntS N a.1 a.2.1 a.2.2).bind _ = _
  rw [hN]; exact h2
-- loop.example/s02135/laws.FnExactInner
noncomputable def S_laws_FnExactInner (a0 : Int) (a1 : Int) (a2_Shape : List Int) (a2_Data : List Int) (a3_Shape : List Int) (a3_Data : List Int) : Option (Bool) := under (pre_laws_FnExactInner a0 a1 a2_Shape a2_Data a3_Shape a3_Data) (s_laws_FnExactInner a0 a1 a2_Shape a2_Data a3_Shape a3_Data)
def e_laws_FnExactInner (a : Int × Int × (List Int) × (List Int) × (List Int) × (List Int)) : List X := [.d (.int .i64 a.1), .d (.int .i64 a.2.1), .agg [.d (lstT cI a.2.2.1), .d (lstT cI a.2.2.2.1)], .agg [.d (lstT cI a.2.2.2.2.1), .d (lstT cI a.2.2.2.2.2)]]
noncomputable def C_laws_FnExactInner : List X → Option XOut := lay e_laws_FnExactInner fun a => ((S_laws_FnExactInner a.1 a.2.1 a.2.2.1 a.2.2.2.1 a.2.2.2.2.1 a.2.2.2.2.2)).bind fun r => some (.ret (.d (.bool r)) [])
theorem C_laws_FnExactInner_eq (a0 : Int) (a1 : Int) (a2_Shape : List Int) (a2_Data : List Int) (a3_Shape : List Int) (a3_Data : List Int) : C_laws_FnExactInner [.d (.int .i64 a0), .d (.int .i64 a1), .agg [.d (lstT cI a2_Shape), .d (lstT cI a2_Data)], .agg [.d (lstT cI a3_Shape), .d (lstT cI a3_Data)]] = ((S_laws_FnExactInner a0 a1 a2_Shape a2_Data a3_Shape a3_Data)).bind fun r => some (.ret (.d (.bool r)) []) := lay_eq (enc := e_laws_FnExactInner) (by
  intro a b h
  simp only [e_laws_FnExactInner, List.cons.injEq, X.d.injEq, X.agg.injEq, X.box.injEq, D.int.injEq, D.bool.injEq, D.fn.injEq, sD_inj, lstT_inj, ownT_inj, and_true, true_and, and_assoc] at h
  simp only [Prod.ext_iff]; exact h) (a0, a1, a2_Shape, a2_Data, a3_Shape, a3_Data)
noncomputable def G52 : Ctx := G51.with 10 C_laws_FnExactInner
theorem so52 : SoundAll Try.prog G52 := by
  refine layer (cuts := []) (k := 4) (cd := c_laws_FnExactInner) (rs := r_laws_FnExactInner) (enc := e_laws_FnExactInner) mixed so51 Try.func10 (by kernel_rfl) (by kernel_rfl) (by kernel_rfl) (by kernel_rfl) (by kernel_rfl) (by kernel_rfl) (wk := fun y => nocap y) Same.nocap ?_
  intro a out ho
  obtain ⟨r, h1, h2⟩ := Option.bind_eq_some_iff.mp ho
  obtain ⟨hp, rfl⟩ := under_some h1
  obtain ⟨N, hN⟩ := p_laws_FnExactInner S_laws_szArray (fun _ _ _ h => under_pos h) S_laws_toArray (fun _ _ h => under_pos h) S_spec_Inner (fun _ _ _ _ _ _ h => under_pos h) S_impl_Inner (fun _ _ _ _ _ _ h => under_pos h) S_laws_eqArray (fun _ _ _ _ h => under_pos h) S_laws_markArray (fun _ _ _ h => under_pos h) S_laws_heldArray (fun _ _ _ h => under_pos h) a.1 a.2.1 a.2.2.1 a.2.2.2.1 a.2.2.2.2.1 a.2.2.2.2.2 hp
  refine ⟨N, ?_⟩
  refine ((callF_G (fun y => some (nocap y)) 4 c_laws_FnExactInner r_laws_FnExactInner (e_laws_FnExactInner a) ⟨rfl, rfl, rfl⟩).trans (laws_FnExactInner_g ⟨G51, [], [], [], N, r_laws_FnExactInner, none, fun _ _ => none, fun y => some (nocap y)⟩ rfl rfl rfl rfl rfl (fun _ => rfl) (fun _ => rfl) rfl S_laws_szArray (fun a0_Shape a0_Data a1 => (show G51 14 _ = _ from rfl).trans (C_laws_szArray_eq a0_Shape a0_Data a1)) rfl S_laws_toArray (fun a0_Shape a0_Data => (show G51 16 _ = _ from rfl).trans (C_laws_toArray_eq a0_Shape a0_Data)) rfl S_spec_Inner (fun a0 a1 a2_Shape a2_Data a3_Shape a3_Data => (show G51 36 _ = _ from rfl).trans (C_spec_Inner_eq a0 a1 a2_Shape a2_Data a3_Shape a3_Data)) rfl S_impl_Inner (fun a0 a1 a2_Shape a2_Data a3_Shape a3_Data => (show G51 37 _ = _ from rfl).trans (C_impl_Inner_eq a0 a1 a2_Shape a2_Data a3_Shape a3_Data)) rfl S_laws_eqArray (fun a0_Shape a0_Data a1_Shape a1_Data => (show G51 18 _ = _ from rfl).trans (C_laws_eqArray_eq a0_Shape a0_Data a1_Shape a1_Data)) rfl S_laws_markArray (fun a0_Shape a0_Data a1 => (show G51 26 _ = _ from rfl).trans (C_laws_markArray_eq a0_Shape a0_Data a1)) rfl S_laws_heldArray (fun a0_Shape a0_Data a1 => (show G51 27 _ = _ from rfl).trans (C_laws_heldArray_eq a0_Shape a0_Data a1)) a.1 a.2.1 a.2.2.1 a.2.2.2.1 a.2.2.2.2.1 a.2.2.2.2.2)).trans ?_
  show (laws_FnExactInner_f S_laws_szArray S_laws_toArray S_spec_Inner S_impl_Inner S_laws_eqArray S_laws_markArray S_laws_heldArray N a.1 a.2.1 a.2.2.1 a.2.2.2.1 a.2.2.2.2.1 a.2.2.2.2.2).bind _ = _
  rw [hN]; exact h2
theorem law : Sound Try.prog 10 C_laws_FnExactInner := by
  have h := so52 10
  exact h
end Go.Proofs.Ytejgcpankckdkaa.TowInner
