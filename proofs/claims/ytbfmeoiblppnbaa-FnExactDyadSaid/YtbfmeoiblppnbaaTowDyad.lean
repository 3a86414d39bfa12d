/- The contracts of the functions under laws_FnExactDyad, one upon the other. Printed by a program of this session. -/
import Derived.Test.YtbfmeoiblppnbaaFDyad
import Derived.Test.YtbfmeoiblppnbaaPDyad
import Derived.Test.YtbfmeoiblppnbaaVmLayer
import Derived.Test.YtbfmeoiblppnbaaProg
set_option linter.all false
set_option maxRecDepth 100000
namespace Go.Proofs.Ytbfmeoiblppnbaa.TowDyad
open Go.Vm
instance gl : Gl := ⟨0, fun _ => none⟩
theorem mixed : Try.prog.follows .mixedOrders = true := by kernel_rfl
noncomputable def G0 : Ctx := Γ0 flatIds
theorem so0 : SoundAll Try.prog G0 := Γ0_sound _ _
-- loop.example/s02135/laws.szIntS
noncomputable def S_laws_szIntS (a0 : List Int) (a1 : Int) : Option (Int) := under (pre_laws_szIntS a0 a1) (s_laws_szIntS a0 a1)
def e_laws_szIntS (a : (List Int) × Int) : List X := [.d (lstT cI a.1), .d (.int .i64 a.2)]
noncomputable def C_laws_szIntS : List X → Option XOut := lay e_laws_szIntS fun a => ((S_laws_szIntS a.1 a.2)).bind fun r => some (.ret (.d (.int .i64 r)) [])
theorem C_laws_szIntS_eq (a0 : List Int) (a1 : Int) : C_laws_szIntS [.d (lstT cI a0), .d (.int .i64 a1)] = ((S_laws_szIntS a0 a1)).bind fun r => some (.ret (.d (.int .i64 r)) []) := lay_eq (enc := e_laws_szIntS) (by
  intro a b h
  simp only [e_laws_szIntS, List.cons.injEq, X.d.injEq, X.agg.injEq, X.box.injEq, D.int.injEq, D.bool.injEq, D.fn.injEq, sD_inj, lstT_inj, ownT_inj, and_true, true_and, and_assoc] at h
  simp only [Prod.ext_iff]; exact h) (a0, a1)
noncomputable def G1 : Ctx := G0.with 35 C_laws_szIntS
theorem so1 : SoundAll Try.prog G1 := by
  refine layer (cuts := []) (k := 2) (cd := c_laws_szIntS) (rs := r_laws_szIntS) (enc := e_laws_szIntS) mixed so0 Try.func35 (by kernel_rfl) (by kernel_rfl) (by kernel_rfl) (by kernel_rfl) (by kernel_rfl) (by kernel_rfl) (wk := fun y => nocap y) Same.nocap ?_
  intro a out ho
  obtain ⟨r, h1, h2⟩ := Option.bind_eq_some_iff.mp ho
  obtain ⟨hp, rfl⟩ := under_some h1
  obtain ⟨N, hN⟩ := p_laws_szIntS a.1 a.2 hp
  refine ⟨N, ?_⟩
  refine ((callF_G (fun y => some (nocap y)) 2 c_laws_szIntS r_laws_szIntS (e_laws_szIntS a) ⟨rfl, rfl, rfl⟩).trans (laws_szIntS_g ⟨G0, [], [], [], N, r_laws_szIntS, none, fun _ _ => none, fun y => some (nocap y)⟩ ⟨rfl, rfl, rfl, rfl, rfl, fun _ => rfl, fun _ => rfl⟩ a.1 a.2)).trans ?_
  show (laws_szIntS_f N a.1 a.2).bind _ = _
  rw [hN]; exact h2
-- loop.example/s02135/laws.szArray
noncomputable def S_laws_szArray (a0_Shape : List Int) (a0_Data : List Int) (a1 : Int) : Option (Int) := under (pre_laws_szArray a0_Shape a0_Data a1) (s_laws_szArray a0_Shape a0_Data a1)
def e_laws_szArray (a : (List Int) × (List Int) × Int) : List X := [.agg [.d (lstT cI a.1), .d (lstT cI a.2.1)], .d (.int .i64 a.2.2)]
noncomputable def C_laws_szArray : List X → Option XOut := lay e_laws_szArray fun a => ((S_laws_szArray a.1 a.2.1 a.2.2)).bind fun r => some (.ret (.d (.int .i64 r)) [])
theorem C_laws_szArray_eq (a0_Shape : List Int) (a0_Data : List Int) (a1 : Int) : C_laws_szArray [.agg [.d (lstT cI a0_Shape), .d (lstT cI a0_Data)], .d (.int .i64 a1)] = ((S_laws_szArray a0_Shape a0_Data a1)).bind fun r => some (.ret (.d (.int .i64 r)) []) := lay_eq (enc := e_laws_szArray) (by
  intro a b h
  simp only [e_laws_szArray, List.cons.injEq, X.d.injEq, X.agg.injEq, X.box.injEq, D.int.injEq, D.bool.injEq, D.fn.injEq, sD_inj, lstT_inj, ownT_inj, and_true, true_and, and_assoc] at h
  simp only [Prod.ext_iff]; exact h) (a0_Shape, a0_Data, a1)
noncomputable def G2 : Ctx := G1.with 13 C_laws_szArray
theorem so2 : SoundAll Try.prog G2 := by
  refine layer (cuts := []) (k := 2) (cd := c_laws_szArray) (rs := r_laws_szArray) (enc := e_laws_szArray) mixed so1 Try.func13 (by kernel_rfl) (by kernel_rfl) (by kernel_rfl) (by kernel_rfl) (by kernel_rfl) (by kernel_rfl) (wk := fun y => nocap y) Same.nocap ?_
  intro a out ho
  obtain ⟨r, h1, h2⟩ := Option.bind_eq_some_iff.mp ho
  obtain ⟨hp, rfl⟩ := under_some h1
  obtain ⟨N, hN⟩ := p_laws_szArray S_laws_szIntS (fun _ _ h => under_pos h) a.1 a.2.1 a.2.2 hp
  refine ⟨N, ?_⟩
  refine ((callF_G (fun y => some (nocap y)) 2 c_laws_szArray r_laws_szArray (e_laws_szArray a) ⟨rfl, rfl, rfl⟩).trans (laws_szArray_g ⟨G1, [], [], [], N, r_laws_szArray, none, fun _ _ => none, fun y => some (nocap y)⟩ ⟨rfl, rfl, rfl, rfl, rfl, fun _ => rfl, fun _ => rfl⟩ S_laws_szIntS ⟨rfl, (fun a0 a1 => (show G1 35 _ = _ from rfl).trans (C_laws_szIntS_eq a0 a1))⟩ a.1 a.2.1 a.2.2)).trans ?_
  show (laws_szArray_f S_laws_szIntS N a.1 a.2.1 a.2.2).bind _ = _
  rw [hN]; exact h2
-- loop.example/s02135/laws.toIntS
noncomputable def S_laws_toIntS (a0 : List Int) : Option (List Int) := under (pre_laws_toIntS a0) (s_laws_toIntS a0)
def e_laws_toIntS (a : (List Int)) : List X := [.d (lstT cI a)]
noncomputable def C_laws_toIntS : List X → Option XOut := lay e_laws_toIntS fun a => ((S_laws_toIntS a)).bind fun r => some (.ret (ownT (cI) 3 none false r) [])
theorem C_laws_toIntS_eq (a0 : List Int) : C_laws_toIntS [.d (lstT cI a0)] = ((S_laws_toIntS a0)).bind fun r => some (.ret (ownT (cI) 3 none false r) []) := lay_eq (enc := e_laws_toIntS) (by
  intro a b h
  simp only [e_laws_toIntS, List.cons.injEq, X.d.injEq, X.agg.injEq, X.box.injEq, D.int.injEq, D.bool.injEq, D.fn.injEq, sD_inj, lstT_inj, ownT_inj, and_true, true_and, and_assoc] at h
  exact h) a0
noncomputable def G3 : Ctx := G2.with 45 C_laws_toIntS
theorem so3 : SoundAll Try.prog G3 := by
  refine layer (cuts := []) (k := 1) (cd := c_laws_toIntS) (rs := r_laws_toIntS) (enc := e_laws_toIntS) mixed so2 Try.func45 (by kernel_rfl) (by kernel_rfl) (by kernel_rfl) (by kernel_rfl) (by kernel_rfl) (by kernel_rfl) (wk := fun y => nocap y) Same.nocap ?_
  intro a out ho
  obtain ⟨r, h1, h2⟩ := Option.bind_eq_some_iff.mp ho
  obtain ⟨hp, rfl⟩ := under_some h1
  obtain ⟨N, hN⟩ := p_laws_toIntS a hp
  refine ⟨N, ?_⟩
  refine ((callF_G (fun y => some (nocap y)) 1 c_laws_toIntS r_laws_toIntS (e_laws_toIntS a) ⟨rfl, rfl, rfl⟩).trans (laws_toIntS_g ⟨G2, [], [], [], N, r_laws_toIntS, none, fun _ _ => none, fun y => some (nocap y)⟩ ⟨rfl, rfl, rfl, rfl, rfl, fun _ => rfl, fun _ => rfl⟩ a)).trans ?_
  show (laws_toIntS_f N a).bind _ = _
  rw [hN]; exact h2
-- loop.example/s02135/laws.toArray
noncomputable def S_laws_toArray (a0_Shape : List Int) (a0_Data : List Int) : Option (List Int × List Int) := under (pre_laws_toArray a0_Shape a0_Data) (s_laws_toArray a0_Shape a0_Data)
def e_laws_toArray (a : (List Int) × (List Int)) : List X := [.agg [.d (lstT cI a.1), .d (lstT cI a.2)]]
noncomputable def C_laws_toArray : List X → Option XOut := lay e_laws_toArray fun a => ((S_laws_toArray a.1 a.2)).bind fun r => some (.ret (.agg [ownT (cI) 3 none false r.1, ownT (cI) 3 none false r.2]) [])
theorem C_laws_toArray_eq (a0_Shape : List Int) (a0_Data : List Int) : C_laws_toArray [.agg [.d (lstT cI a0_Shape), .d (lstT cI a0_Data)]] = ((S_laws_toArray a0_Shape a0_Data)).bind fun r => some (.ret (.agg [ownT (cI) 3 none false r.1, ownT (cI) 3 none false r.2]) []) := lay_eq (enc := e_laws_toArray) (by
  intro a b h
  simp only [e_laws_toArray, List.cons.injEq, X.d.injEq, X.agg.injEq, X.box.injEq, D.int.injEq, D.bool.injEq, D.fn.injEq, sD_inj, lstT_inj, ownT_inj, and_true, true_and, and_assoc] at h
  simp only [Prod.ext_iff]; exact h) (a0_Shape, a0_Data)
noncomputable def G4 : Ctx := G3.with 15 C_laws_toArray
theorem so4 : SoundAll Try.prog G4 := by
  refine layer (cuts := []) (k := 1) (cd := c_laws_toArray) (rs := r_laws_toArray) (enc := e_laws_toArray) mixed so3 Try.func15 (by kernel_rfl) (by kernel_rfl) (by kernel_rfl) (by kernel_rfl) (by kernel_rfl) (by kernel_rfl) (wk := fun y => nocap y) Same.nocap ?_
  intro a out ho
  obtain ⟨r, h1, h2⟩ := Option.bind_eq_some_iff.mp ho
  obtain ⟨hp, rfl⟩ := under_some h1
  obtain ⟨N, hN⟩ := p_laws_toArray S_laws_toIntS (fun _ h => under_pos h) a.1 a.2 hp
  refine ⟨N, ?_⟩
  refine ((callF_G (fun y => some (nocap y)) 1 c_laws_toArray r_laws_toArray (e_laws_toArray a) ⟨rfl, rfl, rfl⟩).trans (laws_toArray_g ⟨G3, [], [], [], N, r_laws_toArray, none, fun _ _ => none, fun y => some (nocap y)⟩ ⟨rfl, rfl, rfl, rfl, rfl, fun _ => rfl, fun _ => rfl⟩ S_laws_toIntS ⟨rfl, (fun a0 => (show G3 45 _ = _ from rfl).trans (C_laws_toIntS_eq a0))⟩ a.1 a.2)).trans ?_
  show (laws_toArray_f S_laws_toIntS N a.1 a.2).bind _ = _
  rw [hN]; exact h2
-- loop.example/s02135/spec.l1Product
noncomputable def S_spec_l1Product (a0 : List Int) : Option (Int) := under (pre_spec_l1Product a0) (s_spec_l1Product a0)
def e_spec_l1Product (a : (List Int)) : List X := [.d (lstT cI a)]
noncomputable def C_spec_l1Product : List X → Option XOut := lay e_spec_l1Product fun a => ((S_spec_l1Product a)).bind fun r => some (.ret (.d (.int .i64 r)) [])
theorem C_spec_l1Product_eq (a0 : List Int) : C_spec_l1Product [.d (lstT cI a0)] = ((S_spec_l1Product a0)).bind fun r => some (.ret (.d (.int .i64 r)) []) := lay_eq (enc := e_spec_l1Product) (by
  intro a b h
  simp only [e_spec_l1Product, List.cons.injEq, X.d.injEq, X.agg.injEq, X.box.injEq, D.int.injEq, D.bool.injEq, D.fn.injEq, sD_inj, lstT_inj, ownT_inj, and_true, true_and, and_assoc] at h
  exact h) a0
noncomputable def G5 : Ctx := G4.with 85 C_spec_l1Product
theorem so5 : SoundAll Try.prog G5 := by
  refine layer (cuts := []) (k := 1) (cd := c_spec_l1Product) (rs := r_spec_l1Product) (enc := e_spec_l1Product) mixed so4 Try.func85 (by kernel_rfl) (by kernel_rfl) (by kernel_rfl) (by kernel_rfl) (by kernel_rfl) (by kernel_rfl) (wk := fun y => nocap y) Same.nocap ?_
  intro a out ho
  obtain ⟨r, h1, h2⟩ := Option.bind_eq_some_iff.mp ho
  obtain ⟨hp, rfl⟩ := under_some h1
  obtain ⟨N, hN⟩ := p_spec_l1Product a hp
  refine ⟨N, ?_⟩
  refine ((callF_G (fun y => some (nocap y)) 1 c_spec_l1Product r_spec_l1Product (e_spec_l1Product a) ⟨rfl, rfl, rfl⟩).trans (spec_l1Product_g ⟨G4, [], [], [], N, r_spec_l1Product, none, fun _ _ => none, fun y => some (nocap y)⟩ ⟨rfl, rfl, rfl, rfl, rfl, fun _ => rfl, fun _ => rfl⟩ a)).trans ?_
  show (spec_l1Product_f N a).bind _ = _
  rw [hN]; exact h2
-- loop.example/s02135/spec.l1Fits
noncomputable def S_spec_l1Fits (a0 : List Int) : Option (Bool) := under (pre_spec_l1Fits a0) (s_spec_l1Fits a0)
def e_spec_l1Fits (a : (List Int)) : List X := [.d (lstT cI a)]
noncomputable def C_spec_l1Fits : List X → Option XOut := lay e_spec_l1Fits fun a => ((S_spec_l1Fits a)).bind fun r => some (.ret (.d (.bool r)) [])
theorem C_spec_l1Fits_eq (a0 : List Int) : C_spec_l1Fits [.d (lstT cI a0)] = ((S_spec_l1Fits a0)).bind fun r => some (.ret (.d (.bool r)) []) := lay_eq (enc := e_spec_l1Fits) (by
  intro a b h
  simp only [e_spec_l1Fits, List.cons.injEq, X.d.injEq, X.agg.injEq, X.box.injEq, D.int.injEq, D.bool.injEq, D.fn.injEq, sD_inj, lstT_inj, ownT_inj, and_true, true_and, and_assoc] at h
  exact h) a0
noncomputable def G6 : Ctx := G5.with 84 C_spec_l1Fits
theorem so6 : SoundAll Try.prog G6 := by
  refine layer (cuts := []) (k := 1) (cd := c_spec_l1Fits) (rs := r_spec_l1Fits) (enc := e_spec_l1Fits) mixed so5 Try.func84 (by kernel_rfl) (by kernel_rfl) (by kernel_rfl) (by kernel_rfl) (by kernel_rfl) (by kernel_rfl) (wk := fun y => nocap y) Same.nocap ?_
  intro a out ho
  obtain ⟨r, h1, h2⟩ := Option.bind_eq_some_iff.mp ho
  obtain ⟨hp, rfl⟩ := under_some h1
  obtain ⟨N, hN⟩ := p_spec_l1Fits S_spec_l1Product (fun _ h => under_pos h) a hp
  refine ⟨N, ?_⟩
  refine ((callF_G (fun y => some (nocap y)) 1 c_spec_l1Fits r_spec_l1Fits (e_spec_l1Fits a) ⟨rfl, rfl, rfl⟩).trans (spec_l1Fits_g ⟨G5, [], [], [], N, r_spec_l1Fits, none, fun _ _ => none, fun y => some (nocap y)⟩ ⟨rfl, rfl, rfl, rfl, rfl, fun _ => rfl, fun _ => rfl⟩ S_spec_l1Product ⟨rfl, (fun a0 => (show G5 85 _ = _ from rfl).trans (C_spec_l1Product_eq a0))⟩ a)).trans ?_
  show (spec_l1Fits_f S_spec_l1Product N a).bind _ = _
  rw [hN]; exact h2
-- loop.example/s02135/spec.ArrayOk
noncomputable def S_spec_ArrayOk (a0_Shape : List Int) (a0_Data : List Int) : Option (Bool) := under (pre_spec_ArrayOk a0_Shape a0_Data) (s_spec_ArrayOk a0_Shape a0_Data)
def e_spec_ArrayOk (a : (List Int) × (List Int)) : List X := [.agg [.d (lstT cI a.1), .d (lstT cI a.2)]]
noncomputable def C_spec_ArrayOk : List X → Option XOut := lay e_spec_ArrayOk fun a => ((S_spec_ArrayOk a.1 a.2)).bind fun r => some (.ret (.d (.bool r)) [])
theorem C_spec_ArrayOk_eq (a0_Shape : List Int) (a0_Data : List Int) : C_spec_ArrayOk [.agg [.d (lstT cI a0_Shape), .d (lstT cI a0_Data)]] = ((S_spec_ArrayOk a0_Shape a0_Data)).bind fun r => some (.ret (.d (.bool r)) []) := lay_eq (enc := e_spec_ArrayOk) (by
  intro a b h
  simp only [e_spec_ArrayOk, List.cons.injEq, X.d.injEq, X.agg.injEq, X.box.injEq, D.int.injEq, D.bool.injEq, D.fn.injEq, sD_inj, lstT_inj, ownT_inj, and_true, true_and, and_assoc] at h
  simp only [Prod.ext_iff]; exact h) (a0_Shape, a0_Data)
noncomputable def G7 : Ctx := G6.with 36 C_spec_ArrayOk
theorem so7 : SoundAll Try.prog G7 := by
  refine layer (cuts := []) (k := 1) (cd := c_spec_ArrayOk) (rs := r_spec_ArrayOk) (enc := e_spec_ArrayOk) mixed so6 Try.func36 (by kernel_rfl) (by kernel_rfl) (by kernel_rfl) (by kernel_rfl) (by kernel_rfl) (by kernel_rfl) (wk := fun y => nocap y) Same.nocap ?_
  intro a out ho
  obtain ⟨r, h1, h2⟩ := Option.bind_eq_some_iff.mp ho
  obtain ⟨hp, rfl⟩ := under_some h1
  obtain ⟨N, hN⟩ := p_spec_ArrayOk S_spec_l1Fits (fun _ h => under_pos h) S_spec_l1Product (fun _ h => under_pos h) a.1 a.2 hp
  refine ⟨N, ?_⟩
  refine ((callF_G (fun y => some (nocap y)) 1 c_spec_ArrayOk r_spec_ArrayOk (e_spec_ArrayOk a) ⟨rfl, rfl, rfl⟩).trans (spec_ArrayOk_g ⟨G6, [], [], [], N, r_spec_ArrayOk, none, fun _ _ => none, fun y => some (nocap y)⟩ ⟨rfl, rfl, rfl, rfl, rfl, fun _ => rfl, fun _ => rfl⟩ S_spec_l1Fits ⟨rfl, (fun a0 => (show G6 84 _ = _ from rfl).trans (C_spec_l1Fits_eq a0))⟩ S_spec_l1Product ⟨rfl, (fun a0 => (show G6 85 _ = _ from rfl).trans (C_spec_l1Product_eq a0))⟩ a.1 a.2)).trans ?_
  show (spec_ArrayOk_f S_spec_l1Fits S_spec_l1Product N a.1 a.2).bind _ = _
  rw [hN]; exact h2
-- loop.example/s02135/spec.l2Copy
noncomputable def S_spec_l2Copy (a0 : List Int) : Option (List Int) := under (pre_spec_l2Copy a0) (s_spec_l2Copy a0)
def e_spec_l2Copy (a : (List Int)) : List X := [.d (lstT cI a)]
noncomputable def C_spec_l2Copy : List X → Option XOut := lay e_spec_l2Copy fun a => ((S_spec_l2Copy a)).bind fun r => some (.ret (ownT (cI) 3 none false r) [])
theorem C_spec_l2Copy_eq (a0 : List Int) : C_spec_l2Copy [.d (lstT cI a0)] = ((S_spec_l2Copy a0)).bind fun r => some (.ret (ownT (cI) 3 none false r) []) := lay_eq (enc := e_spec_l2Copy) (by
  intro a b h
  simp only [e_spec_l2Copy, List.cons.injEq, X.d.injEq, X.agg.injEq, X.box.injEq, D.int.injEq, D.bool.injEq, D.fn.injEq, sD_inj, lstT_inj, ownT_inj, and_true, true_and, and_assoc] at h
  exact h) a0
noncomputable def G8 : Ctx := G7.with 43 C_spec_l2Copy
theorem so8 : SoundAll Try.prog G8 := by
  refine layer (cuts := []) (k := 1) (cd := c_spec_l2Copy) (rs := r_spec_l2Copy) (enc := e_spec_l2Copy) mixed so7 Try.func43 (by kernel_rfl) (by kernel_rfl) (by kernel_rfl) (by kernel_rfl) (by kernel_rfl) (by kernel_rfl) (wk := fun y => nocap y) Same.nocap ?_
  intro a out ho
  obtain ⟨r, h1, h2⟩ := Option.bind_eq_some_iff.mp ho
  obtain ⟨hp, rfl⟩ := under_some h1
  obtain ⟨N, hN⟩ := p_spec_l2Copy a hp
  refine ⟨N, ?_⟩
  refine ((callF_G (fun y => some (nocap y)) 1 c_spec_l2Copy r_spec_l2Copy (e_spec_l2Copy a) ⟨rfl, rfl, rfl⟩).trans (spec_l2Copy_g ⟨G7, [], [], [], N, r_spec_l2Copy, none, fun _ _ => none, fun y => some (nocap y)⟩ ⟨rfl, rfl, rfl, rfl, rfl, fun _ => rfl, fun _ => rfl⟩ a)).trans ?_
  show (spec_l2Copy_f N a).bind _ = _
  rw [hN]; exact h2
-- loop.example/s02135/spec.l2Made
noncomputable def S_spec_l2Made (a0 : List Int) (a1 : List Int) : Option (Alt (List Int × List Int) (List Int × List Int)) := under (pre_spec_l2Made a0 a1) (s_spec_l2Made a0 a1)
def e_spec_l2Made (a : (List Int) × (List Int)) : List X := [ownT cI 3 none false a.1, ownT cI 3 none false a.2]
noncomputable def C_spec_l2Made : List X → Option XOut := lay e_spec_l2Made fun a => ((S_spec_l2Made a.1 a.2)).bind fun r => r.on (fun r => some (.ret (.tup [.agg [.nil, .nil], .d (.int .i64 6)]) [[lstT (cI) r.1], [lstT (cI) r.2]])) (fun r => some (.ret (.tup [.agg [.par 0, .par 1], .d (.int .i64 0)]) [[lstT (cI) r.1], [lstT (cI) r.2]]))
theorem C_spec_l2Made_eq (a0 : List Int) (a1 : List Int) : C_spec_l2Made [ownT cI 3 none false a0, ownT cI 3 none false a1] = ((S_spec_l2Made a0 a1)).bind fun r => r.on (fun r => some (.ret (.tup [.agg [.nil, .nil], .d (.int .i64 6)]) [[lstT (cI) r.1], [lstT (cI) r.2]])) (fun r => some (.ret (.tup [.agg [.par 0, .par 1], .d (.int .i64 0)]) [[lstT (cI) r.1], [lstT (cI) r.2]])) := lay_eq (enc := e_spec_l2Made) (by
  intro a b h
  simp only [e_spec_l2Made, List.cons.injEq, X.d.injEq, X.agg.injEq, X.box.injEq, D.int.injEq, D.bool.injEq, D.fn.injEq, sD_inj, lstT_inj, ownT_inj, and_true, true_and, and_assoc] at h
  simp only [Prod.ext_iff]; exact h) (a0, a1)
noncomputable def G9 : Ctx := G8.with 86 C_spec_l2Made true
theorem so9 : SoundAll Try.prog G9 := by
  refine layer (cuts := []) (k := 2) (cd := c_spec_l2Made) (rs := r_spec_l2Made) (enc := e_spec_l2Made) mixed so8 Try.func86 (by kernel_rfl) (by kernel_rfl) (by kernel_rfl) (by kernel_rfl) (by kernel_rfl) (by kernel_rfl) (wk := fun y => nocap y) Same.nocap ?_
  intro a out ho
  obtain ⟨r, h1, h2⟩ := Option.bind_eq_some_iff.mp ho
  obtain ⟨hp, rfl⟩ := under_some h1
  obtain ⟨N, hN⟩ := p_spec_l2Made S_spec_l1Fits (fun _ h => under_pos h) a.1 a.2 hp
  refine ⟨N, ?_⟩
  refine ((callF_G (fun y => some (nocap y)) 2 c_spec_l2Made r_spec_l2Made (e_spec_l2Made a) ⟨rfl, rfl, rfl⟩).trans (spec_l2Made_g ⟨G8, [0, 64], [0, 64], [(0, .row 3 1), (64, .row 3 1)], N, r_spec_l2Made, none, fun _ _ => none, fun y => some (nocap y)⟩ ⟨rfl, rfl, rfl, rfl, rfl, fun _ => rfl, fun _ => rfl⟩ S_spec_l1Fits ⟨rfl, (fun a0 => (show G8 84 _ = _ from rfl).trans (C_spec_l1Fits_eq a0))⟩ a.1 a.2)).trans ?_
  show (spec_l2Made_f S_spec_l1Fits N a.1 a.2).bind _ = _
  rw [hN]; exact h2
-- loop.example/s02135/spec.l2Reshape
noncomputable def S_spec_l2Reshape (a0_Shape : List Int) (a0_Data : List Int) (a1_Shape : List Int) (a1_Data : List Int) : Option (List Int × List Int × Int) := under (pre_spec_l2Reshape a0_Shape a0_Data a1_Shape a1_Data) (s_spec_l2Reshape a0_Shape a0_Data a1_Shape a1_Data)
def e_spec_l2Reshape (a : (List Int) × (List Int) × (List Int) × (List Int)) : List X := [.agg [.d (lstT cI a.1), .d (lstT cI a.2.1)], .agg [.d (lstT cI a.2.2.1), .d (lstT cI a.2.2.2)]]
noncomputable def C_spec_l2Reshape : List X → Option XOut := lay e_spec_l2Reshape fun a => ((S_spec_l2Reshape a.1 a.2.1 a.2.2.1 a.2.2.2)).bind fun r => some (.ret (.tup [.agg [ownT (cI) 3 none false r.1, ownT (cI) 3 none false r.2.1], .d (.int .i64 r.2.2)]) [])
theorem C_spec_l2Reshape_eq (a0_Shape : List Int) (a0_Data : List Int) (a1_Shape : List Int) (a1_Data : List Int) : C_spec_l2Reshape [.agg [.d (lstT cI a0_Shape), .d (lstT cI a0_Data)], .agg [.d (lstT cI a1_Shape), .d (lstT cI a1_Data)]] = ((S_spec_l2Reshape a0_Shape a0_Data a1_Shape a1_Data)).bind fun r => some (.ret (.tup [.agg [ownT (cI) 3 none false r.1, ownT (cI) 3 none false r.2.1], .d (.int .i64 r.2.2)]) []) := lay_eq (enc := e_spec_l2Reshape) (by
  intro a b h
  simp only [e_spec_l2Reshape, List.cons.injEq, X.d.injEq, X.agg.injEq, X.box.injEq, D.int.injEq, D.bool.injEq, D.fn.injEq, sD_inj, lstT_inj, ownT_inj, and_true, true_and, and_assoc] at h
  simp only [Prod.ext_iff]; exact h) (a0_Shape, a0_Data, a1_Shape, a1_Data)
noncomputable def G10 : Ctx := G9.with 37 C_spec_l2Reshape
theorem so10 : SoundAll Try.prog G10 := by
  refine layer (cuts := []) (k := 2) (cd := c_spec_l2Reshape) (rs := r_spec_l2Reshape) (enc := e_spec_l2Reshape) mixed so9 Try.func37 (by kernel_rfl) (by kernel_rfl) (by kernel_rfl) (by kernel_rfl) (by kernel_rfl) (by kernel_rfl) (wk := fun y => nocap (asOwn (.node [.node [.own 3 1, .own 3 1], .k]) y)) (Same.comp Same.nocap (Same.own (.node [.node [.own 3 1, .own 3 1], .k]))) ?_
  intro a out ho
  obtain ⟨r, h1, h2⟩ := Option.bind_eq_some_iff.mp ho
  obtain ⟨hp, rfl⟩ := under_some h1
  obtain ⟨N, hN⟩ := p_spec_l2Reshape S_spec_l2Copy (fun _ h => under_pos h) S_spec_l2Made (fun _ _ h => under_pos h) S_spec_l1Product (fun _ h => under_pos h) a.1 a.2.1 a.2.2.1 a.2.2.2 hp
  refine ⟨N, ?_⟩
  refine ((callF_G (fun y => some (nocap (asOwn (.node [.node [.own 3 1, .own 3 1], .k]) y))) 2 c_spec_l2Reshape r_spec_l2Reshape (e_spec_l2Reshape a) ⟨rfl, rfl, rfl⟩).trans (spec_l2Reshape_g ⟨G9, [], [], [], N, r_spec_l2Reshape, none, fun _ _ => none, fun y => some (nocap (asOwn (.node [.node [.own 3 1, .own 3 1], .k]) y))⟩ ⟨rfl, rfl, rfl, rfl, rfl, fun _ => rfl, fun _ => rfl⟩ S_spec_l2Copy ⟨rfl, (fun a0 => (show G9 43 _ = _ from rfl).trans (C_spec_l2Copy_eq a0))⟩ S_spec_l2Made ⟨rfl, (fun a0 a1 => (show G9 86 _ = _ from rfl).trans (C_spec_l2Made_eq a0 a1))⟩ S_spec_l1Product ⟨rfl, (fun a0 => (show G9 85 _ = _ from rfl).trans (C_spec_l1Product_eq a0))⟩ a.1 a.2.1 a.2.2.1 a.2.2.2)).trans ?_
  show (spec_l2Reshape_f S_spec_l2Copy S_spec_l2Made S_spec_l1Product N a.1 a.2.1 a.2.2.1 a.2.2.2).bind _ = _
  rw [hN]; exact h2
-- loop.example/s02135/spec.l2Vector
noncomputable def S_spec_l2Vector (a0 : List Int) : Option (List Int × List Int) := under (pre_spec_l2Vector a0) (s_spec_l2Vector a0)
def e_spec_l2Vector (a : (List Int)) : List X := [.d (lstT cI a)]
noncomputable def C_spec_l2Vector : List X → Option XOut := lay e_spec_l2Vector fun a => ((S_spec_l2Vector a)).bind fun r => some (.ret (.agg [ownT (cI) 3 none false r.1, ownT (cI) 3 none false r.2]) [])
theorem C_spec_l2Vector_eq (a0 : List Int) : C_spec_l2Vector [.d (lstT cI a0)] = ((S_spec_l2Vector a0)).bind fun r => some (.ret (.agg [ownT (cI) 3 none false r.1, ownT (cI) 3 none false r.2]) []) := lay_eq (enc := e_spec_l2Vector) (by
  intro a b h
  simp only [e_spec_l2Vector, List.cons.injEq, X.d.injEq, X.agg.injEq, X.box.injEq, D.int.injEq, D.bool.injEq, D.fn.injEq, sD_inj, lstT_inj, ownT_inj, and_true, true_and, and_assoc] at h
  exact h) a0
noncomputable def G11 : Ctx := G10.with 62 C_spec_l2Vector
theorem so11 : SoundAll Try.prog G11 := by
  refine layer (cuts := []) (k := 1) (cd := c_spec_l2Vector) (rs := r_spec_l2Vector) (enc := e_spec_l2Vector) mixed so10 Try.func62 (by kernel_rfl) (by kernel_rfl) (by kernel_rfl) (by kernel_rfl) (by kernel_rfl) (by kernel_rfl) (wk := fun y => nocap y) Same.nocap ?_
  intro a out ho
  obtain ⟨r, h1, h2⟩ := Option.bind_eq_some_iff.mp ho
  obtain ⟨hp, rfl⟩ := under_some h1
  obtain ⟨N, hN⟩ := p_spec_l2Vector S_spec_l2Copy (fun _ h => under_pos h) a hp
  refine ⟨N, ?_⟩
  refine ((callF_G (fun y => some (nocap y)) 1 c_spec_l2Vector r_spec_l2Vector (e_spec_l2Vector a) ⟨rfl, rfl, rfl⟩).trans (spec_l2Vector_g ⟨G10, [], [], [], N, r_spec_l2Vector, none, fun _ _ => none, fun y => some (nocap y)⟩ ⟨rfl, rfl, rfl, rfl, rfl, fun _ => rfl, fun _ => rfl⟩ S_spec_l2Copy ⟨rfl, (fun a0 => (show G10 43 _ = _ from rfl).trans (C_spec_l2Copy_eq a0))⟩ a)).trans ?_
  show (spec_l2Vector_f S_spec_l2Copy N a).bind _ = _
  rw [hN]; exact h2
-- loop.example/s02135/spec.l2Axes
noncomputable def S_spec_l2Axes (a0_Shape : List Int) (a0_Data : List Int) : Option (Alt (List Int × List Int) (List Int × List Int)) := under (pre_spec_l2Axes a0_Shape a0_Data) (s_spec_l2Axes a0_Shape a0_Data)
def e_spec_l2Axes (a : (List Int) × (List Int)) : List X := [.agg [.d (lstT cI a.1), .d (lstT cI a.2)]]
noncomputable def C_spec_l2Axes : List X → Option XOut := lay e_spec_l2Axes fun a => ((S_spec_l2Axes a.1 a.2)).bind fun r => r.on (fun r => some (.ret (.agg [ownT (cI) 3 none false r.1, ownT (cI) 3 none false r.2]) [])) (fun r => some (.ret (.agg [.d (lstT (cI) r.1), .d (lstT (cI) r.2)]) []))
theorem C_spec_l2Axes_eq (a0_Shape : List Int) (a0_Data : List Int) : C_spec_l2Axes [.agg [.d (lstT cI a0_Shape), .d (lstT cI a0_Data)]] = ((S_spec_l2Axes a0_Shape a0_Data)).bind fun r => r.on (fun r => some (.ret (.agg [ownT (cI) 3 none false r.1, ownT (cI) 3 none false r.2]) [])) (fun r => some (.ret (.agg [.d (lstT (cI) r.1), .d (lstT (cI) r.2)]) [])) := lay_eq (enc := e_spec_l2Axes) (by
  intro a b h
  simp only [e_spec_l2Axes, List.cons.injEq, X.d.injEq, X.agg.injEq, X.box.injEq, D.int.injEq, D.bool.injEq, D.fn.injEq, sD_inj, lstT_inj, ownT_inj, and_true, true_and, and_assoc] at h
  simp only [Prod.ext_iff]; exact h) (a0_Shape, a0_Data)
noncomputable def G12 : Ctx := G11.with 87 C_spec_l2Axes
theorem so12 : SoundAll Try.prog G12 := by
  refine layer (cuts := []) (k := 1) (cd := c_spec_l2Axes) (rs := r_spec_l2Axes) (enc := e_spec_l2Axes) mixed so11 Try.func87 (by kernel_rfl) (by kernel_rfl) (by kernel_rfl) (by kernel_rfl) (by kernel_rfl) (by kernel_rfl) (wk := fun y => nocap y) Same.nocap ?_
  intro a out ho
  obtain ⟨r, h1, h2⟩ := Option.bind_eq_some_iff.mp ho
  obtain ⟨hp, rfl⟩ := under_some h1
  obtain ⟨N, hN⟩ := p_spec_l2Axes S_spec_l2Vector (fun _ h => under_pos h) a.1 a.2 hp
  refine ⟨N, ?_⟩
  refine ((callF_G (fun y => some (nocap y)) 1 c_spec_l2Axes r_spec_l2Axes (e_spec_l2Axes a) ⟨rfl, rfl, rfl⟩).trans (spec_l2Axes_g ⟨G11, [], [], [], N, r_spec_l2Axes, none, fun _ _ => none, fun y => some (nocap y)⟩ ⟨rfl, rfl, rfl, rfl, rfl, fun _ => rfl, fun _ => rfl⟩ S_spec_l2Vector ⟨rfl, (fun a0 => (show G11 62 _ = _ from rfl).trans (C_spec_l2Vector_eq a0))⟩ a.1 a.2)).trans ?_
  show (spec_l2Axes_f S_spec_l2Vector N a.1 a.2).bind _ = _
  rw [hN]; exact h2
-- loop.example/s02135/spec.l2Row
noncomputable def S_spec_l2Row (a0_Shape : List Int) (a0_Data : List Int) (a1 : Int) : Option (List Int × List Int) := under (pre_spec_l2Row a0_Shape a0_Data a1) (s_spec_l2Row a0_Shape a0_Data a1)
def e_spec_l2Row (a : (List Int) × (List Int) × Int) : List X := [.agg [.d (lstT cI a.1), .d (lstT cI a.2.1)], .d (.int .i64 a.2.2)]
noncomputable def C_spec_l2Row : List X → Option XOut := lay e_spec_l2Row fun a => ((S_spec_l2Row a.1 a.2.1 a.2.2)).bind fun r => some (.ret (.agg [ownT (cI) 3 none false r.1, ownT (cI) 3 none false r.2]) [])
theorem C_spec_l2Row_eq (a0_Shape : List Int) (a0_Data : List Int) (a1 : Int) : C_spec_l2Row [.agg [.d (lstT cI a0_Shape), .d (lstT cI a0_Data)], .d (.int .i64 a1)] = ((S_spec_l2Row a0_Shape a0_Data a1)).bind fun r => some (.ret (.agg [ownT (cI) 3 none false r.1, ownT (cI) 3 none false r.2]) []) := lay_eq (enc := e_spec_l2Row) (by
  intro a b h
  simp only [e_spec_l2Row, List.cons.injEq, X.d.injEq, X.agg.injEq, X.box.injEq, D.int.injEq, D.bool.injEq, D.fn.injEq, sD_inj, lstT_inj, ownT_inj, and_true, true_and, and_assoc] at h
  simp only [Prod.ext_iff]; exact h) (a0_Shape, a0_Data, a1)
noncomputable def G13 : Ctx := G12.with 89 C_spec_l2Row
theorem so13 : SoundAll Try.prog G13 := by
  refine layer (cuts := []) (k := 2) (cd := c_spec_l2Row) (rs := r_spec_l2Row) (enc := e_spec_l2Row) mixed so12 Try.func89 (by kernel_rfl) (by kernel_rfl) (by kernel_rfl) (by kernel_rfl) (by kernel_rfl) (by kernel_rfl) (wk := fun y => nocap y) Same.nocap ?_
  intro a out ho
  obtain ⟨r, h1, h2⟩ := Option.bind_eq_some_iff.mp ho
  obtain ⟨hp, rfl⟩ := under_some h1
  obtain ⟨N, hN⟩ := p_spec_l2Row S_spec_l2Copy (fun _ h => under_pos h) S_spec_l1Product (fun _ h => under_pos h) a.1 a.2.1 a.2.2 hp
  refine ⟨N, ?_⟩
  refine ((callF_G (fun y => some (nocap y)) 2 c_spec_l2Row r_spec_l2Row (e_spec_l2Row a) ⟨rfl, rfl, rfl⟩).trans (spec_l2Row_g ⟨G12, [], [], [], N, r_spec_l2Row, none, fun _ _ => none, fun y => some (nocap y)⟩ ⟨rfl, rfl, rfl, rfl, rfl, fun _ => rfl, fun _ => rfl⟩ S_spec_l2Copy ⟨rfl, (fun a0 => (show G12 43 _ = _ from rfl).trans (C_spec_l2Copy_eq a0))⟩ S_spec_l1Product ⟨rfl, (fun a0 => (show G12 85 _ = _ from rfl).trans (C_spec_l1Product_eq a0))⟩ a.1 a.2.1 a.2.2)).trans ?_
  show (spec_l2Row_f S_spec_l2Copy S_spec_l1Product N a.1 a.2.1 a.2.2).bind _ = _
  rw [hN]; exact h2
-- loop.example/s02135/spec.l2Wide
noncomputable def S_spec_l2Wide (a0_Shape : List Int) (a0_Data : List Int) (a1 : List Int) : Option (List Int × List Int) := under (pre_spec_l2Wide a0_Shape a0_Data a1) (s_spec_l2Wide a0_Shape a0_Data a1)
def e_spec_l2Wide (a : (List Int) × (List Int) × (List Int)) : List X := [.agg [.d (lstT cI a.1), .d (lstT cI a.2.1)], .d (lstT cI a.2.2)]
noncomputable def C_spec_l2Wide : List X → Option XOut := lay e_spec_l2Wide fun a => ((S_spec_l2Wide a.1 a.2.1 a.2.2)).bind fun r => some (.ret (.agg [ownT (cI) 3 none false r.1, ownT (cI) 3 none false r.2]) [])
theorem C_spec_l2Wide_eq (a0_Shape : List Int) (a0_Data : List Int) (a1 : List Int) : C_spec_l2Wide [.agg [.d (lstT cI a0_Shape), .d (lstT cI a0_Data)], .d (lstT cI a1)] = ((S_spec_l2Wide a0_Shape a0_Data a1)).bind fun r => some (.ret (.agg [ownT (cI) 3 none false r.1, ownT (cI) 3 none false r.2]) []) := lay_eq (enc := e_spec_l2Wide) (by
  intro a b h
  simp only [e_spec_l2Wide, List.cons.injEq, X.d.injEq, X.agg.injEq, X.box.injEq, D.int.injEq, D.bool.injEq, D.fn.injEq, sD_inj, lstT_inj, ownT_inj, and_true, true_and, and_assoc] at h
  simp only [Prod.ext_iff]; exact h) (a0_Shape, a0_Data, a1)
noncomputable def G14 : Ctx := G13.with 109 C_spec_l2Wide
theorem so14 : SoundAll Try.prog G14 := by
  refine layer (cuts := []) (k := 2) (cd := c_spec_l2Wide) (rs := r_spec_l2Wide) (enc := e_spec_l2Wide) mixed so13 Try.func109 (by kernel_rfl) (by kernel_rfl) (by kernel_rfl) (by kernel_rfl) (by kernel_rfl) (by kernel_rfl) (wk := fun y => nocap y) Same.nocap ?_
  intro a out ho
  obtain ⟨r, h1, h2⟩ := Option.bind_eq_some_iff.mp ho
  obtain ⟨hp, rfl⟩ := under_some h1
  obtain ⟨N, hN⟩ := p_spec_l2Wide S_spec_l2Copy (fun _ h => under_pos h) S_spec_l1Product (fun _ h => under_pos h) a.1 a.2.1 a.2.2 hp
  refine ⟨N, ?_⟩
  refine ((callF_G (fun y => some (nocap y)) 2 c_spec_l2Wide r_spec_l2Wide (e_spec_l2Wide a) ⟨rfl, rfl, rfl⟩).trans (spec_l2Wide_g ⟨G13, [], [], [], N, r_spec_l2Wide, none, fun _ _ => none, fun y => some (nocap y)⟩ ⟨rfl, rfl, rfl, rfl, rfl, fun _ => rfl, fun _ => rfl⟩ S_spec_l2Copy ⟨rfl, (fun a0 => (show G13 43 _ = _ from rfl).trans (C_spec_l2Copy_eq a0))⟩ S_spec_l1Product ⟨rfl, (fun a0 => (show G13 85 _ = _ from rfl).trans (C_spec_l1Product_eq a0))⟩ a.1 a.2.1 a.2.2)).trans ?_
  show (spec_l2Wide_f S_spec_l2Copy S_spec_l1Product N a.1 a.2.1 a.2.2).bind _ = _
  rw [hN]; exact h2
-- loop.example/s02135/spec.l2Stack
noncomputable def S_spec_l2Stack (a0 : List Int) (a1 : List TArray) : Option (List Int × List Int × Int) := under (pre_spec_l2Stack a0 a1) (s_spec_l2Stack a0 a1)
def e_spec_l2Stack (a : (List Int) × (List TArray)) : List X := [.d (lstT cI a.1), .d (lstT cArray a.2)]
noncomputable def C_spec_l2Stack : List X → Option XOut := lay e_spec_l2Stack fun a => ((S_spec_l2Stack a.1 a.2)).bind fun r => some (.ret (.tup [.agg [ownT (cI) 3 none false r.1, ownT (cI) 3 none false r.2.1], .d (.int .i64 r.2.2)]) [])
theorem C_spec_l2Stack_eq (a0 : List Int) (a1 : List TArray) : C_spec_l2Stack [.d (lstT cI a0), .d (lstT cArray a1)] = ((S_spec_l2Stack a0 a1)).bind fun r => some (.ret (.tup [.agg [ownT (cI) 3 none false r.1, ownT (cI) 3 none false r.2.1], .d (.int .i64 r.2.2)]) []) := lay_eq (enc := e_spec_l2Stack) (by
  intro a b h
  simp only [e_spec_l2Stack, List.cons.injEq, X.d.injEq, X.agg.injEq, X.box.injEq, D.int.injEq, D.bool.injEq, D.fn.injEq, sD_inj, lstT_inj, ownT_inj, and_true, true_and, and_assoc] at h
  simp only [Prod.ext_iff]; exact h) (a0, a1)
noncomputable def G15 : Ctx := G14.with 110 C_spec_l2Stack
theorem so15 : SoundAll Try.prog G15 := by
  refine layer (cuts := []) (k := 2) (cd := c_spec_l2Stack) (rs := r_spec_l2Stack) (enc := e_spec_l2Stack) mixed so14 Try.func110 (by kernel_rfl) (by kernel_rfl) (by kernel_rfl) (by kernel_rfl) (by kernel_rfl) (by kernel_rfl) (wk := fun y => nocap (asOwn (.node [.node [.own 3 1, .own 3 1], .k]) y)) (Same.comp Same.nocap (Same.own (.node [.node [.own 3 1, .own 3 1], .k]))) ?_
  intro a out ho
  obtain ⟨r, h1, h2⟩ := Option.bind_eq_some_iff.mp ho
  obtain ⟨hp, rfl⟩ := under_some h1
  obtain ⟨N, hN⟩ := p_spec_l2Stack S_spec_l2Made (fun _ _ h => under_pos h) a.1 a.2 hp
  refine ⟨N, ?_⟩
  refine ((callF_G (fun y => some (nocap (asOwn (.node [.node [.own 3 1, .own 3 1], .k]) y))) 2 c_spec_l2Stack r_spec_l2Stack (e_spec_l2Stack a) ⟨rfl, rfl, rfl⟩).trans (spec_l2Stack_g ⟨G14, [], [], [], N, r_spec_l2Stack, none, fun _ _ => none, fun y => some (nocap (asOwn (.node [.node [.own 3 1, .own 3 1], .k]) y))⟩ ⟨rfl, rfl, rfl, rfl, rfl, fun _ => rfl, fun _ => rfl⟩ S_spec_l2Made ⟨rfl, (fun a0 a1 => (show G14 86 _ = _ from rfl).trans (C_spec_l2Made_eq a0 a1))⟩ a.1 a.2)).trans ?_
  show (spec_l2Stack_f S_spec_l2Made N a.1 a.2).bind _ = _
  rw [hN]; exact h2
-- loop.example/s02135/spec.l2Span
noncomputable def S_spec_l2Span (a0_Shape : List Int) (a0_Data : List Int) (a1 : Int) (a2 : Int) : Option (List Int × List Int × Int) := under (pre_spec_l2Span a0_Shape a0_Data a1 a2) (s_spec_l2Span a0_Shape a0_Data a1 a2)
def e_spec_l2Span (a : (List Int) × (List Int) × Int × Int) : List X := [.agg [.d (lstT cI a.1), .d (lstT cI a.2.1)], .d (.int .i64 a.2.2.1), .d (.int .i64 a.2.2.2)]
noncomputable def C_spec_l2Span : List X → Option XOut := lay e_spec_l2Span fun a => ((S_spec_l2Span a.1 a.2.1 a.2.2.1 a.2.2.2)).bind fun r => some (.ret (.tup [.agg [ownT (cI) 3 none false r.1, ownT (cI) 3 none false r.2.1], .d (.int .i64 r.2.2)]) [])
theorem C_spec_l2Span_eq (a0_Shape : List Int) (a0_Data : List Int) (a1 : Int) (a2 : Int) : C_spec_l2Span [.agg [.d (lstT cI a0_Shape), .d (lstT cI a0_Data)], .d (.int .i64 a1), .d (.int .i64 a2)] = ((S_spec_l2Span a0_Shape a0_Data a1 a2)).bind fun r => some (.ret (.tup [.agg [ownT (cI) 3 none false r.1, ownT (cI) 3 none false r.2.1], .d (.int .i64 r.2.2)]) []) := lay_eq (enc := e_spec_l2Span) (by
  intro a b h
  simp only [e_spec_l2Span, List.cons.injEq, X.d.injEq, X.agg.injEq, X.box.injEq, D.int.injEq, D.bool.injEq, D.fn.injEq, sD_inj, lstT_inj, ownT_inj, and_true, true_and, and_assoc] at h
  simp only [Prod.ext_iff]; exact h) (a0_Shape, a0_Data, a1, a2)
noncomputable def G16 : Ctx := G15.with 88 C_spec_l2Span
theorem so16 : SoundAll Try.prog G16 := by
  refine layer (cuts := []) (k := 3) (cd := c_spec_l2Span) (rs := r_spec_l2Span) (enc := e_spec_l2Span) mixed so15 Try.func88 (by kernel_rfl) (by kernel_rfl) (by kernel_rfl) (by kernel_rfl) (by kernel_rfl) (by kernel_rfl) (wk := fun y => nocap (asOwn (.node [.node [.own 3 1, .own 3 1], .k]) y)) (Same.comp Same.nocap (Same.own (.node [.node [.own 3 1, .own 3 1], .k]))) ?_
  intro a out ho
  obtain ⟨r, h1, h2⟩ := Option.bind_eq_some_iff.mp ho
  obtain ⟨hp, rfl⟩ := under_some h1
  obtain ⟨N, hN⟩ := p_spec_l2Span S_spec_l1Fits (fun _ h => under_pos h) S_spec_l2Row (fun _ _ _ h => under_pos h) S_spec_l2Wide (fun _ _ _ h => under_pos h) S_spec_l2Stack (fun _ _ h => under_pos h) a.1 a.2.1 a.2.2.1 a.2.2.2 hp
  refine ⟨N, ?_⟩
  refine ((callF_G (fun y => some (nocap (asOwn (.node [.node [.own 3 1, .own 3 1], .k]) y))) 3 c_spec_l2Span r_spec_l2Span (e_spec_l2Span a) ⟨rfl, rfl, rfl⟩).trans (spec_l2Span_g ⟨G15, [], [], [], N, r_spec_l2Span, none, fun _ _ => none, fun y => some (nocap (asOwn (.node [.node [.own 3 1, .own 3 1], .k]) y))⟩ ⟨rfl, rfl, rfl, rfl, rfl, fun _ => rfl, fun _ => rfl⟩ S_spec_l1Fits ⟨rfl, (fun a0 => (show G15 84 _ = _ from rfl).trans (C_spec_l1Fits_eq a0))⟩ S_spec_l2Row ⟨rfl, (fun a0_Shape a0_Data a1 => (show G15 89 _ = _ from rfl).trans (C_spec_l2Row_eq a0_Shape a0_Data a1))⟩ S_spec_l2Wide ⟨rfl, (fun a0_Shape a0_Data a1 => (show G15 109 _ = _ from rfl).trans (C_spec_l2Wide_eq a0_Shape a0_Data a1))⟩ S_spec_l2Stack ⟨rfl, (fun a0 a1 => (show G15 110 _ = _ from rfl).trans (C_spec_l2Stack_eq a0 a1))⟩ a.1 a.2.1 a.2.2.1 a.2.2.2)).trans ?_
  show (spec_l2Span_f S_spec_l1Fits S_spec_l2Row S_spec_l2Wide S_spec_l2Stack N a.1 a.2.1 a.2.2.1 a.2.2.2).bind _ = _
  rw [hN]; exact h2
-- loop.example/s02135/spec.l2Take
noncomputable def S_spec_l2Take (a0 : Int) (a1_Shape : List Int) (a1_Data : List Int) (a2_Shape : List Int) (a2_Data : List Int) : Option (List Int × List Int × Int) := under (pre_spec_l2Take a0 a1_Shape a1_Data a2_Shape a2_Data) (s_spec_l2Take a0 a1_Shape a1_Data a2_Shape a2_Data)
def e_spec_l2Take (a : Int × (List Int) × (List Int) × (List Int) × (List Int)) : List X := [.d (.int .i64 a.1), .agg [.d (lstT cI a.2.1), .d (lstT cI a.2.2.1)], .agg [.d (lstT cI a.2.2.2.1), .d (lstT cI a.2.2.2.2)]]
noncomputable def C_spec_l2Take : List X → Option XOut := lay e_spec_l2Take fun a => ((S_spec_l2Take a.1 a.2.1 a.2.2.1 a.2.2.2.1 a.2.2.2.2)).bind fun r => some (.ret (.tup [.agg [ownT (cI) 3 none false r.1, ownT (cI) 3 none false r.2.1], .d (.int .i64 r.2.2)]) [])
theorem C_spec_l2Take_eq (a0 : Int) (a1_Shape : List Int) (a1_Data : List Int) (a2_Shape : List Int) (a2_Data : List Int) : C_spec_l2Take [.d (.int .i64 a0), .agg [.d (lstT cI a1_Shape), .d (lstT cI a1_Data)], .agg [.d (lstT cI a2_Shape), .d (lstT cI a2_Data)]] = ((S_spec_l2Take a0 a1_Shape a1_Data a2_Shape a2_Data)).bind fun r => some (.ret (.tup [.agg [ownT (cI) 3 none false r.1, ownT (cI) 3 none false r.2.1], .d (.int .i64 r.2.2)]) []) := lay_eq (enc := e_spec_l2Take) (by
  intro a b h
  simp only [e_spec_l2Take, List.cons.injEq, X.d.injEq, X.agg.injEq, X.box.injEq, D.int.injEq, D.bool.injEq, D.fn.injEq, sD_inj, lstT_inj, ownT_inj, and_true, true_and, and_assoc] at h
  simp only [Prod.ext_iff]; exact h) (a0, a1_Shape, a1_Data, a2_Shape, a2_Data)
noncomputable def G17 : Ctx := G16.with 38 C_spec_l2Take
theorem so17 : SoundAll Try.prog G17 := by
  refine layer (cuts := []) (k := 3) (cd := c_spec_l2Take) (rs := r_spec_l2Take) (enc := e_spec_l2Take) mixed so16 Try.func38 (by kernel_rfl) (by kernel_rfl) (by kernel_rfl) (by kernel_rfl) (by kernel_rfl) (by kernel_rfl) (wk := fun y => nocap (asOwn (.node [.node [.own 3 1, .own 3 1], .k]) y)) (Same.comp Same.nocap (Same.own (.node [.node [.own 3 1, .own 3 1], .k]))) ?_
  intro a out ho
  obtain ⟨r, h1, h2⟩ := Option.bind_eq_some_iff.mp ho
  obtain ⟨hp, rfl⟩ := under_some h1
  obtain ⟨N, hN⟩ := p_spec_l2Take S_spec_l2Axes (fun _ _ h => under_pos h) S_spec_l2Span (fun _ _ _ _ h => under_pos h) a.1 a.2.1 a.2.2.1 a.2.2.2.1 a.2.2.2.2 hp
  refine ⟨N, ?_⟩
  refine ((callF_G (fun y => some (nocap (asOwn (.node [.node [.own 3 1, .own 3 1], .k]) y))) 3 c_spec_l2Take r_spec_l2Take (e_spec_l2Take a) ⟨rfl, rfl, rfl⟩).trans (spec_l2Take_g ⟨G16, [], [], [], N, r_spec_l2Take, none, fun _ _ => none, fun y => some (nocap (asOwn (.node [.node [.own 3 1, .own 3 1], .k]) y))⟩ ⟨rfl, rfl, rfl, rfl, rfl, fun _ => rfl, fun _ => rfl⟩ S_spec_l2Axes ⟨rfl, (fun a0_Shape a0_Data => (show G16 87 _ = _ from rfl).trans (C_spec_l2Axes_eq a0_Shape a0_Data))⟩ S_spec_l2Span ⟨rfl, (fun a0_Shape a0_Data a1 a2 => (show G16 88 _ = _ from rfl).trans (C_spec_l2Span_eq a0_Shape a0_Data a1 a2))⟩ a.1 a.2.1 a.2.2.1 a.2.2.2.1 a.2.2.2.2)).trans ?_
  show (spec_l2Take_f S_spec_l2Axes S_spec_l2Span N a.1 a.2.1 a.2.2.1 a.2.2.2.1 a.2.2.2.2).bind _ = _
  rw [hN]; exact h2
-- loop.example/s02135/spec.l2Same
noncomputable def S_spec_l2Same (a0 : List Int) (a1 : List Int) : Option (Bool) := under (pre_spec_l2Same a0 a1) (s_spec_l2Same a0 a1)
def e_spec_l2Same (a : (List Int) × (List Int)) : List X := [.d (lstT cI a.1), .d (lstT cI a.2)]
noncomputable def C_spec_l2Same : List X → Option XOut := lay e_spec_l2Same fun a => ((S_spec_l2Same a.1 a.2)).bind fun r => some (.ret (.d (.bool r)) [])
theorem C_spec_l2Same_eq (a0 : List Int) (a1 : List Int) : C_spec_l2Same [.d (lstT cI a0), .d (lstT cI a1)] = ((S_spec_l2Same a0 a1)).bind fun r => some (.ret (.d (.bool r)) []) := lay_eq (enc := e_spec_l2Same) (by
  intro a b h
  simp only [e_spec_l2Same, List.cons.injEq, X.d.injEq, X.agg.injEq, X.box.injEq, D.int.injEq, D.bool.injEq, D.fn.injEq, sD_inj, lstT_inj, ownT_inj, and_true, true_and, and_assoc] at h
  simp only [Prod.ext_iff]; exact h) (a0, a1)
noncomputable def G18 : Ctx := G17.with 42 C_spec_l2Same
theorem so18 : SoundAll Try.prog G18 := by
  refine layer (cuts := []) (k := 2) (cd := c_spec_l2Same) (rs := r_spec_l2Same) (enc := e_spec_l2Same) mixed so17 Try.func42 (by kernel_rfl) (by kernel_rfl) (by kernel_rfl) (by kernel_rfl) (by kernel_rfl) (by kernel_rfl) (wk := fun y => nocap y) Same.nocap ?_
  intro a out ho
  obtain ⟨r, h1, h2⟩ := Option.bind_eq_some_iff.mp ho
  obtain ⟨hp, rfl⟩ := under_some h1
  obtain ⟨N, hN⟩ := p_spec_l2Same a.1 a.2 hp
  refine ⟨N, ?_⟩
  refine ((callF_G (fun y => some (nocap y)) 2 c_spec_l2Same r_spec_l2Same (e_spec_l2Same a) ⟨rfl, rfl, rfl⟩).trans (spec_l2Same_g ⟨G17, [], [], [], N, r_spec_l2Same, none, fun _ _ => none, fun y => some (nocap y)⟩ ⟨rfl, rfl, rfl, rfl, rfl, fun _ => rfl, fun _ => rfl⟩ a.1 a.2)).trans ?_
  show (spec_l2Same_f N a.1 a.2).bind _ = _
  rw [hN]; exact h2
-- loop.example/s02135/spec.l2Cat
noncomputable def S_spec_l2Cat (a0_Shape : List Int) (a0_Data : List Int) (a1_Shape : List Int) (a1_Data : List Int) : Option (List Int × List Int × Int) := under (pre_spec_l2Cat a0_Shape a0_Data a1_Shape a1_Data) (s_spec_l2Cat a0_Shape a0_Data a1_Shape a1_Data)
def e_spec_l2Cat (a : (List Int) × (List Int) × (List Int) × (List Int)) : List X := [.agg [.d (lstT cI a.1), .d (lstT cI a.2.1)], .agg [.d (lstT cI a.2.2.1), .d (lstT cI a.2.2.2)]]
noncomputable def C_spec_l2Cat : List X → Option XOut := lay e_spec_l2Cat fun a => ((S_spec_l2Cat a.1 a.2.1 a.2.2.1 a.2.2.2)).bind fun r => some (.ret (.tup [.agg [ownT (cI) 3 none false r.1, ownT (cI) 3 none false r.2.1], .d (.int .i64 r.2.2)]) [])
theorem C_spec_l2Cat_eq (a0_Shape : List Int) (a0_Data : List Int) (a1_Shape : List Int) (a1_Data : List Int) : C_spec_l2Cat [.agg [.d (lstT cI a0_Shape), .d (lstT cI a0_Data)], .agg [.d (lstT cI a1_Shape), .d (lstT cI a1_Data)]] = ((S_spec_l2Cat a0_Shape a0_Data a1_Shape a1_Data)).bind fun r => some (.ret (.tup [.agg [ownT (cI) 3 none false r.1, ownT (cI) 3 none false r.2.1], .d (.int .i64 r.2.2)]) []) := lay_eq (enc := e_spec_l2Cat) (by
  intro a b h
  simp only [e_spec_l2Cat, List.cons.injEq, X.d.injEq, X.agg.injEq, X.box.injEq, D.int.injEq, D.bool.injEq, D.fn.injEq, sD_inj, lstT_inj, ownT_inj, and_true, true_and, and_assoc] at h
  simp only [Prod.ext_iff]; exact h) (a0_Shape, a0_Data, a1_Shape, a1_Data)
noncomputable def G19 : Ctx := G18.with 39 C_spec_l2Cat
theorem so19 : SoundAll Try.prog G19 := by
  refine layer (cuts := []) (k := 2) (cd := c_spec_l2Cat) (rs := r_spec_l2Cat) (enc := e_spec_l2Cat) mixed so18 Try.func39 (by kernel_rfl) (by kernel_rfl) (by kernel_rfl) (by kernel_rfl) (by kernel_rfl) (by kernel_rfl) (wk := fun y => nocap (asOwn (.node [.node [.own 3 1, .own 3 1], .k]) y)) (Same.comp Same.nocap (Same.own (.node [.node [.own 3 1, .own 3 1], .k]))) ?_
  intro a out ho
  obtain ⟨r, h1, h2⟩ := Option.bind_eq_some_iff.mp ho
  obtain ⟨hp, rfl⟩ := under_some h1
  obtain ⟨N, hN⟩ := p_spec_l2Cat S_spec_l2Axes (fun _ _ h => under_pos h) S_spec_l2Same (fun _ _ h => under_pos h) S_spec_l2Copy (fun _ h => under_pos h) S_spec_l2Made (fun _ _ h => under_pos h) a.1 a.2.1 a.2.2.1 a.2.2.2 hp
  refine ⟨N, ?_⟩
  refine ((callF_G (fun y => some (nocap (asOwn (.node [.node [.own 3 1, .own 3 1], .k]) y))) 2 c_spec_l2Cat r_spec_l2Cat (e_spec_l2Cat a) ⟨rfl, rfl, rfl⟩).trans (spec_l2Cat_g ⟨G18, [], [], [], N, r_spec_l2Cat, none, fun _ _ => none, fun y => some (nocap (asOwn (.node [.node [.own 3 1, .own 3 1], .k]) y))⟩ ⟨rfl, rfl, rfl, rfl, rfl, fun _ => rfl, fun _ => rfl⟩ S_spec_l2Axes ⟨rfl, (fun a0_Shape a0_Data => (show G18 87 _ = _ from rfl).trans (C_spec_l2Axes_eq a0_Shape a0_Data))⟩ S_spec_l2Same ⟨rfl, (fun a0 a1 => (show G18 42 _ = _ from rfl).trans (C_spec_l2Same_eq a0 a1))⟩ S_spec_l2Copy ⟨rfl, (fun a0 => (show G18 43 _ = _ from rfl).trans (C_spec_l2Copy_eq a0))⟩ S_spec_l2Made ⟨rfl, (fun a0 a1 => (show G18 86 _ = _ from rfl).trans (C_spec_l2Made_eq a0 a1))⟩ a.1 a.2.1 a.2.2.1 a.2.2.2)).trans ?_
  show (spec_l2Cat_f S_spec_l2Axes S_spec_l2Same S_spec_l2Copy S_spec_l2Made N a.1 a.2.1 a.2.2.1 a.2.2.2).bind _ = _
  rw [hN]; exact h2
-- loop.example/s02135/spec.l2From
noncomputable def S_spec_l2From (a0_Shape : List Int) (a0_Data : List Int) (a1_Shape : List Int) (a1_Data : List Int) : Option (List Int × List Int × Int) := under (pre_spec_l2From a0_Shape a0_Data a1_Shape a1_Data) (s_spec_l2From a0_Shape a0_Data a1_Shape a1_Data)
def e_spec_l2From (a : (List Int) × (List Int) × (List Int) × (List Int)) : List X := [.agg [.d (lstT cI a.1), .d (lstT cI a.2.1)], .agg [.d (lstT cI a.2.2.1), .d (lstT cI a.2.2.2)]]
noncomputable def C_spec_l2From : List X → Option XOut := lay e_spec_l2From fun a => ((S_spec_l2From a.1 a.2.1 a.2.2.1 a.2.2.2)).bind fun r => some (.ret (.tup [.agg [ownT (cI) 3 none false r.1, ownT (cI) 3 none false r.2.1], .d (.int .i64 r.2.2)]) [])
theorem C_spec_l2From_eq (a0_Shape : List Int) (a0_Data : List Int) (a1_Shape : List Int) (a1_Data : List Int) : C_spec_l2From [.agg [.d (lstT cI a0_Shape), .d (lstT cI a0_Data)], .agg [.d (lstT cI a1_Shape), .d (lstT cI a1_Data)]] = ((S_spec_l2From a0_Shape a0_Data a1_Shape a1_Data)).bind fun r => some (.ret (.tup [.agg [ownT (cI) 3 none false r.1, ownT (cI) 3 none false r.2.1], .d (.int .i64 r.2.2)]) []) := lay_eq (enc := e_spec_l2From) (by
  intro a b h
  simp only [e_spec_l2From, List.cons.injEq, X.d.injEq, X.agg.injEq, X.box.injEq, D.int.injEq, D.bool.injEq, D.fn.injEq, sD_inj, lstT_inj, ownT_inj, and_true, true_and, and_assoc] at h
  simp only [Prod.ext_iff]; exact h) (a0_Shape, a0_Data, a1_Shape, a1_Data)
noncomputable def G20 : Ctx := G19.with 40 C_spec_l2From
theorem so20 : SoundAll Try.prog G20 := by
  refine layer (cuts := []) (k := 2) (cd := c_spec_l2From) (rs := r_spec_l2From) (enc := e_spec_l2From) mixed so19 Try.func40 (by kernel_rfl) (by kernel_rfl) (by kernel_rfl) (by kernel_rfl) (by kernel_rfl) (by kernel_rfl) (wk := fun y => nocap (asOwn (.node [.node [.own 3 1, .own 3 1], .k]) y)) (Same.comp Same.nocap (Same.own (.node [.node [.own 3 1, .own 3 1], .k]))) ?_
  intro a out ho
  obtain ⟨r, h1, h2⟩ := Option.bind_eq_some_iff.mp ho
  obtain ⟨hp, rfl⟩ := under_some h1
  obtain ⟨N, hN⟩ := p_spec_l2From S_spec_l2Copy (fun _ h => under_pos h) S_spec_l2Made (fun _ _ h => under_pos h) S_spec_l2Row (fun _ _ _ h => under_pos h) a.1 a.2.1 a.2.2.1 a.2.2.2 hp
  refine ⟨N, ?_⟩
  refine ((callF_G (fun y => some (nocap (asOwn (.node [.node [.own 3 1, .own 3 1], .k]) y))) 2 c_spec_l2From r_spec_l2From (e_spec_l2From a) ⟨rfl, rfl, rfl⟩).trans (spec_l2From_g ⟨G19, [], [], [], N, r_spec_l2From, none, fun _ _ => none, fun y => some (nocap (asOwn (.node [.node [.own 3 1, .own 3 1], .k]) y))⟩ ⟨rfl, rfl, rfl, rfl, rfl, fun _ => rfl, fun _ => rfl⟩ S_spec_l2Copy ⟨rfl, (fun a0 => (show G19 43 _ = _ from rfl).trans (C_spec_l2Copy_eq a0))⟩ S_spec_l2Made ⟨rfl, (fun a0 a1 => (show G19 86 _ = _ from rfl).trans (C_spec_l2Made_eq a0 a1))⟩ S_spec_l2Row ⟨rfl, (fun a0_Shape a0_Data a1 => (show G19 89 _ = _ from rfl).trans (C_spec_l2Row_eq a0_Shape a0_Data a1))⟩ a.1 a.2.1 a.2.2.1 a.2.2.2)).trans ?_
  show (spec_l2From_f S_spec_l2Copy S_spec_l2Made S_spec_l2Row N a.1 a.2.1 a.2.2.1 a.2.2.2).bind _ = _
  rw [hN]; exact h2
-- loop.example/s02135/spec.l2Bool
noncomputable def S_spec_l2Bool (a0 : Bool) : Option (Int) := under (pre_spec_l2Bool a0) (s_spec_l2Bool a0)
def e_spec_l2Bool (a : Bool) : List X := [.d (.bool a)]
noncomputable def C_spec_l2Bool : List X → Option XOut := lay e_spec_l2Bool fun a => ((S_spec_l2Bool a)).bind fun r => some (.ret (.d (.int .i64 r)) [])
theorem C_spec_l2Bool_eq (a0 : Bool) : C_spec_l2Bool [.d (.bool a0)] = ((S_spec_l2Bool a0)).bind fun r => some (.ret (.d (.int .i64 r)) []) := lay_eq (enc := e_spec_l2Bool) (by
  intro a b h
  simp only [e_spec_l2Bool, List.cons.injEq, X.d.injEq, X.agg.injEq, X.box.injEq, D.int.injEq, D.bool.injEq, D.fn.injEq, sD_inj, lstT_inj, ownT_inj, and_true, true_and, and_assoc] at h
  exact h) a0
noncomputable def G21 : Ctx := G20.with 41 C_spec_l2Bool
theorem so21 : SoundAll Try.prog G21 := by
  refine layer (cuts := []) (k := 1) (cd := c_spec_l2Bool) (rs := r_spec_l2Bool) (enc := e_spec_l2Bool) mixed so20 Try.func41 (by kernel_rfl) (by kernel_rfl) (by kernel_rfl) (by kernel_rfl) (by kernel_rfl) (by kernel_rfl) (wk := fun y => nocap y) Same.nocap ?_
  intro a out ho
  obtain ⟨r, h1, h2⟩ := Option.bind_eq_some_iff.mp ho
  obtain ⟨hp, rfl⟩ := under_some h1
  obtain ⟨N, hN⟩ := p_spec_l2Bool a hp
  refine ⟨N, ?_⟩
  refine ((callF_G (fun y => some (nocap y)) 1 c_spec_l2Bool r_spec_l2Bool (e_spec_l2Bool a) ⟨rfl, rfl, rfl⟩).trans (spec_l2Bool_g ⟨G20, [], [], [], N, r_spec_l2Bool, none, fun _ _ => none, fun y => some (nocap y)⟩ ⟨rfl, rfl, rfl, rfl, rfl, fun _ => rfl, fun _ => rfl⟩ a)).trans ?_
  show (spec_l2Bool_f N a).bind _ = _
  rw [hN]; exact h2
-- loop.example/s02135/spec.l2Find
noncomputable def S_spec_l2Find (a0 : List Int) (a1 : Int) : Option (Int) := under (pre_spec_l2Find a0 a1) (s_spec_l2Find a0 a1)
def e_spec_l2Find (a : (List Int) × Int) : List X := [.d (lstT cI a.1), .d (.int .i64 a.2)]
noncomputable def C_spec_l2Find : List X → Option XOut := lay e_spec_l2Find fun a => ((S_spec_l2Find a.1 a.2)).bind fun r => some (.ret (.d (.int .i64 r)) [])
theorem C_spec_l2Find_eq (a0 : List Int) (a1 : Int) : C_spec_l2Find [.d (lstT cI a0), .d (.int .i64 a1)] = ((S_spec_l2Find a0 a1)).bind fun r => some (.ret (.d (.int .i64 r)) []) := lay_eq (enc := e_spec_l2Find) (by
  intro a b h
  simp only [e_spec_l2Find, List.cons.injEq, X.d.injEq, X.agg.injEq, X.box.injEq, D.int.injEq, D.bool.injEq, D.fn.injEq, sD_inj, lstT_inj, ownT_inj, and_true, true_and, and_assoc] at h
  simp only [Prod.ext_iff]; exact h) (a0, a1)
noncomputable def G22 : Ctx := G21.with 44 C_spec_l2Find
theorem so22 : SoundAll Try.prog G22 := by
  refine layer (cuts := []) (k := 2) (cd := c_spec_l2Find) (rs := r_spec_l2Find) (enc := e_spec_l2Find) mixed so21 Try.func44 (by kernel_rfl) (by kernel_rfl) (by kernel_rfl) (by kernel_rfl) (by kernel_rfl) (by kernel_rfl) (wk := fun y => nocap y) Same.nocap ?_
  intro a out ho
  obtain ⟨r, h1, h2⟩ := Option.bind_eq_some_iff.mp ho
  obtain ⟨hp, rfl⟩ := under_some h1
  obtain ⟨N, hN⟩ := p_spec_l2Find a.1 a.2 hp
  refine ⟨N, ?_⟩
  refine ((callF_G (fun y => some (nocap y)) 2 c_spec_l2Find r_spec_l2Find (e_spec_l2Find a) ⟨rfl, rfl, rfl⟩).trans (spec_l2Find_g ⟨G21, [], [], [], N, r_spec_l2Find, none, fun _ _ => none, fun y => some (nocap y)⟩ ⟨rfl, rfl, rfl, rfl, rfl, fun _ => rfl, fun _ => rfl⟩ a.1 a.2)).trans ?_
  show (spec_l2Find_f N a.1 a.2).bind _ = _
  rw [hN]; exact h2
-- loop.example/s02135/spec.Dyad
noncomputable def S_spec_Dyad (a0 : Int) (a1_Shape : List Int) (a1_Data : List Int) (a2_Shape : List Int) (a2_Data : List Int) : Option (List Int × List Int × Int) := under (pre_spec_Dyad a0 a1_Shape a1_Data a2_Shape a2_Data) (s_spec_Dyad a0 a1_Shape a1_Data a2_Shape a2_Data)
def e_spec_Dyad (a : Int × (List Int) × (List Int) × (List Int) × (List Int)) : List X := [.d (.int .i64 a.1), .agg [.d (lstT cI a.2.1), .d (lstT cI a.2.2.1)], .agg [.d (lstT cI a.2.2.2.1), .d (lstT cI a.2.2.2.2)]]
noncomputable def C_spec_Dyad : List X → Option XOut := lay e_spec_Dyad fun a => ((S_spec_Dyad a.1 a.2.1 a.2.2.1 a.2.2.2.1 a.2.2.2.2)).bind fun r => some (.ret (.tup [.agg [ownT (cI) 3 none false r.1, ownT (cI) 3 none false r.2.1], .d (.int .i64 r.2.2)]) [])
theorem C_spec_Dyad_eq (a0 : Int) (a1_Shape : List Int) (a1_Data : List Int) (a2_Shape : List Int) (a2_Data : List Int) : C_spec_Dyad [.d (.int .i64 a0), .agg [.d (lstT cI a1_Shape), .d (lstT cI a1_Data)], .agg [.d (lstT cI a2_Shape), .d (lstT cI a2_Data)]] = ((S_spec_Dyad a0 a1_Shape a1_Data a2_Shape a2_Data)).bind fun r => some (.ret (.tup [.agg [ownT (cI) 3 none false r.1, ownT (cI) 3 none false r.2.1], .d (.int .i64 r.2.2)]) []) := lay_eq (enc := e_spec_Dyad) (by
  intro a b h
  simp only [e_spec_Dyad, List.cons.injEq, X.d.injEq, X.agg.injEq, X.box.injEq, D.int.injEq, D.bool.injEq, D.fn.injEq, sD_inj, lstT_inj, ownT_inj, and_true, true_and, and_assoc] at h
  simp only [Prod.ext_iff]; exact h) (a0, a1_Shape, a1_Data, a2_Shape, a2_Data)
noncomputable def G23 : Ctx := G22.with 14 C_spec_Dyad
theorem so23 : SoundAll Try.prog G23 := by
  refine layer (cuts := []) (k := 3) (cd := c_spec_Dyad) (rs := r_spec_Dyad) (enc := e_spec_Dyad) mixed so22 Try.func14 (by kernel_rfl) (by kernel_rfl) (by kernel_rfl) (by kernel_rfl) (by kernel_rfl) (by kernel_rfl) (wk := fun y => nocap (asOwn (.node [.node [.own 3 1, .own 3 1], .k]) y)) (Same.comp Same.nocap (Same.own (.node [.node [.own 3 1, .own 3 1], .k]))) ?_
  intro a out ho
  obtain ⟨r, h1, h2⟩ := Option.bind_eq_some_iff.mp ho
  obtain ⟨hp, rfl⟩ := under_some h1
  obtain ⟨N, hN⟩ := p_spec_Dyad S_spec_ArrayOk (fun _ _ h => under_pos h) S_spec_l2Reshape (fun _ _ _ _ h => under_pos h) S_spec_l2Take (fun _ _ _ _ _ h => under_pos h) S_spec_l2Cat (fun _ _ _ _ h => under_pos h) S_spec_l2From (fun _ _ _ _ h => under_pos h) S_spec_l2Same (fun _ _ h => under_pos h) S_spec_l2Bool (fun _ h => under_pos h) S_spec_l2Copy (fun _ h => under_pos h) S_spec_l2Find (fun _ _ h => under_pos h) a.1 a.2.1 a.2.2.1 a.2.2.2.1 a.2.2.2.2 hp
  refine ⟨N, ?_⟩
  refine ((callF_G (fun y => some (nocap (asOwn (.node [.node [.own 3 1, .own 3 1], .k]) y))) 3 c_spec_Dyad r_spec_Dyad (e_spec_Dyad a) ⟨rfl, rfl, rfl⟩).trans (spec_Dyad_g ⟨G22, [], [], [], N, r_spec_Dyad, none, fun _ _ => none, fun y => some (nocap (asOwn (.node [.node [.own 3 1, .own 3 1], .k]) y))⟩ ⟨rfl, rfl, rfl, rfl, rfl, fun _ => rfl, fun _ => rfl⟩ S_spec_ArrayOk ⟨rfl, (fun a0_Shape a0_Data => (show G22 36 _ = _ from rfl).trans (C_spec_ArrayOk_eq a0_Shape a0_Data))⟩ S_spec_l2Reshape ⟨rfl, (fun a0_Shape a0_Data a1_Shape a1_Data => (show G22 37 _ = _ from rfl).trans (C_spec_l2Reshape_eq a0_Shape a0_Data a1_Shape a1_Data))⟩ S_spec_l2Take ⟨rfl, (fun a0 a1_Shape a1_Data a2_Shape a2_Data => (show G22 38 _ = _ from rfl).trans (C_spec_l2Take_eq a0 a1_Shape a1_Data a2_Shape a2_Data))⟩ S_spec_l2Cat ⟨rfl, (fun a0_Shape a0_Data a1_Shape a1_Data => (show G22 39 _ = _ from rfl).trans (C_spec_l2Cat_eq a0_Shape a0_Data a1_Shape a1_Data))⟩ S_spec_l2From ⟨rfl, (fun a0_Shape a0_Data a1_Shape a1_Data => (show G22 40 _ = _ from rfl).trans (C_spec_l2From_eq a0_Shape a0_Data a1_Shape a1_Data))⟩ S_spec_l2Same ⟨rfl, (fun a0 a1 => (show G22 42 _ = _ from rfl).trans (C_spec_l2Same_eq a0 a1))⟩ S_spec_l2Bool ⟨rfl, (fun a0 => (show G22 41 _ = _ from rfl).trans (C_spec_l2Bool_eq a0))⟩ S_spec_l2Copy ⟨rfl, (fun a0 => (show G22 43 _ = _ from rfl).trans (C_spec_l2Copy_eq a0))⟩ S_spec_l2Find ⟨rfl, (fun a0 a1 => (show G22 44 _ = _ from rfl).trans (C_spec_l2Find_eq a0 a1))⟩ a.1 a.2.1 a.2.2.1 a.2.2.2.1 a.2.2.2.2)).trans ?_
  show (spec_Dyad_f S_spec_ArrayOk S_spec_l2Reshape S_spec_l2Take S_spec_l2Cat S_spec_l2From S_spec_l2Same S_spec_l2Bool S_spec_l2Copy S_spec_l2Find N a.1 a.2.1 a.2.2.1 a.2.2.2.1 a.2.2.2.2).bind _ = _
  rw [hN]; exact h2
-- loop.example/s02135/impl.cellsOf
noncomputable def S_impl_cellsOf (a0 : List Int) : Option (Int × Bool) := under (pre_impl_cellsOf a0) (s_impl_cellsOf a0)
def e_impl_cellsOf (a : (List Int)) : List X := [.d (lstT cI a)]
noncomputable def C_impl_cellsOf : List X → Option XOut := lay e_impl_cellsOf fun a => ((S_impl_cellsOf a)).bind fun r => some (.ret (.tup [.d (.int .i64 r.1), .d (.bool r.2)]) [])
theorem C_impl_cellsOf_eq (a0 : List Int) : C_impl_cellsOf [.d (lstT cI a0)] = ((S_impl_cellsOf a0)).bind fun r => some (.ret (.tup [.d (.int .i64 r.1), .d (.bool r.2)]) []) := lay_eq (enc := e_impl_cellsOf) (by
  intro a b h
  simp only [e_impl_cellsOf, List.cons.injEq, X.d.injEq, X.agg.injEq, X.box.injEq, D.int.injEq, D.bool.injEq, D.fn.injEq, sD_inj, lstT_inj, ownT_inj, and_true, true_and, and_assoc] at h
  exact h) a0
noncomputable def G24 : Ctx := G23.with 91 C_impl_cellsOf
theorem so24 : SoundAll Try.prog G24 := by
  refine layer (cuts := []) (k := 1) (cd := c_impl_cellsOf) (rs := r_impl_cellsOf) (enc := e_impl_cellsOf) mixed so23 Try.func91 (by kernel_rfl) (by kernel_rfl) (by kernel_rfl) (by kernel_rfl) (by kernel_rfl) (by kernel_rfl) (wk := fun y => nocap y) Same.nocap ?_
  intro a out ho
  obtain ⟨r, h1, h2⟩ := Option.bind_eq_some_iff.mp ho
  obtain ⟨hp, rfl⟩ := under_some h1
  obtain ⟨N, hN⟩ := p_impl_cellsOf a hp
  refine ⟨N, ?_⟩
  refine ((callF_G (fun y => some (nocap y)) 1 c_impl_cellsOf r_impl_cellsOf (e_impl_cellsOf a) ⟨rfl, rfl, rfl⟩).trans (impl_cellsOf_g ⟨G23, [], [], [], N, r_impl_cellsOf, none, fun _ _ => none, fun y => some (nocap y)⟩ ⟨rfl, rfl, rfl, rfl, rfl, fun _ => rfl, fun _ => rfl⟩ a)).trans ?_
  show (impl_cellsOf_f N a).bind _ = _
  rw [hN]; exact h2
-- slices.Clone[[]int,int]
noncomputable def S_slices_Clone___int_int_ (a0 : List Int) : Option (List Int) := under (pre_slices_Clone___int_int_ a0) (s_slices_Clone___int_int_ a0)
def e_slices_Clone___int_int_ (l : List Int) : List X := [.d (lstT cI l)]
noncomputable def C_slices_Clone___int_int_ : List X → Option XOut := lay e_slices_Clone___int_int_ fun a => ((S_slices_Clone___int_int_ a)).bind fun r => some (.ret (ownT (cI) 3 none false r) [])
theorem C_slices_Clone___int_int__eq (a0 : List Int) : C_slices_Clone___int_int_ [.d (lstT cI a0)] = ((S_slices_Clone___int_int_ a0)).bind fun r => some (.ret (ownT (cI) 3 none false r) []) := lay_eq (enc := e_slices_Clone___int_int_) (by
  intro a b h
  simp only [e_slices_Clone___int_int_, List.cons.injEq, X.d.injEq, X.agg.injEq, X.box.injEq, D.int.injEq, D.bool.injEq, D.fn.injEq, sD_inj, lstT_inj, ownT_inj, and_true, true_and, and_assoc] at h
  exact h) a0
noncomputable def G25 : Ctx := G24.with 100 C_slices_Clone___int_int_
theorem so25 : SoundAll Try.prog G25 := by
  refine layerN (cuts := []) (cd := c_slices_Clone___int_int_) (rs := r_slices_Clone___int_int_) mixed so24 Try.func100 (by kernel_rfl) (by kernel_rfl) (by kernel_rfl) (by kernel_rfl) (by kernel_rfl) (by kernel_rfl) cI (wk := fun y => nocap (asOwn (.own 3 1) y)) (Same.comp Same.nocap (Same.own (.own 3 1))) ?_ ?_
  · intro l out ho
    obtain ⟨r, h1, h2⟩ := Option.bind_eq_some_iff.mp ho
    obtain ⟨hp, rfl⟩ := under_some h1
    obtain ⟨N, hN⟩ := (p_slices_Clone___int_int_ l hp).1
    refine ⟨N, ?_⟩
    refine ((callF_G (fun y => some (nocap (asOwn (.own 3 1) y))) 1 c_slices_Clone___int_int_ r_slices_Clone___int_int_ [.d (lstST cI l)] ⟨rfl, rfl, rfl⟩).trans (slices_Clone___int_int__S_g ⟨G24, [], [], [], N, r_slices_Clone___int_int_, none, fun _ _ => none, fun y => some (nocap (asOwn (.own 3 1) y))⟩ ⟨rfl, rfl, rfl, rfl, rfl, fun _ => rfl, fun _ => rfl⟩ l)).trans ?_
    show (slices_Clone___int_int__S_f N l).bind _ = _
    rw [hN]; exact h2
  · intro out ho
    obtain ⟨r, h1, h2⟩ := Option.bind_eq_some_iff.mp ho
    obtain ⟨hp, rfl⟩ := under_some h1
    obtain ⟨N, hN⟩ := (p_slices_Clone___int_int_ [] hp).2
    refine ⟨N, ?_⟩
    refine ((callF_G (fun y => some (nocap (asOwn (.own 3 1) y))) 1 c_slices_Clone___int_int_ r_slices_Clone___int_int_ [.nil] ⟨rfl, rfl, rfl⟩).trans (slices_Clone___int_int__N_g ⟨G24, [], [], [], N, r_slices_Clone___int_int_, none, fun _ _ => none, fun y => some (nocap (asOwn (.own 3 1) y))⟩ ⟨rfl, rfl, rfl, rfl, rfl, fun _ => rfl, fun _ => rfl⟩)).trans ?_
    show (slices_Clone___int_int__N_f N).bind _ = _
    rw [hN]; exact h2
-- loop.example/s02135/impl.made
noncomputable def S_impl_made (a0 : List Int) : Option (Res (List Int × Option Nat × List Int)) := under (pre_impl_made a0) (s_impl_made a0)
def e_impl_made (a : (List Int)) : List X := [.d (lstT cI a)]
noncomputable def C_impl_made : List X → Option XOut := lay e_impl_made fun a => ((S_impl_made a)).bind fun r => r.on (fun r => some (.ret (.agg [ownT (cI) 3 none false r.1, ownT (cI) 3 r.2.1 false r.2.2]) [])) (fun x => some (.pan x []))
theorem C_impl_made_eq (a0 : List Int) : C_impl_made [.d (lstT cI a0)] = ((S_impl_made a0)).bind fun r => r.on (fun r => some (.ret (.agg [ownT (cI) 3 none false r.1, ownT (cI) 3 r.2.1 false r.2.2]) [])) (fun x => some (.pan x [])) := lay_eq (enc := e_impl_made) (by
  intro a b h
  simp only [e_impl_made, List.cons.injEq, X.d.injEq, X.agg.injEq, X.box.injEq, D.int.injEq, D.bool.injEq, D.fn.injEq, sD_inj, lstT_inj, ownT_inj, and_true, true_and, and_assoc] at h
  exact h) a0
noncomputable def G26 : Ctx := G25.with 90 C_impl_made
theorem so26 : SoundAll Try.prog G26 := by
  refine layer (cuts := []) (k := 1) (cd := c_impl_made) (rs := r_impl_made) (enc := e_impl_made) mixed so25 Try.func90 (by kernel_rfl) (by kernel_rfl) (by kernel_rfl) (by kernel_rfl) (by kernel_rfl) (by kernel_rfl) (wk := fun y => y) Same.id ?_
  intro a out ho
  obtain ⟨r, h1, h2⟩ := Option.bind_eq_some_iff.mp ho
  obtain ⟨hp, rfl⟩ := under_some h1
  obtain ⟨N, hN⟩ := p_impl_made S_impl_cellsOf (fun _ h => under_pos h) S_slices_Clone___int_int_ (fun _ h => under_pos h) a hp
  refine ⟨N, ?_⟩
  refine ((callF_G (fun y => some (y)) 1 c_impl_made r_impl_made (e_impl_made a) ⟨rfl, rfl, rfl⟩).trans (impl_made_g ⟨G25, [], [], [], N, r_impl_made, none, fun _ _ => none, fun y => some (y)⟩ ⟨rfl, rfl, rfl, rfl, rfl, fun _ => rfl, fun _ => rfl⟩ S_impl_cellsOf ⟨rfl, (fun a0 => (show G25 91 _ = _ from rfl).trans (C_impl_cellsOf_eq a0))⟩ S_slices_Clone___int_int_ ⟨rfl, (fun a0 => (show G25 100 _ = _ from rfl).trans (C_slices_Clone___int_int__eq a0))⟩ a)).trans ?_
  show (impl_made_f S_impl_cellsOf S_slices_Clone___int_int_ N a).bind _ = _
  rw [hN]; exact h2
-- loop.example/s02135/impl.reshaped
noncomputable def S_impl_reshaped (a0_Shape : List Int) (a0_Data : List Int) (a1_Shape : List Int) (a1_Data : List Int) : Option (Res (List Int × List Int)) := under (pre_impl_reshaped a0_Shape a0_Data a1_Shape a1_Data) (s_impl_reshaped a0_Shape a0_Data a1_Shape a1_Data)
def e_impl_reshaped (a : (List Int) × (List Int) × (List Int) × (List Int)) : List X := [.agg [.d (lstT cI a.1), .d (lstT cI a.2.1)], .agg [.d (lstT cI a.2.2.1), .d (lstT cI a.2.2.2)]]
noncomputable def C_impl_reshaped : List X → Option XOut := lay e_impl_reshaped fun a => ((S_impl_reshaped a.1 a.2.1 a.2.2.1 a.2.2.2)).bind fun r => r.on (fun r => some (.ret (.agg [ownT (cI) 3 none false r.1, ownT (cI) 3 none false r.2]) [])) (fun x => some (.pan x []))
theorem C_impl_reshaped_eq (a0_Shape : List Int) (a0_Data : List Int) (a1_Shape : List Int) (a1_Data : List Int) : C_impl_reshaped [.agg [.d (lstT cI a0_Shape), .d (lstT cI a0_Data)], .agg [.d (lstT cI a1_Shape), .d (lstT cI a1_Data)]] = ((S_impl_reshaped a0_Shape a0_Data a1_Shape a1_Data)).bind fun r => r.on (fun r => some (.ret (.agg [ownT (cI) 3 none false r.1, ownT (cI) 3 none false r.2]) [])) (fun x => some (.pan x [])) := lay_eq (enc := e_impl_reshaped) (by
  intro a b h
  simp only [e_impl_reshaped, List.cons.injEq, X.d.injEq, X.agg.injEq, X.box.injEq, D.int.injEq, D.bool.injEq, D.fn.injEq, sD_inj, lstT_inj, ownT_inj, and_true, true_and, and_assoc] at h
  simp only [Prod.ext_iff]; exact h) (a0_Shape, a0_Data, a1_Shape, a1_Data)
noncomputable def G27 : Ctx := G26.with 46 C_impl_reshaped
theorem so27 : SoundAll Try.prog G27 := by
  refine layer (cuts := []) (k := 2) (cd := c_impl_reshaped) (rs := r_impl_reshaped) (enc := e_impl_reshaped) mixed so26 Try.func46 (by kernel_rfl) (by kernel_rfl) (by kernel_rfl) (by kernel_rfl) (by kernel_rfl) (by kernel_rfl) (wk := fun y => nocap y) Same.nocap ?_
  intro a out ho
  obtain ⟨r, h1, h2⟩ := Option.bind_eq_some_iff.mp ho
  obtain ⟨hp, rfl⟩ := under_some h1
  obtain ⟨N, hN⟩ := p_impl_reshaped S_impl_made (fun _ h => under_pos h) S_impl_cellsOf (fun _ h => under_pos h) a.1 a.2.1 a.2.2.1 a.2.2.2 hp
  refine ⟨N, ?_⟩
  refine ((callF_G (fun y => some (nocap y)) 2 c_impl_reshaped r_impl_reshaped (e_impl_reshaped a) ⟨rfl, rfl, rfl⟩).trans (impl_reshaped_g ⟨G26, [], [], [], N, r_impl_reshaped, none, fun _ _ => none, fun y => some (nocap y)⟩ ⟨rfl, rfl, rfl, rfl, rfl, fun _ => rfl, fun _ => rfl⟩ S_impl_made ⟨rfl, (fun a0 => (show G26 90 _ = _ from rfl).trans (C_impl_made_eq a0))⟩ S_impl_cellsOf ⟨rfl, (fun a0 => (show G26 91 _ = _ from rfl).trans (C_impl_cellsOf_eq a0))⟩ a.1 a.2.1 a.2.2.1 a.2.2.2)).trans ?_
  show (impl_reshaped_f S_impl_made S_impl_cellsOf N a.1 a.2.1 a.2.2.1 a.2.2.2).bind _ = _
  rw [hN]; exact h2
-- loop.example/s02135/impl.numberOf
noncomputable def S_impl_numberOf (a0_Shape : List Int) (a0_Data : List Int) : Option (Res (Int)) := under (pre_impl_numberOf a0_Shape a0_Data) (s_impl_numberOf a0_Shape a0_Data)
def e_impl_numberOf (a : (List Int) × (List Int)) : List X := [.agg [.d (lstT cI a.1), .d (lstT cI a.2)]]
noncomputable def C_impl_numberOf : List X → Option XOut := lay e_impl_numberOf fun a => ((S_impl_numberOf a.1 a.2)).bind fun r => r.on (fun r => some (.ret (.d (.int .i64 r)) [])) (fun x => some (.pan x []))
theorem C_impl_numberOf_eq (a0_Shape : List Int) (a0_Data : List Int) : C_impl_numberOf [.agg [.d (lstT cI a0_Shape), .d (lstT cI a0_Data)]] = ((S_impl_numberOf a0_Shape a0_Data)).bind fun r => r.on (fun r => some (.ret (.d (.int .i64 r)) [])) (fun x => some (.pan x [])) := lay_eq (enc := e_impl_numberOf) (by
  intro a b h
  simp only [e_impl_numberOf, List.cons.injEq, X.d.injEq, X.agg.injEq, X.box.injEq, D.int.injEq, D.bool.injEq, D.fn.injEq, sD_inj, lstT_inj, ownT_inj, and_true, true_and, and_assoc] at h
  simp only [Prod.ext_iff]; exact h) (a0_Shape, a0_Data)
noncomputable def G28 : Ctx := G27.with 92 C_impl_numberOf
theorem so28 : SoundAll Try.prog G28 := by
  refine layer (cuts := []) (k := 1) (cd := c_impl_numberOf) (rs := r_impl_numberOf) (enc := e_impl_numberOf) mixed so27 Try.func92 (by kernel_rfl) (by kernel_rfl) (by kernel_rfl) (by kernel_rfl) (by kernel_rfl) (by kernel_rfl) (wk := fun y => nocap y) Same.nocap ?_
  intro a out ho
  obtain ⟨r, h1, h2⟩ := Option.bind_eq_some_iff.mp ho
  obtain ⟨hp, rfl⟩ := under_some h1
  obtain ⟨N, hN⟩ := p_impl_numberOf a.1 a.2 hp
  refine ⟨N, ?_⟩
  refine ((callF_G (fun y => some (nocap y)) 1 c_impl_numberOf r_impl_numberOf (e_impl_numberOf a) ⟨rfl, rfl, rfl⟩).trans (impl_numberOf_g ⟨G27, [], [], [], N, r_impl_numberOf, none, fun _ _ => none, fun y => some (nocap y)⟩ ⟨rfl, rfl, rfl, rfl, rfl, fun _ => rfl, fun _ => rfl⟩ a.1 a.2)).trans ?_
  show (impl_numberOf_f N a.1 a.2).bind _ = _
  rw [hN]; exact h2
-- loop.example/s02135/impl.vectorOf
noncomputable def S_impl_vectorOf (a0 : List Int) : Option (List Int × List Int) := under (pre_impl_vectorOf a0) (s_impl_vectorOf a0)
def e_impl_vectorOf (a : (List Int)) : List X := [.d (lstT cI a)]
noncomputable def C_impl_vectorOf : List X → Option XOut := lay e_impl_vectorOf fun a => ((S_impl_vectorOf a)).bind fun r => some (.ret (.agg [ownT (cI) 3 none false r.1, ownT (cI) 3 none false r.2]) [])
theorem C_impl_vectorOf_eq (a0 : List Int) : C_impl_vectorOf [.d (lstT cI a0)] = ((S_impl_vectorOf a0)).bind fun r => some (.ret (.agg [ownT (cI) 3 none false r.1, ownT (cI) 3 none false r.2]) []) := lay_eq (enc := e_impl_vectorOf) (by
  intro a b h
  simp only [e_impl_vectorOf, List.cons.injEq, X.d.injEq, X.agg.injEq, X.box.injEq, D.int.injEq, D.bool.injEq, D.fn.injEq, sD_inj, lstT_inj, ownT_inj, and_true, true_and, and_assoc] at h
  exact h) a0
noncomputable def G29 : Ctx := G28.with 69 C_impl_vectorOf
theorem so29 : SoundAll Try.prog G29 := by
  refine layer (cuts := []) (k := 1) (cd := c_impl_vectorOf) (rs := r_impl_vectorOf) (enc := e_impl_vectorOf) mixed so28 Try.func69 (by kernel_rfl) (by kernel_rfl) (by kernel_rfl) (by kernel_rfl) (by kernel_rfl) (by kernel_rfl) (wk := fun y => nocap y) Same.nocap ?_
  intro a out ho
  obtain ⟨r, h1, h2⟩ := Option.bind_eq_some_iff.mp ho
  obtain ⟨hp, rfl⟩ := under_some h1
  obtain ⟨N, hN⟩ := p_impl_vectorOf S_slices_Clone___int_int_ (fun _ h => under_pos h) a hp
  refine ⟨N, ?_⟩
  refine ((callF_G (fun y => some (nocap y)) 1 c_impl_vectorOf r_impl_vectorOf (e_impl_vectorOf a) ⟨rfl, rfl, rfl⟩).trans (impl_vectorOf_g ⟨G28, [], [], [], N, r_impl_vectorOf, none, fun _ _ => none, fun y => some (nocap y)⟩ ⟨rfl, rfl, rfl, rfl, rfl, fun _ => rfl, fun _ => rfl⟩ S_slices_Clone___int_int_ ⟨rfl, (fun a0 => (show G28 100 _ = _ from rfl).trans (C_slices_Clone___int_int__eq a0))⟩ a)).trans ?_
  show (impl_vectorOf_f S_slices_Clone___int_int_ N a).bind _ = _
  rw [hN]; exact h2
-- loop.example/s02135/impl.asRows
noncomputable def S_impl_asRows (a0_Shape : List Int) (a0_Data : List Int) : Option (Alt (List Int × List Int) (List Int × List Int)) := under (pre_impl_asRows a0_Shape a0_Data) (s_impl_asRows a0_Shape a0_Data)
def e_impl_asRows (a : (List Int) × (List Int)) : List X := [.agg [.d (lstT cI a.1), .d (lstT cI a.2)]]
noncomputable def C_impl_asRows : List X → Option XOut := lay e_impl_asRows fun a => ((S_impl_asRows a.1 a.2)).bind fun r => r.on (fun r => some (.ret (.agg [ownT (cI) 3 none false r.1, ownT (cI) 3 none false r.2]) [])) (fun r => some (.ret (.agg [.d (lstT (cI) r.1), .d (lstT (cI) r.2)]) []))
theorem C_impl_asRows_eq (a0_Shape : List Int) (a0_Data : List Int) : C_impl_asRows [.agg [.d (lstT cI a0_Shape), .d (lstT cI a0_Data)]] = ((S_impl_asRows a0_Shape a0_Data)).bind fun r => r.on (fun r => some (.ret (.agg [ownT (cI) 3 none false r.1, ownT (cI) 3 none false r.2]) [])) (fun r => some (.ret (.agg [.d (lstT (cI) r.1), .d (lstT (cI) r.2)]) [])) := lay_eq (enc := e_impl_asRows) (by
  intro a b h
  simp only [e_impl_asRows, List.cons.injEq, X.d.injEq, X.agg.injEq, X.box.injEq, D.int.injEq, D.bool.injEq, D.fn.injEq, sD_inj, lstT_inj, ownT_inj, and_true, true_and, and_assoc] at h
  simp only [Prod.ext_iff]; exact h) (a0_Shape, a0_Data)
noncomputable def G30 : Ctx := G29.with 93 C_impl_asRows
theorem so30 : SoundAll Try.prog G30 := by
  refine layer (cuts := []) (k := 1) (cd := c_impl_asRows) (rs := r_impl_asRows) (enc := e_impl_asRows) mixed so29 Try.func93 (by kernel_rfl) (by kernel_rfl) (by kernel_rfl) (by kernel_rfl) (by kernel_rfl) (by kernel_rfl) (wk := fun y => nocap y) Same.nocap ?_
  intro a out ho
  obtain ⟨r, h1, h2⟩ := Option.bind_eq_some_iff.mp ho
  obtain ⟨hp, rfl⟩ := under_some h1
  obtain ⟨N, hN⟩ := p_impl_asRows S_impl_vectorOf (fun _ h => under_pos h) a.1 a.2 hp
  refine ⟨N, ?_⟩
  refine ((callF_G (fun y => some (nocap y)) 1 c_impl_asRows r_impl_asRows (e_impl_asRows a) ⟨rfl, rfl, rfl⟩).trans (impl_asRows_g ⟨G29, [], [], [], N, r_impl_asRows, none, fun _ _ => none, fun y => some (nocap y)⟩ ⟨rfl, rfl, rfl, rfl, rfl, fun _ => rfl, fun _ => rfl⟩ S_impl_vectorOf ⟨rfl, (fun a0 => (show G29 69 _ = _ from rfl).trans (C_impl_vectorOf_eq a0))⟩ a.1 a.2)).trans ?_
  show (impl_asRows_f S_impl_vectorOf N a.1 a.2).bind _ = _
  rw [hN]; exact h2
-- loop.example/s02135/impl.withFirst
noncomputable def S_impl_withFirst (a0 : Int) (a1 : List Int) : Option (List Int) := under (pre_impl_withFirst a0 a1) (s_impl_withFirst a0 a1)
def e_impl_withFirst (a : Int × (List Int)) : List X := [.d (.int .i64 a.1), .d (lstT cI a.2)]
noncomputable def C_impl_withFirst : List X → Option XOut := lay e_impl_withFirst fun a => ((S_impl_withFirst a.1 a.2)).bind fun r => some (.ret (ownT (cI) 3 none false r) [])
theorem C_impl_withFirst_eq (a0 : Int) (a1 : List Int) : C_impl_withFirst [.d (.int .i64 a0), .d (lstT cI a1)] = ((S_impl_withFirst a0 a1)).bind fun r => some (.ret (ownT (cI) 3 none false r) []) := lay_eq (enc := e_impl_withFirst) (by
  intro a b h
  simp only [e_impl_withFirst, List.cons.injEq, X.d.injEq, X.agg.injEq, X.box.injEq, D.int.injEq, D.bool.injEq, D.fn.injEq, sD_inj, lstT_inj, ownT_inj, and_true, true_and, and_assoc] at h
  simp only [Prod.ext_iff]; exact h) (a0, a1)
noncomputable def G31 : Ctx := G30.with 94 C_impl_withFirst
theorem so31 : SoundAll Try.prog G31 := by
  refine layer (cuts := []) (k := 2) (cd := c_impl_withFirst) (rs := r_impl_withFirst) (enc := e_impl_withFirst) mixed so30 Try.func94 (by kernel_rfl) (by kernel_rfl) (by kernel_rfl) (by kernel_rfl) (by kernel_rfl) (by kernel_rfl) (wk := fun y => nocap y) Same.nocap ?_
  intro a out ho
  obtain ⟨r, h1, h2⟩ := Option.bind_eq_some_iff.mp ho
  obtain ⟨hp, rfl⟩ := under_some h1
  obtain ⟨N, hN⟩ := p_impl_withFirst a.1 a.2 hp
  refine ⟨N, ?_⟩
  refine ((callF_G (fun y => some (nocap y)) 2 c_impl_withFirst r_impl_withFirst (e_impl_withFirst a) ⟨rfl, rfl, rfl⟩).trans (impl_withFirst_g ⟨G30, [], [], [], N, r_impl_withFirst, none, fun _ _ => none, fun y => some (nocap y)⟩ ⟨rfl, rfl, rfl, rfl, rfl, fun _ => rfl, fun _ => rfl⟩ a.1 a.2)).trans ?_
  show (impl_withFirst_f N a.1 a.2).bind _ = _
  rw [hN]; exact h2
-- loop.example/s02135/impl.taken
noncomputable def S_impl_taken (a0_Shape : List Int) (a0_Data : List Int) (a1_Shape : List Int) (a1_Data : List Int) : Option (Res (List Int × List Int)) := under (pre_impl_taken a0_Shape a0_Data a1_Shape a1_Data) (s_impl_taken a0_Shape a0_Data a1_Shape a1_Data)
def e_impl_taken (a : (List Int) × (List Int) × (List Int) × (List Int)) : List X := [.agg [.d (lstT cI a.1), .d (lstT cI a.2.1)], .agg [.d (lstT cI a.2.2.1), .d (lstT cI a.2.2.2)]]
noncomputable def C_impl_taken : List X → Option XOut := lay e_impl_taken fun a => ((S_impl_taken a.1 a.2.1 a.2.2.1 a.2.2.2)).bind fun r => r.on (fun r => some (.ret (.agg [ownT (cI) 3 none false r.1, ownT (cI) 3 none false r.2]) [])) (fun x => some (.pan x []))
theorem C_impl_taken_eq (a0_Shape : List Int) (a0_Data : List Int) (a1_Shape : List Int) (a1_Data : List Int) : C_impl_taken [.agg [.d (lstT cI a0_Shape), .d (lstT cI a0_Data)], .agg [.d (lstT cI a1_Shape), .d (lstT cI a1_Data)]] = ((S_impl_taken a0_Shape a0_Data a1_Shape a1_Data)).bind fun r => r.on (fun r => some (.ret (.agg [ownT (cI) 3 none false r.1, ownT (cI) 3 none false r.2]) [])) (fun x => some (.pan x [])) := lay_eq (enc := e_impl_taken) (by
  intro a b h
  simp only [e_impl_taken, List.cons.injEq, X.d.injEq, X.agg.injEq, X.box.injEq, D.int.injEq, D.bool.injEq, D.fn.injEq, sD_inj, lstT_inj, ownT_inj, and_true, true_and, and_assoc] at h
  simp only [Prod.ext_iff]; exact h) (a0_Shape, a0_Data, a1_Shape, a1_Data)
noncomputable def G32 : Ctx := G31.with 47 C_impl_taken
theorem so32 : SoundAll Try.prog G32 := by
  refine layer (cuts := []) (k := 2) (cd := c_impl_taken) (rs := r_impl_taken) (enc := e_impl_taken) mixed so31 Try.func47 (by kernel_rfl) (by kernel_rfl) (by kernel_rfl) (by kernel_rfl) (by kernel_rfl) (by kernel_rfl) (wk := fun y => nocap y) Same.nocap ?_
  intro a out ho
  obtain ⟨r, h1, h2⟩ := Option.bind_eq_some_iff.mp ho
  obtain ⟨hp, rfl⟩ := under_some h1
  obtain ⟨N, hN⟩ := p_impl_taken S_impl_numberOf (fun _ _ h => under_pos h) S_impl_asRows (fun _ _ h => under_pos h) S_impl_withFirst (fun _ _ h => under_pos h) S_impl_made (fun _ h => under_pos h) a.1 a.2.1 a.2.2.1 a.2.2.2 hp
  refine ⟨N, ?_⟩
  refine ((callF_G (fun y => some (nocap y)) 2 c_impl_taken r_impl_taken (e_impl_taken a) ⟨rfl, rfl, rfl⟩).trans (impl_taken_g ⟨G31, [], [], [], N, r_impl_taken, none, fun _ _ => none, fun y => some (nocap y)⟩ ⟨rfl, rfl, rfl, rfl, rfl, fun _ => rfl, fun _ => rfl⟩ S_impl_numberOf ⟨rfl, (fun a0_Shape a0_Data => (show G31 92 _ = _ from rfl).trans (C_impl_numberOf_eq a0_Shape a0_Data))⟩ S_impl_asRows ⟨rfl, (fun a0_Shape a0_Data => (show G31 93 _ = _ from rfl).trans (C_impl_asRows_eq a0_Shape a0_Data))⟩ S_impl_withFirst ⟨rfl, (fun a0 a1 => (show G31 94 _ = _ from rfl).trans (C_impl_withFirst_eq a0 a1))⟩ S_impl_made ⟨rfl, (fun a0 => (show G31 90 _ = _ from rfl).trans (C_impl_made_eq a0))⟩ a.1 a.2.1 a.2.2.1 a.2.2.2)).trans ?_
  show (impl_taken_f S_impl_numberOf S_impl_asRows S_impl_withFirst S_impl_made N a.1 a.2.1 a.2.2.1 a.2.2.2).bind _ = _
  rw [hN]; exact h2
-- loop.example/s02135/impl.rowsOf
noncomputable def S_impl_rowsOf (a0_Shape : List Int) (a0_Data : List Int) : Option (Int × Int) := under (pre_impl_rowsOf a0_Shape a0_Data) (s_impl_rowsOf a0_Shape a0_Data)
def e_impl_rowsOf (a : (List Int) × (List Int)) : List X := [.agg [.d (lstT cI a.1), .d (lstT cI a.2)]]
noncomputable def C_impl_rowsOf : List X → Option XOut := lay e_impl_rowsOf fun a => ((S_impl_rowsOf a.1 a.2)).bind fun r => some (.ret (.tup [.d (.int .i64 r.1), .d (.int .i64 r.2)]) [])
theorem C_impl_rowsOf_eq (a0_Shape : List Int) (a0_Data : List Int) : C_impl_rowsOf [.agg [.d (lstT cI a0_Shape), .d (lstT cI a0_Data)]] = ((S_impl_rowsOf a0_Shape a0_Data)).bind fun r => some (.ret (.tup [.d (.int .i64 r.1), .d (.int .i64 r.2)]) []) := lay_eq (enc := e_impl_rowsOf) (by
  intro a b h
  simp only [e_impl_rowsOf, List.cons.injEq, X.d.injEq, X.agg.injEq, X.box.injEq, D.int.injEq, D.bool.injEq, D.fn.injEq, sD_inj, lstT_inj, ownT_inj, and_true, true_and, and_assoc] at h
  simp only [Prod.ext_iff]; exact h) (a0_Shape, a0_Data)
noncomputable def G33 : Ctx := G32.with 95 C_impl_rowsOf
theorem so33 : SoundAll Try.prog G33 := by
  refine layer (cuts := []) (k := 1) (cd := c_impl_rowsOf) (rs := r_impl_rowsOf) (enc := e_impl_rowsOf) mixed so32 Try.func95 (by kernel_rfl) (by kernel_rfl) (by kernel_rfl) (by kernel_rfl) (by kernel_rfl) (by kernel_rfl) (wk := fun y => nocap y) Same.nocap ?_
  intro a out ho
  obtain ⟨r, h1, h2⟩ := Option.bind_eq_some_iff.mp ho
  obtain ⟨hp, rfl⟩ := under_some h1
  obtain ⟨N, hN⟩ := p_impl_rowsOf a.1 a.2 hp
  refine ⟨N, ?_⟩
  refine ((callF_G (fun y => some (nocap y)) 1 c_impl_rowsOf r_impl_rowsOf (e_impl_rowsOf a) ⟨rfl, rfl, rfl⟩).trans (impl_rowsOf_g ⟨G32, [], [], [], N, r_impl_rowsOf, none, fun _ _ => none, fun y => some (nocap y)⟩ ⟨rfl, rfl, rfl, rfl, rfl, fun _ => rfl, fun _ => rfl⟩ a.1 a.2)).trans ?_
  show (impl_rowsOf_f N a.1 a.2).bind _ = _
  rw [hN]; exact h2
-- loop.example/s02135/impl.dropped
noncomputable def S_impl_dropped (a0_Shape : List Int) (a0_Data : List Int) (a1_Shape : List Int) (a1_Data : List Int) : Option (Res (List Int × List Int)) := under (pre_impl_dropped a0_Shape a0_Data a1_Shape a1_Data) (s_impl_dropped a0_Shape a0_Data a1_Shape a1_Data)
def e_impl_dropped (a : (List Int) × (List Int) × (List Int) × (List Int)) : List X := [.agg [.d (lstT cI a.1), .d (lstT cI a.2.1)], .agg [.d (lstT cI a.2.2.1), .d (lstT cI a.2.2.2)]]
noncomputable def C_impl_dropped : List X → Option XOut := lay e_impl_dropped fun a => ((S_impl_dropped a.1 a.2.1 a.2.2.1 a.2.2.2)).bind fun r => r.on (fun r => some (.ret (.agg [ownT (cI) 3 none false r.1, ownT (cI) 3 none false r.2]) [])) (fun x => some (.pan x []))
theorem C_impl_dropped_eq (a0_Shape : List Int) (a0_Data : List Int) (a1_Shape : List Int) (a1_Data : List Int) : C_impl_dropped [.agg [.d (lstT cI a0_Shape), .d (lstT cI a0_Data)], .agg [.d (lstT cI a1_Shape), .d (lstT cI a1_Data)]] = ((S_impl_dropped a0_Shape a0_Data a1_Shape a1_Data)).bind fun r => r.on (fun r => some (.ret (.agg [ownT (cI) 3 none false r.1, ownT (cI) 3 none false r.2]) [])) (fun x => some (.pan x [])) := lay_eq (enc := e_impl_dropped) (by
  intro a b h
  simp only [e_impl_dropped, List.cons.injEq, X.d.injEq, X.agg.injEq, X.box.injEq, D.int.injEq, D.bool.injEq, D.fn.injEq, sD_inj, lstT_inj, ownT_inj, and_true, true_and, and_assoc] at h
  simp only [Prod.ext_iff]; exact h) (a0_Shape, a0_Data, a1_Shape, a1_Data)
noncomputable def G34 : Ctx := G33.with 48 C_impl_dropped
theorem so34 : SoundAll Try.prog G34 := by
  refine layer (cuts := []) (k := 2) (cd := c_impl_dropped) (rs := r_impl_dropped) (enc := e_impl_dropped) mixed so33 Try.func48 (by kernel_rfl) (by kernel_rfl) (by kernel_rfl) (by kernel_rfl) (by kernel_rfl) (by kernel_rfl) (wk := fun y => nocap y) Same.nocap ?_
  intro a out ho
  obtain ⟨r, h1, h2⟩ := Option.bind_eq_some_iff.mp ho
  obtain ⟨hp, rfl⟩ := under_some h1
  obtain ⟨N, hN⟩ := p_impl_dropped S_impl_numberOf (fun _ _ h => under_pos h) S_impl_asRows (fun _ _ h => under_pos h) S_impl_rowsOf (fun _ _ h => under_pos h) S_impl_withFirst (fun _ _ h => under_pos h) S_impl_made (fun _ h => under_pos h) a.1 a.2.1 a.2.2.1 a.2.2.2 hp
  refine ⟨N, ?_⟩
  refine ((callF_G (fun y => some (nocap y)) 2 c_impl_dropped r_impl_dropped (e_impl_dropped a) ⟨rfl, rfl, rfl⟩).trans (impl_dropped_g ⟨G33, [], [], [], N, r_impl_dropped, none, fun _ _ => none, fun y => some (nocap y)⟩ ⟨rfl, rfl, rfl, rfl, rfl, fun _ => rfl, fun _ => rfl⟩ S_impl_numberOf ⟨rfl, (fun a0_Shape a0_Data => (show G33 92 _ = _ from rfl).trans (C_impl_numberOf_eq a0_Shape a0_Data))⟩ S_impl_asRows ⟨rfl, (fun a0_Shape a0_Data => (show G33 93 _ = _ from rfl).trans (C_impl_asRows_eq a0_Shape a0_Data))⟩ S_impl_rowsOf ⟨rfl, (fun a0_Shape a0_Data => (show G33 95 _ = _ from rfl).trans (C_impl_rowsOf_eq a0_Shape a0_Data))⟩ S_impl_withFirst ⟨rfl, (fun a0 a1 => (show G33 94 _ = _ from rfl).trans (C_impl_withFirst_eq a0 a1))⟩ S_impl_made ⟨rfl, (fun a0 => (show G33 90 _ = _ from rfl).trans (C_impl_made_eq a0))⟩ a.1 a.2.1 a.2.2.1 a.2.2.2)).trans ?_
  show (impl_dropped_f S_impl_numberOf S_impl_asRows S_impl_rowsOf S_impl_withFirst S_impl_made N a.1 a.2.1 a.2.2.1 a.2.2.2).bind _ = _
  rw [hN]; exact h2
-- slices.Equal[[]int,int]
noncomputable def S_slices_Equal___int_int_ (a0 : List Int) (a1 : List Int) : Option (Bool) := under (pre_slices_Equal___int_int_ a0 a1) (s_slices_Equal___int_int_ a0 a1)
def e_slices_Equal___int_int_ (a : (List Int) × (List Int)) : List X := [.d (lstT cI a.1), .d (lstT cI a.2)]
noncomputable def C_slices_Equal___int_int_ : List X → Option XOut := lay e_slices_Equal___int_int_ fun a => ((S_slices_Equal___int_int_ a.1 a.2)).bind fun r => some (.ret (.d (.bool r)) [])
theorem C_slices_Equal___int_int__eq (a0 : List Int) (a1 : List Int) : C_slices_Equal___int_int_ [.d (lstT cI a0), .d (lstT cI a1)] = ((S_slices_Equal___int_int_ a0 a1)).bind fun r => some (.ret (.d (.bool r)) []) := lay_eq (enc := e_slices_Equal___int_int_) (by
  intro a b h
  simp only [e_slices_Equal___int_int_, List.cons.injEq, X.d.injEq, X.agg.injEq, X.box.injEq, D.int.injEq, D.bool.injEq, D.fn.injEq, sD_inj, lstT_inj, ownT_inj, and_true, true_and, and_assoc] at h
  simp only [Prod.ext_iff]; exact h) (a0, a1)
noncomputable def G35 : Ctx := G34.with 55 C_slices_Equal___int_int_
theorem so35 : SoundAll Try.prog G35 := by
  refine layer (cuts := []) (k := 2) (cd := c_slices_Equal___int_int_) (rs := r_slices_Equal___int_int_) (enc := e_slices_Equal___int_int_) mixed so34 Try.func55 (by kernel_rfl) (by kernel_rfl) (by kernel_rfl) (by kernel_rfl) (by kernel_rfl) (by kernel_rfl) (wk := fun y => nocap y) Same.nocap ?_
  intro a out ho
  obtain ⟨r, h1, h2⟩ := Option.bind_eq_some_iff.mp ho
  obtain ⟨hp, rfl⟩ := under_some h1
  obtain ⟨N, hN⟩ := p_slices_Equal___int_int_ a.1 a.2 hp
  refine ⟨N, ?_⟩
  refine ((callF_G (fun y => some (nocap y)) 2 c_slices_Equal___int_int_ r_slices_Equal___int_int_ (e_slices_Equal___int_int_ a) ⟨rfl, rfl, rfl⟩).trans (slices_Equal___int_int__g ⟨G34, [], [], [], N, r_slices_Equal___int_int_, none, fun _ _ => none, fun y => some (nocap y)⟩ ⟨rfl, rfl, rfl, rfl, rfl, fun _ => rfl, fun _ => rfl⟩ a.1 a.2)).trans ?_
  show (slices_Equal___int_int__f N a.1 a.2).bind _ = _
  rw [hN]; exact h2
-- loop.example/s02135/impl.catenated
noncomputable def S_impl_catenated (a0_Shape : List Int) (a0_Data : List Int) (a1_Shape : List Int) (a1_Data : List Int) : Option (Res (List Int × List Int)) := under (pre_impl_catenated a0_Shape a0_Data a1_Shape a1_Data) (s_impl_catenated a0_Shape a0_Data a1_Shape a1_Data)
def e_impl_catenated (a : (List Int) × (List Int) × (List Int) × (List Int)) : List X := [.agg [.d (lstT cI a.1), .d (lstT cI a.2.1)], .agg [.d (lstT cI a.2.2.1), .d (lstT cI a.2.2.2)]]
noncomputable def C_impl_catenated : List X → Option XOut := lay e_impl_catenated fun a => ((S_impl_catenated a.1 a.2.1 a.2.2.1 a.2.2.2)).bind fun r => r.on (fun r => some (.ret (.agg [ownT (cI) 3 none false r.1, ownT (cI) 3 none false r.2]) [])) (fun x => some (.pan x []))
theorem C_impl_catenated_eq (a0_Shape : List Int) (a0_Data : List Int) (a1_Shape : List Int) (a1_Data : List Int) : C_impl_catenated [.agg [.d (lstT cI a0_Shape), .d (lstT cI a0_Data)], .agg [.d (lstT cI a1_Shape), .d (lstT cI a1_Data)]] = ((S_impl_catenated a0_Shape a0_Data a1_Shape a1_Data)).bind fun r => r.on (fun r => some (.ret (.agg [ownT (cI) 3 none false r.1, ownT (cI) 3 none false r.2]) [])) (fun x => some (.pan x [])) := lay_eq (enc := e_impl_catenated) (by
  intro a b h
  simp only [e_impl_catenated, List.cons.injEq, X.d.injEq, X.agg.injEq, X.box.injEq, D.int.injEq, D.bool.injEq, D.fn.injEq, sD_inj, lstT_inj, ownT_inj, and_true, true_and, and_assoc] at h
  simp only [Prod.ext_iff]; exact h) (a0_Shape, a0_Data, a1_Shape, a1_Data)
noncomputable def G36 : Ctx := G35.with 49 C_impl_catenated
theorem so36 : SoundAll Try.prog G36 := by
  refine layer (cuts := []) (k := 2) (cd := c_impl_catenated) (rs := r_impl_catenated) (enc := e_impl_catenated) mixed so35 Try.func49 (by kernel_rfl) (by kernel_rfl) (by kernel_rfl) (by kernel_rfl) (by kernel_rfl) (by kernel_rfl) (wk := fun y => nocap y) Same.nocap ?_
  intro a out ho
  obtain ⟨r, h1, h2⟩ := Option.bind_eq_some_iff.mp ho
  obtain ⟨hp, rfl⟩ := under_some h1
  obtain ⟨N, hN⟩ := p_impl_catenated S_impl_asRows (fun _ _ h => under_pos h) S_slices_Equal___int_int_ (fun _ _ h => under_pos h) S_impl_withFirst (fun _ _ h => under_pos h) S_impl_made (fun _ h => under_pos h) a.1 a.2.1 a.2.2.1 a.2.2.2 hp
  refine ⟨N, ?_⟩
  refine ((callF_G (fun y => some (nocap y)) 2 c_impl_catenated r_impl_catenated (e_impl_catenated a) ⟨rfl, rfl, rfl⟩).trans (impl_catenated_g ⟨G35, [], [], [], N, r_impl_catenated, none, fun _ _ => none, fun y => some (nocap y)⟩ ⟨rfl, rfl, rfl, rfl, rfl, fun _ => rfl, fun _ => rfl⟩ S_impl_asRows ⟨rfl, (fun a0_Shape a0_Data => (show G35 93 _ = _ from rfl).trans (C_impl_asRows_eq a0_Shape a0_Data))⟩ S_slices_Equal___int_int_ ⟨rfl, (fun a0 a1 => (show G35 55 _ = _ from rfl).trans (C_slices_Equal___int_int__eq a0 a1))⟩ S_impl_withFirst ⟨rfl, (fun a0 a1 => (show G35 94 _ = _ from rfl).trans (C_impl_withFirst_eq a0 a1))⟩ S_impl_made ⟨rfl, (fun a0 => (show G35 90 _ = _ from rfl).trans (C_impl_made_eq a0))⟩ a.1 a.2.1 a.2.2.1 a.2.2.2)).trans ?_
  show (impl_catenated_f S_impl_asRows S_slices_Equal___int_int_ S_impl_withFirst S_impl_made N a.1 a.2.1 a.2.2.1 a.2.2.2).bind _ = _
  rw [hN]; exact h2
-- slices.Grow[[]int,int]
noncomputable def S_slices_Grow___int_int_ (a1 : Int) : Option (Res (List Int)) := under (pre_slices_Grow___int_int_ a1) (s_slices_Grow___int_int_ a1)
def e_slices_Grow___int_int_ (a : Int) : List X := [.nil, .d (.int .i64 a)]
noncomputable def C_slices_Grow___int_int_ : List X → Option XOut := lay e_slices_Grow___int_int_ fun a => ((S_slices_Grow___int_int_ a)).bind fun r => r.on (fun r => some (.ret (ownT (cI) 3 none false r) [])) (fun x => some (.pan x []))
theorem C_slices_Grow___int_int__eq (a1 : Int) : C_slices_Grow___int_int_ [.nil, .d (.int .i64 a1)] = ((S_slices_Grow___int_int_ a1)).bind fun r => r.on (fun r => some (.ret (ownT (cI) 3 none false r) [])) (fun x => some (.pan x [])) := lay_eq (enc := e_slices_Grow___int_int_) (by
  intro a b h
  simp only [e_slices_Grow___int_int_, List.cons.injEq, X.d.injEq, X.agg.injEq, X.box.injEq, D.int.injEq, D.bool.injEq, D.fn.injEq, sD_inj, lstT_inj, ownT_inj, and_true, true_and, and_assoc] at h
  exact h) a1
noncomputable def G37 : Ctx := G36.with 111 C_slices_Grow___int_int_ true
theorem so37 : SoundAll Try.prog G37 := by
  refine layer (cuts := [20, 25]) (k := 2) (cd := c_slices_Grow___int_int_) (rs := r_slices_Grow___int_int_) (enc := e_slices_Grow___int_int_) mixed so36 Try.func111 (by kernel_rfl) (by kernel_rfl) (by kernel_rfl) (by kernel_rfl) (by kernel_rfl) (by kernel_rfl) (wk := fun y => nocap (asOwn (.own 3 1) y)) (Same.comp Same.nocap (Same.own (.own 3 1))) ?_
  intro a out ho
  obtain ⟨r, h1, h2⟩ := Option.bind_eq_some_iff.mp ho
  obtain ⟨hp, rfl⟩ := under_some h1
  obtain ⟨N, hN⟩ := p_slices_Grow___int_int_ a hp
  refine ⟨N, ?_⟩
  refine ((callF_G (fun y => some (nocap (asOwn (.own 3 1) y))) 2 c_slices_Grow___int_int_ r_slices_Grow___int_int_ (e_slices_Grow___int_int_ a) ⟨rfl, rfl, rfl⟩).trans (slices_Grow___int_int__g ⟨G36, [], [], [], N, r_slices_Grow___int_int_, none, fun _ _ => none, fun y => some (nocap (asOwn (.own 3 1) y))⟩ ⟨rfl, rfl, rfl, rfl, rfl, fun _ => rfl, fun _ => rfl⟩ a)).trans ?_
  show (slices_Grow___int_int__f N a).bind _ = _
  rw [hN]; exact h2
-- slices.Concat[[]int,int]
noncomputable def S_slices_Concat___int_int_ (a0 : List (List Int)) : Option (Res (List Int)) := under (pre_slices_Concat___int_int_ a0) (s_slices_Concat___int_int_ a0)
def e_slices_Concat___int_int_ (a : (List (List Int))) : List X := [.d (lstT (cL cI) a)]
noncomputable def C_slices_Concat___int_int_ : List X → Option XOut := lay e_slices_Concat___int_int_ fun a => ((S_slices_Concat___int_int_ a)).bind fun r => r.on (fun r => some (.ret (ownT (cI) 3 none false r) [])) (fun x => some (.pan x []))
theorem C_slices_Concat___int_int__eq (a0 : List (List Int)) : C_slices_Concat___int_int_ [.d (lstT (cL cI) a0)] = ((S_slices_Concat___int_int_ a0)).bind fun r => r.on (fun r => some (.ret (ownT (cI) 3 none false r) [])) (fun x => some (.pan x [])) := lay_eq (enc := e_slices_Concat___int_int_) (by
  intro a b h
  simp only [e_slices_Concat___int_int_, List.cons.injEq, X.d.injEq, X.agg.injEq, X.box.injEq, D.int.injEq, D.bool.injEq, D.fn.injEq, sD_inj, lstT_inj, ownT_inj, and_true, true_and, and_assoc] at h
  exact h) a0
noncomputable def G38 : Ctx := G37.with 96 C_slices_Concat___int_int_
theorem so38 : SoundAll Try.prog G38 := by
  refine layer (cuts := []) (k := 1) (cd := c_slices_Concat___int_int_) (rs := r_slices_Concat___int_int_) (enc := e_slices_Concat___int_int_) mixed so37 Try.func96 (by kernel_rfl) (by kernel_rfl) (by kernel_rfl) (by kernel_rfl) (by kernel_rfl) (by kernel_rfl) (wk := fun y => nocap y) Same.nocap ?_
  intro a out ho
  obtain ⟨r, h1, h2⟩ := Option.bind_eq_some_iff.mp ho
  obtain ⟨hp, rfl⟩ := under_some h1
  obtain ⟨N, hN⟩ := p_slices_Concat___int_int_ S_slices_Grow___int_int_ (fun _ h => under_pos h) a hp
  refine ⟨N, ?_⟩
  refine ((callF_G (fun y => some (nocap y)) 1 c_slices_Concat___int_int_ r_slices_Concat___int_int_ (e_slices_Concat___int_int_ a) ⟨rfl, rfl, rfl⟩).trans (slices_Concat___int_int__g ⟨G37, [], [], [], N, r_slices_Concat___int_int_, none, fun _ _ => none, fun y => some (nocap y)⟩ ⟨rfl, rfl, rfl, rfl, rfl, fun _ => rfl, fun _ => rfl⟩ S_slices_Grow___int_int_ ⟨rfl, (fun a1 => (show G37 111 _ = _ from rfl).trans (C_slices_Grow___int_int__eq a1))⟩ a)).trans ?_
  show (slices_Concat___int_int__f S_slices_Grow___int_int_ N a).bind _ = _
  rw [hN]; exact h2
-- loop.example/s02135/impl.picked
noncomputable def S_impl_picked (a0_Shape : List Int) (a0_Data : List Int) (a1_Shape : List Int) (a1_Data : List Int) : Option (Res (List Int × List Int)) := under (pre_impl_picked a0_Shape a0_Data a1_Shape a1_Data) (s_impl_picked a0_Shape a0_Data a1_Shape a1_Data)
def e_impl_picked (a : (List Int) × (List Int) × (List Int) × (List Int)) : List X := [.agg [.d (lstT cI a.1), .d (lstT cI a.2.1)], .agg [.d (lstT cI a.2.2.1), .d (lstT cI a.2.2.2)]]
noncomputable def C_impl_picked : List X → Option XOut := lay e_impl_picked fun a => ((S_impl_picked a.1 a.2.1 a.2.2.1 a.2.2.2)).bind fun r => r.on (fun r => some (.ret (.agg [ownT (cI) 3 none false r.1, ownT (cI) 3 none false r.2]) [])) (fun x => some (.pan x []))
theorem C_impl_picked_eq (a0_Shape : List Int) (a0_Data : List Int) (a1_Shape : List Int) (a1_Data : List Int) : C_impl_picked [.agg [.d (lstT cI a0_Shape), .d (lstT cI a0_Data)], .agg [.d (lstT cI a1_Shape), .d (lstT cI a1_Data)]] = ((S_impl_picked a0_Shape a0_Data a1_Shape a1_Data)).bind fun r => r.on (fun r => some (.ret (.agg [ownT (cI) 3 none false r.1, ownT (cI) 3 none false r.2]) [])) (fun x => some (.pan x [])) := lay_eq (enc := e_impl_picked) (by
  intro a b h
  simp only [e_impl_picked, List.cons.injEq, X.d.injEq, X.agg.injEq, X.box.injEq, D.int.injEq, D.bool.injEq, D.fn.injEq, sD_inj, lstT_inj, ownT_inj, and_true, true_and, and_assoc] at h
  simp only [Prod.ext_iff]; exact h) (a0_Shape, a0_Data, a1_Shape, a1_Data)
noncomputable def G39 : Ctx := G38.with 50 C_impl_picked
theorem so39 : SoundAll Try.prog G39 := by
  refine layer (cuts := []) (k := 2) (cd := c_impl_picked) (rs := r_impl_picked) (enc := e_impl_picked) mixed so38 Try.func50 (by kernel_rfl) (by kernel_rfl) (by kernel_rfl) (by kernel_rfl) (by kernel_rfl) (by kernel_rfl) (wk := fun y => nocap y) Same.nocap ?_
  intro a out ho
  obtain ⟨r, h1, h2⟩ := Option.bind_eq_some_iff.mp ho
  obtain ⟨hp, rfl⟩ := under_some h1
  obtain ⟨N, hN⟩ := p_impl_picked S_slices_Concat___int_int_ (fun _ h => under_pos h) S_impl_made (fun _ h => under_pos h) S_impl_rowsOf (fun _ _ h => under_pos h) a.1 a.2.1 a.2.2.1 a.2.2.2 hp
  refine ⟨N, ?_⟩
  refine ((callF_G (fun y => some (nocap y)) 2 c_impl_picked r_impl_picked (e_impl_picked a) ⟨rfl, rfl, rfl⟩).trans (impl_picked_g ⟨G38, [], [], [], N, r_impl_picked, none, fun _ _ => none, fun y => some (nocap y)⟩ ⟨rfl, rfl, rfl, rfl, rfl, fun _ => rfl, fun _ => rfl⟩ S_slices_Concat___int_int_ ⟨rfl, (fun a0 => (show G38 96 _ = _ from rfl).trans (C_slices_Concat___int_int__eq a0))⟩ S_impl_made ⟨rfl, (fun a0 => (show G38 90 _ = _ from rfl).trans (C_impl_made_eq a0))⟩ S_impl_rowsOf ⟨rfl, (fun a0_Shape a0_Data => (show G38 95 _ = _ from rfl).trans (C_impl_rowsOf_eq a0_Shape a0_Data))⟩ a.1 a.2.1 a.2.2.1 a.2.2.2)).trans ?_
  show (impl_picked_f S_slices_Concat___int_int_ S_impl_made S_impl_rowsOf N a.1 a.2.1 a.2.2.1 a.2.2.2).bind _ = _
  rw [hN]; exact h2
-- loop.example/s02135/impl.found
noncomputable def S_impl_found (a0_Shape : List Int) (a0_Data : List Int) (a1_Shape : List Int) (a1_Data : List Int) : Option (Res (List Int × List Int)) := under (pre_impl_found a0_Shape a0_Data a1_Shape a1_Data) (s_impl_found a0_Shape a0_Data a1_Shape a1_Data)
def e_impl_found (a : (List Int) × (List Int) × (List Int) × (List Int)) : List X := [.agg [.d (lstT cI a.1), .d (lstT cI a.2.1)], .agg [.d (lstT cI a.2.2.1), .d (lstT cI a.2.2.2)]]
noncomputable def C_impl_found : List X → Option XOut := lay e_impl_found fun a => ((S_impl_found a.1 a.2.1 a.2.2.1 a.2.2.2)).bind fun r => r.on (fun r => some (.ret (.agg [ownT (cI) 3 none false r.1, ownT (cI) 3 none false r.2]) [])) (fun x => some (.pan x []))
theorem C_impl_found_eq (a0_Shape : List Int) (a0_Data : List Int) (a1_Shape : List Int) (a1_Data : List Int) : C_impl_found [.agg [.d (lstT cI a0_Shape), .d (lstT cI a0_Data)], .agg [.d (lstT cI a1_Shape), .d (lstT cI a1_Data)]] = ((S_impl_found a0_Shape a0_Data a1_Shape a1_Data)).bind fun r => r.on (fun r => some (.ret (.agg [ownT (cI) 3 none false r.1, ownT (cI) 3 none false r.2]) [])) (fun x => some (.pan x [])) := lay_eq (enc := e_impl_found) (by
  intro a b h
  simp only [e_impl_found, List.cons.injEq, X.d.injEq, X.agg.injEq, X.box.injEq, D.int.injEq, D.bool.injEq, D.fn.injEq, sD_inj, lstT_inj, ownT_inj, and_true, true_and, and_assoc] at h
  simp only [Prod.ext_iff]; exact h) (a0_Shape, a0_Data, a1_Shape, a1_Data)
noncomputable def G40 : Ctx := G39.with 51 C_impl_found
theorem so40 : SoundAll Try.prog G40 := by
  refine layer (cuts := []) (k := 2) (cd := c_impl_found) (rs := r_impl_found) (enc := e_impl_found) mixed so39 Try.func51 (by kernel_rfl) (by kernel_rfl) (by kernel_rfl) (by kernel_rfl) (by kernel_rfl) (by kernel_rfl) (wk := fun y => nocap y) Same.nocap ?_
  intro a out ho
  obtain ⟨r, h1, h2⟩ := Option.bind_eq_some_iff.mp ho
  obtain ⟨hp, rfl⟩ := under_some h1
  obtain ⟨N, hN⟩ := p_impl_found S_impl_made (fun _ h => under_pos h) a.1 a.2.1 a.2.2.1 a.2.2.2 hp
  refine ⟨N, ?_⟩
  refine ((callF_G (fun y => some (nocap y)) 2 c_impl_found r_impl_found (e_impl_found a) ⟨rfl, rfl, rfl⟩).trans (impl_found_g ⟨G39, [], [], [], N, r_impl_found, none, fun _ _ => none, fun y => some (nocap y)⟩ ⟨rfl, rfl, rfl, rfl, rfl, fun _ => rfl, fun _ => rfl⟩ S_impl_made ⟨rfl, (fun a0 => (show G39 90 _ = _ from rfl).trans (C_impl_made_eq a0))⟩ a.1 a.2.1 a.2.2.1 a.2.2.2)).trans ?_
  show (impl_found_f S_impl_made N a.1 a.2.1 a.2.2.1 a.2.2.2).bind _ = _
  rw [hN]; exact h2
-- loop.example/s02135/impl.truth
noncomputable def S_impl_truth (a0 : Bool) : Option (Int) := under (pre_impl_truth a0) (s_impl_truth a0)
def e_impl_truth (a : Bool) : List X := [.d (.bool a)]
noncomputable def C_impl_truth : List X → Option XOut := lay e_impl_truth fun a => ((S_impl_truth a)).bind fun r => some (.ret (.d (.int .i64 r)) [])
theorem C_impl_truth_eq (a0 : Bool) : C_impl_truth [.d (.bool a0)] = ((S_impl_truth a0)).bind fun r => some (.ret (.d (.int .i64 r)) []) := lay_eq (enc := e_impl_truth) (by
  intro a b h
  simp only [e_impl_truth, List.cons.injEq, X.d.injEq, X.agg.injEq, X.box.injEq, D.int.injEq, D.bool.injEq, D.fn.injEq, sD_inj, lstT_inj, ownT_inj, and_true, true_and, and_assoc] at h
  exact h) a0
noncomputable def G41 : Ctx := G40.with 54 C_impl_truth
theorem so41 : SoundAll Try.prog G41 := by
  refine layer (cuts := []) (k := 1) (cd := c_impl_truth) (rs := r_impl_truth) (enc := e_impl_truth) mixed so40 Try.func54 (by kernel_rfl) (by kernel_rfl) (by kernel_rfl) (by kernel_rfl) (by kernel_rfl) (by kernel_rfl) (wk := fun y => nocap y) Same.nocap ?_
  intro a out ho
  obtain ⟨r, h1, h2⟩ := Option.bind_eq_some_iff.mp ho
  obtain ⟨hp, rfl⟩ := under_some h1
  obtain ⟨N, hN⟩ := p_impl_truth a hp
  refine ⟨N, ?_⟩
  refine ((callF_G (fun y => some (nocap y)) 1 c_impl_truth r_impl_truth (e_impl_truth a) ⟨rfl, rfl, rfl⟩).trans (impl_truth_g ⟨G40, [], [], [], N, r_impl_truth, none, fun _ _ => none, fun y => some (nocap y)⟩ ⟨rfl, rfl, rfl, rfl, rfl, fun _ => rfl, fun _ => rfl⟩ a)).trans ?_
  show (impl_truth_f N a).bind _ = _
  rw [hN]; exact h2
-- loop.example/s02135/impl.scalarOf
noncomputable def S_impl_scalarOf (a0 : Int) : Option (List Int × List Int) := under (pre_impl_scalarOf a0) (s_impl_scalarOf a0)
def e_impl_scalarOf (a : Int) : List X := [.d (.int .i64 a)]
noncomputable def C_impl_scalarOf : List X → Option XOut := lay e_impl_scalarOf fun a => ((S_impl_scalarOf a)).bind fun r => some (.ret (.agg [ownT (cI) 3 none false r.1, ownT (cI) 3 none false r.2]) [])
theorem C_impl_scalarOf_eq (a0 : Int) : C_impl_scalarOf [.d (.int .i64 a0)] = ((S_impl_scalarOf a0)).bind fun r => some (.ret (.agg [ownT (cI) 3 none false r.1, ownT (cI) 3 none false r.2]) []) := lay_eq (enc := e_impl_scalarOf) (by
  intro a b h
  simp only [e_impl_scalarOf, List.cons.injEq, X.d.injEq, X.agg.injEq, X.box.injEq, D.int.injEq, D.bool.injEq, D.fn.injEq, sD_inj, lstT_inj, ownT_inj, and_true, true_and, and_assoc] at h
  exact h) a0
noncomputable def G42 : Ctx := G41.with 53 C_impl_scalarOf
theorem so42 : SoundAll Try.prog G42 := by
  refine layer (cuts := []) (k := 1) (cd := c_impl_scalarOf) (rs := r_impl_scalarOf) (enc := e_impl_scalarOf) mixed so41 Try.func53 (by kernel_rfl) (by kernel_rfl) (by kernel_rfl) (by kernel_rfl) (by kernel_rfl) (by kernel_rfl) (wk := fun y => nocap y) Same.nocap ?_
  intro a out ho
  obtain ⟨r, h1, h2⟩ := Option.bind_eq_some_iff.mp ho
  obtain ⟨hp, rfl⟩ := under_some h1
  obtain ⟨N, hN⟩ := p_impl_scalarOf a hp
  refine ⟨N, ?_⟩
  refine ((callF_G (fun y => some (nocap y)) 1 c_impl_scalarOf r_impl_scalarOf (e_impl_scalarOf a) ⟨rfl, rfl, rfl⟩).trans (impl_scalarOf_g ⟨G41, [], [], [], N, r_impl_scalarOf, none, fun _ _ => none, fun y => some (nocap y)⟩ ⟨rfl, rfl, rfl, rfl, rfl, fun _ => rfl, fun _ => rfl⟩ a)).trans ?_
  show (impl_scalarOf_f N a).bind _ = _
  rw [hN]; exact h2
-- loop.example/s02135/impl.Dyad$1
noncomputable def S_impl_Dyad_1 (a0_Shape : List Int) (a0_Data : List Int) (a1_Shape : List Int) (a1_Data : List Int) : Option (List Int × List Int) := under (pre_impl_Dyad_1 a0_Shape a0_Data a1_Shape a1_Data) (s_impl_Dyad_1 a0_Shape a0_Data a1_Shape a1_Data)
def e_impl_Dyad_1 (a : (List Int) × (List Int) × (List Int) × (List Int)) : List X := [.agg [.d (lstT cI a.1), .d (lstT cI a.2.1)], .agg [.d (lstT cI a.2.2.1), .d (lstT cI a.2.2.2)]]
noncomputable def C_impl_Dyad_1 : List X → Option XOut := lay e_impl_Dyad_1 fun a => ((S_impl_Dyad_1 a.1 a.2.1 a.2.2.1 a.2.2.2)).bind fun r => some (.ret (.agg [ownT (cI) 3 none false r.1, ownT (cI) 3 none false r.2]) [])
theorem C_impl_Dyad_1_eq (a0_Shape : List Int) (a0_Data : List Int) (a1_Shape : List Int) (a1_Data : List Int) : C_impl_Dyad_1 [.agg [.d (lstT cI a0_Shape), .d (lstT cI a0_Data)], .agg [.d (lstT cI a1_Shape), .d (lstT cI a1_Data)]] = ((S_impl_Dyad_1 a0_Shape a0_Data a1_Shape a1_Data)).bind fun r => some (.ret (.agg [ownT (cI) 3 none false r.1, ownT (cI) 3 none false r.2]) []) := lay_eq (enc := e_impl_Dyad_1) (by
  intro a b h
  simp only [e_impl_Dyad_1, List.cons.injEq, X.d.injEq, X.agg.injEq, X.box.injEq, D.int.injEq, D.bool.injEq, D.fn.injEq, sD_inj, lstT_inj, ownT_inj, and_true, true_and, and_assoc] at h
  simp only [Prod.ext_iff]; exact h) (a0_Shape, a0_Data, a1_Shape, a1_Data)
noncomputable def G43 : Ctx := G42.with 52 C_impl_Dyad_1
theorem so43 : SoundAll Try.prog G43 := by
  refine layer (cuts := []) (k := 2) (cd := c_impl_Dyad_1) (rs := r_impl_Dyad_1) (enc := e_impl_Dyad_1) mixed so42 Try.func52 (by kernel_rfl) (by kernel_rfl) (by kernel_rfl) (by kernel_rfl) (by kernel_rfl) (by kernel_rfl) (wk := fun y => nocap y) Same.nocap ?_
  intro a out ho
  obtain ⟨r, h1, h2⟩ := Option.bind_eq_some_iff.mp ho
  obtain ⟨hp, rfl⟩ := under_some h1
  obtain ⟨N, hN⟩ := p_impl_Dyad_1 S_slices_Equal___int_int_ (fun _ _ h => under_pos h) S_impl_truth (fun _ h => under_pos h) S_impl_scalarOf (fun _ h => under_pos h) a.1 a.2.1 a.2.2.1 a.2.2.2 hp
  refine ⟨N, ?_⟩
  refine ((callF_G (fun y => some (nocap y)) 2 c_impl_Dyad_1 r_impl_Dyad_1 (e_impl_Dyad_1 a) ⟨rfl, rfl, rfl⟩).trans (impl_Dyad_1_g ⟨G42, [], [], [], N, r_impl_Dyad_1, none, fun _ _ => none, fun y => some (nocap y)⟩ ⟨rfl, rfl, rfl, rfl, rfl, fun _ => rfl, fun _ => rfl⟩ S_slices_Equal___int_int_ ⟨rfl, (fun a0 a1 => (show G42 55 _ = _ from rfl).trans (C_slices_Equal___int_int__eq a0 a1))⟩ S_impl_truth ⟨rfl, (fun a0 => (show G42 54 _ = _ from rfl).trans (C_impl_truth_eq a0))⟩ S_impl_scalarOf ⟨rfl, (fun a0 => (show G42 53 _ = _ from rfl).trans (C_impl_scalarOf_eq a0))⟩ a.1 a.2.1 a.2.2.1 a.2.2.2)).trans ?_
  show (impl_Dyad_1_f S_slices_Equal___int_int_ S_impl_truth S_impl_scalarOf N a.1 a.2.1 a.2.2.1 a.2.2.2).bind _ = _
  rw [hN]; exact h2
-- loop.example/s02135/impl.ArrayOk
noncomputable def S_impl_ArrayOk (a0_Shape : List Int) (a0_Data : List Int) : Option (Bool) := under (pre_impl_ArrayOk a0_Shape a0_Data) (s_impl_ArrayOk a0_Shape a0_Data)
def e_impl_ArrayOk (a : (List Int) × (List Int)) : List X := [.agg [.d (lstT cI a.1), .d (lstT cI a.2)]]
noncomputable def C_impl_ArrayOk : List X → Option XOut := lay e_impl_ArrayOk fun a => ((S_impl_ArrayOk a.1 a.2)).bind fun r => some (.ret (.d (.bool r)) [])
theorem C_impl_ArrayOk_eq (a0_Shape : List Int) (a0_Data : List Int) : C_impl_ArrayOk [.agg [.d (lstT cI a0_Shape), .d (lstT cI a0_Data)]] = ((S_impl_ArrayOk a0_Shape a0_Data)).bind fun r => some (.ret (.d (.bool r)) []) := lay_eq (enc := e_impl_ArrayOk) (by
  intro a b h
  simp only [e_impl_ArrayOk, List.cons.injEq, X.d.injEq, X.agg.injEq, X.box.injEq, D.int.injEq, D.bool.injEq, D.fn.injEq, sD_inj, lstT_inj, ownT_inj, and_true, true_and, and_assoc] at h
  simp only [Prod.ext_iff]; exact h) (a0_Shape, a0_Data)
noncomputable def G44 : Ctx := G43.with 56 C_impl_ArrayOk
theorem so44 : SoundAll Try.prog G44 := by
  refine layer (cuts := []) (k := 1) (cd := c_impl_ArrayOk) (rs := r_impl_ArrayOk) (enc := e_impl_ArrayOk) mixed so43 Try.func56 (by kernel_rfl) (by kernel_rfl) (by kernel_rfl) (by kernel_rfl) (by kernel_rfl) (by kernel_rfl) (wk := fun y => nocap y) Same.nocap ?_
  intro a out ho
  obtain ⟨r, h1, h2⟩ := Option.bind_eq_some_iff.mp ho
  obtain ⟨hp, rfl⟩ := under_some h1
  obtain ⟨N, hN⟩ := p_impl_ArrayOk S_impl_cellsOf (fun _ h => under_pos h) a.1 a.2 hp
  refine ⟨N, ?_⟩
  refine ((callF_G (fun y => some (nocap y)) 1 c_impl_ArrayOk r_impl_ArrayOk (e_impl_ArrayOk a) ⟨rfl, rfl, rfl⟩).trans (impl_ArrayOk_g ⟨G43, [], [], [], N, r_impl_ArrayOk, none, fun _ _ => none, fun y => some (nocap y)⟩ ⟨rfl, rfl, rfl, rfl, rfl, fun _ => rfl, fun _ => rfl⟩ S_impl_cellsOf ⟨rfl, (fun a0 => (show G43 91 _ = _ from rfl).trans (C_impl_cellsOf_eq a0))⟩ a.1 a.2)).trans ?_
  show (impl_ArrayOk_f S_impl_cellsOf N a.1 a.2).bind _ = _
  rw [hN]; exact h2
-- loop.example/s02135/impl.caught
noncomputable def S_impl_caught (x : D) (a0 : Int) (a1_Shape : List Int) (a1_Data : List Int) : Option (Int) := (pn_impl_caught x).bind fun x => under (pre_impl_caught x a0 a1_Shape a1_Data) (s_impl_caught x a0 a1_Shape a1_Data)
def e_impl_caught (a : Int × (List Int) × (List Int)) : List X := [.box [.d (.int .i64 a.1)], .box [.d (lstT cI a.2.1), .d (lstT cI a.2.2)]]
theorem e_impl_caught_inj : ∀ a b, e_impl_caught a = e_impl_caught b → a = b := by
  intro a b h
  simp only [e_impl_caught, List.cons.injEq, X.d.injEq, X.agg.injEq, X.box.injEq, D.int.injEq, D.bool.injEq, D.fn.injEq, sD_inj, lstT_inj, ownT_inj, and_true, true_and, and_assoc] at h
  simp only [Prod.ext_iff]; exact h
noncomputable def FD_impl_caught (x : D) (xs : List X) : Option (List (List D)) := lay e_impl_caught (fun a => (S_impl_caught x a.1 a.2.1 a.2.2).bind fun r => some [[.int .i64 r], [D.nils, D.nils]]) xs
theorem FD_impl_caught_eq (x : D) (a0 : Int) (a1_Shape : List Int) (a1_Data : List Int) : FD_impl_caught x [.box [.d (.int .i64 a0)], .box [.d (lstT cI a1_Shape), .d (lstT cI a1_Data)]] = (S_impl_caught x a0 a1_Shape a1_Data).bind fun r => some [[.int .i64 r], [D.nils, D.nils]] := lay_eq (β := List (List D)) (enc := e_impl_caught) (C := fun a => (S_impl_caught x a.1 a.2.1 a.2.2).bind fun r => some [[.int .i64 r], [D.nils, D.nils]]) e_impl_caught_inj (a0, a1_Shape, a1_Data)
theorem pn_impl_caught_some {x : D} {c : Int} (h : pn_impl_caught x = some c) : x = .ifaceS 90 [.int .i64 c] := by
  unfold pn_impl_caught at h
  split at h
  · split at h
    · rename_i e; subst e; injection h with h; rw [h]
    · cases h
  · cases h
theorem S_impl_caught_eq (x : Int) (a0 : Int) (a1_Shape : List Int) (a1_Data : List Int) : S_impl_caught (.ifaceS 90 [.int .i64 x]) a0 a1_Shape a1_Data = under (pre_impl_caught x a0 a1_Shape a1_Data) (s_impl_caught x a0 a1_Shape a1_Data) := by
  unfold S_impl_caught pn_impl_caught
  simp only [if_true, Option.bind_some]
theorem sd_impl_caught : SoundD Try.prog 57 FD_impl_caught := by
  refine layerR' (cuts := []) (k := 2) (a := 7) (b := 4) (cd := c_impl_caught) mixed so44 Try.func57 (by kernel_rfl) (by kernel_rfl) (by kernel_rfl) (by kernel_rfl) (by kernel_rfl) (by kernel_rfl) (by kernel_rfl) (by kernel_rfl) ?_
  intro x xs outs ho
  obtain ⟨a, rfl, ho2⟩ := lay_some ho
  obtain ⟨r, h1, h2⟩ := Option.bind_eq_some_iff.mp ho2
  obtain ⟨c, h3, h4⟩ := Option.bind_eq_some_iff.mp h1
  obtain rfl := pn_impl_caught_some h3
  obtain ⟨hp, rfl⟩ := under_some h4
  obtain ⟨N, hN⟩ := p_impl_caught c a.1 a.2.1 a.2.2 hp
  refine ⟨N, ?_⟩
  rw [callR_G 2 4 c_impl_caught _ (e_impl_caught a) ⟨rfl, rfl, rfl⟩]
  refine (congrArg (fun z : Option XOut => z.bind _) (impl_caught_g ⟨G44, [0, 64], [0, 64], [(0, .box), (64, .box)], N, [], none, fun _ _ => none, some⟩ ⟨rfl, rfl, rfl, rfl, rfl, fun _ => rfl, fun _ => rfl⟩ c a.1 a.2.1 a.2.2)).trans ?_
  show ((impl_caught_f N c a.1 a.2.1 a.2.2).bind _).bind _ = _
  rw [hN]; exact h2
-- loop.example/s02135/impl.Dyad
noncomputable def S_impl_Dyad (a0 : Int) (a1_Shape : List Int) (a1_Data : List Int) (a2_Shape : List Int) (a2_Data : List Int) : Option (List Int × List Int × Int) := under (pre_impl_Dyad a0 a1_Shape a1_Data a2_Shape a2_Data) (s_impl_Dyad a0 a1_Shape a1_Data a2_Shape a2_Data)
def e_impl_Dyad (a : Int × (List Int) × (List Int) × (List Int) × (List Int)) : List X := [.d (.int .i64 a.1), .agg [.d (lstT cI a.2.1), .d (lstT cI a.2.2.1)], .agg [.d (lstT cI a.2.2.2.1), .d (lstT cI a.2.2.2.2)]]
noncomputable def C_impl_Dyad : List X → Option XOut := lay e_impl_Dyad fun a => ((S_impl_Dyad a.1 a.2.1 a.2.2.1 a.2.2.2.1 a.2.2.2.2)).bind fun r => some (.ret (.tup [.agg [ownT (cI) 3 none false r.1, ownT (cI) 3 none false r.2.1], .d (.int .i64 r.2.2)]) [])
theorem C_impl_Dyad_eq (a0 : Int) (a1_Shape : List Int) (a1_Data : List Int) (a2_Shape : List Int) (a2_Data : List Int) : C_impl_Dyad [.d (.int .i64 a0), .agg [.d (lstT cI a1_Shape), .d (lstT cI a1_Data)], .agg [.d (lstT cI a2_Shape), .d (lstT cI a2_Data)]] = ((S_impl_Dyad a0 a1_Shape a1_Data a2_Shape a2_Data)).bind fun r => some (.ret (.tup [.agg [ownT (cI) 3 none false r.1, ownT (cI) 3 none false r.2.1], .d (.int .i64 r.2.2)]) []) := lay_eq (enc := e_impl_Dyad) (by
  intro a b h
  simp only [e_impl_Dyad, List.cons.injEq, X.d.injEq, X.agg.injEq, X.box.injEq, D.int.injEq, D.bool.injEq, D.fn.injEq, sD_inj, lstT_inj, ownT_inj, and_true, true_and, and_assoc] at h
  simp only [Prod.ext_iff]; exact h) (a0, a1_Shape, a1_Data, a2_Shape, a2_Data)
noncomputable def G45 : Ctx := G44.with 16 C_impl_Dyad
theorem so45 : SoundAll Try.prog G45 := by
  refine layerD' (cuts := []) (k := 3) (A := c_impl_Dyad) (B := d_impl_Dyad) (da := da_impl_Dyad) (keep := kp_impl_Dyad) (rs := r_impl_Dyad) (enc := e_impl_Dyad) mixed so44 sd_impl_caught Try.func16 (by kernel_rfl) (by kernel_rfl) (by kernel_rfl) (by kernel_rfl) (by kernel_rfl) (by kernel_rfl) (by kernel_rfl) (by kernel_rfl) (wk := fun y => nocap (asOwn (.node [.node [.own 3 1, .own 3 1], .k]) y)) (Same.comp Same.nocap (Same.own (.node [.node [.own 3 1, .own 3 1], .k]))) ?_
  intro a out ho
  obtain ⟨r, h1, h2⟩ := Option.bind_eq_some_iff.mp ho
  obtain ⟨hp, rfl⟩ := under_some h1
  obtain ⟨N, hN⟩ := p_impl_Dyad S_impl_reshaped (fun _ _ _ _ h => under_pos h) S_impl_taken (fun _ _ _ _ h => under_pos h) S_impl_dropped (fun _ _ _ _ h => under_pos h) S_impl_catenated (fun _ _ _ _ h => under_pos h) S_impl_picked (fun _ _ _ _ h => under_pos h) S_impl_found (fun _ _ _ _ h => under_pos h) S_impl_Dyad_1 (fun _ _ _ _ h => under_pos h) S_impl_ArrayOk (fun _ _ h => under_pos h) S_impl_caught (fun x a0 a1_Shape a1_Data h => (S_impl_caught_eq x a0 a1_Shape a1_Data).trans (under_pos h)) a.1 a.2.1 a.2.2.1 a.2.2.2.1 a.2.2.2.2 hp
  refine ⟨N, ?_⟩
  refine ((callFD_G (FD := FD_impl_caught) (fun y => some (nocap (asOwn (.node [.node [.own 3 1, .own 3 1], .k]) y))) 3 c_impl_Dyad da_impl_Dyad kp_impl_Dyad d_impl_Dyad r_impl_Dyad (e_impl_Dyad a) ⟨rfl, rfl, rfl⟩).trans (impl_Dyad_g ⟨G44, [], [], [], N, r_impl_Dyad, none, FD_impl_caught, fun y => some (nocap (asOwn (.node [.node [.own 3 1, .own 3 1], .k]) y))⟩ ⟨rfl, rfl, rfl, rfl, rfl, fun _ => rfl, fun _ => rfl⟩ S_impl_reshaped ⟨rfl, (fun a0_Shape a0_Data a1_Shape a1_Data => (show G44 46 _ = _ from rfl).trans (C_impl_reshaped_eq a0_Shape a0_Data a1_Shape a1_Data))⟩ S_impl_taken ⟨rfl, (fun a0_Shape a0_Data a1_Shape a1_Data => (show G44 47 _ = _ from rfl).trans (C_impl_taken_eq a0_Shape a0_Data a1_Shape a1_Data))⟩ S_impl_dropped ⟨rfl, (fun a0_Shape a0_Data a1_Shape a1_Data => (show G44 48 _ = _ from rfl).trans (C_impl_dropped_eq a0_Shape a0_Data a1_Shape a1_Data))⟩ S_impl_catenated ⟨rfl, (fun a0_Shape a0_Data a1_Shape a1_Data => (show G44 49 _ = _ from rfl).trans (C_impl_catenated_eq a0_Shape a0_Data a1_Shape a1_Data))⟩ S_impl_picked ⟨rfl, (fun a0_Shape a0_Data a1_Shape a1_Data => (show G44 50 _ = _ from rfl).trans (C_impl_picked_eq a0_Shape a0_Data a1_Shape a1_Data))⟩ S_impl_found ⟨rfl, (fun a0_Shape a0_Data a1_Shape a1_Data => (show G44 51 _ = _ from rfl).trans (C_impl_found_eq a0_Shape a0_Data a1_Shape a1_Data))⟩ S_impl_Dyad_1 ⟨rfl, (fun a0_Shape a0_Data a1_Shape a1_Data => (show G44 52 _ = _ from rfl).trans (C_impl_Dyad_1_eq a0_Shape a0_Data a1_Shape a1_Data))⟩ S_impl_ArrayOk ⟨rfl, (fun a0_Shape a0_Data => (show G44 56 _ = _ from rfl).trans (C_impl_ArrayOk_eq a0_Shape a0_Data))⟩ S_impl_caught (fun x a0 a1_Shape a1_Data => FD_impl_caught_eq x a0 a1_Shape a1_Data) a.1 a.2.1 a.2.2.1 a.2.2.2.1 a.2.2.2.2)).trans ?_
  show (impl_Dyad_f S_impl_reshaped S_impl_taken S_impl_dropped S_impl_catenated S_impl_picked S_impl_found S_impl_Dyad_1 S_impl_ArrayOk S_impl_caught N a.1 a.2.1 a.2.2.1 a.2.2.2.1 a.2.2.2.2).bind _ = _
  rw [hN]; exact h2
-- loop.example/s02135/laws.eqIntS
noncomputable def S_laws_eqIntS (a0 : List Int) (a1 : List Int) : Option (Bool) := under (pre_laws_eqIntS a0 a1) (s_laws_eqIntS a0 a1)
def e_laws_eqIntS (a : (List Int) × (List Int)) : List X := [.d (lstT cI a.1), .d (lstT cI a.2)]
noncomputable def C_laws_eqIntS : List X → Option XOut := lay e_laws_eqIntS fun a => ((S_laws_eqIntS a.1 a.2)).bind fun r => some (.ret (.d (.bool r)) [])
theorem C_laws_eqIntS_eq (a0 : List Int) (a1 : List Int) : C_laws_eqIntS [.d (lstT cI a0), .d (lstT cI a1)] = ((S_laws_eqIntS a0 a1)).bind fun r => some (.ret (.d (.bool r)) []) := lay_eq (enc := e_laws_eqIntS) (by
  intro a b h
  simp only [e_laws_eqIntS, List.cons.injEq, X.d.injEq, X.agg.injEq, X.box.injEq, D.int.injEq, D.bool.injEq, D.fn.injEq, sD_inj, lstT_inj, ownT_inj, and_true, true_and, and_assoc] at h
  simp only [Prod.ext_iff]; exact h) (a0, a1)
noncomputable def G46 : Ctx := G45.with 58 C_laws_eqIntS
theorem so46 : SoundAll Try.prog G46 := by
  refine layer (cuts := []) (k := 2) (cd := c_laws_eqIntS) (rs := r_laws_eqIntS) (enc := e_laws_eqIntS) mixed so45 Try.func58 (by kernel_rfl) (by kernel_rfl) (by kernel_rfl) (by kernel_rfl) (by kernel_rfl) (by kernel_rfl) (wk := fun y => nocap y) Same.nocap ?_
  intro a out ho
  obtain ⟨r, h1, h2⟩ := Option.bind_eq_some_iff.mp ho
  obtain ⟨hp, rfl⟩ := under_some h1
  obtain ⟨N, hN⟩ := p_laws_eqIntS a.1 a.2 hp
  refine ⟨N, ?_⟩
  refine ((callF_G (fun y => some (nocap y)) 2 c_laws_eqIntS r_laws_eqIntS (e_laws_eqIntS a) ⟨rfl, rfl, rfl⟩).trans (laws_eqIntS_g ⟨G45, [], [], [], N, r_laws_eqIntS, none, fun _ _ => none, fun y => some (nocap y)⟩ ⟨rfl, rfl, rfl, rfl, rfl, fun _ => rfl, fun _ => rfl⟩ a.1 a.2)).trans ?_
  show (laws_eqIntS_f N a.1 a.2).bind _ = _
  rw [hN]; exact h2
-- loop.example/s02135/laws.eqArray
noncomputable def S_laws_eqArray (a0_Shape : List Int) (a0_Data : List Int) (a1_Shape : List Int) (a1_Data : List Int) : Option (Bool) := under (pre_laws_eqArray a0_Shape a0_Data a1_Shape a1_Data) (s_laws_eqArray a0_Shape a0_Data a1_Shape a1_Data)
def e_laws_eqArray (a : (List Int) × (List Int) × (List Int) × (List Int)) : List X := [.agg [.d (lstT cI a.1), .d (lstT cI a.2.1)], .agg [.d (lstT cI a.2.2.1), .d (lstT cI a.2.2.2)]]
noncomputable def C_laws_eqArray : List X → Option XOut := lay e_laws_eqArray fun a => ((S_laws_eqArray a.1 a.2.1 a.2.2.1 a.2.2.2)).bind fun r => some (.ret (.d (.bool r)) [])
theorem C_laws_eqArray_eq (a0_Shape : List Int) (a0_Data : List Int) (a1_Shape : List Int) (a1_Data : List Int) : C_laws_eqArray [.agg [.d (lstT cI a0_Shape), .d (lstT cI a0_Data)], .agg [.d (lstT cI a1_Shape), .d (lstT cI a1_Data)]] = ((S_laws_eqArray a0_Shape a0_Data a1_Shape a1_Data)).bind fun r => some (.ret (.d (.bool r)) []) := lay_eq (enc := e_laws_eqArray) (by
  intro a b h
  simp only [e_laws_eqArray, List.cons.injEq, X.d.injEq, X.agg.injEq, X.box.injEq, D.int.injEq, D.bool.injEq, D.fn.injEq, sD_inj, lstT_inj, ownT_inj, and_true, true_and, and_assoc] at h
  simp only [Prod.ext_iff]; exact h) (a0_Shape, a0_Data, a1_Shape, a1_Data)
noncomputable def G47 : Ctx := G46.with 17 C_laws_eqArray
theorem so47 : SoundAll Try.prog G47 := by
  refine layer (cuts := []) (k := 2) (cd := c_laws_eqArray) (rs := r_laws_eqArray) (enc := e_laws_eqArray) mixed so46 Try.func17 (by kernel_rfl) (by kernel_rfl) (by kernel_rfl) (by kernel_rfl) (by kernel_rfl) (by kernel_rfl) (wk := fun y => nocap y) Same.nocap ?_
  intro a out ho
  obtain ⟨r, h1, h2⟩ := Option.bind_eq_some_iff.mp ho
  obtain ⟨hp, rfl⟩ := under_some h1
  obtain ⟨N, hN⟩ := p_laws_eqArray S_laws_eqIntS (fun _ _ h => under_pos h) a.1 a.2.1 a.2.2.1 a.2.2.2 hp
  refine ⟨N, ?_⟩
  refine ((callF_G (fun y => some (nocap y)) 2 c_laws_eqArray r_laws_eqArray (e_laws_eqArray a) ⟨rfl, rfl, rfl⟩).trans (laws_eqArray_g ⟨G46, [], [], [], N, r_laws_eqArray, none, fun _ _ => none, fun y => some (nocap y)⟩ ⟨rfl, rfl, rfl, rfl, rfl, fun _ => rfl, fun _ => rfl⟩ S_laws_eqIntS ⟨rfl, (fun a0 a1 => (show G46 58 _ = _ from rfl).trans (C_laws_eqIntS_eq a0 a1))⟩ a.1 a.2.1 a.2.2.1 a.2.2.2)).trans ?_
  show (laws_eqArray_f S_laws_eqIntS N a.1 a.2.1 a.2.2.1 a.2.2.2).bind _ = _
  rw [hN]; exact h2
-- loop.example/s02135/laws.markIntS
noncomputable def S_laws_markIntS (a0 : List Int) (a1 : Int) : Option (Int × List Int) := under (pre_laws_markIntS a0 a1) (s_laws_markIntS a0 a1)
def e_laws_markIntS (a : (List Int) × Int) : List X := [ownT cI 3 none false a.1, .d (.int .i64 a.2)]
noncomputable def C_laws_markIntS : List X → Option XOut := lay e_laws_markIntS fun a => ((S_laws_markIntS a.1 a.2)).bind fun r => some (.ret (.d (.int .i64 r.1)) [[lstT (cI) r.2]])
theorem C_laws_markIntS_eq (a0 : List Int) (a1 : Int) : C_laws_markIntS [ownT cI 3 none false a0, .d (.int .i64 a1)] = ((S_laws_markIntS a0 a1)).bind fun r => some (.ret (.d (.int .i64 r.1)) [[lstT (cI) r.2]]) := lay_eq (enc := e_laws_markIntS) (by
  intro a b h
  simp only [e_laws_markIntS, List.cons.injEq, X.d.injEq, X.agg.injEq, X.box.injEq, D.int.injEq, D.bool.injEq, D.fn.injEq, sD_inj, lstT_inj, ownT_inj, and_true, true_and, and_assoc] at h
  simp only [Prod.ext_iff]; exact h) (a0, a1)
noncomputable def G48 : Ctx := G47.with 59 C_laws_markIntS true
theorem so48 : SoundAll Try.prog G48 := by
  refine layer (cuts := []) (k := 2) (cd := c_laws_markIntS) (rs := r_laws_markIntS) (enc := e_laws_markIntS) mixed so47 Try.func59 (by kernel_rfl) (by kernel_rfl) (by kernel_rfl) (by kernel_rfl) (by kernel_rfl) (by kernel_rfl) (wk := fun y => nocap y) Same.nocap ?_
  intro a out ho
  obtain ⟨r, h1, h2⟩ := Option.bind_eq_some_iff.mp ho
  obtain ⟨hp, rfl⟩ := under_some h1
  obtain ⟨N, hN⟩ := p_laws_markIntS a.1 a.2 hp
  refine ⟨N, ?_⟩
  refine ((callF_G (fun y => some (nocap y)) 2 c_laws_markIntS r_laws_markIntS (e_laws_markIntS a) ⟨rfl, rfl, rfl⟩).trans (laws_markIntS_g ⟨G47, [0], [0], [(0, .row 3 1)], N, r_laws_markIntS, none, fun _ _ => none, fun y => some (nocap y)⟩ ⟨rfl, rfl, rfl, rfl, rfl, fun _ => rfl, fun _ => rfl⟩ a.1 a.2)).trans ?_
  show (laws_markIntS_f N a.1 a.2).bind _ = _
  rw [hN]; exact h2
-- loop.example/s02135/laws.markArray
noncomputable def S_laws_markArray (a0_Shape : List Int) (a0_Data : List Int) (a1 : Int) : Option (Int × List Int × List Int) := under (pre_laws_markArray a0_Shape a0_Data a1) (s_laws_markArray a0_Shape a0_Data a1)
def e_laws_markArray (a : (List Int) × (List Int) × Int) : List X := [.agg [ownT cI 3 none false a.1, ownT cI 3 none false a.2.1], .d (.int .i64 a.2.2)]
noncomputable def C_laws_markArray : List X → Option XOut := lay e_laws_markArray fun a => ((S_laws_markArray a.1 a.2.1 a.2.2)).bind fun r => some (.ret (.d (.int .i64 r.1)) [[lstT (cI) r.2.1], [lstT (cI) r.2.2]])
theorem C_laws_markArray_eq (a0_Shape : List Int) (a0_Data : List Int) (a1 : Int) : C_laws_markArray [.agg [ownT cI 3 none false a0_Shape, ownT cI 3 none false a0_Data], .d (.int .i64 a1)] = ((S_laws_markArray a0_Shape a0_Data a1)).bind fun r => some (.ret (.d (.int .i64 r.1)) [[lstT (cI) r.2.1], [lstT (cI) r.2.2]]) := lay_eq (enc := e_laws_markArray) (by
  intro a b h
  simp only [e_laws_markArray, List.cons.injEq, X.d.injEq, X.agg.injEq, X.box.injEq, D.int.injEq, D.bool.injEq, D.fn.injEq, sD_inj, lstT_inj, ownT_inj, and_true, true_and, and_assoc] at h
  simp only [Prod.ext_iff]; exact h) (a0_Shape, a0_Data, a1)
noncomputable def G49 : Ctx := G48.with 18 C_laws_markArray true
theorem so49 : SoundAll Try.prog G49 := by
  refine layer (cuts := []) (k := 2) (cd := c_laws_markArray) (rs := r_laws_markArray) (enc := e_laws_markArray) mixed so48 Try.func18 (by kernel_rfl) (by kernel_rfl) (by kernel_rfl) (by kernel_rfl) (by kernel_rfl) (by kernel_rfl) (wk := fun y => nocap y) Same.nocap ?_
  intro a out ho
  obtain ⟨r, h1, h2⟩ := Option.bind_eq_some_iff.mp ho
  obtain ⟨hp, rfl⟩ := under_some h1
  obtain ⟨N, hN⟩ := p_laws_markArray S_laws_markIntS (fun _ _ h => under_pos h) a.1 a.2.1 a.2.2 hp
  refine ⟨N, ?_⟩
  refine ((callF_G (fun y => some (nocap y)) 2 c_laws_markArray r_laws_markArray (e_laws_markArray a) ⟨rfl, rfl, rfl⟩).trans (laws_markArray_g ⟨G48, [0, 1], [0, 1], [(0, .row 3 1), (1, .row 3 1)], N, r_laws_markArray, none, fun _ _ => none, fun y => some (nocap y)⟩ ⟨rfl, rfl, rfl, rfl, rfl, fun _ => rfl, fun _ => rfl⟩ S_laws_markIntS ⟨rfl, (fun a0 a1 => (show G48 59 _ = _ from rfl).trans (C_laws_markIntS_eq a0 a1))⟩ a.1 a.2.1 a.2.2)).trans ?_
  show (laws_markArray_f S_laws_markIntS N a.1 a.2.1 a.2.2).bind _ = _
  rw [hN]; exact h2
-- loop.example/s02135/laws.heldIntS
noncomputable def S_laws_heldIntS (a0 : List Int) (a1 : Int) : Option (Int) := under (pre_laws_heldIntS a0 a1) (s_laws_heldIntS a0 a1)
def e_laws_heldIntS (a : (List Int) × Int) : List X := [.d (lstT cI a.1), .d (.int .i64 a.2)]
noncomputable def C_laws_heldIntS : List X → Option XOut := lay e_laws_heldIntS fun a => ((S_laws_heldIntS a.1 a.2)).bind fun r => some (.ret (.d (.int .i64 r)) [])
theorem C_laws_heldIntS_eq (a0 : List Int) (a1 : Int) : C_laws_heldIntS [.d (lstT cI a0), .d (.int .i64 a1)] = ((S_laws_heldIntS a0 a1)).bind fun r => some (.ret (.d (.int .i64 r)) []) := lay_eq (enc := e_laws_heldIntS) (by
  intro a b h
  simp only [e_laws_heldIntS, List.cons.injEq, X.d.injEq, X.agg.injEq, X.box.injEq, D.int.injEq, D.bool.injEq, D.fn.injEq, sD_inj, lstT_inj, ownT_inj, and_true, true_and, and_assoc] at h
  simp only [Prod.ext_iff]; exact h) (a0, a1)
noncomputable def G50 : Ctx := G49.with 60 C_laws_heldIntS
theorem so50 : SoundAll Try.prog G50 := by
  refine layer (cuts := []) (k := 2) (cd := c_laws_heldIntS) (rs := r_laws_heldIntS) (enc := e_laws_heldIntS) mixed so49 Try.func60 (by kernel_rfl) (by kernel_rfl) (by kernel_rfl) (by kernel_rfl) (by kernel_rfl) (by kernel_rfl) (wk := fun y => nocap y) Same.nocap ?_
  intro a out ho
  obtain ⟨r, h1, h2⟩ := Option.bind_eq_some_iff.mp ho
  obtain ⟨hp, rfl⟩ := under_some h1
  obtain ⟨N, hN⟩ := p_laws_heldIntS a.1 a.2 hp
  refine ⟨N, ?_⟩
  refine ((callF_G (fun y => some (nocap y)) 2 c_laws_heldIntS r_laws_heldIntS (e_laws_heldIntS a) ⟨rfl, rfl, rfl⟩).trans (laws_heldIntS_g ⟨G49, [], [], [], N, r_laws_heldIntS, none, fun _ _ => none, fun y => some (nocap y)⟩ ⟨rfl, rfl, rfl, rfl, rfl, fun _ => rfl, fun _ => rfl⟩ a.1 a.2)).trans ?_
  show (laws_heldIntS_f N a.1 a.2).bind _ = _
  rw [hN]; exact h2
-- loop.example/s02135/laws.heldArray
noncomputable def S_laws_heldArray (a0_Shape : List Int) (a0_Data : List Int) (a1 : Int) : Option (Int) := under (pre_laws_heldArray a0_Shape a0_Data a1) (s_laws_heldArray a0_Shape a0_Data a1)
def e_laws_heldArray (a : (List Int) × (List Int) × Int) : List X := [.agg [.d (lstT cI a.1), .d (lstT cI a.2.1)], .d (.int .i64 a.2.2)]
noncomputable def C_laws_heldArray : List X → Option XOut := lay e_laws_heldArray fun a => ((S_laws_heldArray a.1 a.2.1 a.2.2)).bind fun r => some (.ret (.d (.int .i64 r)) [])
theorem C_laws_heldArray_eq (a0_Shape : List Int) (a0_Data : List Int) (a1 : Int) : C_laws_heldArray [.agg [.d (lstT cI a0_Shape), .d (lstT cI a0_Data)], .d (.int .i64 a1)] = ((S_laws_heldArray a0_Shape a0_Data a1)).bind fun r => some (.ret (.d (.int .i64 r)) []) := lay_eq (enc := e_laws_heldArray) (by
  intro a b h
  simp only [e_laws_heldArray, List.cons.injEq, X.d.injEq, X.agg.injEq, X.box.injEq, D.int.injEq, D.bool.injEq, D.fn.injEq, sD_inj, lstT_inj, ownT_inj, and_true, true_and, and_assoc] at h
  simp only [Prod.ext_iff]; exact h) (a0_Shape, a0_Data, a1)
noncomputable def G51 : Ctx := G50.with 19 C_laws_heldArray
theorem so51 : SoundAll Try.prog G51 := by
  refine layer (cuts := []) (k := 2) (cd := c_laws_heldArray) (rs := r_laws_heldArray) (enc := e_laws_heldArray) mixed so50 Try.func19 (by kernel_rfl) (by kernel_rfl) (by kernel_rfl) (by kernel_rfl) (by kernel_rfl) (by kernel_rfl) (wk := fun y => nocap y) Same.nocap ?_
  intro a out ho
  obtain ⟨r, h1, h2⟩ := Option.bind_eq_some_iff.mp ho
  obtain ⟨hp, rfl⟩ := under_some h1
  obtain ⟨N, hN⟩ := p_laws_heldArray S_laws_heldIntS (fun _ _ h => under_pos h) a.1 a.2.1 a.2.2 hp
  refine ⟨N, ?_⟩
  refine ((callF_G (fun y => some (nocap y)) 2 c_laws_heldArray r_laws_heldArray (e_laws_heldArray a) ⟨rfl, rfl, rfl⟩).trans (laws_heldArray_g ⟨G50, [], [], [], N, r_laws_heldArray, none, fun _ _ => none, fun y => some (nocap y)⟩ ⟨rfl, rfl, rfl, rfl, rfl, fun _ => rfl, fun _ => rfl⟩ S_laws_heldIntS ⟨rfl, (fun a0 a1 => (show G50 60 _ = _ from rfl).trans (C_laws_heldIntS_eq a0 a1))⟩ a.1 a.2.1 a.2.2)).trans ?_
  show (laws_heldArray_f S_laws_heldIntS N a.1 a.2.1 a.2.2).bind _ = _
  rw [hN]; exact h2
-- loop.example/s02135/laws.FnExactDyad
noncomputable def S_laws_FnExactDyad (a0 : Int) (a1_Shape : List Int) (a1_Data : List Int) (a2_Shape : List Int) (a2_Data : List Int) : Option (Bool) := under (pre_laws_FnExactDyad a0 a1_Shape a1_Data a2_Shape a2_Data) (s_laws_FnExactDyad a0 a1_Shape a1_Data a2_Shape a2_Data)
def e_laws_FnExactDyad (a : Int × (List Int) × (List Int) × (List Int) × (List Int)) : List X := [.d (.int .i64 a.1), .agg [.d (lstT cI a.2.1), .d (lstT cI a.2.2.1)], .agg [.d (lstT cI a.2.2.2.1), .d (lstT cI a.2.2.2.2)]]
noncomputable def C_laws_FnExactDyad : List X → Option XOut := lay e_laws_FnExactDyad fun a => ((S_laws_FnExactDyad a.1 a.2.1 a.2.2.1 a.2.2.2.1 a.2.2.2.2)).bind fun r => some (.ret (.d (.bool r)) [])
theorem C_laws_FnExactDyad_eq (a0 : Int) (a1_Shape : List Int) (a1_Data : List Int) (a2_Shape : List Int) (a2_Data : List Int) : C_laws_FnExactDyad [.d (.int .i64 a0), .agg [.d (lstT cI a1_Shape), .d (lstT cI a1_Data)], .agg [.d (lstT cI a2_Shape), .d (lstT cI a2_Data)]] = ((S_laws_FnExactDyad a0 a1_Shape a1_Data a2_Shape a2_Data)).bind fun r => some (.ret (.d (.bool r)) []) := lay_eq (enc := e_laws_FnExactDyad) (by
  intro a b h
  simp only [e_laws_FnExactDyad, List.cons.injEq, X.d.injEq, X.agg.injEq, X.box.injEq, D.int.injEq, D.bool.injEq, D.fn.injEq, sD_inj, lstT_inj, ownT_inj, and_true, true_and, and_assoc] at h
  simp only [Prod.ext_iff]; exact h) (a0, a1_Shape, a1_Data, a2_Shape, a2_Data)
noncomputable def G52 : Ctx := G51.with 4 C_laws_FnExactDyad
theorem so52 : SoundAll Try.prog G52 := by
  refine layer (cuts := []) (k := 3) (cd := c_laws_FnExactDyad) (rs := r_laws_FnExactDyad) (enc := e_laws_FnExactDyad) mixed so51 Try.func4 (by kernel_rfl) (by kernel_rfl) (by kernel_rfl) (by kernel_rfl) (by kernel_rfl) (by kernel_rfl) (wk := fun y => nocap y) Same.nocap ?_
  intro a out ho
  obtain ⟨r, h1, h2⟩ := Option.bind_eq_some_iff.mp ho
  obtain ⟨hp, rfl⟩ := under_some h1
  obtain ⟨N, hN⟩ := p_laws_FnExactDyad S_laws_szArray (fun _ _ _ h => under_pos h) S_laws_toArray (fun _ _ h => under_pos h) S_spec_Dyad (fun _ _ _ _ _ h => under_pos h) S_impl_Dyad (fun _ _ _ _ _ h => under_pos h) S_laws_eqArray (fun _ _ _ _ h => under_pos h) S_laws_markArray (fun _ _ _ h => under_pos h) S_laws_heldArray (fun _ _ _ h => under_pos h) a.1 a.2.1 a.2.2.1 a.2.2.2.1 a.2.2.2.2 hp
  refine ⟨N, ?_⟩
  refine ((callF_G (fun y => some (nocap y)) 3 c_laws_FnExactDyad r_laws_FnExactDyad (e_laws_FnExactDyad a) ⟨rfl, rfl, rfl⟩).trans (laws_FnExactDyad_g ⟨G51, [], [], [], N, r_laws_FnExactDyad, none, fun _ _ => none, fun y => some (nocap y)⟩ ⟨rfl, rfl, rfl, rfl, rfl, fun _ => rfl, fun _ => rfl⟩ S_laws_szArray ⟨rfl, (fun a0_Shape a0_Data a1 => (show G51 13 _ = _ from rfl).trans (C_laws_szArray_eq a0_Shape a0_Data a1))⟩ S_laws_toArray ⟨rfl, (fun a0_Shape a0_Data => (show G51 15 _ = _ from rfl).trans (C_laws_toArray_eq a0_Shape a0_Data))⟩ S_spec_Dyad ⟨rfl, (fun a0 a1_Shape a1_Data a2_Shape a2_Data => (show G51 14 _ = _ from rfl).trans (C_spec_Dyad_eq a0 a1_Shape a1_Data a2_Shape a2_Data))⟩ S_impl_Dyad ⟨rfl, (fun a0 a1_Shape a1_Data a2_Shape a2_Data => (show G51 16 _ = _ from rfl).trans (C_impl_Dyad_eq a0 a1_Shape a1_Data a2_Shape a2_Data))⟩ S_laws_eqArray ⟨rfl, (fun a0_Shape a0_Data a1_Shape a1_Data => (show G51 17 _ = _ from rfl).trans (C_laws_eqArray_eq a0_Shape a0_Data a1_Shape a1_Data))⟩ S_laws_markArray ⟨rfl, (fun a0_Shape a0_Data a1 => (show G51 18 _ = _ from rfl).trans (C_laws_markArray_eq a0_Shape a0_Data a1))⟩ S_laws_heldArray ⟨rfl, (fun a0_Shape a0_Data a1 => (show G51 19 _ = _ from rfl).trans (C_laws_heldArray_eq a0_Shape a0_Data a1))⟩ a.1 a.2.1 a.2.2.1 a.2.2.2.1 a.2.2.2.2)).trans ?_
  show (laws_FnExactDyad_f S_laws_szArray S_laws_toArray S_spec_Dyad S_impl_Dyad S_laws_eqArray S_laws_markArray S_laws_heldArray N a.1 a.2.1 a.2.2.1 a.2.2.2.1 a.2.2.2.2).bind _ = _
  rw [hN]; exact h2
theorem law : Sound Try.prog 4 C_laws_FnExactDyad := by
  have h := so52 4
  exact h
end Go.Proofs.Ytbfmeoiblppnbaa.TowDyad
