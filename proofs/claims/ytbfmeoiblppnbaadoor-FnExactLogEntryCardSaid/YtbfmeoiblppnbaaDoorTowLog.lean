/- The contracts of the functions under laws_FnExactLogEntry, one upon the other. Printed by a program of this session. -/
import Derived.Test.YtbfmeoiblppnbaaDoorFLog
import Derived.Test.YtbfmeoiblppnbaaDoorPLogX
import Derived.Test.YtbfmeoiblppnbaaDoorBldA
import Derived.Test.YtbfmeoiblppnbaaDoorJoinC
import Derived.Test.YtbfmeoiblppnbaaDoorVmLayer
import Derived.Test.YtbfmeoiblppnbaaDoorProg
set_option linter.all false
set_option maxRecDepth 100000
namespace Go.Proofs.YtbfmeoiblppnbaaDoor.TowLog
open Go.Vm
variable [gl : Gl] [tb : GlTab]
theorem mixed : Tryd.prog.follows .mixedOrders = true := by kernel_rfl
noncomputable def G0 : Ctx := Γ0 flatIds
theorem so0 : SoundAll Tryd.prog G0 := Γ0_sound _ _
-- loop.example/s02135/laws.szIntS
noncomputable def S_laws_szIntS (a0 : List Int) (a1 : Int) : Option (Int) := under (pre_laws_szIntS a0 a1) (s_laws_szIntS a0 a1)
def e_laws_szIntS (a : (List Int) × Int) : List X := [.d (lstT cI a.1), .d (.int .i64 a.2)]
noncomputable def C_laws_szIntS : List X → Option XOut := lay e_laws_szIntS fun a => ((S_laws_szIntS a.1 a.2)).bind fun r => some (.ret (.d (.int .i64 r)) [])
theorem C_laws_szIntS_eq (a0 : List Int) (a1 : Int) : C_laws_szIntS [.d (lstT cI a0), .d (.int .i64 a1)] = ((S_laws_szIntS a0 a1)).bind fun r => some (.ret (.d (.int .i64 r)) []) := lay_eq (enc := e_laws_szIntS) (by
  intro a b h
  simp only [e_laws_szIntS, List.cons.injEq, X.d.injEq, X.res.injEq, RK.bld.injEq, X.agg.injEq, X.box.injEq, D.int.injEq, D.bool.injEq, D.fn.injEq, sD_inj, lstT_inj, ownT_inj, and_true, true_and, and_assoc] at h
  simp only [Prod.ext_iff]; exact h) (a0, a1)
noncomputable def G1 : Ctx := G0.with 21 C_laws_szIntS
theorem so1 : SoundAll Tryd.prog G1 := by
  refine layer (cuts := []) (k := 2) (cd := c_laws_szIntS) (rs := r_laws_szIntS) (enc := e_laws_szIntS) mixed so0 Tryd.func21 (by kernel_rfl) (by kernel_rfl) (by kernel_rfl) (by kernel_rfl) (by kernel_rfl) (by kernel_rfl) (wk := fun y => nocap y) Same.nocap ?_
  intro a out ho
  obtain ⟨r, h1, h2⟩ := Option.bind_eq_some_iff.mp ho
  obtain ⟨hp, rfl⟩ := under_some h1
  obtain ⟨N, hN⟩ := p_laws_szIntS a.1 a.2 hp
  refine ⟨N, ?_⟩
  refine ((callF_G (fun y => some (nocap y)) 2 c_laws_szIntS r_laws_szIntS (e_laws_szIntS a) ⟨rfl, rfl, rfl⟩).trans (laws_szIntS_g ⟨G0, [], [], [], N, r_laws_szIntS, none, fun _ _ => none, fun y => some (nocap y)⟩ ⟨rfl, rfl, rfl, rfl, rfl, fun _ => rfl, fun _ => rfl⟩ a.1 a.2)).trans ?_
  show (laws_szIntS_f N a.1 a.2).bind _ = _
  rw [hN]; exact h2
-- loop.example/s02135/laws.szArray
noncomputable def S_laws_szArray (a0_Shape : List Int) (a0_Data : List Int) (a1 : Int) : Option (Int) := under (pre_laws_szArray a0_Shape a0_Data a1) (s_laws_szArray a0_Shape a0_Data a1)
def e_laws_szArray (a : (List Int) × (List Int) × Int) : List X := [.agg [.d (lstT cI a.1), .d (lstT cI a.2.1)], .d (.int .i64 a.2.2)]
noncomputable def C_laws_szArray : List X → Option XOut := lay e_laws_szArray fun a => ((S_laws_szArray a.1 a.2.1 a.2.2)).bind fun r => some (.ret (.d (.int .i64 r)) [])
theorem C_laws_szArray_eq (a0_Shape : List Int) (a0_Data : List Int) (a1 : Int) : C_laws_szArray [.agg [.d (lstT cI a0_Shape), .d (lstT cI a0_Data)], .d (.int .i64 a1)] = ((S_laws_szArray a0_Shape a0_Data a1)).bind fun r => some (.ret (.d (.int .i64 r)) []) := lay_eq (enc := e_laws_szArray) (by
  intro a b h
  simp only [e_laws_szArray, List.cons.injEq, X.d.injEq, X.res.injEq, RK.bld.injEq, X.agg.injEq, X.box.injEq, D.int.injEq, D.bool.injEq, D.fn.injEq, sD_inj, lstT_inj, ownT_inj, and_true, true_and, and_assoc] at h
  simp only [Prod.ext_iff]; exact h) (a0_Shape, a0_Data, a1)
noncomputable def G2 : Ctx := G1.with 6 C_laws_szArray
theorem so2 : SoundAll Tryd.prog G2 := by
  refine layer (cuts := []) (k := 2) (cd := c_laws_szArray) (rs := r_laws_szArray) (enc := e_laws_szArray) mixed so1 Tryd.func6 (by kernel_rfl) (by kernel_rfl) (by kernel_rfl) (by kernel_rfl) (by kernel_rfl) (by kernel_rfl) (wk := fun y => nocap y) Same.nocap ?_
  intro a out ho
  obtain ⟨r, h1, h2⟩ := Option.bind_eq_some_iff.mp ho
  obtain ⟨hp, rfl⟩ := under_some h1
  obtain ⟨N, hN⟩ := p_laws_szArray S_laws_szIntS (fun _ _ h => under_pos h) a.1 a.2.1 a.2.2 hp
  refine ⟨N, ?_⟩
  refine ((callF_G (fun y => some (nocap y)) 2 c_laws_szArray r_laws_szArray (e_laws_szArray a) ⟨rfl, rfl, rfl⟩).trans (laws_szArray_g ⟨G1, [], [], [], N, r_laws_szArray, none, fun _ _ => none, fun y => some (nocap y)⟩ ⟨rfl, rfl, rfl, rfl, rfl, fun _ => rfl, fun _ => rfl⟩ S_laws_szIntS ⟨rfl, (fun a0 a1 => (show G1 21 _ = _ from rfl).trans (C_laws_szIntS_eq a0 a1))⟩ a.1 a.2.1 a.2.2)).trans ?_
  show (laws_szArray_f S_laws_szIntS N a.1 a.2.1 a.2.2).bind _ = _
  rw [hN]; exact h2
-- loop.example/s02135/laws.szOutcome
noncomputable def S_laws_szOutcome (a0_Kind : Int) (a0_Code : Int) (a0_Value_Shape : List Int) (a0_Value_Data : List Int) (a0_Fuel : Int) (a0_Cells : Int) (a1 : Int) : Option (Int) := under (pre_laws_szOutcome a0_Kind a0_Code a0_Value_Shape a0_Value_Data a0_Fuel a0_Cells a1) (s_laws_szOutcome a0_Kind a0_Code a0_Value_Shape a0_Value_Data a0_Fuel a0_Cells a1)
def e_laws_szOutcome (a : Int × Int × (List Int) × (List Int) × Int × Int × Int) : List X := [.agg [.d (.int .i64 a.1), .d (.int .i64 a.2.1), .d (lstT cI a.2.2.1), .d (lstT cI a.2.2.2.1), .d (.int .i64 a.2.2.2.2.1), .d (.int .i64 a.2.2.2.2.2.1)], .d (.int .i64 a.2.2.2.2.2.2)]
noncomputable def C_laws_szOutcome : List X → Option XOut := lay e_laws_szOutcome fun a => ((S_laws_szOutcome a.1 a.2.1 a.2.2.1 a.2.2.2.1 a.2.2.2.2.1 a.2.2.2.2.2.1 a.2.2.2.2.2.2)).bind fun r => some (.ret (.d (.int .i64 r)) [])
theorem C_laws_szOutcome_eq (a0_Kind : Int) (a0_Code : Int) (a0_Value_Shape : List Int) (a0_Value_Data : List Int) (a0_Fuel : Int) (a0_Cells : Int) (a1 : Int) : C_laws_szOutcome [.agg [.d (.int .i64 a0_Kind), .d (.int .i64 a0_Code), .d (lstT cI a0_Value_Shape), .d (lstT cI a0_Value_Data), .d (.int .i64 a0_Fuel), .d (.int .i64 a0_Cells)], .d (.int .i64 a1)] = ((S_laws_szOutcome a0_Kind a0_Code a0_Value_Shape a0_Value_Data a0_Fuel a0_Cells a1)).bind fun r => some (.ret (.d (.int .i64 r)) []) := lay_eq (enc := e_laws_szOutcome) (by
  intro a b h
  simp only [e_laws_szOutcome, List.cons.injEq, X.d.injEq, X.res.injEq, RK.bld.injEq, X.agg.injEq, X.box.injEq, D.int.injEq, D.bool.injEq, D.fn.injEq, sD_inj, lstT_inj, ownT_inj, and_true, true_and, and_assoc] at h
  simp only [Prod.ext_iff]; exact h) (a0_Kind, a0_Code, a0_Value_Shape, a0_Value_Data, a0_Fuel, a0_Cells, a1)
noncomputable def G3 : Ctx := G2.with 41 C_laws_szOutcome
theorem so3 : SoundAll Tryd.prog G3 := by
  refine layer (cuts := []) (k := 2) (cd := c_laws_szOutcome) (rs := r_laws_szOutcome) (enc := e_laws_szOutcome) mixed so2 Tryd.func41 (by kernel_rfl) (by kernel_rfl) (by kernel_rfl) (by kernel_rfl) (by kernel_rfl) (by kernel_rfl) (wk := fun y => nocap y) Same.nocap ?_
  intro a out ho
  obtain ⟨r, h1, h2⟩ := Option.bind_eq_some_iff.mp ho
  obtain ⟨hp, rfl⟩ := under_some h1
  obtain ⟨N, hN⟩ := p_laws_szOutcome S_laws_szArray (fun _ _ _ h => under_pos h) a.1 a.2.1 a.2.2.1 a.2.2.2.1 a.2.2.2.2.1 a.2.2.2.2.2.1 a.2.2.2.2.2.2 hp
  refine ⟨N, ?_⟩
  refine ((callF_G (fun y => some (nocap y)) 2 c_laws_szOutcome r_laws_szOutcome (e_laws_szOutcome a) ⟨rfl, rfl, rfl⟩).trans (laws_szOutcome_g ⟨G2, [], [], [], N, r_laws_szOutcome, none, fun _ _ => none, fun y => some (nocap y)⟩ ⟨rfl, rfl, rfl, rfl, rfl, fun _ => rfl, fun _ => rfl⟩ S_laws_szArray ⟨rfl, (fun a0_Shape a0_Data a1 => (show G2 6 _ = _ from rfl).trans (C_laws_szArray_eq a0_Shape a0_Data a1))⟩ a.1 a.2.1 a.2.2.1 a.2.2.2.1 a.2.2.2.2.1 a.2.2.2.2.2.1 a.2.2.2.2.2.2)).trans ?_
  show (laws_szOutcome_f S_laws_szArray N a.1 a.2.1 a.2.2.1 a.2.2.2.1 a.2.2.2.2.1 a.2.2.2.2.2.1 a.2.2.2.2.2.2).bind _ = _
  rw [hN]; exact h2
-- loop.example/s02135/laws.szOutcomeS
noncomputable def S_laws_szOutcomeS (a0 : List TOutcome) (a1 : Int) : Option (Int) := under (pre_laws_szOutcomeS a0 a1) (s_laws_szOutcomeS a0 a1)
def e_laws_szOutcomeS (a : (List TOutcome) × Int) : List X := [.d (lstT cOutcome a.1), .d (.int .i64 a.2)]
noncomputable def C_laws_szOutcomeS : List X → Option XOut := lay e_laws_szOutcomeS fun a => ((S_laws_szOutcomeS a.1 a.2)).bind fun r => some (.ret (.d (.int .i64 r)) [])
theorem C_laws_szOutcomeS_eq (a0 : List TOutcome) (a1 : Int) : C_laws_szOutcomeS [.d (lstT cOutcome a0), .d (.int .i64 a1)] = ((S_laws_szOutcomeS a0 a1)).bind fun r => some (.ret (.d (.int .i64 r)) []) := lay_eq (enc := e_laws_szOutcomeS) (by
  intro a b h
  simp only [e_laws_szOutcomeS, List.cons.injEq, X.d.injEq, X.res.injEq, RK.bld.injEq, X.agg.injEq, X.box.injEq, D.int.injEq, D.bool.injEq, D.fn.injEq, sD_inj, lstT_inj, ownT_inj, and_true, true_and, and_assoc] at h
  simp only [Prod.ext_iff]; exact h) (a0, a1)
noncomputable def G4 : Ctx := G3.with 16 C_laws_szOutcomeS
theorem so4 : SoundAll Tryd.prog G4 := by
  refine layer (cuts := []) (k := 2) (cd := c_laws_szOutcomeS) (rs := r_laws_szOutcomeS) (enc := e_laws_szOutcomeS) mixed so3 Tryd.func16 (by kernel_rfl) (by kernel_rfl) (by kernel_rfl) (by kernel_rfl) (by kernel_rfl) (by kernel_rfl) (wk := fun y => nocap y) Same.nocap ?_
  intro a out ho
  obtain ⟨r, h1, h2⟩ := Option.bind_eq_some_iff.mp ho
  obtain ⟨hp, rfl⟩ := under_some h1
  obtain ⟨N, hN⟩ := p_laws_szOutcomeS S_laws_szOutcome (fun _ _ _ _ _ _ _ h => under_pos h) a.1 a.2 hp
  refine ⟨N, ?_⟩
  refine ((callF_G (fun y => some (nocap y)) 2 c_laws_szOutcomeS r_laws_szOutcomeS (e_laws_szOutcomeS a) ⟨rfl, rfl, rfl⟩).trans (laws_szOutcomeS_g ⟨G3, [], [], [], N, r_laws_szOutcomeS, none, fun _ _ => none, fun y => some (nocap y)⟩ ⟨rfl, rfl, rfl, rfl, rfl, fun _ => rfl, fun _ => rfl⟩ S_laws_szOutcome ⟨rfl, (fun a0_Kind a0_Code a0_Value_Shape a0_Value_Data a0_Fuel a0_Cells a1 => (show G3 41 _ = _ from rfl).trans (C_laws_szOutcome_eq a0_Kind a0_Code a0_Value_Shape a0_Value_Data a0_Fuel a0_Cells a1))⟩ a.1 a.2)).trans ?_
  show (laws_szOutcomeS_f S_laws_szOutcome N a.1 a.2).bind _ = _
  rw [hN]; exact h2
-- loop.example/s02135/laws.toIntS
noncomputable def S_laws_toIntS (a0 : List Int) : Option (List Int) := under (pre_laws_toIntS a0) (s_laws_toIntS a0)
def e_laws_toIntS (a : (List Int)) : List X := [.d (lstT cI a)]
noncomputable def C_laws_toIntS : List X → Option XOut := lay e_laws_toIntS fun a => ((S_laws_toIntS a)).bind fun r => some (.ret (ownT (cI) 3 none false r) [])
theorem C_laws_toIntS_eq (a0 : List Int) : C_laws_toIntS [.d (lstT cI a0)] = ((S_laws_toIntS a0)).bind fun r => some (.ret (ownT (cI) 3 none false r) []) := lay_eq (enc := e_laws_toIntS) (by
  intro a b h
  simp only [e_laws_toIntS, List.cons.injEq, X.d.injEq, X.res.injEq, RK.bld.injEq, X.agg.injEq, X.box.injEq, D.int.injEq, D.bool.injEq, D.fn.injEq, sD_inj, lstT_inj, ownT_inj, and_true, true_and, and_assoc] at h
  exact h) a0
noncomputable def G5 : Ctx := G4.with 24 C_laws_toIntS
theorem so5 : SoundAll Tryd.prog G5 := by
  refine layer (cuts := []) (k := 1) (cd := c_laws_toIntS) (rs := r_laws_toIntS) (enc := e_laws_toIntS) mixed so4 Tryd.func24 (by kernel_rfl) (by kernel_rfl) (by kernel_rfl) (by kernel_rfl) (by kernel_rfl) (by kernel_rfl) (wk := fun y => nocap y) Same.nocap ?_
  intro a out ho
  obtain ⟨r, h1, h2⟩ := Option.bind_eq_some_iff.mp ho
  obtain ⟨hp, rfl⟩ := under_some h1
  obtain ⟨N, hN⟩ := p_laws_toIntS a hp
  refine ⟨N, ?_⟩
  refine ((callF_G (fun y => some (nocap y)) 1 c_laws_toIntS r_laws_toIntS (e_laws_toIntS a) ⟨rfl, rfl, rfl⟩).trans (laws_toIntS_g ⟨G4, [], [], [], N, r_laws_toIntS, none, fun _ _ => none, fun y => some (nocap y)⟩ ⟨rfl, rfl, rfl, rfl, rfl, fun _ => rfl, fun _ => rfl⟩ a)).trans ?_
  show (laws_toIntS_f N a).bind _ = _
  rw [hN]; exact h2
-- loop.example/s02135/laws.toArray
noncomputable def S_laws_toArray (a0_Shape : List Int) (a0_Data : List Int) : Option (List Int × List Int) := under (pre_laws_toArray a0_Shape a0_Data) (s_laws_toArray a0_Shape a0_Data)
def e_laws_toArray (a : (List Int) × (List Int)) : List X := [.agg [.d (lstT cI a.1), .d (lstT cI a.2)]]
noncomputable def C_laws_toArray : List X → Option XOut := lay e_laws_toArray fun a => ((S_laws_toArray a.1 a.2)).bind fun r => some (.ret (.agg [ownT (cI) 3 none false r.1, ownT (cI) 3 none false r.2]) [])
theorem C_laws_toArray_eq (a0_Shape : List Int) (a0_Data : List Int) : C_laws_toArray [.agg [.d (lstT cI a0_Shape), .d (lstT cI a0_Data)]] = ((S_laws_toArray a0_Shape a0_Data)).bind fun r => some (.ret (.agg [ownT (cI) 3 none false r.1, ownT (cI) 3 none false r.2]) []) := lay_eq (enc := e_laws_toArray) (by
  intro a b h
  simp only [e_laws_toArray, List.cons.injEq, X.d.injEq, X.res.injEq, RK.bld.injEq, X.agg.injEq, X.box.injEq, D.int.injEq, D.bool.injEq, D.fn.injEq, sD_inj, lstT_inj, ownT_inj, and_true, true_and, and_assoc] at h
  simp only [Prod.ext_iff]; exact h) (a0_Shape, a0_Data)
noncomputable def G6 : Ctx := G5.with 8 C_laws_toArray
theorem so6 : SoundAll Tryd.prog G6 := by
  refine layer (cuts := []) (k := 1) (cd := c_laws_toArray) (rs := r_laws_toArray) (enc := e_laws_toArray) mixed so5 Tryd.func8 (by kernel_rfl) (by kernel_rfl) (by kernel_rfl) (by kernel_rfl) (by kernel_rfl) (by kernel_rfl) (wk := fun y => nocap y) Same.nocap ?_
  intro a out ho
  obtain ⟨r, h1, h2⟩ := Option.bind_eq_some_iff.mp ho
  obtain ⟨hp, rfl⟩ := under_some h1
  obtain ⟨N, hN⟩ := p_laws_toArray S_laws_toIntS (fun _ h => under_pos h) a.1 a.2 hp
  refine ⟨N, ?_⟩
  refine ((callF_G (fun y => some (nocap y)) 1 c_laws_toArray r_laws_toArray (e_laws_toArray a) ⟨rfl, rfl, rfl⟩).trans (laws_toArray_g ⟨G5, [], [], [], N, r_laws_toArray, none, fun _ _ => none, fun y => some (nocap y)⟩ ⟨rfl, rfl, rfl, rfl, rfl, fun _ => rfl, fun _ => rfl⟩ S_laws_toIntS ⟨rfl, (fun a0 => (show G5 24 _ = _ from rfl).trans (C_laws_toIntS_eq a0))⟩ a.1 a.2)).trans ?_
  show (laws_toArray_f S_laws_toIntS N a.1 a.2).bind _ = _
  rw [hN]; exact h2
-- loop.example/s02135/laws.toOutcome
noncomputable def S_laws_toOutcome (a0_Kind : Int) (a0_Code : Int) (a0_Value_Shape : List Int) (a0_Value_Data : List Int) (a0_Fuel : Int) (a0_Cells : Int) : Option (Int × Int × List Int × List Int × Int × Int) := under (pre_laws_toOutcome a0_Kind a0_Code a0_Value_Shape a0_Value_Data a0_Fuel a0_Cells) (s_laws_toOutcome a0_Kind a0_Code a0_Value_Shape a0_Value_Data a0_Fuel a0_Cells)
def e_laws_toOutcome (a : Int × Int × (List Int) × (List Int) × Int × Int) : List X := [.agg [.d (.int .i64 a.1), .d (.int .i64 a.2.1), .d (lstT cI a.2.2.1), .d (lstT cI a.2.2.2.1), .d (.int .i64 a.2.2.2.2.1), .d (.int .i64 a.2.2.2.2.2)]]
noncomputable def C_laws_toOutcome : List X → Option XOut := lay e_laws_toOutcome fun a => ((S_laws_toOutcome a.1 a.2.1 a.2.2.1 a.2.2.2.1 a.2.2.2.2.1 a.2.2.2.2.2)).bind fun r => some (.ret (.agg [.d (.int .i64 r.1), .d (.int .i64 r.2.1), ownT (cI) 3 none false r.2.2.1, ownT (cI) 3 none false r.2.2.2.1, .d (.int .i64 r.2.2.2.2.1), .d (.int .i64 r.2.2.2.2.2)]) [])
theorem C_laws_toOutcome_eq (a0_Kind : Int) (a0_Code : Int) (a0_Value_Shape : List Int) (a0_Value_Data : List Int) (a0_Fuel : Int) (a0_Cells : Int) : C_laws_toOutcome [.agg [.d (.int .i64 a0_Kind), .d (.int .i64 a0_Code), .d (lstT cI a0_Value_Shape), .d (lstT cI a0_Value_Data), .d (.int .i64 a0_Fuel), .d (.int .i64 a0_Cells)]] = ((S_laws_toOutcome a0_Kind a0_Code a0_Value_Shape a0_Value_Data a0_Fuel a0_Cells)).bind fun r => some (.ret (.agg [.d (.int .i64 r.1), .d (.int .i64 r.2.1), ownT (cI) 3 none false r.2.2.1, ownT (cI) 3 none false r.2.2.2.1, .d (.int .i64 r.2.2.2.2.1), .d (.int .i64 r.2.2.2.2.2)]) []) := lay_eq (enc := e_laws_toOutcome) (by
  intro a b h
  simp only [e_laws_toOutcome, List.cons.injEq, X.d.injEq, X.res.injEq, RK.bld.injEq, X.agg.injEq, X.box.injEq, D.int.injEq, D.bool.injEq, D.fn.injEq, sD_inj, lstT_inj, ownT_inj, and_true, true_and, and_assoc] at h
  simp only [Prod.ext_iff]; exact h) (a0_Kind, a0_Code, a0_Value_Shape, a0_Value_Data, a0_Fuel, a0_Cells)
noncomputable def G7 : Ctx := G6.with 42 C_laws_toOutcome
theorem so7 : SoundAll Tryd.prog G7 := by
  refine layer (cuts := []) (k := 1) (cd := c_laws_toOutcome) (rs := r_laws_toOutcome) (enc := e_laws_toOutcome) mixed so6 Tryd.func42 (by kernel_rfl) (by kernel_rfl) (by kernel_rfl) (by kernel_rfl) (by kernel_rfl) (by kernel_rfl) (wk := fun y => nocap y) Same.nocap ?_
  intro a out ho
  obtain ⟨r, h1, h2⟩ := Option.bind_eq_some_iff.mp ho
  obtain ⟨hp, rfl⟩ := under_some h1
  obtain ⟨N, hN⟩ := p_laws_toOutcome S_laws_toArray (fun _ _ h => under_pos h) a.1 a.2.1 a.2.2.1 a.2.2.2.1 a.2.2.2.2.1 a.2.2.2.2.2 hp
  refine ⟨N, ?_⟩
  refine ((callF_G (fun y => some (nocap y)) 1 c_laws_toOutcome r_laws_toOutcome (e_laws_toOutcome a) ⟨rfl, rfl, rfl⟩).trans (laws_toOutcome_g ⟨G6, [], [], [], N, r_laws_toOutcome, none, fun _ _ => none, fun y => some (nocap y)⟩ ⟨rfl, rfl, rfl, rfl, rfl, fun _ => rfl, fun _ => rfl⟩ S_laws_toArray ⟨rfl, (fun a0_Shape a0_Data => (show G6 8 _ = _ from rfl).trans (C_laws_toArray_eq a0_Shape a0_Data))⟩ a.1 a.2.1 a.2.2.1 a.2.2.2.1 a.2.2.2.2.1 a.2.2.2.2.2)).trans ?_
  show (laws_toOutcome_f S_laws_toArray N a.1 a.2.1 a.2.2.1 a.2.2.2.1 a.2.2.2.2.1 a.2.2.2.2.2).bind _ = _
  rw [hN]; exact h2
-- loop.example/s02135/laws.toOutcomeS
noncomputable def S_laws_toOutcomeS (a0 : List TOutcome) : Option (List TOutcome) := under (pre_laws_toOutcomeS a0) (s_laws_toOutcomeS a0)
def e_laws_toOutcomeS (a : (List TOutcome)) : List X := [.d (lstT cOutcome a)]
noncomputable def C_laws_toOutcomeS : List X → Option XOut := lay e_laws_toOutcomeS fun a => ((S_laws_toOutcomeS a)).bind fun r => some (.ret (ownT (cOutcome) 74 none false r) [])
theorem C_laws_toOutcomeS_eq (a0 : List TOutcome) : C_laws_toOutcomeS [.d (lstT cOutcome a0)] = ((S_laws_toOutcomeS a0)).bind fun r => some (.ret (ownT (cOutcome) 74 none false r) []) := lay_eq (enc := e_laws_toOutcomeS) (by
  intro a b h
  simp only [e_laws_toOutcomeS, List.cons.injEq, X.d.injEq, X.res.injEq, RK.bld.injEq, X.agg.injEq, X.box.injEq, D.int.injEq, D.bool.injEq, D.fn.injEq, sD_inj, lstT_inj, ownT_inj, and_true, true_and, and_assoc] at h
  exact h) a0
noncomputable def G8 : Ctx := G7.with 18 C_laws_toOutcomeS
theorem so8 : SoundAll Tryd.prog G8 := by
  refine layer (cuts := []) (k := 1) (cd := c_laws_toOutcomeS) (rs := r_laws_toOutcomeS) (enc := e_laws_toOutcomeS) mixed so7 Tryd.func18 (by kernel_rfl) (by kernel_rfl) (by kernel_rfl) (by kernel_rfl) (by kernel_rfl) (by kernel_rfl) (wk := fun y => nocap y) Same.nocap ?_
  intro a out ho
  obtain ⟨r, h1, h2⟩ := Option.bind_eq_some_iff.mp ho
  obtain ⟨hp, rfl⟩ := under_some h1
  obtain ⟨N, hN⟩ := p_laws_toOutcomeS S_laws_toOutcome (fun _ _ _ _ _ _ h => under_pos h) a hp
  refine ⟨N, ?_⟩
  refine ((callF_G (fun y => some (nocap y)) 1 c_laws_toOutcomeS r_laws_toOutcomeS (e_laws_toOutcomeS a) ⟨rfl, rfl, rfl⟩).trans (laws_toOutcomeS_g ⟨G7, [], [], [], N, r_laws_toOutcomeS, none, fun _ _ => none, fun y => some (nocap y)⟩ ⟨rfl, rfl, rfl, rfl, rfl, fun _ => rfl, fun _ => rfl⟩ S_laws_toOutcome ⟨rfl, (fun a0_Kind a0_Code a0_Value_Shape a0_Value_Data a0_Fuel a0_Cells => (show G7 42 _ = _ from rfl).trans (C_laws_toOutcome_eq a0_Kind a0_Code a0_Value_Shape a0_Value_Data a0_Fuel a0_Cells))⟩ a)).trans ?_
  show (laws_toOutcomeS_f S_laws_toOutcome N a).bind _ = _
  rw [hN]; exact h2
-- loop.example/s02135/spec.l3Digit
noncomputable def S_spec_l3Digit (a0 : Int) : Option (Bool) := under (pre_spec_l3Digit a0) (s_spec_l3Digit a0)
def e_spec_l3Digit (a : Int) : List X := [.d (.int .u8 a)]
noncomputable def C_spec_l3Digit : List X → Option XOut := lay e_spec_l3Digit fun a => ((S_spec_l3Digit a)).bind fun r => some (.ret (.d (.bool r)) [])
theorem C_spec_l3Digit_eq (a0 : Int) : C_spec_l3Digit [.d (.int .u8 a0)] = ((S_spec_l3Digit a0)).bind fun r => some (.ret (.d (.bool r)) []) := lay_eq (enc := e_spec_l3Digit) (by
  intro a b h
  simp only [e_spec_l3Digit, List.cons.injEq, X.d.injEq, X.res.injEq, RK.bld.injEq, X.agg.injEq, X.box.injEq, D.int.injEq, D.bool.injEq, D.fn.injEq, sD_inj, lstT_inj, ownT_inj, and_true, true_and, and_assoc] at h
  exact h) a0
noncomputable def G9 : Ctx := G8.with 50 C_spec_l3Digit
theorem so9 : SoundAll Tryd.prog G9 := by
  refine layer (cuts := []) (k := 1) (cd := c_spec_l3Digit) (rs := r_spec_l3Digit) (enc := e_spec_l3Digit) mixed so8 Tryd.func50 (by kernel_rfl) (by kernel_rfl) (by kernel_rfl) (by kernel_rfl) (by kernel_rfl) (by kernel_rfl) (wk := fun y => nocap y) Same.nocap ?_
  intro a out ho
  obtain ⟨r, h1, h2⟩ := Option.bind_eq_some_iff.mp ho
  obtain ⟨hp, rfl⟩ := under_some h1
  obtain ⟨N, hN⟩ := p_spec_l3Digit a hp
  refine ⟨N, ?_⟩
  refine ((callF_G (fun y => some (nocap y)) 1 c_spec_l3Digit r_spec_l3Digit (e_spec_l3Digit a) ⟨rfl, rfl, rfl⟩).trans (spec_l3Digit_g ⟨G8, [], [], [], N, r_spec_l3Digit, none, fun _ _ => none, fun y => some (nocap y)⟩ ⟨rfl, rfl, rfl, rfl, rfl, fun _ => rfl, fun _ => rfl⟩ a)).trans ?_
  show (spec_l3Digit_f N a).bind _ = _
  rw [hN]; exact h2
-- loop.example/s02135/spec.l3Letter
noncomputable def S_spec_l3Letter (a0 : Int) : Option (Bool) := under (pre_spec_l3Letter a0) (s_spec_l3Letter a0)
def e_spec_l3Letter (a : Int) : List X := [.d (.int .u8 a)]
noncomputable def C_spec_l3Letter : List X → Option XOut := lay e_spec_l3Letter fun a => ((S_spec_l3Letter a)).bind fun r => some (.ret (.d (.bool r)) [])
theorem C_spec_l3Letter_eq (a0 : Int) : C_spec_l3Letter [.d (.int .u8 a0)] = ((S_spec_l3Letter a0)).bind fun r => some (.ret (.d (.bool r)) []) := lay_eq (enc := e_spec_l3Letter) (by
  intro a b h
  simp only [e_spec_l3Letter, List.cons.injEq, X.d.injEq, X.res.injEq, RK.bld.injEq, X.agg.injEq, X.box.injEq, D.int.injEq, D.bool.injEq, D.fn.injEq, sD_inj, lstT_inj, ownT_inj, and_true, true_and, and_assoc] at h
  exact h) a0
noncomputable def G10 : Ctx := G9.with 51 C_spec_l3Letter
theorem so10 : SoundAll Tryd.prog G10 := by
  refine layer (cuts := []) (k := 1) (cd := c_spec_l3Letter) (rs := r_spec_l3Letter) (enc := e_spec_l3Letter) mixed so9 Tryd.func51 (by kernel_rfl) (by kernel_rfl) (by kernel_rfl) (by kernel_rfl) (by kernel_rfl) (by kernel_rfl) (wk := fun y => nocap y) Same.nocap ?_
  intro a out ho
  obtain ⟨r, h1, h2⟩ := Option.bind_eq_some_iff.mp ho
  obtain ⟨hp, rfl⟩ := under_some h1
  obtain ⟨N, hN⟩ := p_spec_l3Letter a hp
  refine ⟨N, ?_⟩
  refine ((callF_G (fun y => some (nocap y)) 1 c_spec_l3Letter r_spec_l3Letter (e_spec_l3Letter a) ⟨rfl, rfl, rfl⟩).trans (spec_l3Letter_g ⟨G9, [], [], [], N, r_spec_l3Letter, none, fun _ _ => none, fun y => some (nocap y)⟩ ⟨rfl, rfl, rfl, rfl, rfl, fun _ => rfl, fun _ => rfl⟩ a)).trans ?_
  show (spec_l3Letter_f N a).bind _ = _
  rw [hN]; exact h2
-- loop.example/s02135/spec.l6IdOk
noncomputable def S_spec_l6IdOk (a0 : List UInt8) : Option (Bool) := under (pre_spec_l6IdOk a0) (s_spec_l6IdOk a0)
def e_spec_l6IdOk (a : (List UInt8)) : List X := [.d (sD a)]
noncomputable def C_spec_l6IdOk : List X → Option XOut := lay e_spec_l6IdOk fun a => ((S_spec_l6IdOk a)).bind fun r => some (.ret (.d (.bool r)) [])
theorem C_spec_l6IdOk_eq (a0 : List UInt8) : C_spec_l6IdOk [.d (sD a0)] = ((S_spec_l6IdOk a0)).bind fun r => some (.ret (.d (.bool r)) []) := lay_eq (enc := e_spec_l6IdOk) (by
  intro a b h
  simp only [e_spec_l6IdOk, List.cons.injEq, X.d.injEq, X.res.injEq, RK.bld.injEq, X.agg.injEq, X.box.injEq, D.int.injEq, D.bool.injEq, D.fn.injEq, sD_inj, lstT_inj, ownT_inj, and_true, true_and, and_assoc] at h
  exact h) a0
noncomputable def G11 : Ctx := G10.with 28 C_spec_l6IdOk
theorem so11 : SoundAll Tryd.prog G11 := by
  refine layer (cuts := []) (k := 1) (cd := c_spec_l6IdOk) (rs := r_spec_l6IdOk) (enc := e_spec_l6IdOk) mixed so10 Tryd.func28 (by kernel_rfl) (by kernel_rfl) (by kernel_rfl) (by kernel_rfl) (by kernel_rfl) (by kernel_rfl) (wk := fun y => nocap y) Same.nocap ?_
  intro a out ho
  obtain ⟨r, h1, h2⟩ := Option.bind_eq_some_iff.mp ho
  obtain ⟨hp, rfl⟩ := under_some h1
  obtain ⟨N, hN⟩ := p_spec_l6IdOk S_spec_l3Digit (fun _ h => under_pos h) S_spec_l3Letter (fun _ h => under_pos h) a hp
  refine ⟨N, ?_⟩
  refine ((callF_G (fun y => some (nocap y)) 1 c_spec_l6IdOk r_spec_l6IdOk (e_spec_l6IdOk a) ⟨rfl, rfl, rfl⟩).trans (spec_l6IdOk_g ⟨G10, [], [], [], N, r_spec_l6IdOk, none, fun _ _ => none, fun y => some (nocap y)⟩ ⟨rfl, rfl, rfl, rfl, rfl, fun _ => rfl, fun _ => rfl⟩ S_spec_l3Digit ⟨rfl, (fun a0 => (show G10 50 _ = _ from rfl).trans (C_spec_l3Digit_eq a0))⟩ S_spec_l3Letter ⟨rfl, (fun a0 => (show G10 51 _ = _ from rfl).trans (C_spec_l3Letter_eq a0))⟩ a)).trans ?_
  show (spec_l6IdOk_f S_spec_l3Digit S_spec_l3Letter N a).bind _ = _
  rw [hN]; exact h2
-- loop.example/s02135/spec.l1Product
noncomputable def S_spec_l1Product (a0 : List Int) : Option (Int) := under (pre_spec_l1Product a0) (s_spec_l1Product a0)
def e_spec_l1Product (a : (List Int)) : List X := [.d (lstT cI a)]
noncomputable def C_spec_l1Product : List X → Option XOut := lay e_spec_l1Product fun a => ((S_spec_l1Product a)).bind fun r => some (.ret (.d (.int .i64 r)) [])
theorem C_spec_l1Product_eq (a0 : List Int) : C_spec_l1Product [.d (lstT cI a0)] = ((S_spec_l1Product a0)).bind fun r => some (.ret (.d (.int .i64 r)) []) := lay_eq (enc := e_spec_l1Product) (by
  intro a b h
  simp only [e_spec_l1Product, List.cons.injEq, X.d.injEq, X.res.injEq, RK.bld.injEq, X.agg.injEq, X.box.injEq, D.int.injEq, D.bool.injEq, D.fn.injEq, sD_inj, lstT_inj, ownT_inj, and_true, true_and, and_assoc] at h
  exact h) a0
noncomputable def G12 : Ctx := G11.with 46 C_spec_l1Product
theorem so12 : SoundAll Tryd.prog G12 := by
  refine layer (cuts := []) (k := 1) (cd := c_spec_l1Product) (rs := r_spec_l1Product) (enc := e_spec_l1Product) mixed so11 Tryd.func46 (by kernel_rfl) (by kernel_rfl) (by kernel_rfl) (by kernel_rfl) (by kernel_rfl) (by kernel_rfl) (wk := fun y => nocap y) Same.nocap ?_
  intro a out ho
  obtain ⟨r, h1, h2⟩ := Option.bind_eq_some_iff.mp ho
  obtain ⟨hp, rfl⟩ := under_some h1
  obtain ⟨N, hN⟩ := p_spec_l1Product a hp
  refine ⟨N, ?_⟩
  refine ((callF_G (fun y => some (nocap y)) 1 c_spec_l1Product r_spec_l1Product (e_spec_l1Product a) ⟨rfl, rfl, rfl⟩).trans (spec_l1Product_g ⟨G11, [], [], [], N, r_spec_l1Product, none, fun _ _ => none, fun y => some (nocap y)⟩ ⟨rfl, rfl, rfl, rfl, rfl, fun _ => rfl, fun _ => rfl⟩ a)).trans ?_
  show (spec_l1Product_f N a).bind _ = _
  rw [hN]; exact h2
-- loop.example/s02135/spec.l1Fits
noncomputable def S_spec_l1Fits (a0 : List Int) : Option (Bool) := under (pre_spec_l1Fits a0) (s_spec_l1Fits a0)
def e_spec_l1Fits (a : (List Int)) : List X := [.d (lstT cI a)]
noncomputable def C_spec_l1Fits : List X → Option XOut := lay e_spec_l1Fits fun a => ((S_spec_l1Fits a)).bind fun r => some (.ret (.d (.bool r)) [])
theorem C_spec_l1Fits_eq (a0 : List Int) : C_spec_l1Fits [.d (lstT cI a0)] = ((S_spec_l1Fits a0)).bind fun r => some (.ret (.d (.bool r)) []) := lay_eq (enc := e_spec_l1Fits) (by
  intro a b h
  simp only [e_spec_l1Fits, List.cons.injEq, X.d.injEq, X.res.injEq, RK.bld.injEq, X.agg.injEq, X.box.injEq, D.int.injEq, D.bool.injEq, D.fn.injEq, sD_inj, lstT_inj, ownT_inj, and_true, true_and, and_assoc] at h
  exact h) a0
noncomputable def G13 : Ctx := G12.with 45 C_spec_l1Fits
theorem so13 : SoundAll Tryd.prog G13 := by
  refine layer (cuts := []) (k := 1) (cd := c_spec_l1Fits) (rs := r_spec_l1Fits) (enc := e_spec_l1Fits) mixed so12 Tryd.func45 (by kernel_rfl) (by kernel_rfl) (by kernel_rfl) (by kernel_rfl) (by kernel_rfl) (by kernel_rfl) (wk := fun y => nocap y) Same.nocap ?_
  intro a out ho
  obtain ⟨r, h1, h2⟩ := Option.bind_eq_some_iff.mp ho
  obtain ⟨hp, rfl⟩ := under_some h1
  obtain ⟨N, hN⟩ := p_spec_l1Fits S_spec_l1Product (fun _ h => under_pos h) a hp
  refine ⟨N, ?_⟩
  refine ((callF_G (fun y => some (nocap y)) 1 c_spec_l1Fits r_spec_l1Fits (e_spec_l1Fits a) ⟨rfl, rfl, rfl⟩).trans (spec_l1Fits_g ⟨G12, [], [], [], N, r_spec_l1Fits, none, fun _ _ => none, fun y => some (nocap y)⟩ ⟨rfl, rfl, rfl, rfl, rfl, fun _ => rfl, fun _ => rfl⟩ S_spec_l1Product ⟨rfl, (fun a0 => (show G12 46 _ = _ from rfl).trans (C_spec_l1Product_eq a0))⟩ a)).trans ?_
  show (spec_l1Fits_f S_spec_l1Product N a).bind _ = _
  rw [hN]; exact h2
-- loop.example/s02135/spec.ArrayOk
noncomputable def S_spec_ArrayOk (a0_Shape : List Int) (a0_Data : List Int) : Option (Bool) := under (pre_spec_ArrayOk a0_Shape a0_Data) (s_spec_ArrayOk a0_Shape a0_Data)
def e_spec_ArrayOk (a : (List Int) × (List Int)) : List X := [.agg [.d (lstT cI a.1), .d (lstT cI a.2)]]
noncomputable def C_spec_ArrayOk : List X → Option XOut := lay e_spec_ArrayOk fun a => ((S_spec_ArrayOk a.1 a.2)).bind fun r => some (.ret (.d (.bool r)) [])
theorem C_spec_ArrayOk_eq (a0_Shape : List Int) (a0_Data : List Int) : C_spec_ArrayOk [.agg [.d (lstT cI a0_Shape), .d (lstT cI a0_Data)]] = ((S_spec_ArrayOk a0_Shape a0_Data)).bind fun r => some (.ret (.d (.bool r)) []) := lay_eq (enc := e_spec_ArrayOk) (by
  intro a b h
  simp only [e_spec_ArrayOk, List.cons.injEq, X.d.injEq, X.res.injEq, RK.bld.injEq, X.agg.injEq, X.box.injEq, D.int.injEq, D.bool.injEq, D.fn.injEq, sD_inj, lstT_inj, ownT_inj, and_true, true_and, and_assoc] at h
  simp only [Prod.ext_iff]; exact h) (a0_Shape, a0_Data)
noncomputable def G14 : Ctx := G13.with 22 C_spec_ArrayOk
theorem so14 : SoundAll Tryd.prog G14 := by
  refine layer (cuts := []) (k := 1) (cd := c_spec_ArrayOk) (rs := r_spec_ArrayOk) (enc := e_spec_ArrayOk) mixed so13 Tryd.func22 (by kernel_rfl) (by kernel_rfl) (by kernel_rfl) (by kernel_rfl) (by kernel_rfl) (by kernel_rfl) (wk := fun y => nocap y) Same.nocap ?_
  intro a out ho
  obtain ⟨r, h1, h2⟩ := Option.bind_eq_some_iff.mp ho
  obtain ⟨hp, rfl⟩ := under_some h1
  obtain ⟨N, hN⟩ := p_spec_ArrayOk S_spec_l1Fits (fun _ h => under_pos h) S_spec_l1Product (fun _ h => under_pos h) a.1 a.2 hp
  refine ⟨N, ?_⟩
  refine ((callF_G (fun y => some (nocap y)) 1 c_spec_ArrayOk r_spec_ArrayOk (e_spec_ArrayOk a) ⟨rfl, rfl, rfl⟩).trans (spec_ArrayOk_g ⟨G13, [], [], [], N, r_spec_ArrayOk, none, fun _ _ => none, fun y => some (nocap y)⟩ ⟨rfl, rfl, rfl, rfl, rfl, fun _ => rfl, fun _ => rfl⟩ S_spec_l1Fits ⟨rfl, (fun a0 => (show G13 45 _ = _ from rfl).trans (C_spec_l1Fits_eq a0))⟩ S_spec_l1Product ⟨rfl, (fun a0 => (show G13 46 _ = _ from rfl).trans (C_spec_l1Product_eq a0))⟩ a.1 a.2)).trans ?_
  show (spec_ArrayOk_f S_spec_l1Fits S_spec_l1Product N a.1 a.2).bind _ = _
  rw [hN]; exact h2
-- loop.example/s02135/spec.l1Dec
noncomputable def S_spec_l1Dec (a0 : Int) : Option (List UInt8) := under (pre_spec_l1Dec a0) (s_spec_l1Dec a0)
def e_spec_l1Dec (a : Int) : List X := [.d (.int .i64 a)]
noncomputable def C_spec_l1Dec : List X → Option XOut := lay e_spec_l1Dec fun a => ((S_spec_l1Dec a)).bind fun r => some (.ret (.d (sD r)) [])
theorem inj_spec_l1Dec : ∀ a b, e_spec_l1Dec a = e_spec_l1Dec b → a = b := by
  intro a b h
  simp only [e_spec_l1Dec, List.cons.injEq, X.d.injEq, X.res.injEq, RK.bld.injEq, X.agg.injEq, X.box.injEq, D.int.injEq, D.bool.injEq, D.fn.injEq, sD_inj, lstT_inj, ownT_inj, and_true, true_and, and_assoc] at h
  exact h
theorem C_spec_l1Dec_eq (a0 : Int) : C_spec_l1Dec [.d (.int .i64 a0)] = ((S_spec_l1Dec a0)).bind fun r => some (.ret (.d (sD r)) []) := lay_eq (enc := e_spec_l1Dec) (by
  intro a b h
  simp only [e_spec_l1Dec, List.cons.injEq, X.d.injEq, X.res.injEq, RK.bld.injEq, X.agg.injEq, X.box.injEq, D.int.injEq, D.bool.injEq, D.fn.injEq, sD_inj, lstT_inj, ownT_inj, and_true, true_and, and_assoc] at h
  exact h) a0
noncomputable def G15 : Ctx := G14.with 30 C_spec_l1Dec
theorem so15 : SoundAll Tryd.prog G15 := by
  refine layer_rec (mu := fun a => mu_spec_l1Dec a) (cuts := []) (k := 1) (cd := c_spec_l1Dec) (rs := r_spec_l1Dec) (enc := e_spec_l1Dec) mixed so14 Tryd.func30 (by kernel_rfl) (by kernel_rfl) (by kernel_rfl) (by kernel_rfl) (by kernel_rfl) (by kernel_rfl) (wk := fun y => nocap y) Same.nocap ?_
  intro j a out ho hj
  obtain ⟨r, h1, h2⟩ := Option.bind_eq_some_iff.mp ho
  obtain ⟨hp, rfl⟩ := under_some h1
  obtain ⟨N, hN⟩ := p_spec_l1Dec (fun a0 => if mu_spec_l1Dec a0 < j then S_spec_l1Dec a0 else none) j (fun _ hm h => (if_pos hm).trans (under_pos h)) a hp hj
  refine ⟨N, ?_⟩
  refine ((callF_G (fun y => some (nocap y)) 1 c_spec_l1Dec r_spec_l1Dec (e_spec_l1Dec a) ⟨rfl, rfl, rfl⟩).trans (spec_l1Dec_g ⟨(G14.with 30 (lay e_spec_l1Dec fun a => if mu_spec_l1Dec a < j then ((S_spec_l1Dec a)).bind fun r => some (.ret (.d (sD r)) []) else none)), [], [], [], N, r_spec_l1Dec, none, fun _ _ => none, fun y => some (nocap y)⟩ ⟨rfl, rfl, rfl, rfl, rfl, fun _ => rfl, fun _ => rfl⟩ (fun a0 => if mu_spec_l1Dec a0 < j then S_spec_l1Dec a0 else none) ⟨rfl, fun a0 => (show (G14.with 30 (lay e_spec_l1Dec fun a => if mu_spec_l1Dec a < j then ((S_spec_l1Dec a)).bind fun r => some (.ret (.d (sD r)) []) else none)) 30 _ = _ from rfl).trans ((lay_eq (β := XOut) (enc := e_spec_l1Dec) (C := fun a => if mu_spec_l1Dec a < j then ((S_spec_l1Dec a)).bind fun r => some (.ret (.d (sD r)) []) else none) inj_spec_l1Dec a0).trans (by dsimp only; split <;> rfl))⟩ a)).trans ?_
  show (spec_l1Dec_f (fun a0 => if mu_spec_l1Dec a0 < j then S_spec_l1Dec a0 else none) N a).bind _ = _
  rw [hN]; exact h2
-- loop.example/s02135/spec.l1Join
noncomputable def S_spec_l1Join (a0 : List Int) : Option (List UInt8) := under (pre_spec_l1Join a0) (s_spec_l1Join a0)
def e_spec_l1Join (a : (List Int)) : List X := [.d (lstT cI a)]
noncomputable def C_spec_l1Join : List X → Option XOut := lay e_spec_l1Join fun a => ((S_spec_l1Join a)).bind fun r => some (.ret (.d (sD r)) [])
theorem C_spec_l1Join_eq (a0 : List Int) : C_spec_l1Join [.d (lstT cI a0)] = ((S_spec_l1Join a0)).bind fun r => some (.ret (.d (sD r)) []) := lay_eq (enc := e_spec_l1Join) (by
  intro a b h
  simp only [e_spec_l1Join, List.cons.injEq, X.d.injEq, X.res.injEq, RK.bld.injEq, X.agg.injEq, X.box.injEq, D.int.injEq, D.bool.injEq, D.fn.injEq, sD_inj, lstT_inj, ownT_inj, and_true, true_and, and_assoc] at h
  exact h) a0
noncomputable def G16 : Ctx := G15.with 23 C_spec_l1Join
theorem so16 : SoundAll Tryd.prog G16 := by
  refine layer (cuts := []) (k := 1) (cd := c_spec_l1Join) (rs := r_spec_l1Join) (enc := e_spec_l1Join) mixed so15 Tryd.func23 (by kernel_rfl) (by kernel_rfl) (by kernel_rfl) (by kernel_rfl) (by kernel_rfl) (by kernel_rfl) (wk := fun y => nocap y) Same.nocap ?_
  intro a out ho
  obtain ⟨r, h1, h2⟩ := Option.bind_eq_some_iff.mp ho
  obtain ⟨hp, rfl⟩ := under_some h1
  obtain ⟨N, hN⟩ := p_spec_l1Join S_spec_l1Dec (fun _ h => under_pos h) a hp
  refine ⟨N, ?_⟩
  refine ((callF_G (fun y => some (nocap y)) 1 c_spec_l1Join r_spec_l1Join (e_spec_l1Join a) ⟨rfl, rfl, rfl⟩).trans (spec_l1Join_g ⟨G15, [], [], [], N, r_spec_l1Join, none, fun _ _ => none, fun y => some (nocap y)⟩ ⟨rfl, rfl, rfl, rfl, rfl, fun _ => rfl, fun _ => rfl⟩ S_spec_l1Dec ⟨rfl, (fun a0 => (show G15 30 _ = _ from rfl).trans (C_spec_l1Dec_eq a0))⟩ a)).trans ?_
  show (spec_l1Join_f S_spec_l1Dec N a).bind _ = _
  rw [hN]; exact h2
-- loop.example/s02135/spec.LogEntry
noncomputable def S_spec_LogEntry (a0 : List UInt8) (a1 : List TOutcome) : Option (List UInt8 × Bool) := under (pre_spec_LogEntry a0 a1) (s_spec_LogEntry a0 a1)
def e_spec_LogEntry (a : (List UInt8) × (List TOutcome)) : List X := [.d (sD a.1), .d (lstT cOutcome a.2)]
noncomputable def C_spec_LogEntry : List X → Option XOut := lay e_spec_LogEntry fun a => ((S_spec_LogEntry a.1 a.2)).bind fun r => some (.ret (.tup [.d (sD r.1), .d (.bool r.2)]) [])
theorem C_spec_LogEntry_eq (a0 : List UInt8) (a1 : List TOutcome) : C_spec_LogEntry [.d (sD a0), .d (lstT cOutcome a1)] = ((S_spec_LogEntry a0 a1)).bind fun r => some (.ret (.tup [.d (sD r.1), .d (.bool r.2)]) []) := lay_eq (enc := e_spec_LogEntry) (by
  intro a b h
  simp only [e_spec_LogEntry, List.cons.injEq, X.d.injEq, X.res.injEq, RK.bld.injEq, X.agg.injEq, X.box.injEq, D.int.injEq, D.bool.injEq, D.fn.injEq, sD_inj, lstT_inj, ownT_inj, and_true, true_and, and_assoc] at h
  simp only [Prod.ext_iff]; exact h) (a0, a1)
noncomputable def G17 : Ctx := G16.with 17 C_spec_LogEntry
theorem so17 : SoundAll Tryd.prog G17 := by
  refine layer (cuts := []) (k := 2) (cd := c_spec_LogEntry) (rs := r_spec_LogEntry) (enc := e_spec_LogEntry) mixed so16 Tryd.func17 (by kernel_rfl) (by kernel_rfl) (by kernel_rfl) (by kernel_rfl) (by kernel_rfl) (by kernel_rfl) (wk := fun y => nocap y) Same.nocap ?_
  intro a out ho
  obtain ⟨r, h1, h2⟩ := Option.bind_eq_some_iff.mp ho
  obtain ⟨hp, rfl⟩ := under_some h1
  obtain ⟨N, hN⟩ := p_spec_LogEntry S_spec_l6IdOk (fun _ h => under_pos h) S_spec_ArrayOk (fun _ _ h => under_pos h) S_spec_l1Dec (fun _ h => under_pos h) S_spec_l1Join (fun _ h => under_pos h) a.1 a.2 hp
  refine ⟨N, ?_⟩
  refine ((callF_G (fun y => some (nocap y)) 2 c_spec_LogEntry r_spec_LogEntry (e_spec_LogEntry a) ⟨rfl, rfl, rfl⟩).trans (spec_LogEntry_g ⟨G16, [], [], [], N, r_spec_LogEntry, none, fun _ _ => none, fun y => some (nocap y)⟩ ⟨rfl, rfl, rfl, rfl, rfl, fun _ => rfl, fun _ => rfl⟩ S_spec_l6IdOk ⟨rfl, (fun a0 => (show G16 28 _ = _ from rfl).trans (C_spec_l6IdOk_eq a0))⟩ S_spec_ArrayOk ⟨rfl, (fun a0_Shape a0_Data => (show G16 22 _ = _ from rfl).trans (C_spec_ArrayOk_eq a0_Shape a0_Data))⟩ S_spec_l1Dec ⟨rfl, (fun a0 => (show G16 30 _ = _ from rfl).trans (C_spec_l1Dec_eq a0))⟩ S_spec_l1Join ⟨rfl, (fun a0 => (show G16 23 _ = _ from rfl).trans (C_spec_l1Join_eq a0))⟩ a.1 a.2)).trans ?_
  show (spec_LogEntry_f S_spec_l6IdOk S_spec_ArrayOk S_spec_l1Dec S_spec_l1Join N a.1 a.2).bind _ = _
  rw [hN]; exact h2
-- loop.example/s02135/impl.isDigit
noncomputable def S_impl_isDigit (a0 : Int) : Option (Bool) := under (pre_impl_isDigit a0) (s_impl_isDigit a0)
def e_impl_isDigit (a : Int) : List X := [.d (.int .u8 a)]
noncomputable def C_impl_isDigit : List X → Option XOut := lay e_impl_isDigit fun a => ((S_impl_isDigit a)).bind fun r => some (.ret (.d (.bool r)) [])
theorem C_impl_isDigit_eq (a0 : Int) : C_impl_isDigit [.d (.int .u8 a0)] = ((S_impl_isDigit a0)).bind fun r => some (.ret (.d (.bool r)) []) := lay_eq (enc := e_impl_isDigit) (by
  intro a b h
  simp only [e_impl_isDigit, List.cons.injEq, X.d.injEq, X.res.injEq, RK.bld.injEq, X.agg.injEq, X.box.injEq, D.int.injEq, D.bool.injEq, D.fn.injEq, sD_inj, lstT_inj, ownT_inj, and_true, true_and, and_assoc] at h
  exact h) a0
noncomputable def G18 : Ctx := G17.with 52 C_impl_isDigit
theorem so18 : SoundAll Tryd.prog G18 := by
  refine layer (cuts := []) (k := 1) (cd := c_impl_isDigit) (rs := r_impl_isDigit) (enc := e_impl_isDigit) mixed so17 Tryd.func52 (by kernel_rfl) (by kernel_rfl) (by kernel_rfl) (by kernel_rfl) (by kernel_rfl) (by kernel_rfl) (wk := fun y => nocap y) Same.nocap ?_
  intro a out ho
  obtain ⟨r, h1, h2⟩ := Option.bind_eq_some_iff.mp ho
  obtain ⟨hp, rfl⟩ := under_some h1
  obtain ⟨N, hN⟩ := p_impl_isDigit a hp
  refine ⟨N, ?_⟩
  refine ((callF_G (fun y => some (nocap y)) 1 c_impl_isDigit r_impl_isDigit (e_impl_isDigit a) ⟨rfl, rfl, rfl⟩).trans (impl_isDigit_g ⟨G17, [], [], [], N, r_impl_isDigit, none, fun _ _ => none, fun y => some (nocap y)⟩ ⟨rfl, rfl, rfl, rfl, rfl, fun _ => rfl, fun _ => rfl⟩ a)).trans ?_
  show (impl_isDigit_f N a).bind _ = _
  rw [hN]; exact h2
-- loop.example/s02135/impl.isLetter
noncomputable def S_impl_isLetter (a0 : Int) : Option (Bool) := under (pre_impl_isLetter a0) (s_impl_isLetter a0)
def e_impl_isLetter (a : Int) : List X := [.d (.int .u8 a)]
noncomputable def C_impl_isLetter : List X → Option XOut := lay e_impl_isLetter fun a => ((S_impl_isLetter a)).bind fun r => some (.ret (.d (.bool r)) [])
theorem C_impl_isLetter_eq (a0 : Int) : C_impl_isLetter [.d (.int .u8 a0)] = ((S_impl_isLetter a0)).bind fun r => some (.ret (.d (.bool r)) []) := lay_eq (enc := e_impl_isLetter) (by
  intro a b h
  simp only [e_impl_isLetter, List.cons.injEq, X.d.injEq, X.res.injEq, RK.bld.injEq, X.agg.injEq, X.box.injEq, D.int.injEq, D.bool.injEq, D.fn.injEq, sD_inj, lstT_inj, ownT_inj, and_true, true_and, and_assoc] at h
  exact h) a0
noncomputable def G19 : Ctx := G18.with 53 C_impl_isLetter
theorem so19 : SoundAll Tryd.prog G19 := by
  refine layer (cuts := []) (k := 1) (cd := c_impl_isLetter) (rs := r_impl_isLetter) (enc := e_impl_isLetter) mixed so18 Tryd.func53 (by kernel_rfl) (by kernel_rfl) (by kernel_rfl) (by kernel_rfl) (by kernel_rfl) (by kernel_rfl) (wk := fun y => nocap y) Same.nocap ?_
  intro a out ho
  obtain ⟨r, h1, h2⟩ := Option.bind_eq_some_iff.mp ho
  obtain ⟨hp, rfl⟩ := under_some h1
  obtain ⟨N, hN⟩ := p_impl_isLetter a hp
  refine ⟨N, ?_⟩
  refine ((callF_G (fun y => some (nocap y)) 1 c_impl_isLetter r_impl_isLetter (e_impl_isLetter a) ⟨rfl, rfl, rfl⟩).trans (impl_isLetter_g ⟨G18, [], [], [], N, r_impl_isLetter, none, fun _ _ => none, fun y => some (nocap y)⟩ ⟨rfl, rfl, rfl, rfl, rfl, fun _ => rfl, fun _ => rfl⟩ a)).trans ?_
  show (impl_isLetter_f N a).bind _ = _
  rw [hN]; exact h2
-- loop.example/s02135/impl.idOk
noncomputable def S_impl_idOk (a0 : List UInt8) : Option (Bool) := under (pre_impl_idOk a0) (s_impl_idOk a0)
def e_impl_idOk (a : (List UInt8)) : List X := [.d (sD a)]
noncomputable def C_impl_idOk : List X → Option XOut := lay e_impl_idOk fun a => ((S_impl_idOk a)).bind fun r => some (.ret (.d (.bool r)) [])
theorem C_impl_idOk_eq (a0 : List UInt8) : C_impl_idOk [.d (sD a0)] = ((S_impl_idOk a0)).bind fun r => some (.ret (.d (.bool r)) []) := lay_eq (enc := e_impl_idOk) (by
  intro a b h
  simp only [e_impl_idOk, List.cons.injEq, X.d.injEq, X.res.injEq, RK.bld.injEq, X.agg.injEq, X.box.injEq, D.int.injEq, D.bool.injEq, D.fn.injEq, sD_inj, lstT_inj, ownT_inj, and_true, true_and, and_assoc] at h
  exact h) a0
noncomputable def G20 : Ctx := G19.with 34 C_impl_idOk
theorem so20 : SoundAll Tryd.prog G20 := by
  refine layer (cuts := []) (k := 1) (cd := c_impl_idOk) (rs := r_impl_idOk) (enc := e_impl_idOk) mixed so19 Tryd.func34 (by kernel_rfl) (by kernel_rfl) (by kernel_rfl) (by kernel_rfl) (by kernel_rfl) (by kernel_rfl) (wk := fun y => nocap y) Same.nocap ?_
  intro a out ho
  obtain ⟨r, h1, h2⟩ := Option.bind_eq_some_iff.mp ho
  obtain ⟨hp, rfl⟩ := under_some h1
  obtain ⟨N, hN⟩ := p_impl_idOk S_impl_isDigit (fun _ h => under_pos h) S_impl_isLetter (fun _ h => under_pos h) a hp
  refine ⟨N, ?_⟩
  refine ((callF_G (fun y => some (nocap y)) 1 c_impl_idOk r_impl_idOk (e_impl_idOk a) ⟨rfl, rfl, rfl⟩).trans (impl_idOk_g ⟨G19, [], [], [], N, r_impl_idOk, none, fun _ _ => none, fun y => some (nocap y)⟩ ⟨rfl, rfl, rfl, rfl, rfl, fun _ => rfl, fun _ => rfl⟩ S_impl_isDigit ⟨rfl, (fun a0 => (show G19 52 _ = _ from rfl).trans (C_impl_isDigit_eq a0))⟩ S_impl_isLetter ⟨rfl, (fun a0 => (show G19 53 _ = _ from rfl).trans (C_impl_isLetter_eq a0))⟩ a)).trans ?_
  show (impl_idOk_f S_impl_isDigit S_impl_isLetter N a).bind _ = _
  rw [hN]; exact h2
-- loop.example/s02135/impl.within
noncomputable def S_impl_within (a0 : Int) : Option (Bool) := under (pre_impl_within a0) (s_impl_within a0)
def e_impl_within (a : Int) : List X := [.d (.int .i64 a)]
noncomputable def C_impl_within : List X → Option XOut := lay e_impl_within fun a => ((S_impl_within a)).bind fun r => some (.ret (.d (.bool r)) [])
theorem C_impl_within_eq (a0 : Int) : C_impl_within [.d (.int .i64 a0)] = ((S_impl_within a0)).bind fun r => some (.ret (.d (.bool r)) []) := lay_eq (enc := e_impl_within) (by
  intro a b h
  simp only [e_impl_within, List.cons.injEq, X.d.injEq, X.res.injEq, RK.bld.injEq, X.agg.injEq, X.box.injEq, D.int.injEq, D.bool.injEq, D.fn.injEq, sD_inj, lstT_inj, ownT_inj, and_true, true_and, and_assoc] at h
  exact h) a0
noncomputable def G21 : Ctx := G20.with 43 C_impl_within
theorem so21 : SoundAll Tryd.prog G21 := by
  refine layer (cuts := []) (k := 1) (cd := c_impl_within) (rs := r_impl_within) (enc := e_impl_within) mixed so20 Tryd.func43 (by kernel_rfl) (by kernel_rfl) (by kernel_rfl) (by kernel_rfl) (by kernel_rfl) (by kernel_rfl) (wk := fun y => nocap y) Same.nocap ?_
  intro a out ho
  obtain ⟨r, h1, h2⟩ := Option.bind_eq_some_iff.mp ho
  obtain ⟨hp, rfl⟩ := under_some h1
  obtain ⟨N, hN⟩ := p_impl_within a hp
  refine ⟨N, ?_⟩
  refine ((callF_G (fun y => some (nocap y)) 1 c_impl_within r_impl_within (e_impl_within a) ⟨rfl, rfl, rfl⟩).trans (impl_within_g ⟨G20, [], [], [], N, r_impl_within, none, fun _ _ => none, fun y => some (nocap y)⟩ ⟨rfl, rfl, rfl, rfl, rfl, fun _ => rfl, fun _ => rfl⟩ a)).trans ?_
  show (impl_within_f N a).bind _ = _
  rw [hN]; exact h2
-- loop.example/s02135/impl.cellsOf
noncomputable def S_impl_cellsOf (a0 : List Int) : Option (Int × Bool) := under (pre_impl_cellsOf a0) (s_impl_cellsOf a0)
def e_impl_cellsOf (a : (List Int)) : List X := [.d (lstT cI a)]
noncomputable def C_impl_cellsOf : List X → Option XOut := lay e_impl_cellsOf fun a => ((S_impl_cellsOf a)).bind fun r => some (.ret (.tup [.d (.int .i64 r.1), .d (.bool r.2)]) [])
theorem C_impl_cellsOf_eq (a0 : List Int) : C_impl_cellsOf [.d (lstT cI a0)] = ((S_impl_cellsOf a0)).bind fun r => some (.ret (.tup [.d (.int .i64 r.1), .d (.bool r.2)]) []) := lay_eq (enc := e_impl_cellsOf) (by
  intro a b h
  simp only [e_impl_cellsOf, List.cons.injEq, X.d.injEq, X.res.injEq, RK.bld.injEq, X.agg.injEq, X.box.injEq, D.int.injEq, D.bool.injEq, D.fn.injEq, sD_inj, lstT_inj, ownT_inj, and_true, true_and, and_assoc] at h
  exact h) a0
noncomputable def G22 : Ctx := G21.with 47 C_impl_cellsOf
theorem so22 : SoundAll Tryd.prog G22 := by
  refine layer (cuts := []) (k := 1) (cd := c_impl_cellsOf) (rs := r_impl_cellsOf) (enc := e_impl_cellsOf) mixed so21 Tryd.func47 (by kernel_rfl) (by kernel_rfl) (by kernel_rfl) (by kernel_rfl) (by kernel_rfl) (by kernel_rfl) (wk := fun y => nocap y) Same.nocap ?_
  intro a out ho
  obtain ⟨r, h1, h2⟩ := Option.bind_eq_some_iff.mp ho
  obtain ⟨hp, rfl⟩ := under_some h1
  obtain ⟨N, hN⟩ := p_impl_cellsOf a hp
  refine ⟨N, ?_⟩
  refine ((callF_G (fun y => some (nocap y)) 1 c_impl_cellsOf r_impl_cellsOf (e_impl_cellsOf a) ⟨rfl, rfl, rfl⟩).trans (impl_cellsOf_g ⟨G21, [], [], [], N, r_impl_cellsOf, none, fun _ _ => none, fun y => some (nocap y)⟩ ⟨rfl, rfl, rfl, rfl, rfl, fun _ => rfl, fun _ => rfl⟩ a)).trans ?_
  show (impl_cellsOf_f N a).bind _ = _
  rw [hN]; exact h2
-- loop.example/s02135/impl.ArrayOk
noncomputable def S_impl_ArrayOk (a0_Shape : List Int) (a0_Data : List Int) : Option (Bool) := under (pre_impl_ArrayOk a0_Shape a0_Data) (s_impl_ArrayOk a0_Shape a0_Data)
def e_impl_ArrayOk (a : (List Int) × (List Int)) : List X := [.agg [.d (lstT cI a.1), .d (lstT cI a.2)]]
noncomputable def C_impl_ArrayOk : List X → Option XOut := lay e_impl_ArrayOk fun a => ((S_impl_ArrayOk a.1 a.2)).bind fun r => some (.ret (.d (.bool r)) [])
theorem C_impl_ArrayOk_eq (a0_Shape : List Int) (a0_Data : List Int) : C_impl_ArrayOk [.agg [.d (lstT cI a0_Shape), .d (lstT cI a0_Data)]] = ((S_impl_ArrayOk a0_Shape a0_Data)).bind fun r => some (.ret (.d (.bool r)) []) := lay_eq (enc := e_impl_ArrayOk) (by
  intro a b h
  simp only [e_impl_ArrayOk, List.cons.injEq, X.d.injEq, X.res.injEq, RK.bld.injEq, X.agg.injEq, X.box.injEq, D.int.injEq, D.bool.injEq, D.fn.injEq, sD_inj, lstT_inj, ownT_inj, and_true, true_and, and_assoc] at h
  simp only [Prod.ext_iff]; exact h) (a0_Shape, a0_Data)
noncomputable def G23 : Ctx := G22.with 25 C_impl_ArrayOk
theorem so23 : SoundAll Tryd.prog G23 := by
  refine layer (cuts := []) (k := 1) (cd := c_impl_ArrayOk) (rs := r_impl_ArrayOk) (enc := e_impl_ArrayOk) mixed so22 Tryd.func25 (by kernel_rfl) (by kernel_rfl) (by kernel_rfl) (by kernel_rfl) (by kernel_rfl) (by kernel_rfl) (wk := fun y => nocap y) Same.nocap ?_
  intro a out ho
  obtain ⟨r, h1, h2⟩ := Option.bind_eq_some_iff.mp ho
  obtain ⟨hp, rfl⟩ := under_some h1
  obtain ⟨N, hN⟩ := p_impl_ArrayOk S_impl_cellsOf (fun _ h => under_pos h) a.1 a.2 hp
  refine ⟨N, ?_⟩
  refine ((callF_G (fun y => some (nocap y)) 1 c_impl_ArrayOk r_impl_ArrayOk (e_impl_ArrayOk a) ⟨rfl, rfl, rfl⟩).trans (impl_ArrayOk_g ⟨G22, [], [], [], N, r_impl_ArrayOk, none, fun _ _ => none, fun y => some (nocap y)⟩ ⟨rfl, rfl, rfl, rfl, rfl, fun _ => rfl, fun _ => rfl⟩ S_impl_cellsOf ⟨rfl, (fun a0 => (show G22 47 _ = _ from rfl).trans (C_impl_cellsOf_eq a0))⟩ a.1 a.2)).trans ?_
  show (impl_ArrayOk_f S_impl_cellsOf N a.1 a.2).bind _ = _
  rw [hN]; exact h2
-- strconv.Itoa
noncomputable def S_strconv_Itoa (a0 : Int) : Option (List UInt8) := under (pre_strconv_Itoa a0) (s_strconv_Itoa a0)
def e_strconv_Itoa (a : Int) : List X := [.d (.int .i64 a)]
noncomputable def C_strconv_Itoa : List X → Option XOut := lay e_strconv_Itoa fun a => ((S_strconv_Itoa a)).bind fun r => some (.ret (.d (sD r)) [])
theorem C_strconv_Itoa_eq (a0 : Int) : C_strconv_Itoa [.d (.int .i64 a0)] = ((S_strconv_Itoa a0)).bind fun r => some (.ret (.d (sD r)) []) := lay_eq (enc := e_strconv_Itoa) (by
  intro a b h
  simp only [e_strconv_Itoa, List.cons.injEq, X.d.injEq, X.res.injEq, RK.bld.injEq, X.agg.injEq, X.box.injEq, D.int.injEq, D.bool.injEq, D.fn.injEq, sD_inj, lstT_inj, ownT_inj, and_true, true_and, and_assoc] at h
  exact h) a0
noncomputable def G24 : Ctx := G23.with 37 C_strconv_Itoa
theorem so24 : SoundAll Tryd.prog G24 := so23.with (sound_Itoa (enc := e_strconv_Itoa) (fun _ => rfl) (fun a out ho => by
  obtain ⟨r, h1, h2⟩ := Option.bind_eq_some_iff.mp ho
  obtain ⟨hp, rfl⟩ := under_some h1
  exact ⟨q_strconv_Itoa hp, (Option.some.inj h2).symm⟩))
-- (*strings.Builder).WriteByte
noncomputable def S___strings_Builder__WriteByte (T : Nat) (b : List UInt8) (a1 : Int) : Option (List UInt8) := under (pre___strings_Builder__WriteByte T b a1) (s___strings_Builder__WriteByte T b a1)
def e___strings_Builder__WriteByte (a : Nat × (List UInt8) × Int) : List X := [.res (.bld a.1 5) (sD a.2.1), .d (.int .u8 a.2.2)]
noncomputable def C___strings_Builder__WriteByte : List X → Option XOut := lay e___strings_Builder__WriteByte fun a => ((S___strings_Builder__WriteByte a.1 a.2.1 a.2.2)).bind fun r => some (.ret (.d .nili) [[sD r]])
theorem C___strings_Builder__WriteByte_eq (T : Nat) (b : List UInt8) (a1 : Int) : C___strings_Builder__WriteByte [.res (.bld T 5) (sD b), .d (.int .u8 a1)] = ((S___strings_Builder__WriteByte T b a1)).bind fun r => some (.ret (.d .nili) [[sD r]]) := lay_eq (enc := e___strings_Builder__WriteByte) (by
  intro a b h
  simp only [e___strings_Builder__WriteByte, List.cons.injEq, X.d.injEq, X.res.injEq, RK.bld.injEq, X.agg.injEq, X.box.injEq, D.int.injEq, D.bool.injEq, D.fn.injEq, sD_inj, lstT_inj, ownT_inj, and_true, true_and, and_assoc] at h
  simp only [Prod.ext_iff]; exact h) (T, b, a1)
noncomputable def G25 : Ctx := G24.with 48 C___strings_Builder__WriteByte
theorem so25 : SoundAll Tryd.prog G25 := so24.with (sound_WriteByte (enc := e___strings_Builder__WriteByte) (fun _ => rfl) (fun a out ho => by
  obtain ⟨r, h1, h2⟩ := Option.bind_eq_some_iff.mp ho
  obtain ⟨hp, rfl⟩ := under_some h1
  exact ⟨q___strings_Builder__WriteByte hp, (Option.some.inj h2).symm⟩))
-- (*strings.Builder).WriteString
noncomputable def S___strings_Builder__WriteString (T : Nat) (b : List UInt8) (a1 : List UInt8) : Option (Int × List UInt8) := under (pre___strings_Builder__WriteString T b a1) (s___strings_Builder__WriteString T b a1)
def e___strings_Builder__WriteString (a : Nat × (List UInt8) × (List UInt8)) : List X := [.res (.bld a.1 5) (sD a.2.1), .d (sD a.2.2)]
noncomputable def C___strings_Builder__WriteString : List X → Option XOut := lay e___strings_Builder__WriteString fun a => ((S___strings_Builder__WriteString a.1 a.2.1 a.2.2)).bind fun r => some (.ret (.tup [.d (.int .i64 r.1), .d .nili]) [[sD r.2]])
theorem C___strings_Builder__WriteString_eq (T : Nat) (b : List UInt8) (a1 : List UInt8) : C___strings_Builder__WriteString [.res (.bld T 5) (sD b), .d (sD a1)] = ((S___strings_Builder__WriteString T b a1)).bind fun r => some (.ret (.tup [.d (.int .i64 r.1), .d .nili]) [[sD r.2]]) := lay_eq (enc := e___strings_Builder__WriteString) (by
  intro a b h
  simp only [e___strings_Builder__WriteString, List.cons.injEq, X.d.injEq, X.res.injEq, RK.bld.injEq, X.agg.injEq, X.box.injEq, D.int.injEq, D.bool.injEq, D.fn.injEq, sD_inj, lstT_inj, ownT_inj, and_true, true_and, and_assoc] at h
  simp only [Prod.ext_iff]; exact h) (T, b, a1)
noncomputable def G26 : Ctx := G25.with 49 C___strings_Builder__WriteString
theorem so26 : SoundAll Tryd.prog G26 := so25.with (sound_WriteString (enc := e___strings_Builder__WriteString) (fun _ => rfl) (fun a out ho => by
  obtain ⟨r, h1, h2⟩ := Option.bind_eq_some_iff.mp ho
  obtain ⟨hp, rfl⟩ := under_some h1
  exact ⟨q___strings_Builder__WriteString hp, (Option.some.inj h2).symm⟩))
-- (*strings.Builder).String
noncomputable def S___strings_Builder__String (T : Nat) (b : List UInt8) : Option (List UInt8 × List UInt8) := under (pre___strings_Builder__String T b) (s___strings_Builder__String T b)
def e___strings_Builder__String (a : Nat × (List UInt8)) : List X := [.res (.bld a.1 5) (sD a.2)]
noncomputable def C___strings_Builder__String : List X → Option XOut := lay e___strings_Builder__String fun a => ((S___strings_Builder__String a.1 a.2)).bind fun r => some (.ret (.d (sD r.1)) [[sD r.2]])
theorem C___strings_Builder__String_eq (T : Nat) (b : List UInt8) : C___strings_Builder__String [.res (.bld T 5) (sD b)] = ((S___strings_Builder__String T b)).bind fun r => some (.ret (.d (sD r.1)) [[sD r.2]]) := lay_eq (enc := e___strings_Builder__String) (by
  intro a b h
  simp only [e___strings_Builder__String, List.cons.injEq, X.d.injEq, X.res.injEq, RK.bld.injEq, X.agg.injEq, X.box.injEq, D.int.injEq, D.bool.injEq, D.fn.injEq, sD_inj, lstT_inj, ownT_inj, and_true, true_and, and_assoc] at h
  simp only [Prod.ext_iff]; exact h) (T, b)
noncomputable def G27 : Ctx := G26.with 39 C___strings_Builder__String
theorem so27 : SoundAll Tryd.prog G27 := so26.with (sound_String (enc := e___strings_Builder__String) (fun _ => rfl) (fun a out ho => by
  obtain ⟨r, h1, h2⟩ := Option.bind_eq_some_iff.mp ho
  obtain ⟨hp, rfl⟩ := under_some h1
  exact ⟨q___strings_Builder__String hp, (Option.some.inj h2).symm⟩))
-- loop.example/s02135/impl.joined
noncomputable def S_impl_joined (a0 : List Int) : Option (List UInt8) := under (pre_impl_joined a0) (s_impl_joined a0)
def e_impl_joined (a : (List Int)) : List X := [.d (lstT cI a)]
noncomputable def C_impl_joined : List X → Option XOut := lay e_impl_joined fun a => ((S_impl_joined a)).bind fun r => some (.ret (.d (sD r)) [])
theorem C_impl_joined_eq (a0 : List Int) : C_impl_joined [.d (lstT cI a0)] = ((S_impl_joined a0)).bind fun r => some (.ret (.d (sD r)) []) := lay_eq (enc := e_impl_joined) (by
  intro a b h
  simp only [e_impl_joined, List.cons.injEq, X.d.injEq, X.res.injEq, RK.bld.injEq, X.agg.injEq, X.box.injEq, D.int.injEq, D.bool.injEq, D.fn.injEq, sD_inj, lstT_inj, ownT_inj, and_true, true_and, and_assoc] at h
  exact h) a0
noncomputable def G28 : Ctx := G27.with 26 C_impl_joined
theorem so28 : SoundAll Tryd.prog G28 := by
  refine layer (cuts := []) (k := 1) (cd := c_impl_joined) (rs := r_impl_joined) (enc := e_impl_joined) mixed so27 Tryd.func26 (by kernel_rfl) (by kernel_rfl) (by kernel_rfl) (by kernel_rfl) (by kernel_rfl) (by kernel_rfl) (wk := fun y => nocap y) Same.nocap ?_
  intro a out ho
  obtain ⟨r, h1, h2⟩ := Option.bind_eq_some_iff.mp ho
  obtain ⟨hp, rfl⟩ := under_some h1
  obtain ⟨N, hN⟩ := p_impl_joined S___strings_Builder__WriteByte (fun _ _ _ h => under_pos h) S_strconv_Itoa (fun _ h => under_pos h) S___strings_Builder__WriteString (fun _ _ _ h => under_pos h) S___strings_Builder__String (fun _ _ h => under_pos h) a hp
  refine ⟨N, ?_⟩
  refine ((callF_G (fun y => some (nocap y)) 1 c_impl_joined r_impl_joined (e_impl_joined a) ⟨rfl, rfl, rfl⟩).trans (impl_joined_g ⟨G27, [], [], [], N, r_impl_joined, none, fun _ _ => none, fun y => some (nocap y)⟩ ⟨rfl, rfl, rfl, rfl, rfl, fun _ => rfl, fun _ => rfl⟩ S___strings_Builder__WriteByte ⟨rfl, (fun T b a1 => (show G27 48 _ = _ from rfl).trans (C___strings_Builder__WriteByte_eq T b a1))⟩ S_strconv_Itoa ⟨rfl, (fun a0 => (show G27 37 _ = _ from rfl).trans (C_strconv_Itoa_eq a0))⟩ S___strings_Builder__WriteString ⟨rfl, (fun T b a1 => (show G27 49 _ = _ from rfl).trans (C___strings_Builder__WriteString_eq T b a1))⟩ S___strings_Builder__String ⟨rfl, (fun T b => (show G27 39 _ = _ from rfl).trans (C___strings_Builder__String_eq T b))⟩ a)).trans ?_
  show (impl_joined_f S___strings_Builder__WriteByte S_strconv_Itoa S___strings_Builder__WriteString S___strings_Builder__String N a).bind _ = _
  rw [hN]; exact h2
-- strings.Join
noncomputable def S_strings_Join (a0 : List (List UInt8)) (a1 : List UInt8) : Option (List UInt8) := under (pre_strings_Join a0 a1) (s_strings_Join a0 a1)
def e_strings_Join (a : (List (List UInt8)) × (List UInt8)) : List X := [.d (lstT cS a.1), .d (sD a.2)]
noncomputable def C_strings_Join : List X → Option XOut := lay e_strings_Join fun a => ((S_strings_Join a.1 a.2)).bind fun r => some (.ret (.d (sD r)) [])
theorem C_strings_Join_eq (a0 : List (List UInt8)) (a1 : List UInt8) : C_strings_Join [.d (lstT cS a0), .d (sD a1)] = ((S_strings_Join a0 a1)).bind fun r => some (.ret (.d (sD r)) []) := lay_eq (enc := e_strings_Join) (by
  intro a b h
  simp only [e_strings_Join, List.cons.injEq, X.d.injEq, X.res.injEq, RK.bld.injEq, X.agg.injEq, X.box.injEq, D.int.injEq, D.bool.injEq, D.fn.injEq, sD_inj, lstT_inj, ownT_inj, and_true, true_and, and_assoc] at h
  simp only [Prod.ext_iff]; exact h) (a0, a1)
noncomputable def G29 : Ctx := G28.with 54 C_strings_Join
theorem so29 : SoundAll Tryd.prog G29 := so28.with (sound_Join (enc := e_strings_Join) (fun _ => rfl) (fun a out ho => by
  obtain ⟨r, h1, h2⟩ := Option.bind_eq_some_iff.mp ho
  obtain ⟨hp, rfl⟩ := under_some h1
  exact ⟨q_strings_Join hp, (Option.some.inj h2).symm⟩))
-- (*loop.example/s02135/impl.lines).put
noncomputable def S___impl_lines__put (a0 : List UInt8) (a1 : List (List UInt8)) : Option (List UInt8) := under (pre___impl_lines__put a0 a1) (s___impl_lines__put a0 a1)
def e___impl_lines__put (a : (List UInt8) × (List (List UInt8))) : List X := [.res (.bld 65 5) (sD a.1), .d (lstT cS a.2)]
noncomputable def C___impl_lines__put : List X → Option XOut := lay e___impl_lines__put fun a => ((S___impl_lines__put a.1 a.2)).bind fun r => some (.ret (.tup []) [[sD r]])
theorem C___impl_lines__put_eq (a0 : List UInt8) (a1 : List (List UInt8)) : C___impl_lines__put [.res (.bld 65 5) (sD a0), .d (lstT cS a1)] = ((S___impl_lines__put a0 a1)).bind fun r => some (.ret (.tup []) [[sD r]]) := lay_eq (enc := e___impl_lines__put) (by
  intro a b h
  simp only [e___impl_lines__put, List.cons.injEq, X.d.injEq, X.res.injEq, RK.bld.injEq, X.agg.injEq, X.box.injEq, D.int.injEq, D.bool.injEq, D.fn.injEq, sD_inj, lstT_inj, ownT_inj, and_true, true_and, and_assoc] at h
  simp only [Prod.ext_iff]; exact h) (a0, a1)
noncomputable def G30 : Ctx := G29.with 35 C___impl_lines__put
theorem so30 : SoundAll Tryd.prog G30 := by
  refine layer (cuts := []) (k := 2) (cd := c___impl_lines__put) (rs := r___impl_lines__put) (enc := e___impl_lines__put) mixed so29 Tryd.func35 (by kernel_rfl) (by kernel_rfl) (by kernel_rfl) (by kernel_rfl) (by kernel_rfl) (by kernel_rfl) (wk := fun y => nocap y) Same.nocap ?_
  intro a out ho
  obtain ⟨r, h1, h2⟩ := Option.bind_eq_some_iff.mp ho
  obtain ⟨hp, rfl⟩ := under_some h1
  obtain ⟨N, hN⟩ := p___impl_lines__put S_strings_Join (fun _ _ h => under_pos h) S___strings_Builder__WriteString (fun _ _ _ h => under_pos h) S___strings_Builder__WriteByte (fun _ _ _ h => under_pos h) a.1 a.2 hp
  refine ⟨N, ?_⟩
  refine ((callF_G (fun y => some (nocap y)) 2 c___impl_lines__put r___impl_lines__put (e___impl_lines__put a) ⟨rfl, rfl, rfl⟩).trans (__impl_lines__put_g ⟨G29, [0], [0], [(0, .res (.bld 65 5))], N, r___impl_lines__put, none, fun _ _ => none, fun y => some (nocap y)⟩ ⟨rfl, rfl, rfl, rfl, rfl, fun _ => rfl, fun _ => rfl⟩ S_strings_Join ⟨rfl, (fun a0 a1 => (show G29 54 _ = _ from rfl).trans (C_strings_Join_eq a0 a1))⟩ S___strings_Builder__WriteString ⟨rfl, (fun T b a1 => (show G29 49 _ = _ from rfl).trans (C___strings_Builder__WriteString_eq T b a1))⟩ S___strings_Builder__WriteByte ⟨rfl, (fun T b a1 => (show G29 48 _ = _ from rfl).trans (C___strings_Builder__WriteByte_eq T b a1))⟩ a.1 a.2)).trans ?_
  show (__impl_lines__put_f S_strings_Join S___strings_Builder__WriteString S___strings_Builder__WriteByte N a.1 a.2).bind _ = _
  rw [hN]; exact h2
-- loop.example/s02135/impl.LogEntry
noncomputable def S_impl_LogEntry (a0 : List UInt8) (a1 : List TOutcome) : Option (List UInt8 × Bool) := under (pre_impl_LogEntry a0 a1) (s_impl_LogEntry a0 a1)
def e_impl_LogEntry (a : (List UInt8) × (List TOutcome)) : List X := [.d (sD a.1), .d (lstT cOutcome a.2)]
noncomputable def C_impl_LogEntry : List X → Option XOut := lay e_impl_LogEntry fun a => ((S_impl_LogEntry a.1 a.2)).bind fun r => some (.ret (.tup [.d (sD r.1), .d (.bool r.2)]) [])
theorem C_impl_LogEntry_eq (a0 : List UInt8) (a1 : List TOutcome) : C_impl_LogEntry [.d (sD a0), .d (lstT cOutcome a1)] = ((S_impl_LogEntry a0 a1)).bind fun r => some (.ret (.tup [.d (sD r.1), .d (.bool r.2)]) []) := lay_eq (enc := e_impl_LogEntry) (by
  intro a b h
  simp only [e_impl_LogEntry, List.cons.injEq, X.d.injEq, X.res.injEq, RK.bld.injEq, X.agg.injEq, X.box.injEq, D.int.injEq, D.bool.injEq, D.fn.injEq, sD_inj, lstT_inj, ownT_inj, and_true, true_and, and_assoc] at h
  simp only [Prod.ext_iff]; exact h) (a0, a1)
noncomputable def G31 : Ctx := G30.with 19 C_impl_LogEntry
theorem so31 : SoundAll Tryd.prog G31 := by
  refine layer (cuts := []) (k := 2) (cd := c_impl_LogEntry) (rs := r_impl_LogEntry) (enc := e_impl_LogEntry) mixed so30 Tryd.func19 (by kernel_rfl) (by kernel_rfl) (by kernel_rfl) (by kernel_rfl) (by kernel_rfl) (by kernel_rfl) (wk := fun y => nocap y) Same.nocap ?_
  intro a out ho
  obtain ⟨r, h1, h2⟩ := Option.bind_eq_some_iff.mp ho
  obtain ⟨hp, rfl⟩ := under_some h1
  obtain ⟨N, hN⟩ := p_impl_LogEntry S_impl_idOk (fun _ h => under_pos h) S_impl_within (fun _ h => under_pos h) S_impl_ArrayOk (fun _ _ h => under_pos h) S_strconv_Itoa (fun _ h => under_pos h) S_impl_joined (fun _ h => under_pos h) S___impl_lines__put (fun _ _ h => under_pos h) S___strings_Builder__String (fun _ _ h => under_pos h) a.1 a.2 hp
  refine ⟨N, ?_⟩
  refine ((callF_G (fun y => some (nocap y)) 2 c_impl_LogEntry r_impl_LogEntry (e_impl_LogEntry a) ⟨rfl, rfl, rfl⟩).trans (impl_LogEntry_g ⟨G30, [], [], [], N, r_impl_LogEntry, none, fun _ _ => none, fun y => some (nocap y)⟩ ⟨rfl, rfl, rfl, rfl, rfl, fun _ => rfl, fun _ => rfl⟩ S_impl_idOk ⟨rfl, (fun a0 => (show G30 34 _ = _ from rfl).trans (C_impl_idOk_eq a0))⟩ S_impl_within ⟨rfl, (fun a0 => (show G30 43 _ = _ from rfl).trans (C_impl_within_eq a0))⟩ S_impl_ArrayOk ⟨rfl, (fun a0_Shape a0_Data => (show G30 25 _ = _ from rfl).trans (C_impl_ArrayOk_eq a0_Shape a0_Data))⟩ S_strconv_Itoa ⟨rfl, (fun a0 => (show G30 37 _ = _ from rfl).trans (C_strconv_Itoa_eq a0))⟩ S_impl_joined ⟨rfl, (fun a0 => (show G30 26 _ = _ from rfl).trans (C_impl_joined_eq a0))⟩ S___impl_lines__put ⟨rfl, (fun a0 a1 => (show G30 35 _ = _ from rfl).trans (C___impl_lines__put_eq a0 a1))⟩ S___strings_Builder__String ⟨rfl, (fun T b => (show G30 39 _ = _ from rfl).trans (C___strings_Builder__String_eq T b))⟩ a.1 a.2)).trans ?_
  show (impl_LogEntry_f S_impl_idOk S_impl_within S_impl_ArrayOk S_strconv_Itoa S_impl_joined S___impl_lines__put S___strings_Builder__String N a.1 a.2).bind _ = _
  rw [hN]; exact h2
-- loop.example/s02135/laws.eqIntS
noncomputable def S_laws_eqIntS (a0 : List Int) (a1 : List Int) : Option (Bool) := under (pre_laws_eqIntS a0 a1) (s_laws_eqIntS a0 a1)
def e_laws_eqIntS (a : (List Int) × (List Int)) : List X := [.d (lstT cI a.1), .d (lstT cI a.2)]
noncomputable def C_laws_eqIntS : List X → Option XOut := lay e_laws_eqIntS fun a => ((S_laws_eqIntS a.1 a.2)).bind fun r => some (.ret (.d (.bool r)) [])
theorem C_laws_eqIntS_eq (a0 : List Int) (a1 : List Int) : C_laws_eqIntS [.d (lstT cI a0), .d (lstT cI a1)] = ((S_laws_eqIntS a0 a1)).bind fun r => some (.ret (.d (.bool r)) []) := lay_eq (enc := e_laws_eqIntS) (by
  intro a b h
  simp only [e_laws_eqIntS, List.cons.injEq, X.d.injEq, X.res.injEq, RK.bld.injEq, X.agg.injEq, X.box.injEq, D.int.injEq, D.bool.injEq, D.fn.injEq, sD_inj, lstT_inj, ownT_inj, and_true, true_and, and_assoc] at h
  simp only [Prod.ext_iff]; exact h) (a0, a1)
noncomputable def G32 : Ctx := G31.with 27 C_laws_eqIntS
theorem so32 : SoundAll Tryd.prog G32 := by
  refine layer (cuts := []) (k := 2) (cd := c_laws_eqIntS) (rs := r_laws_eqIntS) (enc := e_laws_eqIntS) mixed so31 Tryd.func27 (by kernel_rfl) (by kernel_rfl) (by kernel_rfl) (by kernel_rfl) (by kernel_rfl) (by kernel_rfl) (wk := fun y => nocap y) Same.nocap ?_
  intro a out ho
  obtain ⟨r, h1, h2⟩ := Option.bind_eq_some_iff.mp ho
  obtain ⟨hp, rfl⟩ := under_some h1
  obtain ⟨N, hN⟩ := p_laws_eqIntS a.1 a.2 hp
  refine ⟨N, ?_⟩
  refine ((callF_G (fun y => some (nocap y)) 2 c_laws_eqIntS r_laws_eqIntS (e_laws_eqIntS a) ⟨rfl, rfl, rfl⟩).trans (laws_eqIntS_g ⟨G31, [], [], [], N, r_laws_eqIntS, none, fun _ _ => none, fun y => some (nocap y)⟩ ⟨rfl, rfl, rfl, rfl, rfl, fun _ => rfl, fun _ => rfl⟩ a.1 a.2)).trans ?_
  show (laws_eqIntS_f N a.1 a.2).bind _ = _
  rw [hN]; exact h2
-- loop.example/s02135/laws.eqArray
noncomputable def S_laws_eqArray (a0_Shape : List Int) (a0_Data : List Int) (a1_Shape : List Int) (a1_Data : List Int) : Option (Bool) := under (pre_laws_eqArray a0_Shape a0_Data a1_Shape a1_Data) (s_laws_eqArray a0_Shape a0_Data a1_Shape a1_Data)
def e_laws_eqArray (a : (List Int) × (List Int) × (List Int) × (List Int)) : List X := [.agg [.d (lstT cI a.1), .d (lstT cI a.2.1)], .agg [.d (lstT cI a.2.2.1), .d (lstT cI a.2.2.2)]]
noncomputable def C_laws_eqArray : List X → Option XOut := lay e_laws_eqArray fun a => ((S_laws_eqArray a.1 a.2.1 a.2.2.1 a.2.2.2)).bind fun r => some (.ret (.d (.bool r)) [])
theorem C_laws_eqArray_eq (a0_Shape : List Int) (a0_Data : List Int) (a1_Shape : List Int) (a1_Data : List Int) : C_laws_eqArray [.agg [.d (lstT cI a0_Shape), .d (lstT cI a0_Data)], .agg [.d (lstT cI a1_Shape), .d (lstT cI a1_Data)]] = ((S_laws_eqArray a0_Shape a0_Data a1_Shape a1_Data)).bind fun r => some (.ret (.d (.bool r)) []) := lay_eq (enc := e_laws_eqArray) (by
  intro a b h
  simp only [e_laws_eqArray, List.cons.injEq, X.d.injEq, X.res.injEq, RK.bld.injEq, X.agg.injEq, X.box.injEq, D.int.injEq, D.bool.injEq, D.fn.injEq, sD_inj, lstT_inj, ownT_inj, and_true, true_and, and_assoc] at h
  simp only [Prod.ext_iff]; exact h) (a0_Shape, a0_Data, a1_Shape, a1_Data)
noncomputable def G33 : Ctx := G32.with 10 C_laws_eqArray
theorem so33 : SoundAll Tryd.prog G33 := by
  refine layer (cuts := []) (k := 2) (cd := c_laws_eqArray) (rs := r_laws_eqArray) (enc := e_laws_eqArray) mixed so32 Tryd.func10 (by kernel_rfl) (by kernel_rfl) (by kernel_rfl) (by kernel_rfl) (by kernel_rfl) (by kernel_rfl) (wk := fun y => nocap y) Same.nocap ?_
  intro a out ho
  obtain ⟨r, h1, h2⟩ := Option.bind_eq_some_iff.mp ho
  obtain ⟨hp, rfl⟩ := under_some h1
  obtain ⟨N, hN⟩ := p_laws_eqArray S_laws_eqIntS (fun _ _ h => under_pos h) a.1 a.2.1 a.2.2.1 a.2.2.2 hp
  refine ⟨N, ?_⟩
  refine ((callF_G (fun y => some (nocap y)) 2 c_laws_eqArray r_laws_eqArray (e_laws_eqArray a) ⟨rfl, rfl, rfl⟩).trans (laws_eqArray_g ⟨G32, [], [], [], N, r_laws_eqArray, none, fun _ _ => none, fun y => some (nocap y)⟩ ⟨rfl, rfl, rfl, rfl, rfl, fun _ => rfl, fun _ => rfl⟩ S_laws_eqIntS ⟨rfl, (fun a0 a1 => (show G32 27 _ = _ from rfl).trans (C_laws_eqIntS_eq a0 a1))⟩ a.1 a.2.1 a.2.2.1 a.2.2.2)).trans ?_
  show (laws_eqArray_f S_laws_eqIntS N a.1 a.2.1 a.2.2.1 a.2.2.2).bind _ = _
  rw [hN]; exact h2
-- loop.example/s02135/laws.eqOutcome
noncomputable def S_laws_eqOutcome (a0_Kind : Int) (a0_Code : Int) (a0_Value_Shape : List Int) (a0_Value_Data : List Int) (a0_Fuel : Int) (a0_Cells : Int) (a1_Kind : Int) (a1_Code : Int) (a1_Value_Shape : List Int) (a1_Value_Data : List Int) (a1_Fuel : Int) (a1_Cells : Int) : Option (Bool) := under (pre_laws_eqOutcome a0_Kind a0_Code a0_Value_Shape a0_Value_Data a0_Fuel a0_Cells a1_Kind a1_Code a1_Value_Shape a1_Value_Data a1_Fuel a1_Cells) (s_laws_eqOutcome a0_Kind a0_Code a0_Value_Shape a0_Value_Data a0_Fuel a0_Cells a1_Kind a1_Code a1_Value_Shape a1_Value_Data a1_Fuel a1_Cells)
def e_laws_eqOutcome (a : Int × Int × (List Int) × (List Int) × Int × Int × Int × Int × (List Int) × (List Int) × Int × Int) : List X := [.agg [.d (.int .i64 a.1), .d (.int .i64 a.2.1), .d (lstT cI a.2.2.1), .d (lstT cI a.2.2.2.1), .d (.int .i64 a.2.2.2.2.1), .d (.int .i64 a.2.2.2.2.2.1)], .agg [.d (.int .i64 a.2.2.2.2.2.2.1), .d (.int .i64 a.2.2.2.2.2.2.2.1), .d (lstT cI a.2.2.2.2.2.2.2.2.1), .d (lstT cI a.2.2.2.2.2.2.2.2.2.1), .d (.int .i64 a.2.2.2.2.2.2.2.2.2.2.1), .d (.int .i64 a.2.2.2.2.2.2.2.2.2.2.2)]]
noncomputable def C_laws_eqOutcome : List X → Option XOut := lay e_laws_eqOutcome fun a => ((S_laws_eqOutcome a.1 a.2.1 a.2.2.1 a.2.2.2.1 a.2.2.2.2.1 a.2.2.2.2.2.1 a.2.2.2.2.2.2.1 a.2.2.2.2.2.2.2.1 a.2.2.2.2.2.2.2.2.1 a.2.2.2.2.2.2.2.2.2.1 a.2.2.2.2.2.2.2.2.2.2.1 a.2.2.2.2.2.2.2.2.2.2.2)).bind fun r => some (.ret (.d (.bool r)) [])
theorem C_laws_eqOutcome_eq (a0_Kind : Int) (a0_Code : Int) (a0_Value_Shape : List Int) (a0_Value_Data : List Int) (a0_Fuel : Int) (a0_Cells : Int) (a1_Kind : Int) (a1_Code : Int) (a1_Value_Shape : List Int) (a1_Value_Data : List Int) (a1_Fuel : Int) (a1_Cells : Int) : C_laws_eqOutcome [.agg [.d (.int .i64 a0_Kind), .d (.int .i64 a0_Code), .d (lstT cI a0_Value_Shape), .d (lstT cI a0_Value_Data), .d (.int .i64 a0_Fuel), .d (.int .i64 a0_Cells)], .agg [.d (.int .i64 a1_Kind), .d (.int .i64 a1_Code), .d (lstT cI a1_Value_Shape), .d (lstT cI a1_Value_Data), .d (.int .i64 a1_Fuel), .d (.int .i64 a1_Cells)]] = ((S_laws_eqOutcome a0_Kind a0_Code a0_Value_Shape a0_Value_Data a0_Fuel a0_Cells a1_Kind a1_Code a1_Value_Shape a1_Value_Data a1_Fuel a1_Cells)).bind fun r => some (.ret (.d (.bool r)) []) := lay_eq (enc := e_laws_eqOutcome) (by
  intro a b h
  simp only [e_laws_eqOutcome, List.cons.injEq, X.d.injEq, X.res.injEq, RK.bld.injEq, X.agg.injEq, X.box.injEq, D.int.injEq, D.bool.injEq, D.fn.injEq, sD_inj, lstT_inj, ownT_inj, and_true, true_and, and_assoc] at h
  simp only [Prod.ext_iff]; exact h) (a0_Kind, a0_Code, a0_Value_Shape, a0_Value_Data, a0_Fuel, a0_Cells, a1_Kind, a1_Code, a1_Value_Shape, a1_Value_Data, a1_Fuel, a1_Cells)
noncomputable def G34 : Ctx := G33.with 44 C_laws_eqOutcome
theorem so34 : SoundAll Tryd.prog G34 := by
  refine layer (cuts := []) (k := 2) (cd := c_laws_eqOutcome) (rs := r_laws_eqOutcome) (enc := e_laws_eqOutcome) mixed so33 Tryd.func44 (by kernel_rfl) (by kernel_rfl) (by kernel_rfl) (by kernel_rfl) (by kernel_rfl) (by kernel_rfl) (wk := fun y => nocap y) Same.nocap ?_
  intro a out ho
  obtain ⟨r, h1, h2⟩ := Option.bind_eq_some_iff.mp ho
  obtain ⟨hp, rfl⟩ := under_some h1
  obtain ⟨N, hN⟩ := p_laws_eqOutcome S_laws_eqArray (fun _ _ _ _ h => under_pos h) a.1 a.2.1 a.2.2.1 a.2.2.2.1 a.2.2.2.2.1 a.2.2.2.2.2.1 a.2.2.2.2.2.2.1 a.2.2.2.2.2.2.2.1 a.2.2.2.2.2.2.2.2.1 a.2.2.2.2.2.2.2.2.2.1 a.2.2.2.2.2.2.2.2.2.2.1 a.2.2.2.2.2.2.2.2.2.2.2 hp
  refine ⟨N, ?_⟩
  refine ((callF_G (fun y => some (nocap y)) 2 c_laws_eqOutcome r_laws_eqOutcome (e_laws_eqOutcome a) ⟨rfl, rfl, rfl⟩).trans (laws_eqOutcome_g ⟨G33, [], [], [], N, r_laws_eqOutcome, none, fun _ _ => none, fun y => some (nocap y)⟩ ⟨rfl, rfl, rfl, rfl, rfl, fun _ => rfl, fun _ => rfl⟩ S_laws_eqArray ⟨rfl, (fun a0_Shape a0_Data a1_Shape a1_Data => (show G33 10 _ = _ from rfl).trans (C_laws_eqArray_eq a0_Shape a0_Data a1_Shape a1_Data))⟩ a.1 a.2.1 a.2.2.1 a.2.2.2.1 a.2.2.2.2.1 a.2.2.2.2.2.1 a.2.2.2.2.2.2.1 a.2.2.2.2.2.2.2.1 a.2.2.2.2.2.2.2.2.1 a.2.2.2.2.2.2.2.2.2.1 a.2.2.2.2.2.2.2.2.2.2.1 a.2.2.2.2.2.2.2.2.2.2.2)).trans ?_
  show (laws_eqOutcome_f S_laws_eqArray N a.1 a.2.1 a.2.2.1 a.2.2.2.1 a.2.2.2.2.1 a.2.2.2.2.2.1 a.2.2.2.2.2.2.1 a.2.2.2.2.2.2.2.1 a.2.2.2.2.2.2.2.2.1 a.2.2.2.2.2.2.2.2.2.1 a.2.2.2.2.2.2.2.2.2.2.1 a.2.2.2.2.2.2.2.2.2.2.2).bind _ = _
  rw [hN]; exact h2
-- loop.example/s02135/laws.eqOutcomeS
noncomputable def S_laws_eqOutcomeS (a0 : List TOutcome) (a1 : List TOutcome) : Option (Bool) := under (pre_laws_eqOutcomeS a0 a1) (s_laws_eqOutcomeS a0 a1)
def e_laws_eqOutcomeS (a : (List TOutcome) × (List TOutcome)) : List X := [.d (lstT cOutcome a.1), .d (lstT cOutcome a.2)]
noncomputable def C_laws_eqOutcomeS : List X → Option XOut := lay e_laws_eqOutcomeS fun a => ((S_laws_eqOutcomeS a.1 a.2)).bind fun r => some (.ret (.d (.bool r)) [])
theorem C_laws_eqOutcomeS_eq (a0 : List TOutcome) (a1 : List TOutcome) : C_laws_eqOutcomeS [.d (lstT cOutcome a0), .d (lstT cOutcome a1)] = ((S_laws_eqOutcomeS a0 a1)).bind fun r => some (.ret (.d (.bool r)) []) := lay_eq (enc := e_laws_eqOutcomeS) (by
  intro a b h
  simp only [e_laws_eqOutcomeS, List.cons.injEq, X.d.injEq, X.res.injEq, RK.bld.injEq, X.agg.injEq, X.box.injEq, D.int.injEq, D.bool.injEq, D.fn.injEq, sD_inj, lstT_inj, ownT_inj, and_true, true_and, and_assoc] at h
  simp only [Prod.ext_iff]; exact h) (a0, a1)
noncomputable def G35 : Ctx := G34.with 20 C_laws_eqOutcomeS
theorem so35 : SoundAll Tryd.prog G35 := by
  refine layer (cuts := []) (k := 2) (cd := c_laws_eqOutcomeS) (rs := r_laws_eqOutcomeS) (enc := e_laws_eqOutcomeS) mixed so34 Tryd.func20 (by kernel_rfl) (by kernel_rfl) (by kernel_rfl) (by kernel_rfl) (by kernel_rfl) (by kernel_rfl) (wk := fun y => nocap y) Same.nocap ?_
  intro a out ho
  obtain ⟨r, h1, h2⟩ := Option.bind_eq_some_iff.mp ho
  obtain ⟨hp, rfl⟩ := under_some h1
  obtain ⟨N, hN⟩ := p_laws_eqOutcomeS S_laws_eqOutcome (fun _ _ _ _ _ _ _ _ _ _ _ _ h => under_pos h) a.1 a.2 hp
  refine ⟨N, ?_⟩
  refine ((callF_G (fun y => some (nocap y)) 2 c_laws_eqOutcomeS r_laws_eqOutcomeS (e_laws_eqOutcomeS a) ⟨rfl, rfl, rfl⟩).trans (laws_eqOutcomeS_g ⟨G34, [], [], [], N, r_laws_eqOutcomeS, none, fun _ _ => none, fun y => some (nocap y)⟩ ⟨rfl, rfl, rfl, rfl, rfl, fun _ => rfl, fun _ => rfl⟩ S_laws_eqOutcome ⟨rfl, (fun a0_Kind a0_Code a0_Value_Shape a0_Value_Data a0_Fuel a0_Cells a1_Kind a1_Code a1_Value_Shape a1_Value_Data a1_Fuel a1_Cells => (show G34 44 _ = _ from rfl).trans (C_laws_eqOutcome_eq a0_Kind a0_Code a0_Value_Shape a0_Value_Data a0_Fuel a0_Cells a1_Kind a1_Code a1_Value_Shape a1_Value_Data a1_Fuel a1_Cells))⟩ a.1 a.2)).trans ?_
  show (laws_eqOutcomeS_f S_laws_eqOutcome N a.1 a.2).bind _ = _
  rw [hN]; exact h2
-- loop.example/s02135/laws.FnExactLogEntry
noncomputable def S_laws_FnExactLogEntry (a0 : List UInt8) (a1 : List TOutcome) : Option (Bool) := under (pre_laws_FnExactLogEntry a0 a1) (s_laws_FnExactLogEntry a0 a1)
def e_laws_FnExactLogEntry (a : (List UInt8) × (List TOutcome)) : List X := [.d (sD a.1), .d (lstT cOutcome a.2)]
noncomputable def C_laws_FnExactLogEntry : List X → Option XOut := lay e_laws_FnExactLogEntry fun a => ((S_laws_FnExactLogEntry a.1 a.2)).bind fun r => some (.ret (.d (.bool r)) [])
theorem C_laws_FnExactLogEntry_eq (a0 : List UInt8) (a1 : List TOutcome) : C_laws_FnExactLogEntry [.d (sD a0), .d (lstT cOutcome a1)] = ((S_laws_FnExactLogEntry a0 a1)).bind fun r => some (.ret (.d (.bool r)) []) := lay_eq (enc := e_laws_FnExactLogEntry) (by
  intro a b h
  simp only [e_laws_FnExactLogEntry, List.cons.injEq, X.d.injEq, X.res.injEq, RK.bld.injEq, X.agg.injEq, X.box.injEq, D.int.injEq, D.bool.injEq, D.fn.injEq, sD_inj, lstT_inj, ownT_inj, and_true, true_and, and_assoc] at h
  simp only [Prod.ext_iff]; exact h) (a0, a1)
noncomputable def G36 : Ctx := G35.with 5 C_laws_FnExactLogEntry
theorem so36 : SoundAll Tryd.prog G36 := by
  refine layer (cuts := []) (k := 2) (cd := c_laws_FnExactLogEntry) (rs := r_laws_FnExactLogEntry) (enc := e_laws_FnExactLogEntry) mixed so35 Tryd.func5 (by kernel_rfl) (by kernel_rfl) (by kernel_rfl) (by kernel_rfl) (by kernel_rfl) (by kernel_rfl) (wk := fun y => nocap y) Same.nocap ?_
  intro a out ho
  obtain ⟨r, h1, h2⟩ := Option.bind_eq_some_iff.mp ho
  obtain ⟨hp, rfl⟩ := under_some h1
  obtain ⟨N, hN⟩ := p_laws_FnExactLogEntry S_laws_szOutcomeS (fun _ _ h => under_pos h) S_laws_toOutcomeS (fun _ h => under_pos h) S_spec_LogEntry (fun _ _ h => under_pos h) S_impl_LogEntry (fun _ _ h => under_pos h) S_laws_eqOutcomeS (fun _ _ h => under_pos h) a.1 a.2 hp
  refine ⟨N, ?_⟩
  refine ((callF_G (fun y => some (nocap y)) 2 c_laws_FnExactLogEntry r_laws_FnExactLogEntry (e_laws_FnExactLogEntry a) ⟨rfl, rfl, rfl⟩).trans (laws_FnExactLogEntry_g ⟨G35, [], [], [], N, r_laws_FnExactLogEntry, none, fun _ _ => none, fun y => some (nocap y)⟩ ⟨rfl, rfl, rfl, rfl, rfl, fun _ => rfl, fun _ => rfl⟩ S_laws_szOutcomeS ⟨rfl, (fun a0 a1 => (show G35 16 _ = _ from rfl).trans (C_laws_szOutcomeS_eq a0 a1))⟩ S_laws_toOutcomeS ⟨rfl, (fun a0 => (show G35 18 _ = _ from rfl).trans (C_laws_toOutcomeS_eq a0))⟩ S_spec_LogEntry ⟨rfl, (fun a0 a1 => (show G35 17 _ = _ from rfl).trans (C_spec_LogEntry_eq a0 a1))⟩ S_impl_LogEntry ⟨rfl, (fun a0 a1 => (show G35 19 _ = _ from rfl).trans (C_impl_LogEntry_eq a0 a1))⟩ S_laws_eqOutcomeS ⟨rfl, (fun a0 a1 => (show G35 20 _ = _ from rfl).trans (C_laws_eqOutcomeS_eq a0 a1))⟩ a.1 a.2)).trans ?_
  show (laws_FnExactLogEntry_f S_laws_szOutcomeS S_laws_toOutcomeS S_spec_LogEntry S_impl_LogEntry S_laws_eqOutcomeS N a.1 a.2).bind _ = _
  rw [hN]; exact h2
theorem law : Sound Tryd.prog 5 C_laws_FnExactLogEntry := by
  have h := so36 5
  exact h
end Go.Proofs.YtbfmeoiblppnbaaDoor.TowLog
