/- The contracts of the functions under laws_FnExactRecover, one upon the other. Printed by a program of this session. -/
import Derived.Test.YtbfmeoiblppnbaaFRec
import Derived.Test.YtbfmeoiblppnbaaPRec
import Derived.Test.YtbfmeoiblppnbaaVmLayer
import Derived.Test.YtbfmeoiblppnbaaProg
set_option linter.all false
set_option maxRecDepth 100000
namespace Go.Proofs.Ytbfmeoiblppnbaa.TowRec
open Go.Vm
instance gl : Gl := ⟨0, fun _ => none⟩
theorem mixed : Try.prog.follows .mixedOrders = true := by kernel_rfl
noncomputable def G0 : Ctx := Γ0 flatIds
theorem so0 : SoundAll Try.prog G0 := Γ0_sound _ _
-- loop.example/s02135/laws.szFile
noncomputable def S_laws_szFile (a0_Name : List UInt8) (a0_Data : List UInt8) (a1 : Int) : Option (Int) := under (pre_laws_szFile a0_Name a0_Data a1) (s_laws_szFile a0_Name a0_Data a1)
def e_laws_szFile (a : (List UInt8) × (List UInt8) × Int) : List X := [.agg [.d (sD a.1), .d (sD a.2.1)], .d (.int .i64 a.2.2)]
noncomputable def C_laws_szFile : List X → Option XOut := lay e_laws_szFile fun a => ((S_laws_szFile a.1 a.2.1 a.2.2)).bind fun r => some (.ret (.d (.int .i64 r)) [])
theorem C_laws_szFile_eq (a0_Name : List UInt8) (a0_Data : List UInt8) (a1 : Int) : C_laws_szFile [.agg [.d (sD a0_Name), .d (sD a0_Data)], .d (.int .i64 a1)] = ((S_laws_szFile a0_Name a0_Data a1)).bind fun r => some (.ret (.d (.int .i64 r)) []) := lay_eq (enc := e_laws_szFile) (by
  intro a b h
  simp only [e_laws_szFile, List.cons.injEq, X.d.injEq, X.agg.injEq, X.box.injEq, D.int.injEq, D.bool.injEq, D.fn.injEq, sD_inj, lstT_inj, ownT_inj, and_true, true_and, and_assoc] at h
  simp only [Prod.ext_iff]; exact h) (a0_Name, a0_Data, a1)
noncomputable def G1 : Ctx := G0.with 75 C_laws_szFile
theorem so1 : SoundAll Try.prog G1 := by
  refine layer (cuts := []) (k := 2) (cd := c_laws_szFile) (rs := r_laws_szFile) (enc := e_laws_szFile) mixed so0 Try.func75 (by kernel_rfl) (by kernel_rfl) (by kernel_rfl) (by kernel_rfl) (by kernel_rfl) (by kernel_rfl) (wk := fun y => nocap y) Same.nocap ?_
  intro a out ho
  obtain ⟨r, h1, h2⟩ := Option.bind_eq_some_iff.mp ho
  obtain ⟨hp, rfl⟩ := under_some h1
  obtain ⟨N, hN⟩ := p_laws_szFile a.1 a.2.1 a.2.2 hp
  refine ⟨N, ?_⟩
  refine ((callF_G (fun y => some (nocap y)) 2 c_laws_szFile r_laws_szFile (e_laws_szFile a) ⟨rfl, rfl, rfl⟩).trans (laws_szFile_g ⟨G0, [], [], [], N, r_laws_szFile, none, fun _ _ => none, fun y => some (nocap y)⟩ ⟨rfl, rfl, rfl, rfl, rfl, fun _ => rfl, fun _ => rfl⟩ a.1 a.2.1 a.2.2)).trans ?_
  show (laws_szFile_f N a.1 a.2.1 a.2.2).bind _ = _
  rw [hN]; exact h2
-- loop.example/s02135/laws.szFileS
noncomputable def S_laws_szFileS (a0 : List TFile) (a1 : Int) : Option (Int) := under (pre_laws_szFileS a0 a1) (s_laws_szFileS a0 a1)
def e_laws_szFileS (a : (List TFile) × Int) : List X := [.d (lstT cFile a.1), .d (.int .i64 a.2)]
noncomputable def C_laws_szFileS : List X → Option XOut := lay e_laws_szFileS fun a => ((S_laws_szFileS a.1 a.2)).bind fun r => some (.ret (.d (.int .i64 r)) [])
theorem C_laws_szFileS_eq (a0 : List TFile) (a1 : Int) : C_laws_szFileS [.d (lstT cFile a0), .d (.int .i64 a1)] = ((S_laws_szFileS a0 a1)).bind fun r => some (.ret (.d (.int .i64 r)) []) := lay_eq (enc := e_laws_szFileS) (by
  intro a b h
  simp only [e_laws_szFileS, List.cons.injEq, X.d.injEq, X.agg.injEq, X.box.injEq, D.int.injEq, D.bool.injEq, D.fn.injEq, sD_inj, lstT_inj, ownT_inj, and_true, true_and, and_assoc] at h
  simp only [Prod.ext_iff]; exact h) (a0, a1)
noncomputable def G2 : Ctx := G1.with 22 C_laws_szFileS
theorem so2 : SoundAll Try.prog G2 := by
  refine layer (cuts := []) (k := 2) (cd := c_laws_szFileS) (rs := r_laws_szFileS) (enc := e_laws_szFileS) mixed so1 Try.func22 (by kernel_rfl) (by kernel_rfl) (by kernel_rfl) (by kernel_rfl) (by kernel_rfl) (by kernel_rfl) (wk := fun y => nocap y) Same.nocap ?_
  intro a out ho
  obtain ⟨r, h1, h2⟩ := Option.bind_eq_some_iff.mp ho
  obtain ⟨hp, rfl⟩ := under_some h1
  obtain ⟨N, hN⟩ := p_laws_szFileS S_laws_szFile (fun _ _ _ h => under_pos h) a.1 a.2 hp
  refine ⟨N, ?_⟩
  refine ((callF_G (fun y => some (nocap y)) 2 c_laws_szFileS r_laws_szFileS (e_laws_szFileS a) ⟨rfl, rfl, rfl⟩).trans (laws_szFileS_g ⟨G1, [], [], [], N, r_laws_szFileS, none, fun _ _ => none, fun y => some (nocap y)⟩ ⟨rfl, rfl, rfl, rfl, rfl, fun _ => rfl, fun _ => rfl⟩ S_laws_szFile ⟨rfl, (fun a0_Name a0_Data a1 => (show G1 75 _ = _ from rfl).trans (C_laws_szFile_eq a0_Name a0_Data a1))⟩ a.1 a.2)).trans ?_
  show (laws_szFileS_f S_laws_szFile N a.1 a.2).bind _ = _
  rw [hN]; exact h2
-- loop.example/s02135/laws.szDisk
noncomputable def S_laws_szDisk (a0_Files : List TFile) (a1 : Int) : Option (Int) := under (pre_laws_szDisk a0_Files a1) (s_laws_szDisk a0_Files a1)
def e_laws_szDisk (a : (List TFile) × Int) : List X := [.agg [.d (lstT cFile a.1)], .d (.int .i64 a.2)]
noncomputable def C_laws_szDisk : List X → Option XOut := lay e_laws_szDisk fun a => ((S_laws_szDisk a.1 a.2)).bind fun r => some (.ret (.d (.int .i64 r)) [])
theorem C_laws_szDisk_eq (a0_Files : List TFile) (a1 : Int) : C_laws_szDisk [.agg [.d (lstT cFile a0_Files)], .d (.int .i64 a1)] = ((S_laws_szDisk a0_Files a1)).bind fun r => some (.ret (.d (.int .i64 r)) []) := lay_eq (enc := e_laws_szDisk) (by
  intro a b h
  simp only [e_laws_szDisk, List.cons.injEq, X.d.injEq, X.agg.injEq, X.box.injEq, D.int.injEq, D.bool.injEq, D.fn.injEq, sD_inj, lstT_inj, ownT_inj, and_true, true_and, and_assoc] at h
  simp only [Prod.ext_iff]; exact h) (a0_Files, a1)
noncomputable def G3 : Ctx := G2.with 6 C_laws_szDisk
theorem so3 : SoundAll Try.prog G3 := by
  refine layer (cuts := []) (k := 2) (cd := c_laws_szDisk) (rs := r_laws_szDisk) (enc := e_laws_szDisk) mixed so2 Try.func6 (by kernel_rfl) (by kernel_rfl) (by kernel_rfl) (by kernel_rfl) (by kernel_rfl) (by kernel_rfl) (wk := fun y => nocap y) Same.nocap ?_
  intro a out ho
  obtain ⟨r, h1, h2⟩ := Option.bind_eq_some_iff.mp ho
  obtain ⟨hp, rfl⟩ := under_some h1
  obtain ⟨N, hN⟩ := p_laws_szDisk S_laws_szFileS (fun _ _ h => under_pos h) a.1 a.2 hp
  refine ⟨N, ?_⟩
  refine ((callF_G (fun y => some (nocap y)) 2 c_laws_szDisk r_laws_szDisk (e_laws_szDisk a) ⟨rfl, rfl, rfl⟩).trans (laws_szDisk_g ⟨G2, [], [], [], N, r_laws_szDisk, none, fun _ _ => none, fun y => some (nocap y)⟩ ⟨rfl, rfl, rfl, rfl, rfl, fun _ => rfl, fun _ => rfl⟩ S_laws_szFileS ⟨rfl, (fun a0 a1 => (show G2 22 _ = _ from rfl).trans (C_laws_szFileS_eq a0 a1))⟩ a.1 a.2)).trans ?_
  show (laws_szDisk_f S_laws_szFileS N a.1 a.2).bind _ = _
  rw [hN]; exact h2
-- loop.example/s02135/laws.toFile
noncomputable def S_laws_toFile (a0_Name : List UInt8) (a0_Data : List UInt8) : Option (List UInt8 × List UInt8) := under (pre_laws_toFile a0_Name a0_Data) (s_laws_toFile a0_Name a0_Data)
def e_laws_toFile (a : (List UInt8) × (List UInt8)) : List X := [.agg [.d (sD a.1), .d (sD a.2)]]
noncomputable def C_laws_toFile : List X → Option XOut := lay e_laws_toFile fun a => ((S_laws_toFile a.1 a.2)).bind fun r => some (.ret (.agg [.d (sD r.1), .d (sD r.2)]) [])
theorem C_laws_toFile_eq (a0_Name : List UInt8) (a0_Data : List UInt8) : C_laws_toFile [.agg [.d (sD a0_Name), .d (sD a0_Data)]] = ((S_laws_toFile a0_Name a0_Data)).bind fun r => some (.ret (.agg [.d (sD r.1), .d (sD r.2)]) []) := lay_eq (enc := e_laws_toFile) (by
  intro a b h
  simp only [e_laws_toFile, List.cons.injEq, X.d.injEq, X.agg.injEq, X.box.injEq, D.int.injEq, D.bool.injEq, D.fn.injEq, sD_inj, lstT_inj, ownT_inj, and_true, true_and, and_assoc] at h
  simp only [Prod.ext_iff]; exact h) (a0_Name, a0_Data)
noncomputable def G4 : Ctx := G3.with 77 C_laws_toFile
theorem so4 : SoundAll Try.prog G4 := by
  refine layer (cuts := []) (k := 1) (cd := c_laws_toFile) (rs := r_laws_toFile) (enc := e_laws_toFile) mixed so3 Try.func77 (by kernel_rfl) (by kernel_rfl) (by kernel_rfl) (by kernel_rfl) (by kernel_rfl) (by kernel_rfl) (wk := fun y => nocap y) Same.nocap ?_
  intro a out ho
  obtain ⟨r, h1, h2⟩ := Option.bind_eq_some_iff.mp ho
  obtain ⟨hp, rfl⟩ := under_some h1
  obtain ⟨N, hN⟩ := p_laws_toFile a.1 a.2 hp
  refine ⟨N, ?_⟩
  refine ((callF_G (fun y => some (nocap y)) 1 c_laws_toFile r_laws_toFile (e_laws_toFile a) ⟨rfl, rfl, rfl⟩).trans (laws_toFile_g ⟨G3, [], [], [], N, r_laws_toFile, none, fun _ _ => none, fun y => some (nocap y)⟩ ⟨rfl, rfl, rfl, rfl, rfl, fun _ => rfl, fun _ => rfl⟩ a.1 a.2)).trans ?_
  show (laws_toFile_f N a.1 a.2).bind _ = _
  rw [hN]; exact h2
-- loop.example/s02135/laws.toFileS
noncomputable def S_laws_toFileS (a0 : List TFile) : Option (List TFile) := under (pre_laws_toFileS a0) (s_laws_toFileS a0)
def e_laws_toFileS (a : (List TFile)) : List X := [.d (lstT cFile a)]
noncomputable def C_laws_toFileS : List X → Option XOut := lay e_laws_toFileS fun a => ((S_laws_toFileS a)).bind fun r => some (.ret (ownT (cFile) 53 none false r) [])
theorem C_laws_toFileS_eq (a0 : List TFile) : C_laws_toFileS [.d (lstT cFile a0)] = ((S_laws_toFileS a0)).bind fun r => some (.ret (ownT (cFile) 53 none false r) []) := lay_eq (enc := e_laws_toFileS) (by
  intro a b h
  simp only [e_laws_toFileS, List.cons.injEq, X.d.injEq, X.agg.injEq, X.box.injEq, D.int.injEq, D.bool.injEq, D.fn.injEq, sD_inj, lstT_inj, ownT_inj, and_true, true_and, and_assoc] at h
  exact h) a0
noncomputable def G5 : Ctx := G4.with 26 C_laws_toFileS
theorem so5 : SoundAll Try.prog G5 := by
  refine layer (cuts := []) (k := 1) (cd := c_laws_toFileS) (rs := r_laws_toFileS) (enc := e_laws_toFileS) mixed so4 Try.func26 (by kernel_rfl) (by kernel_rfl) (by kernel_rfl) (by kernel_rfl) (by kernel_rfl) (by kernel_rfl) (wk := fun y => nocap y) Same.nocap ?_
  intro a out ho
  obtain ⟨r, h1, h2⟩ := Option.bind_eq_some_iff.mp ho
  obtain ⟨hp, rfl⟩ := under_some h1
  obtain ⟨N, hN⟩ := p_laws_toFileS S_laws_toFile (fun _ _ h => under_pos h) a hp
  refine ⟨N, ?_⟩
  refine ((callF_G (fun y => some (nocap y)) 1 c_laws_toFileS r_laws_toFileS (e_laws_toFileS a) ⟨rfl, rfl, rfl⟩).trans (laws_toFileS_g ⟨G4, [], [], [], N, r_laws_toFileS, none, fun _ _ => none, fun y => some (nocap y)⟩ ⟨rfl, rfl, rfl, rfl, rfl, fun _ => rfl, fun _ => rfl⟩ S_laws_toFile ⟨rfl, (fun a0_Name a0_Data => (show G4 77 _ = _ from rfl).trans (C_laws_toFile_eq a0_Name a0_Data))⟩ a)).trans ?_
  show (laws_toFileS_f S_laws_toFile N a).bind _ = _
  rw [hN]; exact h2
-- loop.example/s02135/laws.toDisk
noncomputable def S_laws_toDisk (a0_Files : List TFile) : Option (List TFile) := under (pre_laws_toDisk a0_Files) (s_laws_toDisk a0_Files)
def e_laws_toDisk (a : (List TFile)) : List X := [.agg [.d (lstT cFile a)]]
noncomputable def C_laws_toDisk : List X → Option XOut := lay e_laws_toDisk fun a => ((S_laws_toDisk a)).bind fun r => some (.ret (.agg [ownT (cFile) 53 none false r]) [])
theorem C_laws_toDisk_eq (a0_Files : List TFile) : C_laws_toDisk [.agg [.d (lstT cFile a0_Files)]] = ((S_laws_toDisk a0_Files)).bind fun r => some (.ret (.agg [ownT (cFile) 53 none false r]) []) := lay_eq (enc := e_laws_toDisk) (by
  intro a b h
  simp only [e_laws_toDisk, List.cons.injEq, X.d.injEq, X.agg.injEq, X.box.injEq, D.int.injEq, D.bool.injEq, D.fn.injEq, sD_inj, lstT_inj, ownT_inj, and_true, true_and, and_assoc] at h
  exact h) a0_Files
noncomputable def G6 : Ctx := G5.with 8 C_laws_toDisk
theorem so6 : SoundAll Try.prog G6 := by
  refine layer (cuts := []) (k := 1) (cd := c_laws_toDisk) (rs := r_laws_toDisk) (enc := e_laws_toDisk) mixed so5 Try.func8 (by kernel_rfl) (by kernel_rfl) (by kernel_rfl) (by kernel_rfl) (by kernel_rfl) (by kernel_rfl) (wk := fun y => nocap y) Same.nocap ?_
  intro a out ho
  obtain ⟨r, h1, h2⟩ := Option.bind_eq_some_iff.mp ho
  obtain ⟨hp, rfl⟩ := under_some h1
  obtain ⟨N, hN⟩ := p_laws_toDisk S_laws_toFileS (fun _ h => under_pos h) a hp
  refine ⟨N, ?_⟩
  refine ((callF_G (fun y => some (nocap y)) 1 c_laws_toDisk r_laws_toDisk (e_laws_toDisk a) ⟨rfl, rfl, rfl⟩).trans (laws_toDisk_g ⟨G5, [], [], [], N, r_laws_toDisk, none, fun _ _ => none, fun y => some (nocap y)⟩ ⟨rfl, rfl, rfl, rfl, rfl, fun _ => rfl, fun _ => rfl⟩ S_laws_toFileS ⟨rfl, (fun a0 => (show G5 26 _ = _ from rfl).trans (C_laws_toFileS_eq a0))⟩ a)).trans ?_
  show (laws_toDisk_f S_laws_toFileS N a).bind _ = _
  rw [hN]; exact h2
-- loop.example/s02135/spec.l3Digit
noncomputable def S_spec_l3Digit (a0 : Int) : Option (Bool) := under (pre_spec_l3Digit a0) (s_spec_l3Digit a0)
def e_spec_l3Digit (a : Int) : List X := [.d (.int .u8 a)]
noncomputable def C_spec_l3Digit : List X → Option XOut := lay e_spec_l3Digit fun a => ((S_spec_l3Digit a)).bind fun r => some (.ret (.d (.bool r)) [])
theorem C_spec_l3Digit_eq (a0 : Int) : C_spec_l3Digit [.d (.int .u8 a0)] = ((S_spec_l3Digit a0)).bind fun r => some (.ret (.d (.bool r)) []) := lay_eq (enc := e_spec_l3Digit) (by
  intro a b h
  simp only [e_spec_l3Digit, List.cons.injEq, X.d.injEq, X.agg.injEq, X.box.injEq, D.int.injEq, D.bool.injEq, D.fn.injEq, sD_inj, lstT_inj, ownT_inj, and_true, true_and, and_assoc] at h
  exact h) a0
noncomputable def G7 : Ctx := G6.with 105 C_spec_l3Digit
theorem so7 : SoundAll Try.prog G7 := by
  refine layer (cuts := []) (k := 1) (cd := c_spec_l3Digit) (rs := r_spec_l3Digit) (enc := e_spec_l3Digit) mixed so6 Try.func105 (by kernel_rfl) (by kernel_rfl) (by kernel_rfl) (by kernel_rfl) (by kernel_rfl) (by kernel_rfl) (wk := fun y => nocap y) Same.nocap ?_
  intro a out ho
  obtain ⟨r, h1, h2⟩ := Option.bind_eq_some_iff.mp ho
  obtain ⟨hp, rfl⟩ := under_some h1
  obtain ⟨N, hN⟩ := p_spec_l3Digit a hp
  refine ⟨N, ?_⟩
  refine ((callF_G (fun y => some (nocap y)) 1 c_spec_l3Digit r_spec_l3Digit (e_spec_l3Digit a) ⟨rfl, rfl, rfl⟩).trans (spec_l3Digit_g ⟨G6, [], [], [], N, r_spec_l3Digit, none, fun _ _ => none, fun y => some (nocap y)⟩ ⟨rfl, rfl, rfl, rfl, rfl, fun _ => rfl, fun _ => rfl⟩ a)).trans ?_
  show (spec_l3Digit_f N a).bind _ = _
  rw [hN]; exact h2
-- loop.example/s02135/spec.l3Letter
noncomputable def S_spec_l3Letter (a0 : Int) : Option (Bool) := under (pre_spec_l3Letter a0) (s_spec_l3Letter a0)
def e_spec_l3Letter (a : Int) : List X := [.d (.int .u8 a)]
noncomputable def C_spec_l3Letter : List X → Option XOut := lay e_spec_l3Letter fun a => ((S_spec_l3Letter a)).bind fun r => some (.ret (.d (.bool r)) [])
theorem C_spec_l3Letter_eq (a0 : Int) : C_spec_l3Letter [.d (.int .u8 a0)] = ((S_spec_l3Letter a0)).bind fun r => some (.ret (.d (.bool r)) []) := lay_eq (enc := e_spec_l3Letter) (by
  intro a b h
  simp only [e_spec_l3Letter, List.cons.injEq, X.d.injEq, X.agg.injEq, X.box.injEq, D.int.injEq, D.bool.injEq, D.fn.injEq, sD_inj, lstT_inj, ownT_inj, and_true, true_and, and_assoc] at h
  exact h) a0
noncomputable def G8 : Ctx := G7.with 106 C_spec_l3Letter
theorem so8 : SoundAll Try.prog G8 := by
  refine layer (cuts := []) (k := 1) (cd := c_spec_l3Letter) (rs := r_spec_l3Letter) (enc := e_spec_l3Letter) mixed so7 Try.func106 (by kernel_rfl) (by kernel_rfl) (by kernel_rfl) (by kernel_rfl) (by kernel_rfl) (by kernel_rfl) (wk := fun y => nocap y) Same.nocap ?_
  intro a out ho
  obtain ⟨r, h1, h2⟩ := Option.bind_eq_some_iff.mp ho
  obtain ⟨hp, rfl⟩ := under_some h1
  obtain ⟨N, hN⟩ := p_spec_l3Letter a hp
  refine ⟨N, ?_⟩
  refine ((callF_G (fun y => some (nocap y)) 1 c_spec_l3Letter r_spec_l3Letter (e_spec_l3Letter a) ⟨rfl, rfl, rfl⟩).trans (spec_l3Letter_g ⟨G7, [], [], [], N, r_spec_l3Letter, none, fun _ _ => none, fun y => some (nocap y)⟩ ⟨rfl, rfl, rfl, rfl, rfl, fun _ => rfl, fun _ => rfl⟩ a)).trans ?_
  show (spec_l3Letter_f N a).bind _ = _
  rw [hN]; exact h2
-- loop.example/s02135/spec.l7NameOk
noncomputable def S_spec_l7NameOk (a0 : List UInt8) : Option (Bool) := under (pre_spec_l7NameOk a0) (s_spec_l7NameOk a0)
def e_spec_l7NameOk (a : (List UInt8)) : List X := [.d (sD a)]
noncomputable def C_spec_l7NameOk : List X → Option XOut := lay e_spec_l7NameOk fun a => ((S_spec_l7NameOk a)).bind fun r => some (.ret (.d (.bool r)) [])
theorem C_spec_l7NameOk_eq (a0 : List UInt8) : C_spec_l7NameOk [.d (sD a0)] = ((S_spec_l7NameOk a0)).bind fun r => some (.ret (.d (.bool r)) []) := lay_eq (enc := e_spec_l7NameOk) (by
  intro a b h
  simp only [e_spec_l7NameOk, List.cons.injEq, X.d.injEq, X.agg.injEq, X.box.injEq, D.int.injEq, D.bool.injEq, D.fn.injEq, sD_inj, lstT_inj, ownT_inj, and_true, true_and, and_assoc] at h
  exact h) a0
noncomputable def G9 : Ctx := G8.with 76 C_spec_l7NameOk
theorem so9 : SoundAll Try.prog G9 := by
  refine layer (cuts := []) (k := 1) (cd := c_spec_l7NameOk) (rs := r_spec_l7NameOk) (enc := e_spec_l7NameOk) mixed so8 Try.func76 (by kernel_rfl) (by kernel_rfl) (by kernel_rfl) (by kernel_rfl) (by kernel_rfl) (by kernel_rfl) (wk := fun y => nocap y) Same.nocap ?_
  intro a out ho
  obtain ⟨r, h1, h2⟩ := Option.bind_eq_some_iff.mp ho
  obtain ⟨hp, rfl⟩ := under_some h1
  obtain ⟨N, hN⟩ := p_spec_l7NameOk S_spec_l3Digit (fun _ h => under_pos h) S_spec_l3Letter (fun _ h => under_pos h) a hp
  refine ⟨N, ?_⟩
  refine ((callF_G (fun y => some (nocap y)) 1 c_spec_l7NameOk r_spec_l7NameOk (e_spec_l7NameOk a) ⟨rfl, rfl, rfl⟩).trans (spec_l7NameOk_g ⟨G8, [], [], [], N, r_spec_l7NameOk, none, fun _ _ => none, fun y => some (nocap y)⟩ ⟨rfl, rfl, rfl, rfl, rfl, fun _ => rfl, fun _ => rfl⟩ S_spec_l3Digit ⟨rfl, (fun a0 => (show G8 105 _ = _ from rfl).trans (C_spec_l3Digit_eq a0))⟩ S_spec_l3Letter ⟨rfl, (fun a0 => (show G8 106 _ = _ from rfl).trans (C_spec_l3Letter_eq a0))⟩ a)).trans ?_
  show (spec_l7NameOk_f S_spec_l3Digit S_spec_l3Letter N a).bind _ = _
  rw [hN]; exact h2
-- loop.example/s02135/spec.DiskOk
noncomputable def S_spec_DiskOk (a0_Files : List TFile) : Option (Bool) := under (pre_spec_DiskOk a0_Files) (s_spec_DiskOk a0_Files)
def e_spec_DiskOk (a : (List TFile)) : List X := [.agg [.d (lstT cFile a)]]
noncomputable def C_spec_DiskOk : List X → Option XOut := lay e_spec_DiskOk fun a => ((S_spec_DiskOk a)).bind fun r => some (.ret (.d (.bool r)) [])
theorem C_spec_DiskOk_eq (a0_Files : List TFile) : C_spec_DiskOk [.agg [.d (lstT cFile a0_Files)]] = ((S_spec_DiskOk a0_Files)).bind fun r => some (.ret (.d (.bool r)) []) := lay_eq (enc := e_spec_DiskOk) (by
  intro a b h
  simp only [e_spec_DiskOk, List.cons.injEq, X.d.injEq, X.agg.injEq, X.box.injEq, D.int.injEq, D.bool.injEq, D.fn.injEq, sD_inj, lstT_inj, ownT_inj, and_true, true_and, and_assoc] at h
  exact h) a0_Files
noncomputable def G10 : Ctx := G9.with 23 C_spec_DiskOk
theorem so10 : SoundAll Try.prog G10 := by
  refine layer (cuts := []) (k := 1) (cd := c_spec_DiskOk) (rs := r_spec_DiskOk) (enc := e_spec_DiskOk) mixed so9 Try.func23 (by kernel_rfl) (by kernel_rfl) (by kernel_rfl) (by kernel_rfl) (by kernel_rfl) (by kernel_rfl) (wk := fun y => nocap y) Same.nocap ?_
  intro a out ho
  obtain ⟨r, h1, h2⟩ := Option.bind_eq_some_iff.mp ho
  obtain ⟨hp, rfl⟩ := under_some h1
  obtain ⟨N, hN⟩ := p_spec_DiskOk S_spec_l7NameOk (fun _ h => under_pos h) a hp
  refine ⟨N, ?_⟩
  refine ((callF_G (fun y => some (nocap y)) 1 c_spec_DiskOk r_spec_DiskOk (e_spec_DiskOk a) ⟨rfl, rfl, rfl⟩).trans (spec_DiskOk_g ⟨G9, [], [], [], N, r_spec_DiskOk, none, fun _ _ => none, fun y => some (nocap y)⟩ ⟨rfl, rfl, rfl, rfl, rfl, fun _ => rfl, fun _ => rfl⟩ S_spec_l7NameOk ⟨rfl, (fun a0 => (show G9 76 _ = _ from rfl).trans (C_spec_l7NameOk_eq a0))⟩ a)).trans ?_
  show (spec_DiskOk_f S_spec_l7NameOk N a).bind _ = _
  rw [hN]; exact h2
-- loop.example/s02135/spec.l7Copy
noncomputable def S_spec_l7Copy (a0_Files : List TFile) : Option (List TFile) := under (pre_spec_l7Copy a0_Files) (s_spec_l7Copy a0_Files)
def e_spec_l7Copy (a : (List TFile)) : List X := [.agg [.d (lstT cFile a)]]
noncomputable def C_spec_l7Copy : List X → Option XOut := lay e_spec_l7Copy fun a => ((S_spec_l7Copy a)).bind fun r => some (.ret (.agg [ownT (cFile) 53 none false r]) [])
theorem C_spec_l7Copy_eq (a0_Files : List TFile) : C_spec_l7Copy [.agg [.d (lstT cFile a0_Files)]] = ((S_spec_l7Copy a0_Files)).bind fun r => some (.ret (.agg [ownT (cFile) 53 none false r]) []) := lay_eq (enc := e_spec_l7Copy) (by
  intro a b h
  simp only [e_spec_l7Copy, List.cons.injEq, X.d.injEq, X.agg.injEq, X.box.injEq, D.int.injEq, D.bool.injEq, D.fn.injEq, sD_inj, lstT_inj, ownT_inj, and_true, true_and, and_assoc] at h
  exact h) a0_Files
noncomputable def G11 : Ctx := G10.with 24 C_spec_l7Copy
theorem so11 : SoundAll Try.prog G11 := by
  refine layer (cuts := []) (k := 1) (cd := c_spec_l7Copy) (rs := r_spec_l7Copy) (enc := e_spec_l7Copy) mixed so10 Try.func24 (by kernel_rfl) (by kernel_rfl) (by kernel_rfl) (by kernel_rfl) (by kernel_rfl) (by kernel_rfl) (wk := fun y => nocap y) Same.nocap ?_
  intro a out ho
  obtain ⟨r, h1, h2⟩ := Option.bind_eq_some_iff.mp ho
  obtain ⟨hp, rfl⟩ := under_some h1
  obtain ⟨N, hN⟩ := p_spec_l7Copy a hp
  refine ⟨N, ?_⟩
  refine ((callF_G (fun y => some (nocap y)) 1 c_spec_l7Copy r_spec_l7Copy (e_spec_l7Copy a) ⟨rfl, rfl, rfl⟩).trans (spec_l7Copy_g ⟨G10, [], [], [], N, r_spec_l7Copy, none, fun _ _ => none, fun y => some (nocap y)⟩ ⟨rfl, rfl, rfl, rfl, rfl, fun _ => rfl, fun _ => rfl⟩ a)).trans ?_
  show (spec_l7Copy_f N a).bind _ = _
  rw [hN]; exact h2
-- loop.example/s02135/spec.l7IsTmp
noncomputable def S_spec_l7IsTmp (a0 : List UInt8) : Option (Bool) := under (pre_spec_l7IsTmp a0) (s_spec_l7IsTmp a0)
def e_spec_l7IsTmp (a : (List UInt8)) : List X := [.d (sD a)]
noncomputable def C_spec_l7IsTmp : List X → Option XOut := lay e_spec_l7IsTmp fun a => ((S_spec_l7IsTmp a)).bind fun r => some (.ret (.d (.bool r)) [])
theorem C_spec_l7IsTmp_eq (a0 : List UInt8) : C_spec_l7IsTmp [.d (sD a0)] = ((S_spec_l7IsTmp a0)).bind fun r => some (.ret (.d (.bool r)) []) := lay_eq (enc := e_spec_l7IsTmp) (by
  intro a b h
  simp only [e_spec_l7IsTmp, List.cons.injEq, X.d.injEq, X.agg.injEq, X.box.injEq, D.int.injEq, D.bool.injEq, D.fn.injEq, sD_inj, lstT_inj, ownT_inj, and_true, true_and, and_assoc] at h
  exact h) a0
noncomputable def G12 : Ctx := G11.with 25 C_spec_l7IsTmp
theorem so12 : SoundAll Try.prog G12 := by
  refine layer (cuts := []) (k := 1) (cd := c_spec_l7IsTmp) (rs := r_spec_l7IsTmp) (enc := e_spec_l7IsTmp) mixed so11 Try.func25 (by kernel_rfl) (by kernel_rfl) (by kernel_rfl) (by kernel_rfl) (by kernel_rfl) (by kernel_rfl) (wk := fun y => nocap y) Same.nocap ?_
  intro a out ho
  obtain ⟨r, h1, h2⟩ := Option.bind_eq_some_iff.mp ho
  obtain ⟨hp, rfl⟩ := under_some h1
  obtain ⟨N, hN⟩ := p_spec_l7IsTmp a hp
  refine ⟨N, ?_⟩
  refine ((callF_G (fun y => some (nocap y)) 1 c_spec_l7IsTmp r_spec_l7IsTmp (e_spec_l7IsTmp a) ⟨rfl, rfl, rfl⟩).trans (spec_l7IsTmp_g ⟨G11, [], [], [], N, r_spec_l7IsTmp, none, fun _ _ => none, fun y => some (nocap y)⟩ ⟨rfl, rfl, rfl, rfl, rfl, fun _ => rfl, fun _ => rfl⟩ a)).trans ?_
  show (spec_l7IsTmp_f N a).bind _ = _
  rw [hN]; exact h2
-- loop.example/s02135/spec.Recover
noncomputable def S_spec_Recover (a0_Files : List TFile) : Option (List TFile × Bool) := under (pre_spec_Recover a0_Files) (s_spec_Recover a0_Files)
def e_spec_Recover (a : (List TFile)) : List X := [.agg [.d (lstT cFile a)]]
noncomputable def C_spec_Recover : List X → Option XOut := lay e_spec_Recover fun a => ((S_spec_Recover a)).bind fun r => some (.ret (.tup [.agg [ownT (cFile) 53 none false r.1], .d (.bool r.2)]) [])
theorem C_spec_Recover_eq (a0_Files : List TFile) : C_spec_Recover [.agg [.d (lstT cFile a0_Files)]] = ((S_spec_Recover a0_Files)).bind fun r => some (.ret (.tup [.agg [ownT (cFile) 53 none false r.1], .d (.bool r.2)]) []) := lay_eq (enc := e_spec_Recover) (by
  intro a b h
  simp only [e_spec_Recover, List.cons.injEq, X.d.injEq, X.agg.injEq, X.box.injEq, D.int.injEq, D.bool.injEq, D.fn.injEq, sD_inj, lstT_inj, ownT_inj, and_true, true_and, and_assoc] at h
  exact h) a0_Files
noncomputable def G13 : Ctx := G12.with 7 C_spec_Recover
theorem so13 : SoundAll Try.prog G13 := by
  refine layer (cuts := []) (k := 1) (cd := c_spec_Recover) (rs := r_spec_Recover) (enc := e_spec_Recover) mixed so12 Try.func7 (by kernel_rfl) (by kernel_rfl) (by kernel_rfl) (by kernel_rfl) (by kernel_rfl) (by kernel_rfl) (wk := fun y => nocap y) Same.nocap ?_
  intro a out ho
  obtain ⟨r, h1, h2⟩ := Option.bind_eq_some_iff.mp ho
  obtain ⟨hp, rfl⟩ := under_some h1
  obtain ⟨N, hN⟩ := p_spec_Recover S_spec_DiskOk (fun _ h => under_pos h) S_spec_l7Copy (fun _ h => under_pos h) S_spec_l7IsTmp (fun _ h => under_pos h) a hp
  refine ⟨N, ?_⟩
  refine ((callF_G (fun y => some (nocap y)) 1 c_spec_Recover r_spec_Recover (e_spec_Recover a) ⟨rfl, rfl, rfl⟩).trans (spec_Recover_g ⟨G12, [], [], [], N, r_spec_Recover, none, fun _ _ => none, fun y => some (nocap y)⟩ ⟨rfl, rfl, rfl, rfl, rfl, fun _ => rfl, fun _ => rfl⟩ S_spec_DiskOk ⟨rfl, (fun a0_Files => (show G12 23 _ = _ from rfl).trans (C_spec_DiskOk_eq a0_Files))⟩ S_spec_l7Copy ⟨rfl, (fun a0_Files => (show G12 24 _ = _ from rfl).trans (C_spec_l7Copy_eq a0_Files))⟩ S_spec_l7IsTmp ⟨rfl, (fun a0 => (show G12 25 _ = _ from rfl).trans (C_spec_l7IsTmp_eq a0))⟩ a)).trans ?_
  show (spec_Recover_f S_spec_DiskOk S_spec_l7Copy S_spec_l7IsTmp N a).bind _ = _
  rw [hN]; exact h2
-- loop.example/s02135/impl.isDigit
noncomputable def S_impl_isDigit (a0 : Int) : Option (Bool) := under (pre_impl_isDigit a0) (s_impl_isDigit a0)
def e_impl_isDigit (a : Int) : List X := [.d (.int .u8 a)]
noncomputable def C_impl_isDigit : List X → Option XOut := lay e_impl_isDigit fun a => ((S_impl_isDigit a)).bind fun r => some (.ret (.d (.bool r)) [])
theorem C_impl_isDigit_eq (a0 : Int) : C_impl_isDigit [.d (.int .u8 a0)] = ((S_impl_isDigit a0)).bind fun r => some (.ret (.d (.bool r)) []) := lay_eq (enc := e_impl_isDigit) (by
  intro a b h
  simp only [e_impl_isDigit, List.cons.injEq, X.d.injEq, X.agg.injEq, X.box.injEq, D.int.injEq, D.bool.injEq, D.fn.injEq, sD_inj, lstT_inj, ownT_inj, and_true, true_and, and_assoc] at h
  exact h) a0
noncomputable def G14 : Ctx := G13.with 107 C_impl_isDigit
theorem so14 : SoundAll Try.prog G14 := by
  refine layer (cuts := []) (k := 1) (cd := c_impl_isDigit) (rs := r_impl_isDigit) (enc := e_impl_isDigit) mixed so13 Try.func107 (by kernel_rfl) (by kernel_rfl) (by kernel_rfl) (by kernel_rfl) (by kernel_rfl) (by kernel_rfl) (wk := fun y => nocap y) Same.nocap ?_
  intro a out ho
  obtain ⟨r, h1, h2⟩ := Option.bind_eq_some_iff.mp ho
  obtain ⟨hp, rfl⟩ := under_some h1
  obtain ⟨N, hN⟩ := p_impl_isDigit a hp
  refine ⟨N, ?_⟩
  refine ((callF_G (fun y => some (nocap y)) 1 c_impl_isDigit r_impl_isDigit (e_impl_isDigit a) ⟨rfl, rfl, rfl⟩).trans (impl_isDigit_g ⟨G13, [], [], [], N, r_impl_isDigit, none, fun _ _ => none, fun y => some (nocap y)⟩ ⟨rfl, rfl, rfl, rfl, rfl, fun _ => rfl, fun _ => rfl⟩ a)).trans ?_
  show (impl_isDigit_f N a).bind _ = _
  rw [hN]; exact h2
-- loop.example/s02135/impl.isLetter
noncomputable def S_impl_isLetter (a0 : Int) : Option (Bool) := under (pre_impl_isLetter a0) (s_impl_isLetter a0)
def e_impl_isLetter (a : Int) : List X := [.d (.int .u8 a)]
noncomputable def C_impl_isLetter : List X → Option XOut := lay e_impl_isLetter fun a => ((S_impl_isLetter a)).bind fun r => some (.ret (.d (.bool r)) [])
theorem C_impl_isLetter_eq (a0 : Int) : C_impl_isLetter [.d (.int .u8 a0)] = ((S_impl_isLetter a0)).bind fun r => some (.ret (.d (.bool r)) []) := lay_eq (enc := e_impl_isLetter) (by
  intro a b h
  simp only [e_impl_isLetter, List.cons.injEq, X.d.injEq, X.agg.injEq, X.box.injEq, D.int.injEq, D.bool.injEq, D.fn.injEq, sD_inj, lstT_inj, ownT_inj, and_true, true_and, and_assoc] at h
  exact h) a0
noncomputable def G15 : Ctx := G14.with 108 C_impl_isLetter
theorem so15 : SoundAll Try.prog G15 := by
  refine layer (cuts := []) (k := 1) (cd := c_impl_isLetter) (rs := r_impl_isLetter) (enc := e_impl_isLetter) mixed so14 Try.func108 (by kernel_rfl) (by kernel_rfl) (by kernel_rfl) (by kernel_rfl) (by kernel_rfl) (by kernel_rfl) (wk := fun y => nocap y) Same.nocap ?_
  intro a out ho
  obtain ⟨r, h1, h2⟩ := Option.bind_eq_some_iff.mp ho
  obtain ⟨hp, rfl⟩ := under_some h1
  obtain ⟨N, hN⟩ := p_impl_isLetter a hp
  refine ⟨N, ?_⟩
  refine ((callF_G (fun y => some (nocap y)) 1 c_impl_isLetter r_impl_isLetter (e_impl_isLetter a) ⟨rfl, rfl, rfl⟩).trans (impl_isLetter_g ⟨G14, [], [], [], N, r_impl_isLetter, none, fun _ _ => none, fun y => some (nocap y)⟩ ⟨rfl, rfl, rfl, rfl, rfl, fun _ => rfl, fun _ => rfl⟩ a)).trans ?_
  show (impl_isLetter_f N a).bind _ = _
  rw [hN]; exact h2
-- loop.example/s02135/impl.fileNameOk
noncomputable def S_impl_fileNameOk (a0 : List UInt8) : Option (Bool) := under (pre_impl_fileNameOk a0) (s_impl_fileNameOk a0)
def e_impl_fileNameOk (a : (List UInt8)) : List X := [.d (sD a)]
noncomputable def C_impl_fileNameOk : List X → Option XOut := lay e_impl_fileNameOk fun a => ((S_impl_fileNameOk a)).bind fun r => some (.ret (.d (.bool r)) [])
theorem C_impl_fileNameOk_eq (a0 : List UInt8) : C_impl_fileNameOk [.d (sD a0)] = ((S_impl_fileNameOk a0)).bind fun r => some (.ret (.d (.bool r)) []) := lay_eq (enc := e_impl_fileNameOk) (by
  intro a b h
  simp only [e_impl_fileNameOk, List.cons.injEq, X.d.injEq, X.agg.injEq, X.box.injEq, D.int.injEq, D.bool.injEq, D.fn.injEq, sD_inj, lstT_inj, ownT_inj, and_true, true_and, and_assoc] at h
  exact h) a0
noncomputable def G16 : Ctx := G15.with 78 C_impl_fileNameOk
theorem so16 : SoundAll Try.prog G16 := by
  refine layer (cuts := []) (k := 1) (cd := c_impl_fileNameOk) (rs := r_impl_fileNameOk) (enc := e_impl_fileNameOk) mixed so15 Try.func78 (by kernel_rfl) (by kernel_rfl) (by kernel_rfl) (by kernel_rfl) (by kernel_rfl) (by kernel_rfl) (wk := fun y => nocap y) Same.nocap ?_
  intro a out ho
  obtain ⟨r, h1, h2⟩ := Option.bind_eq_some_iff.mp ho
  obtain ⟨hp, rfl⟩ := under_some h1
  obtain ⟨N, hN⟩ := p_impl_fileNameOk S_impl_isDigit (fun _ h => under_pos h) S_impl_isLetter (fun _ h => under_pos h) a hp
  refine ⟨N, ?_⟩
  refine ((callF_G (fun y => some (nocap y)) 1 c_impl_fileNameOk r_impl_fileNameOk (e_impl_fileNameOk a) ⟨rfl, rfl, rfl⟩).trans (impl_fileNameOk_g ⟨G15, [], [], [], N, r_impl_fileNameOk, none, fun _ _ => none, fun y => some (nocap y)⟩ ⟨rfl, rfl, rfl, rfl, rfl, fun _ => rfl, fun _ => rfl⟩ S_impl_isDigit ⟨rfl, (fun a0 => (show G15 107 _ = _ from rfl).trans (C_impl_isDigit_eq a0))⟩ S_impl_isLetter ⟨rfl, (fun a0 => (show G15 108 _ = _ from rfl).trans (C_impl_isLetter_eq a0))⟩ a)).trans ?_
  show (impl_fileNameOk_f S_impl_isDigit S_impl_isLetter N a).bind _ = _
  rw [hN]; exact h2
-- loop.example/s02135/impl.DiskOk
noncomputable def S_impl_DiskOk (a0_Files : List TFile) : Option (Bool) := under (pre_impl_DiskOk a0_Files) (s_impl_DiskOk a0_Files)
def e_impl_DiskOk (a : (List TFile)) : List X := [.agg [.d (lstT cFile a)]]
noncomputable def C_impl_DiskOk : List X → Option XOut := lay e_impl_DiskOk fun a => ((S_impl_DiskOk a)).bind fun r => some (.ret (.d (.bool r)) [])
theorem C_impl_DiskOk_eq (a0_Files : List TFile) : C_impl_DiskOk [.agg [.d (lstT cFile a0_Files)]] = ((S_impl_DiskOk a0_Files)).bind fun r => some (.ret (.d (.bool r)) []) := lay_eq (enc := e_impl_DiskOk) (by
  intro a b h
  simp only [e_impl_DiskOk, List.cons.injEq, X.d.injEq, X.agg.injEq, X.box.injEq, D.int.injEq, D.bool.injEq, D.fn.injEq, sD_inj, lstT_inj, ownT_inj, and_true, true_and, and_assoc] at h
  exact h) a0_Files
noncomputable def G17 : Ctx := G16.with 27 C_impl_DiskOk
theorem so17 : SoundAll Try.prog G17 := by
  refine layer (cuts := []) (k := 1) (cd := c_impl_DiskOk) (rs := r_impl_DiskOk) (enc := e_impl_DiskOk) mixed so16 Try.func27 (by kernel_rfl) (by kernel_rfl) (by kernel_rfl) (by kernel_rfl) (by kernel_rfl) (by kernel_rfl) (wk := fun y => nocap y) Same.nocap ?_
  intro a out ho
  obtain ⟨r, h1, h2⟩ := Option.bind_eq_some_iff.mp ho
  obtain ⟨hp, rfl⟩ := under_some h1
  obtain ⟨N, hN⟩ := p_impl_DiskOk S_impl_fileNameOk (fun _ h => under_pos h) a hp
  refine ⟨N, ?_⟩
  refine ((callF_G (fun y => some (nocap y)) 1 c_impl_DiskOk r_impl_DiskOk (e_impl_DiskOk a) ⟨rfl, rfl, rfl⟩).trans (impl_DiskOk_g ⟨G16, [], [], [], N, r_impl_DiskOk, none, fun _ _ => none, fun y => some (nocap y)⟩ ⟨rfl, rfl, rfl, rfl, rfl, fun _ => rfl, fun _ => rfl⟩ S_impl_fileNameOk ⟨rfl, (fun a0 => (show G16 78 _ = _ from rfl).trans (C_impl_fileNameOk_eq a0))⟩ a)).trans ?_
  show (impl_DiskOk_f S_impl_fileNameOk N a).bind _ = _
  rw [hN]; exact h2
-- slices.Clone[[]loop.example/s02135/impl.File,loop.example/s02135/impl.File]
noncomputable def S_slices_Clone___impl_File_impl_File_ (a0 : List TFile) : Option (List TFile) := under (pre_slices_Clone___impl_File_impl_File_ a0) (s_slices_Clone___impl_File_impl_File_ a0)
def e_slices_Clone___impl_File_impl_File_ (l : List TFile) : List X := [.d (lstT cFile l)]
noncomputable def C_slices_Clone___impl_File_impl_File_ : List X → Option XOut := lay e_slices_Clone___impl_File_impl_File_ fun a => ((S_slices_Clone___impl_File_impl_File_ a)).bind fun r => some (.ret (ownT (cFile) 53 none false r) [])
theorem C_slices_Clone___impl_File_impl_File__eq (a0 : List TFile) : C_slices_Clone___impl_File_impl_File_ [.d (lstT cFile a0)] = ((S_slices_Clone___impl_File_impl_File_ a0)).bind fun r => some (.ret (ownT (cFile) 53 none false r) []) := lay_eq (enc := e_slices_Clone___impl_File_impl_File_) (by
  intro a b h
  simp only [e_slices_Clone___impl_File_impl_File_, List.cons.injEq, X.d.injEq, X.agg.injEq, X.box.injEq, D.int.injEq, D.bool.injEq, D.fn.injEq, sD_inj, lstT_inj, ownT_inj, and_true, true_and, and_assoc] at h
  exact h) a0
noncomputable def G18 : Ctx := G17.with 79 C_slices_Clone___impl_File_impl_File_
theorem so18 : SoundAll Try.prog G18 := by
  refine layerN (cuts := []) (cd := c_slices_Clone___impl_File_impl_File_) (rs := r_slices_Clone___impl_File_impl_File_) mixed so17 Try.func79 (by kernel_rfl) (by kernel_rfl) (by kernel_rfl) (by kernel_rfl) (by kernel_rfl) (by kernel_rfl) cFile (wk := fun y => nocap (asOwn (.own 53 2) y)) (Same.comp Same.nocap (Same.own (.own 53 2))) ?_ ?_
  · intro l out ho
    obtain ⟨r, h1, h2⟩ := Option.bind_eq_some_iff.mp ho
    obtain ⟨hp, rfl⟩ := under_some h1
    obtain ⟨N, hN⟩ := (p_slices_Clone___impl_File_impl_File_ l hp).1
    refine ⟨N, ?_⟩
    refine ((callF_G (fun y => some (nocap (asOwn (.own 53 2) y))) 1 c_slices_Clone___impl_File_impl_File_ r_slices_Clone___impl_File_impl_File_ [.d (lstST cFile l)] ⟨rfl, rfl, rfl⟩).trans (slices_Clone___impl_File_impl_File__S_g ⟨G17, [], [], [], N, r_slices_Clone___impl_File_impl_File_, none, fun _ _ => none, fun y => some (nocap (asOwn (.own 53 2) y))⟩ ⟨rfl, rfl, rfl, rfl, rfl, fun _ => rfl, fun _ => rfl⟩ l)).trans ?_
    show (slices_Clone___impl_File_impl_File__S_f N l).bind _ = _
    rw [hN]; exact h2
  · intro out ho
    obtain ⟨r, h1, h2⟩ := Option.bind_eq_some_iff.mp ho
    obtain ⟨hp, rfl⟩ := under_some h1
    obtain ⟨N, hN⟩ := (p_slices_Clone___impl_File_impl_File_ [] hp).2
    refine ⟨N, ?_⟩
    refine ((callF_G (fun y => some (nocap (asOwn (.own 53 2) y))) 1 c_slices_Clone___impl_File_impl_File_ r_slices_Clone___impl_File_impl_File_ [.nil] ⟨rfl, rfl, rfl⟩).trans (slices_Clone___impl_File_impl_File__N_g ⟨G17, [], [], [], N, r_slices_Clone___impl_File_impl_File_, none, fun _ _ => none, fun y => some (nocap (asOwn (.own 53 2) y))⟩ ⟨rfl, rfl, rfl, rfl, rfl, fun _ => rfl, fun _ => rfl⟩)).trans ?_
    show (slices_Clone___impl_File_impl_File__N_f N).bind _ = _
    rw [hN]; exact h2
-- loop.example/s02135/impl.copied
noncomputable def S_impl_copied (a0_Files : List TFile) : Option (List TFile) := under (pre_impl_copied a0_Files) (s_impl_copied a0_Files)
def e_impl_copied (a : (List TFile)) : List X := [.agg [.d (lstT cFile a)]]
noncomputable def C_impl_copied : List X → Option XOut := lay e_impl_copied fun a => ((S_impl_copied a)).bind fun r => some (.ret (.agg [ownT (cFile) 53 none false r]) [])
theorem C_impl_copied_eq (a0_Files : List TFile) : C_impl_copied [.agg [.d (lstT cFile a0_Files)]] = ((S_impl_copied a0_Files)).bind fun r => some (.ret (.agg [ownT (cFile) 53 none false r]) []) := lay_eq (enc := e_impl_copied) (by
  intro a b h
  simp only [e_impl_copied, List.cons.injEq, X.d.injEq, X.agg.injEq, X.box.injEq, D.int.injEq, D.bool.injEq, D.fn.injEq, sD_inj, lstT_inj, ownT_inj, and_true, true_and, and_assoc] at h
  exact h) a0_Files
noncomputable def G19 : Ctx := G18.with 28 C_impl_copied
theorem so19 : SoundAll Try.prog G19 := by
  refine layer (cuts := []) (k := 1) (cd := c_impl_copied) (rs := r_impl_copied) (enc := e_impl_copied) mixed so18 Try.func28 (by kernel_rfl) (by kernel_rfl) (by kernel_rfl) (by kernel_rfl) (by kernel_rfl) (by kernel_rfl) (wk := fun y => nocap y) Same.nocap ?_
  intro a out ho
  obtain ⟨r, h1, h2⟩ := Option.bind_eq_some_iff.mp ho
  obtain ⟨hp, rfl⟩ := under_some h1
  obtain ⟨N, hN⟩ := p_impl_copied S_slices_Clone___impl_File_impl_File_ (fun _ h => under_pos h) a hp
  refine ⟨N, ?_⟩
  refine ((callF_G (fun y => some (nocap y)) 1 c_impl_copied r_impl_copied (e_impl_copied a) ⟨rfl, rfl, rfl⟩).trans (impl_copied_g ⟨G18, [], [], [], N, r_impl_copied, none, fun _ _ => none, fun y => some (nocap y)⟩ ⟨rfl, rfl, rfl, rfl, rfl, fun _ => rfl, fun _ => rfl⟩ S_slices_Clone___impl_File_impl_File_ ⟨rfl, (fun a0 => (show G18 79 _ = _ from rfl).trans (C_slices_Clone___impl_File_impl_File__eq a0))⟩ a)).trans ?_
  show (impl_copied_f S_slices_Clone___impl_File_impl_File_ N a).bind _ = _
  rw [hN]; exact h2
-- internal/stringslite.HasSuffix
noncomputable def S_internal_stringslite_HasSuffix (a0 : List UInt8) (a1 : List UInt8) : Option (Bool) := under (pre_internal_stringslite_HasSuffix a0 a1) (s_internal_stringslite_HasSuffix a0 a1)
def e_internal_stringslite_HasSuffix (a : (List UInt8) × (List UInt8)) : List X := [.d (sD a.1), .d (sD a.2)]
noncomputable def C_internal_stringslite_HasSuffix : List X → Option XOut := lay e_internal_stringslite_HasSuffix fun a => ((S_internal_stringslite_HasSuffix a.1 a.2)).bind fun r => some (.ret (.d (.bool r)) [])
theorem C_internal_stringslite_HasSuffix_eq (a0 : List UInt8) (a1 : List UInt8) : C_internal_stringslite_HasSuffix [.d (sD a0), .d (sD a1)] = ((S_internal_stringslite_HasSuffix a0 a1)).bind fun r => some (.ret (.d (.bool r)) []) := lay_eq (enc := e_internal_stringslite_HasSuffix) (by
  intro a b h
  simp only [e_internal_stringslite_HasSuffix, List.cons.injEq, X.d.injEq, X.agg.injEq, X.box.injEq, D.int.injEq, D.bool.injEq, D.fn.injEq, sD_inj, lstT_inj, ownT_inj, and_true, true_and, and_assoc] at h
  simp only [Prod.ext_iff]; exact h) (a0, a1)
noncomputable def G20 : Ctx := G19.with 81 C_internal_stringslite_HasSuffix
theorem so20 : SoundAll Try.prog G20 := by
  refine layer (cuts := []) (k := 2) (cd := c_internal_stringslite_HasSuffix) (rs := r_internal_stringslite_HasSuffix) (enc := e_internal_stringslite_HasSuffix) mixed so19 Try.func81 (by kernel_rfl) (by kernel_rfl) (by kernel_rfl) (by kernel_rfl) (by kernel_rfl) (by kernel_rfl) (wk := fun y => nocap y) Same.nocap ?_
  intro a out ho
  obtain ⟨r, h1, h2⟩ := Option.bind_eq_some_iff.mp ho
  obtain ⟨hp, rfl⟩ := under_some h1
  obtain ⟨N, hN⟩ := p_internal_stringslite_HasSuffix a.1 a.2 hp
  refine ⟨N, ?_⟩
  refine ((callF_G (fun y => some (nocap y)) 2 c_internal_stringslite_HasSuffix r_internal_stringslite_HasSuffix (e_internal_stringslite_HasSuffix a) ⟨rfl, rfl, rfl⟩).trans (internal_stringslite_HasSuffix_g ⟨G19, [], [], [], N, r_internal_stringslite_HasSuffix, none, fun _ _ => none, fun y => some (nocap y)⟩ ⟨rfl, rfl, rfl, rfl, rfl, fun _ => rfl, fun _ => rfl⟩ a.1 a.2)).trans ?_
  show (internal_stringslite_HasSuffix_f N a.1 a.2).bind _ = _
  rw [hN]; exact h2
-- strings.HasSuffix
noncomputable def S_strings_HasSuffix (a0 : List UInt8) (a1 : List UInt8) : Option (Bool) := under (pre_strings_HasSuffix a0 a1) (s_strings_HasSuffix a0 a1)
def e_strings_HasSuffix (a : (List UInt8) × (List UInt8)) : List X := [.d (sD a.1), .d (sD a.2)]
noncomputable def C_strings_HasSuffix : List X → Option XOut := lay e_strings_HasSuffix fun a => ((S_strings_HasSuffix a.1 a.2)).bind fun r => some (.ret (.d (.bool r)) [])
theorem C_strings_HasSuffix_eq (a0 : List UInt8) (a1 : List UInt8) : C_strings_HasSuffix [.d (sD a0), .d (sD a1)] = ((S_strings_HasSuffix a0 a1)).bind fun r => some (.ret (.d (.bool r)) []) := lay_eq (enc := e_strings_HasSuffix) (by
  intro a b h
  simp only [e_strings_HasSuffix, List.cons.injEq, X.d.injEq, X.agg.injEq, X.box.injEq, D.int.injEq, D.bool.injEq, D.fn.injEq, sD_inj, lstT_inj, ownT_inj, and_true, true_and, and_assoc] at h
  simp only [Prod.ext_iff]; exact h) (a0, a1)
noncomputable def G21 : Ctx := G20.with 31 C_strings_HasSuffix
theorem so21 : SoundAll Try.prog G21 := by
  refine layer (cuts := []) (k := 2) (cd := c_strings_HasSuffix) (rs := r_strings_HasSuffix) (enc := e_strings_HasSuffix) mixed so20 Try.func31 (by kernel_rfl) (by kernel_rfl) (by kernel_rfl) (by kernel_rfl) (by kernel_rfl) (by kernel_rfl) (wk := fun y => nocap y) Same.nocap ?_
  intro a out ho
  obtain ⟨r, h1, h2⟩ := Option.bind_eq_some_iff.mp ho
  obtain ⟨hp, rfl⟩ := under_some h1
  obtain ⟨N, hN⟩ := p_strings_HasSuffix S_internal_stringslite_HasSuffix (fun _ _ h => under_pos h) a.1 a.2 hp
  refine ⟨N, ?_⟩
  refine ((callF_G (fun y => some (nocap y)) 2 c_strings_HasSuffix r_strings_HasSuffix (e_strings_HasSuffix a) ⟨rfl, rfl, rfl⟩).trans (strings_HasSuffix_g ⟨G20, [], [], [], N, r_strings_HasSuffix, none, fun _ _ => none, fun y => some (nocap y)⟩ ⟨rfl, rfl, rfl, rfl, rfl, fun _ => rfl, fun _ => rfl⟩ S_internal_stringslite_HasSuffix ⟨rfl, (fun a0 a1 => (show G20 81 _ = _ from rfl).trans (C_internal_stringslite_HasSuffix_eq a0 a1))⟩ a.1 a.2)).trans ?_
  show (strings_HasSuffix_f S_internal_stringslite_HasSuffix N a.1 a.2).bind _ = _
  rw [hN]; exact h2
-- loop.example/s02135/impl.Recover$1
noncomputable def S_impl_Recover_1 (a0_Name : List UInt8) (a0_Data : List UInt8) : Option (Bool) := under (pre_impl_Recover_1 a0_Name a0_Data) (s_impl_Recover_1 a0_Name a0_Data)
def e_impl_Recover_1 (a : (List UInt8) × (List UInt8)) : List X := [.agg [.d (sD a.1), .d (sD a.2)]]
noncomputable def C_impl_Recover_1 : List X → Option XOut := lay e_impl_Recover_1 fun a => ((S_impl_Recover_1 a.1 a.2)).bind fun r => some (.ret (.d (.bool r)) [])
theorem C_impl_Recover_1_eq (a0_Name : List UInt8) (a0_Data : List UInt8) : C_impl_Recover_1 [.agg [.d (sD a0_Name), .d (sD a0_Data)]] = ((S_impl_Recover_1 a0_Name a0_Data)).bind fun r => some (.ret (.d (.bool r)) []) := lay_eq (enc := e_impl_Recover_1) (by
  intro a b h
  simp only [e_impl_Recover_1, List.cons.injEq, X.d.injEq, X.agg.injEq, X.box.injEq, D.int.injEq, D.bool.injEq, D.fn.injEq, sD_inj, lstT_inj, ownT_inj, and_true, true_and, and_assoc] at h
  simp only [Prod.ext_iff]; exact h) (a0_Name, a0_Data)
noncomputable def G22 : Ctx := G21.with 30 C_impl_Recover_1
theorem so22 : SoundAll Try.prog G22 := by
  refine layer (cuts := []) (k := 1) (cd := c_impl_Recover_1) (rs := r_impl_Recover_1) (enc := e_impl_Recover_1) mixed so21 Try.func30 (by kernel_rfl) (by kernel_rfl) (by kernel_rfl) (by kernel_rfl) (by kernel_rfl) (by kernel_rfl) (wk := fun y => nocap y) Same.nocap ?_
  intro a out ho
  obtain ⟨r, h1, h2⟩ := Option.bind_eq_some_iff.mp ho
  obtain ⟨hp, rfl⟩ := under_some h1
  obtain ⟨N, hN⟩ := p_impl_Recover_1 S_strings_HasSuffix (fun _ _ h => under_pos h) a.1 a.2 hp
  refine ⟨N, ?_⟩
  refine ((callF_G (fun y => some (nocap y)) 1 c_impl_Recover_1 r_impl_Recover_1 (e_impl_Recover_1 a) ⟨rfl, rfl, rfl⟩).trans (impl_Recover_1_g ⟨G21, [], [], [], N, r_impl_Recover_1, none, fun _ _ => none, fun y => some (nocap y)⟩ ⟨rfl, rfl, rfl, rfl, rfl, fun _ => rfl, fun _ => rfl⟩ S_strings_HasSuffix ⟨rfl, (fun a0 a1 => (show G21 31 _ = _ from rfl).trans (C_strings_HasSuffix_eq a0 a1))⟩ a.1 a.2)).trans ?_
  show (impl_Recover_1_f S_strings_HasSuffix N a.1 a.2).bind _ = _
  rw [hN]; exact h2
-- slices.IndexFunc[[]loop.example/s02135/impl.File,loop.example/s02135/impl.File]
noncomputable def S_slices_IndexFunc___impl_File_impl_File_ (a0 : List TFile) : Option (Int) := under (pre_slices_IndexFunc___impl_File_impl_File_ a0) (s_slices_IndexFunc___impl_File_impl_File_ a0)
def e_slices_IndexFunc___impl_File_impl_File_ (a : (List TFile)) : List X := [.d (lstT cFile a), .d (.fn 30)]
noncomputable def C_slices_IndexFunc___impl_File_impl_File_ : List X → Option XOut := lay e_slices_IndexFunc___impl_File_impl_File_ fun a => ((S_slices_IndexFunc___impl_File_impl_File_ a)).bind fun r => some (.ret (.d (.int .i64 r)) [])
theorem C_slices_IndexFunc___impl_File_impl_File__eq (a0 : List TFile) : C_slices_IndexFunc___impl_File_impl_File_ [.d (lstT cFile a0), .d (.fn 30)] = ((S_slices_IndexFunc___impl_File_impl_File_ a0)).bind fun r => some (.ret (.d (.int .i64 r)) []) := lay_eq (enc := e_slices_IndexFunc___impl_File_impl_File_) (by
  intro a b h
  simp only [e_slices_IndexFunc___impl_File_impl_File_, List.cons.injEq, X.d.injEq, X.agg.injEq, X.box.injEq, D.int.injEq, D.bool.injEq, D.fn.injEq, sD_inj, lstT_inj, ownT_inj, and_true, true_and, and_assoc] at h
  exact h) a0
noncomputable def G23 : Ctx := G22.with 80 C_slices_IndexFunc___impl_File_impl_File_
theorem so23 : SoundAll Try.prog G23 := by
  refine layer (cuts := []) (k := 2) (cd := c_slices_IndexFunc___impl_File_impl_File_) (rs := r_slices_IndexFunc___impl_File_impl_File_) (enc := e_slices_IndexFunc___impl_File_impl_File_) mixed so22 Try.func80 (by kernel_rfl) (by kernel_rfl) (by kernel_rfl) (by kernel_rfl) (by kernel_rfl) (by kernel_rfl) (wk := fun y => nocap y) Same.nocap ?_
  intro a out ho
  obtain ⟨r, h1, h2⟩ := Option.bind_eq_some_iff.mp ho
  obtain ⟨hp, rfl⟩ := under_some h1
  obtain ⟨N, hN⟩ := p_slices_IndexFunc___impl_File_impl_File_ S_impl_Recover_1 (fun _ _ h => under_pos h) a hp
  refine ⟨N, ?_⟩
  refine ((callF_G (fun y => some (nocap y)) 2 c_slices_IndexFunc___impl_File_impl_File_ r_slices_IndexFunc___impl_File_impl_File_ (e_slices_IndexFunc___impl_File_impl_File_ a) ⟨rfl, rfl, rfl⟩).trans (slices_IndexFunc___impl_File_impl_File__g ⟨G22, [], [], [], N, r_slices_IndexFunc___impl_File_impl_File_, none, fun _ _ => none, fun y => some (nocap y)⟩ ⟨rfl, rfl, rfl, rfl, rfl, fun _ => rfl, fun _ => rfl⟩ S_impl_Recover_1 ⟨rfl, (fun a0_Name a0_Data => (show G22 30 _ = _ from rfl).trans (C_impl_Recover_1_eq a0_Name a0_Data))⟩ a)).trans ?_
  show (slices_IndexFunc___impl_File_impl_File__f S_impl_Recover_1 N a).bind _ = _
  rw [hN]; exact h2
-- slices.DeleteFunc[[]loop.example/s02135/impl.File,loop.example/s02135/impl.File]
noncomputable def S_slices_DeleteFunc___impl_File_impl_File_ (a0 : List TFile) : Option (List TFile) := under (pre_slices_DeleteFunc___impl_File_impl_File_ a0) (s_slices_DeleteFunc___impl_File_impl_File_ a0)
def e_slices_DeleteFunc___impl_File_impl_File_ (a : (List TFile)) : List X := [ownT cFile 53 none false a, .d (.fn 30)]
noncomputable def C_slices_DeleteFunc___impl_File_impl_File_ : List X → Option XOut := lay e_slices_DeleteFunc___impl_File_impl_File_ fun a => ((S_slices_DeleteFunc___impl_File_impl_File_ a)).bind fun r => some (.ret (.par 0) [[lstT (cFile) r, .bool true]])
theorem C_slices_DeleteFunc___impl_File_impl_File__eq (a0 : List TFile) : C_slices_DeleteFunc___impl_File_impl_File_ [ownT cFile 53 none false a0, .d (.fn 30)] = ((S_slices_DeleteFunc___impl_File_impl_File_ a0)).bind fun r => some (.ret (.par 0) [[lstT (cFile) r, .bool true]]) := lay_eq (enc := e_slices_DeleteFunc___impl_File_impl_File_) (by
  intro a b h
  simp only [e_slices_DeleteFunc___impl_File_impl_File_, List.cons.injEq, X.d.injEq, X.agg.injEq, X.box.injEq, D.int.injEq, D.bool.injEq, D.fn.injEq, sD_inj, lstT_inj, ownT_inj, and_true, true_and, and_assoc] at h
  exact h) a0
noncomputable def G24 : Ctx := G23.with 29 C_slices_DeleteFunc___impl_File_impl_File_ true
theorem so24 : SoundAll Try.prog G24 := by
  refine layerM (cuts := [38, 41]) (k := 2) (cd := c_slices_DeleteFunc___impl_File_impl_File_) (rs := r_slices_DeleteFunc___impl_File_impl_File_) (enc := e_slices_DeleteFunc___impl_File_impl_File_) mixed so23 Try.func29 (by kernel_rfl) (by kernel_rfl) (by kernel_rfl) (by kernel_rfl) (by kernel_rfl) (by kernel_rfl) (wk := fun y => nocap y) Same.nocap (ms := [true]) (fun a vs => by cases vs <;> simp [e_slices_DeleteFunc___impl_File_impl_File_, lentXs, lentX, ownT, RowsAt]) ?_
  intro a out ho
  obtain ⟨r, h1, h2⟩ := Option.bind_eq_some_iff.mp ho
  obtain ⟨hp, rfl⟩ := under_some h1
  obtain ⟨N, hN⟩ := p_slices_DeleteFunc___impl_File_impl_File_ S_slices_IndexFunc___impl_File_impl_File_ (fun _ h => under_pos h) S_impl_Recover_1 (fun _ _ h => under_pos h) a hp
  refine ⟨N, ?_⟩
  refine ((callF_G (fun y => some (markX [true] (nocap y))) 2 c_slices_DeleteFunc___impl_File_impl_File_ r_slices_DeleteFunc___impl_File_impl_File_ (e_slices_DeleteFunc___impl_File_impl_File_ a) ⟨rfl, rfl, rfl⟩).trans (slices_DeleteFunc___impl_File_impl_File__g ⟨G23, [0], [0], [(0, .row 53 2)], N, r_slices_DeleteFunc___impl_File_impl_File_, none, fun _ _ => none, fun y => some (markX [true] (nocap y))⟩ ⟨rfl, rfl, rfl, rfl, rfl, fun _ => rfl, fun _ => rfl⟩ S_slices_IndexFunc___impl_File_impl_File_ ⟨rfl, (fun a0 => (show G23 80 _ = _ from rfl).trans (C_slices_IndexFunc___impl_File_impl_File__eq a0))⟩ S_impl_Recover_1 ⟨rfl, (fun a0_Name a0_Data => (show G23 30 _ = _ from rfl).trans (C_impl_Recover_1_eq a0_Name a0_Data))⟩ a)).trans ?_
  show (slices_DeleteFunc___impl_File_impl_File__f S_slices_IndexFunc___impl_File_impl_File_ S_impl_Recover_1 N a).bind _ = _
  rw [hN]; exact h2
-- loop.example/s02135/impl.Recover
noncomputable def S_impl_Recover (a0_Files : List TFile) : Option (List TFile × Bool) := under (pre_impl_Recover a0_Files) (s_impl_Recover a0_Files)
def e_impl_Recover (a : (List TFile)) : List X := [.agg [.d (lstT cFile a)]]
noncomputable def C_impl_Recover : List X → Option XOut := lay e_impl_Recover fun a => ((S_impl_Recover a)).bind fun r => some (.ret (.tup [.agg [ownT (cFile) 53 none false r.1], .d (.bool r.2)]) [])
theorem C_impl_Recover_eq (a0_Files : List TFile) : C_impl_Recover [.agg [.d (lstT cFile a0_Files)]] = ((S_impl_Recover a0_Files)).bind fun r => some (.ret (.tup [.agg [ownT (cFile) 53 none false r.1], .d (.bool r.2)]) []) := lay_eq (enc := e_impl_Recover) (by
  intro a b h
  simp only [e_impl_Recover, List.cons.injEq, X.d.injEq, X.agg.injEq, X.box.injEq, D.int.injEq, D.bool.injEq, D.fn.injEq, sD_inj, lstT_inj, ownT_inj, and_true, true_and, and_assoc] at h
  exact h) a0_Files
noncomputable def G25 : Ctx := G24.with 9 C_impl_Recover
theorem so25 : SoundAll Try.prog G25 := by
  refine layer (cuts := []) (k := 1) (cd := c_impl_Recover) (rs := r_impl_Recover) (enc := e_impl_Recover) mixed so24 Try.func9 (by kernel_rfl) (by kernel_rfl) (by kernel_rfl) (by kernel_rfl) (by kernel_rfl) (by kernel_rfl) (wk := fun y => nocap y) Same.nocap ?_
  intro a out ho
  obtain ⟨r, h1, h2⟩ := Option.bind_eq_some_iff.mp ho
  obtain ⟨hp, rfl⟩ := under_some h1
  obtain ⟨N, hN⟩ := p_impl_Recover S_impl_DiskOk (fun _ h => under_pos h) S_impl_copied (fun _ h => under_pos h) S_slices_DeleteFunc___impl_File_impl_File_ (fun _ h => under_pos h) S_impl_Recover_1 (fun _ _ h => under_pos h) a hp
  refine ⟨N, ?_⟩
  refine ((callF_G (fun y => some (nocap y)) 1 c_impl_Recover r_impl_Recover (e_impl_Recover a) ⟨rfl, rfl, rfl⟩).trans (impl_Recover_g ⟨G24, [], [], [], N, r_impl_Recover, none, fun _ _ => none, fun y => some (nocap y)⟩ ⟨rfl, rfl, rfl, rfl, rfl, fun _ => rfl, fun _ => rfl⟩ S_impl_DiskOk ⟨rfl, (fun a0_Files => (show G24 27 _ = _ from rfl).trans (C_impl_DiskOk_eq a0_Files))⟩ S_impl_copied ⟨rfl, (fun a0_Files => (show G24 28 _ = _ from rfl).trans (C_impl_copied_eq a0_Files))⟩ S_slices_DeleteFunc___impl_File_impl_File_ ⟨rfl, (fun a0 => (show G24 29 _ = _ from rfl).trans (C_slices_DeleteFunc___impl_File_impl_File__eq a0))⟩ S_impl_Recover_1 ⟨rfl, (fun a0_Name a0_Data => (show G24 30 _ = _ from rfl).trans (C_impl_Recover_1_eq a0_Name a0_Data))⟩ a)).trans ?_
  show (impl_Recover_f S_impl_DiskOk S_impl_copied S_slices_DeleteFunc___impl_File_impl_File_ S_impl_Recover_1 N a).bind _ = _
  rw [hN]; exact h2
-- loop.example/s02135/laws.eqFile
noncomputable def S_laws_eqFile (a0_Name : List UInt8) (a0_Data : List UInt8) (a1_Name : List UInt8) (a1_Data : List UInt8) : Option (Bool) := under (pre_laws_eqFile a0_Name a0_Data a1_Name a1_Data) (s_laws_eqFile a0_Name a0_Data a1_Name a1_Data)
def e_laws_eqFile (a : (List UInt8) × (List UInt8) × (List UInt8) × (List UInt8)) : List X := [.agg [.d (sD a.1), .d (sD a.2.1)], .agg [.d (sD a.2.2.1), .d (sD a.2.2.2)]]
noncomputable def C_laws_eqFile : List X → Option XOut := lay e_laws_eqFile fun a => ((S_laws_eqFile a.1 a.2.1 a.2.2.1 a.2.2.2)).bind fun r => some (.ret (.d (.bool r)) [])
theorem C_laws_eqFile_eq (a0_Name : List UInt8) (a0_Data : List UInt8) (a1_Name : List UInt8) (a1_Data : List UInt8) : C_laws_eqFile [.agg [.d (sD a0_Name), .d (sD a0_Data)], .agg [.d (sD a1_Name), .d (sD a1_Data)]] = ((S_laws_eqFile a0_Name a0_Data a1_Name a1_Data)).bind fun r => some (.ret (.d (.bool r)) []) := lay_eq (enc := e_laws_eqFile) (by
  intro a b h
  simp only [e_laws_eqFile, List.cons.injEq, X.d.injEq, X.agg.injEq, X.box.injEq, D.int.injEq, D.bool.injEq, D.fn.injEq, sD_inj, lstT_inj, ownT_inj, and_true, true_and, and_assoc] at h
  simp only [Prod.ext_iff]; exact h) (a0_Name, a0_Data, a1_Name, a1_Data)
noncomputable def G26 : Ctx := G25.with 82 C_laws_eqFile
theorem so26 : SoundAll Try.prog G26 := by
  refine layer (cuts := []) (k := 2) (cd := c_laws_eqFile) (rs := r_laws_eqFile) (enc := e_laws_eqFile) mixed so25 Try.func82 (by kernel_rfl) (by kernel_rfl) (by kernel_rfl) (by kernel_rfl) (by kernel_rfl) (by kernel_rfl) (wk := fun y => nocap y) Same.nocap ?_
  intro a out ho
  obtain ⟨r, h1, h2⟩ := Option.bind_eq_some_iff.mp ho
  obtain ⟨hp, rfl⟩ := under_some h1
  obtain ⟨N, hN⟩ := p_laws_eqFile a.1 a.2.1 a.2.2.1 a.2.2.2 hp
  refine ⟨N, ?_⟩
  refine ((callF_G (fun y => some (nocap y)) 2 c_laws_eqFile r_laws_eqFile (e_laws_eqFile a) ⟨rfl, rfl, rfl⟩).trans (laws_eqFile_g ⟨G25, [], [], [], N, r_laws_eqFile, none, fun _ _ => none, fun y => some (nocap y)⟩ ⟨rfl, rfl, rfl, rfl, rfl, fun _ => rfl, fun _ => rfl⟩ a.1 a.2.1 a.2.2.1 a.2.2.2)).trans ?_
  show (laws_eqFile_f N a.1 a.2.1 a.2.2.1 a.2.2.2).bind _ = _
  rw [hN]; exact h2
-- loop.example/s02135/laws.eqFileS
noncomputable def S_laws_eqFileS (a0 : List TFile) (a1 : List TFile) : Option (Bool) := under (pre_laws_eqFileS a0 a1) (s_laws_eqFileS a0 a1)
def e_laws_eqFileS (a : (List TFile) × (List TFile)) : List X := [.d (lstT cFile a.1), .d (lstT cFile a.2)]
noncomputable def C_laws_eqFileS : List X → Option XOut := lay e_laws_eqFileS fun a => ((S_laws_eqFileS a.1 a.2)).bind fun r => some (.ret (.d (.bool r)) [])
theorem C_laws_eqFileS_eq (a0 : List TFile) (a1 : List TFile) : C_laws_eqFileS [.d (lstT cFile a0), .d (lstT cFile a1)] = ((S_laws_eqFileS a0 a1)).bind fun r => some (.ret (.d (.bool r)) []) := lay_eq (enc := e_laws_eqFileS) (by
  intro a b h
  simp only [e_laws_eqFileS, List.cons.injEq, X.d.injEq, X.agg.injEq, X.box.injEq, D.int.injEq, D.bool.injEq, D.fn.injEq, sD_inj, lstT_inj, ownT_inj, and_true, true_and, and_assoc] at h
  simp only [Prod.ext_iff]; exact h) (a0, a1)
noncomputable def G27 : Ctx := G26.with 32 C_laws_eqFileS
theorem so27 : SoundAll Try.prog G27 := by
  refine layer (cuts := []) (k := 2) (cd := c_laws_eqFileS) (rs := r_laws_eqFileS) (enc := e_laws_eqFileS) mixed so26 Try.func32 (by kernel_rfl) (by kernel_rfl) (by kernel_rfl) (by kernel_rfl) (by kernel_rfl) (by kernel_rfl) (wk := fun y => nocap y) Same.nocap ?_
  intro a out ho
  obtain ⟨r, h1, h2⟩ := Option.bind_eq_some_iff.mp ho
  obtain ⟨hp, rfl⟩ := under_some h1
  obtain ⟨N, hN⟩ := p_laws_eqFileS S_laws_eqFile (fun _ _ _ _ h => under_pos h) a.1 a.2 hp
  refine ⟨N, ?_⟩
  refine ((callF_G (fun y => some (nocap y)) 2 c_laws_eqFileS r_laws_eqFileS (e_laws_eqFileS a) ⟨rfl, rfl, rfl⟩).trans (laws_eqFileS_g ⟨G26, [], [], [], N, r_laws_eqFileS, none, fun _ _ => none, fun y => some (nocap y)⟩ ⟨rfl, rfl, rfl, rfl, rfl, fun _ => rfl, fun _ => rfl⟩ S_laws_eqFile ⟨rfl, (fun a0_Name a0_Data a1_Name a1_Data => (show G26 82 _ = _ from rfl).trans (C_laws_eqFile_eq a0_Name a0_Data a1_Name a1_Data))⟩ a.1 a.2)).trans ?_
  show (laws_eqFileS_f S_laws_eqFile N a.1 a.2).bind _ = _
  rw [hN]; exact h2
-- loop.example/s02135/laws.eqDisk
noncomputable def S_laws_eqDisk (a0_Files : List TFile) (a1_Files : List TFile) : Option (Bool) := under (pre_laws_eqDisk a0_Files a1_Files) (s_laws_eqDisk a0_Files a1_Files)
def e_laws_eqDisk (a : (List TFile) × (List TFile)) : List X := [.agg [.d (lstT cFile a.1)], .agg [.d (lstT cFile a.2)]]
noncomputable def C_laws_eqDisk : List X → Option XOut := lay e_laws_eqDisk fun a => ((S_laws_eqDisk a.1 a.2)).bind fun r => some (.ret (.d (.bool r)) [])
theorem C_laws_eqDisk_eq (a0_Files : List TFile) (a1_Files : List TFile) : C_laws_eqDisk [.agg [.d (lstT cFile a0_Files)], .agg [.d (lstT cFile a1_Files)]] = ((S_laws_eqDisk a0_Files a1_Files)).bind fun r => some (.ret (.d (.bool r)) []) := lay_eq (enc := e_laws_eqDisk) (by
  intro a b h
  simp only [e_laws_eqDisk, List.cons.injEq, X.d.injEq, X.agg.injEq, X.box.injEq, D.int.injEq, D.bool.injEq, D.fn.injEq, sD_inj, lstT_inj, ownT_inj, and_true, true_and, and_assoc] at h
  simp only [Prod.ext_iff]; exact h) (a0_Files, a1_Files)
noncomputable def G28 : Ctx := G27.with 10 C_laws_eqDisk
theorem so28 : SoundAll Try.prog G28 := by
  refine layer (cuts := []) (k := 2) (cd := c_laws_eqDisk) (rs := r_laws_eqDisk) (enc := e_laws_eqDisk) mixed so27 Try.func10 (by kernel_rfl) (by kernel_rfl) (by kernel_rfl) (by kernel_rfl) (by kernel_rfl) (by kernel_rfl) (wk := fun y => nocap y) Same.nocap ?_
  intro a out ho
  obtain ⟨r, h1, h2⟩ := Option.bind_eq_some_iff.mp ho
  obtain ⟨hp, rfl⟩ := under_some h1
  obtain ⟨N, hN⟩ := p_laws_eqDisk S_laws_eqFileS (fun _ _ h => under_pos h) a.1 a.2 hp
  refine ⟨N, ?_⟩
  refine ((callF_G (fun y => some (nocap y)) 2 c_laws_eqDisk r_laws_eqDisk (e_laws_eqDisk a) ⟨rfl, rfl, rfl⟩).trans (laws_eqDisk_g ⟨G27, [], [], [], N, r_laws_eqDisk, none, fun _ _ => none, fun y => some (nocap y)⟩ ⟨rfl, rfl, rfl, rfl, rfl, fun _ => rfl, fun _ => rfl⟩ S_laws_eqFileS ⟨rfl, (fun a0 a1 => (show G27 32 _ = _ from rfl).trans (C_laws_eqFileS_eq a0 a1))⟩ a.1 a.2)).trans ?_
  show (laws_eqDisk_f S_laws_eqFileS N a.1 a.2).bind _ = _
  rw [hN]; exact h2
-- loop.example/s02135/laws.markText
noncomputable def S_laws_markText (a0 : Int) : Option (List UInt8) := under (pre_laws_markText a0) (s_laws_markText a0)
def e_laws_markText (a : Int) : List X := [.d (.int .i64 a)]
noncomputable def C_laws_markText : List X → Option XOut := lay e_laws_markText fun a => ((S_laws_markText a)).bind fun r => some (.ret (.d (sD r)) [])
theorem C_laws_markText_eq (a0 : Int) : C_laws_markText [.d (.int .i64 a0)] = ((S_laws_markText a0)).bind fun r => some (.ret (.d (sD r)) []) := lay_eq (enc := e_laws_markText) (by
  intro a b h
  simp only [e_laws_markText, List.cons.injEq, X.d.injEq, X.agg.injEq, X.box.injEq, D.int.injEq, D.bool.injEq, D.fn.injEq, sD_inj, lstT_inj, ownT_inj, and_true, true_and, and_assoc] at h
  exact h) a0
noncomputable def G29 : Ctx := G28.with 83 C_laws_markText
theorem so29 : SoundAll Try.prog G29 := by
  refine layer (cuts := []) (k := 1) (cd := c_laws_markText) (rs := r_laws_markText) (enc := e_laws_markText) mixed so28 Try.func83 (by kernel_rfl) (by kernel_rfl) (by kernel_rfl) (by kernel_rfl) (by kernel_rfl) (by kernel_rfl) (wk := fun y => nocap y) Same.nocap ?_
  intro a out ho
  obtain ⟨r, h1, h2⟩ := Option.bind_eq_some_iff.mp ho
  obtain ⟨hp, rfl⟩ := under_some h1
  obtain ⟨N, hN⟩ := p_laws_markText a hp
  refine ⟨N, ?_⟩
  refine ((callF_G (fun y => some (nocap y)) 1 c_laws_markText r_laws_markText (e_laws_markText a) ⟨rfl, rfl, rfl⟩).trans (laws_markText_g ⟨G28, [], [], [], N, r_laws_markText, none, fun _ _ => none, fun y => some (nocap y)⟩ ⟨rfl, rfl, rfl, rfl, rfl, fun _ => rfl, fun _ => rfl⟩ a)).trans ?_
  show (laws_markText_f N a).bind _ = _
  rw [hN]; exact h2
-- loop.example/s02135/laws.markFileS
noncomputable def S_laws_markFileS (a0 : List TFile) (a1 : Int) : Option (Int × List TFile) := under (pre_laws_markFileS a0 a1) (s_laws_markFileS a0 a1)
def e_laws_markFileS (a : (List TFile) × Int) : List X := [ownT cFile 53 none false a.1, .d (.int .i64 a.2)]
noncomputable def C_laws_markFileS : List X → Option XOut := lay e_laws_markFileS fun a => ((S_laws_markFileS a.1 a.2)).bind fun r => some (.ret (.d (.int .i64 r.1)) [[lstT (cFile) r.2]])
theorem C_laws_markFileS_eq (a0 : List TFile) (a1 : Int) : C_laws_markFileS [ownT cFile 53 none false a0, .d (.int .i64 a1)] = ((S_laws_markFileS a0 a1)).bind fun r => some (.ret (.d (.int .i64 r.1)) [[lstT (cFile) r.2]]) := lay_eq (enc := e_laws_markFileS) (by
  intro a b h
  simp only [e_laws_markFileS, List.cons.injEq, X.d.injEq, X.agg.injEq, X.box.injEq, D.int.injEq, D.bool.injEq, D.fn.injEq, sD_inj, lstT_inj, ownT_inj, and_true, true_and, and_assoc] at h
  simp only [Prod.ext_iff]; exact h) (a0, a1)
noncomputable def G30 : Ctx := G29.with 33 C_laws_markFileS true
theorem so30 : SoundAll Try.prog G30 := by
  refine layer (cuts := []) (k := 2) (cd := c_laws_markFileS) (rs := r_laws_markFileS) (enc := e_laws_markFileS) mixed so29 Try.func33 (by kernel_rfl) (by kernel_rfl) (by kernel_rfl) (by kernel_rfl) (by kernel_rfl) (by kernel_rfl) (wk := fun y => nocap y) Same.nocap ?_
  intro a out ho
  obtain ⟨r, h1, h2⟩ := Option.bind_eq_some_iff.mp ho
  obtain ⟨hp, rfl⟩ := under_some h1
  obtain ⟨N, hN⟩ := p_laws_markFileS S_laws_markText (fun _ h => under_pos h) a.1 a.2 hp
  refine ⟨N, ?_⟩
  refine ((callF_G (fun y => some (nocap y)) 2 c_laws_markFileS r_laws_markFileS (e_laws_markFileS a) ⟨rfl, rfl, rfl⟩).trans (laws_markFileS_g ⟨G29, [0], [0], [(0, .row 53 2)], N, r_laws_markFileS, none, fun _ _ => none, fun y => some (nocap y)⟩ ⟨rfl, rfl, rfl, rfl, rfl, fun _ => rfl, fun _ => rfl⟩ S_laws_markText ⟨rfl, (fun a0 => (show G29 83 _ = _ from rfl).trans (C_laws_markText_eq a0))⟩ a.1 a.2)).trans ?_
  show (laws_markFileS_f S_laws_markText N a.1 a.2).bind _ = _
  rw [hN]; exact h2
-- loop.example/s02135/laws.markDisk
noncomputable def S_laws_markDisk (a0_Files : List TFile) (a1 : Int) : Option (Int × List TFile) := under (pre_laws_markDisk a0_Files a1) (s_laws_markDisk a0_Files a1)
def e_laws_markDisk (a : (List TFile) × Int) : List X := [.agg [ownT cFile 53 none false a.1], .d (.int .i64 a.2)]
noncomputable def C_laws_markDisk : List X → Option XOut := lay e_laws_markDisk fun a => ((S_laws_markDisk a.1 a.2)).bind fun r => some (.ret (.d (.int .i64 r.1)) [[lstT (cFile) r.2]])
theorem C_laws_markDisk_eq (a0_Files : List TFile) (a1 : Int) : C_laws_markDisk [.agg [ownT cFile 53 none false a0_Files], .d (.int .i64 a1)] = ((S_laws_markDisk a0_Files a1)).bind fun r => some (.ret (.d (.int .i64 r.1)) [[lstT (cFile) r.2]]) := lay_eq (enc := e_laws_markDisk) (by
  intro a b h
  simp only [e_laws_markDisk, List.cons.injEq, X.d.injEq, X.agg.injEq, X.box.injEq, D.int.injEq, D.bool.injEq, D.fn.injEq, sD_inj, lstT_inj, ownT_inj, and_true, true_and, and_assoc] at h
  simp only [Prod.ext_iff]; exact h) (a0_Files, a1)
noncomputable def G31 : Ctx := G30.with 11 C_laws_markDisk true
theorem so31 : SoundAll Try.prog G31 := by
  refine layer (cuts := []) (k := 2) (cd := c_laws_markDisk) (rs := r_laws_markDisk) (enc := e_laws_markDisk) mixed so30 Try.func11 (by kernel_rfl) (by kernel_rfl) (by kernel_rfl) (by kernel_rfl) (by kernel_rfl) (by kernel_rfl) (wk := fun y => nocap y) Same.nocap ?_
  intro a out ho
  obtain ⟨r, h1, h2⟩ := Option.bind_eq_some_iff.mp ho
  obtain ⟨hp, rfl⟩ := under_some h1
  obtain ⟨N, hN⟩ := p_laws_markDisk S_laws_markFileS (fun _ _ h => under_pos h) a.1 a.2 hp
  refine ⟨N, ?_⟩
  refine ((callF_G (fun y => some (nocap y)) 2 c_laws_markDisk r_laws_markDisk (e_laws_markDisk a) ⟨rfl, rfl, rfl⟩).trans (laws_markDisk_g ⟨G30, [0], [0], [(0, .row 53 2)], N, r_laws_markDisk, none, fun _ _ => none, fun y => some (nocap y)⟩ ⟨rfl, rfl, rfl, rfl, rfl, fun _ => rfl, fun _ => rfl⟩ S_laws_markFileS ⟨rfl, (fun a0 a1 => (show G30 33 _ = _ from rfl).trans (C_laws_markFileS_eq a0 a1))⟩ a.1 a.2)).trans ?_
  show (laws_markDisk_f S_laws_markFileS N a.1 a.2).bind _ = _
  rw [hN]; exact h2
-- loop.example/s02135/laws.heldFileS
noncomputable def S_laws_heldFileS (a0 : List TFile) (a1 : Int) : Option (Int) := under (pre_laws_heldFileS a0 a1) (s_laws_heldFileS a0 a1)
def e_laws_heldFileS (a : (List TFile) × Int) : List X := [.d (lstT cFile a.1), .d (.int .i64 a.2)]
noncomputable def C_laws_heldFileS : List X → Option XOut := lay e_laws_heldFileS fun a => ((S_laws_heldFileS a.1 a.2)).bind fun r => some (.ret (.d (.int .i64 r)) [])
theorem C_laws_heldFileS_eq (a0 : List TFile) (a1 : Int) : C_laws_heldFileS [.d (lstT cFile a0), .d (.int .i64 a1)] = ((S_laws_heldFileS a0 a1)).bind fun r => some (.ret (.d (.int .i64 r)) []) := lay_eq (enc := e_laws_heldFileS) (by
  intro a b h
  simp only [e_laws_heldFileS, List.cons.injEq, X.d.injEq, X.agg.injEq, X.box.injEq, D.int.injEq, D.bool.injEq, D.fn.injEq, sD_inj, lstT_inj, ownT_inj, and_true, true_and, and_assoc] at h
  simp only [Prod.ext_iff]; exact h) (a0, a1)
noncomputable def G32 : Ctx := G31.with 34 C_laws_heldFileS
theorem so32 : SoundAll Try.prog G32 := by
  refine layer (cuts := []) (k := 2) (cd := c_laws_heldFileS) (rs := r_laws_heldFileS) (enc := e_laws_heldFileS) mixed so31 Try.func34 (by kernel_rfl) (by kernel_rfl) (by kernel_rfl) (by kernel_rfl) (by kernel_rfl) (by kernel_rfl) (wk := fun y => nocap y) Same.nocap ?_
  intro a out ho
  obtain ⟨r, h1, h2⟩ := Option.bind_eq_some_iff.mp ho
  obtain ⟨hp, rfl⟩ := under_some h1
  obtain ⟨N, hN⟩ := p_laws_heldFileS S_laws_markText (fun _ h => under_pos h) a.1 a.2 hp
  refine ⟨N, ?_⟩
  refine ((callF_G (fun y => some (nocap y)) 2 c_laws_heldFileS r_laws_heldFileS (e_laws_heldFileS a) ⟨rfl, rfl, rfl⟩).trans (laws_heldFileS_g ⟨G31, [], [], [], N, r_laws_heldFileS, none, fun _ _ => none, fun y => some (nocap y)⟩ ⟨rfl, rfl, rfl, rfl, rfl, fun _ => rfl, fun _ => rfl⟩ S_laws_markText ⟨rfl, (fun a0 => (show G31 83 _ = _ from rfl).trans (C_laws_markText_eq a0))⟩ a.1 a.2)).trans ?_
  show (laws_heldFileS_f S_laws_markText N a.1 a.2).bind _ = _
  rw [hN]; exact h2
-- loop.example/s02135/laws.heldDisk
noncomputable def S_laws_heldDisk (a0_Files : List TFile) (a1 : Int) : Option (Int) := under (pre_laws_heldDisk a0_Files a1) (s_laws_heldDisk a0_Files a1)
def e_laws_heldDisk (a : (List TFile) × Int) : List X := [.agg [.d (lstT cFile a.1)], .d (.int .i64 a.2)]
noncomputable def C_laws_heldDisk : List X → Option XOut := lay e_laws_heldDisk fun a => ((S_laws_heldDisk a.1 a.2)).bind fun r => some (.ret (.d (.int .i64 r)) [])
theorem C_laws_heldDisk_eq (a0_Files : List TFile) (a1 : Int) : C_laws_heldDisk [.agg [.d (lstT cFile a0_Files)], .d (.int .i64 a1)] = ((S_laws_heldDisk a0_Files a1)).bind fun r => some (.ret (.d (.int .i64 r)) []) := lay_eq (enc := e_laws_heldDisk) (by
  intro a b h
  simp only [e_laws_heldDisk, List.cons.injEq, X.d.injEq, X.agg.injEq, X.box.injEq, D.int.injEq, D.bool.injEq, D.fn.injEq, sD_inj, lstT_inj, ownT_inj, and_true, true_and, and_assoc] at h
  simp only [Prod.ext_iff]; exact h) (a0_Files, a1)
noncomputable def G33 : Ctx := G32.with 12 C_laws_heldDisk
theorem so33 : SoundAll Try.prog G33 := by
  refine layer (cuts := []) (k := 2) (cd := c_laws_heldDisk) (rs := r_laws_heldDisk) (enc := e_laws_heldDisk) mixed so32 Try.func12 (by kernel_rfl) (by kernel_rfl) (by kernel_rfl) (by kernel_rfl) (by kernel_rfl) (by kernel_rfl) (wk := fun y => nocap y) Same.nocap ?_
  intro a out ho
  obtain ⟨r, h1, h2⟩ := Option.bind_eq_some_iff.mp ho
  obtain ⟨hp, rfl⟩ := under_some h1
  obtain ⟨N, hN⟩ := p_laws_heldDisk S_laws_heldFileS (fun _ _ h => under_pos h) a.1 a.2 hp
  refine ⟨N, ?_⟩
  refine ((callF_G (fun y => some (nocap y)) 2 c_laws_heldDisk r_laws_heldDisk (e_laws_heldDisk a) ⟨rfl, rfl, rfl⟩).trans (laws_heldDisk_g ⟨G32, [], [], [], N, r_laws_heldDisk, none, fun _ _ => none, fun y => some (nocap y)⟩ ⟨rfl, rfl, rfl, rfl, rfl, fun _ => rfl, fun _ => rfl⟩ S_laws_heldFileS ⟨rfl, (fun a0 a1 => (show G32 34 _ = _ from rfl).trans (C_laws_heldFileS_eq a0 a1))⟩ a.1 a.2)).trans ?_
  show (laws_heldDisk_f S_laws_heldFileS N a.1 a.2).bind _ = _
  rw [hN]; exact h2
-- loop.example/s02135/laws.FnExactRecover
noncomputable def S_laws_FnExactRecover (a0_Files : List TFile) : Option (Bool) := under (pre_laws_FnExactRecover a0_Files) (s_laws_FnExactRecover a0_Files)
def e_laws_FnExactRecover (a : (List TFile)) : List X := [.agg [.d (lstT cFile a)]]
noncomputable def C_laws_FnExactRecover : List X → Option XOut := lay e_laws_FnExactRecover fun a => ((S_laws_FnExactRecover a)).bind fun r => some (.ret (.d (.bool r)) [])
theorem C_laws_FnExactRecover_eq (a0_Files : List TFile) : C_laws_FnExactRecover [.agg [.d (lstT cFile a0_Files)]] = ((S_laws_FnExactRecover a0_Files)).bind fun r => some (.ret (.d (.bool r)) []) := lay_eq (enc := e_laws_FnExactRecover) (by
  intro a b h
  simp only [e_laws_FnExactRecover, List.cons.injEq, X.d.injEq, X.agg.injEq, X.box.injEq, D.int.injEq, D.bool.injEq, D.fn.injEq, sD_inj, lstT_inj, ownT_inj, and_true, true_and, and_assoc] at h
  exact h) a0_Files
noncomputable def G34 : Ctx := G33.with 3 C_laws_FnExactRecover
theorem so34 : SoundAll Try.prog G34 := by
  refine layer (cuts := []) (k := 1) (cd := c_laws_FnExactRecover) (rs := r_laws_FnExactRecover) (enc := e_laws_FnExactRecover) mixed so33 Try.func3 (by kernel_rfl) (by kernel_rfl) (by kernel_rfl) (by kernel_rfl) (by kernel_rfl) (by kernel_rfl) (wk := fun y => nocap y) Same.nocap ?_
  intro a out ho
  obtain ⟨r, h1, h2⟩ := Option.bind_eq_some_iff.mp ho
  obtain ⟨hp, rfl⟩ := under_some h1
  obtain ⟨N, hN⟩ := p_laws_FnExactRecover S_laws_szDisk (fun _ _ h => under_pos h) S_laws_toDisk (fun _ h => under_pos h) S_spec_Recover (fun _ h => under_pos h) S_impl_Recover (fun _ h => under_pos h) S_laws_eqDisk (fun _ _ h => under_pos h) S_laws_markDisk (fun _ _ h => under_pos h) S_laws_heldDisk (fun _ _ h => under_pos h) a hp
  refine ⟨N, ?_⟩
  refine ((callF_G (fun y => some (nocap y)) 1 c_laws_FnExactRecover r_laws_FnExactRecover (e_laws_FnExactRecover a) ⟨rfl, rfl, rfl⟩).trans (laws_FnExactRecover_g ⟨G33, [], [], [], N, r_laws_FnExactRecover, none, fun _ _ => none, fun y => some (nocap y)⟩ ⟨rfl, rfl, rfl, rfl, rfl, fun _ => rfl, fun _ => rfl⟩ S_laws_szDisk ⟨rfl, (fun a0_Files a1 => (show G33 6 _ = _ from rfl).trans (C_laws_szDisk_eq a0_Files a1))⟩ S_laws_toDisk ⟨rfl, (fun a0_Files => (show G33 8 _ = _ from rfl).trans (C_laws_toDisk_eq a0_Files))⟩ S_spec_Recover ⟨rfl, (fun a0_Files => (show G33 7 _ = _ from rfl).trans (C_spec_Recover_eq a0_Files))⟩ S_impl_Recover ⟨rfl, (fun a0_Files => (show G33 9 _ = _ from rfl).trans (C_impl_Recover_eq a0_Files))⟩ S_laws_eqDisk ⟨rfl, (fun a0_Files a1_Files => (show G33 10 _ = _ from rfl).trans (C_laws_eqDisk_eq a0_Files a1_Files))⟩ S_laws_markDisk ⟨rfl, (fun a0_Files a1 => (show G33 11 _ = _ from rfl).trans (C_laws_markDisk_eq a0_Files a1))⟩ S_laws_heldDisk ⟨rfl, (fun a0_Files a1 => (show G33 12 _ = _ from rfl).trans (C_laws_heldDisk_eq a0_Files a1))⟩ a)).trans ?_
  show (laws_FnExactRecover_f S_laws_szDisk S_laws_toDisk S_spec_Recover S_impl_Recover S_laws_eqDisk S_laws_markDisk S_laws_heldDisk N a).bind _ = _
  rw [hN]; exact h2
theorem law : Sound Try.prog 3 C_laws_FnExactRecover := by
  have h := so34 3
  exact h
end Go.Proofs.Ytbfmeoiblppnbaa.TowRec
