/- The contracts of the functions under laws_FnExactDiskOk, one upon the other. Printed by a program of this session. -/
import Derived.Test.YtejgcpankckdkaaFDisk
import Derived.Test.YtejgcpankckdkaaPDisk
import Derived.Test.YtejgcpankckdkaaVmLayer
import Derived.Test.YtejgcpankckdkaaProg
set_option linter.all false
set_option maxRecDepth 100000
namespace Go.Proofs.Ytejgcpankckdkaa.TowDisk
open Go.Vm
theorem mixed : Try.prog.follows .mixedOrders = true := by kernel_rfl
noncomputable def G0 : Ctx := Γ0
theorem so0 : SoundAll Try.prog G0 := Γ0_sound _
-- loop.example/s02135/laws.szFile
noncomputable def S_laws_szFile (a0_Name : List UInt8) (a0_Data : List UInt8) (a1 : Int) : Option (Int) := under (pre_laws_szFile a0_Name a0_Data a1) (s_laws_szFile a0_Name a0_Data a1)
def e_laws_szFile (a : (List UInt8) × (List UInt8) × Int) : List X := [.agg [.d (sD a.1), .d (sD a.2.1)], .d (.int .i64 a.2.2)]
noncomputable def C_laws_szFile : List X → Option XOut := lay e_laws_szFile fun a => ((S_laws_szFile a.1 a.2.1 a.2.2)).bind fun r => some (.ret (.d (.int .i64 r)) [])
theorem C_laws_szFile_eq (a0_Name : List UInt8) (a0_Data : List UInt8) (a1 : Int) : C_laws_szFile [.agg [.d (sD a0_Name), .d (sD a0_Data)], .d (.int .i64 a1)] = ((S_laws_szFile a0_Name a0_Data a1)).bind fun r => some (.ret (.d (.int .i64 r)) []) := lay_eq (enc := e_laws_szFile) (by
  intro a b h
  simp only [e_laws_szFile, List.cons.injEq, X.d.injEq, X.agg.injEq, X.box.injEq, D.int.injEq, D.bool.injEq, D.fn.injEq, sD_inj, lstT_inj, and_true, true_and, and_assoc] at h
  simp only [Prod.ext_iff]; exact h) (a0_Name, a0_Data, a1)
noncomputable def G1 : Ctx := G0.with 119 C_laws_szFile
theorem so1 : SoundAll Try.prog G1 := by
  refine layer (k := 2) (cd := c_laws_szFile) (rs := r_laws_szFile) (enc := e_laws_szFile) mixed so0 Try.func119 (by kernel_rfl) (by kernel_rfl) (by kernel_rfl) (by kernel_rfl) (by kernel_rfl) (by kernel_rfl) ?_
  intro a out ho
  obtain ⟨r, h1, h2⟩ := Option.bind_eq_some_iff.mp ho
  obtain ⟨hp, rfl⟩ := under_some h1
  obtain ⟨N, hN⟩ := p_laws_szFile a.1 a.2.1 a.2.2 hp
  refine ⟨N, ?_⟩
  refine ((callF_G _ 2 c_laws_szFile r_laws_szFile (e_laws_szFile a) ⟨rfl, rfl, rfl⟩).trans (laws_szFile_g ⟨G0, [], N, r_laws_szFile, fun y => some (Vm.nocap y)⟩ rfl rfl (fun _ => rfl) a.1 a.2.1 a.2.2)).trans ?_
  show (laws_szFile_f N a.1 a.2.1 a.2.2).bind _ = _
  rw [hN]; exact h2
-- loop.example/s02135/laws.szFileS
noncomputable def S_laws_szFileS (a0 : List TFile) (a1 : Int) : Option (Int) := under (pre_laws_szFileS a0 a1) (s_laws_szFileS a0 a1)
def e_laws_szFileS (a : (List TFile) × Int) : List X := [.d (lstT cFile a.1), .d (.int .i64 a.2)]
noncomputable def C_laws_szFileS : List X → Option XOut := lay e_laws_szFileS fun a => ((S_laws_szFileS a.1 a.2)).bind fun r => some (.ret (.d (.int .i64 r)) [])
theorem C_laws_szFileS_eq (a0 : List TFile) (a1 : Int) : C_laws_szFileS [.d (lstT cFile a0), .d (.int .i64 a1)] = ((S_laws_szFileS a0 a1)).bind fun r => some (.ret (.d (.int .i64 r)) []) := lay_eq (enc := e_laws_szFileS) (by
  intro a b h
  simp only [e_laws_szFileS, List.cons.injEq, X.d.injEq, X.agg.injEq, X.box.injEq, D.int.injEq, D.bool.injEq, D.fn.injEq, sD_inj, lstT_inj, and_true, true_and, and_assoc] at h
  simp only [Prod.ext_iff]; exact h) (a0, a1)
noncomputable def G2 : Ctx := G1.with 52 C_laws_szFileS
theorem so2 : SoundAll Try.prog G2 := by
  refine layer (k := 2) (cd := c_laws_szFileS) (rs := r_laws_szFileS) (enc := e_laws_szFileS) mixed so1 Try.func52 (by kernel_rfl) (by kernel_rfl) (by kernel_rfl) (by kernel_rfl) (by kernel_rfl) (by kernel_rfl) ?_
  intro a out ho
  obtain ⟨r, h1, h2⟩ := Option.bind_eq_some_iff.mp ho
  obtain ⟨hp, rfl⟩ := under_some h1
  obtain ⟨N, hN⟩ := p_laws_szFileS S_laws_szFile (fun _ _ _ h => under_pos h) a.1 a.2 hp
  refine ⟨N, ?_⟩
  refine ((callF_G _ 2 c_laws_szFileS r_laws_szFileS (e_laws_szFileS a) ⟨rfl, rfl, rfl⟩).trans (laws_szFileS_g ⟨G1, [], N, r_laws_szFileS, fun y => some (Vm.nocap y)⟩ rfl rfl (fun _ => rfl) S_laws_szFile (fun a0_Name a0_Data a1 => (show G1 119 _ = _ from rfl).trans (C_laws_szFile_eq a0_Name a0_Data a1)) a.1 a.2)).trans ?_
  show (laws_szFileS_f S_laws_szFile N a.1 a.2).bind _ = _
  rw [hN]; exact h2
-- loop.example/s02135/laws.szDisk
noncomputable def S_laws_szDisk (a0_Files : List TFile) (a1 : Int) : Option (Int) := under (pre_laws_szDisk a0_Files a1) (s_laws_szDisk a0_Files a1)
def e_laws_szDisk (a : (List TFile) × Int) : List X := [.agg [.d (lstT cFile a.1)], .d (.int .i64 a.2)]
noncomputable def C_laws_szDisk : List X → Option XOut := lay e_laws_szDisk fun a => ((S_laws_szDisk a.1 a.2)).bind fun r => some (.ret (.d (.int .i64 r)) [])
theorem C_laws_szDisk_eq (a0_Files : List TFile) (a1 : Int) : C_laws_szDisk [.agg [.d (lstT cFile a0_Files)], .d (.int .i64 a1)] = ((S_laws_szDisk a0_Files a1)).bind fun r => some (.ret (.d (.int .i64 r)) []) := lay_eq (enc := e_laws_szDisk) (by
  intro a b h
  simp only [e_laws_szDisk, List.cons.injEq, X.d.injEq, X.agg.injEq, X.box.injEq, D.int.injEq, D.bool.injEq, D.fn.injEq, sD_inj, lstT_inj, and_true, true_and, and_assoc] at h
  simp only [Prod.ext_iff]; exact h) (a0_Files, a1)
noncomputable def G3 : Ctx := G2.with 19 C_laws_szDisk
theorem so3 : SoundAll Try.prog G3 := by
  refine layer (k := 2) (cd := c_laws_szDisk) (rs := r_laws_szDisk) (enc := e_laws_szDisk) mixed so2 Try.func19 (by kernel_rfl) (by kernel_rfl) (by kernel_rfl) (by kernel_rfl) (by kernel_rfl) (by kernel_rfl) ?_
  intro a out ho
  obtain ⟨r, h1, h2⟩ := Option.bind_eq_some_iff.mp ho
  obtain ⟨hp, rfl⟩ := under_some h1
  obtain ⟨N, hN⟩ := p_laws_szDisk S_laws_szFileS (fun _ _ h => under_pos h) a.1 a.2 hp
  refine ⟨N, ?_⟩
  refine ((callF_G _ 2 c_laws_szDisk r_laws_szDisk (e_laws_szDisk a) ⟨rfl, rfl, rfl⟩).trans (laws_szDisk_g ⟨G2, [], N, r_laws_szDisk, fun y => some (Vm.nocap y)⟩ rfl rfl (fun _ => rfl) S_laws_szFileS (fun a0 a1 => (show G2 52 _ = _ from rfl).trans (C_laws_szFileS_eq a0 a1)) a.1 a.2)).trans ?_
  show (laws_szDisk_f S_laws_szFileS N a.1 a.2).bind _ = _
  rw [hN]; exact h2
-- loop.example/s02135/laws.toFile
noncomputable def S_laws_toFile (a0_Name : List UInt8) (a0_Data : List UInt8) : Option (List UInt8 × List UInt8) := under (pre_laws_toFile a0_Name a0_Data) (s_laws_toFile a0_Name a0_Data)
def e_laws_toFile (a : (List UInt8) × (List UInt8)) : List X := [.agg [.d (sD a.1), .d (sD a.2)]]
noncomputable def C_laws_toFile : List X → Option XOut := lay e_laws_toFile fun a => ((S_laws_toFile a.1 a.2)).bind fun r => some (.ret (.agg [.d (sD r.1), .d (sD r.2)]) [])
theorem C_laws_toFile_eq (a0_Name : List UInt8) (a0_Data : List UInt8) : C_laws_toFile [.agg [.d (sD a0_Name), .d (sD a0_Data)]] = ((S_laws_toFile a0_Name a0_Data)).bind fun r => some (.ret (.agg [.d (sD r.1), .d (sD r.2)]) []) := lay_eq (enc := e_laws_toFile) (by
  intro a b h
  simp only [e_laws_toFile, List.cons.injEq, X.d.injEq, X.agg.injEq, X.box.injEq, D.int.injEq, D.bool.injEq, D.fn.injEq, sD_inj, lstT_inj, and_true, true_and, and_assoc] at h
  simp only [Prod.ext_iff]; exact h) (a0_Name, a0_Data)
noncomputable def G4 : Ctx := G3.with 122 C_laws_toFile
theorem so4 : SoundAll Try.prog G4 := by
  refine layer (k := 1) (cd := c_laws_toFile) (rs := r_laws_toFile) (enc := e_laws_toFile) mixed so3 Try.func122 (by kernel_rfl) (by kernel_rfl) (by kernel_rfl) (by kernel_rfl) (by kernel_rfl) (by kernel_rfl) ?_
  intro a out ho
  obtain ⟨r, h1, h2⟩ := Option.bind_eq_some_iff.mp ho
  obtain ⟨hp, rfl⟩ := under_some h1
  obtain ⟨N, hN⟩ := p_laws_toFile a.1 a.2 hp
  refine ⟨N, ?_⟩
  refine ((callF_G _ 1 c_laws_toFile r_laws_toFile (e_laws_toFile a) ⟨rfl, rfl, rfl⟩).trans (laws_toFile_g ⟨G3, [], N, r_laws_toFile, fun y => some (Vm.nocap y)⟩ rfl rfl (fun _ => rfl) a.1 a.2)).trans ?_
  show (laws_toFile_f N a.1 a.2).bind _ = _
  rw [hN]; exact h2
-- loop.example/s02135/laws.toFileS
noncomputable def S_laws_toFileS (a0 : List TFile) : Option (List TFile) := under (pre_laws_toFileS a0) (s_laws_toFileS a0)
def e_laws_toFileS (a : (List TFile)) : List X := [.d (lstT cFile a)]
noncomputable def C_laws_toFileS : List X → Option XOut := lay e_laws_toFileS fun a => ((S_laws_toFileS a)).bind fun r => some (.ret (ownT (cFile) 62 none false r) [])
theorem C_laws_toFileS_eq (a0 : List TFile) : C_laws_toFileS [.d (lstT cFile a0)] = ((S_laws_toFileS a0)).bind fun r => some (.ret (ownT (cFile) 62 none false r) []) := lay_eq (enc := e_laws_toFileS) (by
  intro a b h
  simp only [e_laws_toFileS, List.cons.injEq, X.d.injEq, X.agg.injEq, X.box.injEq, D.int.injEq, D.bool.injEq, D.fn.injEq, sD_inj, lstT_inj, and_true, true_and, and_assoc] at h
  exact h) a0
noncomputable def G5 : Ctx := G4.with 54 C_laws_toFileS
theorem so5 : SoundAll Try.prog G5 := by
  refine layer (k := 1) (cd := c_laws_toFileS) (rs := r_laws_toFileS) (enc := e_laws_toFileS) mixed so4 Try.func54 (by kernel_rfl) (by kernel_rfl) (by kernel_rfl) (by kernel_rfl) (by kernel_rfl) (by kernel_rfl) ?_
  intro a out ho
  obtain ⟨r, h1, h2⟩ := Option.bind_eq_some_iff.mp ho
  obtain ⟨hp, rfl⟩ := under_some h1
  obtain ⟨N, hN⟩ := p_laws_toFileS S_laws_toFile (fun _ _ h => under_pos h) a hp
  refine ⟨N, ?_⟩
  refine ((callF_G _ 1 c_laws_toFileS r_laws_toFileS (e_laws_toFileS a) ⟨rfl, rfl, rfl⟩).trans (laws_toFileS_g ⟨G4, [], N, r_laws_toFileS, fun y => some (Vm.nocap y)⟩ rfl rfl (fun _ => rfl) S_laws_toFile (fun a0_Name a0_Data => (show G4 122 _ = _ from rfl).trans (C_laws_toFile_eq a0_Name a0_Data)) a)).trans ?_
  show (laws_toFileS_f S_laws_toFile N a).bind _ = _
  rw [hN]; exact h2
-- loop.example/s02135/laws.toDisk
noncomputable def S_laws_toDisk (a0_Files : List TFile) : Option (List TFile) := under (pre_laws_toDisk a0_Files) (s_laws_toDisk a0_Files)
def e_laws_toDisk (a : (List TFile)) : List X := [.agg [.d (lstT cFile a)]]
noncomputable def C_laws_toDisk : List X → Option XOut := lay e_laws_toDisk fun a => ((S_laws_toDisk a)).bind fun r => some (.ret (.agg [ownT (cFile) 62 none false r]) [])
theorem C_laws_toDisk_eq (a0_Files : List TFile) : C_laws_toDisk [.agg [.d (lstT cFile a0_Files)]] = ((S_laws_toDisk a0_Files)).bind fun r => some (.ret (.agg [ownT (cFile) 62 none false r]) []) := lay_eq (enc := e_laws_toDisk) (by
  intro a b h
  simp only [e_laws_toDisk, List.cons.injEq, X.d.injEq, X.agg.injEq, X.box.injEq, D.int.injEq, D.bool.injEq, D.fn.injEq, sD_inj, lstT_inj, and_true, true_and, and_assoc] at h
  exact h) a0_Files
noncomputable def G6 : Ctx := G5.with 21 C_laws_toDisk
theorem so6 : SoundAll Try.prog G6 := by
  refine layer (k := 1) (cd := c_laws_toDisk) (rs := r_laws_toDisk) (enc := e_laws_toDisk) mixed so5 Try.func21 (by kernel_rfl) (by kernel_rfl) (by kernel_rfl) (by kernel_rfl) (by kernel_rfl) (by kernel_rfl) ?_
  intro a out ho
  obtain ⟨r, h1, h2⟩ := Option.bind_eq_some_iff.mp ho
  obtain ⟨hp, rfl⟩ := under_some h1
  obtain ⟨N, hN⟩ := p_laws_toDisk S_laws_toFileS (fun _ h => under_pos h) a hp
  refine ⟨N, ?_⟩
  refine ((callF_G _ 1 c_laws_toDisk r_laws_toDisk (e_laws_toDisk a) ⟨rfl, rfl, rfl⟩).trans (laws_toDisk_g ⟨G5, [], N, r_laws_toDisk, fun y => some (Vm.nocap y)⟩ rfl rfl (fun _ => rfl) S_laws_toFileS (fun a0 => (show G5 54 _ = _ from rfl).trans (C_laws_toFileS_eq a0)) a)).trans ?_
  show (laws_toDisk_f S_laws_toFileS N a).bind _ = _
  rw [hN]; exact h2
-- loop.example/s02135/spec.l3Digit
noncomputable def S_spec_l3Digit (a0 : Int) : Option (Bool) := under (pre_spec_l3Digit a0) (s_spec_l3Digit a0)
def e_spec_l3Digit (a : Int) : List X := [.d (.int .u8 a)]
noncomputable def C_spec_l3Digit : List X → Option XOut := lay e_spec_l3Digit fun a => ((S_spec_l3Digit a)).bind fun r => some (.ret (.d (.bool r)) [])
theorem C_spec_l3Digit_eq (a0 : Int) : C_spec_l3Digit [.d (.int .u8 a0)] = ((S_spec_l3Digit a0)).bind fun r => some (.ret (.d (.bool r)) []) := lay_eq (enc := e_spec_l3Digit) (by
  intro a b h
  simp only [e_spec_l3Digit, List.cons.injEq, X.d.injEq, X.agg.injEq, X.box.injEq, D.int.injEq, D.bool.injEq, D.fn.injEq, sD_inj, lstT_inj, and_true, true_and, and_assoc] at h
  exact h) a0
noncomputable def G7 : Ctx := G6.with 120 C_spec_l3Digit
theorem so7 : SoundAll Try.prog G7 := by
  refine layer (k := 1) (cd := c_spec_l3Digit) (rs := r_spec_l3Digit) (enc := e_spec_l3Digit) mixed so6 Try.func120 (by kernel_rfl) (by kernel_rfl) (by kernel_rfl) (by kernel_rfl) (by kernel_rfl) (by kernel_rfl) ?_
  intro a out ho
  obtain ⟨r, h1, h2⟩ := Option.bind_eq_some_iff.mp ho
  obtain ⟨hp, rfl⟩ := under_some h1
  obtain ⟨N, hN⟩ := p_spec_l3Digit a hp
  refine ⟨N, ?_⟩
  refine ((callF_G _ 1 c_spec_l3Digit r_spec_l3Digit (e_spec_l3Digit a) ⟨rfl, rfl, rfl⟩).trans (spec_l3Digit_g ⟨G6, [], N, r_spec_l3Digit, fun y => some (Vm.nocap y)⟩ rfl rfl (fun _ => rfl) a)).trans ?_
  show (spec_l3Digit_f N a).bind _ = _
  rw [hN]; exact h2
-- loop.example/s02135/spec.l3Letter
noncomputable def S_spec_l3Letter (a0 : Int) : Option (Bool) := under (pre_spec_l3Letter a0) (s_spec_l3Letter a0)
def e_spec_l3Letter (a : Int) : List X := [.d (.int .u8 a)]
noncomputable def C_spec_l3Letter : List X → Option XOut := lay e_spec_l3Letter fun a => ((S_spec_l3Letter a)).bind fun r => some (.ret (.d (.bool r)) [])
theorem C_spec_l3Letter_eq (a0 : Int) : C_spec_l3Letter [.d (.int .u8 a0)] = ((S_spec_l3Letter a0)).bind fun r => some (.ret (.d (.bool r)) []) := lay_eq (enc := e_spec_l3Letter) (by
  intro a b h
  simp only [e_spec_l3Letter, List.cons.injEq, X.d.injEq, X.agg.injEq, X.box.injEq, D.int.injEq, D.bool.injEq, D.fn.injEq, sD_inj, lstT_inj, and_true, true_and, and_assoc] at h
  exact h) a0
noncomputable def G8 : Ctx := G7.with 121 C_spec_l3Letter
theorem so8 : SoundAll Try.prog G8 := by
  refine layer (k := 1) (cd := c_spec_l3Letter) (rs := r_spec_l3Letter) (enc := e_spec_l3Letter) mixed so7 Try.func121 (by kernel_rfl) (by kernel_rfl) (by kernel_rfl) (by kernel_rfl) (by kernel_rfl) (by kernel_rfl) ?_
  intro a out ho
  obtain ⟨r, h1, h2⟩ := Option.bind_eq_some_iff.mp ho
  obtain ⟨hp, rfl⟩ := under_some h1
  obtain ⟨N, hN⟩ := p_spec_l3Letter a hp
  refine ⟨N, ?_⟩
  refine ((callF_G _ 1 c_spec_l3Letter r_spec_l3Letter (e_spec_l3Letter a) ⟨rfl, rfl, rfl⟩).trans (spec_l3Letter_g ⟨G7, [], N, r_spec_l3Letter, fun y => some (Vm.nocap y)⟩ rfl rfl (fun _ => rfl) a)).trans ?_
  show (spec_l3Letter_f N a).bind _ = _
  rw [hN]; exact h2
-- loop.example/s02135/spec.l7NameOk
noncomputable def S_spec_l7NameOk (a0 : List UInt8) : Option (Bool) := under (pre_spec_l7NameOk a0) (s_spec_l7NameOk a0)
def e_spec_l7NameOk (a : (List UInt8)) : List X := [.d (sD a)]
noncomputable def C_spec_l7NameOk : List X → Option XOut := lay e_spec_l7NameOk fun a => ((S_spec_l7NameOk a)).bind fun r => some (.ret (.d (.bool r)) [])
theorem C_spec_l7NameOk_eq (a0 : List UInt8) : C_spec_l7NameOk [.d (sD a0)] = ((S_spec_l7NameOk a0)).bind fun r => some (.ret (.d (.bool r)) []) := lay_eq (enc := e_spec_l7NameOk) (by
  intro a b h
  simp only [e_spec_l7NameOk, List.cons.injEq, X.d.injEq, X.agg.injEq, X.box.injEq, D.int.injEq, D.bool.injEq, D.fn.injEq, sD_inj, lstT_inj, and_true, true_and, and_assoc] at h
  exact h) a0
noncomputable def G9 : Ctx := G8.with 53 C_spec_l7NameOk
theorem so9 : SoundAll Try.prog G9 := by
  refine layer (k := 1) (cd := c_spec_l7NameOk) (rs := r_spec_l7NameOk) (enc := e_spec_l7NameOk) mixed so8 Try.func53 (by kernel_rfl) (by kernel_rfl) (by kernel_rfl) (by kernel_rfl) (by kernel_rfl) (by kernel_rfl) ?_
  intro a out ho
  obtain ⟨r, h1, h2⟩ := Option.bind_eq_some_iff.mp ho
  obtain ⟨hp, rfl⟩ := under_some h1
  obtain ⟨N, hN⟩ := p_spec_l7NameOk S_spec_l3Digit (fun _ h => under_pos h) S_spec_l3Letter (fun _ h => under_pos h) a hp
  refine ⟨N, ?_⟩
  refine ((callF_G _ 1 c_spec_l7NameOk r_spec_l7NameOk (e_spec_l7NameOk a) ⟨rfl, rfl, rfl⟩).trans (spec_l7NameOk_g ⟨G8, [], N, r_spec_l7NameOk, fun y => some (Vm.nocap y)⟩ rfl rfl (fun _ => rfl) S_spec_l3Digit (fun a0 => (show G8 120 _ = _ from rfl).trans (C_spec_l3Digit_eq a0)) S_spec_l3Letter (fun a0 => (show G8 121 _ = _ from rfl).trans (C_spec_l3Letter_eq a0)) a)).trans ?_
  show (spec_l7NameOk_f S_spec_l3Digit S_spec_l3Letter N a).bind _ = _
  rw [hN]; exact h2
-- loop.example/s02135/spec.DiskOk
noncomputable def S_spec_DiskOk (a0_Files : List TFile) : Option (Bool) := under (pre_spec_DiskOk a0_Files) (s_spec_DiskOk a0_Files)
def e_spec_DiskOk (a : (List TFile)) : List X := [.agg [.d (lstT cFile a)]]
noncomputable def C_spec_DiskOk : List X → Option XOut := lay e_spec_DiskOk fun a => ((S_spec_DiskOk a)).bind fun r => some (.ret (.d (.bool r)) [])
theorem C_spec_DiskOk_eq (a0_Files : List TFile) : C_spec_DiskOk [.agg [.d (lstT cFile a0_Files)]] = ((S_spec_DiskOk a0_Files)).bind fun r => some (.ret (.d (.bool r)) []) := lay_eq (enc := e_spec_DiskOk) (by
  intro a b h
  simp only [e_spec_DiskOk, List.cons.injEq, X.d.injEq, X.agg.injEq, X.box.injEq, D.int.injEq, D.bool.injEq, D.fn.injEq, sD_inj, lstT_inj, and_true, true_and, and_assoc] at h
  exact h) a0_Files
noncomputable def G10 : Ctx := G9.with 20 C_spec_DiskOk
theorem so10 : SoundAll Try.prog G10 := by
  refine layer (k := 1) (cd := c_spec_DiskOk) (rs := r_spec_DiskOk) (enc := e_spec_DiskOk) mixed so9 Try.func20 (by kernel_rfl) (by kernel_rfl) (by kernel_rfl) (by kernel_rfl) (by kernel_rfl) (by kernel_rfl) ?_
  intro a out ho
  obtain ⟨r, h1, h2⟩ := Option.bind_eq_some_iff.mp ho
  obtain ⟨hp, rfl⟩ := under_some h1
  obtain ⟨N, hN⟩ := p_spec_DiskOk S_spec_l7NameOk (fun _ h => under_pos h) a hp
  refine ⟨N, ?_⟩
  refine ((callF_G _ 1 c_spec_DiskOk r_spec_DiskOk (e_spec_DiskOk a) ⟨rfl, rfl, rfl⟩).trans (spec_DiskOk_g ⟨G9, [], N, r_spec_DiskOk, fun y => some (Vm.nocap y)⟩ rfl rfl (fun _ => rfl) S_spec_l7NameOk (fun a0 => (show G9 53 _ = _ from rfl).trans (C_spec_l7NameOk_eq a0)) a)).trans ?_
  show (spec_DiskOk_f S_spec_l7NameOk N a).bind _ = _
  rw [hN]; exact h2
-- loop.example/s02135/impl.isDigit
noncomputable def S_impl_isDigit (a0 : Int) : Option (Bool) := under (pre_impl_isDigit a0) (s_impl_isDigit a0)
def e_impl_isDigit (a : Int) : List X := [.d (.int .u8 a)]
noncomputable def C_impl_isDigit : List X → Option XOut := lay e_impl_isDigit fun a => ((S_impl_isDigit a)).bind fun r => some (.ret (.d (.bool r)) [])
theorem C_impl_isDigit_eq (a0 : Int) : C_impl_isDigit [.d (.int .u8 a0)] = ((S_impl_isDigit a0)).bind fun r => some (.ret (.d (.bool r)) []) := lay_eq (enc := e_impl_isDigit) (by
  intro a b h
  simp only [e_impl_isDigit, List.cons.injEq, X.d.injEq, X.agg.injEq, X.box.injEq, D.int.injEq, D.bool.injEq, D.fn.injEq, sD_inj, lstT_inj, and_true, true_and, and_assoc] at h
  exact h) a0
noncomputable def G11 : Ctx := G10.with 123 C_impl_isDigit
theorem so11 : SoundAll Try.prog G11 := by
  refine layer (k := 1) (cd := c_impl_isDigit) (rs := r_impl_isDigit) (enc := e_impl_isDigit) mixed so10 Try.func123 (by kernel_rfl) (by kernel_rfl) (by kernel_rfl) (by kernel_rfl) (by kernel_rfl) (by kernel_rfl) ?_
  intro a out ho
  obtain ⟨r, h1, h2⟩ := Option.bind_eq_some_iff.mp ho
  obtain ⟨hp, rfl⟩ := under_some h1
  obtain ⟨N, hN⟩ := p_impl_isDigit a hp
  refine ⟨N, ?_⟩
  refine ((callF_G _ 1 c_impl_isDigit r_impl_isDigit (e_impl_isDigit a) ⟨rfl, rfl, rfl⟩).trans (impl_isDigit_g ⟨G10, [], N, r_impl_isDigit, fun y => some (Vm.nocap y)⟩ rfl rfl (fun _ => rfl) a)).trans ?_
  show (impl_isDigit_f N a).bind _ = _
  rw [hN]; exact h2
-- loop.example/s02135/impl.isLetter
noncomputable def S_impl_isLetter (a0 : Int) : Option (Bool) := under (pre_impl_isLetter a0) (s_impl_isLetter a0)
def e_impl_isLetter (a : Int) : List X := [.d (.int .u8 a)]
noncomputable def C_impl_isLetter : List X → Option XOut := lay e_impl_isLetter fun a => ((S_impl_isLetter a)).bind fun r => some (.ret (.d (.bool r)) [])
theorem C_impl_isLetter_eq (a0 : Int) : C_impl_isLetter [.d (.int .u8 a0)] = ((S_impl_isLetter a0)).bind fun r => some (.ret (.d (.bool r)) []) := lay_eq (enc := e_impl_isLetter) (by
  intro a b h
  simp only [e_impl_isLetter, List.cons.injEq, X.d.injEq, X.agg.injEq, X.box.injEq, D.int.injEq, D.bool.injEq, D.fn.injEq, sD_inj, lstT_inj, and_true, true_and, and_assoc] at h
  exact h) a0
noncomputable def G12 : Ctx := G11.with 124 C_impl_isLetter
theorem so12 : SoundAll Try.prog G12 := by
  refine layer (k := 1) (cd := c_impl_isLetter) (rs := r_impl_isLetter) (enc := e_impl_isLetter) mixed so11 Try.func124 (by kernel_rfl) (by kernel_rfl) (by kernel_rfl) (by kernel_rfl) (by kernel_rfl) (by kernel_rfl) ?_
  intro a out ho
  obtain ⟨r, h1, h2⟩ := Option.bind_eq_some_iff.mp ho
  obtain ⟨hp, rfl⟩ := under_some h1
  obtain ⟨N, hN⟩ := p_impl_isLetter a hp
  refine ⟨N, ?_⟩
  refine ((callF_G _ 1 c_impl_isLetter r_impl_isLetter (e_impl_isLetter a) ⟨rfl, rfl, rfl⟩).trans (impl_isLetter_g ⟨G11, [], N, r_impl_isLetter, fun y => some (Vm.nocap y)⟩ rfl rfl (fun _ => rfl) a)).trans ?_
  show (impl_isLetter_f N a).bind _ = _
  rw [hN]; exact h2
-- loop.example/s02135/impl.fileNameOk
noncomputable def S_impl_fileNameOk (a0 : List UInt8) : Option (Bool) := under (pre_impl_fileNameOk a0) (s_impl_fileNameOk a0)
def e_impl_fileNameOk (a : (List UInt8)) : List X := [.d (sD a)]
noncomputable def C_impl_fileNameOk : List X → Option XOut := lay e_impl_fileNameOk fun a => ((S_impl_fileNameOk a)).bind fun r => some (.ret (.d (.bool r)) [])
theorem C_impl_fileNameOk_eq (a0 : List UInt8) : C_impl_fileNameOk [.d (sD a0)] = ((S_impl_fileNameOk a0)).bind fun r => some (.ret (.d (.bool r)) []) := lay_eq (enc := e_impl_fileNameOk) (by
  intro a b h
  simp only [e_impl_fileNameOk, List.cons.injEq, X.d.injEq, X.agg.injEq, X.box.injEq, D.int.injEq, D.bool.injEq, D.fn.injEq, sD_inj, lstT_inj, and_true, true_and, and_assoc] at h
  exact h) a0
noncomputable def G13 : Ctx := G12.with 55 C_impl_fileNameOk
theorem so13 : SoundAll Try.prog G13 := by
  refine layer (k := 1) (cd := c_impl_fileNameOk) (rs := r_impl_fileNameOk) (enc := e_impl_fileNameOk) mixed so12 Try.func55 (by kernel_rfl) (by kernel_rfl) (by kernel_rfl) (by kernel_rfl) (by kernel_rfl) (by kernel_rfl) ?_
  intro a out ho
  obtain ⟨r, h1, h2⟩ := Option.bind_eq_some_iff.mp ho
  obtain ⟨hp, rfl⟩ := under_some h1
  obtain ⟨N, hN⟩ := p_impl_fileNameOk S_impl_isDigit (fun _ h => under_pos h) S_impl_isLetter (fun _ h => under_pos h) a hp
  refine ⟨N, ?_⟩
  refine ((callF_G _ 1 c_impl_fileNameOk r_impl_fileNameOk (e_impl_fileNameOk a) ⟨rfl, rfl, rfl⟩).trans (impl_fileNameOk_g ⟨G12, [], N, r_impl_fileNameOk, fun y => some (Vm.nocap y)⟩ rfl rfl (fun _ => rfl) S_impl_isDigit (fun a0 => (show G12 123 _ = _ from rfl).trans (C_impl_isDigit_eq a0)) S_impl_isLetter (fun a0 => (show G12 124 _ = _ from rfl).trans (C_impl_isLetter_eq a0)) a)).trans ?_
  show (impl_fileNameOk_f S_impl_isDigit S_impl_isLetter N a).bind _ = _
  rw [hN]; exact h2
-- loop.example/s02135/impl.DiskOk
noncomputable def S_impl_DiskOk (a0_Files : List TFile) : Option (Bool) := under (pre_impl_DiskOk a0_Files) (s_impl_DiskOk a0_Files)
def e_impl_DiskOk (a : (List TFile)) : List X := [.agg [.d (lstT cFile a)]]
noncomputable def C_impl_DiskOk : List X → Option XOut := lay e_impl_DiskOk fun a => ((S_impl_DiskOk a)).bind fun r => some (.ret (.d (.bool r)) [])
theorem C_impl_DiskOk_eq (a0_Files : List TFile) : C_impl_DiskOk [.agg [.d (lstT cFile a0_Files)]] = ((S_impl_DiskOk a0_Files)).bind fun r => some (.ret (.d (.bool r)) []) := lay_eq (enc := e_impl_DiskOk) (by
  intro a b h
  simp only [e_impl_DiskOk, List.cons.injEq, X.d.injEq, X.agg.injEq, X.box.injEq, D.int.injEq, D.bool.injEq, D.fn.injEq, sD_inj, lstT_inj, and_true, true_and, and_assoc] at h
  exact h) a0_Files
noncomputable def G14 : Ctx := G13.with 22 C_impl_DiskOk
theorem so14 : SoundAll Try.prog G14 := by
  refine layer (k := 1) (cd := c_impl_DiskOk) (rs := r_impl_DiskOk) (enc := e_impl_DiskOk) mixed so13 Try.func22 (by kernel_rfl) (by kernel_rfl) (by kernel_rfl) (by kernel_rfl) (by kernel_rfl) (by kernel_rfl) ?_
  intro a out ho
  obtain ⟨r, h1, h2⟩ := Option.bind_eq_some_iff.mp ho
  obtain ⟨hp, rfl⟩ := under_some h1
  obtain ⟨N, hN⟩ := p_impl_DiskOk S_impl_fileNameOk (fun _ h => under_pos h) a hp
  refine ⟨N, ?_⟩
  refine ((callF_G _ 1 c_impl_DiskOk r_impl_DiskOk (e_impl_DiskOk a) ⟨rfl, rfl, rfl⟩).trans (impl_DiskOk_g ⟨G13, [], N, r_impl_DiskOk, fun y => some (Vm.nocap y)⟩ rfl rfl (fun _ => rfl) S_impl_fileNameOk (fun a0 => (show G13 55 _ = _ from rfl).trans (C_impl_fileNameOk_eq a0)) a)).trans ?_
  show (impl_DiskOk_f S_impl_fileNameOk N a).bind _ = _
  rw [hN]; exact h2
-- loop.example/s02135/laws.eqFile
noncomputable def S_laws_eqFile (a0_Name : List UInt8) (a0_Data : List UInt8) (a1_Name : List UInt8) (a1_Data : List UInt8) : Option (Bool) := under (pre_laws_eqFile a0_Name a0_Data a1_Name a1_Data) (s_laws_eqFile a0_Name a0_Data a1_Name a1_Data)
def e_laws_eqFile (a : (List UInt8) × (List UInt8) × (List UInt8) × (List UInt8)) : List X := [.agg [.d (sD a.1), .d (sD a.2.1)], .agg [.d (sD a.2.2.1), .d (sD a.2.2.2)]]
noncomputable def C_laws_eqFile : List X → Option XOut := lay e_laws_eqFile fun a => ((S_laws_eqFile a.1 a.2.1 a.2.2.1 a.2.2.2)).bind fun r => some (.ret (.d (.bool r)) [])
theorem C_laws_eqFile_eq (a0_Name : List UInt8) (a0_Data : List UInt8) (a1_Name : List UInt8) (a1_Data : List UInt8) : C_laws_eqFile [.agg [.d (sD a0_Name), .d (sD a0_Data)], .agg [.d (sD a1_Name), .d (sD a1_Data)]] = ((S_laws_eqFile a0_Name a0_Data a1_Name a1_Data)).bind fun r => some (.ret (.d (.bool r)) []) := lay_eq (enc := e_laws_eqFile) (by
  intro a b h
  simp only [e_laws_eqFile, List.cons.injEq, X.d.injEq, X.agg.injEq, X.box.injEq, D.int.injEq, D.bool.injEq, D.fn.injEq, sD_inj, lstT_inj, and_true, true_and, and_assoc] at h
  simp only [Prod.ext_iff]; exact h) (a0_Name, a0_Data, a1_Name, a1_Data)
noncomputable def G15 : Ctx := G14.with 125 C_laws_eqFile
theorem so15 : SoundAll Try.prog G15 := by
  refine layer (k := 2) (cd := c_laws_eqFile) (rs := r_laws_eqFile) (enc := e_laws_eqFile) mixed so14 Try.func125 (by kernel_rfl) (by kernel_rfl) (by kernel_rfl) (by kernel_rfl) (by kernel_rfl) (by kernel_rfl) ?_
  intro a out ho
  obtain ⟨r, h1, h2⟩ := Option.bind_eq_some_iff.mp ho
  obtain ⟨hp, rfl⟩ := under_some h1
  obtain ⟨N, hN⟩ := p_laws_eqFile a.1 a.2.1 a.2.2.1 a.2.2.2 hp
  refine ⟨N, ?_⟩
  refine ((callF_G _ 2 c_laws_eqFile r_laws_eqFile (e_laws_eqFile a) ⟨rfl, rfl, rfl⟩).trans (laws_eqFile_g ⟨G14, [], N, r_laws_eqFile, fun y => some (Vm.nocap y)⟩ rfl rfl (fun _ => rfl) a.1 a.2.1 a.2.2.1 a.2.2.2)).trans ?_
  show (laws_eqFile_f N a.1 a.2.1 a.2.2.1 a.2.2.2).bind _ = _
  rw [hN]; exact h2
-- loop.example/s02135/laws.eqFileS
noncomputable def S_laws_eqFileS (a0 : List TFile) (a1 : List TFile) : Option (Bool) := under (pre_laws_eqFileS a0 a1) (s_laws_eqFileS a0 a1)
def e_laws_eqFileS (a : (List TFile) × (List TFile)) : List X := [.d (lstT cFile a.1), .d (lstT cFile a.2)]
noncomputable def C_laws_eqFileS : List X → Option XOut := lay e_laws_eqFileS fun a => ((S_laws_eqFileS a.1 a.2)).bind fun r => some (.ret (.d (.bool r)) [])
theorem C_laws_eqFileS_eq (a0 : List TFile) (a1 : List TFile) : C_laws_eqFileS [.d (lstT cFile a0), .d (lstT cFile a1)] = ((S_laws_eqFileS a0 a1)).bind fun r => some (.ret (.d (.bool r)) []) := lay_eq (enc := e_laws_eqFileS) (by
  intro a b h
  simp only [e_laws_eqFileS, List.cons.injEq, X.d.injEq, X.agg.injEq, X.box.injEq, D.int.injEq, D.bool.injEq, D.fn.injEq, sD_inj, lstT_inj, and_true, true_and, and_assoc] at h
  simp only [Prod.ext_iff]; exact h) (a0, a1)
noncomputable def G16 : Ctx := G15.with 56 C_laws_eqFileS
theorem so16 : SoundAll Try.prog G16 := by
  refine layer (k := 2) (cd := c_laws_eqFileS) (rs := r_laws_eqFileS) (enc := e_laws_eqFileS) mixed so15 Try.func56 (by kernel_rfl) (by kernel_rfl) (by kernel_rfl) (by kernel_rfl) (by kernel_rfl) (by kernel_rfl) ?_
  intro a out ho
  obtain ⟨r, h1, h2⟩ := Option.bind_eq_some_iff.mp ho
  obtain ⟨hp, rfl⟩ := under_some h1
  obtain ⟨N, hN⟩ := p_laws_eqFileS S_laws_eqFile (fun _ _ _ _ h => under_pos h) a.1 a.2 hp
  refine ⟨N, ?_⟩
  refine ((callF_G _ 2 c_laws_eqFileS r_laws_eqFileS (e_laws_eqFileS a) ⟨rfl, rfl, rfl⟩).trans (laws_eqFileS_g ⟨G15, [], N, r_laws_eqFileS, fun y => some (Vm.nocap y)⟩ rfl rfl (fun _ => rfl) S_laws_eqFile (fun a0_Name a0_Data a1_Name a1_Data => (show G15 125 _ = _ from rfl).trans (C_laws_eqFile_eq a0_Name a0_Data a1_Name a1_Data)) a.1 a.2)).trans ?_
  show (laws_eqFileS_f S_laws_eqFile N a.1 a.2).bind _ = _
  rw [hN]; exact h2
-- loop.example/s02135/laws.eqDisk
noncomputable def S_laws_eqDisk (a0_Files : List TFile) (a1_Files : List TFile) : Option (Bool) := under (pre_laws_eqDisk a0_Files a1_Files) (s_laws_eqDisk a0_Files a1_Files)
def e_laws_eqDisk (a : (List TFile) × (List TFile)) : List X := [.agg [.d (lstT cFile a.1)], .agg [.d (lstT cFile a.2)]]
noncomputable def C_laws_eqDisk : List X → Option XOut := lay e_laws_eqDisk fun a => ((S_laws_eqDisk a.1 a.2)).bind fun r => some (.ret (.d (.bool r)) [])
theorem C_laws_eqDisk_eq (a0_Files : List TFile) (a1_Files : List TFile) : C_laws_eqDisk [.agg [.d (lstT cFile a0_Files)], .agg [.d (lstT cFile a1_Files)]] = ((S_laws_eqDisk a0_Files a1_Files)).bind fun r => some (.ret (.d (.bool r)) []) := lay_eq (enc := e_laws_eqDisk) (by
  intro a b h
  simp only [e_laws_eqDisk, List.cons.injEq, X.d.injEq, X.agg.injEq, X.box.injEq, D.int.injEq, D.bool.injEq, D.fn.injEq, sD_inj, lstT_inj, and_true, true_and, and_assoc] at h
  simp only [Prod.ext_iff]; exact h) (a0_Files, a1_Files)
noncomputable def G17 : Ctx := G16.with 23 C_laws_eqDisk
theorem so17 : SoundAll Try.prog G17 := by
  refine layer (k := 2) (cd := c_laws_eqDisk) (rs := r_laws_eqDisk) (enc := e_laws_eqDisk) mixed so16 Try.func23 (by kernel_rfl) (by kernel_rfl) (by kernel_rfl) (by kernel_rfl) (by kernel_rfl) (by kernel_rfl) ?_
  intro a out ho
  obtain ⟨r, h1, h2⟩ := Option.bind_eq_some_iff.mp ho
  obtain ⟨hp, rfl⟩ := under_some h1
  obtain ⟨N, hN⟩ := p_laws_eqDisk S_laws_eqFileS (fun _ _ h => under_pos h) a.1 a.2 hp
  refine ⟨N, ?_⟩
  refine ((callF_G _ 2 c_laws_eqDisk r_laws_eqDisk (e_laws_eqDisk a) ⟨rfl, rfl, rfl⟩).trans (laws_eqDisk_g ⟨G16, [], N, r_laws_eqDisk, fun y => some (Vm.nocap y)⟩ rfl rfl (fun _ => rfl) S_laws_eqFileS (fun a0 a1 => (show G16 56 _ = _ from rfl).trans (C_laws_eqFileS_eq a0 a1)) a.1 a.2)).trans ?_
  show (laws_eqDisk_f S_laws_eqFileS N a.1 a.2).bind _ = _
  rw [hN]; exact h2
-- loop.example/s02135/laws.FnExactDiskOk
noncomputable def S_laws_FnExactDiskOk (a0_Files : List TFile) : Option (Bool) := under (pre_laws_FnExactDiskOk a0_Files) (s_laws_FnExactDiskOk a0_Files)
def e_laws_FnExactDiskOk (a : (List TFile)) : List X := [.agg [.d (lstT cFile a)]]
noncomputable def C_laws_FnExactDiskOk : List X → Option XOut := lay e_laws_FnExactDiskOk fun a => ((S_laws_FnExactDiskOk a)).bind fun r => some (.ret (.d (.bool r)) [])
theorem C_laws_FnExactDiskOk_eq (a0_Files : List TFile) : C_laws_FnExactDiskOk [.agg [.d (lstT cFile a0_Files)]] = ((S_laws_FnExactDiskOk a0_Files)).bind fun r => some (.ret (.d (.bool r)) []) := lay_eq (enc := e_laws_FnExactDiskOk) (by
  intro a b h
  simp only [e_laws_FnExactDiskOk, List.cons.injEq, X.d.injEq, X.agg.injEq, X.box.injEq, D.int.injEq, D.bool.injEq, D.fn.injEq, sD_inj, lstT_inj, and_true, true_and, and_assoc] at h
  exact h) a0_Files
noncomputable def G18 : Ctx := G17.with 4 C_laws_FnExactDiskOk
theorem so18 : SoundAll Try.prog G18 := by
  refine layer (k := 1) (cd := c_laws_FnExactDiskOk) (rs := r_laws_FnExactDiskOk) (enc := e_laws_FnExactDiskOk) mixed so17 Try.func4 (by kernel_rfl) (by kernel_rfl) (by kernel_rfl) (by kernel_rfl) (by kernel_rfl) (by kernel_rfl) ?_
  intro a out ho
  obtain ⟨r, h1, h2⟩ := Option.bind_eq_some_iff.mp ho
  obtain ⟨hp, rfl⟩ := under_some h1
  obtain ⟨N, hN⟩ := p_laws_FnExactDiskOk S_laws_szDisk (fun _ _ h => under_pos h) S_laws_toDisk (fun _ h => under_pos h) S_spec_DiskOk (fun _ h => under_pos h) S_impl_DiskOk (fun _ h => under_pos h) S_laws_eqDisk (fun _ _ h => under_pos h) a hp
  refine ⟨N, ?_⟩
  refine ((callF_G _ 1 c_laws_FnExactDiskOk r_laws_FnExactDiskOk (e_laws_FnExactDiskOk a) ⟨rfl, rfl, rfl⟩).trans (laws_FnExactDiskOk_g ⟨G17, [], N, r_laws_FnExactDiskOk, fun y => some (Vm.nocap y)⟩ rfl rfl (fun _ => rfl) S_laws_szDisk (fun a0_Files a1 => (show G17 19 _ = _ from rfl).trans (C_laws_szDisk_eq a0_Files a1)) S_laws_toDisk (fun a0_Files => (show G17 21 _ = _ from rfl).trans (C_laws_toDisk_eq a0_Files)) S_spec_DiskOk (fun a0_Files => (show G17 20 _ = _ from rfl).trans (C_spec_DiskOk_eq a0_Files)) S_impl_DiskOk (fun a0_Files => (show G17 22 _ = _ from rfl).trans (C_impl_DiskOk_eq a0_Files)) S_laws_eqDisk (fun a0_Files a1_Files => (show G17 23 _ = _ from rfl).trans (C_laws_eqDisk_eq a0_Files a1_Files)) a)).trans ?_
  show (laws_FnExactDiskOk_f S_laws_szDisk S_laws_toDisk S_spec_DiskOk S_impl_DiskOk S_laws_eqDisk N a).bind _ = _
  rw [hN]; exact h2
theorem law : Sound Try.prog 4 C_laws_FnExactDiskOk := by
  have h := so18 4
  exact h
end Go.Proofs.Ytejgcpankckdkaa.TowDisk
