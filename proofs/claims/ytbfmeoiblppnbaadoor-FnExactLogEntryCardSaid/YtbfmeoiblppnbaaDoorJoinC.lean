/- strings.Join over this program, as a contract of the abstract machine. The laying was printed by the kit's lay-shelf.mjs and lay-plain.mjs. -/
import Derived.Test.YtbfmeoiblppnbaaDoorVmBldA
import Derived.Test.YtbfmeoiblppnbaaDoorVmLayer
import Derived.Test.YtbfmeoiblppnbaaDoorVmKind
import Derived.Test.YtbfmeoiblppnbaaDoorProg
import Derived.Shelf.Strings.OnBuilder
import Derived.KernelRfl
set_option linter.all false
set_option maxRecDepth 100000
namespace Go.Vm
open Go.RowKit Go.Proofs Go.Shelf
def joi_ren : Go.Shelf.Ren := ⟨fun | 156 => 54 | 165 => 57 | 166 => 49 | 169 => 39 | 240 => 56 | 241 => 60 | 276 => 59 | 277 => 65 | n => n, fun | 31 => 88 | 9 => 9 | 3 => 3 | 4 => 4 | 0 => 0 | 20 => 20 | 72 => 63 | 76 => 85 | 70 => 60 | 37 => 61 | 75 => 83 | 127 => 92 | 164 => 95 | 5 => 5 | 80 => 68 | n => n, fun | n => n⟩
theorem joi_lays : Go.Proofs.Lays.n156 Tryd.prog joi_ren := {
  mixed := by kernel_rfl
  f156 := Tryd.func54.trans (congrArg some (by kernel_rfl))
  f165 := Tryd.func57.trans (congrArg some (by kernel_rfl))
  f166 := Tryd.func49.trans (congrArg some (by kernel_rfl))
  f169 := Tryd.func39.trans (congrArg some (by kernel_rfl))
  f240 := Tryd.func56.trans (congrArg some (by kernel_rfl))
  f241 := Tryd.func60.trans (congrArg some (by kernel_rfl))
  f276 := Tryd.func59.trans (congrArg some (by kernel_rfl))
  f277 := Tryd.func65.trans (congrArg some (by kernel_rfl))
  t0 := Tryd.underlying0
  a0 := Tryd.isAgg0
  z0 := Tryd.sizeOf0
  v0 := Tryd.zeroValue0
  t3 := Tryd.underlying3
  a3 := Tryd.isAgg3
  z3 := Tryd.sizeOf3
  v3 := Tryd.zeroValue3
  t4 := Tryd.underlying4
  a4 := Tryd.isAgg4
  z4 := Tryd.sizeOf4
  v4 := Tryd.zeroValue4
  t9 := Tryd.underlying9
  a9 := Tryd.isAgg9
  z9 := Tryd.sizeOf9
  v9 := Tryd.zeroValue9
  t20 := Tryd.underlying20
  a20 := Tryd.isAgg20
  z20 := Tryd.sizeOf20
  v20 := Tryd.zeroValue20
  t31 := Tryd.underlying88
  a31 := Tryd.isAgg88
  z31 := Tryd.sizeOf88
  v31 := Tryd.zeroValue88
  t37 := Tryd.underlying61
  a37 := Tryd.isAgg61
  z37 := Tryd.sizeOf61
  v37 := Tryd.zeroValue61
  t70 := Tryd.underlying60
  a70 := Tryd.isAgg60
  z70 := Tryd.sizeOf60
  v70 := Tryd.zeroValue60
  t72 := Tryd.underlying63
  a72 := Tryd.isAgg63
  z72 := Tryd.sizeOf63
  v72 := Tryd.zeroValue63
  t75 := Tryd.underlying83
  a75 := Tryd.isAgg83
  z75 := Tryd.sizeOf83
  v75 := Tryd.zeroValue83
  t76 := Tryd.underlying85
  a76 := Tryd.isAgg85
  z76 := Tryd.sizeOf85
  v76 := Tryd.zeroValue85
  t127 := Tryd.underlying92
  a127 := Tryd.isAgg92
  z127 := Tryd.sizeOf92
  v127 := Tryd.zeroValue92
  t164 := Tryd.underlying95
  a164 := Tryd.isAgg95
  z164 := Tryd.sizeOf95
  v164 := Tryd.zeroValue95 }
theorem joi_extra : Builder.Extra Tryd.prog joi_ren := {
  sizeBuilder := by kernel_rfl
  liesBuilder := by kernel_rfl
  t5 := Tryd.underlying5
  a5 := Tryd.isAgg5
  z5 := Tryd.sizeOf5
  v5 := Tryd.zeroValue5
  infoByte := by kernel_rfl
  cellsByte := by kernel_rfl
  sizeByte := by kernel_rfl
  neB5 := by decide }
theorem strs_cells {S : Nat → Nat} {w : World} {b : Nat} : ∀ {l : List (List UInt8)} {o : Nat}, RDat S w (cellsT cS l) b o → ∀ (j : Nat) (x : ByteArray), (l.map fun y => (⟨y.toArray⟩ : ByteArray))[j]? = some x → w.cell? ⟨b, o + j, none⟩ = some (.string x)
  | [], o, _, j, x, h => by simp at h
  | y :: l, o, h, j, x, hj => by
    have e : cellsT cS (y :: l) = sD y :: cellsT cS l := rfl
    rw [e] at h
    simp only [RDat] at h
    obtain ⟨_, ⟨v, h1, h2⟩, h3⟩ := h
    cases j with
    | zero =>
      simp only [List.map_cons, List.getElem?_cons_zero, Option.some.injEq] at hj
      subst hj
      simp only [sD, RD] at h2
      subst h2
      simpa using h1
    | succ j =>
      have := strs_cells h3 j x (by simpa using hj)
      rw [show o + (j + 1) = o + 1 + j by omega]; exact this
theorem sound_Join [Gl] {enc : List (List UInt8) × List UInt8 → List X} (henc : ∀ a, enc a = [.d (lstT cS a.1), .d (sD a.2)]) {C : List (List UInt8) × List UInt8 → Option XOut}
    (hC : ∀ a out, C a = some out → (a.1.length ≤ 140737488355328 ∧ (Lib.join a.1 a.2).length ≤ 140737488355328) ∧ out = .ret (.d (sD (Lib.join a.1 a.2))) []) : Sound Tryd.prog 54 (lay enc C) := by
  have h := sound_shelf (P := Tryd.prog) (f := 54) (enc := enc) (C := fun a => if a.1.length ≤ 140737488355328 ∧ (Lib.join a.1 a.2).length ≤ 140737488355328 then some (.d (sD (Lib.join a.1 a.2))) else none)
    (fun a x hx => by rw [henc] at hx; simp only [List.mem_cons, List.not_mem_nil, or_false] at hx; rcases hx with hx | hx <;> exact ⟨_, hx⟩) (callFunc_run Tryd.func54 (by kernel_rfl) (by kernel_rfl)) (by
    intro a x S w args hx hb hG
    split at hx
    case isFalse => cases hx
    rename_i ha
    injection hx with hx
    subst hx
    obtain ⟨l, sep⟩ := a
    obtain ⟨bs, hb⟩ := hb
    rw [henc] at hb
    obtain ⟨v, us, _, _, e1, _, ⟨_, hv⟩, v2, us2, _, _, e2, _, ⟨_, hv2⟩, e3, _⟩ := hb
    simp only [lstT, RD] at hv
    simp only [sD, RD] at hv2
    obtain ⟨a, cap, rfl, hnc, hnil, hsome⟩ := hv
    subst hv2; subst e3; subst e2
    obtain rfl : args = #[.slice a l.length cap, .string ⟨sep.toArray⟩] := by cases args; simp_all
    cases l with
    | nil =>
      refine (Any.strings_Join_none joi_lays joi_extra a cap ⟨sep.toArray⟩ w).mono ?_
      rintro e w' ⟨he, rfl⟩
      exact made_str he (Below.refl _ _)
    | cons y r =>
      cases a with
      | none => have := (hnil rfl).1; simp at this
      | some p =>
        obtain ⟨h1, h2⟩ := hsome p rfl
        have hsp : p.spot = none := by
          rcases h1 with h1 | ⟨h1, _⟩
          · exact h1
          · simp only [List.length_cons] at hnc; omega
        obtain ⟨bk, o, spot⟩ := p
        simp only at hsp
        subst hsp
        have hc := strs_cells h2
        have hlt : bk < w.heap.size := by
          have h0 := hc 0 ⟨y.toArray⟩ rfl
          rcases Nat.lt_or_ge bk w.heap.size with h' | h'
          · exact h'
          · simp [World.cell?, Array.getElem?_eq_none h'] at h0
        have e4 : ((y :: r).map fun y => (⟨y.toArray⟩ : ByteArray)).map (·.data.toList) = y :: r := by
          rw [List.map_map]
          exact (List.map_congr_left (fun z _ => rfl)).trans (List.map_id _)
        have q := Any.strings_Join joi_lays joi_extra bk o cap ((y :: r).map fun y => (⟨y.toArray⟩ : ByteArray)) ⟨sep.toArray⟩ w hc hlt (by rw [List.length_map]; exact ha.1) (by rw [List.length_map]; exact hnc) (by rw [e4]; exact ha.2)
        rw [e4, List.length_map] at q
        refine q.mono ?_
        rintro e w' ⟨he, hB⟩
        exact made_str he hB)
  intro S w args xs bs hx hb out ho
  refine h S w args xs bs hx hb out ?_
  obtain ⟨a, rfl, ho2⟩ := lay_some ho
  obtain ⟨ha, rfl⟩ := hC _ _ ho2
  have inj : ∀ x y, enc x = enc y → x = y := by
    intro x y e
    rw [henc, henc] at e
    simp only [List.cons.injEq, X.d.injEq, sD_inj, lstT_inj, and_true] at e
    exact Prod.ext e.1 e.2
  rw [lay_eq inj a, if_pos ha]; rfl
end Go.Vm
