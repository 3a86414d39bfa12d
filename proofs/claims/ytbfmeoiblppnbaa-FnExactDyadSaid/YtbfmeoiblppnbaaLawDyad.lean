/- The law FnExactDyad answers true, for all arguments. No condition. -/
import Derived.Test.YtbfmeoiblppnbaaRows
import Derived.Test.YtbfmeoiblppnbaaTowDyad
import Derived.Test.YtbfmeoiblppnbaaVmShape
import Derived.WalkKit
import Derived.ProofKit
import Derived.OpenShut
import Derived.ShutString
import Derived.ChangeOld
import Derived.Below
import Derived.Carry
import Derived.SizedLaws
set_option linter.all false
namespace Go.Proofs.Ytbfmeoiblppnbaa.TowDyad
open Go.ChangeShapes Go.WideShapes Go.ChangeAt Go.RowKit
open Go.Vm

theorem own : ownKnob Try.prog.godebug = none := by kernel_rfl
theorem laidOut : laidOutB Try.prog = true := by kernel_rfl
theorem shape0 (xs : List D) (h : HasT Try.prog 2 3 xs) : ∃ (a0 : Int), xs = [.int .i64 a0] ∧ ((Lit.int .i64 a0).wf = true) := by
  simp only [HasT, Try.underlying3, Try.underlying35, Try.underlying37, fieldsT] at h
  obtain ⟨n1, rfl, w2⟩ := h
  refine ⟨n1, ?_, w2⟩
  rfl
theorem shape1 (xs : List D) (h : HasT Try.prog 4 37 xs) : ∃ (a1_Shape : List Int) (a1_Data : List Int), xs = [lstT cI a1_Shape, lstT cI a1_Data] ∧ (a1_Shape.length ≤ maxLen ∧ ∀ x ∈ a1_Shape, (Lit.int .i64 x).wf = true) ∧ (a1_Data.length ≤ maxLen ∧ ∀ x ∈ a1_Data, (Lit.int .i64 x).wf = true) := by
  simp only [HasT, Try.underlying3, Try.underlying35, Try.underlying37, fieldsT] at h
  obtain ⟨x1, z2, rfl, l3, ⟨y4, rfl, w5, q6⟩, x7, z8, rfl, l9, ⟨y10, rfl, w11, q12⟩, rfl⟩ := h
  obtain ⟨Ly4, ey4, ny4, gy4⟩ := has_list cI (fun x => (Lit.int .i64 x).wf = true) y4 (fun y hy => by
    have hq := (q6 y hy).2
    obtain ⟨n13, rfl, w14⟩ := hq
    exact ⟨n13, rfl, w14⟩)
  obtain ⟨Ly10, ey10, ny10, gy10⟩ := has_list cI (fun x => (Lit.int .i64 x).wf = true) y10 (fun y hy => by
    have hq := (q12 y hy).2
    obtain ⟨n15, rfl, w16⟩ := hq
    exact ⟨n15, rfl, w16⟩)
  refine ⟨Ly4, Ly10, ?_, ⟨ny4 ▸ w5, gy4⟩, ⟨ny10 ▸ w11, gy10⟩⟩
  simp only [List.cons_append, List.nil_append, List.append_nil, ey4, ey10]; try rfl
theorem shape2 (xs : List D) (h : HasT Try.prog 4 37 xs) : ∃ (a2_Shape : List Int) (a2_Data : List Int), xs = [lstT cI a2_Shape, lstT cI a2_Data] ∧ (a2_Shape.length ≤ maxLen ∧ ∀ x ∈ a2_Shape, (Lit.int .i64 x).wf = true) ∧ (a2_Data.length ≤ maxLen ∧ ∀ x ∈ a2_Data, (Lit.int .i64 x).wf = true) := by
  simp only [HasT, Try.underlying3, Try.underlying35, Try.underlying37, fieldsT] at h
  obtain ⟨x1, z2, rfl, l3, ⟨y4, rfl, w5, q6⟩, x7, z8, rfl, l9, ⟨y10, rfl, w11, q12⟩, rfl⟩ := h
  obtain ⟨Ly4, ey4, ny4, gy4⟩ := has_list cI (fun x => (Lit.int .i64 x).wf = true) y4 (fun y hy => by
    have hq := (q6 y hy).2
    obtain ⟨n13, rfl, w14⟩ := hq
    exact ⟨n13, rfl, w14⟩)
  obtain ⟨Ly10, ey10, ny10, gy10⟩ := has_list cI (fun x => (Lit.int .i64 x).wf = true) y10 (fun y hy => by
    have hq := (q12 y hy).2
    obtain ⟨n15, rfl, w16⟩ := hq
    exact ⟨n15, rfl, w16⟩)
  refine ⟨Ly4, Ly10, ?_, ⟨ny4 ▸ w5, gy4⟩, ⟨ny10 ▸ w11, gy10⟩⟩
  simp only [List.cons_append, List.nil_append, List.append_nil, ey4, ey10]; try rfl
theorem C_true (a0 : Int) (a1_Shape : List Int) (a1_Data : List Int) (a2_Shape : List Int) (a2_Data : List Int) (h : pre_laws_FnExactDyad a0 a1_Shape a1_Data a2_Shape a2_Data) : C_laws_FnExactDyad [.d (.int .i64 a0), .agg [.d (lstT cI a1_Shape), .d (lstT cI a1_Data)], .agg [.d (lstT cI a2_Shape), .d (lstT cI a2_Data)]] = some (.ret (.d (.bool true)) []) := by
  rw [C_laws_FnExactDyad_eq]
  unfold S_laws_FnExactDyad
  rw [under_pos h]; rfl
theorem walk (W : World) (args : Array Value) (a0 : Int) (a1_Shape : List Int) (a1_Data : List Int) (a2_Shape : List Int) (a2_Data : List Int) (h : pre_laws_FnExactDyad a0 a1_Shape a1_Data a2_Shape a2_Data) (hx : RXs (sz W) W [.d (.int .i64 a0), .agg [.d (lstT cI a1_Shape), .d (lstT cI a1_Data)], .agg [.d (lstT cI a2_Shape), .d (lstT cI a2_Data)]] args.toList []) :
    Calls Try.prog 4 args W fun e W' => e = .returned (.bool true) ∧ Below W.heap.size W W' :=
  law_true law ⟨List.nodup_nil, Nat.zero_le _, fun b hb => absurd hb (Nat.not_lt_zero b)⟩ hx (C_true a0 a1_Shape a1_Data a2_Shape a2_Data h)

set_option maxRecDepth 100000 in
theorem lifted (os : Os) (started : os.Started) (H : Type) (enc : TypeId × Value → H) :
    ReturnsInHanded {} Try.checked os 4 .any (Rows.fnExactDyadSpec.pre6 enc Try.prog Try.f4 Rows.fnExactDyadRow.domain false) (Rows.fnExactDyadSpec.post enc Try.prog Try.f4 false true false false) := by
  refine returnsInHanded_of_change_sized (C := Try.checked) own started (by kernel_rfl) Try.func4
    (ChangeSpec.witness6 (enc := enc) (C := Try.checked) false ⟨#[], #[.int .i64 0, .agg #[.slice none 0 0, .slice none 0 0], .agg #[.slice none 0 0, .slice none 0 0]], []⟩ 8 (by kernel_rfl) (by kernel_rfl) (by kernel_rfl) (by kernel_rfl)) ?_
  intro W base args ds gs before hval0 hW hcnd hsz0 _
  have hval : ∀ (j : Nat) t v, Try.f4.params[j]? = some t → args[j]? = some v → Value.okWide Try.prog W .any base t v := hval0
  have hW' := hW
  obtain ⟨p, q, hA0, hV, rfl, hfz, hnd⟩ := hW
  have hA : DataW.TrodAll enc Try.prog W 0 (fun _ => true) true Try.f4.params.toList args.toList ds p := hA0
  rw [Try.params4] at hA hval
  obtain ⟨v0, v1, v2, d0, d1, d2, p0, p1, p2, rfl, rfl, rfl, h0, h1, h2⟩ := trodAll_three hA
  obtain ⟨rfl, rfl⟩ := trodVars_none hV
  have lt0 : ∀ x ∈ p0, x.block < W.heap.size := by obtain ⟨m, hm⟩ := h0; exact DataW.trod_lt m _ _ _ hm
  have lt1 : ∀ x ∈ p1, x.block < W.heap.size := by obtain ⟨m, hm⟩ := h1; exact DataW.trod_lt m _ _ _ hm
  have lt2 : ∀ x ∈ p2, x.block < W.heap.size := by obtain ⟨m, hm⟩ := h2; exact DataW.trod_lt m _ _ _ hm
  obtain ⟨xs0, hT0, hR0⟩ := arg_of_trod (k := 2) (by kernel_rfl) (hval 0 3 v0 rfl rfl) h0
  obtain ⟨a0, rfl, c0_0⟩ := shape0 xs0 hT0
  simp only [toArg, Try.underlying3, List.map_cons, List.map_nil, List.headD_cons] at hR0
  obtain ⟨xs1, hT1, hR1⟩ := arg_of_trod (k := 4) (by kernel_rfl) (hval 1 37 v1 rfl rfl) h1
  obtain ⟨a1_Shape, a1_Data, rfl, c1_0, c1_1⟩ := shape1 xs1 hT1
  simp only [toArg, Try.underlying37, List.map_cons, List.map_nil, List.headD_cons] at hR1
  obtain ⟨xs2, hT2, hR2⟩ := arg_of_trod (k := 4) (by kernel_rfl) (hval 2 37 v2 rfl rfl) h2
  obtain ⟨a2_Shape, a2_Data, rfl, c2_0, c2_1⟩ := shape2 xs2 hT2
  simp only [toArg, Try.underlying37, List.map_cons, List.map_nil, List.headD_cons] at hR2
  have hx : RXs (sz W) W [.d (.int .i64 a0), .agg [.d (lstT cI a1_Shape), .d (lstT cI a1_Data)], .agg [.d (lstT cI a2_Shape), .d (lstT cI a2_Data)]] (#[v0, v1, v2] : Array Value).toList [] := ⟨_, _, [], [], rfl, rfl, hR0, ⟨_, _, [], [], rfl, rfl, hR1, ⟨_, _, [], [], rfl, rfl, hR2, ⟨rfl, rfl⟩⟩⟩⟩
  clear hA0 hval0 hsz0
  refine (walk W #[v0, v1, v2] a0 a1_Shape a1_Data a2_Shape a2_Data (pre_of_laws_FnExactDyad c0_0 c1_0 c1_1 c2_0 c2_1) hx).mono fun e W' ⟨he, bel⟩ => ?_
  subst he
  exact ⟨_, rfl, _, _, _, [], _, [], hW', trodAll_mk1 (shut_bool Try.underlying4 _), trodAll_mk3 (Below.trod laidOut (by kernel_rfl) (of_decide_eq_true (by kernel_rfl)) h0 bel lt0) (Below.trod laidOut (by kernel_rfl) (of_decide_eq_true (by kernel_rfl)) h1 bel lt1) (Below.trod laidOut (by kernel_rfl) (of_decide_eq_true (by kernel_rfl)) h2 bel lt2), rfl, bel.frame _, fun h => by cases h⟩
theorem over : Rows.fnExactDyadRow.holds Try.pinned (OpenSpec.ofChange Rows.fnExactDyadSpec) :=
  OpenClaim.holds_of_wide 4 Try.f4 rfl rfl rfl rfl rfl rfl rfl ⟨rfl, rfl, rfl, rfl, rfl⟩ rfl rfl rfl rfl rfl (by kernel_rfl) Try.func4 (by kernel_rfl)
    (of_decide_eq_true (by kernel_rfl)) (by unfold Func.isWrapper; first | (rw [if_pos (by decide +kernel)]; kernel_rfl) | (rw [if_neg (by decide +kernel)]; exact ⟨rfl, rfl⟩))
    (fun os started H enc _ => lifted os started H enc)
theorem proved : Rows.FnExactDyadSaid := over
#print axioms proved
end Go.Proofs.Ytbfmeoiblppnbaa.TowDyad
namespace Go.Proofs.Ytbfmeoiblppnbaa
/-- The row, under a short name, for the claim. -/
theorem fnExactDyad_holds : Rows.FnExactDyadSaid := TowDyad.proved
end Go.Proofs.Ytbfmeoiblppnbaa
