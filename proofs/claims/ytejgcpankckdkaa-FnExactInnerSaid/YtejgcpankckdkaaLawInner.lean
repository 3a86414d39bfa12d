/- The law FnExactInner answers true, for all arguments. No condition. -/
import Derived.Test.YtejgcpankckdkaaRows
import Derived.Test.YtejgcpankckdkaaTowInner
import Derived.Test.YtejgcpankckdkaaVmShape
import Derived.WalkKit
import Derived.ProofKit
import Derived.OpenShut
import Derived.ShutString
import Derived.ChangeOld
import Derived.Below
import Derived.Carry
import Derived.SizedLaws
set_option linter.all false
namespace Go.Proofs.Ytejgcpankckdkaa.TowInner
open Go.ChangeShapes Go.WideShapes Go.ChangeAt Go.RowKit
open Go.Vm

theorem own : ownKnob Try.prog.godebug = none := by kernel_rfl
theorem laidOut : laidOutB Try.prog = true := by kernel_rfl
theorem shape0 (xs : List D) (h : HasT Try.prog 2 3 xs) : ∃ (a0 : Int), xs = [.int .i64 a0] ∧ ((Lit.int .i64 a0).wf = true) := by
  simp only [HasT, Try.underlying3, Try.underlying22, Try.underlying24, fieldsT] at h
  obtain ⟨n1, rfl, w2⟩ := h
  refine ⟨n1, ?_, w2⟩
  rfl
theorem shape1 (xs : List D) (h : HasT Try.prog 2 3 xs) : ∃ (a1 : Int), xs = [.int .i64 a1] ∧ ((Lit.int .i64 a1).wf = true) := by
  simp only [HasT, Try.underlying3, Try.underlying22, Try.underlying24, fieldsT] at h
  obtain ⟨n1, rfl, w2⟩ := h
  refine ⟨n1, ?_, w2⟩
  rfl
theorem shape2 (xs : List D) (h : HasT Try.prog 4 24 xs) : ∃ (a2_Shape : List Int) (a2_Data : List Int), xs = [lstT cI a2_Shape, lstT cI a2_Data] ∧ (a2_Shape.length ≤ maxLen ∧ ∀ x ∈ a2_Shape, (Lit.int .i64 x).wf = true) ∧ (a2_Data.length ≤ maxLen ∧ ∀ x ∈ a2_Data, (Lit.int .i64 x).wf = true) := by
  simp only [HasT, Try.underlying3, Try.underlying22, Try.underlying24, fieldsT] at h
  obtain ⟨x1, z2, rfl, l3, ⟨y4, rfl, w5, q6⟩, x7, z8, rfl, l9, ⟨y10, rfl, w11, q12⟩, rfl⟩ := h
  obtain ⟨Ly4, ey4, ny4, gy4⟩ := has_list cI (fun x => (Lit.int .i64 x).wf = true) y4 (fun y hy => by
    have hq := (q6 y hy).2
    obtain ⟨n13, rfl, w14⟩ := hq
    exact ⟨n13, rfl, w14⟩)
  obtain ⟨Ly10, ey10, ny10, gy10⟩ := has_list cI (fun x => (Lit.int .i64 x).wf = true) y10 (fun y hy => by
    have hq := (q12 y hy).2
    obtain ⟨n15, rfl, w16⟩ := hq
    exact ⟨n15, rfl, w16⟩)
  refine ⟨Ly4, Ly10, ?_, ⟨ny4 ▸ w5, gy4⟩, ⟨ny10 ▸ w11, gy10⟩⟩
  simp only [List.cons_append, List.nil_append, List.append_nil, ey4, ey10]; try rfl
theorem shape3 (xs : List D) (h : HasT Try.prog 4 24 xs) : ∃ (a3_Shape : List Int) (a3_Data : List Int), xs = [lstT cI a3_Shape, lstT cI a3_Data] ∧ (a3_Shape.length ≤ maxLen ∧ ∀ x ∈ a3_Shape, (Lit.int .i64 x).wf = true) ∧ (a3_Data.length ≤ maxLen ∧ ∀ x ∈ a3_Data, (Lit.int .i64 x).wf = true) := by
  simp only [HasT, Try.underlying3, Try.underlying22, Try.underlying24, fieldsT] at h
  obtain ⟨x1, z2, rfl, l3, ⟨y4, rfl, w5, q6⟩, x7, z8, rfl, l9, ⟨y10, rfl, w11, q12⟩, rfl⟩ := h
  obtain ⟨Ly4, ey4, ny4, gy4⟩ := has_list cI (fun x => (Lit.int .i64 x).wf = true) y4 (fun y hy => by
    have hq := (q6 y hy).2
    obtain ⟨n13, rfl, w14⟩ := hq
    exact ⟨n13, rfl, w14⟩)
  obtain ⟨Ly10, ey10, ny10, gy10⟩ := has_list cI (fun x => (Lit.int .i64 x).wf = true) y10 (fun y hy => by
    have hq := (q12 y hy).2
    obtain ⟨n15, rfl, w16⟩ := hq
    exact ⟨n15, rfl, w16⟩)
  refine ⟨Ly4, Ly10, ?_, ⟨ny4 ▸ w5, gy4⟩, ⟨ny10 ▸ w11, gy10⟩⟩
  simp only [List.cons_append, List.nil_append, List.append_nil, ey4, ey10]; try rfl
theorem C_true (a0 : Int) (a1 : Int) (a2_Shape : List Int) (a2_Data : List Int) (a3_Shape : List Int) (a3_Data : List Int) (h : pre_laws_FnExactInner a0 a1 a2_Shape a2_Data a3_Shape a3_Data) : C_laws_FnExactInner [.d (.int .i64 a0), .d (.int .i64 a1), .agg [.d (lstT cI a2_Shape), .d (lstT cI a2_Data)], .agg [.d (lstT cI a3_Shape), .d (lstT cI a3_Data)]] = some (.ret (.d (.bool true)) []) := by
  rw [C_laws_FnExactInner_eq]
  unfold S_laws_FnExactInner
  rw [under_pos h]; rfl
theorem walk (W : World) (args : Array Value) (a0 : Int) (a1 : Int) (a2_Shape : List Int) (a2_Data : List Int) (a3_Shape : List Int) (a3_Data : List Int) (h : pre_laws_FnExactInner a0 a1 a2_Shape a2_Data a3_Shape a3_Data) (hx : RXs (sz W) W [.d (.int .i64 a0), .d (.int .i64 a1), .agg [.d (lstT cI a2_Shape), .d (lstT cI a2_Data)], .agg [.d (lstT cI a3_Shape), .d (lstT cI a3_Data)]] args.toList []) :
    Calls Try.prog 10 args W fun e W' => e = .returned (.bool true) ∧ Below W.heap.size W W' :=
  law_true law hx (C_true a0 a1 a2_Shape a2_Data a3_Shape a3_Data h)

set_option maxRecDepth 100000 in
theorem lifted (os : Os) (started : os.Started) (H : Type) (enc : TypeId × Value → H) :
    ReturnsInHanded {} Try.checked os 10 .any (Rows.fnExactInnerSpec.pre6 enc Try.prog Try.f10 Rows.fnExactInnerRow.domain false) (Rows.fnExactInnerSpec.post enc Try.prog Try.f10 false true false false) := by
  refine returnsInHanded_of_change_sized (C := Try.checked) own started (by kernel_rfl) Try.func10
    (ChangeSpec.witness6 (enc := enc) (C := Try.checked) false ⟨#[], #[.int .i64 0, .int .i64 0, .agg #[.slice none 0 0, .slice none 0 0], .agg #[.slice none 0 0, .slice none 0 0]], []⟩ 8 (by kernel_rfl) (by kernel_rfl) (by kernel_rfl) (by kernel_rfl)) ?_
  intro W base args ds gs before hval0 hW hcnd hsz0 _
  have hval : ∀ (j : Nat) t v, Try.f10.params[j]? = some t → args[j]? = some v → Value.okWide Try.prog W .any base t v := hval0
  have hW' := hW
  obtain ⟨p, q, hA0, hV, rfl, hfz, hnd⟩ := hW
  have hA : DataW.TrodAll enc Try.prog W 0 (fun _ => true) true Try.f10.params.toList args.toList ds p := hA0
  rw [Try.params10] at hA hval
  obtain ⟨v0, v1, v2, v3, d0, d1, d2, d3, p0, p1, p2, p3, rfl, rfl, rfl, h0, h1, h2, h3⟩ := trodAll_four hA
  obtain ⟨rfl, rfl⟩ := trodVars_none hV
  have lt0 : ∀ x ∈ p0, x.block < W.heap.size := by obtain ⟨m, hm⟩ := h0; exact DataW.trod_lt m _ _ _ hm
  have lt1 : ∀ x ∈ p1, x.block < W.heap.size := by obtain ⟨m, hm⟩ := h1; exact DataW.trod_lt m _ _ _ hm
  have lt2 : ∀ x ∈ p2, x.block < W.heap.size := by obtain ⟨m, hm⟩ := h2; exact DataW.trod_lt m _ _ _ hm
  have lt3 : ∀ x ∈ p3, x.block < W.heap.size := by obtain ⟨m, hm⟩ := h3; exact DataW.trod_lt m _ _ _ hm
  obtain ⟨xs0, hT0, hR0⟩ := arg_of_trod (k := 2) (by kernel_rfl) (hval 0 3 v0 rfl rfl) h0
  obtain ⟨a0, rfl, c0_0⟩ := shape0 xs0 hT0
  simp only [toArg, Try.underlying3, List.map_cons, List.map_nil, List.headD_cons] at hR0
  obtain ⟨xs1, hT1, hR1⟩ := arg_of_trod (k := 2) (by kernel_rfl) (hval 1 3 v1 rfl rfl) h1
  obtain ⟨a1, rfl, c1_0⟩ := shape1 xs1 hT1
  simp only [toArg, Try.underlying3, List.map_cons, List.map_nil, List.headD_cons] at hR1
  obtain ⟨xs2, hT2, hR2⟩ := arg_of_trod (k := 4) (by kernel_rfl) (hval 2 24 v2 rfl rfl) h2
  obtain ⟨a2_Shape, a2_Data, rfl, c2_0, c2_1⟩ := shape2 xs2 hT2
  simp only [toArg, Try.underlying24, List.map_cons, List.map_nil, List.headD_cons] at hR2
  obtain ⟨xs3, hT3, hR3⟩ := arg_of_trod (k := 4) (by kernel_rfl) (hval 3 24 v3 rfl rfl) h3
  obtain ⟨a3_Shape, a3_Data, rfl, c3_0, c3_1⟩ := shape3 xs3 hT3
  simp only [toArg, Try.underlying24, List.map_cons, List.map_nil, List.headD_cons] at hR3
  have hx : RXs (sz W) W [.d (.int .i64 a0), .d (.int .i64 a1), .agg [.d (lstT cI a2_Shape), .d (lstT cI a2_Data)], .agg [.d (lstT cI a3_Shape), .d (lstT cI a3_Data)]] (#[v0, v1, v2, v3] : Array Value).toList [] := ⟨_, _, [], [], rfl, rfl, hR0, ⟨_, _, [], [], rfl, rfl, hR1, ⟨_, _, [], [], rfl, rfl, hR2, ⟨_, _, [], [], rfl, rfl, hR3, ⟨rfl, rfl⟩⟩⟩⟩⟩
  clear hA0 hval0 hsz0
  refine (walk W #[v0, v1, v2, v3] a0 a1 a2_Shape a2_Data a3_Shape a3_Data (pre_of_laws_FnExactInner c0_0 c1_0 c2_0 c2_1 c3_0 c3_1) hx).mono fun e W' ⟨he, bel⟩ => ?_
  subst he
  exact ⟨_, rfl, _, _, _, [], _, [], hW', trodAll_mk1 (shut_bool Try.underlying4 _), trodAll_mk4 (Below.trod laidOut (by kernel_rfl) (of_decide_eq_true (by kernel_rfl)) h0 bel lt0) (Below.trod laidOut (by kernel_rfl) (of_decide_eq_true (by kernel_rfl)) h1 bel lt1) (Below.trod laidOut (by kernel_rfl) (of_decide_eq_true (by kernel_rfl)) h2 bel lt2) (Below.trod laidOut (by kernel_rfl) (of_decide_eq_true (by kernel_rfl)) h3 bel lt3), rfl, bel.frame _, fun h => by cases h⟩
theorem over : Rows.fnExactInnerRow.holds Try.pinned (OpenSpec.ofChange Rows.fnExactInnerSpec) :=
  OpenClaim.holds_of_wide 10 Try.f10 rfl rfl rfl rfl rfl rfl rfl ⟨rfl, rfl, rfl, rfl, rfl⟩ rfl rfl rfl rfl rfl (by kernel_rfl) Try.func10 (by kernel_rfl)
    (of_decide_eq_true (by kernel_rfl)) (by unfold Func.isWrapper; first | (rw [if_pos (by decide +kernel)]; kernel_rfl) | (rw [if_neg (by decide +kernel)]; exact ⟨rfl, rfl⟩))
    (fun os started H enc _ => lifted os started H enc)
theorem proved : Rows.FnExactInnerSaid := over
#print axioms proved
end Go.Proofs.Ytejgcpankckdkaa.TowInner
namespace Go.Proofs.Ytejgcpankckdkaa
/-- The row, under a short name, for the claim. -/
theorem fnExactInner_holds : Rows.FnExactInnerSaid := TowInner.proved
end Go.Proofs.Ytejgcpankckdkaa
