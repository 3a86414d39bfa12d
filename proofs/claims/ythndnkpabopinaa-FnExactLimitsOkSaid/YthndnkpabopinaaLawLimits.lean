/- The law FnExactLimitsOk answers true, for all arguments. No condition. -/
import Derived.Test.YthndnkpabopinaaRows
import Derived.Test.YthndnkpabopinaaLimits
import Derived.WalkKit
import Derived.ProofKit
import Derived.OpenShut
import Derived.ShutString
import Derived.ChangeOld
import Derived.Below
import Derived.Carry
import Derived.SizedLaws
namespace Go.Proofs.Ythndnkpabopinaa.Limits
open Go.ChangeShapes Go.WideShapes Go.ChangeAt Go.RowKit
open Go.Vm
set_option linter.unusedVariables false
set_option linter.unusedSimpArgs false

theorem own : ownKnob Try.prog.godebug = none := by kernel_rfl
theorem laidOut : laidOutB Try.prog = true := by kernel_rfl

theorem cells3 : Try.prog.cellsOf 3 = 1 := by kernel_rfl
theorem cells4 : Try.prog.cellsOf 4 = 1 := by kernel_rfl

/-- what a Limits is -/
theorem shape (xs : List D) (h : HasT Try.prog 2 24 xs) : ∃ a b c e, xs = [.int .i64 a, .int .i64 b, .bool c, .int .i64 e] := by
  simp only [HasT, Try.underlying24, Try.underlying3, Try.underlying4, fieldsT] at h
  obtain ⟨x1, y1, rfl, _, ⟨a, rfl, _⟩, x2, y2, rfl, _, ⟨b, rfl, _⟩, x3, y3, rfl, _, ⟨c, rfl⟩, x4, y4, rfl, _, ⟨e, rfl, _⟩, rfl⟩ := h
  exact ⟨a, b, c, e, rfl⟩

theorem walk (W : World) (args : Array Value) (xs : List X) (a b : Int) (c : Bool) (e : Int) (hx : RXs (sz W) W [.agg [.d (.int .i64 a), .d (.int .i64 b), .d (.bool c), .d (.int .i64 e)]] args.toList []) :
    Calls Try.prog 4 args W fun e W' => e = .returned (.bool true) ∧ Below W.heap.size W W' :=
  law_true s4 hx (t4 0 a b c e)

set_option maxRecDepth 100000 in
theorem lifted (os : Os) (started : os.Started) (H : Type) (enc : TypeId × Value → H) :
    ReturnsInHanded {} Try.checked os 4 .any (Rows.fnExactLimitsOkSpec.pre6 enc Try.prog Try.f4 Rows.fnExactLimitsOkRow.domain false) (Rows.fnExactLimitsOkSpec.post enc Try.prog Try.f4 false true false false) := by
  refine returnsInHanded_of_change_sized (C := Try.checked) own started (by kernel_rfl) Try.func4
    (ChangeSpec.witness6 (enc := enc) (C := Try.checked) false ⟨#[], #[.agg #[.int .i64 0, .int .i64 0, .bool false, .int .i64 0]], []⟩ 8 (by kernel_rfl) (by kernel_rfl) (by kernel_rfl) (by kernel_rfl)) ?_
  intro W base args ds gs before hval0 hW hcnd hsz0 _
  have hval : ∀ (j : Nat) t v, Try.f4.params[j]? = some t → args[j]? = some v → Value.okWide Try.prog W .any base t v := hval0
  have hW' := hW
  obtain ⟨p, q, hA0, hV, rfl, hfz, hnd⟩ := hW
  have hA : DataW.TrodAll enc Try.prog W 0 (fun _ => true) true Try.f4.params.toList args.toList ds p := hA0
  rw [Try.params4] at hA hval
  obtain ⟨v0, d0, rfl, rfl, h0⟩ := trodAll_one hA
  obtain ⟨rfl, rfl⟩ := trodVars_none hV
  have lt0 : ∀ x ∈ p, x.block < W.heap.size := by obtain ⟨m, hm⟩ := h0; exact DataW.trod_lt m _ _ _ hm
  obtain ⟨xs, hT, hR⟩ := arg_of_trod (k := 2) (by kernel_rfl) (hval 0 24 v0 rfl rfl) h0
  obtain ⟨a, b, c, e, rfl⟩ := shape xs hT
  have hx : RXs (sz W) W [.agg [.d (.int .i64 a), .d (.int .i64 b), .d (.bool c), .d (.int .i64 e)]] (#[v0] : Array Value).toList [] := by
    refine ⟨v0, [], [], [], rfl, rfl, ?_, rfl, rfl⟩
    simp only [toArg, Try.underlying24, List.map_cons, List.map_nil] at hR
    exact hR
  clear hA0 hval0 hsz0
  refine (walk W #[v0] [] a b c e hx).mono fun e W' ⟨he, bel⟩ => ?_
  subst he
  exact ⟨_, rfl, _, _, _, [], _, [], hW', trodAll_mk1 (shut_bool Try.underlying4 _), trodAll_mk1 (Below.trod laidOut (by kernel_rfl) (of_decide_eq_true (by kernel_rfl)) h0 bel lt0), rfl, bel.frame _, fun h => by cases h⟩
theorem over : Rows.fnExactLimitsOkRow.holds Try.pinned (OpenSpec.ofChange Rows.fnExactLimitsOkSpec) :=
  OpenClaim.holds_of_wide 4 Try.f4 rfl rfl rfl rfl rfl rfl rfl ⟨rfl, rfl, rfl, rfl, rfl⟩ rfl rfl rfl rfl rfl (by kernel_rfl) Try.func4 (by kernel_rfl)
    (of_decide_eq_true (by kernel_rfl)) (by unfold Func.isWrapper; first | (rw [if_pos (by decide +kernel)]; kernel_rfl) | (rw [if_neg (by decide +kernel)]; exact ⟨rfl, rfl⟩))
    (fun os started H enc _ => lifted os started H enc)
theorem proved : Rows.FnExactLimitsOkSaid := over
#print axioms proved
end Go.Proofs.Ythndnkpabopinaa.Limits
namespace Go.Proofs.Ythndnkpabopinaa
/-- The row, under a short name, for the claim. -/
theorem fnExactLimitsOk_holds : Rows.FnExactLimitsOkSaid := Limits.proved
end Go.Proofs.Ythndnkpabopinaa
