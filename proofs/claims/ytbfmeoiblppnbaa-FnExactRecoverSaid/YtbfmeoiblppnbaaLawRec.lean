/- The law FnExactRecover answers true, for all arguments. No condition. -/
import Derived.Test.YtbfmeoiblppnbaaRows
import Derived.Test.YtbfmeoiblppnbaaTowRec
import Derived.Test.YtbfmeoiblppnbaaVmShape
import Derived.WalkKit
import Derived.ProofKit
import Derived.OpenShut
import Derived.ShutString
import Derived.ChangeOld
import Derived.Below
import Derived.Carry
import Derived.SizedLaws
set_option linter.all false
namespace Go.Proofs.Ytbfmeoiblppnbaa.TowRec
open Go.ChangeShapes Go.WideShapes Go.ChangeAt Go.RowKit
open Go.Vm

theorem own : ownKnob Try.prog.godebug = none := by kernel_rfl
theorem laidOut : laidOutB Try.prog = true := by kernel_rfl
theorem shape0 (xs : List D) (h : HasT Try.prog 5 24 xs) : ∃ (a0_Files : List TFile), xs = [lstT cFile a0_Files] ∧ (a0_Files.length ≤ maxLen ∧ ∀ x ∈ a0_Files, x.Name.length ≤ maxLen ∧ x.Data.length ≤ maxLen) := by
  simp only [HasT, Try.underlying9, Try.underlying22, Try.underlying24, Try.underlying78, fieldsT] at h
  obtain ⟨x1, z2, rfl, l3, ⟨y4, rfl, w5, q6⟩, rfl⟩ := h
  obtain ⟨Ly4, ey4, ny4, gy4⟩ := has_list cFile (fun x => x.Name.length ≤ maxLen ∧ x.Data.length ≤ maxLen) y4 (fun y hy => by
    have hq := (q6 y hy).2
    obtain ⟨x7, z8, rfl, l9, ⟨s10, rfl, w11⟩, x12, z13, rfl, l14, ⟨s15, rfl, w16⟩, rfl⟩ := hq
    exact ⟨⟨s10.data.toList, s15.data.toList⟩, rfl, ⟨w11, w16⟩⟩)
  refine ⟨Ly4, ?_, ⟨ny4 ▸ w5, gy4⟩⟩
  simp only [List.cons_append, List.nil_append, List.append_nil, ey4]; try rfl
theorem C_true (a0_Files : List TFile) (h : pre_laws_FnExactRecover a0_Files) : C_laws_FnExactRecover [.agg [.d (lstT cFile a0_Files)]] = some (.ret (.d (.bool true)) []) := by
  rw [C_laws_FnExactRecover_eq]
  unfold S_laws_FnExactRecover
  rw [under_pos h]; rfl
theorem walk (W : World) (args : Array Value) (a0_Files : List TFile) (h : pre_laws_FnExactRecover a0_Files) (hx : RXs (sz W) W [.agg [.d (lstT cFile a0_Files)]] args.toList []) :
    Calls Try.prog 3 args W fun e W' => e = .returned (.bool true) ∧ Below W.heap.size W W' :=
  law_true law ⟨List.nodup_nil, Nat.zero_le _, fun b hb => absurd hb (Nat.not_lt_zero b)⟩ hx (C_true a0_Files h)

set_option maxRecDepth 100000 in
theorem lifted (os : Os) (started : os.Started) (H : Type) (enc : TypeId × Value → H) :
    ReturnsInHanded {} Try.checked os 3 .any (Rows.fnExactRecoverSpec.pre6 enc Try.prog Try.f3 Rows.fnExactRecoverRow.domain false) (Rows.fnExactRecoverSpec.post enc Try.prog Try.f3 false true false false) := by
  refine returnsInHanded_of_change_sized (C := Try.checked) own started (by kernel_rfl) Try.func3
    (ChangeSpec.witness6 (enc := enc) (C := Try.checked) false ⟨#[], #[.agg #[.slice none 0 0]], []⟩ 8 (by kernel_rfl) (by kernel_rfl) (by kernel_rfl) (by kernel_rfl)) ?_
  intro W base args ds gs before hval0 hW hcnd hsz0 _
  have hval : ∀ (j : Nat) t v, Try.f3.params[j]? = some t → args[j]? = some v → Value.okWide Try.prog W .any base t v := hval0
  have hW' := hW
  obtain ⟨p, q, hA0, hV, rfl, hfz, hnd⟩ := hW
  have hA : DataW.TrodAll enc Try.prog W 0 (fun _ => true) true Try.f3.params.toList args.toList ds p := hA0
  rw [Try.params3] at hA hval
  obtain ⟨v0, d0, rfl, rfl, h0⟩ := trodAll_one hA
  obtain ⟨rfl, rfl⟩ := trodVars_none hV
  have lt0 : ∀ x ∈ p, x.block < W.heap.size := by obtain ⟨m, hm⟩ := h0; exact DataW.trod_lt m _ _ _ hm
  obtain ⟨xs0, hT0, hR0⟩ := arg_of_trod (k := 5) (by kernel_rfl) (hval 0 24 v0 rfl rfl) h0
  obtain ⟨a0_Files, rfl, c0_0⟩ := shape0 xs0 hT0
  simp only [toArg, Try.underlying24, List.map_cons, List.map_nil, List.headD_cons] at hR0
  have hx : RXs (sz W) W [.agg [.d (lstT cFile a0_Files)]] (#[v0] : Array Value).toList [] := ⟨_, _, [], [], rfl, rfl, hR0, ⟨rfl, rfl⟩⟩
  clear hA0 hval0 hsz0
  refine (walk W #[v0] a0_Files (pre_of_laws_FnExactRecover c0_0) hx).mono fun e W' ⟨he, bel⟩ => ?_
  subst he
  exact ⟨_, rfl, _, _, _, [], _, [], hW', trodAll_mk1 (shut_bool Try.underlying4 _), trodAll_mk1 (Below.trod laidOut (by kernel_rfl) (of_decide_eq_true (by kernel_rfl)) h0 bel lt0), rfl, bel.frame _, fun h => by cases h⟩
theorem over : Rows.fnExactRecoverRow.holds Try.pinned (OpenSpec.ofChange Rows.fnExactRecoverSpec) :=
  OpenClaim.holds_of_wide 3 Try.f3 rfl rfl rfl rfl rfl rfl rfl ⟨rfl, rfl, rfl, rfl, rfl⟩ rfl rfl rfl rfl rfl (by kernel_rfl) Try.func3 (by kernel_rfl)
    (of_decide_eq_true (by kernel_rfl)) (by unfold Func.isWrapper; first | (rw [if_pos (by decide +kernel)]; kernel_rfl) | (rw [if_neg (by decide +kernel)]; exact ⟨rfl, rfl⟩))
    (fun os started H enc _ => lifted os started H enc)
theorem proved : Rows.FnExactRecoverSaid := over
#print axioms proved
end Go.Proofs.Ytbfmeoiblppnbaa.TowRec
namespace Go.Proofs.Ytbfmeoiblppnbaa
/-- The row, under a short name, for the claim. -/
theorem fnExactRecover_holds : Rows.FnExactRecoverSaid := TowRec.proved
end Go.Proofs.Ytbfmeoiblppnbaa
