/- The law FnExactLogEntry answers true, for all arguments. No condition. -/
import Derived.Test.YtbfmeoiblppnbaaDoorRows
import Derived.Test.YtbfmeoiblppnbaaDoorTowLog
import Derived.Test.YtbfmeoiblppnbaaDoorVmShape
import Derived.Test.YtbfmeoiblppnbaaDoorCards
import Derived.Test.YtbfmeoiblppnbaaDoorTie
import Derived.WalkKit
import Derived.LaidLaws
import Derived.LaidHandle
import Derived.LaidMore
import Derived.SevenTiedAt
import Derived.Lib.LaidTab
import Derived.ProofKit
import Derived.OpenShut
import Derived.ShutString
import Derived.ChangeOld
import Derived.Below
import Derived.Carry
import Derived.SizedLaws
set_option linter.all false
namespace Go.Proofs.YtbfmeoiblppnbaaDoor.TowLog
open Go.ChangeShapes Go.WideShapes Go.ChangeAt Go.RowKit
open Go.Vm

theorem own : ownKnob Tryd.prog.godebug = none := by kernel_rfl
theorem laidOut : laidOutB Tryd.prog = true := by kernel_rfl
theorem shape0 (xs : List D) (h : HasT Tryd.prog 2 9 xs) : ∃ (a0 : List UInt8), xs = [sD a0] ∧ (a0.length ≤ maxLen) := by
  simp only [HasT, Tryd.underlying3, Tryd.underlying9, Tryd.underlying22, Tryd.underlying24, Tryd.underlying39, Tryd.underlying72, fieldsT] at h
  obtain ⟨s1, rfl, w2⟩ := h
  refine ⟨s1.data.toList, ?_, w2⟩
  rfl
theorem shape1 (xs : List D) (h : HasT Tryd.prog 6 39 xs) : ∃ (a1 : List TOutcome), xs = [lstT cOutcome a1] ∧ (a1.length ≤ maxLen ∧ ∀ x ∈ a1, (Lit.int .i64 x.Kind).wf = true ∧ (Lit.int .i64 x.Code).wf = true ∧ (x.Value_Shape.length ≤ maxLen ∧ ∀ y ∈ x.Value_Shape, (Lit.int .i64 y).wf = true) ∧ (x.Value_Data.length ≤ maxLen ∧ ∀ y ∈ x.Value_Data, (Lit.int .i64 y).wf = true) ∧ (Lit.int .i64 x.Fuel).wf = true ∧ (Lit.int .i64 x.Cells).wf = true) := by
  simp only [HasT, Tryd.underlying3, Tryd.underlying9, Tryd.underlying22, Tryd.underlying24, Tryd.underlying39, Tryd.underlying72, fieldsT] at h
  obtain ⟨y1, rfl, w2, q3⟩ := h
  obtain ⟨Ly1, ey1, ny1, gy1⟩ := has_list cOutcome (fun x => (Lit.int .i64 x.Kind).wf = true ∧ (Lit.int .i64 x.Code).wf = true ∧ (x.Value_Shape.length ≤ maxLen ∧ ∀ y ∈ x.Value_Shape, (Lit.int .i64 y).wf = true) ∧ (x.Value_Data.length ≤ maxLen ∧ ∀ y ∈ x.Value_Data, (Lit.int .i64 y).wf = true) ∧ (Lit.int .i64 x.Fuel).wf = true ∧ (Lit.int .i64 x.Cells).wf = true) y1 (fun y hy => by
    have hq := (q3 y hy).2
    obtain ⟨x4, z5, rfl, l6, ⟨n7, rfl, w8⟩, x9, z10, rfl, l11, ⟨n12, rfl, w13⟩, x14, z15, rfl, l16, ⟨x17, z18, rfl, l19, ⟨y20, rfl, w21, q22⟩, x23, z24, rfl, l25, ⟨y26, rfl, w27, q28⟩, rfl⟩, x29, z30, rfl, l31, ⟨n32, rfl, w33⟩, x34, z35, rfl, l36, ⟨n37, rfl, w38⟩, rfl⟩ := hq
    obtain ⟨Ly20, ey20, ny20, gy20⟩ := has_list cI (fun y => (Lit.int .i64 y).wf = true) y20 (fun y hy => by
      have hq := (q22 y hy).2
      obtain ⟨n39, rfl, w40⟩ := hq
      exact ⟨n39, rfl, w40⟩)
    obtain ⟨Ly26, ey26, ny26, gy26⟩ := has_list cI (fun y => (Lit.int .i64 y).wf = true) y26 (fun y hy => by
      have hq := (q28 y hy).2
      obtain ⟨n41, rfl, w42⟩ := hq
      exact ⟨n41, rfl, w42⟩)
    exact ⟨⟨n7, n12, Ly20, Ly26, n32, n37⟩, (by simp only [List.cons_append, List.nil_append, List.append_nil, ey20, ey26]; rfl), ⟨w8, w13, ⟨ny20 ▸ w21, gy20⟩, ⟨ny26 ▸ w27, gy26⟩, w33, w38⟩⟩)
  refine ⟨Ly1, ?_, ⟨ny1 ▸ w2, gy1⟩⟩
  simp only [List.cons_append, List.nil_append, List.append_nil, ey1]; try rfl
theorem gP : Tryd.prog.globalNamed "internal/strconv.uint64pow10" = some 0 := by kernel_rfl
theorem tP : (Tryd.prog.globals[0]?).map (·.type) = some 105 := by kernel_rfl
/-- the table stands as long as the first blocks do -/
theorem tab_keeps {W w : World} (h : Lib.TabIs Tryd.prog W "internal/strconv.uint64pow10" .u64 Lib.pow10Tab) (hw : ∀ b, b < W.heap.size → w.heap[b]? = W.heap[b]?) : Lib.TabIs Tryd.prog w "internal/strconv.uint64pow10" .u64 Lib.pow10Tab := by
  unfold Lib.TabIs World.var? at *
  rw [gP] at h ⊢
  simp only [Option.bind_some] at h ⊢
  have hlt : 0 < W.heap.size := by
    rcases Nat.lt_or_ge 0 W.heap.size with h' | h'
    · exact h'
    · rw [Array.getElem?_eq_none h'] at h; cases h
  rw [hw _ hlt]; exact h
theorem tab_of_laid {W : World} (h : laidMetH Tryd.prog Rows.fnExactLogEntryRow.laid W) : Lib.TabIs Tryd.prog W "internal/strconv.uint64pow10" .u64 Lib.pow10Tab := by
  have h1 : laidMet Tryd.prog Rows.fnExactLogEntryRow.laid W := h
  obtain ⟨ps, ⟨_, _, _, _, _, _, _, _, _, _, ⟨_, _, _, _, _, _, _, _, _, _, ⟨g', t', cs, fuel, p, q, hg', ht', hvar, hd, _, _⟩, _⟩, _⟩, _⟩ := h1
  obtain rfl := Option.some.inj (gP.symm.trans hg')
  obtain rfl := Option.some.inj (tP.symm.trans ht')
  unfold Lib.TabIs
  rw [hvar, ← Lib.cells_of_tab (k := .u64) (zs := Lib.pow10Tab) Tryd.underlying105 Tryd.underlying98 (by kernel_rfl) (by kernel_rfl) hd]
theorem C_true [Gl] [GlTab] (a0 : List UInt8) (a1 : List TOutcome) (h : pre_laws_FnExactLogEntry a0 a1) : C_laws_FnExactLogEntry [.d (sD a0), .d (lstT cOutcome a1)] = some (.ret (.d (.bool true)) []) := by
  rw [C_laws_FnExactLogEntry_eq]
  unfold S_laws_FnExactLogEntry
  rw [under_pos h]; rfl
theorem walk (W : World) (hT : Lib.TabIs Tryd.prog W "internal/strconv.uint64pow10" .u64 Lib.pow10Tab) (args : Array Value) (a0 : List UInt8) (a1 : List TOutcome) (h : pre_laws_FnExactLogEntry a0 a1) (hx : RXs (sz W) W [.d (sD a0), .d (lstT cOutcome a1)] args.toList []) :
    Calls Tryd.prog 5 args W fun e W' => e = .returned (.bool true) ∧ Below W.heap.size W W' := by
  letI gl : Gl := ⟨W.heap.size, fun b => W.heap[b]?⟩
  haveI tb : GlTab := ⟨fun w hw => tab_keeps hT hw⟩
  exact law_true law ⟨List.nodup_nil, Nat.le_refl _, fun b hb => ⟨rfl, by simp⟩⟩ hx (C_true a0 a1 h)

set_option maxRecDepth 100000 in
theorem door_met (os : Os) (args : Array Value) : laidMetH Tryd.prog Rows.fnExactLogEntryRow.laid ((World.doorLaid Tryd.prog 4000 os).forCall (fun _ _ => 0) ⟨#[], args, []⟩).memory :=
  laidMetH_of_parts3 (fuel := 8) (laidMet_of_run' 8 (by kernel_rfl) (by kernel_rfl)) (by kernel_rfl) (by kernel_rfl)
set_option maxRecDepth 100000 in
theorem lifted (os : Os) (started : os.Started) (H : Type) (enc : TypeId × Value → H) :
    ReturnsInHanded {} Tryd.checked os 5 .any (fun w args => (Rows.fnExactLogEntrySpec.pre enc Tryd.prog Tryd.f5 Rows.fnExactLogEntryRow.domain false w args ∧ laidMetH Tryd.prog Rows.fnExactLogEntryRow.laid w) ∧ sizedMet enc Tryd.prog Tryd.f5 (OpenSpec.ofChange Rows.fnExactLogEntrySpec) false w args) (Rows.fnExactLogEntrySpec.post enc Tryd.prog Tryd.f5 false true false false) := by
  refine returnsInHanded_of_change_and (C := Tryd.checked) (X := fun w _ => laidMetH Tryd.prog Rows.fnExactLogEntryRow.laid w) (fun _ _ _ hh h => h.of_heap hh) own started (by kernel_rfl) Tryd.func5
    (ChangeSpec.witness_shaped (enc := enc) (C := Tryd.checked) (os := os) (X := fun w _ => laidMetH Tryd.prog Rows.fnExactLogEntryRow.laid w) false (World.doorLaid Tryd.prog 4000 os) #[.string ⟨#[]⟩, .slice none 0 0] 8 rfl (World.shaped_of_RefB (by kernel_rfl) (by kernel_rfl)) (by kernel_rfl) (by kernel_rfl) (by kernel_rfl) (door_met os _)) ?_
  intro W base args ds gs before hval0 hW hcnd hsz0 hL _
  have hval : ∀ (j : Nat) t v, Tryd.f5.params[j]? = some t → args[j]? = some v → Value.okWide Tryd.prog W .any base t v := hval0
  have hW' := hW
  obtain ⟨p, q, hA0, hV, rfl, hfz, hnd⟩ := hW
  have hA : DataW.TrodAll enc Tryd.prog W 0 (fun _ => true) true Tryd.f5.params.toList args.toList ds p := hA0
  rw [Tryd.params5] at hA hval
  obtain ⟨v0, v1, d0, d1, p0, p1, rfl, rfl, rfl, h0, h1⟩ := trodAll_two hA
  obtain ⟨rfl, rfl⟩ := trodVars_none hV
  have lt0 : ∀ x ∈ p0, x.block < W.heap.size := by obtain ⟨m, hm⟩ := h0; exact DataW.trod_lt m _ _ _ hm
  have lt1 : ∀ x ∈ p1, x.block < W.heap.size := by obtain ⟨m, hm⟩ := h1; exact DataW.trod_lt m _ _ _ hm
  haveI gl : Gl := ⟨0, fun _ => none⟩
  obtain ⟨xs0, hT0, hR0⟩ := arg_of_trod (k := 2) (by kernel_rfl) (hval 0 9 v0 rfl rfl) h0
  obtain ⟨a0, rfl, c0_0⟩ := shape0 xs0 hT0
  simp only [toArg, Tryd.underlying9, List.map_cons, List.map_nil, List.headD_cons] at hR0
  obtain ⟨xs1, hT1, hR1⟩ := arg_of_trod (k := 6) (by kernel_rfl) (hval 1 39 v1 rfl rfl) h1
  obtain ⟨a1, rfl, c1_0⟩ := shape1 xs1 hT1
  simp only [toArg, Tryd.underlying39, List.map_cons, List.map_nil, List.headD_cons] at hR1
  have hx : RXs (sz W) W [.d (sD a0), .d (lstT cOutcome a1)] (#[v0, v1] : Array Value).toList [] := ⟨_, _, [], [], rfl, rfl, hR0, ⟨_, _, [], [], rfl, rfl, hR1, ⟨rfl, rfl⟩⟩⟩
  clear hA0 hval0 hsz0
  refine (walk W (tab_of_laid hL) #[v0, v1] a0 a1 (pre_of_laws_FnExactLogEntry c0_0 c1_0) hx).mono fun e W' ⟨he, bel⟩ => ?_
  subst he
  exact ⟨_, rfl, _, _, _, [], _, [], hW', trodAll_mk1 (shut_bool Tryd.underlying4 _), trodAll_mk2 (Below.trod laidOut (by kernel_rfl) (of_decide_eq_true (by kernel_rfl)) h0 bel lt0) (Below.trod laidOut (by kernel_rfl) (of_decide_eq_true (by kernel_rfl)) h1 bel lt1), rfl, bel.frame _, fun h => by cases h⟩
theorem over : Rows.fnExactLogEntryRow.holds Tryd.pinned (OpenSpec.ofChange Rows.fnExactLogEntrySpec) :=
  OpenClaim.holds_of_wide 5 Tryd.f5 rfl rfl rfl rfl rfl rfl rfl ⟨rfl, rfl, rfl, rfl, rfl⟩ rfl rfl rfl rfl rfl (by kernel_rfl) Tryd.func5 (by kernel_rfl)
    (of_decide_eq_true (by kernel_rfl)) (by unfold Func.isWrapper; first | (rw [if_pos (by decide +kernel)]; kernel_rfl) | (rw [if_neg (by decide +kernel)]; exact ⟨rfl, rfl⟩))
    (fun os started H enc _ => lifted os started H enc)
theorem card : Rows.FnExactLogEntryCardSaid :=
  Claim7.holds_tied_plain_at .later [] [.data, .data, .data] true Rows.fnExactLogEntryCard.stood.harness false
    over (fun _ h => by cases h) (by kernel_rfl) (fun _ h => by cases h) fnExactLogEntry_row_tie rfl ⟨rfl, rfl⟩ (by kernel_rfl) rfl
    (fun f fn hf hfn => by
      obtain rfl : f = 5 := Option.some.inj ((show Tryd.prog.funcNamed "loop.example/s02135/laws.FnExactLogEntry" = some 5 by kernel_rfl).symm.trans hf) |>.symm
      obtain rfl : fn = Tryd.f5 := (Option.some.inj (Tryd.func5.symm.trans hfn)).symm
      exact ⟨by kernel_rfl, fun j t ht => by
        rw [Tryd.params5] at ht
        have hm : t ∈ ([9, 39] : List TypeId) := List.mem_of_getElem? (by simpa using ht)
        have hall : (([9, 39] : List TypeId).all fun u => !Tryd.prog.wantsStandIn u) = true := by kernel_rfl
        exact (show Tryd.prog.wantsStandIn t = false by simpa using List.all_eq_true.1 hall t hm)⟩)
    (by kernel_rfl)
theorem proved : Rows.FnExactLogEntryCardSaid := card
#print axioms proved
end Go.Proofs.YtbfmeoiblppnbaaDoor.TowLog
namespace Go.Proofs.YtbfmeoiblppnbaaDoor
/-- The card, under a short name, for the claim. -/
theorem fnExactLogEntry_holds : Rows.FnExactLogEntryCardSaid := TowLog.proved
end Go.Proofs.YtbfmeoiblppnbaaDoor
