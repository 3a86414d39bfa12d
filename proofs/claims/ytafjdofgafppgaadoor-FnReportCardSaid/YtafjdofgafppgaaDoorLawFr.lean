/- The law FnReport answers true, for all arguments. No condition. -/
import Derived.Test.YtafjdofgafppgaaDoorRows
import Derived.Test.YtafjdofgafppgaaDoorTowFr
import Derived.Test.YtafjdofgafppgaaDoorVmShape
import Derived.Test.YtafjdofgafppgaaDoorVmGlob
import Derived.Test.YtafjdofgafppgaaDoorCards
import Derived.Test.YtafjdofgafppgaaDoorTie
import Derived.WalkKit
import Derived.LaidLaws
import Derived.LaidHandle
import Derived.LaidMore
import Derived.SevenTiedAt
import Derived.Lib.LaidTab
import Derived.Lay
import Derived.Stop.Joined
import Derived.ProofKit
import Derived.OpenShut
import Derived.ShutString
import Derived.ChangeOld
import Derived.Below
import Derived.Carry
import Derived.SizedLaws
set_option linter.all false
namespace Go.Proofs.YtafjdofgafppgaaDoor.TowFr
open Go.ChangeShapes Go.WideShapes Go.ChangeAt Go.RowKit
open Go.Vm

theorem own : ownKnob Tryd.prog.godebug = none := by kernel_rfl
theorem laidOut : laidOutB Tryd.prog = true := by kernel_rfl
theorem shape0 (xs : List D) (h : HasT Tryd.prog 3 22 xs) : ∃ (a0 : List Int), xs = [lstT c8 a0] ∧ (a0.length ≤ maxLen ∧ ∀ x ∈ a0, (Lit.int .u8 x).wf = true) := by
  simp only [HasT, Tryd.underlying5, Tryd.underlying22, fieldsT] at h
  obtain ⟨y1, rfl, w2, q3⟩ := h
  obtain ⟨Ly1, ey1, ny1, gy1⟩ := has_list c8 (fun x => (Lit.int .u8 x).wf = true) y1 (fun y hy => by
    have hq := (q3 y hy).2
    obtain ⟨n4, rfl, w5⟩ := hq
    exact ⟨n4, rfl, w5⟩)
  refine ⟨Ly1, ?_, ⟨ny1 ▸ w2, gy1⟩⟩
  simp only [List.cons_append, List.nil_append, List.append_nil, ey1]; try rfl
theorem gP : Tryd.prog.globalNamed "internal/strconv.uint64pow10" = some 1 := by kernel_rfl
theorem tP : (Tryd.prog.globals[1]?).map (·.type) = some 102 := by kernel_rfl
/-- the table stands as long as the first blocks do -/
theorem tab_keeps {W w : World} (h : Lib.TabIs Tryd.prog W "internal/strconv.uint64pow10" .u64 Lib.pow10Tab) (hw : ∀ b, b < W.heap.size → w.heap[b]? = W.heap[b]?) : Lib.TabIs Tryd.prog w "internal/strconv.uint64pow10" .u64 Lib.pow10Tab := by
  unfold Lib.TabIs World.var? at *
  rw [gP] at h ⊢
  simp only [Option.bind_some] at h ⊢
  have hlt : 1 < W.heap.size := by
    rcases Nat.lt_or_ge 1 W.heap.size with h' | h'
    · exact h'
    · rw [Array.getElem?_eq_none h'] at h; cases h
  rw [hw _ hlt]; exact h
theorem tab_of_laid {W : World} (h : laidMetH Tryd.prog Rows.fnReportRow.laid W) : Lib.TabIs Tryd.prog W "internal/strconv.uint64pow10" .u64 Lib.pow10Tab := by
  have h1 : laidMet Tryd.prog Rows.fnReportRow.laid W := h
  obtain ⟨ps, ⟨_, _, _, _, _, _, _, _, _, _, ⟨_, _, _, _, _, _, _, _, _, _, ⟨g', t', cs, fuel, p, q, hg', ht', hvar, hd, _, _⟩, _⟩, _⟩, _⟩ := h1
  obtain rfl := Option.some.inj (gP.symm.trans hg')
  obtain rfl := Option.some.inj (tP.symm.trans ht')
  unfold Lib.TabIs
  rw [hvar, ← Lib.cells_of_tab (k := .u64) (zs := Lib.pow10Tab) Tryd.underlying102 Tryd.underlying87 (by kernel_rfl) (by kernel_rfl) hd]
theorem es_of_laid {W : World} (h : laidMetH Tryd.prog Rows.fnReportRow.laid W) : ∃ ev, W.cell? ⟨2, 0, none⟩ = some ev ∧ (ev = .nilIface ∨ ∃ te pe, ev = .iface te pe) := by
  have h1 : laidMet Tryd.prog Rows.fnReportRow.laid W := h
  obtain ⟨ps, ⟨_, _, _, _, _, _, _, _, _, _, ⟨_, _, _, _, _, _, _, _, _, _, ⟨_, _, _, _, _, _, _, _, _, _, ⟨_, _, _, _, _, _, _, _, _, _, ⟨_, _, _, _, _, _, _, _, _, _, ⟨g', t', cs, fuel, p, q, hg', ht', hvar, hd, _, _⟩, _⟩, _⟩, _⟩, _⟩, _⟩, _⟩ := h1
  obtain rfl := Option.some.inj ((show Tryd.prog.globalNamed "strconv.ErrSyntax" = some 2 by kernel_rfl).symm.trans hg')
  obtain rfl := Option.some.inj ((show (Tryd.prog.globals[2]?).map (·.type) = some 67 by kernel_rfl).symm.trans ht')
  obtain ⟨ev, h2, h3⟩ := vm_iface_of_trod ⟨_, Tryd.underlying67⟩ hd
  exact ⟨ev, cell_of_var hg' hvar h2, h3⟩
theorem er_of_laid {W : World} (h : laidMetH Tryd.prog Rows.fnReportRow.laid W) : ∃ ev, W.cell? ⟨3, 0, none⟩ = some ev ∧ (ev = .nilIface ∨ ∃ te pe, ev = .iface te pe) := by
  have h1 : laidMet Tryd.prog Rows.fnReportRow.laid W := h
  obtain ⟨ps, ⟨_, _, _, _, _, _, _, _, _, _, ⟨_, _, _, _, _, _, _, _, _, _, ⟨_, _, _, _, _, _, _, _, _, _, ⟨_, _, _, _, _, _, _, _, _, _, ⟨g', t', cs, fuel, p, q, hg', ht', hvar, hd, _, _⟩, _⟩, _⟩, _⟩, _⟩, _⟩ := h1
  obtain rfl := Option.some.inj ((show Tryd.prog.globalNamed "strconv.ErrRange" = some 3 by kernel_rfl).symm.trans hg')
  obtain rfl := Option.some.inj ((show (Tryd.prog.globals[3]?).map (·.type) = some 67 by kernel_rfl).symm.trans ht')
  obtain ⟨ev, h2, h3⟩ := vm_iface_of_trod ⟨_, Tryd.underlying67⟩ hd
  exact ⟨ev, cell_of_var hg' hvar h2, h3⟩
theorem ml_of_shape {W : World} (h : W.ShapedOpen Tryd.prog) : ∃ ev, W.cell? ⟨0, 0, none⟩ = some ev ∧ ∃ m, ev = .int .i64 m := by
  obtain ⟨m, hm⟩ := cell_of_shapedOpen_int (t := 3) (zero := #[.int .i64 0]) (k := .i64) h (show 0 < Tryd.prog.globals.size from of_decide_eq_true (by kernel_rfl)) (by kernel_rfl) rfl (by kernel_rfl) (by kernel_rfl) Tryd.underlying3
  exact ⟨_, hm, m, rfl⟩
theorem C_true [Gl] [GlTab] (a0 : List Int) (h : pre_laws_FnReport a0) : C_laws_FnReport [.d (lstT c8 a0)] = some (.ret (.d (.bool true)) []) := by
  rw [C_laws_FnReport_eq]
  unfold S_laws_FnReport
  rw [under_pos h]; rfl
theorem walk (W : World) (hT_tab : Lib.TabIs Tryd.prog W "internal/strconv.uint64pow10" .u64 Lib.pow10Tab) (hT_ml : ∃ ev, W.cell? ⟨0, 0, none⟩ = some ev ∧ ∃ m, ev = .int .i64 m) (hT_es : ∃ ev, W.cell? ⟨2, 0, none⟩ = some ev ∧ (ev = .nilIface ∨ ∃ te pe, ev = .iface te pe)) (hT_er : ∃ ev, W.cell? ⟨3, 0, none⟩ = some ev ∧ (ev = .nilIface ∨ ∃ te pe, ev = .iface te pe)) (args : Array Value) (a0 : List Int) (h : pre_laws_FnReport a0) (hx : RXs (sz W) W [.d (lstT c8 a0)] args.toList []) :
    Calls Tryd.prog 3 args W fun e W' => e = .returned (.bool true) ∧ Below W.heap.size W W' := by
  letI gl : Gl := ⟨W.heap.size, fun b => W.heap[b]?⟩
  haveI tb : GlTab := ⟨fun w hw => tab_keeps hT_tab hw, fun w hw => by obtain ⟨ev, h1, m, rfl⟩ := cell_keeps hT_ml hw; exact ⟨m, h1⟩, fun w hw => cell_keeps hT_es hw, fun w hw => cell_keeps hT_er hw⟩
  exact law_true law ⟨List.nodup_nil, Nat.le_refl _, fun b hb => ⟨rfl, by simp⟩⟩ hx (C_true a0 h)

set_option maxRecDepth 100000 in
theorem met (os : Os) (args : Array Value) : laidMetH Tryd.prog Rows.fnReportRow.laid ((World.laidAll Tryd.prog os Rows.fnReportRow.laid).forCall (fun _ _ => 0) ⟨#[], args, []⟩).memory := by
  rw [MakeChecks.laidMetH_plain _ _ _ (by kernel_rfl)]
  exact laidMet_laidAll _ (by kernel_rfl) (by kernel_rfl)
set_option maxRecDepth 100000 in
theorem lifted (os : Os) (started : os.Started) (H : Type) (enc : TypeId × Value → H) :
    ReturnsInHanded {} Tryd.checked os 3 .any (fun w args => (Rows.fnReportSpec.pre enc Tryd.prog Tryd.f3 Rows.fnReportRow.domain false w args ∧ laidMetH Tryd.prog Rows.fnReportRow.laid w) ∧ sizedMet enc Tryd.prog Tryd.f3 (OpenSpec.ofChange Rows.fnReportSpec) false w args) (Rows.fnReportSpec.post enc Tryd.prog Tryd.f3 false true false false) := by
  refine returnsInHanded_of_change_and_shaped (C := Tryd.checked) (X := fun w _ => laidMetH Tryd.prog Rows.fnReportRow.laid w) (fun _ _ _ hh h => h.of_heap hh) own started (by kernel_rfl) Tryd.func3
    (ChangeSpec.witness_shaped (enc := enc) (C := Tryd.checked) (os := os) (X := fun w _ => laidMetH Tryd.prog Rows.fnReportRow.laid w) false (World.laidAll Tryd.prog os Rows.fnReportRow.laid) #[.slice none 0 0] 8 (World.laidAll_os _ _ _) (World.shaped_of_ZipB (by kernel_rfl) (by kernel_rfl)) (by kernel_rfl) (by kernel_rfl) (by kernel_rfl) (met os _)) ?_
  intro W base args ds gs before hval0 hW hcnd hsz0 hL hSh _
  have hval : ∀ (j : Nat) t v, Tryd.f3.params[j]? = some t → args[j]? = some v → Value.okWide Tryd.prog W .any base t v := hval0
  have hW' := hW
  obtain ⟨p, q, hA0, hV, rfl, hfz, hnd⟩ := hW
  have hA : DataW.TrodAll enc Tryd.prog W 0 (fun _ => true) true Tryd.f3.params.toList args.toList ds p := hA0
  rw [Tryd.params3] at hA hval
  obtain ⟨v0, d0, rfl, rfl, h0⟩ := trodAll_one hA
  obtain ⟨rfl, rfl⟩ := trodVars_none hV
  have lt0 : ∀ x ∈ p, x.block < W.heap.size := by obtain ⟨m, hm⟩ := h0; exact DataW.trod_lt m _ _ _ hm
  haveI gl : Gl := ⟨0, fun _ => none⟩
  obtain ⟨xs0, hT0, hR0⟩ := arg_of_trod (k := 3) (by kernel_rfl) (hval 0 22 v0 rfl rfl) h0
  obtain ⟨a0, rfl, c0_0⟩ := shape0 xs0 hT0
  simp only [toArg, Tryd.underlying22, List.map_cons, List.map_nil, List.headD_cons] at hR0
  have hx : RXs (sz W) W [.d (lstT c8 a0)] (#[v0] : Array Value).toList [] := ⟨_, _, [], [], rfl, rfl, hR0, ⟨rfl, rfl⟩⟩
  clear hA0 hval0 hsz0
  refine (walk W (tab_of_laid hL) (ml_of_shape hSh) (es_of_laid hL) (er_of_laid hL) #[v0] a0 (pre_of_laws_FnReport c0_0) hx).mono fun e W' ⟨he, bel⟩ => ?_
  subst he
  exact ⟨_, rfl, _, _, _, [], _, [], hW', trodAll_mk1 (shut_bool Tryd.underlying4 _), trodAll_mk1 (Below.trod laidOut (by kernel_rfl) (of_decide_eq_true (by kernel_rfl)) h0 bel lt0), rfl, bel.frame _, fun h => by cases h⟩
theorem over : Rows.fnReportRow.holds Tryd.pinned (OpenSpec.ofChange Rows.fnReportSpec) :=
  OpenClaim.holds_of_wide 3 Tryd.f3 rfl rfl rfl rfl rfl rfl rfl ⟨rfl, rfl, rfl, rfl, rfl⟩ rfl rfl rfl rfl rfl (by kernel_rfl) Tryd.func3 (by kernel_rfl)
    (of_decide_eq_true (by kernel_rfl)) (by unfold Func.isWrapper; first | (rw [if_pos (by decide +kernel)]; kernel_rfl) | (rw [if_neg (by decide +kernel)]; exact ⟨rfl, rfl⟩))
    (fun os started H enc _ => lifted os started H enc)
theorem card : Rows.FnReportCardSaid :=
  Claim7.holds_tied_plain_at .later [] [.data, .data, .data, .data, .sentinel, .sentinel, .pinned] true Rows.fnReportCard.stood.harness true
    over (fun _ h => by cases h) (by kernel_rfl) (fun _ h => by cases h) fnReport_row_tie rfl ⟨rfl, rfl⟩ (by kernel_rfl) rfl
    (fun f fn hf hfn => by
      obtain rfl : f = 3 := Option.some.inj ((show Tryd.prog.funcNamed "loop.example/s02135/laws.FnReport" = some 3 by kernel_rfl).symm.trans hf) |>.symm
      obtain rfl : fn = Tryd.f3 := (Option.some.inj (Tryd.func3.symm.trans hfn)).symm
      exact ⟨by kernel_rfl, fun j t ht => by
        rw [Tryd.params3] at ht
        have hm : t ∈ ([22] : List TypeId) := List.mem_of_getElem? (by simpa using ht)
        have hall : (([22] : List TypeId).all fun u => !Tryd.prog.wantsStandIn u) = true := by kernel_rfl
        exact (show Tryd.prog.wantsStandIn t = false by simpa using List.all_eq_true.1 hall t hm)⟩)
    (by kernel_rfl)
theorem proved : Rows.FnReportCardSaid := card
#print axioms proved
end Go.Proofs.YtafjdofgafppgaaDoor.TowFr
namespace Go.Proofs.YtafjdofgafppgaaDoor
/-- The card, under a short name, for the claim. -/
theorem fnReport_holds : Rows.FnReportCardSaid := TowFr.proved
end Go.Proofs.YtafjdofgafppgaaDoor
