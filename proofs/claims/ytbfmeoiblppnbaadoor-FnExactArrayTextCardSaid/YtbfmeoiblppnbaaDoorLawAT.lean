/- The law FnExactArrayText answers true, for all arguments. No condition. -/
import Derived.Test.YtbfmeoiblppnbaaDoorRows
import Derived.Test.YtbfmeoiblppnbaaDoorTowAT
import Derived.Test.YtbfmeoiblppnbaaDoorVmShape
import Derived.Test.YtbfmeoiblppnbaaDoorCards
import Derived.Test.YtbfmeoiblppnbaaDoorTie
import Derived.WalkKit
import Derived.LaidLaws
import Derived.LaidHandle
import Derived.LaidMore
import Derived.SevenTiedAt
import Derived.Lib.LaidTab
import Derived.ProofKit
import Derived.OpenShut
import Derived.ShutString
import Derived.ChangeOld
import Derived.Below
import Derived.Carry
import Derived.SizedLaws
set_option linter.all false
namespace Go.Proofs.YtbfmeoiblppnbaaDoor.TowAT
open Go.ChangeShapes Go.WideShapes Go.ChangeAt Go.RowKit
open Go.Vm

theorem own : ownKnob Tryd.prog.godebug = none := by kernel_rfl
theorem laidOut : laidOutB Tryd.prog = true := by kernel_rfl
theorem shape0 (xs : List D) (h : HasT Tryd.prog 4 24 xs) : ∃ (a0_Shape : List Int) (a0_Data : List Int), xs = [lstT cI a0_Shape, lstT cI a0_Data] ∧ (a0_Shape.length ≤ maxLen ∧ ∀ x ∈ a0_Shape, (Lit.int .i64 x).wf = true) ∧ (a0_Data.length ≤ maxLen ∧ ∀ x ∈ a0_Data, (Lit.int .i64 x).wf = true) := by
  simp only [HasT, Tryd.underlying3, Tryd.underlying22, Tryd.underlying24, fieldsT] at h
  obtain ⟨x1, z2, rfl, l3, ⟨y4, rfl, w5, q6⟩, x7, z8, rfl, l9, ⟨y10, rfl, w11, q12⟩, rfl⟩ := h
  obtain ⟨Ly4, ey4, ny4, gy4⟩ := has_list cI (fun x => (Lit.int .i64 x).wf = true) y4 (fun y hy => by
    have hq := (q6 y hy).2
    obtain ⟨n13, rfl, w14⟩ := hq
    exact ⟨n13, rfl, w14⟩)
  obtain ⟨Ly10, ey10, ny10, gy10⟩ := has_list cI (fun x => (Lit.int .i64 x).wf = true) y10 (fun y hy => by
    have hq := (q12 y hy).2
    obtain ⟨n15, rfl, w16⟩ := hq
    exact ⟨n15, rfl, w16⟩)
  refine ⟨Ly4, Ly10, ?_, ⟨ny4 ▸ w5, gy4⟩, ⟨ny10 ▸ w11, gy10⟩⟩
  simp only [List.cons_append, List.nil_append, List.append_nil, ey4, ey10]; try rfl
theorem gP : Tryd.prog.globalNamed "internal/strconv.uint64pow10" = some 0 := by kernel_rfl
theorem tP : (Tryd.prog.globals[0]?).map (·.type) = some 105 := by kernel_rfl
/-- the table stands as long as the first blocks do -/
theorem tab_keeps {W w : World} (h : Lib.TabIs Tryd.prog W "internal/strconv.uint64pow10" .u64 Lib.pow10Tab) (hw : ∀ b, b < W.heap.size → w.heap[b]? = W.heap[b]?) : Lib.TabIs Tryd.prog w "internal/strconv.uint64pow10" .u64 Lib.pow10Tab := by
  unfold Lib.TabIs World.var? at *
  rw [gP] at h ⊢
  simp only [Option.bind_some] at h ⊢
  have hlt : 0 < W.heap.size := by
    rcases Nat.lt_or_ge 0 W.heap.size with h' | h'
    · exact h'
    · rw [Array.getElem?_eq_none h'] at h; cases h
  rw [hw _ hlt]; exact h
theorem tab_of_laid {W : World} (h : laidMetH Tryd.prog Rows.fnExactArrayTextRow.laid W) : Lib.TabIs Tryd.prog W "internal/strconv.uint64pow10" .u64 Lib.pow10Tab := by
  have h1 : laidMet Tryd.prog Rows.fnExactArrayTextRow.laid W := h
  obtain ⟨ps, ⟨_, _, _, _, _, _, _, _, _, _, ⟨_, _, _, _, _, _, _, _, _, _, ⟨g', t', cs, fuel, p, q, hg', ht', hvar, hd, _, _⟩, _⟩, _⟩, _⟩ := h1
  obtain rfl := Option.some.inj (gP.symm.trans hg')
  obtain rfl := Option.some.inj (tP.symm.trans ht')
  unfold Lib.TabIs
  rw [hvar, ← Lib.cells_of_tab (k := .u64) (zs := Lib.pow10Tab) Tryd.underlying105 Tryd.underlying98 (by kernel_rfl) (by kernel_rfl) hd]
theorem C_true [Gl] [GlTab] (a0_Shape : List Int) (a0_Data : List Int) (h : pre_laws_FnExactArrayText a0_Shape a0_Data) : C_laws_FnExactArrayText [.agg [.d (lstT cI a0_Shape), .d (lstT cI a0_Data)]] = some (.ret (.d (.bool true)) []) := by
  rw [C_laws_FnExactArrayText_eq]
  unfold S_laws_FnExactArrayText
  rw [under_pos h]; rfl
theorem walk (W : World) (hT : Lib.TabIs Tryd.prog W "internal/strconv.uint64pow10" .u64 Lib.pow10Tab) (args : Array Value) (a0_Shape : List Int) (a0_Data : List Int) (h : pre_laws_FnExactArrayText a0_Shape a0_Data) (hx : RXs (sz W) W [.agg [.d (lstT cI a0_Shape), .d (lstT cI a0_Data)]] args.toList []) :
    Calls Tryd.prog 3 args W fun e W' => e = .returned (.bool true) ∧ Below W.heap.size W W' := by
  letI gl : Gl := ⟨W.heap.size, fun b => W.heap[b]?⟩
  haveI tb : GlTab := ⟨fun w hw => tab_keeps hT hw⟩
  exact law_true law ⟨List.nodup_nil, Nat.le_refl _, fun b hb => ⟨rfl, by simp⟩⟩ hx (C_true a0_Shape a0_Data h)

set_option maxRecDepth 100000 in
theorem door_met (os : Os) (args : Array Value) : laidMetH Tryd.prog Rows.fnExactArrayTextRow.laid ((World.doorLaid Tryd.prog 4000 os).forCall (fun _ _ => 0) ⟨#[], args, []⟩).memory :=
  laidMetH_of_parts3 (fuel := 8) (laidMet_of_run' 8 (by kernel_rfl) (by kernel_rfl)) (by kernel_rfl) (by kernel_rfl)
set_option maxRecDepth 100000 in
theorem lifted (os : Os) (started : os.Started) (H : Type) (enc : TypeId × Value → H) :
    ReturnsInHanded {} Tryd.checked os 3 .any (fun w args => (Rows.fnExactArrayTextSpec.pre enc Tryd.prog Tryd.f3 Rows.fnExactArrayTextRow.domain false w args ∧ laidMetH Tryd.prog Rows.fnExactArrayTextRow.laid w) ∧ sizedMet enc Tryd.prog Tryd.f3 (OpenSpec.ofChange Rows.fnExactArrayTextSpec) false w args) (Rows.fnExactArrayTextSpec.post enc Tryd.prog Tryd.f3 false true false false) := by
  refine returnsInHanded_of_change_and (C := Tryd.checked) (X := fun w _ => laidMetH Tryd.prog Rows.fnExactArrayTextRow.laid w) (fun _ _ _ hh h => h.of_heap hh) own started (by kernel_rfl) Tryd.func3
    (ChangeSpec.witness_shaped (enc := enc) (C := Tryd.checked) (os := os) (X := fun w _ => laidMetH Tryd.prog Rows.fnExactArrayTextRow.laid w) false (World.doorLaid Tryd.prog 4000 os) #[.agg #[.slice none 0 0, .slice none 0 0]] 8 rfl (World.shaped_of_RefB (by kernel_rfl) (by kernel_rfl)) (by kernel_rfl) (by kernel_rfl) (by kernel_rfl) (door_met os _)) ?_
  intro W base args ds gs before hval0 hW hcnd hsz0 hL _
  have hval : ∀ (j : Nat) t v, Tryd.f3.params[j]? = some t → args[j]? = some v → Value.okWide Tryd.prog W .any base t v := hval0
  have hW' := hW
  obtain ⟨p, q, hA0, hV, rfl, hfz, hnd⟩ := hW
  have hA : DataW.TrodAll enc Tryd.prog W 0 (fun _ => true) true Tryd.f3.params.toList args.toList ds p := hA0
  rw [Tryd.params3] at hA hval
  obtain ⟨v0, d0, rfl, rfl, h0⟩ := trodAll_one hA
  obtain ⟨rfl, rfl⟩ := trodVars_none hV
  have lt0 : ∀ x ∈ p, x.block < W.heap.size := by obtain ⟨m, hm⟩ := h0; exact DataW.trod_lt m _ _ _ hm
  haveI gl : Gl := ⟨0, fun _ => none⟩
  obtain ⟨xs0, hT0, hR0⟩ := arg_of_trod (k := 4) (by kernel_rfl) (hval 0 24 v0 rfl rfl) h0
  obtain ⟨a0_Shape, a0_Data, rfl, c0_0, c0_1⟩ := shape0 xs0 hT0
  simp only [toArg, Tryd.underlying24, List.map_cons, List.map_nil, List.headD_cons] at hR0
  have hx : RXs (sz W) W [.agg [.d (lstT cI a0_Shape), .d (lstT cI a0_Data)]] (#[v0] : Array Value).toList [] := ⟨_, _, [], [], rfl, rfl, hR0, ⟨rfl, rfl⟩⟩
  clear hA0 hval0 hsz0
  refine (walk W (tab_of_laid hL) #[v0] a0_Shape a0_Data (pre_of_laws_FnExactArrayText c0_0 c0_1) hx).mono fun e W' ⟨he, bel⟩ => ?_
  subst he
  exact ⟨_, rfl, _, _, _, [], _, [], hW', trodAll_mk1 (shut_bool Tryd.underlying4 _), trodAll_mk1 (Below.trod laidOut (by kernel_rfl) (of_decide_eq_true (by kernel_rfl)) h0 bel lt0), rfl, bel.frame _, fun h => by cases h⟩
theorem over : Rows.fnExactArrayTextRow.holds Tryd.pinned (OpenSpec.ofChange Rows.fnExactArrayTextSpec) :=
  OpenClaim.holds_of_wide 3 Tryd.f3 rfl rfl rfl rfl rfl rfl rfl ⟨rfl, rfl, rfl, rfl, rfl⟩ rfl rfl rfl rfl rfl (by kernel_rfl) Tryd.func3 (by kernel_rfl)
    (of_decide_eq_true (by kernel_rfl)) (by unfold Func.isWrapper; first | (rw [if_pos (by decide +kernel)]; kernel_rfl) | (rw [if_neg (by decide +kernel)]; exact ⟨rfl, rfl⟩))
    (fun os started H enc _ => lifted os started H enc)
theorem card : Rows.FnExactArrayTextCardSaid :=
  Claim7.holds_tied_plain_at .later [] [.data, .data, .data] true Rows.fnExactArrayTextCard.stood.harness false
    over (fun _ h => by cases h) (by kernel_rfl) (fun _ h => by cases h) fnExactArrayText_row_tie rfl ⟨rfl, rfl⟩ (by kernel_rfl) rfl
    (fun f fn hf hfn => by
      obtain rfl : f = 3 := Option.some.inj ((show Tryd.prog.funcNamed "loop.example/s02135/laws.FnExactArrayText" = some 3 by kernel_rfl).symm.trans hf) |>.symm
      obtain rfl : fn = Tryd.f3 := (Option.some.inj (Tryd.func3.symm.trans hfn)).symm
      exact ⟨by kernel_rfl, fun j t ht => by
        rw [Tryd.params3] at ht
        have hm : t ∈ ([24] : List TypeId) := List.mem_of_getElem? (by simpa using ht)
        have hall : (([24] : List TypeId).all fun u => !Tryd.prog.wantsStandIn u) = true := by kernel_rfl
        exact (show Tryd.prog.wantsStandIn t = false by simpa using List.all_eq_true.1 hall t hm)⟩)
    (by kernel_rfl)
theorem proved : Rows.FnExactArrayTextCardSaid := card
#print axioms proved
end Go.Proofs.YtbfmeoiblppnbaaDoor.TowAT
namespace Go.Proofs.YtbfmeoiblppnbaaDoor
/-- The card, under a short name, for the claim. -/
theorem fnExactArrayText_holds : Rows.FnExactArrayTextCardSaid := TowAT.proved
end Go.Proofs.YtbfmeoiblppnbaaDoor
