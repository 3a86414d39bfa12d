/- The methods of a strings.Builder over this program, with the frame that a call is asked for: all but the builder's own blocks stands. -/
import Derived.Test.YtafjdofgafppgaaDoorVmBldA
import Derived.Test.YtafjdofgafppgaaDoorProg
import Derived.WalkKit
import Derived.ProofKit
import Derived.Lib.Builder
set_option linter.all false
namespace Go.Vm
open Go.RowKit Go.Proofs
def liesB (T : TypeId) : Prop := liesAt Tryd.prog Tryd.prog.depth T (2 / Tryd.prog.cellsOf T) 0 56 1 = true ∧ T ≠ 5
set_option maxHeartbeats 1000000 in
set_option maxRecDepth 100000 in
theorem cc_used (b : Nat) (w : World) (h0 : w.cell? ⟨b, 0, none⟩ = some (.pointer (some ⟨b, 0, none⟩))) :
    Calls Tryd.prog 54 #[.pointer (some ⟨b, 0, none⟩)] w fun e w' => e = .returned (.tuple #[]) ∧ w' = w := by
  obtain ⟨j, hj, _⟩ := Option.map_eq_some_iff.1 (show (Tryd.prog.info? 56).map (·.size) = some 2 by kernel_rfl)
  go_enter Tryd.func54, Tryd.ntmps54
  go_wp2
  rw [Lib.run_neq_ptr_same w _ Tryd.underlying54 hj]
  go_wp2
  go_end0
  exact ⟨rfl, rfl⟩
set_option maxHeartbeats 1000000 in
set_option maxRecDepth 100000 in
theorem cc_fresh {T : TypeId} (hT : liesB T) (b : Nat) (w : World) (h0 : w.cell? ⟨b, 0, none⟩ = some (.pointer none)) (hsh : w.shape? b = some (T, 2)) (hfz : w.frozen? ⟨b, 0, none⟩ = false) :
    Calls Tryd.prog 54 #[.pointer (some ⟨b, 0, none⟩)] w fun e w' => e = .returned (.tuple #[]) ∧ w' = w.setCell ⟨b, 0, none⟩ (.pointer (some ⟨b, 0, none⟩)) := by
  obtain ⟨j, hj, hjs⟩ := Option.map_eq_some_iff.1 (show (Tryd.prog.info? 56).map (·.size) = some 2 by kernel_rfl)
  go_enter Tryd.func54, Tryd.ntmps54
  go_wp2
  rw [Lib.run_to_unsafe w ⟨b, 0, none⟩ Tryd.underlying54 Tryd.underlying98 hj (by rw [hjs]; decide) hsh (Nat.zero_lt_succ 1)]
  simp only [Result.andThen]
  rw [Oper.upon_value]
  go_wp2
  rw [run_callFunc_extern Tryd.func69 (by kernel_rfl) (by kernel_rfl) (by kernel_rfl) (e := Extern.AbiNoEscape.same) (by kernel_rfl)]
  rw [Lib.run_noEscape]
  simp only [Result.andThen]
  rw [Oper.upon_value]
  go_wp2
  rw [Lib.run_from_unsafe w ⟨b, 0, none⟩ Tryd.underlying98 Tryd.underlying54 hj hsh hT.1]
  simp only [Result.andThen]
  rw [Oper.upon_value]
  go_wp2
  go_end0
  exact ⟨rfl, rfl⟩
theorem bld_copyCheck {T : TypeId} (hT : liesB T) (b : Nat) (p v : Value) (w : World) (hp : p = .pointer none ∨ p = .pointer (some ⟨b, 0, none⟩)) (hb : bldBlk T b p v w) :
    Calls Tryd.prog 54 #[.pointer (some ⟨b, 0, none⟩)] w fun e w' => e = .returned (.tuple #[]) ∧ bldBlk T b (.pointer (some ⟨b, 0, none⟩)) v w' ∧ Only [b] w w' := by
  have c0 : w.cell? ⟨b, 0, none⟩ = some p := by rw [Lib.cell_of_heap hb]; rfl
  rcases hp with rfl | rfl
  · refine (cc_fresh hT b w c0 (by simp only [bldBlk] at hb; simp [World.shape?, hb]) (Lib.frozen_of_heap hb 0)).mono ?_
    rintro e w' ⟨rfl, rfl⟩
    refine ⟨rfl, ?_, (Only.refl _ w).setCell (p := ⟨b, 0, none⟩) (by simp) _⟩
    have hb' : w.heap[b]? = some (.cells #[.pointer none, v] T (0, 0)) := hb
    simp [bldBlk, World.setCell, Array.getElem?_modify, hb']
  · refine (cc_used b w c0).mono ?_
    rintro e w' ⟨rfl, rfl⟩
    exact ⟨rfl, hb, Only.refl _ _⟩
set_option maxHeartbeats 2000000 in
set_option maxRecDepth 100000 in
theorem bld_WriteString {T : TypeId} (hT : liesB T) (b : Nat) (p v : Value) (bs : List Value) (s : ByteArray) (w : World) (hp : p = .pointer none ∨ p = .pointer (some ⟨b, 0, none⟩)) (hb : bldBlk T b p v w)
    (hown : w.ownsRowF 0 5 1 v bs.length bs) (hne : v.ownBlock ≠ some b) (hlen : bs.length + s.size ≤ 140737488355328) :
    Calls Tryd.prog 44 #[.pointer (some ⟨b, 0, none⟩), .string s] w fun e w' => e = .returned (.tuple #[.int .i64 s.size, .nilIface]) ∧ ∃ v', bldBlk T b (.pointer (some ⟨b, 0, none⟩)) v' w' ∧
      w'.ownsRowF 0 5 1 v' (bs ++ Lib.strCells s).length (bs ++ Lib.strCells s) ∧ v'.ownBlock ≠ some b ∧ (∀ g, v'.ownBlock = some g → g < w.heap.size → v.ownBlock = some g) ∧ Only (b :: v.ownBlock.toList) w w' := by
  obtain ⟨i0, hi, hz0, hz1, hz2⟩ := info_parts (show (Tryd.prog.info? 5).map (fun i => (i.zero, i.size, i.bytes)) = some (some (.int .u8 0), 1, 1) by kernel_rfl)
  have mixed : Tryd.prog.follows .mixedOrders = true := by kernel_rfl
  go_enter Tryd.func44, Tryd.ntmps44
  go_wp2_with (go_at_call 54; refine (bld_copyCheck hT b p v _ hp hb).mono ?_)
  rintro e w1 ⟨rfl, hbk, hb1⟩
  have hbk' : w1.heap[b]? = some (.cells #[.pointer (some ⟨b, 0, none⟩), v] T (0, 0)) := hbk
  have hown1 : w1.ownsRowF 0 5 1 v bs.length bs := ownsRowF_keep hown fun g hg => hb1.block g (hown.lt g hg).2 (by simp only [List.mem_singleton]; rintro rfl; exact hne hg)
  have c0 : w1.cell? ⟨b, 0, none⟩ = some (.pointer (some ⟨b, 0, none⟩)) := by rw [Lib.cell_of_heap hbk']; rfl
  have c1 : w1.cell? ⟨b, 1, none⟩ = some v := by rw [Lib.cell_of_heap hbk']; rfl
  go_wp2_with (at_builtin; refine wp_append_string rfl _ _ 22 9 rfl 5 i0 Tryd.underlying22 Tryd.underlying9 hi hz0 hz1 hz2 _ _ _ rfl hown1 s rfl ?c3 ?c4 ?_)
  case c3 => unfold maxLen; omega
  case c4 => omega
  intro v' w2 hown' hgrow hnew
  have hlt : b < w1.heap.size := lt_heap hbk'
  have hb2 : w2.heap[b]? = some (.cells #[.pointer (some ⟨b, 0, none⟩), v] T (0, 0)) := by
    rw [hgrow.block b hlt (fun e => hne e.symm)]
    exact hbk'
  have d0 : w2.cell? ⟨b, 0, none⟩ = some (.pointer (some ⟨b, 0, none⟩)) := by rw [Lib.cell_of_heap hb2]; rfl
  have d1 : w2.cell? ⟨b, 1, none⟩ = some v := by rw [Lib.cell_of_heap hb2]; rfl
  have f1 : w2.frozen? ⟨b, 1, none⟩ = false := Lib.frozen_of_heap hb2 1
  obtain ⟨ao, n', cap, rfl⟩ : ∃ ao n' cap, v' = .slice ao n' cap := by
    rcases hown'.2 with ⟨hv, _⟩ | ⟨g, cap, cur, fz, hv, _⟩
    · exact ⟨_, _, _, hv⟩
    · exact ⟨_, _, _, hv⟩
  have hneb : Value.ownBlock (.slice ao n' cap) ≠ some b := own_ne hown' hb2 hT.2
  go_wp2
  go_ret2
  refine ⟨rfl, _, put_bld hb2, own_put (by simpa [Lib.strCells_length] using hown') _ hneb, hneb, fun g hg hlt' => hnew g hg (Nat.lt_of_lt_of_le hlt' hb1.size), ?_⟩
  exact ((hb1.wide (by simp)).grown hgrow (fun k hk => by rw [hk]; simp)).setCell (p := ⟨b, 1, none⟩) (by simp) _
set_option maxHeartbeats 2000000 in
set_option maxRecDepth 100000 in
theorem bld_WriteByte {T : TypeId} (hT : liesB T) (b : Nat) (p v : Value) (bs : List Value) (c : Int) (w : World) (hp : p = .pointer none ∨ p = .pointer (some ⟨b, 0, none⟩)) (hb : bldBlk T b p v w)
    (hown : w.ownsRowF 0 5 1 v bs.length bs) (hne : v.ownBlock ≠ some b) (hlen : bs.length + 1 ≤ 140737488355328) :
    Calls Tryd.prog 46 #[.pointer (some ⟨b, 0, none⟩), .int .u8 c] w fun e w' => e = .returned .nilIface ∧ ∃ v', bldBlk T b (.pointer (some ⟨b, 0, none⟩)) v' w' ∧
      w'.ownsRowF 0 5 1 v' (bs ++ [Value.int .u8 c]).length (bs ++ [Value.int .u8 c]) ∧ v'.ownBlock ≠ some b ∧ (∀ g, v'.ownBlock = some g → g < w.heap.size → v.ownBlock = some g) ∧ Only (b :: v.ownBlock.toList) w w' := by
  obtain ⟨i0, hi, hz0, hz1, hz2⟩ := info_parts (show (Tryd.prog.info? 5).map (fun i => (i.zero, i.size, i.bytes)) = some (some (.int .u8 0), 1, 1) by kernel_rfl)
  have mixed : Tryd.prog.follows .mixedOrders = true := by kernel_rfl
  go_enter Tryd.func46, Tryd.ntmps46
  go_wp2_with (go_at_call 54; refine (bld_copyCheck hT b p v _ hp hb).mono ?_)
  rintro e w1 ⟨rfl, hbk, hb1⟩
  have hbk' : w1.heap[b]? = some (.cells #[.pointer (some ⟨b, 0, none⟩), v] T (0, 0)) := hbk
  have hown1 : w1.ownsRowF 0 5 1 v bs.length bs := ownsRowF_keep hown fun g hg => hb1.block g (hown.lt g hg).2 (by simp only [List.mem_singleton]; rintro rfl; exact hne hg)
  have c0 : w1.cell? ⟨b, 0, none⟩ = some (.pointer (some ⟨b, 0, none⟩)) := by rw [Lib.cell_of_heap hbk']; rfl
  have c1 : w1.cell? ⟨b, 1, none⟩ = some v := by rw [Lib.cell_of_heap hbk']; rfl
  go_wp2_with (at_builtin; refine wp_append_cells rfl _ _ 22 rfl 5 i0 (.int .u8 0) Tryd.underlying22 hi hz0 hz1 hz2 rfl _ _ _ rfl (hown1.alloc _) ⟨w1.heap.size, 0, none⟩ 1 1 [.int .u8 c] rfl rfl ?c1 ?c2 ?c3 ?c4 ?_)
  case c1 =>
    intro j u hj
    match j, hj with
    | 0, hj => simp at hj; subst hj; simp [Addr.add]
  case c2 => intro u hu; simp at hu; subst hu; rfl
  case c3 => unfold maxLen; omega
  case c4 => omega
  intro v' w2 hown' hgrow hnew
  have hlt : b < w1.heap.size := lt_heap hbk'
  have hb2 : w2.heap[b]? = some (.cells #[.pointer (some ⟨b, 0, none⟩), v] T (0, 0)) := by
    rw [hgrow.block b (by simp; omega) (fun e => hne e.symm), Lib.alloc_old w1 _ b hlt]
    exact hbk'
  have d0 : w2.cell? ⟨b, 0, none⟩ = some (.pointer (some ⟨b, 0, none⟩)) := by rw [Lib.cell_of_heap hb2]; rfl
  have d1 : w2.cell? ⟨b, 1, none⟩ = some v := by rw [Lib.cell_of_heap hb2]; rfl
  have f1 : w2.frozen? ⟨b, 1, none⟩ = false := Lib.frozen_of_heap hb2 1
  obtain ⟨g, cap, rfl⟩ : ∃ g cap, v' = .slice (some ⟨g, 0, none⟩) (bs.length + 1) cap := by
    rcases hown'.2 with ⟨_, h0⟩ | ⟨g, cap, cur, fz, hv, _⟩
    · omega
    · exact ⟨g, cap, hv⟩
  have hneb : Value.ownBlock (.slice (some ⟨g, 0, none⟩) (bs.length + 1) cap) ≠ some b := own_ne hown' hb2 hT.2
  go_wp2
  go_ret
  refine ⟨rfl, _, put_bld hb2, own_put (by simpa using hown') _ hneb, hneb, fun g hg hlt' => hnew g hg (by have := hb1.size; simp; omega), ?_⟩
  exact (((hb1.wide (by simp)).alloc _).grown hgrow (fun k hk => by rw [hk]; simp)).setCell (p := ⟨b, 1, none⟩) (by simp) _
set_option maxHeartbeats 2000000 in
set_option maxRecDepth 100000 in
theorem bld_String_l {T : TypeId} (hT : liesB T) (b g cap : Nat) (p : Value) (l : List UInt8) (w : World) (hb : bldBlk T b p (.slice (some ⟨g, 0, none⟩) l.length cap) w) (h0 : l ≠ []) (cur : Array Value) (fz : Nat × Nat)
    (hown : w.ownsRowF 0 5 1 (.slice (some ⟨g, 0, none⟩) l.length cap) l.length (Lib.byteCells l)) (hg : w.heap[g]? = some (.cells cur 5 fz)) (hnc : l.length ≤ cap) (hcm : cap ≤ maxLen) (hcs : cur.size = cap * 1) (hgb : g ≠ b) :
    Calls Tryd.prog 33 #[.pointer (some ⟨b, 0, none⟩)] w fun e w' => e = .returned (.string ⟨l.toArray⟩) ∧ bldBlk T b p (.slice (some ⟨g, 0, none⟩) l.length cap) w' ∧ w'.ownsRowF 0 5 1 (.slice (some ⟨g, 0, none⟩) l.length cap) l.length (Lib.byteCells l) ∧ Only (b :: (Value.ownBlock (.slice (some ⟨g, 0, none⟩) l.length cap)).toList) w w' := by
  have hl0 : l.length ≠ 0 := by simpa using h0
  have c1 : w.drew.cell? ⟨b, 1, none⟩ = some (.slice (some ⟨g, 0, none⟩) l.length cap) := by
    have : w.drew.heap[b]? = some (.cells #[p, .slice (some ⟨g, 0, none⟩) l.length cap] T (0, 0)) := hb
    rw [Lib.cell_of_heap this]; rfl
  have hSD : (Builtin.unsafeSliceData_ #[22] 76 #[.slice (some ⟨g, 0, none⟩) l.length cap]).run Tryd.prog w.drew = .ok (.pointer (some ⟨g, 0, none⟩)) w.drew :=
    Lib.run_unsafeSliceData_row _ _ _ _ _ _ (by omega)
  have hUS : (Builtin.unsafeString_ #[76, 3] 9 #[.pointer (some ⟨g, 0, none⟩), .int .i64 l.length]).run Tryd.prog w.drew = .ok (.string ⟨l.toArray⟩) (w.drew.freeze ⟨g, 0, none⟩ l.length) := by
    refine Lib.run_unsafeString_row w.drew 76 3 9 5 Tryd.underlying76 (by kernel_rfl) g cur.size (by have hg' : w.drew.heap[g]? = some (.cells cur 5 fz) := hg; simp [World.shape?, hg']) l h0 (by omega) (by unfold maxLen at hcm; omega) ?_
    intro j x hx
    exact hown.cells (g := g) rfl j (.int .u8 x.toNat) (by simp [Lib.byteCells, hx])
  have hb2 : bldBlk T b p (.slice (some ⟨g, 0, none⟩) l.length cap) (w.drew.freeze ⟨g, 0, none⟩ l.length) :=
    (((Only.refl [g] w).drew.freeze (p := ⟨g, 0, none⟩) (by simp) l.length).block b (lt_heap hb) (by simpa using hgb.symm)).trans hb
  have hown2 : (w.drew.freeze ⟨g, 0, none⟩ l.length).ownsRowF 0 5 1 (.slice (some ⟨g, 0, none⟩) l.length cap) l.length (Lib.byteCells l) := own_froze hown
  have mixed : Tryd.prog.follows .mixedOrders = true := by kernel_rfl
  go_enter Tryd.func33, Tryd.ntmps33
  go_wp2
  go_region
  all_goals (go_wp2; go_ret; exact ⟨rfl, hb2, hown2, (Only.refl _ w).drew.freeze (p := ⟨g, 0, none⟩) (by simp [Value.ownBlock]) _⟩)
set_option maxHeartbeats 2000000 in
set_option maxRecDepth 100000 in
theorem bld_String_nil {T : TypeId} (hT : liesB T) (b : Nat) (p : Value) (w : World) (hb : bldBlk T b p (.slice none 0 0) w) (hown : w.ownsRowF 0 5 1 (.slice none 0 0) 0 []) :
    Calls Tryd.prog 33 #[.pointer (some ⟨b, 0, none⟩)] w fun e w' => e = .returned (.string ⟨#[]⟩) ∧ bldBlk T b p (.slice none 0 0) w' ∧ w'.ownsRowF 0 5 1 (.slice none 0 0) 0 [] ∧ Only (b :: (Value.ownBlock (.slice none 0 0)).toList) w w' := by
  have hUS : ∀ (W : World) (q : Option Addr), (Builtin.unsafeString_ #[76, 3] 9 #[.pointer q, .int .i64 0]).run Tryd.prog W = .ok (.string .empty) W := fun W q => Lib.run_unsafeString_none W _ _ _ q
  have c1 : w.drew.cell? ⟨b, 1, none⟩ = some (.slice none 0 0) := by
    have : w.drew.heap[b]? = some (.cells #[p, .slice none 0 0] T (0, 0)) := hb
    rw [Lib.cell_of_heap this]; rfl
  have hSD : (Builtin.unsafeSliceData_ #[22] 76 #[.slice none 0 0]).run Tryd.prog w.drew = .ok (.pointer none) w.drew := rfl
  have mixed : Tryd.prog.follows .mixedOrders = true := by kernel_rfl
  go_enter Tryd.func33, Tryd.ntmps33
  go_wp2
  go_region
  all_goals (go_wp2; go_ret; exact ⟨rfl, hb, hown, (Only.refl _ w).drew⟩)
set_option maxHeartbeats 2000000 in
set_option maxRecDepth 100000 in
theorem bld_String_room {T : TypeId} (hT : liesB T) (b g cap : Nat) (p : Value) (w : World) (hc0 : cap ≠ 0) (hb : bldBlk T b p (.slice (some ⟨g, 0, none⟩) 0 cap) w) (hown : w.ownsRowF 0 5 1 (.slice (some ⟨g, 0, none⟩) 0 cap) 0 []) :
    Calls Tryd.prog 33 #[.pointer (some ⟨b, 0, none⟩)] w fun e w' => e = .returned (.string ⟨#[]⟩) ∧ bldBlk T b p (.slice (some ⟨g, 0, none⟩) 0 cap) w' ∧ w'.ownsRowF 0 5 1 (.slice (some ⟨g, 0, none⟩) 0 cap) 0 [] ∧ Only (b :: (Value.ownBlock (.slice (some ⟨g, 0, none⟩) 0 cap)).toList) w w' := by
  have hUS : ∀ (W : World) (q : Option Addr), (Builtin.unsafeString_ #[76, 3] 9 #[.pointer q, .int .i64 0]).run Tryd.prog W = .ok (.string .empty) W := fun W q => Lib.run_unsafeString_none W _ _ _ q
  have c1 : w.drew.cell? ⟨b, 1, none⟩ = some (.slice (some ⟨g, 0, none⟩) 0 cap) := by
    have : w.drew.heap[b]? = some (.cells #[p, .slice (some ⟨g, 0, none⟩) 0 cap] T (0, 0)) := hb
    rw [Lib.cell_of_heap this]; rfl
  have hSD : (Builtin.unsafeSliceData_ #[22] 76 #[.slice (some ⟨g, 0, none⟩) 0 cap]).run Tryd.prog w.drew = .ok (.pointer (some ⟨g, 0, none⟩)) w.drew :=
    Lib.run_unsafeSliceData_row _ _ _ _ _ _ hc0
  clear hc0
  have mixed : Tryd.prog.follows .mixedOrders = true := by kernel_rfl
  go_enter Tryd.func33, Tryd.ntmps33
  go_wp2
  go_region
  all_goals (go_wp2; go_ret; exact ⟨rfl, hb, hown, (Only.refl _ w).drew⟩)
set_option maxHeartbeats 2000000 in
set_option maxRecDepth 100000 in
theorem bld_String_no {T : TypeId} (hT : liesB T) (b g : Nat) (p : Value) (cur : Array Value) (fz : Nat × Nat) (w : World) (hb : bldBlk T b p (.slice (some ⟨g, 0, none⟩) 0 0) w) (hown : w.ownsRowF 0 5 1 (.slice (some ⟨g, 0, none⟩) 0 0) 0 []) (hg : w.heap[g]? = some (.cells cur 5 fz)) :
    Calls Tryd.prog 33 #[.pointer (some ⟨b, 0, none⟩)] w fun e w' => e = .returned (.string ⟨#[]⟩) ∧ bldBlk T b p (.slice (some ⟨g, 0, none⟩) 0 0) w' ∧ w'.ownsRowF 0 5 1 (.slice (some ⟨g, 0, none⟩) 0 0) 0 [] ∧ Only (b :: (Value.ownBlock (.slice (some ⟨g, 0, none⟩) 0 0)).toList) w w' := by
  have hUS : ∀ (W : World) (q : Option Addr), (Builtin.unsafeString_ #[76, 3] 9 #[.pointer q, .int .i64 0]).run Tryd.prog W = .ok (.string .empty) W := fun W q => Lib.run_unsafeString_none W _ _ _ q
  have hlt : b < w.heap.size := lt_heap hb
  have c1 : w.drew.cell? ⟨b, 1, none⟩ = some (.slice (some ⟨g, 0, none⟩) 0 0) := by
    have : w.drew.heap[b]? = some (.cells #[p, .slice (some ⟨g, 0, none⟩) 0 0] T (0, 0)) := hb
    rw [Lib.cell_of_heap this]; rfl
  have hSD : (Builtin.unsafeSliceData_ #[22] 76 #[.slice (some ⟨g, 0, none⟩) 0 0]).run Tryd.prog w.drew = .ok (.pointer (some ⟨w.drew.heap.size, 0, none⟩)) (w.drew.alloc (.view ⟨g, 0, none⟩ 5)) :=
    Lib.run_unsafeSliceData_zero w.drew _ _ 5 Tryd.underlying76 ⟨g, 0, none⟩ 0 (5, cur.size) (by have hg' : w.drew.heap[g]? = some (.cells cur 5 fz) := hg; simp [World.shape?, hg'])
  have hb2 : bldBlk T b p (.slice (some ⟨g, 0, none⟩) 0 0) (w.drew.alloc (.view ⟨g, 0, none⟩ 5)) := (Lib.alloc_old w.drew _ b hlt).trans hb
  have c2 : (w.drew.alloc (.view ⟨g, 0, none⟩ 5)).cell? ⟨b, 1, none⟩ = some (.slice (some ⟨g, 0, none⟩) 0 0) := by
    have : (w.drew.alloc (.view ⟨g, 0, none⟩ 5)).heap[b]? = some (.cells #[p, .slice (some ⟨g, 0, none⟩) 0 0] T (0, 0)) := hb2
    rw [Lib.cell_of_heap this]; rfl
  have c3 : (w.alloc (.view ⟨g, 0, none⟩ 5)).drew.cell? ⟨b, 1, none⟩ = some (.slice (some ⟨g, 0, none⟩) 0 0) := c2
  have c0 : w.cell? ⟨b, 1, none⟩ = some (.slice (some ⟨g, 0, none⟩) 0 0) := c1
  have hown2 : (w.drew.alloc (.view ⟨g, 0, none⟩ 5)).ownsRowF 0 5 1 (.slice (some ⟨g, 0, none⟩) 0 0) 0 [] :=
    ownsRowF_keep hown fun k hk => by
      obtain rfl : g = k := by simpa [Value.ownBlock] using hk
      exact Lib.alloc_old w.drew _ g (lt_heap hg)
  have mixed : Tryd.prog.follows .mixedOrders = true := by kernel_rfl
  go_enter Tryd.func33, Tryd.ntmps33
  go_wp2
  go_region
  all_goals (go_wp2; go_ret; exact ⟨rfl, hb2, hown2, (Only.refl _ w).drew.alloc _⟩)
/-- what a builder holds is read -/
theorem bld_String {T : TypeId} (hT : liesB T) (b : Nat) (p v : Value) (l : List UInt8) (w : World) (hb : bldBlk T b p v w)
    (hown : w.ownsRowF 0 5 1 v l.length (Lib.byteCells l)) (hne : v.ownBlock ≠ some b) :
    Calls Tryd.prog 33 #[.pointer (some ⟨b, 0, none⟩)] w fun e w' => e = .returned (.string ⟨l.toArray⟩) ∧ bldBlk T b p v w' ∧ w'.ownsRowF 0 5 1 v l.length (Lib.byteCells l) ∧ Only (b :: v.ownBlock.toList) w w' := by
  cases l with
  | nil =>
    rcases hown.2 with ⟨rfl, _⟩ | ⟨g, cap, cur, fz, rfl, hbg, hg, hfz, hnc, hcm, hcs, htake⟩
    · exact bld_String_nil hT b p w hb hown
    · by_cases hc0 : cap = 0
      · subst hc0
        exact bld_String_no hT b g p cur fz w hb hown hg
      · exact bld_String_room hT b g cap p w hc0 hb hown
  | cons x r =>
    rcases hown.2 with ⟨_, hz⟩ | ⟨g, cap, cur, fz, rfl, hbg, hg, hfz, hnc, hcm, hcs, htake⟩
    · simp at hz
    · exact bld_String_l hT b g cap p (x :: r) w hb (by simp) cur fz hown hg hnc hcm hcs (fun e => hne (by simp [Value.ownBlock, e]))
end Go.Vm
