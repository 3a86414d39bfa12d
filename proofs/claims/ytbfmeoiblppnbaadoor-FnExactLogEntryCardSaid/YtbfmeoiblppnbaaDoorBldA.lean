import Derived.Test.YtbfmeoiblppnbaaDoorVmBldA
import Derived.Test.YtbfmeoiblppnbaaDoorProg
import Derived.WalkKit
import Derived.ProofKit
import Derived.Lib.Builder
import Derived.Test.YtbfmeoiblppnbaaDoorVmLayer
import Derived.Test.YtbfmeoiblppnbaaDoorVmKind
import Derived.Shelf.LaysM
import Derived.Shelf.Strconv.Itoa0
import Derived.Shelf.Strconv.Itoa1
import Derived.Shelf.Strconv.Itoa2
import Derived.Shelf.Strconv.Itoa3
import Derived.KernelRfl
import Derived.Lib.AppendIntMem
/- The methods of a strings.Builder over this program, with the frame that a call is asked for: all but the builder's own blocks stands. -/
set_option linter.all false
namespace Go.Vm
open Go.RowKit Go.Proofs
def liesB (T : TypeId) : Prop := liesAt Tryd.prog Tryd.prog.depth T (2 / Tryd.prog.cellsOf T) 0 63 1 = true ∧ T ≠ 5
set_option maxHeartbeats 1000000 in
set_option maxRecDepth 100000 in
theorem cc_used (b : Nat) (w : World) (h0 : w.cell? ⟨b, 0, none⟩ = some (.pointer (some ⟨b, 0, none⟩))) :
    Calls Tryd.prog 56 #[.pointer (some ⟨b, 0, none⟩)] w fun e w' => e = .returned (.tuple #[]) ∧ w' = w := by
  obtain ⟨j, hj, _⟩ := Option.map_eq_some_iff.1 (show (Tryd.prog.info? 63).map (·.size) = some 2 by kernel_rfl)
  go_enter Tryd.func56, Tryd.ntmps56
  go_wp2
  rw [Lib.run_neq_ptr_same w _ Tryd.underlying60 hj]
  go_wp2
  go_end0
  exact ⟨rfl, rfl⟩
set_option maxHeartbeats 1000000 in
set_option maxRecDepth 100000 in
theorem cc_fresh {T : TypeId} (hT : liesB T) (b : Nat) (w : World) (h0 : w.cell? ⟨b, 0, none⟩ = some (.pointer none)) (hsh : w.shape? b = some (T, 2)) (hfz : w.frozen? ⟨b, 0, none⟩ = false) :
    Calls Tryd.prog 56 #[.pointer (some ⟨b, 0, none⟩)] w fun e w' => e = .returned (.tuple #[]) ∧ w' = w.setCell ⟨b, 0, none⟩ (.pointer (some ⟨b, 0, none⟩)) := by
  obtain ⟨j, hj, hjs⟩ := Option.map_eq_some_iff.1 (show (Tryd.prog.info? 63).map (·.size) = some 2 by kernel_rfl)
  go_enter Tryd.func56, Tryd.ntmps56
  go_wp2
  rw [Lib.run_to_unsafe w ⟨b, 0, none⟩ Tryd.underlying60 Tryd.underlying95 hj (by rw [hjs]; decide) hsh (Nat.zero_lt_succ 1)]
  simp only [Result.andThen]
  rw [Oper.upon_value]
  go_wp2
  rw [run_callFunc_extern Tryd.func59 (by kernel_rfl) (by kernel_rfl) (by kernel_rfl) (e := Extern.AbiNoEscape.same) (by kernel_rfl)]
  rw [Lib.run_noEscape]
  simp only [Result.andThen]
  rw [Oper.upon_value]
  go_wp2
  rw [Lib.run_from_unsafe w ⟨b, 0, none⟩ Tryd.underlying95 Tryd.underlying60 hj hsh hT.1]
  simp only [Result.andThen]
  rw [Oper.upon_value]
  go_wp2
  go_end0
  exact ⟨rfl, rfl⟩
theorem bld_copyCheck {T : TypeId} (hT : liesB T) (b : Nat) (p v : Value) (w : World) (hp : p = .pointer none ∨ p = .pointer (some ⟨b, 0, none⟩)) (hb : bldBlk T b p v w) :
    Calls Tryd.prog 56 #[.pointer (some ⟨b, 0, none⟩)] w fun e w' => e = .returned (.tuple #[]) ∧ bldBlk T b (.pointer (some ⟨b, 0, none⟩)) v w' ∧ Only [b] w w' := by
  have c0 : w.cell? ⟨b, 0, none⟩ = some p := by rw [Lib.cell_of_heap hb]; rfl
  rcases hp with rfl | rfl
  · refine (cc_fresh hT b w c0 (by simp only [bldBlk] at hb; simp [World.shape?, hb]) (Lib.frozen_of_heap hb 0)).mono ?_
    rintro e w' ⟨rfl, rfl⟩
    refine ⟨rfl, ?_, (Only.refl _ w).setCell (p := ⟨b, 0, none⟩) (by simp) _⟩
    have hb' : w.heap[b]? = some (.cells #[.pointer none, v] T (0, 0)) := hb
    simp [bldBlk, World.setCell, Array.getElem?_modify, hb']
  · refine (cc_used b w c0).mono ?_
    rintro e w' ⟨rfl, rfl⟩
    exact ⟨rfl, hb, Only.refl _ _⟩
set_option maxHeartbeats 2000000 in
set_option maxRecDepth 100000 in
theorem bld_WriteString {T : TypeId} (hT : liesB T) (b : Nat) (p v : Value) (bs : List Value) (s : ByteArray) (w : World) (hp : p = .pointer none ∨ p = .pointer (some ⟨b, 0, none⟩)) (hb : bldBlk T b p v w)
    (hown : w.ownsRowF 0 5 1 v bs.length bs) (hne : v.ownBlock ≠ some b) (hlen : bs.length + s.size ≤ 140737488355328) :
    Calls Tryd.prog 49 #[.pointer (some ⟨b, 0, none⟩), .string s] w fun e w' => e = .returned (.tuple #[.int .i64 s.size, .nilIface]) ∧ ∃ v', bldBlk T b (.pointer (some ⟨b, 0, none⟩)) v' w' ∧
      w'.ownsRowF 0 5 1 v' (bs ++ Lib.strCells s).length (bs ++ Lib.strCells s) ∧ v'.ownBlock ≠ some b ∧ (∀ g, v'.ownBlock = some g → g < w.heap.size → v.ownBlock = some g) ∧ Only (b :: v.ownBlock.toList) w w' := by
  obtain ⟨i0, hi, hz0, hz1, hz2⟩ := info_parts (show (Tryd.prog.info? 5).map (fun i => (i.zero, i.size, i.bytes)) = some (some (.int .u8 0), 1, 1) by kernel_rfl)
  have mixed : Tryd.prog.follows .mixedOrders = true := by kernel_rfl
  go_enter Tryd.func49, Tryd.ntmps49
  go_wp2_with (go_at_call 56; refine (bld_copyCheck hT b p v _ hp hb).mono ?_)
  rintro e w1 ⟨rfl, hbk, hb1⟩
  have hbk' : w1.heap[b]? = some (.cells #[.pointer (some ⟨b, 0, none⟩), v] T (0, 0)) := hbk
  have hown1 : w1.ownsRowF 0 5 1 v bs.length bs := ownsRowF_keep hown fun g hg => hb1.block g (hown.lt g hg).2 (by simp only [List.mem_singleton]; rintro rfl; exact hne hg)
  have c0 : w1.cell? ⟨b, 0, none⟩ = some (.pointer (some ⟨b, 0, none⟩)) := by rw [Lib.cell_of_heap hbk']; rfl
  have c1 : w1.cell? ⟨b, 1, none⟩ = some v := by rw [Lib.cell_of_heap hbk']; rfl
  go_wp2_with (at_builtin; refine wp_append_string rfl _ _ 61 9 rfl 5 i0 Tryd.underlying61 Tryd.underlying9 hi hz0 hz1 hz2 _ _ _ rfl hown1 s rfl ?c3 ?c4 ?_)
  case c3 => unfold maxLen; omega
  case c4 => omega
  intro v' w2 hown' hgrow hnew
  have hlt : b < w1.heap.size := lt_heap hbk'
  have hb2 : w2.heap[b]? = some (.cells #[.pointer (some ⟨b, 0, none⟩), v] T (0, 0)) := by
    rw [hgrow.block b hlt (fun e => hne e.symm)]
    exact hbk'
  have d0 : w2.cell? ⟨b, 0, none⟩ = some (.pointer (some ⟨b, 0, none⟩)) := by rw [Lib.cell_of_heap hb2]; rfl
  have d1 : w2.cell? ⟨b, 1, none⟩ = some v := by rw [Lib.cell_of_heap hb2]; rfl
  have f1 : w2.frozen? ⟨b, 1, none⟩ = false := Lib.frozen_of_heap hb2 1
  obtain ⟨ao, n', cap, rfl⟩ : ∃ ao n' cap, v' = .slice ao n' cap := by
    rcases hown'.2 with ⟨hv, _⟩ | ⟨g, cap, cur, fz, hv, _⟩
    · exact ⟨_, _, _, hv⟩
    · exact ⟨_, _, _, hv⟩
  have hneb : Value.ownBlock (.slice ao n' cap) ≠ some b := own_ne hown' hb2 hT.2
  go_wp2
  go_ret2
  refine ⟨rfl, _, put_bld hb2, own_put (by simpa [Lib.strCells_length] using hown') _ hneb, hneb, fun g hg hlt' => hnew g hg (Nat.lt_of_lt_of_le hlt' hb1.size), ?_⟩
  exact ((hb1.wide (by simp)).grown hgrow (fun k hk => by rw [hk]; simp)).setCell (p := ⟨b, 1, none⟩) (by simp) _
set_option maxHeartbeats 2000000 in
set_option maxRecDepth 100000 in
theorem bld_WriteByte {T : TypeId} (hT : liesB T) (b : Nat) (p v : Value) (bs : List Value) (c : Int) (w : World) (hp : p = .pointer none ∨ p = .pointer (some ⟨b, 0, none⟩)) (hb : bldBlk T b p v w)
    (hown : w.ownsRowF 0 5 1 v bs.length bs) (hne : v.ownBlock ≠ some b) (hlen : bs.length + 1 ≤ 140737488355328) :
    Calls Tryd.prog 48 #[.pointer (some ⟨b, 0, none⟩), .int .u8 c] w fun e w' => e = .returned .nilIface ∧ ∃ v', bldBlk T b (.pointer (some ⟨b, 0, none⟩)) v' w' ∧
      w'.ownsRowF 0 5 1 v' (bs ++ [Value.int .u8 c]).length (bs ++ [Value.int .u8 c]) ∧ v'.ownBlock ≠ some b ∧ (∀ g, v'.ownBlock = some g → g < w.heap.size → v.ownBlock = some g) ∧ Only (b :: v.ownBlock.toList) w w' := by
  obtain ⟨i0, hi, hz0, hz1, hz2⟩ := info_parts (show (Tryd.prog.info? 5).map (fun i => (i.zero, i.size, i.bytes)) = some (some (.int .u8 0), 1, 1) by kernel_rfl)
  have mixed : Tryd.prog.follows .mixedOrders = true := by kernel_rfl
  go_enter Tryd.func48, Tryd.ntmps48
  go_wp2_with (go_at_call 56; refine (bld_copyCheck hT b p v _ hp hb).mono ?_)
  rintro e w1 ⟨rfl, hbk, hb1⟩
  have hbk' : w1.heap[b]? = some (.cells #[.pointer (some ⟨b, 0, none⟩), v] T (0, 0)) := hbk
  have hown1 : w1.ownsRowF 0 5 1 v bs.length bs := ownsRowF_keep hown fun g hg => hb1.block g (hown.lt g hg).2 (by simp only [List.mem_singleton]; rintro rfl; exact hne hg)
  have c0 : w1.cell? ⟨b, 0, none⟩ = some (.pointer (some ⟨b, 0, none⟩)) := by rw [Lib.cell_of_heap hbk']; rfl
  have c1 : w1.cell? ⟨b, 1, none⟩ = some v := by rw [Lib.cell_of_heap hbk']; rfl
  go_wp2_with (at_builtin; refine wp_append_cells rfl _ _ 61 rfl 5 i0 (.int .u8 0) Tryd.underlying61 hi hz0 hz1 hz2 rfl _ _ _ rfl (hown1.alloc _) ⟨w1.heap.size, 0, none⟩ 1 1 [.int .u8 c] rfl rfl ?c1 ?c2 ?c3 ?c4 ?_)
  case c1 =>
    intro j u hj
    match j, hj with
    | 0, hj => simp at hj; subst hj; simp [Addr.add]
  case c2 => intro u hu; simp at hu; subst hu; rfl
  case c3 => unfold maxLen; omega
  case c4 => omega
  intro v' w2 hown' hgrow hnew
  have hlt : b < w1.heap.size := lt_heap hbk'
  have hb2 : w2.heap[b]? = some (.cells #[.pointer (some ⟨b, 0, none⟩), v] T (0, 0)) := by
    rw [hgrow.block b (by simp; omega) (fun e => hne e.symm), Lib.alloc_old w1 _ b hlt]
    exact hbk'
  have d0 : w2.cell? ⟨b, 0, none⟩ = some (.pointer (some ⟨b, 0, none⟩)) := by rw [Lib.cell_of_heap hb2]; rfl
  have d1 : w2.cell? ⟨b, 1, none⟩ = some v := by rw [Lib.cell_of_heap hb2]; rfl
  have f1 : w2.frozen? ⟨b, 1, none⟩ = false := Lib.frozen_of_heap hb2 1
  obtain ⟨g, cap, rfl⟩ : ∃ g cap, v' = .slice (some ⟨g, 0, none⟩) (bs.length + 1) cap := by
    rcases hown'.2 with ⟨_, h0⟩ | ⟨g, cap, cur, fz, hv, _⟩
    · omega
    · exact ⟨g, cap, hv⟩
  have hneb : Value.ownBlock (.slice (some ⟨g, 0, none⟩) (bs.length + 1) cap) ≠ some b := own_ne hown' hb2 hT.2
  go_wp2
  go_ret
  refine ⟨rfl, _, put_bld hb2, own_put (by simpa using hown') _ hneb, hneb, fun g hg hlt' => hnew g hg (by have := hb1.size; simp; omega), ?_⟩
  exact (((hb1.wide (by simp)).alloc _).grown hgrow (fun k hk => by rw [hk]; simp)).setCell (p := ⟨b, 1, none⟩) (by simp) _
set_option maxHeartbeats 2000000 in
set_option maxRecDepth 100000 in
theorem bld_String_l {T : TypeId} (hT : liesB T) (b g cap : Nat) (p : Value) (l : List UInt8) (w : World) (hb : bldBlk T b p (.slice (some ⟨g, 0, none⟩) l.length cap) w) (h0 : l ≠ []) (cur : Array Value) (fz : Nat × Nat)
    (hown : w.ownsRowF 0 5 1 (.slice (some ⟨g, 0, none⟩) l.length cap) l.length (Lib.byteCells l)) (hg : w.heap[g]? = some (.cells cur 5 fz)) (hnc : l.length ≤ cap) (hcm : cap ≤ maxLen) (hcs : cur.size = cap * 1) (hgb : g ≠ b) :
    Calls Tryd.prog 39 #[.pointer (some ⟨b, 0, none⟩)] w fun e w' => e = .returned (.string ⟨l.toArray⟩) ∧ bldBlk T b p (.slice (some ⟨g, 0, none⟩) l.length cap) w' ∧ w'.ownsRowF 0 5 1 (.slice (some ⟨g, 0, none⟩) l.length cap) l.length (Lib.byteCells l) ∧ Only (b :: (Value.ownBlock (.slice (some ⟨g, 0, none⟩) l.length cap)).toList) w w' := by
  have hl0 : l.length ≠ 0 := by simpa using h0
  have c1 : w.drew.cell? ⟨b, 1, none⟩ = some (.slice (some ⟨g, 0, none⟩) l.length cap) := by
    have : w.drew.heap[b]? = some (.cells #[p, .slice (some ⟨g, 0, none⟩) l.length cap] T (0, 0)) := hb
    rw [Lib.cell_of_heap this]; rfl
  have hSD : (Builtin.unsafeSliceData_ #[61] 92 #[.slice (some ⟨g, 0, none⟩) l.length cap]).run Tryd.prog w.drew = .ok (.pointer (some ⟨g, 0, none⟩)) w.drew :=
    Lib.run_unsafeSliceData_row _ _ _ _ _ _ (by omega)
  have hUS : (Builtin.unsafeString_ #[92, 3] 9 #[.pointer (some ⟨g, 0, none⟩), .int .i64 l.length]).run Tryd.prog w.drew = .ok (.string ⟨l.toArray⟩) (w.drew.freeze ⟨g, 0, none⟩ l.length) := by
    refine Lib.run_unsafeString_row w.drew 92 3 9 5 Tryd.underlying92 (by kernel_rfl) g cur.size (by have hg' : w.drew.heap[g]? = some (.cells cur 5 fz) := hg; simp [World.shape?, hg']) l h0 (by omega) (by unfold maxLen at hcm; omega) ?_
    intro j x hx
    exact hown.cells (g := g) rfl j (.int .u8 x.toNat) (by simp [Lib.byteCells, hx])
  have hb2 : bldBlk T b p (.slice (some ⟨g, 0, none⟩) l.length cap) (w.drew.freeze ⟨g, 0, none⟩ l.length) :=
    (((Only.refl [g] w).drew.freeze (p := ⟨g, 0, none⟩) (by simp) l.length).block b (lt_heap hb) (by simpa using hgb.symm)).trans hb
  have hown2 : (w.drew.freeze ⟨g, 0, none⟩ l.length).ownsRowF 0 5 1 (.slice (some ⟨g, 0, none⟩) l.length cap) l.length (Lib.byteCells l) := own_froze hown
  have mixed : Tryd.prog.follows .mixedOrders = true := by kernel_rfl
  go_enter Tryd.func39, Tryd.ntmps39
  go_wp2
  go_region
  all_goals (go_wp2; go_ret; exact ⟨rfl, hb2, hown2, (Only.refl _ w).drew.freeze (p := ⟨g, 0, none⟩) (by simp [Value.ownBlock]) _⟩)
set_option maxHeartbeats 2000000 in
set_option maxRecDepth 100000 in
theorem bld_String_nil {T : TypeId} (hT : liesB T) (b : Nat) (p : Value) (w : World) (hb : bldBlk T b p (.slice none 0 0) w) (hown : w.ownsRowF 0 5 1 (.slice none 0 0) 0 []) :
    Calls Tryd.prog 39 #[.pointer (some ⟨b, 0, none⟩)] w fun e w' => e = .returned (.string ⟨#[]⟩) ∧ bldBlk T b p (.slice none 0 0) w' ∧ w'.ownsRowF 0 5 1 (.slice none 0 0) 0 [] ∧ Only (b :: (Value.ownBlock (.slice none 0 0)).toList) w w' := by
  have hUS : ∀ (W : World) (q : Option Addr), (Builtin.unsafeString_ #[92, 3] 9 #[.pointer q, .int .i64 0]).run Tryd.prog W = .ok (.string .empty) W := fun W q => Lib.run_unsafeString_none W _ _ _ q
  have c1 : w.drew.cell? ⟨b, 1, none⟩ = some (.slice none 0 0) := by
    have : w.drew.heap[b]? = some (.cells #[p, .slice none 0 0] T (0, 0)) := hb
    rw [Lib.cell_of_heap this]; rfl
  have hSD : (Builtin.unsafeSliceData_ #[61] 92 #[.slice none 0 0]).run Tryd.prog w.drew = .ok (.pointer none) w.drew := rfl
  have mixed : Tryd.prog.follows .mixedOrders = true := by kernel_rfl
  go_enter Tryd.func39, Tryd.ntmps39
  go_wp2
  go_region
  all_goals (go_wp2; go_ret; exact ⟨rfl, hb, hown, (Only.refl _ w).drew⟩)
set_option maxHeartbeats 2000000 in
set_option maxRecDepth 100000 in
theorem bld_String_room {T : TypeId} (hT : liesB T) (b g cap : Nat) (p : Value) (w : World) (hc0 : cap ≠ 0) (hb : bldBlk T b p (.slice (some ⟨g, 0, none⟩) 0 cap) w) (hown : w.ownsRowF 0 5 1 (.slice (some ⟨g, 0, none⟩) 0 cap) 0 []) :
    Calls Tryd.prog 39 #[.pointer (some ⟨b, 0, none⟩)] w fun e w' => e = .returned (.string ⟨#[]⟩) ∧ bldBlk T b p (.slice (some ⟨g, 0, none⟩) 0 cap) w' ∧ w'.ownsRowF 0 5 1 (.slice (some ⟨g, 0, none⟩) 0 cap) 0 [] ∧ Only (b :: (Value.ownBlock (.slice (some ⟨g, 0, none⟩) 0 cap)).toList) w w' := by
  have hUS : ∀ (W : World) (q : Option Addr), (Builtin.unsafeString_ #[92, 3] 9 #[.pointer q, .int .i64 0]).run Tryd.prog W = .ok (.string .empty) W := fun W q => Lib.run_unsafeString_none W _ _ _ q
  have c1 : w.drew.cell? ⟨b, 1, none⟩ = some (.slice (some ⟨g, 0, none⟩) 0 cap) := by
    have : w.drew.heap[b]? = some (.cells #[p, .slice (some ⟨g, 0, none⟩) 0 cap] T (0, 0)) := hb
    rw [Lib.cell_of_heap this]; rfl
  have hSD : (Builtin.unsafeSliceData_ #[61] 92 #[.slice (some ⟨g, 0, none⟩) 0 cap]).run Tryd.prog w.drew = .ok (.pointer (some ⟨g, 0, none⟩)) w.drew :=
    Lib.run_unsafeSliceData_row _ _ _ _ _ _ hc0
  clear hc0
  have mixed : Tryd.prog.follows .mixedOrders = true := by kernel_rfl
  go_enter Tryd.func39, Tryd.ntmps39
  go_wp2
  go_region
  all_goals (go_wp2; go_ret; exact ⟨rfl, hb, hown, (Only.refl _ w).drew⟩)
set_option maxHeartbeats 2000000 in
set_option maxRecDepth 100000 in
theorem bld_String_no {T : TypeId} (hT : liesB T) (b g : Nat) (p : Value) (cur : Array Value) (fz : Nat × Nat) (w : World) (hb : bldBlk T b p (.slice (some ⟨g, 0, none⟩) 0 0) w) (hown : w.ownsRowF 0 5 1 (.slice (some ⟨g, 0, none⟩) 0 0) 0 []) (hg : w.heap[g]? = some (.cells cur 5 fz)) :
    Calls Tryd.prog 39 #[.pointer (some ⟨b, 0, none⟩)] w fun e w' => e = .returned (.string ⟨#[]⟩) ∧ bldBlk T b p (.slice (some ⟨g, 0, none⟩) 0 0) w' ∧ w'.ownsRowF 0 5 1 (.slice (some ⟨g, 0, none⟩) 0 0) 0 [] ∧ Only (b :: (Value.ownBlock (.slice (some ⟨g, 0, none⟩) 0 0)).toList) w w' := by
  have hUS : ∀ (W : World) (q : Option Addr), (Builtin.unsafeString_ #[92, 3] 9 #[.pointer q, .int .i64 0]).run Tryd.prog W = .ok (.string .empty) W := fun W q => Lib.run_unsafeString_none W _ _ _ q
  have hlt : b < w.heap.size := lt_heap hb
  have c1 : w.drew.cell? ⟨b, 1, none⟩ = some (.slice (some ⟨g, 0, none⟩) 0 0) := by
    have : w.drew.heap[b]? = some (.cells #[p, .slice (some ⟨g, 0, none⟩) 0 0] T (0, 0)) := hb
    rw [Lib.cell_of_heap this]; rfl
  have hSD : (Builtin.unsafeSliceData_ #[61] 92 #[.slice (some ⟨g, 0, none⟩) 0 0]).run Tryd.prog w.drew = .ok (.pointer (some ⟨w.drew.heap.size, 0, none⟩)) (w.drew.alloc (.view ⟨g, 0, none⟩ 5)) :=
    Lib.run_unsafeSliceData_zero w.drew _ _ 5 Tryd.underlying92 ⟨g, 0, none⟩ 0 (5, cur.size) (by have hg' : w.drew.heap[g]? = some (.cells cur 5 fz) := hg; simp [World.shape?, hg'])
  have hb2 : bldBlk T b p (.slice (some ⟨g, 0, none⟩) 0 0) (w.drew.alloc (.view ⟨g, 0, none⟩ 5)) := (Lib.alloc_old w.drew _ b hlt).trans hb
  have c2 : (w.drew.alloc (.view ⟨g, 0, none⟩ 5)).cell? ⟨b, 1, none⟩ = some (.slice (some ⟨g, 0, none⟩) 0 0) := by
    have : (w.drew.alloc (.view ⟨g, 0, none⟩ 5)).heap[b]? = some (.cells #[p, .slice (some ⟨g, 0, none⟩) 0 0] T (0, 0)) := hb2
    rw [Lib.cell_of_heap this]; rfl
  have c3 : (w.alloc (.view ⟨g, 0, none⟩ 5)).drew.cell? ⟨b, 1, none⟩ = some (.slice (some ⟨g, 0, none⟩) 0 0) := c2
  have c0 : w.cell? ⟨b, 1, none⟩ = some (.slice (some ⟨g, 0, none⟩) 0 0) := c1
  have hown2 : (w.drew.alloc (.view ⟨g, 0, none⟩ 5)).ownsRowF 0 5 1 (.slice (some ⟨g, 0, none⟩) 0 0) 0 [] :=
    ownsRowF_keep hown fun k hk => by
      obtain rfl : g = k := by simpa [Value.ownBlock] using hk
      exact Lib.alloc_old w.drew _ g (lt_heap hg)
  have mixed : Tryd.prog.follows .mixedOrders = true := by kernel_rfl
  go_enter Tryd.func39, Tryd.ntmps39
  go_wp2
  go_region
  all_goals (go_wp2; go_ret; exact ⟨rfl, hb2, hown2, (Only.refl _ w).drew.alloc _⟩)
/-- what a builder holds is read -/
theorem bld_String {T : TypeId} (hT : liesB T) (b : Nat) (p v : Value) (l : List UInt8) (w : World) (hb : bldBlk T b p v w)
    (hown : w.ownsRowF 0 5 1 v l.length (Lib.byteCells l)) (hne : v.ownBlock ≠ some b) :
    Calls Tryd.prog 39 #[.pointer (some ⟨b, 0, none⟩)] w fun e w' => e = .returned (.string ⟨l.toArray⟩) ∧ bldBlk T b p v w' ∧ w'.ownsRowF 0 5 1 v l.length (Lib.byteCells l) ∧ Only (b :: v.ownBlock.toList) w w' := by
  cases l with
  | nil =>
    rcases hown.2 with ⟨rfl, _⟩ | ⟨g, cap, cur, fz, rfl, hbg, hg, hfz, hnc, hcm, hcs, htake⟩
    · exact bld_String_nil hT b p w hb hown
    · by_cases hc0 : cap = 0
      · subst hc0
        exact bld_String_no hT b g p cur fz w hb hown hg
      · exact bld_String_room hT b g cap p w hc0 hb hown
  | cons x r =>
    rcases hown.2 with ⟨_, hz⟩ | ⟨g, cap, cur, fz, rfl, hbg, hg, hfz, hnc, hcm, hcs, htake⟩
    · simp at hz
    · exact bld_String_l hT b g cap p (x :: r) w hb (by simp) cur fz hown hg hnc hcm hcs (fun e => hne (by simp [Value.ownBlock, e]))
end Go.Vm

/- The methods of a strings.Builder over this program, as contracts of the abstract machine. -/
set_option linter.all false
namespace Go.Vm
open Go.RowKit Go.Proofs
theorem lies_B : liesB 63 := ⟨by kernel_rfl, by decide⟩
variable [Gl]
theorem sound_WriteString {enc : Nat × List UInt8 × List UInt8 → List X} (henc : ∀ a, enc a = [.res (.bld a.1 5) (sD a.2.1), .d (sD a.2.2)]) {C : Nat × List UInt8 × List UInt8 → Option XOut} (hC : ∀ a out, C a = some out → (liesB a.1 ∧ a.2.1.length + a.2.2.length ≤ 140737488355328) ∧ out = .ret (.tup [.d (.int .i64 a.2.2.length), .d .nili]) [[sD (a.2.1 ++ a.2.2)]]) :
    Sound Tryd.prog 49 (lay enc C) := by
  intro S w args xs bs hx hb out ho
  obtain ⟨⟨T, l, s⟩, rfl, ho2⟩ := lay_some ho
  rw [henc] at hx ⊢
  obtain ⟨⟨hT, hlen⟩, rfl⟩ := hC _ _ ho2
  refine ⟨callFunc_run Tryd.func49 (by kernel_rfl) (by kernel_rfl) args w, ?_⟩
  obtain ⟨b, p, v, us, e1, h2, hp, hbk, hown, hne, rfl, hS⟩ := bld_in hx (by intro x hx; simp only [List.mem_singleton] at hx; exact ⟨_, hx⟩)
  obtain ⟨s0, _, _, _, rfl, _, ⟨_, hs⟩, rfl, _⟩ := h2
  simp only [sD, RD] at hs
  subst hs
  obtain rfl : args = #[.pointer (some ⟨b, 0, none⟩), .string ⟨s.toArray⟩] := by cases args; simp_all
  have hl : (Lib.byteCells l).length = l.length := by simp [Lib.byteCells]
  have hsz : (⟨s.toArray⟩ : ByteArray).size = s.length := by simp [ByteArray.size]
  have hsc : Lib.byteCells l ++ Lib.strCells ⟨s.toArray⟩ = Lib.byteCells (l ++ s) := by simp [Lib.byteCells, Lib.strCells]
  refine (bld_WriteString hT b p v (Lib.byteCells l) ⟨s.toArray⟩ w hp hbk (by rw [hl]; exact hown) hne (by rw [hl, hsz]; exact hlen)).mono ?_
  rintro e w' ⟨rfl, v', q1, q2, q3, q4, q5⟩
  rw [hsc] at q2
  refine bld_out hbk hS (fun S' => ⟨_, rfl, _, _, [], [], rfl, rfl, ⟨rfl, by simp only [RD, hsz]⟩, _, _, [], [], rfl, rfl, ⟨rfl, by simp only [RD]⟩, rfl, rfl⟩) (fun ls => ?_) (.inr rfl) q1 (by simpa [Lib.byteCells] using q2) q3 q4 q5
  simp only [ParOK]
  intro vs hv
  injection hv with hv
  subst hv
  simp only [ParOKs, ParOK, and_self]
theorem sound_WriteByte {enc : Nat × List UInt8 × Int → List X} (henc : ∀ a, enc a = [.res (.bld a.1 5) (sD a.2.1), .d (.int .u8 a.2.2)]) {C : Nat × List UInt8 × Int → Option XOut} (hC : ∀ a out, C a = some out → (liesB a.1 ∧ a.2.1.length + 1 ≤ 140737488355328 ∧ 0 ≤ a.2.2 ∧ a.2.2 < 256) ∧ out = .ret (.d .nili) [[sD (a.2.1 ++ [UInt8.ofNat a.2.2.toNat])]]) :
    Sound Tryd.prog 48 (lay enc C) := by
  intro S w args xs bs hx hb out ho
  obtain ⟨⟨T, l, c⟩, rfl, ho2⟩ := lay_some ho
  rw [henc] at hx ⊢
  obtain ⟨⟨hT, hlen, hc0, hc1⟩, rfl⟩ := hC _ _ ho2
  refine ⟨callFunc_run Tryd.func48 (by kernel_rfl) (by kernel_rfl) args w, ?_⟩
  replace hc0 : 0 ≤ c := hc0
  replace hc1 : c < 256 := hc1
  replace hlen : l.length + 1 ≤ 140737488355328 := hlen
  obtain ⟨b, p, v, us, e1, h2, hp, hbk, hown, hne, rfl, hS⟩ := bld_in hx (by intro x hx; simp only [List.mem_singleton] at hx; exact ⟨_, hx⟩)
  obtain ⟨s0, _, _, _, rfl, _, ⟨_, hs⟩, rfl, _⟩ := h2
  simp only [RD] at hs
  subst hs
  obtain rfl : args = #[.pointer (some ⟨b, 0, none⟩), .int .u8 c] := by cases args; simp_all
  have hl : (Lib.byteCells l).length = l.length := by simp [Lib.byteCells]
  have hsc : Lib.byteCells l ++ [Value.int .u8 c] = Lib.byteCells (l ++ [UInt8.ofNat c.toNat]) := by
    have : ((UInt8.ofNat c.toNat).toNat : Int) = c := by rw [UInt8.toNat_ofNat']; omega
    simp only [Lib.byteCells, List.map_append, List.map_cons, List.map_nil, this]
  refine (bld_WriteByte hT b p v (Lib.byteCells l) c w hp hbk (by rw [hl]; exact hown) hne (by rw [hl]; exact hlen)).mono ?_
  rintro e w' ⟨rfl, v', q1, q2, q3, q4, q5⟩
  rw [hsc] at q2
  exact bld_out hbk hS (fun S' => ⟨rfl, by simp only [RD]⟩) (fun ls => by simp only [ParOK]) (.inr rfl) q1 (by simpa [Lib.byteCells] using q2) q3 q4 q5
theorem sound_String {enc : Nat × List UInt8 → List X} (henc : ∀ a, enc a = [.res (.bld a.1 5) (sD a.2)]) {C : Nat × List UInt8 → Option XOut} (hC : ∀ a out, C a = some out → (liesB a.1) ∧ out = .ret (.d (sD a.2)) [[sD a.2]]) :
    Sound Tryd.prog 39 (lay enc C) := by
  intro S w args xs bs hx hb out ho
  obtain ⟨⟨T, l⟩, rfl, ho2⟩ := lay_some ho
  rw [henc] at hx ⊢
  obtain ⟨hT, rfl⟩ := hC _ _ ho2
  refine ⟨callFunc_run Tryd.func39 (by kernel_rfl) (by kernel_rfl) args w, ?_⟩
  obtain ⟨b, p, v, us, e1, h2, hp, hbk, hown, hne, rfl, hS⟩ := bld_in hx (by simp)
  obtain ⟨rfl, _⟩ := h2
  obtain rfl : args = #[.pointer (some ⟨b, 0, none⟩)] := by cases args; simp_all
  refine (bld_String hT b p v l w hbk hown hne).mono ?_
  rintro e w' ⟨rfl, q1, q2, q5⟩
  exact bld_out hbk hS (fun S' => ⟨rfl, by simp only [sD, RD]⟩) (fun ls => by simp only [ParOK]) hp q1 q2 hne (fun g h _ => h) q5
end Go.Vm

/- strconv.Itoa over this program, as a contract of the abstract machine. The laying was printed by the kit's lay-shelf.mjs and lay-plain.mjs. -/
set_option linter.all false
set_option maxRecDepth 100000
namespace Go.Vm
open Go.RowKit Go.Proofs Go.Shelf
def ito_ren : Go.Shelf.Ren := ⟨fun | 171 => 37 | 243 => 55 | 246 => 58 | 283 => 61 | 284 => 62 | 285 => 63 | 286 => 64 | 129 => 67 | 317 => 66 | 318 => 68 | 319 => 69 | 320 => 70 | 337 => 71 | 338 => 72 | n => n, fun | 3 => 3 | 9 => 9 | 2 => 2 | 4 => 4 | 171 => 97 | 0 => 0 | 53 => 98 | 37 => 61 | 5 => 5 | 173 => 101 | 212 => 105 | 51 => 106 | 20 => 20 | 213 => 107 | 46 => 108 | 232 => 111 | 233 => 112 | n => n, fun | 17 => 0 | 18 => 2 | 19 => 3 | n => n⟩
theorem ito_lays : Go.Proofs.LaysM.n171 Tryd.prog ito_ren := {
  mixed := by kernel_rfl
  f129 := Tryd.func67.trans (congrArg some (by kernel_rfl))
  f171 := Tryd.func37.trans (congrArg some (by kernel_rfl))
  f243 := Tryd.func55.trans (congrArg some (by kernel_rfl))
  f246 := Tryd.func58.trans (congrArg some (by kernel_rfl))
  f283 := Tryd.func61.trans (congrArg some (by kernel_rfl))
  f284 := Tryd.func62.trans (congrArg some (by kernel_rfl))
  f285 := Tryd.func63.trans (congrArg some (by kernel_rfl))
  f286 := Tryd.func64.trans (congrArg some (by kernel_rfl))
  f317 := Tryd.func66.trans (congrArg some (by kernel_rfl))
  f318 := Tryd.func68.trans (congrArg some (by kernel_rfl))
  f319 := Tryd.func69.trans (congrArg some (by kernel_rfl))
  f320 := Tryd.func70.trans (congrArg some (by kernel_rfl))
  f337 := Tryd.func71.trans (congrArg some (by kernel_rfl))
  f338 := Tryd.func72.trans (congrArg some (by kernel_rfl))
  t0 := Tryd.underlying0
  a0 := Tryd.isAgg0
  z0 := Tryd.sizeOf0
  v0 := Tryd.zeroValue0
  t2 := Tryd.underlying2
  a2 := Tryd.isAgg2
  z2 := Tryd.sizeOf2
  v2 := Tryd.zeroValue2
  t3 := Tryd.underlying3
  a3 := Tryd.isAgg3
  z3 := Tryd.sizeOf3
  v3 := Tryd.zeroValue3
  t4 := Tryd.underlying4
  a4 := Tryd.isAgg4
  z4 := Tryd.sizeOf4
  v4 := Tryd.zeroValue4
  t5 := Tryd.underlying5
  a5 := Tryd.isAgg5
  z5 := Tryd.sizeOf5
  v5 := Tryd.zeroValue5
  t9 := Tryd.underlying9
  a9 := Tryd.isAgg9
  z9 := Tryd.sizeOf9
  v9 := Tryd.zeroValue9
  t20 := Tryd.underlying20
  a20 := Tryd.isAgg20
  z20 := Tryd.sizeOf20
  v20 := Tryd.zeroValue20
  t37 := Tryd.underlying61
  a37 := Tryd.isAgg61
  z37 := Tryd.sizeOf61
  v37 := Tryd.zeroValue61
  t46 := Tryd.underlying108
  a46 := Tryd.isAgg108
  z46 := Tryd.sizeOf108
  v46 := Tryd.zeroValue108
  t51 := Tryd.underlying106
  a51 := Tryd.isAgg106
  z51 := Tryd.sizeOf106
  v51 := Tryd.zeroValue106
  t53 := Tryd.underlying98
  a53 := Tryd.isAgg98
  z53 := Tryd.sizeOf98
  v53 := Tryd.zeroValue98
  t171 := Tryd.underlying97
  a171 := Tryd.isAgg97
  z171 := Tryd.sizeOf97
  v171 := Tryd.zeroValue97
  t173 := Tryd.underlying101
  a173 := Tryd.isAgg101
  z173 := Tryd.sizeOf101
  v173 := Tryd.zeroValue101
  t212 := Tryd.underlying105
  a212 := Tryd.isAgg105
  z212 := Tryd.sizeOf105
  v212 := Tryd.zeroValue105
  t213 := Tryd.underlying107
  a213 := Tryd.isAgg107
  z213 := Tryd.sizeOf107
  t232 := Tryd.underlying111
  a232 := Tryd.isAgg111
  z232 := Tryd.sizeOf111
  v232 := Tryd.zeroValue111
  t233 := Tryd.underlying112
  a233 := Tryd.isAgg112
  z233 := Tryd.sizeOf112
  v233 := Tryd.zeroValue112
  g17 := by kernel_rfl
  g18 := by kernel_rfl
  g19 := by kernel_rfl
  i0 := by kernel_rfl
  i2 := by kernel_rfl
  i3 := by kernel_rfl
  i4 := by kernel_rfl
  i5 := by kernel_rfl
  i9 := by kernel_rfl
  i20 := by kernel_rfl
  i37 := by kernel_rfl
  i46 := by kernel_rfl
  i51 := by kernel_rfl
  i53 := by kernel_rfl
  i171 := by kernel_rfl
  i173 := by kernel_rfl
  i212 := by kernel_rfl
  i232 := by kernel_rfl
  i233 := by kernel_rfl
  m17 := by kernel_rfl
  m18 := by kernel_rfl
  m19 := by kernel_rfl }
/-- the table of powers of ten stands as it was laid -/
class GlTab [Gl] : Prop where
  tab : ∀ w : World, (∀ b, b < Gl.G → w.heap[b]? = Gl.g b) → Lib.TabIs Tryd.prog w "internal/strconv.uint64pow10" .u64 Lib.pow10Tab
theorem sound_Itoa [Gl] [GlTab] {enc : Int → List X} (henc : ∀ a, enc a = [.d (.int .i64 a)]) {C : Int → Option XOut}
    (hC : ∀ a out, C a = some out → (-9223372036854775808 ≤ a ∧ a ≤ 9223372036854775807) ∧ out = .ret (.d (sD (Lib.itoa a))) []) : Sound Tryd.prog 37 (lay enc C) := by
  have h := sound_shelf (P := Tryd.prog) (f := 37) (enc := enc) (C := fun a => if -9223372036854775808 ≤ a ∧ a ≤ 9223372036854775807 then some (.d (sD (Lib.itoa a))) else none)
    (fun a x hx => by rw [henc] at hx; simp only [List.mem_singleton] at hx; exact ⟨_, hx⟩) (callFunc_run Tryd.func37 (by kernel_rfl) (by kernel_rfl)) (by
    intro a x S w args hx hb hG
    split at hx
    case isFalse => cases hx
    rename_i ha
    injection hx with hx
    subst hx
    obtain ⟨bs, hb⟩ := hb
    rw [henc] at hb
    obtain ⟨v, us, _, _, e1, _, ⟨_, hv⟩, e2, _⟩ := hb
    simp only [RD] at hv
    subst hv; subst e2
    obtain rfl : args = #[.int .i64 a] := by cases args; simp_all
    refine (Any.strconv_Itoa ito_lays a ha.1 ha.2 w (GlTab.tab w hG)).mono ?_
    rintro e w' ⟨he, k, os, rfl⟩
    exact made_str he (Lib.below_grow _ _ (Nat.le_refl _) _ _))
  intro S w args xs bs hx hb out ho
  refine h S w args xs bs hx hb out ?_
  obtain ⟨a, rfl, ho2⟩ := lay_some ho
  obtain ⟨ha, rfl⟩ := hC _ _ ho2
  have inj : ∀ x y, enc x = enc y → x = y := by
    intro x y e
    rw [henc, henc] at e
    simpa using e
  rw [lay_eq inj a, if_pos ha]; rfl
end Go.Vm

