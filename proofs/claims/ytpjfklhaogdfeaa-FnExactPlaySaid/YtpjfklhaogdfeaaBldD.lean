/- The methods of a strings.Builder over this program, with the frame that a call is asked for: all but the builder's own blocks stands. -/
import Derived.Test.YtpjfklhaogdfeaaVmBld
import Derived.Test.YtpjfklhaogdfeaaVmShelf
import Derived.Test.YtpjfklhaogdfeaaProg
import Derived.WalkKit
import Derived.ProofKit
import Derived.Lib.Builder
set_option linter.all false
namespace Go.Vm
open Go.RowKit Go.Proofs
def nW (T:TypeId):Prop:=liesAt Try.prog Try.prog.depth T (2 / Try.prog.cellsOf T) 0 156 1=true∧T ≠ 5
set_option maxHeartbeats 1000000 in
set_option maxRecDepth 100000 in
theorem NM (b:Nat) (w:World) (h0:w.cell? ⟨b,0,none⟩=some (.pointer (some ⟨b,0,none⟩))):
  Calls Try.prog 137 #[.pointer (some ⟨b,0,none⟩)] w fun e w'=>e= .returned (.tuple #[])∧w'=w:=by
 obtain ⟨j,hj,_⟩:=Option.map_eq_some_iff.1 (show (Try.prog.info? 156).map (·.size)=some 2 by kernel_rfl)
 go_enter Try.func137,Try.ntmps137
 go_wp2
 rw [Lib.run_neq_ptr_same w _ Try.underlying153 hj]
 go_wp2
 go_end0
 exact ⟨rfl,rfl⟩
set_option maxHeartbeats 1000000 in
set_option maxRecDepth 100000 in
theorem Sg {T:TypeId} (hT:nW T) (b:Nat) (w:World) (h0:w.cell? ⟨b,0,none⟩=some (.pointer none)) (hsh:w.shape? b=some (T,2)) (hfz:w.frozen? ⟨b,0,none⟩=false):
  Calls Try.prog 137 #[.pointer (some ⟨b,0,none⟩)] w fun e w'=>e= .returned (.tuple #[])∧w'=w.setCell ⟨b,0,none⟩ (.pointer (some ⟨b,0,none⟩)):=by
 obtain ⟨j,hj,hjs⟩:=Option.map_eq_some_iff.1 (show (Try.prog.info? 156).map (·.size)=some 2 by kernel_rfl)
 go_enter Try.func137,Try.ntmps137
 go_wp2
 rw [Lib.run_to_unsafe w ⟨b,0,none⟩ Try.underlying153 Try.underlying195 hj (by rw [hjs]; decide) hsh (Nat.zero_lt_succ 1)]
 simp only [Result.andThen]
 rw [Oper.upon_value]
 go_wp2
 rw [run_callFunc_extern Try.func169 (by kernel_rfl) (by kernel_rfl) (by kernel_rfl) (e:=Extern.AbiNoEscape.same) (by kernel_rfl)]
 rw [Lib.run_noEscape]
 simp only [Result.andThen]
 rw [Oper.upon_value]
 go_wp2
 rw [Lib.run_from_unsafe w ⟨b,0,none⟩ Try.underlying195 Try.underlying153 hj hsh hT.1]
 simp only [Result.andThen]
 rw [Oper.upon_value]
 go_wp2
 go_end0
 exact ⟨rfl,rfl⟩
theorem bf {T:TypeId} (hT:nW T) (b:Nat) (p v:Value) (w:World) (hp:p= .pointer none ∨ p= .pointer (some ⟨b,0,none⟩)) (hb:xi T b p v w):
  Calls Try.prog 137 #[.pointer (some ⟨b,0,none⟩)] w fun e w'=>e= .returned (.tuple #[])∧xi T b (.pointer (some ⟨b,0,none⟩)) v w'∧Only [b] w w':=by
 have c0:w.cell? ⟨b,0,none⟩=some p:=by rw [Lib.cell_of_heap hb]; rfl
 rcases hp with rfl | rfl
 ·refine (Sg hT b w c0 (by simp only [xi] at hb; simp [World.shape?,hb]) (Lib.frozen_of_heap hb 0)).mono ?_
  rintro e w' ⟨rfl,rfl⟩
  refine ⟨rfl,?_,(Only.refl _ w).setCell (p:=⟨b,0,none⟩) (by simp) _⟩
  have hb':w.heap[b]? =some (.cells #[.pointer none,v] T (0,0)):=hb
  simp [xi,World.setCell,Array.getElem?_modify,hb']
 ·refine (NM b w c0).mono ?_
  rintro e w' ⟨rfl,rfl⟩
  exact ⟨rfl,hb,Only.refl _ _⟩
set_option maxHeartbeats 2000000 in
set_option maxRecDepth 100000 in
theorem ez {T:TypeId} (hT:nW T) (b:Nat) (p v:Value) (bs:List Value) (s:ByteArray) (w:World) (hp:p= .pointer none ∨ p= .pointer (some ⟨b,0,none⟩)) (hb:xi T b p v w)
  (hown:w.ownsRowF 0 5 1 v bs.length bs) (hne:v.ownBlock ≠ some b) (hlen:bs.length+s.size ≤ 140737488355328):
  Calls Try.prog 103 #[.pointer (some ⟨b,0,none⟩),.string s] w fun e w'=>e= .returned (.tuple #[.int .i64 s.size,.nilIface])∧∃ v',xi T b (.pointer (some ⟨b,0,none⟩)) v' w'∧
   w'.ownsRowF 0 5 1 v' (bs++Lib.strCells s).length (bs++Lib.strCells s)∧v'.ownBlock ≠ some b∧(∀ g,v'.ownBlock=some g→g < w.heap.size→v.ownBlock=some g)∧Only (b :: v.ownBlock.toList) w w':=by
 obtain ⟨i0,hi,hz0,hz1,hz2⟩:=info_parts (show (Try.prog.info? 5).map (fun i=>(i.zero,i.size,i.bytes))=some (some (.int .u8 0),1,1) by kernel_rfl)
 have mixed:Try.prog.follows .mixedOrders=true:=by kernel_rfl
 go_enter Try.func103,Try.ntmps103
 go_wp2_with (go_at_call 137; refine (bf hT b p v _ hp hb).mono ?_)
 rintro e w1 ⟨rfl,hbk,hb1⟩
 have hbk':w1.heap[b]? =some (.cells #[.pointer (some ⟨b,0,none⟩),v] T (0,0)):=hbk
 have hown1:w1.ownsRowF 0 5 1 v bs.length bs:=rk hown fun g hg=>hb1.block g (hown.lt g hg).2 (by simp only [List.mem_singleton]; rintro rfl; exact hne hg)
 have c0:w1.cell? ⟨b,0,none⟩=some (.pointer (some ⟨b,0,none⟩)):=by rw [Lib.cell_of_heap hbk']; rfl
 have c1:w1.cell? ⟨b,1,none⟩=some v:=by rw [Lib.cell_of_heap hbk']; rfl
 go_wp2_with (at_builtin; refine fk rfl _ _ 154 9 rfl 5 i0 Try.underlying154 Try.underlying9 hi hz0 hz1 hz2 _ _ _ rfl hown1 s rfl ?c3 ?c4 ?_)
 case c3=>unfold maxLen; omega
 case c4=>omega
 intro v' w2 hown' hgrow hnew
 have hlt:b < w1.heap.size:=v7 hbk'
 have hb2:w2.heap[b]? =some (.cells #[.pointer (some ⟨b,0,none⟩),v] T (0,0)):=by
  rw [hgrow.block b hlt (fun e=>hne e.symm)]
  exact hbk'
 have d0:w2.cell? ⟨b,0,none⟩=some (.pointer (some ⟨b,0,none⟩)):=by rw [Lib.cell_of_heap hb2]; rfl
 have d1:w2.cell? ⟨b,1,none⟩=some v:=by rw [Lib.cell_of_heap hb2]; rfl
 have f1:w2.frozen? ⟨b,1,none⟩=false:=Lib.frozen_of_heap hb2 1
 obtain ⟨ao,n',cap,rfl⟩:∃ ao n' cap,v'= .slice ao n' cap:=by
  rcases hown'.2 with ⟨hv,_⟩ | ⟨g,cap,cur,fz,hv,_⟩
  ·exact ⟨_,_,_,hv⟩
  ·exact ⟨_,_,_,hv⟩
 have hneb:Value.ownBlock (.slice ao n' cap) ≠ some b:=MQ hown' hb2 hT.2
 go_wp2
 go_ret2
 refine ⟨rfl,_,Nd hb2,Oo (by simpa [Lib.strCells_length] using hown') _ hneb,hneb,fun g hg hlt'=>hnew g hg (Nat.lt_of_lt_of_le hlt' hb1.size),?_⟩
 exact ((hb1.wide (by simp)).grown hgrow (fun k hk=>by rw [hk]; simp)).setCell (p:=⟨b,1,none⟩) (by simp) _
set_option maxHeartbeats 2000000 in
set_option maxRecDepth 100000 in
theorem Zw {T:TypeId} (hT:nW T) (b g cap:Nat) (p:Value) (l:List UInt8) (w:World) (hb:xi T b p (.slice (some ⟨g,0,none⟩) l.length cap) w) (h0:l ≠ []) (cur:Array Value) (fz:Nat×Nat)
  (hown:w.ownsRowF 0 5 1 (.slice (some ⟨g,0,none⟩) l.length cap) l.length (Lib.byteCells l)) (hg:w.heap[g]? =some (.cells cur 5 fz)) (hnc:l.length ≤ cap) (hcm:cap ≤ maxLen) (hcs:cur.size=cap * 1) (hgb:g ≠ b):
  Calls Try.prog 110 #[.pointer (some ⟨b,0,none⟩)] w fun e w'=>e= .returned (.string ⟨l.toArray⟩)∧xi T b p (.slice (some ⟨g,0,none⟩) l.length cap) w'∧w'.ownsRowF 0 5 1 (.slice (some ⟨g,0,none⟩) l.length cap) l.length (Lib.byteCells l)∧Only (b :: (Value.ownBlock (.slice (some ⟨g,0,none⟩) l.length cap)).toList) w w':=by
 have hl0:l.length ≠ 0:=by simpa using h0
 have c1:w.drew.cell? ⟨b,1,none⟩=some (.slice (some ⟨g,0,none⟩) l.length cap):=by
  have:w.drew.heap[b]? =some (.cells #[p,.slice (some ⟨g,0,none⟩) l.length cap] T (0,0)):=hb
  rw [Lib.cell_of_heap this]; rfl
 have hSD:(Builtin.unsafeSliceData_ #[154] 207 #[.slice (some ⟨g,0,none⟩) l.length cap]).run Try.prog w.drew= .ok (.pointer (some ⟨g,0,none⟩)) w.drew:=
  Lib.run_unsafeSliceData_row _ _ _ _ _ _ (by omega)
 have hUS:(Builtin.unsafeString_ #[207,3] 9 #[.pointer (some ⟨g,0,none⟩),.int .i64 l.length]).run Try.prog w.drew= .ok (.string ⟨l.toArray⟩) (w.drew.freeze ⟨g,0,none⟩ l.length):=by
  refine Lib.run_unsafeString_row w.drew 207 3 9 5 Try.underlying207 (by kernel_rfl) g cur.size (by have hg':w.drew.heap[g]? =some (.cells cur 5 fz):=hg; simp [World.shape?,hg']) l h0 (by omega) (by unfold maxLen at hcm; omega) ?_
  intro j x hx
  exact hown.cells (g:=g) rfl j (.int .u8 x.toNat) (by simp [Lib.byteCells,hx])
 have hb2:xi T b p (.slice (some ⟨g,0,none⟩) l.length cap) (w.drew.freeze ⟨g,0,none⟩ l.length):=
  (((Only.refl [g] w).drew.freeze (p:=⟨g,0,none⟩) (by simp) l.length).block b (v7 hb) (by simpa using hgb.symm)).trans hb
 have hown2:(w.drew.freeze ⟨g,0,none⟩ l.length).ownsRowF 0 5 1 (.slice (some ⟨g,0,none⟩) l.length cap) l.length (Lib.byteCells l):=UG hown
 have mixed:Try.prog.follows .mixedOrders=true:=by kernel_rfl
 go_enter Try.func110,Try.ntmps110
 go_wp2
 go_region
 all_goals (go_wp2; go_ret; exact ⟨rfl,hb2,hown2,(Only.refl _ w).drew.freeze (p:=⟨g,0,none⟩) (by simp [Value.ownBlock]) _⟩)
set_option maxHeartbeats 2000000 in
set_option maxRecDepth 100000 in
theorem dv {T:TypeId} (hT:nW T) (b:Nat) (p:Value) (w:World) (hb:xi T b p (.slice none 0 0) w) (hown:w.ownsRowF 0 5 1 (.slice none 0 0) 0 []):
  Calls Try.prog 110 #[.pointer (some ⟨b,0,none⟩)] w fun e w'=>e= .returned (.string ⟨#[]⟩)∧xi T b p (.slice none 0 0) w'∧w'.ownsRowF 0 5 1 (.slice none 0 0) 0 []∧Only (b :: (Value.ownBlock (.slice none 0 0)).toList) w w':=by
 have hUS:∀ (W:World) (q:Option Addr),(Builtin.unsafeString_ #[207,3] 9 #[.pointer q,.int .i64 0]).run Try.prog W= .ok (.string .empty) W:=fun W q=>Lib.run_unsafeString_none W _ _ _ q
 have c1:w.drew.cell? ⟨b,1,none⟩=some (.slice none 0 0):=by
  have:w.drew.heap[b]? =some (.cells #[p,.slice none 0 0] T (0,0)):=hb
  rw [Lib.cell_of_heap this]; rfl
 have hSD:(Builtin.unsafeSliceData_ #[154] 207 #[.slice none 0 0]).run Try.prog w.drew= .ok (.pointer none) w.drew:=rfl
 have mixed:Try.prog.follows .mixedOrders=true:=by kernel_rfl
 go_enter Try.func110,Try.ntmps110
 go_wp2
 go_region
 all_goals (go_wp2; go_ret; exact ⟨rfl,hb,hown,(Only.refl _ w).drew⟩)
set_option maxHeartbeats 2000000 in
set_option maxRecDepth 100000 in
theorem en {T:TypeId} (hT:nW T) (b g cap:Nat) (p:Value) (w:World) (hc0:cap ≠ 0) (hb:xi T b p (.slice (some ⟨g,0,none⟩) 0 cap) w) (hown:w.ownsRowF 0 5 1 (.slice (some ⟨g,0,none⟩) 0 cap) 0 []):
  Calls Try.prog 110 #[.pointer (some ⟨b,0,none⟩)] w fun e w'=>e= .returned (.string ⟨#[]⟩)∧xi T b p (.slice (some ⟨g,0,none⟩) 0 cap) w'∧w'.ownsRowF 0 5 1 (.slice (some ⟨g,0,none⟩) 0 cap) 0 []∧Only (b :: (Value.ownBlock (.slice (some ⟨g,0,none⟩) 0 cap)).toList) w w':=by
 have hUS:∀ (W:World) (q:Option Addr),(Builtin.unsafeString_ #[207,3] 9 #[.pointer q,.int .i64 0]).run Try.prog W= .ok (.string .empty) W:=fun W q=>Lib.run_unsafeString_none W _ _ _ q
 have c1:w.drew.cell? ⟨b,1,none⟩=some (.slice (some ⟨g,0,none⟩) 0 cap):=by
  have:w.drew.heap[b]? =some (.cells #[p,.slice (some ⟨g,0,none⟩) 0 cap] T (0,0)):=hb
  rw [Lib.cell_of_heap this]; rfl
 have hSD:(Builtin.unsafeSliceData_ #[154] 207 #[.slice (some ⟨g,0,none⟩) 0 cap]).run Try.prog w.drew= .ok (.pointer (some ⟨g,0,none⟩)) w.drew:=
  Lib.run_unsafeSliceData_row _ _ _ _ _ _ hc0
 clear hc0
 have mixed:Try.prog.follows .mixedOrders=true:=by kernel_rfl
 go_enter Try.func110,Try.ntmps110
 go_wp2
 go_region
 all_goals (go_wp2; go_ret; exact ⟨rfl,hb,hown,(Only.refl _ w).drew⟩)
set_option maxHeartbeats 2000000 in
set_option maxRecDepth 100000 in
theorem bL {T:TypeId} (hT:nW T) (b g:Nat) (p:Value) (cur:Array Value) (fz:Nat×Nat) (w:World) (hb:xi T b p (.slice (some ⟨g,0,none⟩) 0 0) w) (hown:w.ownsRowF 0 5 1 (.slice (some ⟨g,0,none⟩) 0 0) 0 []) (hg:w.heap[g]? =some (.cells cur 5 fz)):
  Calls Try.prog 110 #[.pointer (some ⟨b,0,none⟩)] w fun e w'=>e= .returned (.string ⟨#[]⟩)∧xi T b p (.slice (some ⟨g,0,none⟩) 0 0) w'∧w'.ownsRowF 0 5 1 (.slice (some ⟨g,0,none⟩) 0 0) 0 []∧Only (b :: (Value.ownBlock (.slice (some ⟨g,0,none⟩) 0 0)).toList) w w':=by
 have hUS:∀ (W:World) (q:Option Addr),(Builtin.unsafeString_ #[207,3] 9 #[.pointer q,.int .i64 0]).run Try.prog W= .ok (.string .empty) W:=fun W q=>Lib.run_unsafeString_none W _ _ _ q
 have hlt:b < w.heap.size:=v7 hb
 have c1:w.drew.cell? ⟨b,1,none⟩=some (.slice (some ⟨g,0,none⟩) 0 0):=by
  have:w.drew.heap[b]? =some (.cells #[p,.slice (some ⟨g,0,none⟩) 0 0] T (0,0)):=hb
  rw [Lib.cell_of_heap this]; rfl
 have hSD:(Builtin.unsafeSliceData_ #[154] 207 #[.slice (some ⟨g,0,none⟩) 0 0]).run Try.prog w.drew= .ok (.pointer (some ⟨w.drew.heap.size,0,none⟩)) (w.drew.alloc (.view ⟨g,0,none⟩ 5)):=
  Lib.run_unsafeSliceData_zero w.drew _ _ 5 Try.underlying207 ⟨g,0,none⟩ 0 (5,cur.size) (by have hg':w.drew.heap[g]? =some (.cells cur 5 fz):=hg; simp [World.shape?,hg'])
 have hb2:xi T b p (.slice (some ⟨g,0,none⟩) 0 0) (w.drew.alloc (.view ⟨g,0,none⟩ 5)):=(Lib.alloc_old w.drew _ b hlt).trans hb
 have c2:(w.drew.alloc (.view ⟨g,0,none⟩ 5)).cell? ⟨b,1,none⟩=some (.slice (some ⟨g,0,none⟩) 0 0):=by
  have:(w.drew.alloc (.view ⟨g,0,none⟩ 5)).heap[b]? =some (.cells #[p,.slice (some ⟨g,0,none⟩) 0 0] T (0,0)):=hb2
  rw [Lib.cell_of_heap this]; rfl
 have c3:(w.alloc (.view ⟨g,0,none⟩ 5)).drew.cell? ⟨b,1,none⟩=some (.slice (some ⟨g,0,none⟩) 0 0):=c2
 have c0:w.cell? ⟨b,1,none⟩=some (.slice (some ⟨g,0,none⟩) 0 0):=c1
 have hown2:(w.drew.alloc (.view ⟨g,0,none⟩ 5)).ownsRowF 0 5 1 (.slice (some ⟨g,0,none⟩) 0 0) 0 []:=
  rk hown fun k hk=>by
   obtain rfl:g=k:=by simpa [Value.ownBlock] using hk
   exact Lib.alloc_old w.drew _ g (v7 hg)
 have mixed:Try.prog.follows .mixedOrders=true:=by kernel_rfl
 go_enter Try.func110,Try.ntmps110
 go_wp2
 go_region
 all_goals (go_wp2; go_ret; exact ⟨rfl,hb2,hown2,(Only.refl _ w).drew.alloc _⟩)
theorem Ww {T:TypeId} (hT:nW T) (b:Nat) (p v:Value) (l:List UInt8) (w:World) (hb:xi T b p v w)
  (hown:w.ownsRowF 0 5 1 v l.length (Lib.byteCells l)) (hne:v.ownBlock ≠ some b):
  Calls Try.prog 110 #[.pointer (some ⟨b,0,none⟩)] w fun e w'=>e= .returned (.string ⟨l.toArray⟩)∧xi T b p v w'∧w'.ownsRowF 0 5 1 v l.length (Lib.byteCells l)∧Only (b :: v.ownBlock.toList) w w':=by
 cases l with
 | nil=>
   rcases hown.2 with ⟨rfl,_⟩ | ⟨g,cap,cur,fz,rfl,hbg,hg,hfz,hnc,hcm,hcs,htake⟩
   ·exact dv hT b p w hb hown
   ·by_cases hc0:cap=0
    ·subst hc0
     exact bL hT b g p cur fz w hb hown hg
    ·exact en hT b g cap p w hc0 hb hown
 | cons x r=>
   rcases hown.2 with ⟨_,hz⟩ | ⟨g,cap,cur,fz,rfl,hbg,hg,hfz,hnc,hcm,hcs,htake⟩
   ·simp at hz
   ·exact Zw hT b g cap p (x :: r) w hb (by simp) cur fz hown hg hnc hcm hcs (fun e=>hne (by simp [Value.ownBlock,e]))
end Go.Vm
