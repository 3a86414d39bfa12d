import Derived.Test.YtpjfklhaogdfeaaGreatDoorProg
import Derived.WalkKit
import Derived.LaidEql
import Derived.Stop.Asserts
import Derived.RowKitTokens
import Derived.KernelRfl
import Derived.Laws.ResultCell
import Derived.Test.YtpjfklhaogdfeaaGreatDoorStoV
import Derived.Test.YtpjfklhaogdfeaaGreatDoorStoF
import Derived.Deep.RegionWith
set_option linter.all false
set_option maxRecDepth 100000
namespace Go.Vm
open Go.Proofs Go.RowKit Go.Extern.Stop Go.Stop Go.Extern
theorem Mz (t:Value) (w:World):Calls Tryz.prog 21 #[.nilIface,t] w fun e w'=>e= .returned (.bool false)∧w'=w:=by
 go_enter Tryz.func21,Tryz.ntmps21
 go_wp2
 go_ret
 exact ⟨rfl,rfl⟩
theorem aw (t:Addr) (w:World):(ReflectliteValue.unpack (.iface 52 (.pointer (some t)))).run Tryz.prog w
  = .ok (.agg #[.pointer (some ⟨1,52,none⟩),.pointer (some ⟨w.heap.size,0,none⟩),.int .u64 150]) (w.alloc (.cells #[.pointer (some t)] 52)):=by kernel_rfl
theorem SS (a:Addr) (w:World):(ReflectliteValue.methodAny (ReflectliteValue.valueError "reflectlite.Value.Type" 0) (fun t _ _ _=>ReflectliteType.toType t) #[.agg #[.pointer (some ⟨1,52,none⟩),.pointer (some a),.int .u64 150]]).run Tryz.prog w
  = .ok (.iface 108 (.agg #[.pointer (some ⟨1,52,none⟩)])) w:=by kernel_rfl
theorem dn (h:Value) (w:World):(Go.method 287 108 (.agg #[h]) "Kind").run Tryz.prog w= .ok (114,h) w:=by kernel_rfl
theorem Uz (w:World):((ReflectliteType.abiMethod fun t=>(fun a:Nat=>Value.int IntKind.u8 (a:Int)) <$> Rtype.kind t) #[.pointer (some ⟨1,52,none⟩)]).run Tryz.prog w= .ok (.int .u8 22) w:=by kernel_rfl
theorem Sq (w:World):((ReflectliteType.abiMethod fun t=>(fun a:Nat=>Value.int IntKind.u8 (a:Int)) <$> Rtype.kind t) #[.pointer (some ⟨1,47,none⟩)]).run Tryz.prog w= .ok (.int .u8 25) w:=by kernel_rfl
theorem WV (z:Sem Value) (f:TypeId→Addr→Nat→Nat→Sem Value) (v:Value):
  ReflectliteValue.method z f #[v]=(do match ← ReflectliteValue.parts v with | none=>z | some (t,a,fl)=>f t a fl (fl % 32)):=rfl
theorem ef (a:Addr) (w:World):(ReflectliteValue.parts (.agg #[.pointer (some ⟨1,52,none⟩),.pointer (some a),.int .u64 150])).run Tryz.prog w= .ok (some (52,a,150)) w:=by kernel_rfl
theorem WE (a p:Addr) (W:World) (ha:W.cell? a=some (.pointer (some p))):
  (ReflectliteValue.method (ReflectliteValue.valueError "reflectlite.Value.IsNil" 0) ReflectliteValue.isNil #[.agg #[.pointer (some ⟨1,52,none⟩),.pointer (some a),.int .u64 150]]).run Tryz.prog W= .ok (.bool false) W:=by
 rw [WV]
 simp only [Sem.run_bind,ef,Result.andThen]
 simp [ReflectliteValue.isNil,loadVar,isAgg,underlying,Tryz.underlying52,ha,Result.andThen]
theorem dv (h:Value) (w:World):(Go.method 287 108 (.agg #[h]) "Elem").run Tryz.prog w= .ok (125,.agg #[h]) w:=by kernel_rfl
theorem ke (h:Value) (w:World):(Go.method 287 108 (.agg #[h]) "Implements").run Tryz.prog w= .ok (126,.agg #[h]) w:=by kernel_rfl
theorem mW (h:Value) (w:World):(Go.method 287 108 (.agg #[h]) "AssignableTo").run Tryz.prog w= .ok (123,.agg #[h]) w:=by kernel_rfl
theorem UE (w:World):(ReflectliteType.method ReflectliteType.elem #[.agg #[.pointer (some ⟨1,52,none⟩)]]).run Tryz.prog w= .ok (.iface 108 (.agg #[.pointer (some ⟨1,47,none⟩)])) w:=by kernel_rfl
theorem fS (w:World):(ReflectliteType.relation "Implements" ReflectliteType.implements_ #[.agg #[.pointer (some ⟨1,47,none⟩)],.iface 108 (.agg #[.pointer (some ⟨1,50,none⟩)])]).run Tryz.prog w= .ok (.bool true) w:=by kernel_rfl
theorem YJ (v:Value) (w:World):(ReflectliteType.typeOf #[.iface 47 v]).run Tryz.prog w= .ok (.iface 108 (.agg #[.pointer (some ⟨1,47,none⟩)])) w:=by kernel_rfl
theorem fV (w:World):(ReflectliteType.relation "AssignableTo" ReflectliteType.assignableTo #[.agg #[.pointer (some ⟨1,47,none⟩)],.iface 108 (.agg #[.pointer (some ⟨1,47,none⟩)])]).run Tryz.prog w= .ok (.bool true) w:=by kernel_rfl
theorem aX (c:Int) (w:World):(ReflectliteValue.unpack (.iface 47 (.agg #[.int .i64 c]))).run Tryz.prog w
  = .ok (.agg #[.pointer (some ⟨1,47,none⟩),.pointer (some ⟨w.heap.size,0,none⟩),.int .u64 153]) (w.alloc (.cells #[.int .i64 c] 47)):=by kernel_rfl
theorem ZQ (w:World):(Rtype.elem? 52).run Tryz.prog w= .ok (some 47) w:=by kernel_rfl
theorem Lz (p:Addr) (w:World):(ReflectliteValue.mk 47 p ReflectliteValue.flagAddr).run Tryz.prog w= .ok (.agg #[.pointer (some ⟨1,47,none⟩),.pointer (some p),.int .u64 409]) w:=by kernel_rfl
theorem Vi (a p:Addr) (W:World) (ha:W.cell? a=some (.pointer (some p))):
  (ReflectliteValue.method (ReflectliteValue.valueError "reflectlite.Value.Elem" 0) ReflectliteValue.elem #[.agg #[.pointer (some ⟨1,52,none⟩),.pointer (some a),.int .u64 150]]).run Tryz.prog W
    = .ok (.agg #[.pointer (some ⟨1,47,none⟩),.pointer (some p),.int .u64 409]) W:=by
 rw [WV]
 simp only [Sem.run_bind,ef,Result.andThen]
 simp [ReflectliteValue.elem,loadVar,isAgg,underlying,Tryz.underlying52,ha,Result.andThen,ZQ,Lz]
theorem OU (v x:Value):ReflectliteValue.set #[v,x]=(do
  let (some (dst,a,fl),some (src,b,_)):=(← ReflectliteValue.parts v,← ReflectliteValue.parts x)
   | unsupported (.noEntry "extern/(internal/reflectlite.Value).Set.zeroValue")
  if fl / ReflectliteValue.flagAddr % 2 == 0 then unsupported (.noEntry "extern/(internal/reflectlite.Value).Set.unaddressable")
  let val ← loadVar src b
  if ← Rtype.directlyAssignable dst src then storeVar dst a val
  else if ← Rtype.implements dst src then
   if (← Rtype.kind src) == 20 then
    match val with
    | .nilIface=>unsupported (.noEntry "extern/reflectlite: a nil value of one interface type handed on as a value of another")
    | _=>storeVar dst a val
   else storeVar dst a (.iface src val)
  else panicString ("reflectlite.Set: value of type "++(← Rtype.spelt src)++ " is not assignable to type "++(← Rtype.spelt dst))
  pure (.tuple #[])):=rfl
theorem Wm (a:Addr) (w:World):(ReflectliteValue.parts (.agg #[.pointer (some ⟨1,47,none⟩),.pointer (some a),.int .u64 409])).run Tryz.prog w= .ok (some (47,a,409)) w:=by kernel_rfl
theorem XF (a:Addr) (w:World):(ReflectliteValue.parts (.agg #[.pointer (some ⟨1,47,none⟩),.pointer (some a),.int .u64 153])).run Tryz.prog w= .ok (some (47,a,153)) w:=by kernel_rfl
theorem YC (w:World):(Rtype.directlyAssignable 47 47).run Tryz.prog w= .ok true w:=by kernel_rfl
theorem U6 (W:World) (g:Nat) (c:Int) (t:TypeId) (fr:Nat×Nat) (hg:W.heap[g]? =some (.cells #[.int .i64 c] t fr)):(loadVar 47 ⟨g,0,none⟩).run Tryz.prog W= .ok (.agg #[.int .i64 c]) W:=
 run_loadVar_row W g t 47 #[.int .i64 c] fr _ hg Tryz.underlying47 rfl (by kernel_rfl)
theorem Qa (ta:Addr) (g:Nat) (c:Int) (t:TypeId) (fr:Nat×Nat) (old:Value) (W:World) (hb:W.heap[g]? =some (.cells #[.int .i64 c] t fr)) (ht:W.cell? ta=some old) (hf:W.frozen? ta=false):
  (ReflectliteValue.set #[.agg #[.pointer (some ⟨1,47,none⟩),.pointer (some ta),.int .u64 409],.agg #[.pointer (some ⟨1,47,none⟩),.pointer (some ⟨g,0,none⟩),.int .u64 153]]).run Tryz.prog W
    = .ok (.tuple #[]) (W.setCell ta (.int .i64 c)):=by
 rw [OU]
 simp only [Sem.run_bind,Wm,XF,Result.andThen]
 simp [ReflectliteValue.flagAddr,U6 W g c t fr hb,Result.andThen,YC,storeVar,Value.cells,storeCells,Addr.add]
 rw [run_store Tryz.prog W ta _ _ (by rfl)]
 simp [ht,hf]
def asW (w:World) (t:Addr) (c:Int):World:=((((w.alloc (.cells #[.pointer (some t)] 52)).alloc (.cells #[.pointer (some ⟨1,52,none⟩),.pointer (some ⟨w.heap.size,0,none⟩),.int .u64 150] 86)).alloc (.cells #[.pointer (some ⟨1,52,none⟩),.pointer (some ⟨w.heap.size,0,none⟩),.int .u64 150] 86)).alloc (.cells #[.int .i64 c] 47)).setCell t (.int .i64 c)
set_option maxHeartbeats 4000000 in
theorem OF (c:Int) (t:Addr) (old:Value) (w:World) (hg:w.cell? ⟨0,0,none⟩=some (.iface 108 (.agg #[.pointer (some ⟨1,50,none⟩)]))) (ht0:w.cell? t=some old) (hf0:w.frozen? t=false):
  Calls Tryz.prog 21 #[.iface 47 (.agg #[.int .i64 c]),.iface 52 (.pointer (some t))] w fun ev w'=>ev= .returned (.bool true)∧w'=asW w t c:=by
 have h6:= @run_callFunc_extern Tryz.prog 37 _ (fun args=>ReflectliteValue.unpack (args.getD 0 (.tuple #[]))) Tryz.func37 (by kernel_rfl) (by kernel_rfl) (by kernel_rfl) (by kernel_rfl)
 have h7:= @run_callFunc_extern Tryz.prog 38 _ (ReflectliteValue.methodAny (ReflectliteValue.valueError "reflectlite.Value.Type" 0) (fun t _ _ _=>ReflectliteType.toType t)) Tryz.func38 (by kernel_rfl) (by kernel_rfl) (by kernel_rfl) (by kernel_rfl)
 have h8:= @run_callFunc_extern Tryz.prog 39 _ (ReflectliteValue.method (ReflectliteValue.valueError "reflectlite.Value.IsNil" 0) ReflectliteValue.isNil) Tryz.func39 (by kernel_rfl) (by kernel_rfl) (by kernel_rfl) (by kernel_rfl)
 have h27:= @run_callFunc_extern Tryz.prog 114 _ (ReflectliteType.abiMethod fun t=>do pure (.int .u8 (← Rtype.kind t))) Tryz.func114 (by kernel_rfl) (by kernel_rfl) (by kernel_rfl) (by kernel_rfl)
 have h37:= @run_callFunc_extern Tryz.prog 125 _ (ReflectliteType.method ReflectliteType.elem) Tryz.func125 (by kernel_rfl) (by kernel_rfl) (by kernel_rfl) (by kernel_rfl)
 have h38:= @run_callFunc_extern Tryz.prog 126 _ (ReflectliteType.relation "Implements" ReflectliteType.implements_) Tryz.func126 (by kernel_rfl) (by kernel_rfl) (by kernel_rfl) (by kernel_rfl)
 have h10:= @run_callFunc_extern Tryz.prog 55 _ ReflectliteType.typeOf Tryz.func55 (by kernel_rfl) (by kernel_rfl) (by kernel_rfl) (by kernel_rfl)
 have h35:= @run_callFunc_extern Tryz.prog 123 _ (ReflectliteType.relation "AssignableTo" ReflectliteType.assignableTo) Tryz.func123 (by kernel_rfl) (by kernel_rfl) (by kernel_rfl) (by kernel_rfl)
 have h11:= @run_callFunc_extern Tryz.prog 56 _ (ReflectliteValue.method (ReflectliteValue.valueError "reflectlite.Value.Elem" 0) ReflectliteValue.elem) Tryz.func56 (by kernel_rfl) (by kernel_rfl) (by kernel_rfl) (by kernel_rfl)
 have h12:= @run_callFunc_extern Tryz.prog 57 _ ReflectliteValue.set Tryz.func57 (by kernel_rfl) (by kernel_rfl) (by kernel_rfl) (by kernel_rfl)
 have tO:=YJ
 have mA:=mW
 have a25:=fV
 have v25:=aX
 have f6:=aw
 have f7:=SS
 have mK:=dn
 have mE:=dv
 have mI:=ke
 have k27:=Uz
 have k25:=Sq
 have e27:=UE
 have i25:=fS
 have n8:=WE ⟨w.heap.size,0,none⟩ t ((w.alloc (.cells #[.pointer (some t)] 52)).alloc (.cells #[.pointer (some ⟨1,52,none⟩),.pointer (some ⟨w.heap.size,0,none⟩),.int .u64 150] 86)) (by simp)
 have hlt:0 < w.heap.size:=by
  have:=World.block_lt_of_cell? w _ hg
  exact this
 have hg2:((w.alloc (.cells #[.pointer (some t)] 52)).alloc (.cells #[.pointer (some ⟨1,52,none⟩),.pointer (some ⟨w.heap.size,0,none⟩),.int .u64 150] 86)).cell? ⟨0,0,none⟩=some (.iface 108 (.agg #[.pointer (some ⟨1,50,none⟩)])):=by
  rw [World.cell?_alloc_lt _ _ ⟨0,0,none⟩ (by simp),World.cell?_alloc_lt _ _ ⟨0,0,none⟩ hlt]; exact hg
 have htl:t.block < w.heap.size:=World.block_lt_of_cell? w _ ht0
 have el:=Vi ⟨w.heap.size,0,none⟩ t (((w.alloc (.cells #[.pointer (some t)] 52)).alloc (.cells #[.pointer (some ⟨1,52,none⟩),.pointer (some ⟨w.heap.size,0,none⟩),.int .u64 150] 86)).alloc (.cells #[.pointer (some ⟨1,52,none⟩),.pointer (some ⟨w.heap.size,0,none⟩),.int .u64 150] 86)) (by rw [World.cell?_alloc_lt _ _ ⟨w.heap.size,0,none⟩ (by simp; omega)]; simp)
 have st:=Qa t (w.heap.size+1+1+1) c 47 (0,0) old ((((w.alloc (.cells #[.pointer (some t)] 52)).alloc (.cells #[.pointer (some ⟨1,52,none⟩),.pointer (some ⟨w.heap.size,0,none⟩),.int .u64 150] 86)).alloc (.cells #[.pointer (some ⟨1,52,none⟩),.pointer (some ⟨w.heap.size,0,none⟩),.int .u64 150] 86)).alloc (.cells #[.int .i64 c] 47))
  (by
    have:=heap_alloc_new (((w.alloc (.cells #[.pointer (some t)] 52)).alloc (.cells #[.pointer (some ⟨1,52,none⟩),.pointer (some ⟨w.heap.size,0,none⟩),.int .u64 150] 86)).alloc (.cells #[.pointer (some ⟨1,52,none⟩),.pointer (some ⟨w.heap.size,0,none⟩),.int .u64 150] 86)) (.cells #[.int .i64 c] 47)
    simpa using this)
  (by rw [World.cell?_alloc_lt _ _ t (by simp; omega),World.cell?_alloc_lt _ _ t (by simp; omega),World.cell?_alloc_lt _ _ t (by simp; omega),World.cell?_alloc_lt _ _ t htl]; exact ht0)
  (by rw [World.frozen?_alloc_old _ _ t (by simp; omega),World.frozen?_alloc_old _ _ t (by simp; omega),World.frozen?_alloc_old _ _ t (by simp; omega),World.frozen?_alloc_old _ _ t (Nat.ne_of_lt htl)]; exact hf0)
 unfold asW
 go_enter Tryz.func21,Tryz.ntmps21
 go_wp2
 refine wp_loop_rounds 1 ?_
 rw [rounds_succ]
 go_wp2
 go_ret
 exact ⟨rfl,rfl⟩
end Go.Vm
set_option linter.all false
set_option maxRecDepth 100000
namespace Go.Vm
open Go.Proofs Go.RowKit
structure Put5 (p:Prop):Prop where
 out:p
theorem lx {P:Program} {fn:Func} {p u:Tmp} {ty:TypeId} (h:fn.results=#[.cell p ty,.tmp u]) (tmps:Array Value) (w:World) (g:Nat) (t:TypeId) (cs:Array Value) (fr:Nat×Nat) (d:TypeDesc)
  (hp:tmps.getD p undef= .pointer (some ⟨g,0,none⟩)) (hg:w.heap[g]? =some (.cells cs t fr))
  (hu:P.underlying ty=some d) (hd:(match d with | .struct _ | .array _ _=>true | _=>false)=true) (hi:(P.info? ty).map (·.size)=some cs.size):
  (Go.results fn tmps).run P w= .ok (.tuple #[.agg cs,tmps.getD u undef]) w:=by
 rw [results_cell_tmp h,hp]
 simp [asAddr,run_loadVar_row w g t ty cs fr d hg hu hd hi,Result.andThen]
theorem jh {w:World} {b b':Nat} {e:TypeId} {sz n:Nat} {v:Value} {xs:List Value} (h:w.ownsRow b e sz v n xs) (hb:b' ≤ b):w.ownsRow b' e sz v n xs:=by
 refine ⟨h.1,?_⟩
 rcases h.2 with hn | ⟨g,cap,cur,rfl,h1,rest⟩
 ·exact .inl hn
 ·exact .inr ⟨g,cap,cur,rfl,Nat.le_trans hb h1,rest⟩
theorem fG {W W':World} {g:Nat} {v:Value} {t:TypeId} (h:W'.heap[g]? =W.heap[g]?) (hx:W.heap[g]? =some (.cells #[v] t (0,0))):W'.cell? ⟨g,0,none⟩=some v∧W'.frozen? ⟨g,0,none⟩=false:=by
 have hx':=h.trans hx
 exact ⟨by rw [Lib.cell_of_heap hx']; rfl,Lib.frozen_of_heap hx' 0⟩
theorem bP {W W':World} {g:Nat} {u v:Value} {t:TypeId} (h:W'.heap[g]? =W.heap[g]?) (hx:W.heap[g]? =some (.cells #[u] t (0,0))) {base:Nat} {e:TypeId} {sz n:Nat} {xs:List Value} (ho:W'.ownsRow base e sz v n xs) (hb:g < base):
  (W'.setCell ⟨g,0,none⟩ v).heap[g]? =some (.cells #[v] t (0,0))∧(W'.setCell ⟨g,0,none⟩ v).ownsRow base e sz v n xs∧True:=by
 have hx':=h.trans hx
 refine ⟨by simp [World.setCell,Array.getElem?_modify,hx'],ky ho fun k hk=>Below.heap_setCell _ _ _ _ ?_,trivial⟩
 have:=(ho.lt k hk).1
 show k ≠ g
 omega
theorem M1 {ok:Bool} {kind:Int} {nm to dt:List UInt8} {fs:List (List UInt8×List UInt8)} {q:Nat} (h1:∀ f ∈ fs,f.2.length ≤ 1048576) (h2:fs.length ≤ q):(∀ f ∈ (doP ok kind nm to dt fs).1,f.2.length ≤ 1048576)∧(doP ok kind nm to dt fs).1.length ≤ q+1:=by
 have hfl:∀ x:List UInt8,(fs.filter fun f=>decide (f.1 ≠ x)).length ≤ fs.length:=fun x=>List.length_filter_le _ _
 have hfm:∀ x:List UInt8,∀ f ∈ fs.filter fun f=>decide (f.1 ≠ x),f.2.length ≤ 1048576:=fun x f hf=>h1 f (List.mem_filter.1 hf).1
 unfold doP
 split
 ·exact ⟨h1,by simp only; omega⟩
 ·split
  ·split
   ·exact ⟨h1,by simp only; omega⟩
   ·refine ⟨fun f hf=>?_,by have:=hfl nm; simp only [List.length_cons]; omega⟩
    rcases List.mem_cons.1 hf with rfl | hf
    ·simp
    ·exact hfm nm f hf
  ·split
   ·exact ⟨h1,by simp only; omega⟩
   ·rename_i f hf
    have hm:=List.mem_of_find?_eq_some hf
    split
    ·split
     ·exact ⟨h1,by simp only; omega⟩
     ·refine ⟨fun g hg=>?_,by have:=hfl nm; simp only [List.length_cons]; omega⟩
      rcases List.mem_cons.1 hg with rfl | hg
      ·simp only [List.length_append]; omega
      ·exact hfm nm g hg
    ·split
     ·refine ⟨fun g hg=>?_,?_⟩
      ·rcases List.mem_cons.1 hg with rfl | hg
       ·exact h1 f hm
       ·exact hfm nm g (List.mem_filter.1 hg).1
      ·have h3:=hfl nm
       have h4:=List.length_filter_le (fun f:List UInt8×List UInt8=>decide (f.1 ≠ to)) (fs.filter fun f=>decide (f.1 ≠ nm))
       simp only [List.length_cons]; omega
     ·split
      ·exact ⟨hfm nm,by have:=hfl nm; simp only; omega⟩
      ·exact ⟨h1,by simp only; omega⟩
theorem VV {base:Nat} {w:World} {t:Addr} (c:Int) (h:base ≤ w.heap.size) (ht:base ≤ t.block):Below base w (asW w t c):=by
 unfold asW
 have b1:=(Below.refl base w).alloc h (.cells #[.pointer (some t)] 52)
 have b2:=b1.alloc (Nat.le_trans h b1.size) (.cells #[.pointer (some ⟨1,52,none⟩),.pointer (some ⟨w.heap.size,0,none⟩),.int .u64 150] 86)
 have b3:=b2.alloc (Nat.le_trans h b2.size) (.cells #[.pointer (some ⟨1,52,none⟩),.pointer (some ⟨w.heap.size,0,none⟩),.int .u64 150] 86)
 have b4:=b3.alloc (Nat.le_trans h b3.size) (.cells #[.int .i64 c] 47)
 exact b4.setCell (p:=t) ht _
theorem Wx {w:World} {t:Addr} (c:Int) {j:Nat} (h:j < w.heap.size) (hj:j ≠ t.block):(asW w t c).heap[j]? =w.heap[j]? :=by
 unfold asW
 rw [Below.heap_setCell _ _ _ _ hj,Lib.alloc_old _ _ _ (by simp; omega),Lib.alloc_old _ _ _ (by simp; omega),Lib.alloc_old _ _ _ (by simp; omega),Lib.alloc_old _ _ _ h]
theorem UG {w:World} {q:Nat} (c:Int) {o:Value} {ty:TypeId} (h:w.heap[q]? =some (.cells #[o] ty (0,0))):(asW w ⟨q,0,none⟩ c).cell? ⟨q,0,none⟩=some (.int .i64 c):=by
 have hq:q < w.heap.size:=by
  rcases Nat.lt_or_ge q w.heap.size with h' | h'
  ·exact h'
  ·rw [Array.getElem?_eq_none h'] at h; cases h
 unfold asW
 generalize hW:(((w.alloc (.cells #[.pointer (some ⟨q,0,none⟩)] 52)).alloc (.cells #[.pointer (some ⟨1,52,none⟩),.pointer (some ⟨w.heap.size,0,none⟩),.int .u64 150] 86)).alloc (.cells #[.pointer (some ⟨1,52,none⟩),.pointer (some ⟨w.heap.size,0,none⟩),.int .u64 150] 86)).alloc (.cells #[.int .i64 c] 47)=W
 have hx:W.heap[q]? =some (.cells #[o] ty (0,0)):=by
  rw [← hW,Lib.alloc_old _ _ _ (by simp; omega),Lib.alloc_old _ _ _ (by simp; omega),Lib.alloc_old _ _ _ (by simp; omega),Lib.alloc_old _ _ _ hq]
  exact h
 have hx2:(W.setCell ⟨q,0,none⟩ (.int .i64 c)).heap[q]? =some (.cells #[.int .i64 c] ty (0,0)):=by simp [World.setCell,Array.getElem?_modify,hx]
 rw [Lib.cell_of_heap hx2]; rfl
def lE (dok:Bool) (R:List (List UInt8×List UInt8)→List (List UInt8×List UInt8)×Int) (fs xs:List (List UInt8×List UInt8)) (c:Int):Prop:=
 if dok=true then c=(R fs.reverse).2∧(if c=0 then (xs.map (·.1)).Pairwise (· ≤ ·)∧xs.Perm (R fs.reverse).1 else xs=fs) else c=1∧xs=fs
def etV:Value:= .iface 108 (.agg #[.pointer (some ⟨1,50,none⟩)])
set_option maxHeartbeats 4000000 in
theorem TP (w:World) (fs:List (ByteArray×ByteArray)) (a:Option Addr) (pb po cap:Nat) (kind:Int) (nm to dt:ByteArray) (ok:Bool) (dok:Bool)
  (hok:∀ W,Below w.heap.size w W→Calls Tryz.prog 18 #[.agg #[.slice a fs.length cap]] W fun e w'=>e= .returned (.bool dok)∧Below W.heap.size W w')
  (hcop:∀ W,Below w.heap.size w W→Calls Tryz.prog 19 #[.agg #[.slice a fs.length cap]] W fun e w'=>∃ v,e= .returned (.agg #[v])∧Below W.heap.size W w'∧w'.ownsRow W.heap.size 59 2 v fs.length (q9 (fs.map fun f=>(f.1.data.toList,f.2.data.toList))))
  (hact:∀ W,Below w.heap.size w W→Calls Tryz.prog 43 #[.agg #[.int .i64 kind,.string nm,.string to,.string dt]] W fun e w'=>e= .returned (.bool ok)∧Below W.heap.size W w')
  (ha:∀ x ∈ fs,a=some ⟨pb,po,none⟩) (hp:∀ x ∈ fs,pb < w.heap.size) (hcell:∀ i f,fs[i]? =some f→w.cell? ⟨pb,po+i * 2,none⟩=some (.string f.1)∧w.cell? ⟨pb,po+i * 2+1,none⟩=some (.string f.2))
  (hdok:dok=true→fs.length ≤ 400∧(∀ f ∈ fs,f.1.size ≤ maxLen∧f.2.size ≤ 1048576)∧(fs.map fun f=>f.1.data.toList).Nodup) (hsz:nm.size ≤ maxLen∧to.size ≤ maxLen∧dt.size ≤ 1048576)
  (het:∀ W,Below w.heap.size w W→W.cell? ⟨0,0,none⟩=some etV):
  Calls Tryz.prog 9 #[.agg #[.slice a fs.length cap],.agg #[.int .i64 kind,.string nm,.string to,.string dt]] w fun e w'=>∃ (v:Value) (xs:List (List UInt8×List UInt8)) (c:Int),e= .returned (.tuple #[.agg #[v],.int .i64 c])∧Below w.heap.size w w'∧w'.ownsRow w.heap.size 59 2 v xs.length (q9 xs)∧
   lE dok (doP ok kind nm.data.toList to.data.toList dt.data.toList) (fs.map fun f=>(f.1.data.toList,f.2.data.toList)) xs c:=by
 have A1:Put5 _:=⟨hok⟩
 have A2:Put5 _:=⟨hcop⟩
 have A3:Put5 _:=⟨hact⟩
 have A4:Put5 _:=⟨hcell⟩
 have A6:Put5 _:=⟨ha⟩
 have A8:Put5 _:=⟨hp⟩
 have A10:Put5 _:=⟨hdok⟩
 have A11:Put5 _:=⟨hsz⟩
 have A5:Put5 _:=⟨het⟩
 clear hok hcop hact hcell ha hp hdok hsz het
 go_enter Tryz.func9,Tryz.ntmps9
 have z1:(((w.alloc (.cells #[.slice a fs.length cap] 31)).alloc (.cells #[.int .i64 kind,.string nm,.string to,.string dt] 35)).alloc (.cells #[.slice none 0 0] 31)).heap.size=w.heap.size+1+1+1:=by simp
 have g11:=(Below.refl w.heap.size w).alloc (Nat.le_refl _) (.cells #[.slice a fs.length cap] 31)
 have g12:=g11.alloc g11.size (.cells #[.int .i64 kind,.string nm,.string to,.string dt] 35)
 have g1:=g12.alloc g12.size (.cells #[.slice none 0 0] 31)
 have x0:(((w.alloc (.cells #[.slice a fs.length cap] 31)).alloc (.cells #[.int .i64 kind,.string nm,.string to,.string dt] 35)).alloc (.cells #[.slice none 0 0] 31)).heap[w.heap.size]? =some (.cells #[.slice a fs.length cap] 31 (0,0)):=by
  rw [Lib.alloc_old _ _ _ (by simp; omega),Lib.alloc_old _ _ _ (by simp)]; exact heap_alloc_new _ _
 have xa:(((w.alloc (.cells #[.slice a fs.length cap] 31)).alloc (.cells #[.int .i64 kind,.string nm,.string to,.string dt] 35)).alloc (.cells #[.slice none 0 0] 31)).heap[w.heap.size+1]? =some (.cells #[.int .i64 kind,.string nm,.string to,.string dt] 35 (0,0)):=by
  rw [Lib.alloc_old _ _ _ (by simp)]
  have:=heap_alloc_new (w.alloc (.cells #[.slice a fs.length cap] 31)) (.cells #[.int .i64 kind,.string nm,.string to,.string dt] 35)
  simpa using this
 have x1:(((w.alloc (.cells #[.slice a fs.length cap] 31)).alloc (.cells #[.int .i64 kind,.string nm,.string to,.string dt] 35)).alloc (.cells #[.slice none 0 0] 31)).heap[w.heap.size+1+1]? =some (.cells #[.slice none 0 0] 31 (0,0)):=by
  have:=heap_alloc_new ((w.alloc (.cells #[.slice a fs.length cap] 31)).alloc (.cells #[.int .i64 kind,.string nm,.string to,.string dt] 35)) (.cells #[.slice none 0 0] 31)
  simpa using this
 have hk:=A1.out _ g1
 clear g11 g12
 go_wp2_with fail
 refine hk.mono ?_
 clear hk
 rintro e W2 ⟨rfl,hB2⟩
 rw [z1] at hB2
 have g2:=g1.trans (hB2.mono (by omega))
 have x0:=(hB2.block _ (by omega)).trans x0
 have xa:=(hB2.block _ (by omega)).trans xa
 have x1:=(hB2.block _ (by omega)).trans x1
 have hz2:=hB2.size
 rw [z1] at hz2
 clear hB2 g1 z1
 have c0:W2.cell? ⟨w.heap.size,0,none⟩=some (.slice a fs.length cap):=by rw [Lib.cell_of_heap x0]; rfl
 have c1:W2.cell? ⟨w.heap.size+1+1,0,none⟩=some (.slice none 0 0):=by rw [Lib.cell_of_heap x1]; rfl
 have c1f:W2.frozen? ⟨w.heap.size+1+1,0,none⟩=false:=Lib.frozen_of_heap x1 0
 have A12:Put5 _:=⟨g2⟩
 have A13:Put5 _:=⟨x0⟩
 have A14:Put5 _:=⟨x1⟩
 have A17:Put5 _:=⟨xa⟩
 have hcp:=A2.out W2 g2
 clear g2 x0 x1 xa
 have mixed:Tryz.prog.follows .mixedOrders=true:=by kernel_rfl
 cases dok with
 | false=>
   go_wp2_with (go_at_call 19; refine hcp.mono ?_; rintro e W3 ⟨v,rfl,hB3,hown3⟩; obtain ⟨p3,k3,rfl⟩:=gz hown3; obtain ⟨c3,c3f⟩:=fG (hB3.block _ (by omega)) A14.out; have A15:Put5 _:=⟨hB3⟩; have A16:Put5 _:=⟨hown3⟩; clear hB3 hown3)
   obtain ⟨e1,e2,e3⟩:=bP (A15.out.block _ (by omega)) A14.out A16.out (by omega)
   refine bodyPost_ret (lx (P:=Tryz.prog) rfl _ _ (w.heap.size+1+1) 31 #[.slice p3 fs.length k3] (0,0) _ rfl e1 Tryz.underlying31 rfl (by kernel_rfl)) rfl ?_
   refine ⟨_,fs.map fun f=>(f.1.data.toList,f.2.data.toList),1,rfl,(A12.out.trans (A15.out.mono A12.out.size)).setCell (p:=⟨w.heap.size+1+1,0,none⟩) (by simp; omega) _,?_,?_⟩
   ·rw [List.length_map]
    exact jh e2 (by omega)
   ·unfold lE
    rw [if_neg (by simp)]
    exact ⟨rfl,rfl⟩
 | true=>
   obtain ⟨d1,d2,d3⟩:=A10.out rfl
   have hsto:=bL W2 fs a pb po cap A6.out (fun x hx=>Nat.lt_of_lt_of_le (A8.out x hx) A12.out.size) (fun i f hf=>by
    have hl:=A8.out f (List.mem_of_getElem? hf)
    obtain ⟨q1,q2⟩:=A4.out i f hf
    exact ⟨(rC (A12.out.block _ hl) _).trans q1,(rC (A12.out.block _ hl) _).trans q2⟩) d1 d2 d3
   go_wp2_with (go_at_call 20; refine hsto.mono ?_; rintro e W3 ⟨hB3,b,m,D,ts,hS3,rfl,hts⟩; have hz3:=hB3.size; have xa4:(W3.alloc (.cells #[.int .i64 0] 47)).heap[w.heap.size+1]? =some (.cells #[.int .i64 kind,.string nm,.string to,.string dt] 35 (0,0)):=(Lib.alloc_old W3 _ _ (by omega)).trans ((hB3.block _ (by omega)).trans A17.out); have y0:(W3.alloc (.cells #[.int .i64 0] 47)).cell? ⟨w.heap.size+1,0,none⟩=some (.int .i64 kind):=by rw [Lib.cell_of_heap xa4]; rfl
                have y1:(W3.alloc (.cells #[.int .i64 0] 47)).cell? ⟨w.heap.size+1,1,none⟩=some (.string nm):=by rw [Lib.cell_of_heap xa4]; rfl
                have y2:(W3.alloc (.cells #[.int .i64 0] 47)).cell? ⟨w.heap.size+1,2,none⟩=some (.string to):=by rw [Lib.cell_of_heap xa4]; rfl
                have y3:(W3.alloc (.cells #[.int .i64 0] 47)).cell? ⟨w.heap.size+1,3,none⟩=some (.string dt):=by rw [Lib.cell_of_heap xa4]; rfl)
   have hts':ts.map Ent.f=(fs.map fun f=>(f.1.data.toList,f.2.data.toList)).reverse:=hts
   have hlen:ts.length=fs.length:=by have:=congrArg List.length hts; simp only [List.length_map,List.length_reverse] at this; exact this
   have hdat:∀ t ∈ ts,t.data.length ≤ 1048576:=fun t ht=>by
    have h1:(t.name,t.data) ∈ (fs.map fun f=>(f.1.data.toList,f.2.data.toList)).reverse:=by rw [← hts]; exact List.mem_map.2 ⟨t,ht,rfl⟩
    rw [List.mem_reverse] at h1
    obtain ⟨f,hf,h2⟩:=List.mem_map.1 h1
    have h3:=(d2 f hf).2
    have h4:t.data=f.2.data.toList:=by injection h2 with _ h2; exact h2.symm
    rw [h4,Array.length_toList]; exact h3
   have hS4:Sto W2.heap.size (W3.alloc (.cells #[.int .i64 0] 47)) b m fs.length 0 D ts:=hS3.below ((Below.refl W3.heap.size W3).alloc (Nat.le_refl _) _)
   have hB4:Below W2.heap.size W2 (W3.alloc (.cells #[.int .i64 0] 47)):=hB3.alloc hB3.size _
   have hq4:(W3.alloc (.cells #[.int .i64 0] 47)).heap[W3.heap.size]? =some (.cells #[.int .i64 0] 47 (0,0)):=heap_alloc_new W3 _
   have hlb:=hS3.ltb
   have hlm:=hS3.ltm
   have hqt:∀ t ∈ ts,W3.heap.size ∉ ftB (W3.alloc (.cells #[.int .i64 0] 47)) t.k:=fun t ht hx=>by
    have hb:=hS3.pool.bld (t.k,t.data) (List.mem_map.2 ⟨t,ht,rfl⟩)
    have e:ftB (W3.alloc (.cells #[.int .i64 0] 47)) t.k=ftB W3 t.k:=(hb.keep (w':=W3.alloc (.cells #[.int .i64 0] 47)) fun x hx=>Lib.alloc_old W3 _ x (hb.lt x hx)).2
    rw [e] at hx
    exact absurd (hb.lt _ hx) (Nat.lt_irrefl _)
   obtain ⟨s1,s2,s3⟩:=A11.out
   have hdo:=Pr (q:=W3.heap.size) hS4 kind nm to dt ok s1 s2 (by unfold maxLen; omega) s3 hdat (by simp) (by omega) (by omega) hqt fun W hW=>A3.out W ((A12.out.trans (hB4.mono A12.out.size)).trans (hW.mono A12.out.size))
   have hsz:=M1 (ok:=ok) (kind:=kind) (nm:=nm.data.toList) (to:=to.data.toList) (dt:=dt.data.toList) (fs:=ts.map Ent.f) (q:=400) (fun f hf=>by obtain ⟨t,ht,rfl⟩:=List.mem_map.1 hf; exact hdat t ht) (by rw [List.length_map]; omega)
   have B1:Put5 _:=⟨hts'⟩
   have B2:Put5 _:=⟨hsz.2⟩
   have B3:Put5 _:=⟨hB4⟩
   have B4:Put5 _:=⟨hq4⟩
   have hq2:W2.heap.size ≤ W3.heap.size:=hz3
   clear hts hts' hdat hS4 hB4 hq4 hqt hsz hS3 hB3 hsto hcp c0 c1 c1f xa4 s1 s2 s3 d2 d3
   by_cases hc:(doP ok kind nm.data.toList to.data.toList dt.data.toList (ts.map Ent.f)).2=0
   ·have hev:cx (doP ok kind nm.data.toList to.data.toList dt.data.toList (ts.map Ent.f)).2= .nilIface:=by unfold cx; rw [if_pos hc]
    go_wp2_with (first
     | (go_at_call 22; refine hdo.mono ?_; rintro e W5 ⟨⟨hB5,hq5⟩,n5,D5,ts5,hn5,hS5,hd5,rfl⟩; rw [hev]; have C1:Put5 _:=⟨B3.out.trans hB5⟩; have C2:Put5 _:=⟨hS5⟩; have C3:Put5 _:=⟨hd5⟩; clear hB5 hS5 hd5 hev hq5)
     | (go_at_call 21; refine (Mz _ _).mono ?_; rintro e W6 ⟨rfl,rfl⟩))
    have e1:=congrArg Prod.fst C3.out
    simp only at e1
    have hl5:ts5.length ≤ 401:=by
     have e2:=B2.out
     rw [e1,List.length_map] at e2; exact e2
    have hdk:=Va C2.out (by omega)
    refine hdk.mono ?_
    rintro e W6 ⟨hB6,v,xs,rfl,hown6,hpw6,hpm6⟩
    obtain ⟨p6,k6,rfl⟩:=gz hown6
    have hB26:=C1.out.trans hB6
    have hx6:=fG (hB26.block _ (by omega)) A14.out
    have c6:=hx6.1
    have c6f:=hx6.2
    have E1:Put5 _:=⟨hB26⟩
    have E2:Put5 _:=⟨hown6⟩
    have E3:Put5 _:=⟨hpw6⟩
    have E4:Put5 _:=⟨hpm6⟩
    have E5:Put5 _:=⟨e1⟩
    clear hx6 hB26 hB6 hown6 hpw6 hpm6 e1
    go_wp2
    obtain ⟨f1,f2,f3⟩:=bP (E1.out.block _ (by omega)) A14.out E2.out (by have:=C1.out.size; omega)
    refine bodyPost_ret (lx (P:=Tryz.prog) rfl _ _ (w.heap.size+1+1) 31 #[.slice p6 xs.length k6] (0,0) _ rfl f1 Tryz.underlying31 rfl (by kernel_rfl)) rfl ?_
    refine ⟨_,xs,0,rfl,(A12.out.trans (E1.out.mono A12.out.size)).setCell (p:=⟨w.heap.size+1+1,0,none⟩) (by simp; omega) _,jh f2 (by have:=C1.out.size; omega),?_⟩
    unfold lE
    rw [if_pos rfl,← B1.out,if_pos rfl]
    exact ⟨hc.symm,E3.out,by rw [E5.out]; exact E4.out⟩
   ·have hev:cx (doP ok kind nm.data.toList to.data.toList dt.data.toList (ts.map Ent.f)).2= .iface 47 (.agg #[.int .i64 (doP ok kind nm.data.toList to.data.toList dt.data.toList (ts.map Ent.f)).2]):=by unfold cx; rw [if_neg hc]
    go_wp2_with (first
     | (go_at_call 22; refine hdo.mono ?_; rintro e W5 ⟨⟨hB5,hq5⟩,n5,D5,ts5,hn5,hS5,hd5,rfl⟩; rw [hev]; have C1:Put5 _:=⟨B3.out.trans hB5⟩; have C4:Put5 _:=⟨hq5.trans B4.out⟩; clear hB5 hS5 hd5 hev hq5)
     | (go_at_call 21; refine (OF _ ⟨W3.heap.size,0,none⟩ (.int .i64 0) _ (A5.out _ (A12.out.trans (C1.out.mono A12.out.size))) (by rw [Lib.cell_of_heap C4.out]; rfl) (Lib.frozen_of_heap C4.out 0)).mono ?_; rintro e W6 ⟨rfl,hW6⟩; have C5:Put5 _:=⟨hW6⟩; clear hW6; have hs5:=C1.out.size; have D1:Put5 (∀ j,j < W2.heap.size→W6.heap[j]? =W2.heap[j]?):=⟨fun j hj=>by rw [C5.out,Wx _ (by omega) (show j ≠ W3.heap.size by omega)]; exact C1.out.block j hj⟩; have D2:Put5 (Below W2.heap.size W2 W6):=⟨by rw [C5.out]; exact C1.out.trans (VV _ hs5 hq2)⟩; have d0:W6.cell? ⟨w.heap.size,0,none⟩=some (.slice a fs.length cap):=by rw [Lib.cell_of_heap ((D1.out _ (by omega)).trans A13.out)]; rfl
        have r6:Put5 (W6.cell? ⟨W3.heap.size,0,none⟩=some (.int .i64 (doP ok kind nm.data.toList to.data.toList dt.data.toList (ts.map Ent.f)).2)):=⟨by rw [C5.out]; exact UG _ C4.out⟩))
    have hs6:=D2.out.size
    have hs7:W3.heap.size < W6.heap.size:=World.block_lt_of_cell? W6 _ r6.out
    have r6':=r6.out
    have hcp6:=A2.out W6.drew (A12.out.trans (D2.out.mono A12.out.size)).drew
    have F7:∀ W7,Below W6.heap.size W6.drew W7→W7.cell? ⟨W3.heap.size,0,none⟩=some (.int .i64 (doP ok kind nm.data.toList to.data.toList dt.data.toList (ts.map Ent.f)).2)∧W7.cell? ⟨w.heap.size+1+1,0,none⟩=some (.slice none 0 0)∧W7.frozen? ⟨w.heap.size+1+1,0,none⟩=false:=fun W7 hB7=>
     ⟨(rC (w:=W6) (hB7.block _ hs7) _).trans r6.out,fG ((show W7.heap[w.heap.size+1+1]? =W6.heap[w.heap.size+1+1]? from hB7.block _ (by omega)).trans (D1.out _ (by omega))) A14.out⟩
    have F8:Put5 _:=⟨F7⟩
    clear F7
    go_region_with (go_at_call 19; refine hcp6.mono ?_; rintro e W7 ⟨v,rfl,hB7,hown7⟩; obtain ⟨p7,k7,rfl⟩:=gz hown7; have r7:=(F8.out W7 hB7).1; have c7:=(F8.out W7 hB7).2.1; have c7f:=(F8.out W7 hB7).2.2)
    all_goals
     have E1:Put5 (Below W6.heap.size W6 W7):=⟨((Below.refl W6.heap.size W6).drew).trans hB7⟩
     have E2:Put5 _:=⟨hown7⟩
     clear hB7 hown7
     go_wp2
     obtain ⟨f1,f2,f3⟩:=bP ((E1.out.block _ (by omega)).trans (D1.out _ (by omega))) A14.out E2.out (show w.heap.size+1+1 < W6.heap.size by omega)
     refine bodyPost_ret (lx (P:=Tryz.prog) rfl _ _ (w.heap.size+1+1) 31 #[.slice p7 fs.length k7] (0,0) _ rfl f1 Tryz.underlying31 rfl (by kernel_rfl)) rfl ?_
     refine ⟨_,fs.map fun f=>(f.1.data.toList,f.2.data.toList),_,rfl,(A12.out.trans ((D2.out.trans (E1.out.mono hs6)).mono A12.out.size)).setCell (p:=⟨w.heap.size+1+1,0,none⟩) (by simp; omega) _,?_,?_⟩
     ·rw [List.length_map]
      exact jh f2 (show w.heap.size ≤ W6.heap.size by omega)
     ·unfold lE
      rw [if_pos rfl,← B1.out,if_neg hc]
      exact ⟨rfl,rfl⟩
end Go.Vm
