/- (*store).do, walked (as StoC); a block that is not the store's stays. -/
import Derived.Test.YtpjfklhaogdfeaaGreatDoorStoS
import Derived.Sort.WalkA
import Derived.Deep.QuietTactic
import Derived.BigQuiet
import Derived.IntWalk
set_option linter.all false
set_option maxRecDepth 100000
namespace Go.Vm
open Go.Proofs Go.RowKit Go.ChangeMaps Go.MapKept Go.MuLone
open Go.Maps (Keyed IsMap Tidy)
structure Put' (p:Prop):Prop where
 out:p
def doP (ok:Bool) (kind:Int) (nm to dt:List UInt8) (fs:List (List UInt8×List UInt8)):List (List UInt8×List UInt8)×Int:=
 if ok=false then (fs,2)
 else if kind=1 then (if (fs.any fun f=>decide (f.1=nm))=false∧400 ≤ fs.length then (fs,4) else ((nm,[]) :: fs.filter fun f=>decide (f.1 ≠ nm),0))
 else match fs.find? fun f=>decide (f.1=nm) with
  | none=>(fs,3)
  | some f=>if kind=2 then (if 100000 < f.2.length+dt.length then (fs,4) else ((nm,f.2++dt) :: fs.filter fun f=>decide (f.1 ≠ nm),0))
    else if kind=3 then ((to,f.2) :: (fs.filter fun f=>decide (f.1 ≠ nm)).filter fun f=>decide (f.1 ≠ to),0)
    else if kind=4 then (fs.filter fun f=>decide (f.1 ≠ nm),0) else (fs,0)
def Ent.f (t:Ent):List UInt8×List UInt8:=(t.name,t.data)
def cx (c:Int):Value:=if c=0 then .nilIface else .iface 47 (.agg #[.int .i64 c])
theorem Xj (ts:List Ent) (x:List UInt8):((ts.map Ent.f).any fun f=>decide (f.1=x))=ts.any fun t=>decide (t.name=x):=by rw [List.any_map]; rfl
theorem mD (ts:List Ent) (x:List UInt8):((ts.map Ent.f).find? fun f=>decide (f.1=x))=(ts.find? fun t=>decide (t.name=x)).map Ent.f:=by rw [List.find?_map]; rfl
theorem mw (ts:List Ent) (x:List UInt8):((ts.map Ent.f).filter fun f=>decide (f.1 ≠ x))=(xd ts x).map Ent.f:=by rw [List.filter_map]; rfl
theorem bY {base:Nat} {W:World} {b m n:Nat} {s:Int} {D:DataW Unit} {ts:List Ent} (h:Sto base W b m n s D ts) (hn:n < maxLen) (nm:ByteArray) (hnm:nm.size ≤ maxLen) (k:Nat) {w9:World}
  (hr:(Instr.mapUpdate 67 (.map (some m)) (.string nm) (.pointer (some ⟨k,0,none⟩))).run Tryz.prog W= .ok () w9) {q:Nat} (hq:q < W.heap.size) (hm:q ≠ m):w9.heap[q]? =W.heap[q]? :=by
 obtain ⟨w8,h1,h2,h3⟩:=h.own.update (Maps.string_keyed Tryz.underlying9) Tryz.underlying67 hn (WideMaps.keyOf_string_mk Tryz.underlying9 hnm) (val:= .pointer (some ⟨k,0,none⟩)) (d:= .lit (.int .i64 k)) (ps:=[]) rfl
 rw [h1] at hr
 injection hr with _ hr
 subst hr
 exact h3.block q hq fun e=>hm (by simp only [Option.some.injEq] at e; omega)
theorem em {base:Nat} {W:World} {b m n:Nat} {s:Int} {D:DataW Unit} {ts:List Ent} (h:Sto base W b m n s D ts) (hn:n < maxLen) (nm:ByteArray) (hnm:nm.size ≤ maxLen) {w9:World} (k:Nat)
  (hr:(Instr.mapUpdate 67 (.map (some m)) (.string nm) (.pointer (some ⟨k,0,none⟩))).run Tryz.prog (W.alloc (.cells #[.pointer none,.slice none 0 0] 80))= .ok () w9) {q:Nat} (hq:q < W.heap.size) (hm:q ≠ m):w9.heap[q]? =W.heap[q]? :=by
 have h9:Sto base (W.alloc (.cells #[.pointer none,.slice none 0 0] 80)) b m n s D ts:=h.only (ks:=[]) ((Only.refl [] W).alloc _) fun k hk=>by cases hk
 exact (bY h9 hn nm hnm k hr (by simp; omega) hm).trans (Lib.alloc_old W _ q hq)
set_option maxHeartbeats 4000000 in
theorem Pr {base:Nat} {w:World} {b m n:Nat} {D:DataW Unit} {ts:List Ent} (h:Sto base w b m n 0 D ts) (kind:Int) (nm to dt:ByteArray) (ok:Bool)
  (hn:nm.size ≤ maxLen) (hto:to.size ≤ maxLen) (hn2:n+2 < maxLen) (hdl:dt.size ≤ 1048576) (hts:∀ t ∈ ts,t.data.length ≤ 1048576) {q:Nat} (hql:q < w.heap.size) (hqb:q ≠ b) (hqm:q ≠ m) (hqt:∀ t ∈ ts,q ∉ ftB w t.k) (hact:∀ W,Below base w W→Calls Tryz.prog 43 #[.agg #[.int .i64 kind,.string nm,.string to,.string dt]] W fun e w'=>e= .returned (.bool ok)∧Below W.heap.size W w'):
  Calls Tryz.prog 22 #[.pointer (some ⟨b,0,none⟩),.agg #[.int .i64 kind,.string nm,.string to,.string dt]] w fun e w'=>(Below base w w'∧w'.heap[q]? =w.heap[q]?)∧∃ n' D' ts',n' ≤ n+1∧Sto base w' b m n' 0 D' ts'∧
   doP ok kind nm.data.toList to.data.toList dt.data.toList (ts.map Ent.f)=(ts'.map Ent.f,(doP ok kind nm.data.toList to.data.toList dt.data.toList (ts.map Ent.f)).2)∧e= .returned (cx (doP ok kind nm.data.toList to.data.toList dt.data.toList (ts.map Ent.f)).2):=by
 have P0:Put' _:=⟨hact⟩
 have K1:Put' _:=⟨hql⟩
 have K2:Put' _:=⟨hqb⟩
 have K3:Put' _:=⟨hqm⟩
 clear hql hqb hqm
 clear hact
 have h00:Sto base (w.alloc (.cells #[.int .i64 kind,.string nm,.string to,.string dt] 35)) b m n 0 D ts:=h.only (ks:=[]) ((Only.refl [] w).alloc _) fun k hk=>by cases hk
 have c0:=h00.c0
 have f0:=h00.fz 0
 have h1:=h00.lock 1
 have hq:((w.alloc (.cells #[.int .i64 kind,.string nm,.string to,.string dt] 35)).setCell ⟨b,0,none⟩ (.int .i32 1)).heap[w.heap.size]? =some (.cells #[.int .i64 kind,.string nm,.string to,.string dt] 35 (0,0)):=by
  rw [Below.heap_setCell _ _ _ _ (by have:=h.ltb; show w.heap.size ≠ b; omega)]
  exact heap_alloc_new w _
 have hB:Below base w ((w.alloc (.cells #[.int .i64 kind,.string nm,.string to,.string dt] 35)).setCell ⟨b,0,none⟩ (.int .i32 1)):=
  ((Below.refl base w).alloc (by have:=h.ltb; have:=h.gb; omega) _).setCell (p:=⟨b,0,none⟩) h.gb _
 have hQ:∀ x,x < w.heap.size→x ≠ b→((w.alloc (.cells #[.int .i64 kind,.string nm,.string to,.string dt] 35)).setCell ⟨b,0,none⟩ (.int .i32 1)).heap[x]? =w.heap[x]? :=fun x hx hb=>(Below.heap_setCell _ _ _ _ hb).trans (Lib.alloc_old w _ x hx)
 generalize hw1:(w.alloc (.cells #[.int .i64 kind,.string nm,.string to,.string dt] 35)).setCell ⟨b,0,none⟩ (.int .i32 1)=W1 at h1 hq hB hQ
 have c2:=h1.c2
 have a0:W1.cell? ⟨w.heap.size,0,none⟩=some (.int .i64 kind):=by rw [Lib.cell_of_heap hq]; rfl
 have a1:W1.cell? ⟨w.heap.size,1,none⟩=some (.string nm):=by rw [Lib.cell_of_heap hq]; rfl
 have a2:W1.cell? ⟨w.heap.size,2,none⟩=some (.string to):=by rw [Lib.cell_of_heap hq]; rfl
 have a3:W1.cell? ⟨w.heap.size,3,none⟩=some (.string dt):=by rw [Lib.cell_of_heap hq]; rfl
 have A1:Put' _:=⟨h1⟩
 have A2:Put' _:=⟨hq⟩
 have A3:Put' _:=⟨hB⟩
 have A4:Put' _:=⟨h⟩
 have A5:Put' _:=⟨hQ⟩
 have A6:Put' _:=⟨hqt⟩
 have hac:=P0.out W1 hB
 clear h1 hq hB h h00 hQ hqt
 have mixed:Tryz.prog.follows .mixedOrders=true:=by kernel_rfl
 go_enter_defers Tryz.func22,Tryz.ntmps22
 go_wp2_with (go_at_call 41; refine (lock_free Tryd.muLib ⟨b,0,none⟩ _ c0 f0).mono ?_; rintro e w' ⟨rfl,rfl⟩; rw [hw1]; clear hw1 c0 f0)
 refine hac.mono ?_
 clear hac
 rintro e W2 ⟨rfl,hB2⟩
 have h2:=A1.out.below hB2
 have hq2:W2.heap[w.heap.size]? =some (.cells #[.int .i64 kind,.string nm,.string to,.string dt] 35 (0,0)):=(hB2.block _ (vc A2.out)).trans A2.out
 have hb2:Below base w W2:=A3.out.trans (hB2.mono (by have:=A3.out.size; have:=A4.out.ltb; have:=A4.out.gb; omega))
 have c2:=h2.c2
 have a0:W2.cell? ⟨w.heap.size,0,none⟩=some (.int .i64 kind):=by rw [Lib.cell_of_heap hq2]; rfl
 have a1:W2.cell? ⟨w.heap.size,1,none⟩=some (.string nm):=by rw [Lib.cell_of_heap hq2]; rfl
 have a2:W2.cell? ⟨w.heap.size,2,none⟩=some (.string to):=by rw [Lib.cell_of_heap hq2]; rfl
 have a3:W2.cell? ⟨w.heap.size,3,none⟩=some (.string dt):=by rw [Lib.cell_of_heap hq2]; rfl
 have B1:Put' _:=⟨h2⟩
 have B2:Put' _:=⟨hq2⟩
 have B3:Put' _:=⟨hb2⟩
 have B4:Put' _:=⟨hB2⟩
 have Z1:Put' (w.heap.size ≤ W1.heap.size):=⟨A3.out.size⟩
 have Z2:Put' (w.heap.size ≤ W2.heap.size):=⟨Nat.le_trans A3.out.size hB2.size⟩
 have Z3:Put' (q < W2.heap.size):=⟨Nat.lt_of_lt_of_le K1.out Z2.out⟩
 have Q2:Put' (W2.heap[q]? =w.heap[q]?):=⟨(hB2.block q (Nat.lt_of_lt_of_le K1.out Z1.out)).trans (A5.out q K1.out K2.out)⟩
 have Q3:Put' (∀ t ∈ ts,q ∉ ftB W2 t.k):=⟨fun t ht=>by
  have hbt:=A4.out.pool.bld (t.k,t.data) (List.mem_map.2 ⟨t,ht,rfl⟩)
  have:=(hbt.keep (w':=W2) fun x hx=>(B4.out.block x (Nat.lt_of_lt_of_le (hbt.lt x hx) Z1.out)).trans (A5.out x (hbt.lt x hx) (A4.out.pool.ge (t.k,t.data) (List.mem_map.2 ⟨t,ht,rfl⟩) x hx).2.1)).2
  have e:ftB W2 t.k=ftB w t.k:=this
  rw [e]; exact A6.out t ht⟩
 clear h2 hq2 hb2 hB2
 cases ok with
 | false=>
   go_wp2
   have hd:=B1.out
   refine leaves_cons (f:=42) (args:=#[.pointer (some ⟨b,0,none⟩)]) (by simp) (by simp [go_sem]) ?_
   refine (unlock_deferred Tryd.muLib ⟨b,0,none⟩ .returning _ hd.c0 (hd.fz 0)).mono ?_
   rintro e u' w'' ⟨rfl,rfl,rfl⟩
   exact ⟨_,results_tmp rfl _ _ _,⟨B3.out.setCell (p:=⟨b,0,none⟩) A4.out.gb _,(Below.heap_setCell _ _ _ _ K2.out).trans Q2.out⟩,n,D,ts,by omega,hd.lock 0,rfl,rfl⟩
 | true=>
   have hkey:keyOf Tryz.prog 9 (.string nm)=some (.string nm.data.toList):=WideMaps.keyOf_string_mk Tryz.underlying9 hn
   have h3:Sto base W2.drew b m n 1 D ts:=B1.out.only (ks:=[]) (Only.refl [] W2).drew fun k hk=>by cases hk
   obtain ⟨v,ps,hlk,hv⟩:=h3.own.look_ok (Maps.string_keyed Tryz.underlying9) Tryz.underlying67 (Tryz.zeroValue77 W2.drew) (zd:= .nil) (zp:=[]) rfl hkey
   have hlen:=h3.own.len Tryz.underlying67 3
   rw [h3.size] at hlen
   rw [h3.has] at hlk
   have B6:Put' _:=⟨h3⟩
   clear h3
   have B5:Put' _:=⟨hkey⟩
   clear hkey
   cases hf:ts.find? (fun t=>decide (t.name=nm.data.toList)) with
   | none=>
     have hany:(ts.any fun t=>decide (t.name=nm.data.toList))=false:=by
      rw [List.any_eq_false]; intro t ht; exact List.find?_eq_none.1 hf t ht
     rw [hany] at hlk
     have B7:Put' _:=⟨hf⟩
     have B8:Put' _:=⟨hany⟩
     clear hf hany
     by_cases k1:kind=1
     ·subst k1
      by_cases c4:400 ≤ ts.length
      ·go_wp2
       go_region
       go_wp2
       have hd:=B6.out
       refine leaves_cons (f:=42) (args:=#[.pointer (some ⟨b,0,none⟩)]) (by simp) (by simp [go_sem]) ?_
       refine (unlock_deferred Tryd.muLib ⟨b,0,none⟩ .returning _ hd.c0 (hd.fz 0)).mono ?_
       rintro e u' w'' ⟨rfl,rfl,rfl⟩
       have hx:doP true 1 nm.data.toList to.data.toList dt.data.toList (ts.map Ent.f)=(ts.map Ent.f,4):=by
        unfold doP
        rw [if_neg (by simp),if_pos rfl,Xj,B8.out,if_pos ⟨rfl,by simpa using c4⟩]
       rw [hx]
       exact ⟨_,results_tmp rfl _ _ _,⟨B3.out.drew.setCell (p:=⟨b,0,none⟩) A4.out.gb _,(Below.heap_setCell _ _ _ _ K2.out).trans Q2.out⟩,n,D,ts,by omega,hd.lock 0,rfl,rfl⟩
      ·obtain ⟨w9,hup,hs9,hb9⟩:=eH (B6.out.only (ks:=[]) (Only.refl [] W2.drew).drew fun k hk=>by cases hk) (by omega) nm hn
       have C1:Put' _:=⟨hs9⟩
       have C2:Put' _:=⟨hb9⟩
       have C9:Put' (w9.heap[q]? =w.heap[q]?):=⟨(em (W:=W2.drew.drew) (B6.out.only (ks:=[]) (Only.refl [] W2.drew).drew fun k hk=>by cases hk) (by omega) nm hn W2.heap.size hup (show q < W2.heap.size from Z3.out) K3.out).trans Q2.out⟩
       clear hs9 hb9
       have hup:(Instr.mapUpdate 67 (.map (some m)) (.string nm) (.pointer (some ⟨W2.heap.size,0,none⟩))).run Tryz.prog (W2.alloc (.cells #[.pointer none,.slice none 0 0] 80)).drew.drew= .ok () w9:=hup
       have a1':(W2.alloc (.cells #[.pointer none,.slice none 0 0] 80)).cell? ⟨w.heap.size,1,none⟩=some (.string nm):=(oR W2 _ (vc B2.out) 1).trans a1
       have c2':(W2.alloc (.cells #[.pointer none,.slice none 0 0] 80)).cell? ⟨b,2,none⟩=some (.map (some m)):=(oR W2 _ B1.out.ltb 2).trans c2
       go_wp2
       go_region
       go_wp2
       go_region
       go_wp2
       have hd:=C1.out
       refine leaves_cons (f:=42) (args:=#[.pointer (some ⟨b,0,none⟩)]) (by simp) (by simp [go_sem]) ?_
       refine (unlock_deferred Tryd.muLib ⟨b,0,none⟩ .returning _ hd.c0 (hd.fz 0)).mono ?_
       rintro e u' w'' ⟨rfl,rfl,rfl⟩
       have hx:doP true 1 nm.data.toList to.data.toList dt.data.toList (ts.map Ent.f)=((nm.data.toList,[]) :: (xd ts nm.data.toList).map Ent.f,0):=by
        unfold doP
        rw [if_neg (by simp),if_pos rfl,Xj,B8.out,if_neg (fun q=>c4 (by simpa using q.2)),mw]
       rw [hx]
       exact ⟨_,results_tmp rfl _ _ _,⟨(B3.out.drew.drew.trans C2.out).setCell (p:=⟨b,0,none⟩) A4.out.gb _,(Below.heap_setCell _ _ _ _ K2.out).trans C9.out⟩,n+1,_,_,Nat.le_refl _,hd.lock 0,rfl,rfl⟩
     ·go_wp2
      go_region
      go_wp2
      have hd:=B6.out
      refine leaves_cons (f:=42) (args:=#[.pointer (some ⟨b,0,none⟩)]) (by simp) (by simp [go_sem]) ?_
      refine (unlock_deferred Tryd.muLib ⟨b,0,none⟩ .returning _ hd.c0 (hd.fz 0)).mono ?_
      rintro e u' w'' ⟨rfl,rfl,rfl⟩
      have hx:doP true kind nm.data.toList to.data.toList dt.data.toList (ts.map Ent.f)=(ts.map Ent.f,3):=by
       unfold doP
       rw [if_neg (by simp),if_neg k1,mD,B7.out]; rfl
      rw [hx]
      exact ⟨_,results_tmp rfl _ _ _,⟨B3.out.drew.setCell (p:=⟨b,0,none⟩) A4.out.gb _,(Below.heap_setCell _ _ _ _ K2.out).trans Q2.out⟩,n,D,ts,by omega,hd.lock 0,rfl,rfl⟩
   | some t=>
     have ht:t ∈ ts:=List.mem_of_find?_eq_some hf
     have htn:t.name=nm.data.toList:=by simpa using List.find?_some hf
     have hany:(ts.any fun t=>decide (t.name=nm.data.toList))=true:=List.any_eq_true.2 ⟨t,ht,by simpa using htn⟩
     rw [hany] at hlk
     rw [← htn,B6.out.at_ t ht] at hv
     obtain rfl:=jG hv
     have hbd:=B6.out.pool.bld (t.k,t.data) (List.mem_map.2 ⟨t,ht,rfl⟩)
     have B7:Put' _:=⟨hf⟩
     have B8:Put' _:=⟨hany⟩
     have B9:Put' _:=⟨ht⟩
     have B10:Put' _:=⟨htn⟩
     clear hf hany ht htn hv
     by_cases k1:kind=1
     ·subst k1
      obtain ⟨w9,hup,hs9,hb9⟩:=eH (B6.out.only (ks:=[]) (Only.refl [] W2.drew).drew fun k hk=>by cases hk) (by omega) nm hn
      have C1:Put' _:=⟨hs9⟩
      have C2:Put' _:=⟨hb9⟩
      have C9:Put' (w9.heap[q]? =w.heap[q]?):=⟨(em (W:=W2.drew.drew) (B6.out.only (ks:=[]) (Only.refl [] W2.drew).drew fun k hk=>by cases hk) (by omega) nm hn W2.heap.size hup (show q < W2.heap.size from Z3.out) K3.out).trans Q2.out⟩
      clear hs9 hb9
      have hup:(Instr.mapUpdate 67 (.map (some m)) (.string nm) (.pointer (some ⟨W2.heap.size,0,none⟩))).run Tryz.prog (W2.alloc (.cells #[.pointer none,.slice none 0 0] 80)).drew.drew= .ok () w9:=hup
      have a1':(W2.alloc (.cells #[.pointer none,.slice none 0 0] 80)).cell? ⟨w.heap.size,1,none⟩=some (.string nm):=(oR W2 _ (vc B2.out) 1).trans a1
      have c2':(W2.alloc (.cells #[.pointer none,.slice none 0 0] 80)).cell? ⟨b,2,none⟩=some (.map (some m)):=(oR W2 _ B1.out.ltb 2).trans c2
      go_wp2
      go_region
      go_wp2
      go_region
      go_wp2
      have hd:=C1.out
      refine leaves_cons (f:=42) (args:=#[.pointer (some ⟨b,0,none⟩)]) (by simp) (by simp [go_sem]) ?_
      refine (unlock_deferred Tryd.muLib ⟨b,0,none⟩ .returning _ hd.c0 (hd.fz 0)).mono ?_
      rintro e u' w'' ⟨rfl,rfl,rfl⟩
      have hx:doP true 1 nm.data.toList to.data.toList dt.data.toList (ts.map Ent.f)=((nm.data.toList,[]) :: (xd ts nm.data.toList).map Ent.f,0):=by
       unfold doP
       rw [if_neg (by simp),if_pos rfl,Xj,B8.out,if_neg (fun q=>by cases q.1),mw]
      rw [hx]
      exact ⟨_,results_tmp rfl _ _ _,⟨(B3.out.drew.drew.trans C2.out).setCell (p:=⟨b,0,none⟩) A4.out.gb _,(Below.heap_setCell _ _ _ _ K2.out).trans C9.out⟩,n+1,_,_,Nat.le_refl _,hd.lock 0,rfl,rfl⟩
     ·by_cases k2:kind=2
      ·subst k2
       have hbl:∀ j:Nat,Calls Tryz.prog 44 #[.pointer (some ⟨t.k,0,none⟩)] (W2.drewN j) fun e w'=>e= .returned (.int .i64 t.data.length)∧w'=W2.drewN j:=fun j=>OW _ _ _ (hbd.keep fun x _=>rfl).1
       have hsz:dt.data.toList.length=dt.size:=by rw [Array.length_toList]; rfl
       have hwr:wrap64 ((t.data.length:Int)+(dt.size:Int))=(t.data.length:Int)+dt.size:=IntWalk.wrap64_in _ (by have:=hdl; have:=hts t B9.out; omega)
       by_cases c5:100000 < t.data.length+dt.data.toList.length
       ·have c6:100000 < wrap64 ((t.data.length:Int)+(dt.size:Int)):=by rw [hwr]; omega
        clear hwr
        go_wp2
        go_region
        go_wp2
        go_quiet (first | (go_at_call 44; refine (hbl _).mono ?_; rintro e w' ⟨rfl,rfl⟩; exact ⟨rfl,_,rfl⟩))
        go_wp2
        have hd:=(B1.out.only (ks:=[]) (w':=W2.drewN (1+nq)) ⟨rfl,rfl,rfl,Nat.le_refl _,fun _ _ _=>rfl⟩ fun k hk=>by cases hk)
        refine leaves_cons (f:=42) (args:=#[.pointer (some ⟨b,0,none⟩)]) (by simp) (by simp [go_sem]) ?_
        refine (unlock_deferred Tryd.muLib ⟨b,0,none⟩ .returning _ hd.c0 (hd.fz 0)).mono ?_
        rintro e u' w'' ⟨rfl,rfl,rfl⟩
        have hx:doP true 2 nm.data.toList to.data.toList dt.data.toList (ts.map Ent.f)=(ts.map Ent.f,4):=by
         unfold doP
         rw [if_neg (by simp),if_neg (by decide),mD,B7.out]
         simp only [Option.map_some]
         rw [if_pos trivial,if_pos (show 100000 < t.f.2.length+dt.data.toList.length from c5)]
        rw [hx]
        exact ⟨_,results_tmp rfl _ _ _,⟨(jU B3.out (1+nq)).setCell (p:=⟨b,0,none⟩) A4.out.gb _,(Below.heap_setCell _ _ _ _ K2.out).trans Q2.out⟩,n,D,ts,by omega,hd.lock 0,rfl,rfl⟩
       ·have c6:wrap64 ((t.data.length:Int)+(dt.size:Int)) ≤ 100000:=by rw [hwr]; omega
        clear hwr
        go_wp2
        go_region
        go_wp2
        go_quiet (first | (go_at_call 44; refine (hbl _).mono ?_; rintro e w' ⟨rfl,rfl⟩; exact ⟨rfl,_,rfl⟩))
        have h4:Sto base (W2.drewN (1+nq)) b m n 1 D ts:=B1.out.only (ks:=[]) ⟨rfl,rfl,rfl,Nat.le_refl _,fun _ _ _=>rfl⟩ fun k hk=>by cases hk
        have hwr:=bo (W2.drewN (1+nq)) t.k t.data dt (h4.pool.bld (t.k,t.data) (List.mem_map.2 ⟨t,B9.out,rfl⟩)) (by omega)
        have B11:Put' _:=⟨h4⟩
        clear h4
        go_wp2_with (go_at_call 36; refine hwr.mono ?_; rintro e w5 ⟨rfl,hbd5,ho5,hf5⟩)
        have hts':Sto base w5 b m n 1 D (⟨nm.data.toList,t.k,t.data++dt.data.toList⟩ :: xd ts nm.data.toList):=by
         have:=B11.out.write B9.out hbd5 ho5 hf5
         rwa [B10.out] at this
        have hbw:=B11.out.belowOnly B9.out ho5
        have hd:=hts'
        refine leaves_cons (f:=42) (args:=#[.pointer (some ⟨b,0,none⟩)]) (by simp) (by simp [go_sem]) ?_
        refine (unlock_deferred Tryd.muLib ⟨b,0,none⟩ .returning _ hd.c0 (hd.fz 0)).mono ?_
        rintro e u' w'' ⟨rfl,rfl,rfl⟩
        have hx:doP true 2 nm.data.toList to.data.toList dt.data.toList (ts.map Ent.f)=((nm.data.toList,t.data++dt.data.toList) :: (xd ts nm.data.toList).map Ent.f,0):=by
         unfold doP
         rw [if_neg (by simp),if_neg (by decide),mD,B7.out]
         simp only [Option.map_some]
         rw [if_pos trivial,if_neg (show ¬ 100000 < t.f.2.length+dt.data.toList.length from c5),mw]; rfl
        rw [hx]
        exact ⟨_,results_tmp rfl _ _ _,⟨((jU B3.out (1+nq)).trans hbw).setCell (p:=⟨b,0,none⟩) A4.out.gb _,(Below.heap_setCell _ _ _ _ K2.out).trans ((ho5.block q (show q < W2.heap.size from Z3.out) (Q3.out t B9.out)).trans Q2.out)⟩,n,D,_,by omega,hd.lock 0,rfl,rfl⟩
      ·by_cases k3:kind=3
       ·subst k3
        obtain ⟨w9,hdl,hs9,hb9,ho9⟩:=bT (B6.out.only (ks:=[]) (Only.refl [] W2.drew).drew fun k hk=>by cases hk) nm hn 0
        have hq9:w9.heap[w.heap.size]? =some (.cells #[.int .i64 3,.string nm,.string to,.string dt] 35 (0,0)):=(ho9.block _ (vc B2.out) (by have:=A4.out.ltm; simp; omega)).trans B2.out
        have a2':w9.cell? ⟨w.heap.size,2,none⟩=some (.string to):=by rw [Lib.cell_of_heap hq9]; rfl
        have c2':=hs9.c2
        have hpo:Pool base w9 b m ((⟨to.data.toList,t.k,t.data⟩ :: xd (xd ts nm.data.toList) to.data.toList:List Ent).map Ent.p):=by
         have:=B6.out.sub B9.out to.data.toList
         rw [B10.out] at this
         have p1:Pool base W2.drew.drew b m _:=this.only (ks:=[]) (Only.refl [] W2.drew).drew fun k hk=>absurd hk (by simp)
         exact p1.only ho9 fun k hk=> .inr (.inl (by simpa using hk))
        obtain ⟨w10,hup,hs10,hb10⟩:=iE (W:=w9.drew) (hs9.only (ks:=[]) (Only.refl [] w9).drew fun k hk=>by cases hk) (by omega) to hto t.k t.data (hpo.only (ks:=[]) (Only.refl [] w9).drew fun k hk=>by cases hk)
        have C1:Put' _:=⟨hs10⟩
        have C2:Put' _:=⟨hb9⟩
        have C9:Put' (w10.heap[q]? =w.heap[q]?):=⟨(bY (W:=w9.drew) (hs9.only (ks:=[]) (Only.refl [] w9).drew fun k hk=>by cases hk) (by omega) to hto t.k hup (show q < w9.heap.size from Nat.lt_of_lt_of_le Z3.out (show W2.heap.size ≤ w9.heap.size from ho9.size)) K3.out).trans ((ho9.block q (show q < W2.heap.size from Z3.out) (by simpa using K3.out)).trans Q2.out)⟩
        have C3:Put' _:=⟨hb10⟩
        clear hs9 hb9 ho9 hs10 hb10 hpo
        go_wp2
        go_region
        go_wp2
        go_region
        go_wp2
        go_region
        go_wp2
        have hd:=C1.out
        refine leaves_cons (f:=42) (args:=#[.pointer (some ⟨b,0,none⟩)]) (by simp) (by simp [go_sem]) ?_
        refine (unlock_deferred Tryd.muLib ⟨b,0,none⟩ .returning _ hd.c0 (hd.fz 0)).mono ?_
        rintro e u' w'' ⟨rfl,rfl,rfl⟩
        have hx:doP true 3 nm.data.toList to.data.toList dt.data.toList (ts.map Ent.f)=((to.data.toList,t.data) :: (xd (xd ts nm.data.toList) to.data.toList).map Ent.f,0):=by
         unfold doP
         rw [if_neg (by simp),if_neg (by decide),mD,B7.out]
         simp only [Option.map_some]
         rw [if_neg (by decide),if_pos trivial,mw,mw]; rfl
        rw [hx]
        exact ⟨_,results_tmp rfl _ _ _,⟨((B3.out.drew.drew.trans C2.out).drew.trans C3.out).setCell (p:=⟨b,0,none⟩) A4.out.gb _,(Below.heap_setCell _ _ _ _ K2.out).trans C9.out⟩,n+1,_,_,Nat.le_refl _,hd.lock 0,rfl,rfl⟩
       ·by_cases k4:kind=4
        ·subst k4
         obtain ⟨w9,hdl,hs9,hb9,ho9⟩:=bT (B6.out.only (ks:=[]) (Only.refl [] W2.drew).drew fun k hk=>by cases hk) nm hn 0
         have C1:Put' _:=⟨hs9⟩
         have C2:Put' _:=⟨hb9⟩
         have C9:Put' (w9.heap[q]? =w.heap[q]?):=⟨(ho9.block q (show q < W2.heap.size from Z3.out) (by simpa using K3.out)).trans Q2.out⟩
         clear hs9 hb9 ho9
         go_wp2
         go_region
         go_wp2
         go_region
         go_wp2
         have hd:=C1.out
         refine leaves_cons (f:=42) (args:=#[.pointer (some ⟨b,0,none⟩)]) (by simp) (by simp [go_sem]) ?_
         refine (unlock_deferred Tryd.muLib ⟨b,0,none⟩ .returning _ hd.c0 (hd.fz 0)).mono ?_
         rintro e u' w'' ⟨rfl,rfl,rfl⟩
         have hx:doP true 4 nm.data.toList to.data.toList dt.data.toList (ts.map Ent.f)=((xd ts nm.data.toList).map Ent.f,0):=by
          unfold doP
          rw [if_neg (by simp),if_neg (by decide),mD,B7.out]
          simp only [Option.map_some]
          rw [if_neg (by decide),if_neg (by decide),if_pos trivial,mw]
         rw [hx]
         exact ⟨_,results_tmp rfl _ _ _,⟨(B3.out.drew.drew.trans C2.out).setCell (p:=⟨b,0,none⟩) A4.out.gb _,(Below.heap_setCell _ _ _ _ K2.out).trans C9.out⟩,n,_,_,Nat.le_succ _,hd.lock 0,rfl,rfl⟩
        ·go_wp2
         go_region
         go_wp2
         have hd:=B6.out
         refine leaves_cons (f:=42) (args:=#[.pointer (some ⟨b,0,none⟩)]) (by simp) (by simp [go_sem]) ?_
         refine (unlock_deferred Tryd.muLib ⟨b,0,none⟩ .returning _ hd.c0 (hd.fz 0)).mono ?_
         rintro e u' w'' ⟨rfl,rfl,rfl⟩
         have hx:doP true kind nm.data.toList to.data.toList dt.data.toList (ts.map Ent.f)=(ts.map Ent.f,0):=by
          unfold doP
          rw [if_neg (by simp),if_neg k1,mD,B7.out]
          simp only [Option.map_some]
          rw [if_neg k2,if_neg k3,if_neg k4]
         rw [hx]
         exact ⟨_,results_tmp rfl _ _ _,⟨B3.out.drew.setCell (p:=⟨b,0,none⟩) A4.out.gb _,(Below.heap_setCell _ _ _ _ K2.out).trans Q2.out⟩,n,D,ts,by omega,hd.lock 0,rfl,rfl⟩
end Go.Vm
