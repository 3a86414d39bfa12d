import Derived.Test.YtpjfklhaogdfeaaGreatDoorVmRes
import Derived.Lib.Builder
import Derived.Lib.FrozenHead2
import Derived.Below
import Derived.Test.YtpjfklhaogdfeaaGreatDoorVmShelf
import Derived.Test.YtpjfklhaogdfeaaGreatDoorProg
import Derived.WalkKit
import Derived.ProofKit
set_option linter.unusedVariables false
namespace Go.Vm
open Go.RowKit
structure Only (ks:List Nat) (w w':World):Prop where
 os:w'.os=w.os
 tape:w'.tape=w.tape
 output:w'.output=w.output
 size:w.heap.size ≤ w'.heap.size
 block:∀ k,k < w.heap.size→k ∉ ks→w'.heap[k]? =w.heap[k]?
theorem Only.refl (ks:List Nat) (w:World):Only ks w w:=⟨rfl,rfl,rfl,Nat.le_refl _,fun _ _ _=>rfl⟩
theorem Only.trans {ks:List Nat} {a b c:World} (h:Only ks a b) (k:Only ks b c):Only ks a c:=
 ⟨k.os.trans h.os,k.tape.trans h.tape,k.output.trans h.output,Nat.le_trans h.size k.size,fun j hj hn=>(k.block j (Nat.lt_of_lt_of_le hj h.size) hn).trans (h.block j hj hn)⟩
theorem Only.wide {ks ks':List Nat} {w w':World} (h:Only ks w w') (hs:∀ k ∈ ks,k ∈ ks'):Only ks' w w':=⟨h.os,h.tape,h.output,h.size,fun k hk hn=>h.block k hk fun hm=>hn (hs k hm)⟩
theorem Only.drew {ks:List Nat} {a w:World} (h:Only ks a w):Only ks a w.drew:=⟨h.os,h.tape,h.output,h.size,h.block⟩
theorem Only.alloc {ks:List Nat} {a w:World} (h:Only ks a w) (o:Obj):Only ks a (w.alloc o):=
 ⟨h.os,h.tape,h.output,Nat.le_trans h.size (by simp),fun k hk hn=>(Below.heap_alloc w o k (Nat.lt_of_lt_of_le hk h.size)).trans (h.block k hk hn)⟩
theorem Only.setCell {ks:List Nat} {a w:World} (h:Only ks a w) {p:Addr} (hp:p.block ∈ ks) (u:Value):Only ks a (w.setCell p u):=by
 have hb:=(Below.refl p.block w).setCell (p:=p) (Nat.le_refl _) u
 exact ⟨hb.os.trans h.os,hb.tape.trans h.tape,hb.output.trans h.output,Nat.le_trans h.size hb.size,fun k hk hn=>(Below.heap_setCell w p u k fun e=>hn (e ▸ hp)).trans (h.block k hk hn)⟩
theorem Only.grown {ks:List Nat} {a w w':World} {row:Option Nat} (h:Only ks a w) (hg:w.grownBy w' row) (hr:∀ k,row=some k→k ∈ ks):Only ks a w':=
 h.trans ⟨hg.os,hg.tape,hg.output,hg.size,fun k hk hn=>hg.block k hk fun e=>hn (hr k e.symm)⟩
theorem Only.freeze {ks:List Nat} {a w:World} (h:Only ks a w) {p:Addr} (hp:p.block ∈ ks) (n:Nat):Only ks a (w.freeze p n):=by
 have hb:Below p.block w (w.freeze p n):=Lib.below_freeze (Below.refl _ w) (Nat.le_refl _) n
 refine ⟨hb.os.trans h.os,hb.tape.trans h.tape,hb.output.trans h.output,Nat.le_trans h.size hb.size,fun k hk hn=>?_⟩
 refine Eq.trans ?_ (h.block k hk hn)
 have hne:k ≠ p.block:=fun e=>hn (e ▸ hp)
 unfold World.freeze
 split
 ·rfl
 ·simp [Array.getElem?_modify,hne.symm]
theorem dM {P:Program} (w:World) (t u ty e:TypeId) (i:TypeInfo) (ht:P.underlying t=some (.slice e)) (hu:P.underlying u=some .string) (hi:P.info? e=some i) (hz:i.zero=some (.int .u8 0))
  (hsize:i.size=1) (hby:i.bytes=1) (v:Value) (n:Nat) (xs:List Value) (hown:w.ownsRowF 0 e 1 v n xs) (s:ByteArray) (h63:n+s.size ≤ maxLen) (hbytes:n+s.size ≤ 140737488355328):
  ∃ v' w',(Builtin.append_ #[t,u] ty #[v,.string s]).run P w= .ok v' w'∧w'.ownsRowF 0 e 1 v' (n+s.size) (xs++Lib.strCells s)∧w.grownBy w' v.ownBlock∧∀ g,v'.ownBlock=some g→g < w.heap.size→v.ownBlock=some g:=by
 obtain ⟨v',w',h1,h2,h3,_⟩:=Lib.run_append_own_stringF (P:=P) w 0 t u ty e i ht hu hi hz hsize hby v n xs hown s h63 hbytes (Nat.zero_le _)
 refine ⟨v',w',h1,h2,h3,?_⟩
 rcases hown.2 with ⟨rfl,rfl⟩ | ⟨g,cap,cur,fz,rfl,hbg,hg,hfz,hnc,hcm,hcs,htake⟩
 ·obtain ⟨v2,w2,k1,k2,_,_⟩:=Lib.run_append_own_stringF (P:=P) w w.heap.size t u ty e i ht hu hi hz hsize hby (.slice none 0 0) 0 xs ⟨hown.1,.inl ⟨rfl,rfl⟩⟩ s h63 hbytes (Nat.le_refl _)
  rw [h1] at k1
  injection k1 with k1 k3
  subst k1; subst k3
  intro g hg hlt
  have:=(k2.lt g hg).1
  omega
 ·have hxl:xs.length=n:=by simpa using hown.1
  have hsmall:n+s.size ≤ 9223372036854775807:=by simp only [maxLen] at h63; omega
  by_cases hroom:n+s.size ≤ cap
  ·have hcs':cur.size=cap:=by simpa using hcs
   have hr:=Lib.run_append_room_stringF (P:=P) w t u ty e i ht hu hi hsize g n cap cur fz hg (by simpa using hfz) s hroom (by omega)
   rw [h1] at hr
   injection hr with k1 _
   subst k1
   intro g' hg' _
   exact hg'
  ·have holds:∀ j u,xs[j]? =some u→w.cell? ((⟨g,0,none⟩:Addr).add j)=some u:=hown.cells (g:=g) rfl
   have hr:=Lib.run_append_grow_string (P:=P) w t u ty e i (.int .u8 0) ht hu hi hz ⟨g,0,none⟩ n cap xs (by rw [hsize]; simpa using hxl) holds s (by omega) (by omega) (by rw [hby]; exact growslice_fits (by omega) (by omega))
   rw [h1] at hr
   injection hr with k1 _
   subst k1
   intro g' hg' hlt
   simp [Value.ownBlock] at hg'
   omega
theorem bt {P:Program} (w:World) (t ty e:TypeId) (i:TypeInfo) (z:Value) (ht:P.underlying t=some (.slice e)) (hi:P.info? e=some i) (hz:i.zero=some z)
  (hsize:i.size=1) (hby:i.bytes=1) (hzs:z.cells.size=1) (v:Value) (n:Nat) (xs:List Value) (hown:w.ownsRowF 0 e 1 v n xs)
  (a:Addr) (m c:Nat) (news:List Value) (hl:news.length=m * 1) (hnews:∀ j u,news[j]? =some u→w.cell? (a.add j)=some u) (h1':∀ u ∈ news,u.oneCell'=true)
  (h63:n+m ≤ maxLen) (hbytes:(n+m) * 1 ≤ 140737488355328):
  ∃ v' w',(Builtin.append_ #[t,t] ty #[v,.slice (some a) m c]).run P w= .ok v' w'∧w'.ownsRowF 0 e 1 v' (n+m) (xs++news)∧w.grownBy w' v.ownBlock∧∀ g,v'.ownBlock=some g→g < w.heap.size→v.ownBlock=some g:=by
 obtain ⟨v',w',h1,h2,h3,_⟩:=run_append_ownF (P:=P) w 0 t ty e i z 1 1 ht hi hz hsize hby hzs (by decide) v n xs hown a m c news hl hnews h1' h63 hbytes (Nat.zero_le _)
 refine ⟨v',w',h1,h2,h3,?_⟩
 rcases hown.2 with ⟨rfl,rfl⟩ | ⟨g,cap,cur,fz,rfl,hbg,hg,hfz,hnc,hcm,hcs,htake⟩
 ·obtain ⟨v2,w2,k1,k2,_,_⟩:=run_append_ownF (P:=P) w w.heap.size t ty e i z 1 1 ht hi hz hsize hby hzs (by decide) (.slice none 0 0) 0 xs ⟨hown.1,.inl ⟨rfl,rfl⟩⟩ a m c news hl hnews h1' h63 hbytes (Nat.le_refl _)
  rw [h1] at k1
  injection k1 with k1 k3
  subst k1; subst k3
  intro g hg hlt
  have:=(k2.lt g hg).1
  omega
 ·have hsmall:n+m ≤ 9223372036854775807:=by simp only [maxLen] at h63; omega
  by_cases hroom:n+m ≤ cap
  ·have hr:=run_append_roomF (P:=P) w t ty e i ht hi g n cap cur fz hg (by rw [hsize]; exact hfz) a m c news (by rw [hsize]; exact hl) hnews h1' hroom (by rw [hsize,hl,hcs,← Nat.add_mul]; exact Nat.mul_le_mul_right _ hroom)
   rw [h1] at hr
   injection hr with k1 _
   subst k1
   intro g' hg' _
   exact hg'
  ·have holds:∀ j u,xs[j]? =some u→w.cell? ((⟨g,0,none⟩:Addr).add j)=some u:=hown.cells (g:=g) rfl
   have hr:=run_append_grow (P:=P) w t ty e i z ht hi hz ⟨g,0,none⟩ n cap xs (by rw [hsize]; exact hown.1) holds a m c news (by rw [hsize]; exact hl) hnews (by omega) (by omega) (by rw [hby]; exact growslice_fits (by omega) hbytes)
   rw [h1] at hr
   injection hr with k1 _
   subst k1
   intro g' hg' hlt
   simp [Value.ownBlock] at hg'
   omega
theorem j8 {P:Program} {w:World} {ops:Array Oper} {rest:List Oper} {o:Oper} {a:Act} {Q:Exit→Act→World→Prop} (hgd:o.guard=none) (sl x:Operand) (t u:TypeId)
  (ho:o.op= .call { callee:= .builtin .append,args:=#[sl,x],argTypes:=#[t,u] }) (e:TypeId) (i:TypeInfo) (ht:P.underlying t=some (.slice e)) (hu:P.underlying u=some .string) (hi:P.info? e=some i) (hz:i.zero=some (.int .u8 0))
  (hsize:i.size=1) (hby:i.bytes=1) (v:Value) (n:Nat) (xs:List Value) (hs:a.eval sl=v) (hown:w.ownsRowF 0 e 1 v n xs) (s:ByteArray) (hx:a.eval x= .string s) (h63:n+s.size ≤ maxLen) (hbytes:n+s.size ≤ 140737488355328)
  (h:∀ v' w',w'.ownsRowF 0 e 1 v' (n+s.size) (xs++Lib.strCells s)→w.grownBy w' v.ownBlock→(∀ g,v'.ownBlock=some g→g < w.heap.size→v.ownBlock=some g)→wpList P ops Q rest (a.put o.dst v') w'):wpList P ops Q (o :: rest) a w:=by
 refine wpList_plain hgd fun K hK=>?_
 obtain ⟨v',w',hr,h2,h3,h4⟩:=dM (P:=P) w t u o.type e i ht hu hi hz hsize hby v n xs hown s h63 hbytes
 unfold Oper.wp execOp
 simp only [ho,resolve,invoke,builtin,Sem.run_bind,Sem.run_pure,Result.andThen_ok,List.map_toArray,List.map_cons,List.map_nil,hs,hx,hr]
 exact hK _ _ (h v' w' h2 h3 h4)
theorem Ru {P:Program} {w:World} {ops:Array Oper} {rest:List Oper} {o:Oper} {a:Act} {Q:Exit→Act→World→Prop} (hgd:o.guard=none) (sl x:Operand) (t:TypeId)
  (ho:o.op= .call { callee:= .builtin .append,args:=#[sl,x],argTypes:=#[t,t] }) (e:TypeId) (i:TypeInfo) (z:Value) (ht:P.underlying t=some (.slice e)) (hi:P.info? e=some i) (hz:i.zero=some z)
  (hsize:i.size=1) (hby:i.bytes=1) (hzs:z.cells.size=1) (v:Value) (n:Nat) (xs:List Value) (hs:a.eval sl=v) (hown:w.ownsRowF 0 e 1 v n xs)
  (ad:Addr) (m c:Nat) (news:List Value) (hx:a.eval x= .slice (some ad) m c) (hl:news.length=m * 1) (hnews:∀ j u,news[j]? =some u→w.cell? (ad.add j)=some u) (h1:∀ u ∈ news,u.oneCell'=true)
  (h63:n+m ≤ maxLen) (hbytes:(n+m) * 1 ≤ 140737488355328)
  (h:∀ v' w',w'.ownsRowF 0 e 1 v' (n+m) (xs++news)→w.grownBy w' v.ownBlock→(∀ g,v'.ownBlock=some g→g < w.heap.size→v.ownBlock=some g)→wpList P ops Q rest (a.put o.dst v') w'):wpList P ops Q (o :: rest) a w:=by
 refine wpList_plain hgd fun K hK=>?_
 obtain ⟨v',w',hr,h2,h3,h4⟩:=bt (P:=P) w t o.type e i z ht hi hz hsize hby hzs v n xs hown ad m c news hl hnews h1 h63 hbytes
 unfold Oper.wp execOp
 simp only [ho,resolve,invoke,builtin,Sem.run_bind,Sem.run_pure,Result.andThen_ok,List.map_toArray,List.map_cons,List.map_nil,hs,hx,hr]
 exact hK _ _ (h v' w' h2 h3 h4)
def yP (T:TypeId) (b:Nat) (p v:Value) (w:World):Prop:=w.heap[b]? =some (.cells #[p,v] T (0,0))
theorem Pt {T:TypeId} {b:Nat} {p v v':Value} {w:World} (hb:yP T b p v w):yP T b p v' (w.setCell ⟨b,1,none⟩ v'):=by
 have hb':w.heap[b]? =some (.cells #[p,v] T (0,0)):=hb
 simp [yP,World.setCell,Array.getElem?_modify,hb']
theorem P9 {e:TypeId} {n:Nat} {v:Value} {xs:List Value} {w:World} (h:w.ownsRowF 0 e 1 v n xs) {a:Addr} (u:Value) (hne:v.ownBlock ≠ some a.block):(w.setCell a u).ownsRowF 0 e 1 v n xs:=
 tN h fun g hg=>Below.heap_setCell w a u g fun e=>hne (by rw [hg,e])
theorem Nh {e T:TypeId} {b n:Nat} {v:Value} {xs:List Value} {w:World} {cs:Array Value} (h:w.ownsRowF 0 e 1 v n xs) (hb:w.heap[b]? =some (.cells cs T (0,0))) (hne:T ≠ e):v.ownBlock ≠ some b:=by
 rcases h.2 with ⟨rfl,_⟩ | ⟨g,cap,cur,fz,rfl,_,hg,_⟩
 ·simp [Value.ownBlock]
 ·intro h
  simp only [Value.ownBlock,Option.some.injEq] at h
  subst h
  rw [hb] at hg
  injection hg with hg
  injection hg with _ hg _
  exact hne hg
theorem Xy {e:TypeId} {g cap n:Nat} {xs:List Value} {w:World} (h:w.ownsRowF 0 e 1 (.slice (some ⟨g,0,none⟩) n cap) n xs):(w.drew.freeze ⟨g,0,none⟩ n).ownsRowF 0 e 1 (.slice (some ⟨g,0,none⟩) n cap) n xs:=by
 refine ⟨h.1,?_⟩
 rcases h.2 with ⟨hv,_⟩ | ⟨g',cap',cur,fz,hv,hbg,hg,hfz,rest⟩
 ·cases hv
 ·injection hv with ha _ hcap
  injection ha with ha
  injection ha with hgg _ _
  subst hgg; subst hcap
  have hg':w.drew.heap[g]? =some (.cells cur e fz):=hg
  unfold World.freeze
  split
  ·exact .inr ⟨g,_,cur,fz,rfl,hbg,hg',hfz,rest⟩
  ·obtain ⟨lo,hi⟩:=fz
   refine .inr ⟨g,_,cur,(if lo == hi then (0,0+n) else (min lo 0,max hi (0+n))),rfl,hbg,by simp [Array.getElem?_modify,hg'],?_,rest⟩
   simp only at hfz
   split <;> simp <;> omega
end Go.Vm
set_option linter.all false
namespace Go.Vm
open Go.RowKit Go.Proofs
def oo (T:TypeId):Prop:=liesAt Tryz.prog Tryz.prog.depth T (2 / Tryz.prog.cellsOf T) 0 80 1=true∧T ≠ 5
set_option maxHeartbeats 1000000 in
set_option maxRecDepth 100000 in
theorem QG (b:Nat) (w:World) (h0:w.cell? ⟨b,0,none⟩=some (.pointer (some ⟨b,0,none⟩))):
  Calls Tryz.prog 54 #[.pointer (some ⟨b,0,none⟩)] w fun e w'=>e= .returned (.tuple #[])∧w'=w:=by
 obtain ⟨j,hj,_⟩:=Option.map_eq_some_iff.1 (show (Tryz.prog.info? 80).map (·.size)=some 2 by kernel_rfl)
 go_enter Tryz.func54,Tryz.ntmps54
 go_wp2
 rw [Lib.run_neq_ptr_same w _ Tryz.underlying77 hj]
 go_wp2
 go_end0
 exact ⟨rfl,rfl⟩
set_option maxHeartbeats 1000000 in
set_option maxRecDepth 100000 in
theorem U2 {T:TypeId} (hT:oo T) (b:Nat) (w:World) (h0:w.cell? ⟨b,0,none⟩=some (.pointer none)) (hsh:w.shape? b=some (T,2)) (hfz:w.frozen? ⟨b,0,none⟩=false):
  Calls Tryz.prog 54 #[.pointer (some ⟨b,0,none⟩)] w fun e w'=>e= .returned (.tuple #[])∧w'=w.setCell ⟨b,0,none⟩ (.pointer (some ⟨b,0,none⟩)):=by
 obtain ⟨j,hj,hjs⟩:=Option.map_eq_some_iff.1 (show (Tryz.prog.info? 80).map (·.size)=some 2 by kernel_rfl)
 go_enter Tryz.func54,Tryz.ntmps54
 go_wp2
 rw [Lib.run_to_unsafe w ⟨b,0,none⟩ Tryz.underlying77 Tryz.underlying83 hj (by rw [hjs]; decide) hsh (Nat.zero_lt_succ 1)]
 simp only [Result.andThen]
 rw [Oper.upon_value]
 go_wp2
 rw [run_callFunc_extern Tryz.func63 (by kernel_rfl) (by kernel_rfl) (by kernel_rfl) (e:=Extern.AbiNoEscape.same) (by kernel_rfl)]
 rw [Lib.run_noEscape]
 simp only [Result.andThen]
 rw [Oper.upon_value]
 go_wp2
 rw [Lib.run_from_unsafe w ⟨b,0,none⟩ Tryz.underlying83 Tryz.underlying77 hj hsh hT.1]
 simp only [Result.andThen]
 rw [Oper.upon_value]
 go_wp2
 go_end0
 exact ⟨rfl,rfl⟩
theorem dr {T:TypeId} (hT:oo T) (b:Nat) (p v:Value) (w:World) (hp:p= .pointer none ∨ p= .pointer (some ⟨b,0,none⟩)) (hb:yP T b p v w):
  Calls Tryz.prog 54 #[.pointer (some ⟨b,0,none⟩)] w fun e w'=>e= .returned (.tuple #[])∧yP T b (.pointer (some ⟨b,0,none⟩)) v w'∧Only [b] w w':=by
 have c0:w.cell? ⟨b,0,none⟩=some p:=by rw [Lib.cell_of_heap hb]; rfl
 rcases hp with rfl | rfl
 ·refine (U2 hT b w c0 (by simp only [yP] at hb; simp [World.shape?,hb]) (Lib.frozen_of_heap hb 0)).mono ?_
  rintro e w' ⟨rfl,rfl⟩
  refine ⟨rfl,?_,(Only.refl _ w).setCell (p:=⟨b,0,none⟩) (by simp) _⟩
  have hb':w.heap[b]? =some (.cells #[.pointer none,v] T (0,0)):=hb
  simp [yP,World.setCell,Array.getElem?_modify,hb']
 ·refine (QG b w c0).mono ?_
  rintro e w' ⟨rfl,rfl⟩
  exact ⟨rfl,hb,Only.refl _ _⟩
set_option maxHeartbeats 2000000 in
set_option maxRecDepth 100000 in
theorem gA {T:TypeId} (hT:oo T) (b:Nat) (p v:Value) (bs:List Value) (s:ByteArray) (w:World) (hp:p= .pointer none ∨ p= .pointer (some ⟨b,0,none⟩)) (hb:yP T b p v w)
  (hown:w.ownsRowF 0 5 1 v bs.length bs) (hne:v.ownBlock ≠ some b) (hlen:bs.length+s.size ≤ 140737488355328):
  Calls Tryz.prog 36 #[.pointer (some ⟨b,0,none⟩),.string s] w fun e w'=>e= .returned (.tuple #[.int .i64 s.size,.nilIface])∧∃ v',yP T b (.pointer (some ⟨b,0,none⟩)) v' w'∧
   w'.ownsRowF 0 5 1 v' (bs++Lib.strCells s).length (bs++Lib.strCells s)∧v'.ownBlock ≠ some b∧(∀ g,v'.ownBlock=some g→g < w.heap.size→v.ownBlock=some g)∧Only (b :: v.ownBlock.toList) w w':=by
 obtain ⟨i0,hi,hz0,hz1,hz2⟩:=info_parts (show (Tryz.prog.info? 5).map (fun i=>(i.zero,i.size,i.bytes))=some (some (.int .u8 0),1,1) by kernel_rfl)
 have mixed:Tryz.prog.follows .mixedOrders=true:=by kernel_rfl
 go_enter Tryz.func36,Tryz.ntmps36
 go_wp2_with (go_at_call 54; refine (dr hT b p v _ hp hb).mono ?_)
 rintro e w1 ⟨rfl,hbk,hb1⟩
 have hbk':w1.heap[b]? =some (.cells #[.pointer (some ⟨b,0,none⟩),v] T (0,0)):=hbk
 have hown1:w1.ownsRowF 0 5 1 v bs.length bs:=tN hown fun g hg=>hb1.block g (hown.lt g hg).2 (by simp only [List.mem_singleton]; rintro rfl; exact hne hg)
 have c0:w1.cell? ⟨b,0,none⟩=some (.pointer (some ⟨b,0,none⟩)):=by rw [Lib.cell_of_heap hbk']; rfl
 have c1:w1.cell? ⟨b,1,none⟩=some v:=by rw [Lib.cell_of_heap hbk']; rfl
 go_wp2_with (at_builtin; refine j8 rfl _ _ 78 9 rfl 5 i0 Tryz.underlying78 Tryz.underlying9 hi hz0 hz1 hz2 _ _ _ rfl hown1 s rfl ?c3 ?c4 ?_)
 case c3=>unfold maxLen; omega
 case c4=>omega
 intro v' w2 hown' hgrow hnew
 have hlt:b < w1.heap.size:=vc hbk'
 have hb2:w2.heap[b]? =some (.cells #[.pointer (some ⟨b,0,none⟩),v] T (0,0)):=by
  rw [hgrow.block b hlt (fun e=>hne e.symm)]
  exact hbk'
 have d0:w2.cell? ⟨b,0,none⟩=some (.pointer (some ⟨b,0,none⟩)):=by rw [Lib.cell_of_heap hb2]; rfl
 have d1:w2.cell? ⟨b,1,none⟩=some v:=by rw [Lib.cell_of_heap hb2]; rfl
 have f1:w2.frozen? ⟨b,1,none⟩=false:=Lib.frozen_of_heap hb2 1
 obtain ⟨ao,n',cap,rfl⟩:∃ ao n' cap,v'= .slice ao n' cap:=by
  rcases hown'.2 with ⟨hv,_⟩ | ⟨g,cap,cur,fz,hv,_⟩
  ·exact ⟨_,_,_,hv⟩
  ·exact ⟨_,_,_,hv⟩
 have hneb:Value.ownBlock (.slice ao n' cap) ≠ some b:=Nh hown' hb2 hT.2
 go_wp2
 go_ret2
 refine ⟨rfl,_,Pt hb2,P9 (by simpa [Lib.strCells_length] using hown') _ hneb,hneb,fun g hg hlt'=>hnew g hg (Nat.lt_of_lt_of_le hlt' hb1.size),?_⟩
 exact ((hb1.wide (by simp)).grown hgrow (fun k hk=>by rw [hk]; simp)).setCell (p:=⟨b,1,none⟩) (by simp) _
set_option maxHeartbeats 2000000 in
set_option maxRecDepth 100000 in
theorem cE {T:TypeId} (hT:oo T) (b g cap:Nat) (p:Value) (l:List UInt8) (w:World) (hb:yP T b p (.slice (some ⟨g,0,none⟩) l.length cap) w) (h0:l ≠ []) (cur:Array Value) (fz:Nat×Nat)
  (hown:w.ownsRowF 0 5 1 (.slice (some ⟨g,0,none⟩) l.length cap) l.length (Lib.byteCells l)) (hg:w.heap[g]? =some (.cells cur 5 fz)) (hnc:l.length ≤ cap) (hcm:cap ≤ maxLen) (hcs:cur.size=cap * 1) (hgb:g ≠ b):
  Calls Tryz.prog 47 #[.pointer (some ⟨b,0,none⟩)] w fun e w'=>e= .returned (.string ⟨l.toArray⟩)∧yP T b p (.slice (some ⟨g,0,none⟩) l.length cap) w'∧w'.ownsRowF 0 5 1 (.slice (some ⟨g,0,none⟩) l.length cap) l.length (Lib.byteCells l)∧Only (b :: (Value.ownBlock (.slice (some ⟨g,0,none⟩) l.length cap)).toList) w w':=by
 have hl0:l.length ≠ 0:=by simpa using h0
 have c1:w.drew.cell? ⟨b,1,none⟩=some (.slice (some ⟨g,0,none⟩) l.length cap):=by
  have:w.drew.heap[b]? =some (.cells #[p,.slice (some ⟨g,0,none⟩) l.length cap] T (0,0)):=hb
  rw [Lib.cell_of_heap this]; rfl
 have hSD:(Builtin.unsafeSliceData_ #[78] 123 #[.slice (some ⟨g,0,none⟩) l.length cap]).run Tryz.prog w.drew= .ok (.pointer (some ⟨g,0,none⟩)) w.drew:=
  Lib.run_unsafeSliceData_row _ _ _ _ _ _ (by omega)
 have hUS:(Builtin.unsafeString_ #[123,3] 9 #[.pointer (some ⟨g,0,none⟩),.int .i64 l.length]).run Tryz.prog w.drew= .ok (.string ⟨l.toArray⟩) (w.drew.freeze ⟨g,0,none⟩ l.length):=by
  refine Lib.run_unsafeString_row w.drew 123 3 9 5 Tryz.underlying123 (by kernel_rfl) g cur.size (by have hg':w.drew.heap[g]? =some (.cells cur 5 fz):=hg; simp [World.shape?,hg']) l h0 (by omega) (by unfold maxLen at hcm; omega) ?_
  intro j x hx
  exact hown.cells (g:=g) rfl j (.int .u8 x.toNat) (by simp [Lib.byteCells,hx])
 have hb2:yP T b p (.slice (some ⟨g,0,none⟩) l.length cap) (w.drew.freeze ⟨g,0,none⟩ l.length):=
  (((Only.refl [g] w).drew.freeze (p:=⟨g,0,none⟩) (by simp) l.length).block b (vc hb) (by simpa using hgb.symm)).trans hb
 have hown2:(w.drew.freeze ⟨g,0,none⟩ l.length).ownsRowF 0 5 1 (.slice (some ⟨g,0,none⟩) l.length cap) l.length (Lib.byteCells l):=Xy hown
 have mixed:Tryz.prog.follows .mixedOrders=true:=by kernel_rfl
 go_enter Tryz.func47,Tryz.ntmps47
 go_wp2
 go_region
 all_goals (go_wp2; go_ret; exact ⟨rfl,hb2,hown2,(Only.refl _ w).drew.freeze (p:=⟨g,0,none⟩) (by simp [Value.ownBlock]) _⟩)
set_option maxHeartbeats 2000000 in
set_option maxRecDepth 100000 in
theorem fu {T:TypeId} (hT:oo T) (b:Nat) (p:Value) (w:World) (hb:yP T b p (.slice none 0 0) w) (hown:w.ownsRowF 0 5 1 (.slice none 0 0) 0 []):
  Calls Tryz.prog 47 #[.pointer (some ⟨b,0,none⟩)] w fun e w'=>e= .returned (.string ⟨#[]⟩)∧yP T b p (.slice none 0 0) w'∧w'.ownsRowF 0 5 1 (.slice none 0 0) 0 []∧Only (b :: (Value.ownBlock (.slice none 0 0)).toList) w w':=by
 have hUS:∀ (W:World) (q:Option Addr),(Builtin.unsafeString_ #[123,3] 9 #[.pointer q,.int .i64 0]).run Tryz.prog W= .ok (.string .empty) W:=fun W q=>Lib.run_unsafeString_none W _ _ _ q
 have c1:w.drew.cell? ⟨b,1,none⟩=some (.slice none 0 0):=by
  have:w.drew.heap[b]? =some (.cells #[p,.slice none 0 0] T (0,0)):=hb
  rw [Lib.cell_of_heap this]; rfl
 have hSD:(Builtin.unsafeSliceData_ #[78] 123 #[.slice none 0 0]).run Tryz.prog w.drew= .ok (.pointer none) w.drew:=rfl
 have mixed:Tryz.prog.follows .mixedOrders=true:=by kernel_rfl
 go_enter Tryz.func47,Tryz.ntmps47
 go_wp2
 go_region
 all_goals (go_wp2; go_ret; exact ⟨rfl,hb,hown,(Only.refl _ w).drew⟩)
set_option maxHeartbeats 2000000 in
set_option maxRecDepth 100000 in
theorem gn {T:TypeId} (hT:oo T) (b g cap:Nat) (p:Value) (w:World) (hc0:cap ≠ 0) (hb:yP T b p (.slice (some ⟨g,0,none⟩) 0 cap) w) (hown:w.ownsRowF 0 5 1 (.slice (some ⟨g,0,none⟩) 0 cap) 0 []):
  Calls Tryz.prog 47 #[.pointer (some ⟨b,0,none⟩)] w fun e w'=>e= .returned (.string ⟨#[]⟩)∧yP T b p (.slice (some ⟨g,0,none⟩) 0 cap) w'∧w'.ownsRowF 0 5 1 (.slice (some ⟨g,0,none⟩) 0 cap) 0 []∧Only (b :: (Value.ownBlock (.slice (some ⟨g,0,none⟩) 0 cap)).toList) w w':=by
 have hUS:∀ (W:World) (q:Option Addr),(Builtin.unsafeString_ #[123,3] 9 #[.pointer q,.int .i64 0]).run Tryz.prog W= .ok (.string .empty) W:=fun W q=>Lib.run_unsafeString_none W _ _ _ q
 have c1:w.drew.cell? ⟨b,1,none⟩=some (.slice (some ⟨g,0,none⟩) 0 cap):=by
  have:w.drew.heap[b]? =some (.cells #[p,.slice (some ⟨g,0,none⟩) 0 cap] T (0,0)):=hb
  rw [Lib.cell_of_heap this]; rfl
 have hSD:(Builtin.unsafeSliceData_ #[78] 123 #[.slice (some ⟨g,0,none⟩) 0 cap]).run Tryz.prog w.drew= .ok (.pointer (some ⟨g,0,none⟩)) w.drew:=
  Lib.run_unsafeSliceData_row _ _ _ _ _ _ hc0
 clear hc0
 have mixed:Tryz.prog.follows .mixedOrders=true:=by kernel_rfl
 go_enter Tryz.func47,Tryz.ntmps47
 go_wp2
 go_region
 all_goals (go_wp2; go_ret; exact ⟨rfl,hb,hown,(Only.refl _ w).drew⟩)
set_option maxHeartbeats 2000000 in
set_option maxRecDepth 100000 in
theorem dl {T:TypeId} (hT:oo T) (b g:Nat) (p:Value) (cur:Array Value) (fz:Nat×Nat) (w:World) (hb:yP T b p (.slice (some ⟨g,0,none⟩) 0 0) w) (hown:w.ownsRowF 0 5 1 (.slice (some ⟨g,0,none⟩) 0 0) 0 []) (hg:w.heap[g]? =some (.cells cur 5 fz)):
  Calls Tryz.prog 47 #[.pointer (some ⟨b,0,none⟩)] w fun e w'=>e= .returned (.string ⟨#[]⟩)∧yP T b p (.slice (some ⟨g,0,none⟩) 0 0) w'∧w'.ownsRowF 0 5 1 (.slice (some ⟨g,0,none⟩) 0 0) 0 []∧Only (b :: (Value.ownBlock (.slice (some ⟨g,0,none⟩) 0 0)).toList) w w':=by
 have hUS:∀ (W:World) (q:Option Addr),(Builtin.unsafeString_ #[123,3] 9 #[.pointer q,.int .i64 0]).run Tryz.prog W= .ok (.string .empty) W:=fun W q=>Lib.run_unsafeString_none W _ _ _ q
 have hlt:b < w.heap.size:=vc hb
 have c1:w.drew.cell? ⟨b,1,none⟩=some (.slice (some ⟨g,0,none⟩) 0 0):=by
  have:w.drew.heap[b]? =some (.cells #[p,.slice (some ⟨g,0,none⟩) 0 0] T (0,0)):=hb
  rw [Lib.cell_of_heap this]; rfl
 have hSD:(Builtin.unsafeSliceData_ #[78] 123 #[.slice (some ⟨g,0,none⟩) 0 0]).run Tryz.prog w.drew= .ok (.pointer (some ⟨w.drew.heap.size,0,none⟩)) (w.drew.alloc (.view ⟨g,0,none⟩ 5)):=
  Lib.run_unsafeSliceData_zero w.drew _ _ 5 Tryz.underlying123 ⟨g,0,none⟩ 0 (5,cur.size) (by have hg':w.drew.heap[g]? =some (.cells cur 5 fz):=hg; simp [World.shape?,hg'])
 have hb2:yP T b p (.slice (some ⟨g,0,none⟩) 0 0) (w.drew.alloc (.view ⟨g,0,none⟩ 5)):=(Lib.alloc_old w.drew _ b hlt).trans hb
 have c2:(w.drew.alloc (.view ⟨g,0,none⟩ 5)).cell? ⟨b,1,none⟩=some (.slice (some ⟨g,0,none⟩) 0 0):=by
  have:(w.drew.alloc (.view ⟨g,0,none⟩ 5)).heap[b]? =some (.cells #[p,.slice (some ⟨g,0,none⟩) 0 0] T (0,0)):=hb2
  rw [Lib.cell_of_heap this]; rfl
 have c3:(w.alloc (.view ⟨g,0,none⟩ 5)).drew.cell? ⟨b,1,none⟩=some (.slice (some ⟨g,0,none⟩) 0 0):=c2
 have c0:w.cell? ⟨b,1,none⟩=some (.slice (some ⟨g,0,none⟩) 0 0):=c1
 have hown2:(w.drew.alloc (.view ⟨g,0,none⟩ 5)).ownsRowF 0 5 1 (.slice (some ⟨g,0,none⟩) 0 0) 0 []:=
  tN hown fun k hk=>by
   obtain rfl:g=k:=by simpa [Value.ownBlock] using hk
   exact Lib.alloc_old w.drew _ g (vc hg)
 have mixed:Tryz.prog.follows .mixedOrders=true:=by kernel_rfl
 go_enter Tryz.func47,Tryz.ntmps47
 go_wp2
 go_region
 all_goals (go_wp2; go_ret; exact ⟨rfl,hb2,hown2,(Only.refl _ w).drew.alloc _⟩)
theorem Z6 {T:TypeId} (hT:oo T) (b:Nat) (p v:Value) (l:List UInt8) (w:World) (hb:yP T b p v w)
  (hown:w.ownsRowF 0 5 1 v l.length (Lib.byteCells l)) (hne:v.ownBlock ≠ some b):
  Calls Tryz.prog 47 #[.pointer (some ⟨b,0,none⟩)] w fun e w'=>e= .returned (.string ⟨l.toArray⟩)∧yP T b p v w'∧w'.ownsRowF 0 5 1 v l.length (Lib.byteCells l)∧Only (b :: v.ownBlock.toList) w w':=by
 cases l with
 | nil=>
   rcases hown.2 with ⟨rfl,_⟩ | ⟨g,cap,cur,fz,rfl,hbg,hg,hfz,hnc,hcm,hcs,htake⟩
   ·exact fu hT b p w hb hown
   ·by_cases hc0:cap=0
    ·subst hc0
     exact dl hT b g p cur fz w hb hown hg
    ·exact gn hT b g cap p w hc0 hb hown
 | cons x r=>
   rcases hown.2 with ⟨_,hz⟩ | ⟨g,cap,cur,fz,rfl,hbg,hg,hfz,hnc,hcm,hcs,htake⟩
   ·simp at hz
   ·exact cE hT b g cap p (x :: r) w hb (by simp) cur fz hown hg hnc hcm hcs (fun e=>hne (by simp [Value.ownBlock,e]))
end Go.Vm
