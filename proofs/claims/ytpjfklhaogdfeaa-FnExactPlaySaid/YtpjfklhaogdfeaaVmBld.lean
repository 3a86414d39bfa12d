/- The methods of a strings.Builder, with the frame that a call is asked for: all but the builder's own blocks stands. -/
import Derived.Test.YtpjfklhaogdfeaaVmRes
import Derived.Lib.Builder
import Derived.Lib.FrozenHead2
import Derived.Below
set_option linter.unusedVariables false
namespace Go.Vm
open Go.RowKit
structure Only (ks:List Nat) (w w':World):Prop where
 os:w'.os=w.os
 tape:w'.tape=w.tape
 output:w'.output=w.output
 size:w.heap.size ≤ w'.heap.size
 block:∀ k,k < w.heap.size→k ∉ ks→w'.heap[k]? =w.heap[k]?
theorem Only.refl (ks:List Nat) (w:World):Only ks w w:=⟨rfl,rfl,rfl,Nat.le_refl _,fun _ _ _=>rfl⟩
theorem Only.trans {ks:List Nat} {a b c:World} (h:Only ks a b) (k:Only ks b c):Only ks a c:=
 ⟨k.os.trans h.os,k.tape.trans h.tape,k.output.trans h.output,Nat.le_trans h.size k.size,fun j hj hn=>(k.block j (Nat.lt_of_lt_of_le hj h.size) hn).trans (h.block j hj hn)⟩
theorem Only.wide {ks ks':List Nat} {w w':World} (h:Only ks w w') (hs:∀ k ∈ ks,k ∈ ks'):Only ks' w w':=⟨h.os,h.tape,h.output,h.size,fun k hk hn=>h.block k hk fun hm=>hn (hs k hm)⟩
theorem Only.drew {ks:List Nat} {a w:World} (h:Only ks a w):Only ks a w.drew:=⟨h.os,h.tape,h.output,h.size,h.block⟩
theorem Only.alloc {ks:List Nat} {a w:World} (h:Only ks a w) (o:Obj):Only ks a (w.alloc o):=
 ⟨h.os,h.tape,h.output,Nat.le_trans h.size (by simp),fun k hk hn=>(Below.heap_alloc w o k (Nat.lt_of_lt_of_le hk h.size)).trans (h.block k hk hn)⟩
theorem Only.setCell {ks:List Nat} {a w:World} (h:Only ks a w) {p:Addr} (hp:p.block ∈ ks) (u:Value):Only ks a (w.setCell p u):=by
 have hb:=(Below.refl p.block w).setCell (p:=p) (Nat.le_refl _) u
 exact ⟨hb.os.trans h.os,hb.tape.trans h.tape,hb.output.trans h.output,Nat.le_trans h.size hb.size,fun k hk hn=>(Below.heap_setCell w p u k fun e=>hn (e ▸ hp)).trans (h.block k hk hn)⟩
theorem Only.grown {ks:List Nat} {a w w':World} {row:Option Nat} (h:Only ks a w) (hg:w.grownBy w' row) (hr:∀ k,row=some k→k ∈ ks):Only ks a w':=
 h.trans ⟨hg.os,hg.tape,hg.output,hg.size,fun k hk hn=>hg.block k hk fun e=>hn (hr k e.symm)⟩
theorem Only.freeze {ks:List Nat} {a w:World} (h:Only ks a w) {p:Addr} (hp:p.block ∈ ks) (n:Nat):Only ks a (w.freeze p n):=by
 have hb:Below p.block w (w.freeze p n):=Lib.below_freeze (Below.refl _ w) (Nat.le_refl _) n
 refine ⟨hb.os.trans h.os,hb.tape.trans h.tape,hb.output.trans h.output,Nat.le_trans h.size hb.size,fun k hk hn=>?_⟩
 refine Eq.trans ?_ (h.block k hk hn)
 have hne:k ≠ p.block:=fun e=>hn (e ▸ hp)
 unfold World.freeze
 split
 ·rfl
 ·simp [Array.getElem?_modify,hne.symm]
theorem bq {P:Program} (w:World) (t u ty e:TypeId) (i:TypeInfo) (ht:P.underlying t=some (.slice e)) (hu:P.underlying u=some .string) (hi:P.info? e=some i) (hz:i.zero=some (.int .u8 0))
  (hsize:i.size=1) (hby:i.bytes=1) (v:Value) (n:Nat) (xs:List Value) (hown:w.ownsRowF 0 e 1 v n xs) (s:ByteArray) (h63:n+s.size ≤ maxLen) (hbytes:n+s.size ≤ 140737488355328):
  ∃ v' w',(Builtin.append_ #[t,u] ty #[v,.string s]).run P w= .ok v' w'∧w'.ownsRowF 0 e 1 v' (n+s.size) (xs++Lib.strCells s)∧w.grownBy w' v.ownBlock∧∀ g,v'.ownBlock=some g→g < w.heap.size→v.ownBlock=some g:=by
 obtain ⟨v',w',h1,h2,h3,_⟩:=Lib.run_append_own_stringF (P:=P) w 0 t u ty e i ht hu hi hz hsize hby v n xs hown s h63 hbytes (Nat.zero_le _)
 refine ⟨v',w',h1,h2,h3,?_⟩
 rcases hown.2 with ⟨rfl,rfl⟩ | ⟨g,cap,cur,fz,rfl,hbg,hg,hfz,hnc,hcm,hcs,htake⟩
 ·obtain ⟨v2,w2,k1,k2,_,_⟩:=Lib.run_append_own_stringF (P:=P) w w.heap.size t u ty e i ht hu hi hz hsize hby (.slice none 0 0) 0 xs ⟨hown.1,.inl ⟨rfl,rfl⟩⟩ s h63 hbytes (Nat.le_refl _)
  rw [h1] at k1
  injection k1 with k1 k3
  subst k1; subst k3
  intro g hg hlt
  have:=(k2.lt g hg).1
  omega
 ·have hxl:xs.length=n:=by simpa using hown.1
  have hsmall:n+s.size ≤ 9223372036854775807:=by simp only [maxLen] at h63; omega
  by_cases hroom:n+s.size ≤ cap
  ·have hcs':cur.size=cap:=by simpa using hcs
   have hr:=Lib.run_append_room_stringF (P:=P) w t u ty e i ht hu hi hsize g n cap cur fz hg (by simpa using hfz) s hroom (by omega)
   rw [h1] at hr
   injection hr with k1 _
   subst k1
   intro g' hg' _
   exact hg'
  ·have holds:∀ j u,xs[j]? =some u→w.cell? ((⟨g,0,none⟩:Addr).add j)=some u:=hown.cells (g:=g) rfl
   have hr:=Lib.run_append_grow_string (P:=P) w t u ty e i (.int .u8 0) ht hu hi hz ⟨g,0,none⟩ n cap xs (by rw [hsize]; simpa using hxl) holds s (by omega) (by omega) (by rw [hby]; exact growslice_fits (by omega) (by omega))
   rw [h1] at hr
   injection hr with k1 _
   subst k1
   intro g' hg' hlt
   simp [Value.ownBlock] at hg'
   omega
theorem ZM {P:Program} (w:World) (t ty e:TypeId) (i:TypeInfo) (z:Value) (ht:P.underlying t=some (.slice e)) (hi:P.info? e=some i) (hz:i.zero=some z)
  (hsize:i.size=1) (hby:i.bytes=1) (hzs:z.cells.size=1) (v:Value) (n:Nat) (xs:List Value) (hown:w.ownsRowF 0 e 1 v n xs)
  (a:Addr) (m c:Nat) (news:List Value) (hl:news.length=m * 1) (hnews:∀ j u,news[j]? =some u→w.cell? (a.add j)=some u) (h1':∀ u ∈ news,u.oneCell'=true)
  (h63:n+m ≤ maxLen) (hbytes:(n+m) * 1 ≤ 140737488355328):
  ∃ v' w',(Builtin.append_ #[t,t] ty #[v,.slice (some a) m c]).run P w= .ok v' w'∧w'.ownsRowF 0 e 1 v' (n+m) (xs++news)∧w.grownBy w' v.ownBlock∧∀ g,v'.ownBlock=some g→g < w.heap.size→v.ownBlock=some g:=by
 obtain ⟨v',w',h1,h2,h3,_⟩:=run_append_ownF (P:=P) w 0 t ty e i z 1 1 ht hi hz hsize hby hzs (by decide) v n xs hown a m c news hl hnews h1' h63 hbytes (Nat.zero_le _)
 refine ⟨v',w',h1,h2,h3,?_⟩
 rcases hown.2 with ⟨rfl,rfl⟩ | ⟨g,cap,cur,fz,rfl,hbg,hg,hfz,hnc,hcm,hcs,htake⟩
 ·obtain ⟨v2,w2,k1,k2,_,_⟩:=run_append_ownF (P:=P) w w.heap.size t ty e i z 1 1 ht hi hz hsize hby hzs (by decide) (.slice none 0 0) 0 xs ⟨hown.1,.inl ⟨rfl,rfl⟩⟩ a m c news hl hnews h1' h63 hbytes (Nat.le_refl _)
  rw [h1] at k1
  injection k1 with k1 k3
  subst k1; subst k3
  intro g hg hlt
  have:=(k2.lt g hg).1
  omega
 ·have hsmall:n+m ≤ 9223372036854775807:=by simp only [maxLen] at h63; omega
  by_cases hroom:n+m ≤ cap
  ·have hr:=run_append_roomF (P:=P) w t ty e i ht hi g n cap cur fz hg (by rw [hsize]; exact hfz) a m c news (by rw [hsize]; exact hl) hnews h1' hroom (by rw [hsize,hl,hcs,← Nat.add_mul]; exact Nat.mul_le_mul_right _ hroom)
   rw [h1] at hr
   injection hr with k1 _
   subst k1
   intro g' hg' _
   exact hg'
  ·have holds:∀ j u,xs[j]? =some u→w.cell? ((⟨g,0,none⟩:Addr).add j)=some u:=hown.cells (g:=g) rfl
   have hr:=run_append_grow (P:=P) w t ty e i z ht hi hz ⟨g,0,none⟩ n cap xs (by rw [hsize]; exact hown.1) holds a m c news (by rw [hsize]; exact hl) hnews (by omega) (by omega) (by rw [hby]; exact growslice_fits (by omega) hbytes)
   rw [h1] at hr
   injection hr with k1 _
   subst k1
   intro g' hg' hlt
   simp [Value.ownBlock] at hg'
   omega
theorem fk {P:Program} {w:World} {ops:Array Oper} {rest:List Oper} {o:Oper} {a:Act} {Q:Exit→Act→World→Prop} (hgd:o.guard=none) (sl x:Operand) (t u:TypeId)
  (ho:o.op= .call { callee:= .builtin .append,args:=#[sl,x],argTypes:=#[t,u] }) (e:TypeId) (i:TypeInfo) (ht:P.underlying t=some (.slice e)) (hu:P.underlying u=some .string) (hi:P.info? e=some i) (hz:i.zero=some (.int .u8 0))
  (hsize:i.size=1) (hby:i.bytes=1) (v:Value) (n:Nat) (xs:List Value) (hs:a.eval sl=v) (hown:w.ownsRowF 0 e 1 v n xs) (s:ByteArray) (hx:a.eval x= .string s) (h63:n+s.size ≤ maxLen) (hbytes:n+s.size ≤ 140737488355328)
  (h:∀ v' w',w'.ownsRowF 0 e 1 v' (n+s.size) (xs++Lib.strCells s)→w.grownBy w' v.ownBlock→(∀ g,v'.ownBlock=some g→g < w.heap.size→v.ownBlock=some g)→wpList P ops Q rest (a.put o.dst v') w'):wpList P ops Q (o :: rest) a w:=by
 refine wpList_plain hgd fun K hK=>?_
 obtain ⟨v',w',hr,h2,h3,h4⟩:=bq (P:=P) w t u o.type e i ht hu hi hz hsize hby v n xs hown s h63 hbytes
 unfold Oper.wp execOp
 simp only [ho,resolve,invoke,builtin,Sem.run_bind,Sem.run_pure,Result.andThen_ok,List.map_toArray,List.map_cons,List.map_nil,hs,hx,hr]
 exact hK _ _ (h v' w' h2 h3 h4)
theorem Pn {P:Program} {w:World} {ops:Array Oper} {rest:List Oper} {o:Oper} {a:Act} {Q:Exit→Act→World→Prop} (hgd:o.guard=none) (sl x:Operand) (t:TypeId)
  (ho:o.op= .call { callee:= .builtin .append,args:=#[sl,x],argTypes:=#[t,t] }) (e:TypeId) (i:TypeInfo) (z:Value) (ht:P.underlying t=some (.slice e)) (hi:P.info? e=some i) (hz:i.zero=some z)
  (hsize:i.size=1) (hby:i.bytes=1) (hzs:z.cells.size=1) (v:Value) (n:Nat) (xs:List Value) (hs:a.eval sl=v) (hown:w.ownsRowF 0 e 1 v n xs)
  (ad:Addr) (m c:Nat) (news:List Value) (hx:a.eval x= .slice (some ad) m c) (hl:news.length=m * 1) (hnews:∀ j u,news[j]? =some u→w.cell? (ad.add j)=some u) (h1:∀ u ∈ news,u.oneCell'=true)
  (h63:n+m ≤ maxLen) (hbytes:(n+m) * 1 ≤ 140737488355328)
  (h:∀ v' w',w'.ownsRowF 0 e 1 v' (n+m) (xs++news)→w.grownBy w' v.ownBlock→(∀ g,v'.ownBlock=some g→g < w.heap.size→v.ownBlock=some g)→wpList P ops Q rest (a.put o.dst v') w'):wpList P ops Q (o :: rest) a w:=by
 refine wpList_plain hgd fun K hK=>?_
 obtain ⟨v',w',hr,h2,h3,h4⟩:=ZM (P:=P) w t o.type e i z ht hi hz hsize hby hzs v n xs hown ad m c news hl hnews h1 h63 hbytes
 unfold Oper.wp execOp
 simp only [ho,resolve,invoke,builtin,Sem.run_bind,Sem.run_pure,Result.andThen_ok,List.map_toArray,List.map_cons,List.map_nil,hs,hx,hr]
 exact hK _ _ (h v' w' h2 h3 h4)
def xi (T:TypeId) (b:Nat) (p v:Value) (w:World):Prop:=w.heap[b]? =some (.cells #[p,v] T (0,0))
theorem Nd {T:TypeId} {b:Nat} {p v v':Value} {w:World} (hb:xi T b p v w):xi T b p v' (w.setCell ⟨b,1,none⟩ v'):=by
 have hb':w.heap[b]? =some (.cells #[p,v] T (0,0)):=hb
 simp [xi,World.setCell,Array.getElem?_modify,hb']
theorem Oo {e:TypeId} {n:Nat} {v:Value} {xs:List Value} {w:World} (h:w.ownsRowF 0 e 1 v n xs) {a:Addr} (u:Value) (hne:v.ownBlock ≠ some a.block):(w.setCell a u).ownsRowF 0 e 1 v n xs:=
 rk h fun g hg=>Below.heap_setCell w a u g fun e=>hne (by rw [hg,e])
theorem MQ {e T:TypeId} {b n:Nat} {v:Value} {xs:List Value} {w:World} {cs:Array Value} (h:w.ownsRowF 0 e 1 v n xs) (hb:w.heap[b]? =some (.cells cs T (0,0))) (hne:T ≠ e):v.ownBlock ≠ some b:=by
 rcases h.2 with ⟨rfl,_⟩ | ⟨g,cap,cur,fz,rfl,_,hg,_⟩
 ·simp [Value.ownBlock]
 ·intro h
  simp only [Value.ownBlock,Option.some.injEq] at h
  subst h
  rw [hb] at hg
  injection hg with hg
  injection hg with _ hg _
  exact hne hg
theorem UG {e:TypeId} {g cap n:Nat} {xs:List Value} {w:World} (h:w.ownsRowF 0 e 1 (.slice (some ⟨g,0,none⟩) n cap) n xs):(w.drew.freeze ⟨g,0,none⟩ n).ownsRowF 0 e 1 (.slice (some ⟨g,0,none⟩) n cap) n xs:=by
 refine ⟨h.1,?_⟩
 rcases h.2 with ⟨hv,_⟩ | ⟨g',cap',cur,fz,hv,hbg,hg,hfz,rest⟩
 ·cases hv
 ·injection hv with ha _ hcap
  injection ha with ha
  injection ha with hgg _ _
  subst hgg; subst hcap
  have hg':w.drew.heap[g]? =some (.cells cur e fz):=hg
  unfold World.freeze
  split
  ·exact .inr ⟨g,_,cur,fz,rfl,hbg,hg',hfz,rest⟩
  ·obtain ⟨lo,hi⟩:=fz
   refine .inr ⟨g,_,cur,(if lo == hi then (0,0+n) else (min lo 0,max hi (0+n))),rfl,hbg,by simp [Array.getElem?_modify,hg'],?_,rest⟩
   simp only at hfz
   split <;> simp <;> omega
end Go.Vm
