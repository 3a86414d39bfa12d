/- impl.Play, walked. -/
import Derived.Test.YtpjfklhaogdfeaaStoC
import Derived.Test.YtpjfklhaogdfeaaStoD
import Derived.Test.YtpjfklhaogdfeaaStoE
import Derived.Laws.ResultCell
set_option linter.all false
set_option maxRecDepth 100000
namespace Go.Vm
open Go.Proofs Go.RowKit
structure Put4 (p:Prop):Prop where
 out:p
structure ActB where
 kind:Int
 nm:ByteArray
 to:ByteArray
 dt:ByteArray
 ok:Bool
def ActB.run (a:ActB) (fs:List (List UInt8×List UInt8)):List (List UInt8×List UInt8)×Int:=doP a.ok a.kind a.nm.data.toList a.to.data.toList a.dt.data.toList fs
def pO (most:Int):List ActB→Nat→List (List UInt8×List UInt8)→List (List UInt8×List UInt8)×Nat
 | [],n,fs=>(fs,n)
 | a :: r,n,fs=>if (n:Int) < most then (if (a.run fs).2=0 then pO most r (n+1) (a.run fs).1 else ((a.run fs).1,n)) else (fs,n)
theorem Qa {ok:Bool} {kind:Int} {nm to dt:List UInt8} {fs:List (List UInt8×List UInt8)} {q:Nat} (h1:∀ f ∈ fs,f.2.length ≤ 1048576) (h2:fs.length ≤ q):(∀ f ∈ (doP ok kind nm to dt fs).1,f.2.length ≤ 1048576)∧(doP ok kind nm to dt fs).1.length ≤ q+1:=by
 have hfl:∀ x:List UInt8,(fs.filter fun f=>decide (f.1 ≠ x)).length ≤ fs.length:=fun x=>List.length_filter_le _ _
 have hfm:∀ x:List UInt8,∀ f ∈ fs.filter fun f=>decide (f.1 ≠ x),f.2.length ≤ 1048576:=fun x f hf=>h1 f (List.mem_filter.1 hf).1
 unfold doP
 split
 ·exact ⟨h1,by simp only; omega⟩
 ·split
  ·split
   ·exact ⟨h1,by simp only; omega⟩
   ·refine ⟨fun f hf=>?_,by have:=hfl nm; simp only [List.length_cons]; omega⟩
    rcases List.mem_cons.1 hf with rfl | hf
    ·simp
    ·exact hfm nm f hf
  ·split
   ·exact ⟨h1,by simp only; omega⟩
   ·rename_i f hf
    have hm:=List.mem_of_find?_eq_some hf
    split
    ·split
     ·exact ⟨h1,by simp only; omega⟩
     ·refine ⟨fun g hg=>?_,by have:=hfl nm; simp only [List.length_cons]; omega⟩
      rcases List.mem_cons.1 hg with rfl | hg
      ·simp only [List.length_append]; omega
      ·exact hfm nm g hg
    ·split
     ·refine ⟨fun g hg=>?_,?_⟩
      ·rcases List.mem_cons.1 hg with rfl | hg
       ·exact h1 f hm
       ·exact hfm nm g (List.mem_filter.1 hg).1
      ·have h3:=hfl nm
       have h4:=List.length_filter_le (fun f:List UInt8×List UInt8=>decide (f.1 ≠ to)) (fs.filter fun f=>decide (f.1 ≠ nm))
       simp only [List.length_cons]; omega
     ·split
      ·exact ⟨hfm nm,by have:=hfl nm; simp only; omega⟩
      ·exact ⟨h1,by simp only; omega⟩
theorem wy {P:Program} {fn:Func} {p u:Tmp} {ty:TypeId} (h:fn.results=#[.cell p ty,.tmp u]) (tmps:Array Value) (w:World) (g:Nat) (t:TypeId) (cs:Array Value) (fr:Nat×Nat) (d:TypeDesc)
  (hp:tmps.getD p undef= .pointer (some ⟨g,0,none⟩)) (hg:w.heap[g]? =some (.cells cs t fr))
  (hu:P.underlying ty=some d) (hd:(match d with | .struct _ | .array _ _=>true | _=>false)=true) (hi:(P.info? ty).map (·.size)=some cs.size):
  (Go.results fn tmps).run P w= .ok (.tuple #[.agg cs,tmps.getD u undef]) w:=by
 rw [results_cell_tmp h,hp]
 simp [asAddr,run_loadVar_row w g t ty cs fr d hg hu hd hi,Result.andThen]
theorem mc {w:World} {b b':Nat} {e:TypeId} {sz n:Nat} {v:Value} {xs:List Value} (h:w.ownsRow b e sz v n xs) (hb:b' ≤ b):w.ownsRow b' e sz v n xs:=by
 refine ⟨h.1,?_⟩
 rcases h.2 with hn | ⟨g,cap,cur,rfl,h1,rest⟩
 ·exact .inl hn
 ·exact .inr ⟨g,cap,cur,rfl,Nat.le_trans hb h1,rest⟩
theorem ql {W W':World} {g:Nat} {v:Value} {t:TypeId} (h:W'.heap[g]? =W.heap[g]?) (hx:W.heap[g]? =some (.cells #[v] t (0,0))):W'.cell? ⟨g,0,none⟩=some v∧W'.frozen? ⟨g,0,none⟩=false:=by
 have hx':=h.trans hx
 exact ⟨by rw [Lib.cell_of_heap hx']; rfl,Lib.frozen_of_heap hx' 0⟩
theorem ka {W W':World} {g:Nat} {u v:Value} {t:TypeId} (h:W'.heap[g]? =W.heap[g]?) (hx:W.heap[g]? =some (.cells #[u] t (0,0))) {base:Nat} {e:TypeId} {sz n:Nat} {xs:List Value} (ho:W'.ownsRow base e sz v n xs) (hb:g < base):
  (W'.setCell ⟨g,0,none⟩ v).heap[g]? =some (.cells #[v] t (0,0))∧(W'.setCell ⟨g,0,none⟩ v).ownsRow base e sz v n xs∧True:=by
 have hx':=h.trans hx
 refine ⟨by simp [World.setCell,Array.getElem?_modify,hx'],jO ho fun k hk=>Below.heap_setCell _ _ _ _ ?_,trivial⟩
 have:=(ho.lt k hk).1
 show k ≠ g
 omega
def qT (dok:Bool) (acts:List ActB) (most:Int) (fs xs:List (List UInt8×List UInt8)) (n:Nat):Prop:=
 if dok=true∧acts.length ≤ 10000 then n=(pO most acts 0 fs.reverse).2∧(xs.map (·.1)).Pairwise (· ≤ ·)∧xs.Perm (pO most acts 0 fs.reverse).1 else n=0∧xs=fs
theorem fI {dok:Bool} {acts:List ActB} {most:Int} {fs:List (List UInt8×List UInt8)} (h:¬ (dok=true∧acts.length ≤ 10000)):qT dok acts most fs fs 0:=by
 unfold qT; rw [if_neg h]; exact ⟨rfl,rfl⟩
structure PlSt (W2:World) (most:Int) (acts:List ActB) (fs:List (List UInt8×List UInt8)) (b m n:Nat) (D:DataW Unit) (ts:List Ent) (q:Nat) (wr:World):Prop where
 sto:Sto W2.heap.size wr b m q 0 D ts
 below:Below W2.heap.size W2 wr
 dat:∀ t ∈ ts,t.data.length ≤ 1048576
 len:ts.length ≤ 400+n
 run:pO most (acts.drop n) n (ts.map Ent.f)=pO most acts 0 fs.reverse
 qb:q ≤ 400+n
theorem PlSt.step {W2 wr W5:World} {most:Int} {acts:List ActB} {fs:List (List UInt8×List UInt8)} {b m n:Nat} {D D5:DataW Unit} {ts ts5:List Ent} {q q5:Nat} (h:PlSt W2 most acts fs b m n D ts q wr) (hB:Below W2.heap.size wr W5) (hq:q5 ≤ q+1) (hS:Sto W2.heap.size W5 b m q5 0 D5 ts5) {x:ActB}
  (hd:doP x.ok x.kind x.nm.data.toList x.to.data.toList x.dt.data.toList (ts.map Ent.f)=(ts5.map Ent.f,(doP x.ok x.kind x.nm.data.toList x.to.data.toList x.dt.data.toList (ts.map Ent.f)).2))
  (hsz:(∀ f ∈ (doP x.ok x.kind x.nm.data.toList x.to.data.toList x.dt.data.toList (ts.map Ent.f)).1,f.2.length ≤ 1048576)∧(doP x.ok x.kind x.nm.data.toList x.to.data.toList x.dt.data.toList (ts.map Ent.f)).1.length ≤ 400+n+1)
  {r:List ActB} (hdr:acts.drop n=x :: r) (hr:acts.drop (n+1)=r) (hmo:(n:Int) < most) (hc:(doP x.ok x.kind x.nm.data.toList x.to.data.toList x.dt.data.toList (ts.map Ent.f)).2=0):PlSt W2 most acts fs b m (n+1) D5 ts5 q5 W5:=by
 have e1:=congrArg Prod.fst hd
 simp only at e1
 rw [e1] at hsz
 refine ⟨hS,h.below.trans hB,fun t ht=>hsz.1 _ (List.mem_map.2 ⟨t,ht,rfl⟩),by have:=hsz.2; rw [List.length_map] at this; omega,?_,by have:=h.qb; omega⟩
 have h1:=h.run
 rw [hdr,pO,if_pos hmo,if_pos (show (x.run (ts.map Ent.f)).2=0 from hc),show (x.run (ts.map Ent.f)).1=ts5.map Ent.f from e1] at h1
 rw [hr]; exact h1
set_option maxHeartbeats 4000000 in
theorem TD (w:World) (fs:List (ByteArray×ByteArray)) (a:Option Addr) (pb po cap:Nat) (acts:List ActB) (a2:Option Addr) (qb qo cap2:Nat) (most:Int) (dok:Bool)
  (hok:∀ W,Below w.heap.size w W→Calls Try.prog 59 #[.agg #[.slice a fs.length cap]] W fun e w'=>e= .returned (.bool dok)∧Below W.heap.size W w')
  (hcop:∀ W,Below w.heap.size w W→Calls Try.prog 60 #[.agg #[.slice a fs.length cap]] W fun e w'=>∃ v,e= .returned (.agg #[v])∧Below W.heap.size W w'∧w'.ownsRow W.heap.size 136 2 v fs.length (oI (fs.map fun f=>(f.1.data.toList,f.2.data.toList))))
  (hact:∀ x ∈ acts,∀ W,Below w.heap.size w W→Calls Try.prog 106 #[.agg #[.int .i64 x.kind,.string x.nm,.string x.to,.string x.dt]] W fun e w'=>e= .returned (.bool x.ok)∧Below W.heap.size W w')
  (ha:∀ x ∈ fs,a=some ⟨pb,po,none⟩) (hp:∀ x ∈ fs,pb < w.heap.size) (hcell:∀ i f,fs[i]? =some f→w.cell? ⟨pb,po+i * 2,none⟩=some (.string f.1)∧w.cell? ⟨pb,po+i * 2+1,none⟩=some (.string f.2))
  (ha2:∀ x ∈ acts,a2=some ⟨qb,qo,none⟩) (hp2:∀ x ∈ acts,qb < w.heap.size) (hcell2:∀ i x,acts[i]? =some x→w.cell? ⟨qb,qo+i * 4,none⟩=some (.int .i64 x.kind)∧w.cell? ⟨qb,qo+i * 4+1,none⟩=some (.string x.nm)∧w.cell? ⟨qb,qo+i * 4+2,none⟩=some (.string x.to)∧w.cell? ⟨qb,qo+i * 4+3,none⟩=some (.string x.dt))
  (hdok:dok=true→fs.length ≤ 400∧(∀ f ∈ fs,f.1.size ≤ maxLen∧f.2.size ≤ 1048576)∧(fs.map fun f=>f.1.data.toList).Nodup) (hacts:acts.length ≤ 1048576) (hsz:∀ x ∈ acts,x.nm.size ≤ maxLen∧x.to.size ≤ maxLen∧x.dt.size ≤ 1048576):
  Calls Try.prog 18 #[.agg #[.slice a fs.length cap],.slice a2 acts.length cap2,.int .i64 most] w fun e w'=>∃ (v:Value) (xs:List (List UInt8×List UInt8)) (n:Nat),e= .returned (.tuple #[.agg #[v],.int .i64 n])∧Below w.heap.size w w'∧w'.ownsRow w.heap.size 136 2 v xs.length (oI xs)∧
   qT dok acts most (fs.map fun f=>(f.1.data.toList,f.2.data.toList)) xs n:=by
 have A1:Put4 _:=⟨hok⟩
 have A2:Put4 _:=⟨hcop⟩
 have A3:Put4 _:=⟨hact⟩
 have A4:Put4 _:=⟨hcell⟩
 have A5:Put4 _:=⟨hcell2⟩
 have A6:Put4 _:=⟨ha⟩
 have A7:Put4 _:=⟨ha2⟩
 have A8:Put4 _:=⟨hp⟩
 have A9:Put4 _:=⟨hp2⟩
 have A10:Put4 _:=⟨hdok⟩
 have A11:Put4 _:=⟨hsz⟩
 clear hok hcop hact hcell hcell2 ha ha2 hp hp2 hdok hsz
 go_enter Try.func18,Try.ntmps18
 have z1:((w.alloc (.cells #[.slice a fs.length cap] 41)).alloc (.cells #[.slice none 0 0] 41)).heap.size=w.heap.size+1+1:=by simp
 have g1:Below w.heap.size w ((w.alloc (.cells #[.slice a fs.length cap] 41)).alloc (.cells #[.slice none 0 0] 41)):=((Below.refl _ w).alloc (Nat.le_refl _) _).alloc (Below.alloc (Below.refl w.heap.size w) (Nat.le_refl _) _).size _
 have x0:((w.alloc (.cells #[.slice a fs.length cap] 41)).alloc (.cells #[.slice none 0 0] 41)).heap[w.heap.size]? =some (.cells #[.slice a fs.length cap] 41 (0,0)):=by
  rw [Lib.alloc_old _ _ _ (by simp)]; exact heap_alloc_new _ _
 have x1:((w.alloc (.cells #[.slice a fs.length cap] 41)).alloc (.cells #[.slice none 0 0] 41)).heap[w.heap.size+1]? =some (.cells #[.slice none 0 0] 41 (0,0)):=by
  have:=heap_alloc_new (w.alloc (.cells #[.slice a fs.length cap] 41)) (.cells #[.slice none 0 0] 41)
  simpa using this
 have hk:=A1.out _ g1
 go_wp2_with fail
 refine hk.mono ?_
 clear hk
 rintro e W2 ⟨rfl,hB2⟩
 rw [z1] at hB2
 have g2:=g1.trans (hB2.mono (by omega))
 have x0:=(hB2.block _ (by omega)).trans x0
 have x1:=(hB2.block _ (by omega)).trans x1
 have hz2:=hB2.size
 rw [z1] at hz2
 clear hB2 g1 z1
 have c0:W2.cell? ⟨w.heap.size,0,none⟩=some (.slice a fs.length cap):=by rw [Lib.cell_of_heap x0]; rfl
 have c1:W2.cell? ⟨w.heap.size+1,0,none⟩=some (.slice none 0 0):=by rw [Lib.cell_of_heap x1]; rfl
 have c1f:W2.frozen? ⟨w.heap.size+1,0,none⟩=false:=Lib.frozen_of_heap x1 0
 have A12:Put4 _:=⟨g2⟩
 have A13:Put4 _:=⟨x0⟩
 have A14:Put4 _:=⟨x1⟩
 have hcp:=A2.out W2 g2
 clear g2 x0 x1
 have mixed:Try.prog.follows .mixedOrders=true:=by kernel_rfl
 cases dok with
 | false=>
   go_wp2_with (go_at_call 60; refine hcp.mono ?_; rintro e W3 ⟨v,rfl,hB3,hown3⟩; obtain ⟨p3,k3,rfl⟩:=lM hown3; obtain ⟨c3,c3f⟩:=ql (hB3.block _ (by omega)) A14.out; have A15:Put4 _:=⟨hB3⟩; have A16:Put4 _:=⟨hown3⟩; clear hB3 hown3)
   obtain ⟨e1,e2,e3⟩:=ka (A15.out.block _ (by omega)) A14.out A16.out (by omega)
   refine bodyPost_ret (wy (P:=Try.prog) rfl _ _ (w.heap.size+1) 41 #[.slice p3 fs.length k3] (0,0) _ rfl e1 Try.underlying41 rfl (by kernel_rfl)) rfl ?_
   refine ⟨_,fs.map fun f=>(f.1.data.toList,f.2.data.toList),0,rfl,(A12.out.trans (A15.out.mono A12.out.size)).setCell (p:=⟨w.heap.size+1,0,none⟩) (by simp) _,?_,?_⟩
   ·rw [List.length_map]
    exact mc e2 (by omega)
   ·exact fI (by simp)
 | true=>
   by_cases c10:acts.length ≤ 10000
   ·obtain ⟨d1,d2,d3⟩:=A10.out rfl
    have hsto:=aj W2 fs a pb po cap A6.out (fun x hx=>Nat.lt_of_lt_of_le (A8.out x hx) A12.out.size) (fun i f hf=>by
     have hl:=A8.out f (List.mem_of_getElem? hf)
     obtain ⟨q1,q2⟩:=A4.out i f hf
     exact ⟨(ow (A12.out.block _ hl) _).trans q1,(ow (A12.out.block _ hl) _).trans q2⟩) d1 d2 d3
    go_wp2_with (go_at_call 61; refine hsto.mono ?_; rintro e W3 ⟨hB3,b,m,D,ts,hS3,rfl,hts⟩)
    have start:PlSt W2 most acts (fs.map fun f=>(f.1.data.toList,f.2.data.toList)) b m 0 D ts fs.length W3:=by
     refine ⟨hS3,hB3,fun t ht=>?_,?_,?_,by omega⟩
     ·have h1:(t.name,t.data) ∈ (fs.map fun f=>(f.1.data.toList,f.2.data.toList)).reverse:=by rw [← hts]; exact List.mem_map.2 ⟨t,ht,rfl⟩
      rw [List.mem_reverse] at h1
      obtain ⟨f,hf,h2⟩:=List.mem_map.1 h1
      have h3:=(d2 f hf).2
      have h4:t.data=f.2.data.toList:=by injection h2 with _ h2; exact h2.symm
      rw [h4,Array.length_toList]; exact h3
     ·have:=congrArg List.length hts
      simp only [List.length_map,List.length_reverse] at this
      omega
     ·rw [List.drop_zero,show ts.map Ent.f=ts.map (fun t=>(t.name,t.data)) from rfl,hts]
    have B1:Put4 _:=⟨start⟩
    clear start hB3 hS3 hts hsto hcp c0 c1 c1f
    go_loopw [9] (fun vn wr=>∃ (n q:Nat) (D:DataW Unit) (ts:List Ent),vn= .int .i64 n∧n ≤ acts.length∧PlSt W2 most acts (fs.map fun f=>(f.1.data.toList,f.2.data.toList)) b m n D ts q wr) (fun vn _=>acts.length - (Proofs.intOf vn).toNat)
    case atStart=>exact ⟨0,_,_,_,by go_num,Nat.zero_le _,B1.out⟩
    case round=>
     obtain ⟨n,q,D,ts,rfl,hn,hS⟩:=hrel
     by_cases hlt:n < acts.length
     ·have hxi:=List.getElem?_eq_getElem hlt
      have hxm:=List.getElem_mem hlt
      have hdr:acts.drop n=acts[n] :: acts.drop (n+1):=List.drop_eq_getElem_cons hlt
      obtain ⟨y0,y1,y2,y3⟩:=A5.out n _ hxi
      obtain rfl:=A7.out _ hxm
      have hqb:=A9.out _ hxm
      obtain ⟨s1,s2,s3⟩:=A11.out _ hxm
      have hke:wr.heap[qb]? =w.heap[qb]? :=(hS.below.block _ (Nat.lt_of_lt_of_le hqb A12.out.size)).trans (A12.out.block _ hqb)
      rw [← ei hke] at y0 y1 y2 y3
      have hac:=A3.out _ hxm
      generalize acts[n]=x at hxi hxm hdr y0 y1 y2 y3 s1 s2 s3 hac
      by_cases hmo:(n:Int) < most
      ·have hdo:=O5 hS.sto x.kind x.nm x.to x.dt x.ok s1 s2 (by have:=hS.qb; unfold maxLen; omega) s3 hS.dat fun W hW=>hac W ((A12.out.trans (hS.below.mono A12.out.size)).trans (hW.mono A12.out.size))
       have hsz:=Qa (ok:=x.ok) (kind:=x.kind) (nm:=x.nm.data.toList) (to:=x.to.data.toList) (dt:=x.dt.data.toList) (fs:=ts.map Ent.f) (q:=400+n) (fun f hf=>by obtain ⟨t,ht,rfl⟩:=List.mem_map.1 hf; exact hS.dat t ht) (by rw [List.length_map]; exact hS.len)
       have B2:Put4 _:=⟨hS⟩
       have B3:Put4 _:=⟨hdr⟩
       have B4:Put4 _:=⟨hsz⟩
       clear hS hdr hsz hxi hxm hac hke s1 s2 s3
       by_cases hc:(doP x.ok x.kind x.nm.data.toList x.to.data.toList x.dt.data.toList (ts.map Ent.f)).2=0
       ·have hev:ZK (doP x.ok x.kind x.nm.data.toList x.to.data.toList x.dt.data.toList (ts.map Ent.f)).2= .nilIface:=by unfold ZK; rw [if_pos hc]
        go_wp2_with (go_at_call 62; refine hdo.mono ?_; rintro e W5 ⟨hB5,q5,D5,ts5,hq5,hS5,hd5,rfl⟩; rw [hev]; have B5:Put4 _:=⟨B2.out.step hB5 hq5 hS5 hd5 B4.out B3.out rfl hmo hc⟩; clear hB5 hS5 hd5 hev)
        exact ⟨⟨n+1,_,_,_,by go_num,by omega,B5.out⟩,by simp [Proofs.intOf]; omega⟩
       ·have hev:ZK (doP x.ok x.kind x.nm.data.toList x.to.data.toList x.dt.data.toList (ts.map Ent.f)).2= .iface 159 (.agg #[.int .i64 (doP x.ok x.kind x.nm.data.toList x.to.data.toList x.dt.data.toList (ts.map Ent.f)).2]):=by unfold ZK; rw [if_neg hc]
        go_wp2_with (go_at_call 62; refine hdo.mono ?_; rintro e W5 ⟨hB5,q5,D5,ts5,hq5,hS5,hd5,rfl⟩; rw [hev]; have B5:Put4 _:=⟨B2.out.below.trans hB5⟩; have B6:Put4 _:=⟨hS5⟩; have B7:Put4 _:=⟨hd5⟩; have hc5:=ql (B5.out.block _ (by omega)) A14.out; have d5:=hc5.1; have d5f:=hc5.2; clear hB5 hS5 hd5 hev hc5)
        have hru:pO most (acts.drop n) n (ts.map Ent.f)=(ts5.map Ent.f,n):=by
         have e1:=congrArg Prod.fst B7.out
         simp only at e1
         rw [B3.out,pO,if_pos hmo,if_neg (show ¬ (x.run (ts.map Ent.f)).2=0 from hc),show (x.run (ts.map Ent.f)).1=ts5.map Ent.f from e1]
        have hl5:ts5.length ≤ 400+n+1:=by
         have e1:=congrArg Prod.fst B7.out
         have e2:=B4.out.2
         simp only at e1
         rw [e1,List.length_map] at e2; exact e2
        have hdk:=ic B6.out (by omega)
        have hB0:=A12.out.trans (B5.out.mono A12.out.size)
        refine hdk.mono ?_
        rintro e W6 ⟨hB6,v,xs,rfl,hown6,hpw6,hpm6⟩
        obtain ⟨p6,k6,rfl⟩:=lM hown6
        have hx6:=ql ((hB6.block _ (by omega)).trans (B5.out.block _ (by omega))) A14.out
        have c6:=hx6.1
        have c6f:=hx6.2
        have E1:Put4 _:=⟨hB6⟩
        have E2:Put4 _:=⟨hown6⟩
        have E3:Put4 _:=⟨hpw6⟩
        have E4:Put4 _:=⟨hpm6⟩
        clear hx6 hB6 hown6 hpw6 hpm6
        go_wp2
        obtain ⟨e1,e2,e3⟩:=ka ((E1.out.block _ (by omega)).trans (B5.out.block _ (by omega))) A14.out E2.out (by have:=B5.out.size; omega)
        refine bodyPost_ret (wy (P:=Try.prog) rfl _ _ (w.heap.size+1) 41 #[.slice p6 xs.length k6] (0,0) _ rfl e1 Try.underlying41 rfl (by kernel_rfl)) rfl ?_
        refine ⟨_,xs,_,rfl,(hB0.trans (E1.out.mono A12.out.size)).setCell (p:=⟨w.heap.size+1,0,none⟩) (by simp) _,mc e2 (by have:=B5.out.size; omega),?_⟩
        unfold qT
        rw [if_pos ⟨rfl,c10⟩,← B2.out.run]
        exact ⟨by rw [hru],E3.out,by rw [hru]; exact E4.out⟩
      ·have hru:pO most (acts.drop n) n (ts.map Ent.f)=(ts.map Ent.f,n):=by rw [hdr,pO,if_neg hmo]
       clear hxi hxm hdr hac hke s1 s2 s3
       have hdk:=ic hS.sto (by have:=hS.len; omega)
       have hB0:=A12.out.trans (hS.below.mono A12.out.size)
       have hx1:=ql (hS.below.block _ (by omega)) A14.out
       have c5:=hx1.1
       have c5f:=hx1.2
       clear hx1
       go_wp2_with (go_at_call 63; refine hdk.mono ?_; rintro e W6 ⟨hB6,v,xs,rfl,hown6,hpw6,hpm6⟩; obtain ⟨p6,k6,rfl⟩:=lM hown6; have hx6:=ql ((hB6.block _ (by omega)).trans (hS.below.block _ (by omega))) A14.out; have c6:=hx6.1; have c6f:=hx6.2; clear hx6; have E1:Put4 _:=⟨hB6⟩; have E2:Put4 _:=⟨hown6⟩; have E3:Put4 _:=⟨hpw6⟩; have E4:Put4 _:=⟨hpm6⟩; clear hB6 hown6 hpw6 hpm6)
       obtain ⟨e1,e2,e3⟩:=ka ((E1.out.block _ (by omega)).trans (hS.below.block _ (by omega))) A14.out E2.out (by have:=hS.below.size; omega)
       refine bodyPost_ret (wy (P:=Try.prog) rfl _ _ (w.heap.size+1) 41 #[.slice p6 xs.length k6] (0,0) _ rfl e1 Try.underlying41 rfl (by kernel_rfl)) rfl ?_
       refine ⟨_,xs,_,rfl,(hB0.trans (E1.out.mono A12.out.size)).setCell (p:=⟨w.heap.size+1,0,none⟩) (by simp) _,mc e2 (by have:=hS.below.size; omega),?_⟩
       unfold qT
       rw [if_pos ⟨rfl,c10⟩,← hS.run]
       exact ⟨by rw [hru],E3.out,by rw [hru]; exact E4.out⟩
     ·obtain rfl:n=acts.length:=by omega
      have hru:pO most (acts.drop acts.length) acts.length (ts.map Ent.f)=(ts.map Ent.f,acts.length):=by rw [List.drop_length,pO]
      have hdk:=ic hS.sto (by have:=hS.len; omega)
      have hB0:=A12.out.trans (hS.below.mono A12.out.size)
      have hx1:=ql (hS.below.block _ (by omega)) A14.out
      have c5:=hx1.1
      have c5f:=hx1.2
      clear hx1
      go_wp2_with (go_at_call 63; refine hdk.mono ?_; rintro e W6 ⟨hB6,v,xs,rfl,hown6,hpw6,hpm6⟩; obtain ⟨p6,k6,rfl⟩:=lM hown6; have hx6:=ql ((hB6.block _ (by omega)).trans (hS.below.block _ (by omega))) A14.out; have c6:=hx6.1; have c6f:=hx6.2; clear hx6; have E1:Put4 _:=⟨hB6⟩; have E2:Put4 _:=⟨hown6⟩; have E3:Put4 _:=⟨hpw6⟩; have E4:Put4 _:=⟨hpm6⟩; clear hB6 hown6 hpw6 hpm6)
      obtain ⟨e1,e2,e3⟩:=ka ((E1.out.block _ (by omega)).trans (hS.below.block _ (by omega))) A14.out E2.out (by have:=hS.below.size; omega)
      refine bodyPost_ret (wy (P:=Try.prog) rfl _ _ (w.heap.size+1) 41 #[.slice p6 xs.length k6] (0,0) _ rfl e1 Try.underlying41 rfl (by kernel_rfl)) rfl ?_
      refine ⟨_,xs,_,rfl,(hB0.trans (E1.out.mono A12.out.size)).setCell (p:=⟨w.heap.size+1,0,none⟩) (by simp) _,mc e2 (by have:=hS.below.size; omega),?_⟩
      unfold qT
      rw [if_pos ⟨rfl,c10⟩,← hS.run]
      exact ⟨by rw [hru],E3.out,by rw [hru]; exact E4.out⟩
   ·go_wp2_with (go_at_call 60; refine hcp.mono ?_; rintro e W3 ⟨v,rfl,hB3,hown3⟩; obtain ⟨p3,k3,rfl⟩:=lM hown3; obtain ⟨c3,c3f⟩:=ql (hB3.block _ (by omega)) A14.out; have A15:Put4 _:=⟨hB3⟩; have A16:Put4 _:=⟨hown3⟩; clear hB3 hown3)
    obtain ⟨e1,e2,e3⟩:=ka (A15.out.block _ (by omega)) A14.out A16.out (by omega)
    refine bodyPost_ret (wy (P:=Try.prog) rfl _ _ (w.heap.size+1) 41 #[.slice p3 fs.length k3] (0,0) _ rfl e1 Try.underlying41 rfl (by kernel_rfl)) rfl ?_
    refine ⟨_,fs.map fun f=>(f.1.data.toList,f.2.data.toList),0,rfl,(A12.out.trans (A15.out.mono A12.out.size)).setCell (p:=⟨w.heap.size+1,0,none⟩) (by simp) _,?_,?_⟩
    ·rw [List.length_map]
     exact mc e2 (by omega)
    ·exact fI fun q=>c10 q.2
end Go.Vm
