import Derived.Test.YtpjfklhaogdfeaaStoP
import Derived.Test.YtpjfklhaogdfeaaFPl
import Derived.Test.YtpjfklhaogdfeaaPBase
import Derived.Sort.Walk0
set_option linter.all false
set_option maxRecDepth 100000
namespace Go.Vm
open Go.Proofs Go.RowKit Go.Lib
variable [Gl]
theorem S6 {w:World} {b:Nat} {e:TypeId} {sz n:Nat} {v:Value} {xs:List Value} (h:w.ownsRow 0 e sz v n xs) (hb:∀ k,v.ownBlock=some k→b ≤ k):w.ownsRow b e sz v n xs:=by
 refine ⟨h.1,?_⟩
 rcases h.2 with hn | ⟨g,cap,cur,rfl,h1,rest⟩
 ·exact .inl hn
 ·exact .inr ⟨g,cap,cur,rfl,hb g rfl,rest⟩
def prF (f:TFile):List UInt8×List UInt8:=(f.Name,f.Data)
theorem rdl_rowF {S:Nat→Nat} {w:World}:∀ {l:List TFile} {xs:List Value},RDl S w (zh cFile l) xs ↔ xs=oI (l.map prF)
 | [],xs=>by rw [show zh cFile ([]:List TFile)=[] from rfl]; simp [RDl,oI]
 | x :: l,xs=>by
   rw [show zh cFile (x :: l)=sD x.Name :: sD x.Data :: zh cFile l from rfl]
   rw [show oI ((x :: l).map prF)= .string ⟨x.Name.toArray⟩ :: .string ⟨x.Data.toArray⟩ :: oI (l.map prF) from rfl]
   show (∃ v r,xs=v :: r∧RD S w (sD x.Name) v∧∃ v' r',r=v' :: r'∧RD S w (sD x.Data) v'∧RDl S w (zh cFile l) r') ↔ _
   simp only [RD,sD]
   constructor
   ·rintro ⟨v,r,rfl,rfl,v',r',rfl,rfl,h⟩
    rw [rdl_rowF.1 h]
   ·rintro rfl
    exact ⟨_,_,rfl,rfl,_,_,rfl,rfl,rdl_rowF.2 rfl⟩
theorem eO {S:Nat→Nat} {w:World} {pb:Nat}:∀ {l:List TFile} {po:Nat},RDat S w (zh cFile l) pb po→∀ i x,l[i]? =some x→w.cell? ⟨pb,po+i * 2,none⟩=some (.string ⟨x.Name.toArray⟩)∧w.cell? ⟨pb,po+i * 2+1,none⟩=some (.string ⟨x.Data.toArray⟩)
 | [],po,h,i,x,hx=>by simp at hx
 | y :: l,po,h,i,x,hx=>by
   rw [show zh cFile (y :: l)=sD y.Name :: sD y.Data :: zh cFile l from rfl] at h
   obtain ⟨_,⟨v1,h1,e1⟩,_,⟨v2,h2,e2⟩,hr⟩:=h
   simp only [RD,sD] at e1 e2
   subst e1 e2
   cases i with
   | zero=>
     simp only [List.getElem?_cons_zero,Option.some.injEq] at hx
     subst hx
     exact ⟨by simpa using h1,by simpa using h2⟩
   | succ i=>
     rw [List.getElem?_cons_succ] at hx
     have:=eO hr i x hx
     rw [show po+1+1+i * 2=po+(i+1) * 2 by omega] at this
     exact this
theorem ci {S:Nat→Nat} {w:World} {pb:Nat}:∀ {l:List TAct} {po:Nat},RDat S w (zh cAct l) pb po→∀ i x,l[i]? =some x→w.cell? ⟨pb,po+i * 4,none⟩=some (.int .i64 x.Kind)∧w.cell? ⟨pb,po+i * 4+1,none⟩=some (.string ⟨x.Name.toArray⟩)∧w.cell? ⟨pb,po+i * 4+2,none⟩=some (.string ⟨x.To.toArray⟩)∧w.cell? ⟨pb,po+i * 4+3,none⟩=some (.string ⟨x.Data.toArray⟩)
 | [],po,h,i,x,hx=>by simp at hx
 | y :: l,po,h,i,x,hx=>by
   rw [show zh cAct (y :: l)= .int .i64 y.Kind :: sD y.Name :: sD y.To :: sD y.Data :: zh cAct l from rfl] at h
   obtain ⟨_,⟨v1,h1,e1⟩,_,⟨v2,h2,e2⟩,_,⟨v3,h3,e3⟩,_,⟨v4,h4,e4⟩,hr⟩:=h
   simp only [RD,sD] at e1 e2 e3 e4
   subst e1 e2 e3 e4
   cases i with
   | zero=>
     simp only [List.getElem?_cons_zero,Option.some.injEq] at hx
     subst hx
     exact ⟨by simpa using h1,by simpa using h2,by simpa using h3,by simpa using h4⟩
   | succ i=>
     rw [List.getElem?_cons_succ] at hx
     have:=ci hr i x hx
     rw [show po+1+1+1+1+i * 4=po+(i+1) * 4 by omega] at this
     exact this
theorem NI {w W:World} (hB:Below w.heap.size w W) {p:Addr} {v:Value} (h:w.cell? p=some v):W.cell? p=some v:=by
 have hlt:=World.block_lt_of_cell? w p h
 have e:=hB.block p.block hlt
 simp only [World.cell?,e] at h ⊢
 exact h
theorem YZ (S:Nat→Nat) {w W:World} (hB:Below w.heap.size w W):Stab S w S W:=fun b o v ho hv=>⟨ho,NI hB hv⟩
def bB (l:List UInt8):ByteArray:=⟨l.toArray⟩
theorem Y0 (l:List UInt8):(bB l).data.toList=l:=by unfold bB; simp
theorem Y9 (l:List UInt8):(bB l).size=l.length:=by unfold bB; simp [ByteArray.size]
def Xx (A:Int→List UInt8→List UInt8→List UInt8→Bool) (x:TAct):ActB:=⟨x.Kind,bB x.Name,bB x.To,bB x.Data,A x.Kind x.Name x.To x.Data⟩
theorem cM {n:Nat} {cs:List D} {cap:Nat} {a:Option Addr} (h1:n ≤ cap) (h2:a=none→n=0∧cap=0∧cs=[]) (h3:∀ p,a=some p→p.spot=none ∨ cap=0∧cs=[]):∃ pb po,0 < n→a=some ⟨pb,po,none⟩:=by
 cases a with
 | none=>exact ⟨0,0,fun h=>by have:=(h2 rfl).1; omega⟩
 | some p=>
   refine ⟨p.block,p.off,fun h=>?_⟩
   rcases h3 p rfl with e | ⟨e,_⟩
   ·obtain ⟨b,o,sp⟩:=p
    simp only at e
    rw [e]
   ·omega
set_option maxHeartbeats 4000000 in
theorem XT {Cd Cc Ca:List X→Option XOut} (hd:Sound Try.prog 59 Cd) (hc:Sound Try.prog 60 Cc) (ha:Sound Try.prog 106 Ca)
  {D:List TFile→Bool} {A:Int→List UInt8→List UInt8→List UInt8→Bool} {pre:List TFile→List TAct→Int→Prop}
  (hpre:∀ fs acts most,pre fs acts most→(∀ x ∈ fs,x.Name.length ≤ 1048576∧x.Data.length ≤ 1048576)∧acts.length ≤ 1048576∧∀ x ∈ acts,x.Name.length ≤ 1048576∧x.To.length ≤ 1048576∧x.Data.length ≤ 1048576)
  (hnd:∀ fs,D fs=true→fs.length ≤ 400∧(fs.map (·.Name)).Nodup)
  (hCd:∀ fs acts most,pre fs acts most→Cd [.agg [.d (zb cFile fs)]]=some (.ret (.d (.bool (D fs))) []))
  (hCc:∀ fs acts most,pre fs acts most→Cc [.agg [.d (zb cFile fs)]]=some (.ret (.agg [ye cFile 136 none false fs]) []))
  (hCa:∀ k n t d,n.length ≤ 1048576∧t.length ≤ 1048576→Ca [.agg [.d (.int .i64 k),.d (sD n),.d (sD t),.d (sD d)]]=some (.ret (.d (.bool (A k n t d))) []))
  {F:List TFile→List TAct→Int→List TFile×Int}
  (hF:∀ fs acts most xs (n:Nat),qT (D fs) (acts.map (Xx A)) most (fs.map prF) xs n→xs=(F fs acts most).1.map prF∧(n:Int)=(F fs acts most).2)
  {enc:List TFile×List TAct×Int→List X} (henc:∀ a,enc a=[.agg [.d (zb cFile a.1)],.d (zb cAct a.2.1),.d (.int .i64 a.2.2)])
  {C:List TFile×List TAct×Int→Option XOut}
  (hC:∀ a out,C a=some out→pre a.1 a.2.1 a.2.2∧out= .ret (.tup [.agg [ye cFile 136 none false (F a.1 a.2.1 a.2.2).1],.d (.int .i64 (F a.1 a.2.1 a.2.2).2)]) []):
  Sound Try.prog 18 (lay enc C):=by
 intro S w args xs bs hx hb out ho
 obtain ⟨⟨fs,acts,most⟩,rfl,ho2⟩:=qt ho
 obtain ⟨hp,rfl⟩:=hC _ _ ho2
 simp only at hp
 rw [henc] at hx ⊢
 simp only at hx ⊢
 obtain ⟨v1,r1,b1,b2,hargs,rfl,⟨us,rfl,u,r2,b3,b4,hus,rfl,⟨rfl,hu⟩,rfl,rfl⟩,v2,r3,b5,b6,rfl,rfl,⟨rfl,hv2⟩,v3,r4,b7,b8,rfl,rfl,⟨rfl,hv3⟩,rfl,rfl⟩:=hx
 have hU:=hu
 simp only [zb,RD] at hu hv2 hv3
 subst hv3
 obtain ⟨a,cap,rfl,a1,a2,a3⟩:=hu
 obtain ⟨c,cap2,rfl,c1,c2,c3⟩:=hv2
 obtain rfl:us=#[.slice a fs.length cap]:=by cases us; simp_all
 obtain rfl:args=#[.agg #[.slice a fs.length cap],.slice c acts.length cap2,.int .i64 most]:=by cases args; simp_all
 obtain ⟨p1,p2,p3⟩:=hpre _ _ _ hp
 refine ⟨oh Try.func18 (by kernel_rfl) (by kernel_rfl) _ _,?_⟩
 have hG:Gl.G ≤ w.heap.size∧∀ b,b < Gl.G→w.heap[b]? =Gl.g b:=⟨hb.2.1,fun b h=>(hb.2.2 b h).1⟩
 have hG':∀ W,Below w.heap.size w W→∀ b,b < Gl.G→W.heap[b]? =Gl.g b:=fun W hB b h=>(hB.block b (Nat.lt_of_lt_of_le h hG.1)).trans (hG.2 b h)
 have hok:∀ W,Below w.heap.size w W→Ze W ([]:List Nat):=fun W hB=>⟨List.nodup_nil,Nat.le_trans hG.1 hB.size,fun b h=>⟨hG' W hB b h,by simp⟩⟩
 obtain ⟨pb,po,hpp⟩:=cM a1 a2 fun p h=>(a3 p h).1
 obtain ⟨qb,qo,hqq⟩:=cM c1 c2 fun p h=>(c3 p h).1
 have hfs:∀ i x,fs[i]? =some x→a=some ⟨pb,po,none⟩∧w.cell? ⟨pb,po+i * 2,none⟩=some (.string ⟨x.Name.toArray⟩)∧w.cell? ⟨pb,po+i * 2+1,none⟩=some (.string ⟨x.Data.toArray⟩):=fun i x hx=>by
  have e:=hpp (List.length_pos_of_mem (List.mem_of_getElem? hx))
  exact ⟨e,eO (a3 _ e).2 i x hx⟩
 have hfa:∀ i x,acts[i]? =some x→c=some ⟨qb,qo,none⟩∧w.cell? ⟨qb,qo+i * 4,none⟩=some (.int .i64 x.Kind)∧w.cell? ⟨qb,qo+i * 4+1,none⟩=some (.string ⟨x.Name.toArray⟩)∧w.cell? ⟨qb,qo+i * 4+2,none⟩=some (.string ⟨x.To.toArray⟩)∧w.cell? ⟨qb,qo+i * 4+3,none⟩=some (.string ⟨x.Data.toArray⟩):=fun i x hx=>by
  have e:=hqq (List.length_pos_of_mem (List.mem_of_getElem? hx))
  exact ⟨e,ci (c3 _ e).2 i x hx⟩
 have hl1:(fs.map fun f=>(bB f.Name,bB f.Data)).length=fs.length:=List.length_map ..
 have hl2:(acts.map (Xx A)).length=acts.length:=List.length_map ..
 have hm1:(fs.map fun f=>(bB f.Name,bB f.Data)).map (fun f=>(f.1.data.toList,f.2.data.toList))=fs.map prF:=by
  rw [List.map_map]
  refine List.map_congr_left fun x _=>?_
  simp only [Function.comp,Y0,prF]
 have hW:=TD w (fs.map fun f=>(bB f.Name,bB f.Data)) a pb po cap (acts.map (Xx A)) c qb qo cap2 most (D fs) ?_ ?_ ?_ ?_ ?_ ?_ ?_ ?_ ?_ ?_ ?_ ?_
 ·rw [hl1,hl2] at hW
  refine hW.mono ?_
  rintro e w' ⟨v,ys,n,rfl,hB,hown,hend⟩
  rw [hm1] at hend
  obtain ⟨e1,e2⟩:=hF _ _ _ _ _ hend
  rw [e2]
  have hle:ys.length=(F fs acts most).1.length:=by rw [e1,List.length_map]
  rw [hle] at hown
  have hge:∀ k,v.ownBlock=some k→w.heap.size ≤ k:=fun k hk=>(hown.lt k hk).1
  refine ⟨fun b=>if b < w.heap.size then S b else 0,hB.os,hB.tape,hB.output,hB.size,fun b hb1 _=>⟨hB.block b hb1,if_pos hb1⟩,_,v.ownBlock.toList,[],rfl,?_,?_,?_,rfl,?_,rfl,rfl⟩
  ·refine ⟨_,rfl,_,_,v.ownBlock.toList,[],rfl,(List.append_nil _).symm,⟨_,rfl,_,_,v.ownBlock.toList,[],rfl,(List.append_nil _).symm,⟨_,mc hown (Nat.zero_le _),rdl_rowF.2 ?_,rfl,?_,fun k h=>by cases h⟩,rfl,rfl⟩,_,_,[],[],rfl,rfl,⟨rfl,by simp only [RD]⟩,rfl,rfl⟩
   ·rw [e1]
   ·intro b hbm
    show (if b < w.heap.size then S b else 0)=_
    rw [if_neg (Nat.not_lt.2 (hge b hbm))]; rfl
  ·simp only [List.flatMap_nil,List.append_nil]
   cases v.ownBlock <;> simp
  ·intro b hbm
   exact hge b (by simpa using hbm)
  ·simp only [ParOK]
   intro vs hv
   injection hv with hv
   subst hv
   simp only [ParOKs,ParOK,and_self]
   refine ⟨?_,trivial⟩
   intro vs hv
   injection hv with hv
   subst hv
   simp only [ParOKs,ye,ParOK,and_self]
 ·intro W hB
  rw [hl1]
  have hxs:RXs S W [.agg [.d (zb cFile fs)]] (#[.agg #[.slice a fs.length cap]]:Array Value).toList []:=⟨_,_,[],[],rfl,rfl,⟨_,rfl,_,_,[],[],rfl,rfl,⟨rfl,RD.mono (YZ S hB) _ _ hU⟩,rfl,rfl⟩,rfl,rfl⟩
  refine (hd S W _ _ _ hxs (hok W hB) _ (hCd _ _ _ hp)).2.mono ?_
  rintro e w' ⟨S',o1,o2,o3,o4,o5,v,b1,ls',rfl,⟨rfl,hv⟩,_⟩
  simp only [RD] at hv
  subst hv
  exact ⟨rfl,o1,o2,o3,o4,fun b hb1=>(o5 b hb1 (by simp)).1⟩
 ·intro W hB
  rw [hl1,hm1]
  have hxs:RXs S W [.agg [.d (zb cFile fs)]] (#[.agg #[.slice a fs.length cap]]:Array Value).toList []:=⟨_,_,[],[],rfl,rfl,⟨_,rfl,_,_,[],[],rfl,rfl,⟨rfl,RD.mono (YZ S hB) _ _ hU⟩,rfl,rfl⟩,rfl,rfl⟩
  refine (hc S W _ _ _ hxs (hok W hB) _ (hCc _ _ _ hp)).2.mono ?_
  rintro e w' ⟨S',o1,o2,o3,o4,o5,v,b1,ls',rfl,⟨vs,rfl,u1,r1,b2,b3,hvs,hb1,⟨zs,k1,k2,k3,k4,k5⟩,hr,hb3⟩,hnd1,hge,_⟩
  subst hr hb3
  obtain rfl:vs=#[u1]:=by cases vs; simp_all
  rw [rdl_rowF] at k2
  subst k2 k3
  refine ⟨u1,rfl,⟨o1,o2,o3,o4,fun b hb1=>(o5 b hb1 (by simp)).1⟩,S6 k1 fun k hk=>hge k ?_⟩
  rw [hb1]
  simp [hk]
 ·intro y hy W hB
  obtain ⟨x,hx,rfl⟩:=List.mem_map.1 hy
  have q:=p3 x hx
  have hxs:RXs S W [.agg [.d (.int .i64 x.Kind),.d (sD x.Name),.d (sD x.To),.d (sD x.Data)]] (#[.agg #[.int .i64 x.Kind,.string (bB x.Name),.string (bB x.To),.string (bB x.Data)]]:Array Value).toList []:=
   ⟨_,_,[],[],rfl,rfl,⟨_,rfl,_,_,[],[],rfl,rfl,⟨rfl,rfl⟩,_,_,[],[],rfl,rfl,⟨rfl,rfl⟩,_,_,[],[],rfl,rfl,⟨rfl,rfl⟩,_,_,[],[],rfl,rfl,⟨rfl,rfl⟩,rfl,rfl⟩,rfl,rfl⟩
  refine (ha S W _ _ _ hxs (hok W hB) _ (hCa _ _ _ _ ⟨q.1,q.2.1⟩)).2.mono ?_
  rintro e w' ⟨S',o1,o2,o3,o4,o5,v,b1,ls',rfl,⟨rfl,hv⟩,_⟩
  simp only [RD] at hv
  subst hv
  exact ⟨rfl,o1,o2,o3,o4,fun b hb1=>(o5 b hb1 (by simp)).1⟩
 ·intro y hy
  obtain ⟨i,hi⟩:=List.getElem?_of_mem hy
  rw [List.getElem?_map,Option.map_eq_some_iff] at hi
  obtain ⟨x,hx,_⟩:=hi
  exact (hfs i x hx).1
 ·intro y hy
  obtain ⟨i,hi⟩:=List.getElem?_of_mem hy
  rw [List.getElem?_map,Option.map_eq_some_iff] at hi
  obtain ⟨x,hx,_⟩:=hi
  exact World.block_lt_of_cell? w ⟨pb,_,none⟩ (hfs i x hx).2.1
 ·intro i f hf
  rw [List.getElem?_map,Option.map_eq_some_iff] at hf
  obtain ⟨x,hx,rfl⟩:=hf
  exact (hfs i x hx).2
 ·intro y hy
  obtain ⟨i,hi⟩:=List.getElem?_of_mem hy
  rw [List.getElem?_map,Option.map_eq_some_iff] at hi
  obtain ⟨x,hx,_⟩:=hi
  exact (hfa i x hx).1
 ·intro y hy
  obtain ⟨i,hi⟩:=List.getElem?_of_mem hy
  rw [List.getElem?_map,Option.map_eq_some_iff] at hi
  obtain ⟨x,hx,_⟩:=hi
  exact World.block_lt_of_cell? w ⟨qb,_,none⟩ (hfa i x hx).2.1
 ·intro i f hf
  rw [List.getElem?_map,Option.map_eq_some_iff] at hf
  obtain ⟨x,hx,rfl⟩:=hf
  exact (hfa i x hx).2
 ·intro hD
  obtain ⟨d1,d2⟩:=hnd fs hD
  rw [hl1]
  refine ⟨d1,fun f hf=>?_,?_⟩
  ·obtain ⟨x,hx,rfl⟩:=List.mem_map.1 hf
   have q:=p1 x hx
   simp only [Y9]
   exact ⟨Nat.le_trans q.1 (by decide),q.2⟩
  ·have e:(fs.map fun f=>(bB f.Name,bB f.Data)).map (fun f=>f.1.data.toList)=fs.map (·.Name):=by
    rw [List.map_map]
    refine List.map_congr_left fun x _=>?_
    simp only [Function.comp,Y0]
   rw [e]; exact d2
 ·rw [hl2]; exact p2
 ·intro y hy
  obtain ⟨x,hx,rfl⟩:=List.mem_map.1 hy
  have q:=p3 x hx
  simp only [Xx,Y9]
  exact ⟨Nat.le_trans q.1 (by decide),Nat.le_trans q.2.1 (by decide),q.2.2⟩
end Go.Vm
set_option linter.all false
set_option maxRecDepth 100000
namespace Go.Vm
def rT (n d:List UInt8) (left:Int):Prop:=n.length ≤ big∧d.length ≤ big∧0 ≤ left∧left ≤ 1048576
def yV (n d:List UInt8) (left:Int):Int:=if left < n.length then -1 else if left - n.length < d.length then -1 else left - n.length - d.length
theorem bF (n d:List UInt8) (left:Int) (h:rT n d left):∃ N,sV N n d left=some (yV n d left):=by
 obtain ⟨h1,h2,h3,h4⟩:=h
 rw [uH] at h1 h2
 refine ⟨0,?_⟩
 unfold sV yV
 rw [wH (n:=left - n.length) (by omega)]
 by_cases c1:left < n.length
 ·rw [if_pos c1,if_pos (by omega)]
 ·rw [if_neg c1,if_neg (by omega),wH (by omega)]
  by_cases c2:left - n.length < d.length
  ·rw [if_pos c2,if_pos (by omega)]
  ·rw [if_neg c2,if_neg (by omega)]
def ox (x:TFile):Prop:=x.Name.length ≤ big∧x.Data.length ≤ big
def t8 (l:List TFile) (left:Int):Prop:=l.length ≤ big∧(∀ x ∈ l,ox x)∧0 ≤ left∧left ≤ 1048576
def szF:List TFile→Int→Int
 | [],left=>left
 | x :: r,left=>if yV x.Name x.Data left < 0 then -1 else szF r (yV x.Name x.Data left)
def wR (l:List TFile) (left:Int):Int:=if left < l.length then -1 else szF l (left - l.length)
theorem Us (n d:List UInt8) (left:Int) (h:left ≤ 1048576):yV n d left ≤ 1048576:=by
 unfold yV; split
 ·omega
 ·split <;> omega
theorem cK (L:List UInt8→List UInt8→Int→Option Int) (hL:∀ n d l,rT n d l→L n d l=some (yV n d l)) (l:List TFile) (hl:few l) (hf:∀ x ∈ l,ox x):
  ∀ (r:List TFile) (j e:Nat) (left:Int),l.drop j=r→0 ≤ left→left ≤ 1048576→ww L (r.length+1+e) l left j=some (szF r left)
 | [],j,e,left,hd,h0,h1=>by
   rw [List.length_nil,tW]
   simp only [ww]
   rw [if_neg (vJ hd)]; rfl
 | x :: r,j,e,left,hd,h0,h1=>by
   obtain ⟨g1,g2,g3,g4,g5,g6⟩:=wm hd
   have hx:=hf x (List.mem_of_getElem? g4)
   rw [List.length_cons,yJ]
   simp only [ww]
   rw [if_pos g2,g3]
   simp only [Option.bind_some]
   rw [hL _ _ _ ⟨hx.1,hx.2,h0,h1⟩]
   simp only [Option.bind_some,szF]
   by_cases c:yV x.Name x.Data left < 0
   ·rw [if_pos c,if_pos c]
   ·rw [if_neg c,if_neg c,we g1 (xR hl)]
    exact cK L hL l hl hf r (j+1) e _ g5 (by omega) (Us _ _ _ h1)
theorem dx (L:List UInt8→List UInt8→Int→Option Int) (hL:∀ n d l,rT n d l→L n d l=some (yV n d l)) (l:List TFile) (left:Int) (h:t8 l left):
  ∃ N,tv L N l left=some (wR l left):=by
 obtain ⟨h1,h2,h3,h4⟩:=h
 rw [uH] at h1
 refine ⟨l.length+1,?_⟩
 unfold tv wR
 rw [wH (n:=left - l.length) (by omega)]
 by_cases c:left < l.length
 ·rw [if_pos c,if_pos (by omega)]
 ·rw [if_neg c,if_neg (by omega)]
  exact cK L hL l (by unfold few; omega) h2 l 0 0 _ rfl (by omega) (by omega)
def p5 (l:List TFile) (left:Int):Prop:=t8 l left
def vG (l:List TFile) (left:Int):Int:=if wR l left < 0 then -1 else wR l left
theorem bv (L:List TFile→Int→Option Int) (hL:∀ l n,t8 l n→L l n=some (wR l n)) (l:List TFile) (left:Int) (h:p5 l left):
  ∃ N,sJ L N l left=some (vG l left):=by
 refine ⟨0,?_⟩
 unfold sJ vG
 rw [hL _ _ h]
 simp only [Option.bind_some]
 split <;> rfl
def qH (k:Int) (n t d:List UInt8) (left:Int):Prop:=n.length ≤ big∧t.length ≤ big∧d.length ≤ big∧0 ≤ left∧left ≤ 1048576
def xa (k:Int) (n t d:List UInt8) (left:Int):Int:=if left < n.length then -1 else if left - n.length < t.length then -1 else if left - n.length - t.length < d.length then -1 else left - n.length - t.length - d.length
theorem ZR (k:Int) (n t d:List UInt8) (left:Int) (h:qH k n t d left):∃ N,qd N k n t d left=some (xa k n t d left):=by
 obtain ⟨h1,h2,h3,h4,h5⟩:=h
 rw [uH] at h1 h2 h3
 refine ⟨0,?_⟩
 unfold qd xa
 rw [wH (n:=left - n.length) (by omega)]
 by_cases c1:left < n.length
 ·rw [if_pos c1,if_pos (by omega)]
 ·rw [if_neg c1,if_neg (by omega),wH (n:=left - n.length - t.length) (by omega)]
  by_cases c2:left - n.length < t.length
  ·rw [if_pos c2,if_pos (by omega)]
  ·rw [if_neg c2,if_neg (by omega),wH (by omega)]
   by_cases c3:left - n.length - t.length < d.length
   ·rw [if_pos c3,if_pos (by omega)]
   ·rw [if_neg c3,if_neg (by omega)]
def WB (x:TAct):Prop:=x.Name.length ≤ big∧x.To.length ≤ big∧x.Data.length ≤ big
def om (l:List TAct) (left:Int):Prop:=l.length ≤ big∧(∀ x ∈ l,WB x)∧0 ≤ left∧left ≤ 1048576
def szA:List TAct→Int→Int
 | [],left=>left
 | x :: r,left=>if xa x.Kind x.Name x.To x.Data left < 0 then -1 else szA r (xa x.Kind x.Name x.To x.Data left)
def uw (l:List TAct) (left:Int):Int:=if left < l.length then -1 else szA l (left - l.length)
theorem QA (k:Int) (n t d:List UInt8) (left:Int) (h:left ≤ 1048576):xa k n t d left ≤ 1048576:=by
 unfold xa; split
 ·omega
 ·split
  ·omega
  ·split <;> omega
theorem aa (L:Int→List UInt8→List UInt8→List UInt8→Int→Option Int) (hL:∀ k n t d l,qH k n t d l→L k n t d l=some (xa k n t d l)) (l:List TAct) (hl:few l) (hf:∀ x ∈ l,WB x):
  ∀ (r:List TAct) (j e:Nat) (left:Int),l.drop j=r→0 ≤ left→left ≤ 1048576→wV L (r.length+1+e) l left j=some (szA r left)
 | [],j,e,left,hd,h0,h1=>by
   rw [List.length_nil,tW]
   simp only [wV]
   rw [if_neg (vJ hd)]; rfl
 | x :: r,j,e,left,hd,h0,h1=>by
   obtain ⟨g1,g2,g3,g4,g5,g6⟩:=wm hd
   have hx:=hf x (List.mem_of_getElem? g4)
   rw [List.length_cons,yJ]
   simp only [wV]
   rw [if_pos g2,g3]
   simp only [Option.bind_some]
   rw [hL _ _ _ _ _ ⟨hx.1,hx.2.1,hx.2.2,h0,h1⟩]
   simp only [Option.bind_some,szA]
   by_cases c:xa x.Kind x.Name x.To x.Data left < 0
   ·rw [if_pos c,if_pos c]
   ·rw [if_neg c,if_neg c,we g1 (xR hl)]
    exact aa L hL l hl hf r (j+1) e _ g5 (by omega) (QA _ _ _ _ _ h1)
theorem bl (L:Int→List UInt8→List UInt8→List UInt8→Int→Option Int) (hL:∀ k n t d l,qH k n t d l→L k n t d l=some (xa k n t d l)) (l:List TAct) (left:Int) (h:om l left):
  ∃ N,rl L N l left=some (uw l left):=by
 obtain ⟨h1,h2,h3,h4⟩:=h
 rw [uH] at h1
 refine ⟨l.length+1,?_⟩
 unfold rl uw
 rw [wH (n:=left - l.length) (by omega)]
 by_cases c:left < l.length
 ·rw [if_pos c,if_pos (by omega)]
 ·rw [if_neg c,if_neg (by omega)]
  exact aa L hL l (by unfold few; omega) h2 l 0 0 _ rfl (by omega) (by omega)
def rW (n d:List UInt8):Prop:=True
def sE (n d:List UInt8):List UInt8×List UInt8:=(n,d)
theorem be (n d:List UInt8) (h:rW n d):∃ N,pF N n d=some (sE n d):=⟨0,rfl⟩
def pQ (l:List TFile):Prop:=few l
def qJ (l:List TFile):List TFile:=l
theorem cu (L:List UInt8→List UInt8→Option (List UInt8×List UInt8)) (hL:∀ n d,rW n d→L n d=some (sE n d)) (l:List TFile) (hl:few l):
  ∀ (r:List TFile) (j e:Nat) (z:List TFile),l.drop j=r→z.length=l.length→z.take j=l.take j→wA L (r.length+1+e) l j z=some l
 | [],j,e,z,hd,hz,ht=>by
   have h:=vJ hd
   have hj:l.length ≤ j:=by omega
   rw [List.length_nil,tW]
   simp only [wA]
   rw [if_neg h,← List.take_of_length_le (show z.length ≤ j by omega),ht,List.take_of_length_le hj]
 | x :: r,j,e,z,hd,hz,ht=>by
   obtain ⟨h1,h2,h3,h4,h5,h6⟩:=wm hd
   rw [List.length_cons,yJ]
   simp only [wA]
   rw [if_pos h2,h3]
   simp only [Option.bind_some]
   rw [hL _ _ trivial]
   simp only [Option.bind_some,sE]
   rw [if_pos (by omega),Int.toNat_natCast,oM,if_pos (by omega)]
   simp only [Option.bind_some]
   rw [we h1 (xR hl)]
   refine cu L hL l hl r (j+1) e (z.set j x) h5 (by simp [hz]) ?_
   rw [List.take_add_one,List.take_add_one,List.getElem?_set_self (by omega),h4,List.take_set_of_le (Nat.le_refl j),ht]
theorem dr (L:List UInt8→List UInt8→Option (List UInt8×List UInt8)) (hL:∀ n d,rW n d→L n d=some (sE n d)) (l:List TFile) (h:pQ l):
  ∃ N,tz L N l=some (qJ l):=by
 refine ⟨l.length+1,?_⟩
 unfold tz qJ
 have h':l.length ≤ 1048576:=h
 rw [if_pos (by unfold j3 va; omega)]
 exact cu L hL l h l 0 0 _ rfl (by simp) rfl
def oA (l:List TFile):Prop:=few l
def pE (l:List TFile):List TFile:=l
theorem bg (L:List TFile→Option (List TFile)) (hL:∀ l,pQ l→L l=some (qJ l)) (l:List TFile) (h:oA l):
  ∃ N,sy L N l=some (pE l):=by
 refine ⟨0,?_⟩
 unfold sy
 rw [hL _ h]; rfl
def qG (k:Int) (n t d:List UInt8):Prop:=True
def rY (k:Int) (n t d:List UInt8):Int×List UInt8×List UInt8×List UInt8:=(k,n,t,d)
theorem aO (k:Int) (n t d:List UInt8) (h:qG k n t d):∃ N,oz N k n t d=some (rY k n t d):=⟨0,rfl⟩
def oD (l:List TAct):Prop:=few l
def sR (l:List TAct):List TAct:=l
theorem aJ (L:Int→List UInt8→List UInt8→List UInt8→Option (Int×List UInt8×List UInt8×List UInt8)) (hL:∀ k n t d,qG k n t d→L k n t d=some (rY k n t d)) (l:List TAct) (hl:few l):
  ∀ (r:List TAct) (j e:Nat) (z:List TAct),l.drop j=r→z.length=l.length→z.take j=l.take j→wP L (r.length+1+e) l j z=some l
 | [],j,e,z,hd,hz,ht=>by
   have h:=vJ hd
   have hj:l.length ≤ j:=by omega
   rw [List.length_nil,tW]
   simp only [wP]
   rw [if_neg h,← List.take_of_length_le (show z.length ≤ j by omega),ht,List.take_of_length_le hj]
 | x :: r,j,e,z,hd,hz,ht=>by
   obtain ⟨h1,h2,h3,h4,h5,h6⟩:=wm hd
   rw [List.length_cons,yJ]
   simp only [wP]
   rw [if_pos h2,h3]
   simp only [Option.bind_some]
   rw [hL _ _ _ _ trivial]
   simp only [Option.bind_some,rY]
   rw [if_pos (by omega),Int.toNat_natCast,oM,if_pos (by omega)]
   simp only [Option.bind_some]
   rw [we h1 (xR hl)]
   refine aJ L hL l hl r (j+1) e (z.set j x) h5 (by simp [hz]) ?_
   rw [List.take_add_one,List.take_add_one,List.getElem?_set_self (by omega),h4,List.take_set_of_le (Nat.le_refl j),ht]
theorem bc (L:Int→List UInt8→List UInt8→List UInt8→Option (Int×List UInt8×List UInt8×List UInt8)) (hL:∀ k n t d,qG k n t d→L k n t d=some (rY k n t d)) (l:List TAct) (h:oD l):
  ∃ N,ra L N l=some (sR l):=by
 refine ⟨l.length+1,?_⟩
 unfold ra sR
 have h':l.length ≤ 1048576:=h
 rw [if_pos (by unfold j3 va; omega)]
 exact aJ L hL l h l 0 0 _ rfl (by simp) rfl
def rP (l:List TFile):Prop:=few l
def ux (l:List TFile):List TFile:=l
def jb (l:List TFile):List TFile:=ux l
theorem Zz {l:List TFile} (h:few l):ub 32 l.length:=by
 have h':l.length ≤ 1048576:=h
 unfold ub va; omega
theorem cT (l:List TFile) (h:rP l):∃ N,rn N l=some (ux l):=by
 refine ⟨0,?_⟩
 unfold rn ux
 rw [if_pos (Zz h)]
def sf (c:Int):Prop:=True
def kl (c:Int):Bool:=decide (48 ≤ c)&&decide (c ≤ 57)
def vZ (c:Int):Bool:=kl c
theorem dV (c:Int) (h:sf c):∃ N,tI N c=some (vZ c):=by
 refine ⟨0,?_⟩
 unfold tI vZ kl
 by_cases h:48 ≤ c <;> simp [h]
def ti (c:Int):Prop:=True
def kE (c:Int):Bool:=(decide (97 ≤ c)&&decide (c ≤ 122))||(decide (65 ≤ c)&&decide (c ≤ 90))
def vo (c:Int):Bool:=kE c
theorem ea (c:Int) (h:ti c):∃ N,u3 N c=some (vo c):=by
 refine ⟨0,?_⟩
 unfold u3 vo kE
 by_cases h:97 ≤ c <;> by_cases h':c ≤ 122 <;> by_cases h'':65 ≤ c <;> simp [h,h',h'']
def vK (l:List UInt8):Prop:=l.length ≤ big
def eX (b:UInt8):Bool:=kl b.toNat||kE b.toNat||decide ((b.toNat:Int)=46)||decide ((b.toNat:Int)=95)
def vL (l:List UInt8):Bool:=l.all eX&&(decide (1 ≤ l.length)&&decide (l.length ≤ 40))
def vm (l:List UInt8):Bool:=vL l
theorem fV (L1 L2:Int→Option Bool) (h1:∀ c,sf c→L1 c=some (vZ c)) (h2:∀ c,ti c→L2 c=some (vo c)) (l:List UInt8) (hl:l.length ≤ big):
  ∀ (r:List UInt8) (j e:Nat),l.drop j=r→xb L1 L2 (r.length+1+e) l j=some (r.all eX&&(decide (1 ≤ l.length)&&decide (l.length ≤ 40)))
 | [],j,e,hd=>by
   rw [List.length_nil,tW]
   simp only [xb]
   rw [if_neg (vJ hd)]
   by_cases c:1 ≤ l.length
   ·rw [if_pos (by omega)]
    by_cases c':l.length ≤ 40
    ·have:(l.length:Int) ≤ 40:=by omega
     simp [c,c',this]
    ·have:¬ (l.length:Int) ≤ 40:=by omega
     simp [c,c',this]
   ·rw [if_neg (by omega)]; simp [c]
 | b :: r,j,e,hd=>by
   obtain ⟨g1,g2,g3,g4,g5,g6⟩:=wm hd
   rw [List.length_cons,yJ]
   simp only [xb]
   rw [if_pos g2,cq g3]
   simp only [Option.bind_some]
   rw [h1 _ trivial,h2 _ trivial,we g1 hl,fV L1 L2 h1 h2 l hl r (j+1) e g5]
   simp only [Option.bind_some,List.all_cons,vZ,vo,eX]
   by_cases c1:kl b.toNat=true
   ·simp [c1]
   ·by_cases c2:kE b.toNat=true
    ·simp [c1,c2]
    ·by_cases c3:(b.toNat:Int)=46
     ·simp [c1,c2,c3]
     ·by_cases c4:(b.toNat:Int)=95
      ·simp [c1,c2,c3,c4]
      ·simp [c1,c2,c3,c4]
theorem fU (L1:Int→Option Bool) (h1:∀ c,sf c→L1 c=some (vZ c)) (L2:Int→Option Bool) (h2:∀ c,ti c→L2 c=some (vo c)) (l:List UInt8) (h:vK l):
  ∃ N,rQ L1 L2 N l=some (vm l):=⟨l.length+1,fV L1 L2 h1 h2 l h l 0 0 rfl⟩
def oa (l:List TFile):Prop:=few l∧∀ x ∈ l,ox x
def m7:Option (List UInt8)→List TFile→Bool
 | _,[]=>true
 | p,x :: r=>vL x.Name&&decide (x.Data.length ≤ 100000)&&(match p with | none=>true | some q=>wL q x.Name)&&m7 (some x.Name) r
def qC (l:List TFile):Bool:=decide (l.length ≤ 400)&&m7 none l
def sx (l:List TFile):Bool:=qC l
theorem YU {l:List TFile} {j:Nat} {x:TFile} (h:l[j]? =some x):(if j+1=0 then none else (l[j+1 - 1]?).map (·.Name))=some x.Name:=by
 rw [if_neg (by omega),Nat.add_sub_cancel,h]; rfl
theorem Zt {j n:Nat} (h:j < n) (hn:n ≤ big) (h0:0 < j):w64 ((j:Int) - 1)=((j - 1:Nat):Int):=by
 rw [uH] at hn
 rw [wH (by omega)]; omega
theorem er (L:List UInt8→Option Bool) (hL:∀ l,vK l→L l=some (vm l)) (l:List TFile) (hl:few l) (hf:∀ x ∈ l,ox x):
  ∀ (r:List TFile) (j e:Nat) (p:Option (List UInt8)),l.drop j=r→p=(if j=0 then none else (l[j - 1]?).map (·.Name))→wg L (r.length+1+e) j l=some (m7 p r)
 | [],j,e,p,hd,hp=>by
   rw [List.length_nil,tW]
   simp only [wg]
   rw [if_neg (vJ hd)]; rfl
 | x :: r,j,e,p,hd,hp=>by
   obtain ⟨g1,g2,g3,g4,g5,g6⟩:=wm hd
   have hx:=hf x (List.mem_of_getElem? g4)
   rw [List.length_cons,yJ]
   simp only [wg]
   rw [if_pos g2,g3]
   simp only [Option.bind_some]
   rw [hL _ hx.1]
   simp only [Option.bind_some,vm,m7]
   have ih:=er L hL l hl hf r (j+1) e (some x.Name) g5 (YU g4).symm
   cases c1:vL x.Name with
   | false=>simp
   | true=>
     rw [if_neg (by simp)]
     by_cases c2:(100000:Int) < x.Data.length
     ·have:¬ x.Data.length ≤ 100000:=by omega
      rw [if_pos c2]; simp [this]
     ·have e2:x.Data.length ≤ 100000:=by omega
      rw [if_neg c2,we g1 (xR hl),ih]
      by_cases c3:(0:Int) < j
      ·rw [if_pos c3,Zt g1 (xR hl) (by omega),dN]
       have hj:j - 1 < l.length:=by omega
       rw [if_neg (by omega)] at hp
       rw [List.getElem?_eq_getElem hj] at hp ⊢
       subst hp
       simp only [Option.bind_some,Option.map_some,e2,decide_true,Bool.true_and]
       cases wL l[j - 1].Name x.Name <;> simp
      ·rw [if_neg c3]
       rw [if_pos (by omega)] at hp
       subst hp
       simp [e2]
theorem bk (L:List UInt8→Option Bool) (hL:∀ l,vK l→L l=some (vm l)) (l:List TFile) (h:oa l):∃ N,sT L N l=some (sx l):=by
 refine ⟨l.length+1,?_⟩
 unfold sT sx qC
 by_cases c:(400:Int) < l.length
 ·have:¬ l.length ≤ 400:=by omega
  rw [if_pos c]; simp [this]
 ·have e:l.length ≤ 400:=by omega
  rw [if_neg c]
  simp only [e,decide_true,Bool.true_and]
  exact er L hL l h.1 h.2 l 0 0 none rfl rfl
def pS (k:Int) (n t d:List UInt8):Prop:=n.length ≤ big∧t.length ≤ big
def rC (k:Int) (n t d:List UInt8):Bool:=decide (1 ≤ k)&&decide (k ≤ 4)&&vL n&&(decide (k=2)||decide (d=[]))&&(if k=3 then vL t else decide (t=[]))
def tL (k:Int) (n t d:List UInt8):Bool:=rC k n t d
theorem dF (L:List UInt8→Option Bool) (hL:∀ l,vK l→L l=some (vm l)) (k:Int) (n t d:List UInt8) (h:pS k n t d):∃ N,tT L N k n t d=some (tL k n t d):=by
 refine ⟨0,?_⟩
 have h1:L n=some (vL n):=hL _ h.1
 have h2:L t=some (vL t):=hL _ h.2
 unfold tT tL rC
 rw [h1,h2]
 by_cases c1:k < 1
 ·rw [if_pos c1,decide_eq_false (show ¬ 1 ≤ k by omega)]; simp
 ·rw [if_neg c1,decide_eq_true (show 1 ≤ k by omega)]
  by_cases c2:4 < k
  ·rw [if_pos c2,decide_eq_false (show ¬ k ≤ 4 by omega)]; simp
  ·rw [if_neg c2,decide_eq_true (show k ≤ 4 by omega)]
   simp only [Option.bind_some]
   cases vL n with
   | false=>simp
   | true=>
     rw [if_neg (by simp)]
     by_cases c3:k=2
     ·subst c3; simp
     ·rw [if_neg c3]
      by_cases c4:d=[]
      ·by_cases c5:k=3
       ·subst c5; simp [c4]
       ·simp [c3,c4,c5]
      ·simp [c3,c4]
def nK (fs:List TFile) (n:List UInt8):Prop:=few fs
def atF (n:List UInt8):List TFile→Nat→Int
 | [],_=>-1
 | f :: r,i=>if f.Name=n then i else atF n r (i+1)
def o8 (fs:List TFile) (n:List UInt8):Int:=atF n fs 0
theorem K5 (n:List UInt8) (fs:List TFile) (hl:few fs):∀ (r:List TFile) (j e:Nat),fs.drop j=r→uk (r.length+1+e) n j fs=some (atF n r j)
 | [],j,e,hd=>by
   rw [List.length_nil,tW]
   simp only [uk]
   rw [if_neg (vJ hd)]; rfl
 | x :: r,j,e,hd=>by
   obtain ⟨g1,g2,g3,g4,g5,g6⟩:=wm hd
   rw [List.length_cons,yJ]
   simp only [uk]
   rw [if_pos g2,g3]
   simp only [Option.bind_some,atF]
   by_cases c:x.Name=n
   ·rw [if_pos c,if_pos c]
   ·rw [if_neg c,if_neg c,we g1 (xR hl)]
    exact K5 n fs hl r (j+1) e g5
theorem Z8 (fs:List TFile) (n:List UInt8) (h:nK fs n):∃ N,oW N fs n=some (o8 fs n):=⟨fs.length+1,K5 n fs h fs 0 0 rfl⟩
def od (fs:List TFile) (n d:List UInt8):Prop:=few fs
def qW (fs:List TFile) (n d:List UInt8):List TFile:=fs.takeWhile (fun f=>wL f.Name n)++⟨n,d⟩ :: fs.filter fun f=>!(wL f.Name n||decide (f.Name=n))
def pH (fs:List TFile) (n d:List UInt8):List TFile:=qW fs n d
theorem iC (n d:List UInt8) (fs:List TFile) (hl:few fs):∀ (r:List TFile) (j e:Nat) (acc:List TFile),fs.drop j=r→acc.length ≤ 1048577+j→xH (r.length+1+e) j fs n d acc=some (acc++r.filter fun f=>!(wL f.Name n||decide (f.Name=n)))
 | [],j,e,acc,hd,ha=>by
   rw [List.length_nil,tW]
   simp only [xH]
   rw [if_neg (vJ hd)]; simp
 | x :: r,j,e,acc,hd,ha=>by
   obtain ⟨g1,g2,g3,g4,g5,g6⟩:=wm hd
   have hl':fs.length ≤ 1048576:=hl
   rw [List.length_cons,yJ]
   simp only [xH]
   rw [if_pos g2,g3]
   simp only [Option.bind_some]
   by_cases c:(wL x.Name n||decide (x.Name=n))=false
   ·rw [if_pos c,if_pos (by unfold ub va; simp only [List.length_append,List.length_cons,List.length_nil]; omega),we g1 (xR hl),iC n d fs hl r (j+1) e _ g5 (by simp only [List.length_append,List.length_cons,List.length_nil]; omega),List.filter_cons_of_pos (by simp [c])]
    simp
   ·rw [if_neg c,we g1 (xR hl),iC n d fs hl r (j+1) e _ g5 (by omega),List.filter_cons_of_neg (by simpa using c)]
theorem Xd (n d:List UInt8) (fs:List TFile) (hl:few fs):∀ (r:List TFile) (j e:Nat) (acc:List TFile),fs.drop j=r→acc.length ≤ j∧j ≤ fs.length→wT (fs.length+1) (r.length+1+e) j fs n d acc=some (acc++r.takeWhile (fun f=>wL f.Name n)++⟨n,d⟩ :: fs.filter fun f=>!(wL f.Name n||decide (f.Name=n)))
 | [],j,e,acc,hd,ha=>by
   have hl':fs.length ≤ 1048576:=hl
   rw [List.length_nil,tW]
   simp only [wT]
   by_cases hz:acc.length ≤ 1048576
   ·rw [if_neg (vJ hd),if_pos (by unfold ub va; simp only [List.length_append,List.length_cons,List.length_nil]; omega)]
    refine (iC n d fs hl fs 0 0 _ rfl ?_).trans ?_
    ·simp only [List.length_append,List.length_cons,List.length_nil]; omega
    ·simp
   ·omega
 | x :: r,j,e,acc,hd,ha=>by
   obtain ⟨g1,g2,g3,g4,g5,g6⟩:=wm hd
   have hl':fs.length ≤ 1048576:=hl
   rw [List.length_cons,yJ]
   simp only [wT]
   rw [if_pos g2,g3]
   simp only [Option.bind_some]
   by_cases c:wL x.Name n=true
   ·rw [if_pos c,if_pos (by unfold ub va; simp only [List.length_append,List.length_cons,List.length_nil]; omega),we g1 (xR hl),Xd n d fs hl r (j+1) e _ g5 ⟨by simp only [List.length_append,List.length_cons,List.length_nil]; omega,by omega⟩,List.takeWhile_cons_of_pos (by simpa using c)]
    simp
   ·rw [if_neg c,if_pos (by unfold ub va; simp only [List.length_append,List.length_cons,List.length_nil]; omega)]
    refine (iC n d fs hl fs 0 0 _ rfl ?_).trans ?_
    ·simp only [List.length_append,List.length_cons,List.length_nil]; omega
    ·rw [List.takeWhile_cons_of_neg (by simpa using c)]; simp
theorem bC (fs:List TFile) (n d:List UInt8) (h:od fs n d):∃ N,px N fs n d=some (pH fs n d):=
 ⟨fs.length+1,Xd n d fs h fs 0 0 [] rfl ⟨Nat.zero_le _,Nat.zero_le _⟩⟩
def qq (fs:List TFile) (n:List UInt8):Prop:=few fs
def vP (fs:List TFile) (n:List UInt8):List TFile:=fs.filter fun f=>decide (f.Name ≠ n)
def sn (fs:List TFile) (n:List UInt8):List TFile:=vP fs n
theorem jH (n:List UInt8) (fs:List TFile) (hl:few fs):∀ (r:List TFile) (j e:Nat) (acc:List TFile),fs.drop j=r→acc.length ≤ j→xn (r.length+1+e) n j fs acc=some (acc++vP r n)
 | [],j,e,acc,hd,ha=>by
   rw [List.length_nil,tW]
   simp only [xn]
   rw [if_neg (vJ hd)]; simp [vP]
 | x :: r,j,e,acc,hd,ha=>by
   obtain ⟨g1,g2,g3,g4,g5,g6⟩:=wm hd
   have hl':fs.length ≤ 1048576:=hl
   rw [List.length_cons,yJ]
   simp only [xn]
   rw [if_pos g2,g3]
   simp only [Option.bind_some]
   by_cases c:x.Name=n
   ·rw [if_pos c,we g1 (xR hl),jH n fs hl r (j+1) e _ g5 (by omega)]
    unfold vP
    rw [List.filter_cons_of_neg (by simpa using c)]
   ·rw [if_neg c,if_pos (by unfold ub va; simp only [List.length_append,List.length_cons,List.length_nil]; omega),we g1 (xR hl),jH n fs hl r (j+1) e _ g5 (by simp only [List.length_append,List.length_cons,List.length_nil]; omega)]
    unfold vP
    rw [List.filter_cons_of_pos (by simpa using c)]; simp
theorem fy (fs:List TFile) (n:List UInt8) (h:qq fs n):∃ N,sc N fs n=some (sn fs n):=
 ⟨fs.length+1,jH n fs h fs 0 0 [] rfl (Nat.zero_le _)⟩
def rr (fs:List TFile) (k:Int) (n t d:List UInt8):Prop:=few fs∧(∀ x ∈ fs,x.Data.length ≤ 1048576)∧n.length ≤ 1048576∧t.length ≤ 1048576∧d.length ≤ 1048576
def atN (fs:List TFile) (n:List UInt8):Option TFile:=fs.find? fun f=>decide (f.Name=n)
def vX (fs:List TFile) (k:Int) (n t d:List UInt8):Alt (List TFile×Int) (List TFile×Int):=
 if rC k n t d=false then .a (fs,2)
 else if k=1 then (if atN fs n=none∧400 ≤ fs.length then .a (fs,4) else .b (qW fs n [],0))
 else match atN fs n with
  | none=> .a (fs,3)
  | some f=>if k=2 then (if 100000 < f.Data.length+d.length then .a (fs,4) else .b (qW fs n (f.Data++d),0))
    else if k=3 then .b (qW (vP fs n) t f.Data,0) else .b (vP fs n,0)
def vV (fs:List TFile) (k:Int) (n t d:List UInt8):List TFile×Int:=match vX fs k n t d with
 | .a x=>x
 | .b x=>x
theorem aL (n:List UInt8) (fs:List TFile):∀ (r:List TFile) (j:Nat),fs.drop j=r→(r.find? (fun f=>decide (f.Name=n))=none∧atF n r j=-1) ∨ ∃ (i:Nat) (f:TFile),atF n r j=i∧fs[i]? =some f∧r.find? (fun f=>decide (f.Name=n))=some f
 | [],j,hd=> .inl ⟨rfl,rfl⟩
 | x :: r,j,hd=>by
   obtain ⟨g1,g2,g3,g4,g5,g6⟩:=wm hd
   simp only [atF]
   by_cases c:x.Name=n
   ·exact .inr ⟨j,x,if_pos c,g4,by rw [List.find?_cons_of_pos (by simpa using c)]⟩
   ·rw [if_neg c,List.find?_cons_of_neg (by simpa using c)]
    exact aL n fs r (j+1) g5
theorem Yw (L1:Int→List UInt8→List UInt8→List UInt8→Option Bool) (h1:∀ k n t d,pS k n t d→L1 k n t d=some (tL k n t d)) (L2:List TFile→List UInt8→Option Int) (h2:∀ fs n,nK fs n→L2 fs n=some (o8 fs n))
  (L3:List TFile→List UInt8→List UInt8→Option (List TFile)) (h3:∀ fs n d,od fs n d→L3 fs n d=some (pH fs n d)) (L4:List TFile→List UInt8→Option (List TFile)) (h4:∀ fs n,qq fs n→L4 fs n=some (sn fs n))
  (fs:List TFile) (k:Int) (n t d:List UInt8) (h:rr fs k n t d):∃ N,pn L1 L2 L3 L4 N fs k n t d=some (vX fs k n t d):=by
 obtain ⟨hf,hx,hn,ht,hd⟩:=h
 have hf':fs.length ≤ 1048576:=hf
 have hw:few (vP fs n):=by
  have:=List.length_filter_le (fun f:TFile=>decide (f.Name ≠ n)) fs
  show (vP fs n).length ≤ 1048576
  unfold vP; omega
 refine ⟨0,?_⟩
 unfold pn vX
 rw [h1 _ _ _ _ ⟨by rw [uH]; omega,by rw [uH]; omega⟩,h2 _ _ hf]
 simp only [h3 _ _ _ hf,h4 _ _ hf,h3 _ _ _ hw,Option.bind_some,pH,sn,tL,o8]
 by_cases c1:rC k n t d=false
 ·rw [if_pos c1,if_pos c1]
 rw [if_neg c1,if_neg c1]
 rcases aL n fs fs 0 rfl with ⟨e1,e2⟩ | ⟨i,f,e1,e2,e3⟩
 ·rw [e2]
  have e1':atN fs n=none:=e1
  by_cases c2:k=1
  ·rw [if_pos c2,if_pos c2,if_pos (by omega)]
   by_cases c3:400 ≤ fs.length
   ·rw [if_pos (by omega),if_pos ⟨e1',c3⟩]
   ·rw [if_neg (by omega),if_neg (fun h=>c3 h.2)]
  ·rw [if_neg c2,if_neg c2,if_pos (by omega),e1']
 ·rw [e1]
  have e3':atN fs n=some f:=e3
  have hm:f ∈ fs:=List.mem_of_getElem? e2
  have hfd:=hx f hm
  by_cases c2:k=1
  ·rw [if_pos c2,if_pos c2,if_neg (by omega),if_neg (by rw [e3']; simp)]
  ·rw [if_neg c2,if_neg c2,if_neg (by omega),dN,e2,e3']
   simp only [Option.bind_some]
   by_cases c3:k=2
   ·rw [if_pos c3,if_pos c3,wH (by omega)]
    by_cases c4:100000 < f.Data.length+d.length
    ·rw [if_pos (by omega),if_pos c4]
    ·rw [if_neg (by omega),if_neg c4,if_pos (by unfold ou; simp only [List.length_append]; omega)]
   ·rw [if_neg c3,if_neg c3]
    by_cases c4:k=3
    ·rw [if_pos c4,if_pos c4]
    ·rw [if_neg c4,if_neg c4]
def eB (x:TAct):Prop:=x.Name.length ≤ 1048576∧x.To.length ≤ 1048576∧x.Data.length ≤ 1048576
def uv (fs:List TFile) (acts:List TAct) (most:Int):Prop:=few fs∧(∀ x ∈ fs,x.Name.length ≤ 1048576∧x.Data.length ≤ 1048576)∧few acts∧∀ x ∈ acts,eB x
def doF (fs:List TFile) (x:TAct):List TFile×Int:=vV fs x.Kind x.Name x.To x.Data
def qQ (most:Int):List TAct→Nat→List TFile→List TFile×Nat
 | [],n,fs=>(fs,n)
 | a :: r,n,fs=>if (n:Int) < most then (if (doF fs a).2=0 then qQ most r (n+1) (doF fs a).1 else (fs,n)) else (fs,n)
def qS (fs:List TFile) (acts:List TAct) (most:Int):List TFile×Nat:=if qC fs=true∧acts.length ≤ 10000 then qQ most acts 0 fs else (fs,0)
def rF (fs:List TFile) (acts:List TAct) (most:Int):List TFile×Int:=((qS fs acts most).1,((qS fs acts most).2:Int))
def srt (fs:List TFile):Prop:=fs.Pairwise fun a b=>a.Name < b.Name
theorem fx (a b:List UInt8):wL a b=decide (a < b):=Go.Proofs.bytesLess_eq a b
theorem aZ {a b c:List UInt8} (h:a < b) (g:b < c):a < c:=List.lt_trans h g
theorem srt_cons {x:TFile} {r:List TFile}:srt (x :: r) ↔ (∀ y ∈ r,x.Name < y.Name)∧srt r:=List.pairwise_cons
theorem cr:∀ (fs:List TFile) (p:Option (List UInt8)),m7 p fs=true→srt fs∧(∀ q,p=some q→∀ x ∈ fs,q < x.Name)∧∀ x ∈ fs,x.Name.length ≤ 40∧x.Data.length ≤ 100000
 | [],p,h=>⟨.nil,fun _ _ _ hx=>(List.not_mem_nil hx).elim,fun _ hx=>(List.not_mem_nil hx).elim⟩
 | y :: r,p,h=>by
   simp only [m7,Bool.and_eq_true,decide_eq_true_eq] at h
   obtain ⟨⟨⟨h1,h2⟩,h3⟩,h4⟩:=h
   obtain ⟨i1,i2,i3⟩:=cr r _ h4
   have hy:∀ q,p=some q→q < y.Name:=by
    intro q hq
    subst hq
    simpa [fx] using h3
   refine ⟨srt_cons.2 ⟨i2 _ rfl,i1⟩,?_,?_⟩
   ·intro q hq x hx
    rcases List.mem_cons.1 hx with rfl | hx
    ·exact hy q hq
    ·exact aZ (hy q hq) (i2 _ rfl x hx)
   ·intro x hx
    rcases List.mem_cons.1 hx with rfl | hx
    ·refine ⟨?_,h2⟩
     unfold vL at h1
     simp only [Bool.and_eq_true,decide_eq_true_eq] at h1
     exact h1.2.2
    ·exact i3 x hx
theorem oB {fs:List TFile} (h:qC fs=true):srt fs∧fs.length ≤ 400∧∀ x ∈ fs,x.Name.length ≤ 40∧x.Data.length ≤ 100000:=by
 unfold qC at h
 simp only [Bool.and_eq_true,decide_eq_true_eq] at h
 obtain ⟨h1,h2⟩:=h
 obtain ⟨i1,_,i3⟩:=cr fs none h2
 exact ⟨i1,h1,i3⟩
structure FsIn (fs:List TFile) (m:Nat):Prop where
 srt:srt fs
 len:fs.length ≤ m
 dat:∀ x ∈ fs,x.Data.length ≤ 100000
theorem n4 {fs:List TFile} {m m':Nat} (h:FsIn fs m) (hm:m ≤ m'):FsIn fs m':=⟨h.srt,Nat.le_trans h.len hm,h.dat⟩
theorem ai (fs:List TFile) (x:TAct):doF fs x=(if rC x.Kind x.Name x.To x.Data=false then (fs,2)
 else if x.Kind=1 then (if atN fs x.Name=none∧400 ≤ fs.length then (fs,4) else (qW fs x.Name [],0))
 else match atN fs x.Name with
  | none=>(fs,3)
  | some f=>if x.Kind=2 then (if 100000 < f.Data.length+x.Data.length then (fs,4) else (qW fs x.Name (f.Data++x.Data),0))
    else if x.Kind=3 then (qW (vP fs x.Name) x.To f.Data,0) else (vP fs x.Name,0):List TFile×Int):=by
 unfold doF vV vX
 by_cases c1:rC x.Kind x.Name x.To x.Data=false
 ·simp only [if_pos c1]
 ·simp only [if_neg c1]
  by_cases c2:x.Kind=1
  ·simp only [if_pos c2]
   by_cases c3:atN fs x.Name=none∧400 ≤ fs.length
   ·simp only [if_pos c3]
   ·simp only [if_neg c3]
  ·simp only [if_neg c2]
   cases atN fs x.Name with
   | none=>rfl
   | some f=>
     simp only
     by_cases c3:x.Kind=2
     ·simp only [if_pos c3]
      by_cases c4:100000 < f.Data.length+x.Data.length
      ·simp only [if_pos c4]
      ·simp only [if_neg c4]
     ·simp only [if_neg c3]
      by_cases c4:x.Kind=3
      ·simp only [if_pos c4]
      ·simp only [if_neg c4]
theorem kW (a:List UInt8):¬ a < a:=List.lt_irrefl a
theorem Pm {a b:List UInt8} (h:¬ a < b) (g:a ≠ b):b < a:=by
 apply Classical.byContradiction
 intro hn
 exact g (List.le_antisymm (List.not_lt.1 hn) (List.not_lt.1 h))
theorem M1 (z n:List UInt8):(!(wL z n||decide (z=n)))=decide (n < z):=by
 rw [fx]
 by_cases c:n < z
 ·have h1:¬ z < n:=fun h=>kW _ (aZ h c)
  have h2:z ≠ n:=fun h=>kW _ (h ▸ c)
  simp [c,h1,h2]
 ·by_cases c2:z=n
  ·simp [c,c2]
  ·have:=Pm c (Ne.symm c2)
   simp [c,this]
theorem Zp (fs:List TFile) (n d:List UInt8):qW fs n d=fs.takeWhile (fun f=>decide (f.Name < n))++⟨n,d⟩ :: fs.filter fun f=>decide (n < f.Name):=by
 unfold qW
 simp only [M1]
 simp only [fx]
theorem ki (n d:List UInt8):∀ fs:List TFile,srt fs→(qW fs n d).Perm (⟨n,d⟩ :: vP fs n)
 | [],_=> .refl _
 | y :: r,h=>by
   obtain ⟨h1,h2⟩:=srt_cons.1 h
   have ih:=ki n d r h2
   rw [Zp] at ih ⊢
   unfold vP at ih ⊢
   by_cases c:y.Name < n
   ·have c1:¬ n < y.Name:=fun g=>kW _ (aZ g c)
    have c2:y.Name ≠ n:=fun g=>kW _ (g ▸ c)
    rw [List.takeWhile_cons_of_pos (by simpa using c),List.filter_cons_of_neg (by simpa using c1),List.filter_cons_of_pos (by simpa using c2),List.cons_append]
    exact (ih.cons y).trans (.swap _ _ _)
   ·rw [List.takeWhile_cons_of_neg (by simpa using c),List.nil_append]
    refine .cons _ (.of_eq (List.filter_congr ?_))
    intro z hz
    have hz':¬ z.Name < n:=by
     rcases List.mem_cons.1 hz with rfl | hz
     ·exact c
     ·intro g; exact c (aZ (h1 z hz) g)
    by_cases c3:z.Name=n
    ·have:¬ n < z.Name:=fun g=>kW _ (c3 ▸ g)
     simp [c3,kW]
    ·simp [c3,Pm hz' c3]
theorem Tv {p:TFile→Bool}:∀ {l:List TFile} {a:TFile},a ∈ l.takeWhile p→p a=true
 | [],a,h=>by simp at h
 | x :: l,a,h=>by
   rw [List.takeWhile_cons] at h
   split at h
   ·rename_i hx
    rcases List.mem_cons.1 h with h | h
    ·rw [h]; exact hx
    ·exact Tv h
   ·simp at h
theorem Uj {fs:List TFile} (n d:List UInt8) (h:srt fs):srt (qW fs n d):=by
 rw [Zp]
 unfold srt
 have ha:∀ a ∈ fs.takeWhile (fun f=>decide (f.Name < n)),a.Name < n:=fun a ha=>by
  have:=Tv ha
  simpa using this
 have hb:∀ b ∈ fs.filter (fun f=>decide (n < f.Name)),n < b.Name:=fun b hb=>by simpa using (List.mem_filter.1 hb).2
 refine List.pairwise_append.2 ⟨h.sublist (List.takeWhile_sublist _),List.pairwise_cons.2 ⟨fun b hb'=>hb b hb',h.filter _⟩,?_⟩
 intro a ha' b hb'
 rcases List.mem_cons.1 hb' with rfl | hb'
 ·exact ha a ha'
 ·exact aZ (ha a ha') (hb b hb')
theorem jK {fs:List TFile} {m:Nat} (h:FsIn fs m) (n d:List UInt8) (hd:d.length ≤ 100000):FsIn (qW fs n d) (m+1):=by
 have hp:=ki n d fs h.srt
 have hl:(vP fs n).length ≤ fs.length:=List.length_filter_le _ _
 refine ⟨Uj n d h.srt,by rw [hp.length_eq,List.length_cons]; have:=h.len; omega,fun x hx=>?_⟩
 rcases List.mem_cons.1 (hp.mem_iff.1 hx) with rfl | hx
 ·exact hd
 ·exact h.dat x (List.mem_filter.1 hx).1
theorem ZV {fs:List TFile} (h:srt fs) (n:List UInt8):srt (vP fs n):=h.filter _
theorem cy {fs:List TFile} {m:Nat} (h:FsIn fs m) (n:List UInt8):FsIn (vP fs n) m:=
 ⟨ZV h.srt n,by have:=List.length_filter_le (fun f:TFile=>decide (f.Name ≠ n)) fs; have:=h.len; unfold vP; omega,fun x hx=>h.dat x (List.mem_filter.1 hx).1⟩
theorem dQ {fs:List TFile} {m:Nat} (h:FsIn fs m) (x:TAct):FsIn (doF fs x).1 (m+1):=by
 rw [ai]
 split
 ·exact n4 h (by omega)
 ·split
  ·split
   ·exact n4 h (by omega)
   ·exact jK h _ _ (by simp)
  ·split
   ·exact n4 h (by omega)
   ·rename_i f hf
    have hm:f ∈ fs:=List.mem_of_find?_eq_some hf
    split
    ·split
     ·exact n4 h (by omega)
     ·exact jK h _ _ (by simp only [List.length_append]; omega)
    ·split
     ·exact jK (cy h _) _ _ (h.dat f hm)
     ·exact n4 (cy h _) (by omega)
theorem Vt (L1:List TFile→Option (List TFile)) (L2:List TFile→Option Bool) (L3:List TFile→Int→List UInt8→List UInt8→List UInt8→Option (List TFile×Int)) (h3:∀ fs k n t d,rr fs k n t d→L3 fs k n t d=some (vV fs k n t d))
  (acts:List TAct) (most:Int) (hl:few acts) (ha:∀ x ∈ acts,eB x):∀ (r:List TAct) (j e:Nat) (fs:List TFile),acts.drop j=r→((j:Int) ≤ most ∨ j=0)→FsIn fs (400+j)→acts.length ≤ 10000→j ≤ acts.length→
  ui L1 L2 L3 (r.length+1+e) acts most j fs=some ((qQ most r j fs).1,((qQ most r j fs).2:Int))
 | [],j,e,fs,hd,hj,hf,hc,hjl=>by
   have hlen:acts.length ≤ j:=by have:=congrArg List.length hd; simp at this; omega
   rw [List.length_nil,tW]
   simp only [ui,qQ]
   rw [if_neg (vJ hd)]
   by_cases c1:most < 0
   ·rw [if_pos c1,show j=0 by omega]; rfl
   ·rw [if_neg c1]
    by_cases c2:(acts.length:Int) < most
    ·rw [if_pos c2,show acts.length=j by omega]
    ·rw [if_neg c2,show most=(j:Int) by omega]
 | x :: r,j,e,fs,hd,hj,hf,hc,hjl=>by
   obtain ⟨g1,g2,g3,g4,g5,g6⟩:=wm hd
   have hx:=ha x (List.mem_of_getElem? g4)
   rw [List.length_cons,yJ]
   simp only [ui,qQ]
   rw [if_pos g2]
   by_cases c:(j:Int) < most
   ·rw [if_pos c,if_pos c,g3]
    simp only [Option.bind_some]
    rw [h3 _ _ _ _ _ ⟨by have:=hf.len; unfold few; omega,fun y hy=>by have:=hf.dat y hy; omega,hx.1,hx.2.1,hx.2.2⟩]
    simp only [Option.bind_some]
    by_cases c2:(doF fs x).2=0
    ·rw [if_pos c2,if_pos (show (vV fs x.Kind x.Name x.To x.Data).2=0 from c2),we g1 (xR hl)]
     exact Vt L1 L2 L3 h3 acts most hl ha r (j+1) e _ g5 (.inl (by omega)) (n4 (dQ hf x) (by omega)) hc (by omega)
    ·rw [if_neg c2,if_neg (show ¬ (vV fs x.Kind x.Name x.To x.Data).2=0 from c2)]
   ·rw [if_neg c,if_neg c]
    by_cases c1:most < 0
    ·rw [if_pos c1,show j=0 by omega]; rfl
    ·rw [if_neg c1,if_neg (by omega),show most=(j:Int) by omega]
theorem Pe {fs:List TFile} (h:∀ x ∈ fs,x.Name.length ≤ 1048576∧x.Data.length ≤ 1048576):∀ x ∈ fs,ox x:=fun x hx=>by
 have:=h x hx
 unfold ox
 rw [uH]; omega
theorem YC (L1:List TFile→Option (List TFile)) (h1:∀ l,rP l→L1 l=some (ux l)) (L2:List TFile→Option Bool) (h2:∀ l,oa l→L2 l=some (sx l))
  (L3:List TFile→Int→List UInt8→List UInt8→List UInt8→Option (List TFile×Int)) (h3:∀ fs k n t d,rr fs k n t d→L3 fs k n t d=some (vV fs k n t d))
  (fs:List TFile) (acts:List TAct) (most:Int) (h:uv fs acts most):∃ N,pg L1 L2 L3 N fs acts most=some (rF fs acts most):=by
 obtain ⟨g1,g2,g3,g4⟩:=h
 refine ⟨acts.length+1,?_⟩
 unfold pg rF qS
 rw [h1 _ g1]
 simp only [Option.bind_some,ux]
 rw [h2 _ ⟨g1,Pe g2⟩]
 simp only [Option.bind_some,sx]
 by_cases c:qC fs=true
 ·rw [if_neg (by rw [c]; simp)]
  by_cases c2:acts.length ≤ 10000
  ·rw [if_neg (by omega),if_pos ⟨c,c2⟩]
   obtain ⟨i1,i2,i3⟩:=oB c
   exact Vt L1 L2 L3 h3 acts most g3 g4 acts 0 0 fs rfl (.inr rfl) ⟨i1,i2,fun x hx=>(i3 x hx).2⟩ c2 (Nat.zero_le _)
  ·rw [if_pos (by omega),if_neg (fun h=>c2 h.2)]; rfl
 ·rw [if_pos (by simpa using c),if_neg (fun h=>c h.1)]; rfl
def tU (c:Int):Prop:=True
def v6 (c:Int):Bool:=kl c
theorem dl (c:Int) (h:tU c):∃ N,tG N c=some (v6 c):=by
 refine ⟨0,?_⟩
 unfold tG v6 kl
 by_cases h:48 ≤ c <;> simp [h]
def tp (c:Int):Prop:=True
def vl (c:Int):Bool:=kE c
theorem fQ (c:Int) (h:tp c):∃ N,uO N c=some (vl c):=by
 refine ⟨0,?_⟩
 unfold uO vl kE
 by_cases h:97 ≤ c <;> by_cases h':c ≤ 122 <;> by_cases h'':65 ≤ c <;> simp [h,h',h'']
def wN (l:List UInt8):Prop:=l.length ≤ big
def xN (l:List UInt8):Bool:=vL l
theorem fH (L1 L2:Int→Option Bool) (h1:∀ c,tU c→L1 c=some (v6 c)) (h2:∀ c,tp c→L2 c=some (vl c)) (l:List UInt8) (hl:l.length ≤ big):
  ∀ (r:List UInt8) (j e:Nat),l.drop j=r→yR L1 L2 (r.length+1+e) l l.length j=some (r.all eX)
 | [],j,e,hd=>by
   rw [List.length_nil,tW]
   simp only [yR]
   rw [if_neg (vJ hd)]; rfl
 | b :: r,j,e,hd=>by
   obtain ⟨g1,g2,g3,g4,g5,g6⟩:=wm hd
   rw [List.length_cons,yJ]
   simp only [yR]
   rw [if_pos g2,cq g3]
   simp only [Option.bind_some]
   rw [h1 _ trivial,h2 _ trivial,we g1 hl,fH L1 L2 h1 h2 l hl r (j+1) e g5]
   simp only [Option.bind_some,List.all_cons,v6,vl,eX]
   by_cases c1:kl b.toNat=true
   ·simp [c1]
   ·by_cases c2:kE b.toNat=true
    ·simp [c1,c2]
    ·by_cases c3:(b.toNat:Int)=46
     ·simp [c1,c2,c3]
     ·by_cases c4:(b.toNat:Int)=95
      ·simp [c1,c2,c3,c4]
      ·simp [c1,c2,c3,c4]
theorem iX (L1:Int→Option Bool) (h1:∀ c,tU c→L1 c=some (v6 c)) (L2:Int→Option Bool) (h2:∀ c,tp c→L2 c=some (vl c)) (l:List UInt8) (h:wN l):
  ∃ N,vI L1 L2 N l=some (xN l):=by
 refine ⟨l.length+1,?_⟩
 unfold vI xN vL
 by_cases c:(l.length:Int) < 1
 ·have:¬ 1 ≤ l.length:=by omega
  rw [if_pos c]; simp [this]
 ·rw [if_neg c]
  by_cases c':(40:Int) < l.length
  ·have:¬ l.length ≤ 40:=by omega
   rw [if_pos c']; simp [this]
  ·rw [if_neg c']
   have q:=fH L1 L2 h1 h2 l h l 0 0 rfl
   have e1:1 ≤ l.length:=by omega
   have e2:l.length ≤ 40:=by omega
   simp only [e1,e2,decide_true,Bool.and_self,Bool.and_true]
   exact q
def lb (l:List TFile):Prop:=few l∧∀ x ∈ l,ox x
def pI (l:List TFile):Bool:=qC l
theorem ew (L:List UInt8→Option Bool) (hL:∀ l,wN l→L l=some (xN l)) (l:List TFile) (hl:few l) (hf:∀ x ∈ l,ox x):
  ∀ (r:List TFile) (j e:Nat) (p:Option (List UInt8)),l.drop j=r→p=(if j=0 then none else (l[j - 1]?).map (·.Name))→wi L (r.length+1+e) l l.length j l=some (m7 p r)
 | [],j,e,p,hd,hp=>by
   rw [List.length_nil,tW]
   simp only [wi]
   rw [if_neg (vJ hd)]; rfl
 | x :: r,j,e,p,hd,hp=>by
   obtain ⟨g1,g2,g3,g4,g5,g6⟩:=wm hd
   have hx:=hf x (List.mem_of_getElem? g4)
   rw [List.length_cons,yJ]
   simp only [wi]
   rw [if_pos g2,g3]
   simp only [Option.bind_some]
   rw [hL _ hx.1]
   simp only [Option.bind_some,xN,m7]
   have ih:=ew L hL l hl hf r (j+1) e (some x.Name) g5 (YU g4).symm
   cases c1:vL x.Name with
   | false=>simp
   | true=>
     rw [if_neg (by simp)]
     by_cases c2:(100000:Int) < x.Data.length
     ·have:¬ x.Data.length ≤ 100000:=by omega
      rw [if_pos c2]; simp [this]
     ·have e2:x.Data.length ≤ 100000:=by omega
      rw [if_neg c2,we g1 (xR hl),ih]
      by_cases c3:(0:Int) < j
      ·rw [if_pos c3,Zt g1 (xR hl) (by omega),dN]
       have hj:j - 1 < l.length:=by omega
       rw [if_neg (by omega)] at hp
       rw [List.getElem?_eq_getElem hj] at hp ⊢
       subst hp
       simp only [Option.bind_some,Option.map_some,e2,decide_true,Bool.true_and]
       cases wL l[j - 1].Name x.Name <;> simp
      ·rw [if_neg c3]
       rw [if_pos (by omega)] at hp
       subst hp
       simp [e2]
theorem bO (L:List UInt8→Option Bool) (hL:∀ l,wN l→L l=some (xN l)) (l:List TFile) (h:lb l):∃ N,sv L N l=some (pI l):=by
 refine ⟨l.length+1,?_⟩
 unfold sv pI qC
 by_cases c:(400:Int) < l.length
 ·have:¬ l.length ≤ 400:=by omega
  rw [if_pos c]; simp [this]
 ·have e:l.length ≤ 400:=by omega
  rw [if_neg c]
  simp only [e,decide_true,Bool.true_and]
  exact ew L hL l h.1 h.2 l 0 0 none rfl rfl
def xe (l:List TFile):Prop:=few l
def yF (l:List TFile):List TFile:=l
theorem wY (l:List TFile) (h:xe l):(∃ N,yB N l=some (yF l))∧(∃ N,yU N=some (yF [])):=by
 refine ⟨⟨0,?_⟩,0,rfl⟩
 unfold yB yF
 rw [if_pos (Zz h)]
def mP (l:List TFile):Prop:=few l
def nF (l:List TFile):List TFile:=l
theorem bM (L:List TFile→Option (List TFile)) (hL:∀ l,xe l→L l=some (yF l)) (l:List TFile) (h:mP l):∃ N,sr L N l=some (nF l):=by
 refine ⟨0,?_⟩
 unfold sr
 rw [hL _ h]; rfl
def lG (k:Int) (n t d:List UInt8):Prop:=n.length ≤ big∧t.length ≤ big
def ot (k:Int) (n t d:List UInt8):Bool:=rC k n t d
theorem aC (L:List UInt8→Option Bool) (hL:∀ l,wN l→L l=some (xN l)) (k:Int) (n t d:List UInt8) (h:lG k n t d):∃ N,qv L N k n t d=some (ot k n t d):=by
 refine ⟨0,?_⟩
 have h1:L n=some (vL n):=hL _ h.1
 have h2:L t=some (vL t):=hL _ h.2
 unfold qv ot rC
 rw [h1,h2]
 by_cases c1:k < 1
 ·rw [if_pos c1,decide_eq_false (show ¬ 1 ≤ k by omega)]; simp
 ·rw [if_neg c1,decide_eq_true (show 1 ≤ k by omega)]
  by_cases c2:4 < k
  ·rw [if_pos c2,decide_eq_false (show ¬ k ≤ 4 by omega)]; simp
  ·rw [if_neg c2,decide_eq_true (show k ≤ 4 by omega)]
   simp only [Option.bind_some]
   cases vL n with
   | false=>simp
   | true=>
     rw [if_neg (by simp)]
     by_cases c4:d=[]
     ·rw [if_pos c4]
      by_cases c5:k=3
      ·subst c5
       cases vL t <;> simp [c4]
      ·simp [c4,c5]
     ·rw [if_neg c4]
      by_cases c3:k=2
      ·subst c3; simp
      ·simp [c3,c4]
def sY (fs:List TFile) (acts:List TAct) (most:Int):Prop:=uv fs acts most
def oT (fs:List TFile) (acts:List TAct) (most:Int):List TFile×Int:=rF fs acts most
theorem Jg {fs:List TFile} {acts:List TAct} {most:Int} (h:sY fs acts most):uv fs acts most:=h
def rN (n d n' d':List UInt8):Prop:=True
def uy (n d n' d':List UInt8):Bool:=decide (n=n')&&decide (d=d')
theorem bx (n d n' d':List UInt8) (h:rN n d n' d'):∃ N,s5 N n d n' d'=some (uy n d n' d'):=by
 refine ⟨0,?_⟩
 unfold s5 uy
 by_cases c:n=n' <;> by_cases c':d=d' <;> simp [c,c']
def tV (a b:List TFile):Prop:=few a∧a=b
def qU (a b:List TFile):Bool:=true
theorem cA (L:List UInt8→List UInt8→List UInt8→List UInt8→Option Bool) (hL:∀ n d n' d',rN n d n' d'→L n d n' d'=some (uy n d n' d')) (a:List TFile) (ha:few a):
  ∀ (r:List TFile) (j e:Nat),a.drop j=r→wB L (r.length+1+e) a a j=some true
 | [],j,e,hd=>by
   rw [List.length_nil,tW]
   simp only [wB]
   rw [if_neg (vJ hd)]
 | x :: r,j,e,hd=>by
   obtain ⟨h1,h2,h3,h4,h5,h6⟩:=wm hd
   rw [List.length_cons,yJ]
   simp only [wB]
   rw [if_pos h2,h3]
   simp only [Option.bind_some]
   rw [hL _ _ _ _ trivial]
   simp only [Option.bind_some,uy,decide_true,Bool.and_self,Bool.true_eq_false,if_false]
   rw [we h1 (xR ha)]
   exact cA L hL a ha r (j+1) e h5
theorem d7 (L:List UInt8→List UInt8→List UInt8→List UInt8→Option Bool) (hL:∀ n d n' d',rN n d n' d'→L n d n' d'=some (uy n d n' d')) (a b:List TFile) (h:tV a b):
  ∃ N,tF L N a b=some (qU a b):=by
 obtain ⟨h,rfl⟩:=h
 refine ⟨a.length+1,?_⟩
 unfold tF qU
 rw [if_pos rfl]
 exact cA L hL a h a 0 0 rfl
def uB (a b:List TFile):Prop:=tV a b
def pM (a b:List TFile):Bool:=true
theorem bD (L:List TFile→List TFile→Option Bool) (hL:∀ a b,tV a b→L a b=some (qU a b)) (a b:List TFile) (h:uB a b):∃ N,sM L N a b=some (pM a b):=by
 refine ⟨0,?_⟩
 unfold sM
 rw [hL _ _ h]; rfl
def qN (k:Int) (n t d:List UInt8) (k':Int) (n' t' d':List UInt8):Prop:=True
def tB (k:Int) (n t d:List UInt8) (k':Int) (n' t' d':List UInt8):Bool:=decide (k=k')&&(decide (n=n')&&(decide (t=t')&&decide (d=d')))
theorem bX (k:Int) (n t d:List UInt8) (k':Int) (n' t' d':List UInt8) (h:qN k n t d k' n' t' d'):∃ N,qa N k n t d k' n' t' d'=some (tB k n t d k' n' t' d'):=by
 refine ⟨0,?_⟩
 unfold qa tB
 by_cases c:k=k' <;> by_cases c1:n=n' <;> by_cases c2:t=t' <;> by_cases c3:d=d' <;> simp [c,c1,c2,c3]
def rO (a b:List TAct):Prop:=few a∧a=b
def sB (a b:List TAct):Bool:=true
theorem aQ (L:Int→List UInt8→List UInt8→List UInt8→Int→List UInt8→List UInt8→List UInt8→Option Bool) (hL:∀ k n t d k' n' t' d',qN k n t d k' n' t' d'→L k n t d k' n' t' d'=some (tB k n t d k' n' t' d')) (a:List TAct) (ha:few a):
  ∀ (r:List TAct) (j e:Nat),a.drop j=r→wX L (r.length+1+e) a a j=some true
 | [],j,e,hd=>by
   rw [List.length_nil,tW]
   simp only [wX]
   rw [if_neg (vJ hd)]
 | x :: r,j,e,hd=>by
   obtain ⟨h1,h2,h3,h4,h5,h6⟩:=wm hd
   rw [List.length_cons,yJ]
   simp only [wX]
   rw [if_pos h2,h3]
   simp only [Option.bind_some]
   rw [hL _ _ _ _ _ _ _ _ trivial]
   simp only [Option.bind_some,tB,decide_true,Bool.and_self,Bool.true_eq_false,if_false]
   rw [we h1 (xR ha)]
   exact aQ L hL a ha r (j+1) e h5
theorem bp (L:Int→List UInt8→List UInt8→List UInt8→Int→List UInt8→List UInt8→List UInt8→Option Bool) (hL:∀ k n t d k' n' t' d',qN k n t d k' n' t' d'→L k n t d k' n' t' d'=some (tB k n t d k' n' t' d')) (a b:List TAct) (h:rO a b):
  ∃ N,re L N a b=some (sB a b):=by
 obtain ⟨h,rfl⟩:=h
 refine ⟨a.length+1,?_⟩
 unfold re sB
 rw [if_pos rfl]
 exact aQ L hL a h a 0 0 rfl
def yj (k:Int):Prop:=k ≤ 100000000
def Zm:Nat→Int→List UInt8→List UInt8
 | 0,_,acc=>acc
 | f+1,k,acc=>if 0 < k then Zm f (w64 (Int.tdiv k 10)) (oq [Go.IntKind.wrap .u8 (w64 (48+Int.tmod k 10))]++acc) else acc
def zR (k:Int):List UInt8:=if k ≤ 0 then [109,48] else 109 :: Zm 10 k []
theorem fF:∀ (f:Nat) (k:Int) (acc:List UInt8) (e:Nat),0 ≤ k→k < 10 ^ f→k ≤ 1000000000→acc.length+f ≤ 100→xZ (f+1+e) k acc=some (109 :: Zm (f+1) k acc)
 | 0,k,acc,e,h0,h1,h2,h3=>by
   rw [show 0+1+e=e+1 by omega]
   simp only [xZ,Zm]
   have:¬ 0 < k:=by simp at h1; omega
   rw [if_neg this,if_neg this,if_pos (by unfold ou; omega)]
 | f+1,k,acc,e,h0,h1,h2,h3=>by
   rw [show f+1+1+e=(f+1+e)+1 by omega]
   simp only [xZ]
   rw [Zm]
   by_cases c:0 < k
   ·have hq:Int.tdiv k 10=k / 10:=Int.tdiv_eq_ediv_of_nonneg h0
    have hl:(oq [Go.IntKind.wrap .u8 (w64 (48+Int.tmod k 10))]++acc).length=acc.length+1:=by simp [oq]
    have hp:(10:Int) ^ (f+1)=10 ^ f * 10:=Int.pow_succ 10 f
    rw [if_pos c,if_pos c,if_pos (by unfold ou; rw [hl]; omega),hq,wH (by omega)]
    exact fF f (k / 10) _ e (by omega) (by omega) (by omega) (by rw [hl]; omega)
   ·rw [if_neg c,if_neg c,if_pos (by unfold ou; omega)]
theorem fL (k:Int) (h:yj k):∃ N,u2 N k=some (zR k):=by
 have h':k ≤ 100000000:=h
 refine ⟨10,?_⟩
 unfold u2 zR
 by_cases c:k ≤ 0
 ·rw [if_pos c,if_pos c]
 ·rw [if_neg c,if_neg c]
  exact fF 9 k [] 0 (by omega) (by omega) (by omega) (by simp)
def u0 (l:List TFile) (k:Int):Prop:=few l∧0 ≤ k∧k ≤ 16777216
def vY (k:Int):Nat→List TFile
 | 0=>[]
 | n+1=>⟨zR k,zR (k+1)⟩ :: vY (k+1+1) n
def xz (l:List TFile) (k:Int):Int×List TFile:=(k+2 * l.length,vY k l.length)
theorem gr (L:Int→Option (List UInt8)) (hL:∀ k,yj k→L k=some (zR k)) (n:Nat) (hn:n ≤ 1048576):∀ (m j e:Nat) (k:Int) (z y:List TFile),j+m=n→z.length=n→0 ≤ k→k+2 * m ≤ 33554432→z.take j=y→xK L (m+1+e) k j z=some (k+2 * m,y++vY k m)
 | 0,j,e,k,z,y,hj,hz,h0,h1,ht=>by
   rw [show 0+1+e=e+1 by omega]
   simp only [xK]
   rw [if_neg (by omega)]
   have:z=y:=by rw [← ht,List.take_of_length_le (by omega)]
   simp [vY,this]
 | m+1,j,e,k,z,y,hj,hz,h0,h1,ht=>by
   rw [show m+1+1+e=(m+1+e)+1 by omega]
   simp only [xK]
   obtain ⟨x,hx⟩:∃ x,z[j]? =some x:=⟨_,List.getElem?_eq_getElem (show j < z.length by omega)⟩
   rw [if_pos (by omega),hL _ (by unfold yj; omega)]
   simp only [Option.bind_some,Int.toNat_natCast]
   rw [if_pos (by omega),hx]
   simp only [Option.bind_some]
   rw [wH (n:=k+1) (by omega),hL _ (by unfold yj; omega)]
   simp only [Option.bind_some,List.length_set]
   rw [if_pos (by omega),List.getElem?_set_self (by omega)]
   simp only [Option.bind_some,List.set_set]
   rw [wH (n:=k+1+1) (by omega),we (n:=n) (by omega) (by rw [uH]; omega)]
   rw [gr L hL n hn m (j+1) e (k+1+1) _ (y++[⟨zR k,zR (k+1)⟩]) (by omega) (by simp [hz]) (by omega) (by omega) (by
    rw [List.take_add_one,List.getElem?_set_self (by omega),List.take_set_of_le (Nat.le_refl j),ht]; rfl)]
   simp [vY]
   omega
theorem fg (L:Int→Option (List UInt8)) (hL:∀ k,yj k→L k=some (zR k)) (l:List TFile) (k:Int) (h:u0 l k):∃ N,uj L N l k=some (xz l k):=by
 obtain ⟨h1,h2,h3⟩:=h
 refine ⟨l.length+1,?_⟩
 unfold uj xz
 have h1':l.length ≤ 1048576:=h1
 have:=gr L hL l.length h1 l.length 0 0 k l [] (by omega) rfl h2 (by omega) rfl
 simpa using this
def pf (l:List TFile) (k:Int):Prop:=u0 l k
def yC (l:List TFile) (k:Int):Int×List TFile:=xz l k
theorem eT (L:List TFile→Int→Option (Int×List TFile)) (hL:∀ l k,u0 l k→L l k=some (xz l k)) (l:List TFile) (k:Int) (h:pf l k):∃ N,uC L N l k=some (yC l k):=by
 refine ⟨0,?_⟩
 unfold uC
 rw [hL _ _ h]; rfl
def pd (l:List TAct) (k:Int):Prop:=few l∧0 ≤ k∧k ≤ 16777216
def j9 (k:Int):Nat→List TAct
 | 0=>[]
 | n+1=>⟨k,zR (k+1),zR (k+1+1),zR (k+1+1+1)⟩ :: j9 (k+1+1+1+1) n
def vt (l:List TAct) (k:Int):Int×List TAct:=(k+4 * l.length,j9 k l.length)
theorem fW (L:Int→Option (List UInt8)) (hL:∀ k,yj k→L k=some (zR k)) (n:Nat) (hn:n ≤ 1048576):∀ (m j e:Nat) (k:Int) (z y:List TAct),j+m=n→z.length=n→0 ≤ k→k+4 * m ≤ 33554432→z.take j=y→wa L (m+1+e) k j z=some (k+4 * m,y++j9 k m)
 | 0,j,e,k,z,y,hj,hz,h0,h1,ht=>by
   rw [show 0+1+e=e+1 by omega]
   simp only [wa]
   rw [if_neg (by omega)]
   have:z=y:=by rw [← ht,List.take_of_length_le (by omega)]
   simp [j9,this]
 | m+1,j,e,k,z,y,hj,hz,h0,h1,ht=>by
   rw [show m+1+1+e=(m+1+e)+1 by omega]
   simp only [wa]
   obtain ⟨x,hx⟩:∃ x,z[j]? =some x:=⟨_,List.getElem?_eq_getElem (show j < z.length by omega)⟩
   rw [if_pos (by omega),if_pos (by omega),Int.toNat_natCast,hx]
   simp only [Option.bind_some]
   rw [wH (n:=k+1) (by omega),hL _ (by unfold yj; omega)]
   simp only [Option.bind_some,List.length_set]
   rw [if_pos (by omega),List.getElem?_set_self (by omega)]
   simp only [Option.bind_some,List.set_set]
   rw [wH (n:=k+1+1) (by omega),hL _ (by unfold yj; omega)]
   simp only [Option.bind_some,List.length_set]
   rw [if_pos (by omega),List.getElem?_set_self (by omega)]
   simp only [Option.bind_some,List.set_set]
   rw [wH (n:=k+1+1+1) (by omega),hL _ (by unfold yj; omega)]
   simp only [Option.bind_some,List.length_set]
   rw [if_pos (by omega),List.getElem?_set_self (by omega)]
   simp only [Option.bind_some,List.set_set]
   rw [wH (n:=k+1+1+1+1) (by omega),we (n:=n) (by omega) (by rw [uH]; omega)]
   rw [fW L hL n hn m (j+1) e (k+1+1+1+1) _ (y++[⟨k,zR (k+1),zR (k+1+1),zR (k+1+1+1)⟩]) (by omega) (by simp [hz]) (by omega) (by omega) (by
    rw [List.take_add_one,List.getElem?_set_self (by omega),List.take_set_of_le (Nat.le_refl j),ht]; rfl)]
   simp [j9]
   omega
theorem eN (L:Int→Option (List UInt8)) (hL:∀ k,yj k→L k=some (zR k)) (l:List TAct) (k:Int) (h:pd l k):∃ N,uF L N l k=some (vt l k):=by
 obtain ⟨h1,h2,h3⟩:=h
 refine ⟨l.length+1,?_⟩
 unfold uF vt
 have h1':l.length ≤ 1048576:=h1
 have:=fW L hL l.length h1 l.length 0 0 k l [] (by omega) rfl h2 (by omega) rfl
 simpa using this
def uK (l:List TFile) (k:Int):Prop:=few l∧0 ≤ k∧k ≤ 16777216
def xx (l:List TFile) (k:Int):Int:=if l=vY k l.length then k+2 * l.length else -1
theorem hX (L:Int→Option (List UInt8)) (hL:∀ k,yj k→L k=some (zR k)) (l:List TFile) (hl:few l):∀ (r:List TFile) (j e:Nat) (k:Int),l.drop j=r→0 ≤ k→k+2 * r.length ≤ 33554432→
  xM L (r.length+1+e) l k j=some (if r=vY k r.length then k+2 * r.length else -1)
 | [],j,e,k,hd,h0,h1=>by
   rw [show ([]:List TFile).length+1+e=e+1 by simp; omega]
   simp only [xM]
   rw [if_neg (vJ hd)]; simp [vY]
 | x :: r,j,e,k,hd,h0,h1=>by
   obtain ⟨g1,g2,g3,g4,g5,g6⟩:=wm hd
   rw [List.length_cons] at h1
   rw [show (x :: r).length+1+e=(r.length+1+e)+1 by simp; omega]
   simp only [xM]
   rw [if_pos g2,g3]
   simp only [Option.bind_some]
   rw [hL _ (by unfold yj; omega)]
   simp only [Option.bind_some]
   by_cases c:x.Name=zR k
   ·rw [if_pos c,wH (n:=k+1) (by omega),hL _ (by unfold yj; omega)]
    simp only [Option.bind_some]
    by_cases c':x.Data=zR (k+1)
    ·rw [if_pos c',wH (n:=k+1+1) (by omega),we g1 (xR hl),hX L hL l hl r (j+1) e (k+1+1) g5 (by omega) (by omega)]
     have hx:x=⟨zR k,zR (k+1)⟩:=by cases x; simp only at c c'; rw [c,c']
     simp only [List.length_cons,vY,List.cons.injEq,hx,true_and]
     congr 1
     split
     ·omega
     ·rfl
    ·rw [if_neg c',if_neg]
     intro q
     simp only [List.length_cons,vY,List.cons.injEq] at q
     exact c' (by rw [q.1])
   ·rw [if_neg c,if_neg]
    intro q
    simp only [List.length_cons,vY,List.cons.injEq] at q
    exact c (by rw [q.1])
theorem gX (L:Int→Option (List UInt8)) (hL:∀ k,yj k→L k=some (zR k)) (l:List TFile) (k:Int) (h:uK l k):∃ N,uf L N l k=some (xx l k):=by
 obtain ⟨h1,h2,h3⟩:=h
 have h1':l.length ≤ 1048576:=h1
 refine ⟨l.length+1,?_⟩
 unfold uf xx
 have:=hX L hL l h1 l 0 0 k rfl h2 (by omega)
 simpa using this
def tj (l:List TFile) (k:Int):Prop:=uK l k
def vk (l:List TFile) (k:Int):Int:=xx l k
theorem fN (L:List TFile→Int→Option Int) (hL:∀ l k,uK l k→L l k=some (xx l k)) (l:List TFile) (k:Int) (h:tj l k):∃ N,u4 L N l k=some (vk l k):=by
 refine ⟨0,?_⟩
 unfold u4 vk
 rw [hL _ _ h]
 simp only [Option.bind_some]
 by_cases c:xx l k < 0
 ·rw [if_pos c]
  unfold xx at c ⊢
  split at c
  ·have:=h.2.1; omega
  ·rename_i q; rw [if_neg q]
 ·rw [if_neg c]
def wx (fs:List TFile) (acts:List TAct) (most:Int):Prop:=(fs.length ≤ big∧∀ x ∈ fs,ox x)∧acts.length ≤ big∧∀ x ∈ acts,WB x
def qm (fs:List TFile) (acts:List TAct) (most:Int):Bool:=true
theorem lq:∀ (n:Nat) (k:Int),(vY k n).length=n
 | 0,_=>rfl
 | n+1,k=>by simp [vY,lq n]
theorem YB (l:List TFile) (k:Int):vk (yC l k).2 k=(yC l k).1:=by
 unfold vk xx yC xz
 simp only [lq]
 rw [if_pos trivial]
theorem Wi {n d:List UInt8} {l:Int} (h:¬ yV n d l < 0):yV n d l=l - n.length - d.length∧0 ≤ l - n.length - d.length:=by
 unfold yV at h ⊢
 split at h
 ·omega
 ·split at h
  ·omega
  ·rename_i h1 h2
   rw [if_neg h1,if_neg h2]; exact ⟨rfl,by omega⟩
theorem Xc:∀ (l:List TFile) (left:Int),left ≤ 1048576→¬ szF l left < 0→(∀ x ∈ l,x.Name.length ≤ 1048576∧x.Data.length ≤ 1048576)∧szF l left ≤ 1048576
 | [],left,h,_=>⟨fun _ hx=>(List.not_mem_nil hx).elim,by simpa [szF] using h⟩
 | x :: r,left,h,hz=>by
   unfold szF at hz ⊢
   by_cases c:yV x.Name x.Data left < 0
   ·rw [if_pos c] at hz; omega
   ·rw [if_neg c] at hz ⊢
    obtain ⟨e1,e2⟩:=Wi c
    obtain ⟨i1,i2⟩:=Xc r _ (by omega) hz
    refine ⟨fun y hy=>?_,i2⟩
    rcases List.mem_cons.1 hy with rfl | hy
    ·omega
    ·exact i1 y hy
theorem Uz {k:Int} {n t d:List UInt8} {l:Int} (h:¬ xa k n t d l < 0):xa k n t d l=l - n.length - t.length - d.length∧0 ≤ l - n.length - t.length - d.length:=by
 unfold xa at h ⊢
 split at h
 ·omega
 ·split at h
  ·omega
  ·split at h
   ·omega
   ·rename_i h1 h2 h3
    rw [if_neg h1,if_neg h2,if_neg h3]; exact ⟨rfl,by omega⟩
theorem YV:∀ (l:List TAct) (left:Int),left ≤ 1048576→¬ szA l left < 0→∀ x ∈ l,eB x
 | [],left,h,_=>fun _ hx=>(List.not_mem_nil hx).elim
 | x :: r,left,h,hz=>by
   unfold szA at hz
   by_cases c:xa x.Kind x.Name x.To x.Data left < 0
   ·rw [if_pos c] at hz; omega
   ·rw [if_neg c] at hz
    obtain ⟨e1,e2⟩:=Uz c
    have i1:=YV r _ (by omega) hz
    intro y hy
    rcases List.mem_cons.1 hy with rfl | hy
    ·unfold eB; omega
    ·exact i1 y hy
theorem SU {fs:List TFile} {acts:List TAct} {most:Int} (h:few fs):few (qS fs acts most).1:=by
 unfold qS
 split
 ·rename_i c
  obtain ⟨i1,i2,i3⟩:=oB c.1
  have:∀ (acts:List TAct) (n m:Nat) (fs:List TFile),FsIn fs m→(qQ most acts n fs).1.length ≤ m+acts.length:=by
   intro acts
   induction acts with
   | nil=>intro n m fs hf; exact hf.len
   | cons x r ih=>
     intro n m fs hf
     simp only [qQ]
     split
     ·split
      ·have:=ih (n+1) (m+1) _ (dQ hf x)
       simp only [List.length_cons]; omega
      ·have:=hf.len; simp only [List.length_cons]; omega
     ·have:=hf.len; simp only [List.length_cons]; omega
  have:=this acts 0 400 fs ⟨i1,i2,fun x hx=>(i3 x hx).2⟩
  show _ ≤ 1048576
  have:=c.2
  omega
 ·exact h
theorem jN (L0:List TFile→Int→Option Int) (h0:∀ l n,p5 l n→L0 l n=some (vG l n)) (L1:List TAct→Int→Option Int) (h1:∀ l n,om l n→L1 l n=some (uw l n))
  (L2:List TFile→Option (List TFile)) (h2:∀ l,oA l→L2 l=some (pE l)) (L3:List TAct→Option (List TAct)) (h3:∀ l,oD l→L3 l=some (sR l))
  (L4:List TFile→List TAct→Int→Option (List TFile×Int)) (h4:∀ l a n,uv l a n→L4 l a n=some (rF l a n)) (L5:List TFile→List TAct→Int→Option (List TFile×Int)) (h5:∀ l a n,sY l a n→L5 l a n=some (oT l a n))
  (L6:List TFile→List TFile→Option Bool) (h6:∀ a b,uB a b→L6 a b=some (pM a b)) (L7:List TAct→List TAct→Option Bool) (h7:∀ a b,rO a b→L7 a b=some (sB a b))
  (L8:List TFile→Int→Option (Int×List TFile)) (h8:∀ l k,pf l k→L8 l k=some (yC l k)) (L9:List TAct→Int→Option (Int×List TAct)) (h9:∀ l k,pd l k→L9 l k=some (vt l k))
  (L10:List TFile→Int→Option Int) (h10:∀ l k,tj l k→L10 l k=some (vk l k)) (fs:List TFile) (acts:List TAct) (most:Int) (h:wx fs acts most):
  ∃ N,vd L0 L1 L2 L3 L4 L5 L6 L7 L8 L9 L10 N fs acts most=some (qm fs acts most):=by
 obtain ⟨g1,g2,g3⟩:=h
 refine ⟨0,?_⟩
 unfold vd qm
 rw [h0 _ _ ⟨g1.1,g1.2,by omega,by omega⟩]
 simp only [Option.bind_some]
 by_cases c:vG fs 1048576 < 0
 ·rw [if_pos c]
 rw [if_neg c]
 have hz:¬ (1048576:Int) < fs.length∧¬ szF fs (1048576 - fs.length) < 0∧vG fs 1048576=szF fs (1048576 - fs.length):=by
  unfold vG wR at c ⊢
  by_cases q:(1048576:Int) < fs.length
  ·rw [if_pos q] at c; simp at c
  ·rw [if_neg q] at c ⊢
   by_cases q2:szF fs (1048576 - fs.length) < 0
   ·rw [if_pos q2] at c; simp at c
   ·rw [if_neg q2]; exact ⟨q,q2,rfl⟩
 obtain ⟨z1,z2,z3⟩:=hz
 obtain ⟨z4,z5⟩:=Xc fs _ (by omega) z2
 rw [z3,h1 _ _ ⟨g2,g3,by omega,z5⟩]
 simp only [Option.bind_some]
 by_cases c2:uw acts (szF fs (1048576 - fs.length)) < 0
 ·rw [if_pos c2]
 rw [if_neg c2]
 have hy:acts.length ≤ 1048576∧∀ x ∈ acts,eB x:=by
  unfold uw at c2
  by_cases q:szF fs (1048576 - fs.length) < acts.length
  ·rw [if_pos q] at c2; simp at c2
  ·rw [if_neg q] at c2
   exact ⟨by omega,YV acts _ (by omega) c2⟩
 obtain ⟨y1,y2⟩:=hy
 have hs:few fs:=by unfold few; omega
 have hsa:few acts:=y1
 have hpl:uv fs acts most:=⟨hs,z4,hsa,y2⟩
 have hr:few (qS fs acts most).1:=SU hs
 have hm1:=h8 fs 1 ⟨hs,by omega,by omega⟩
 have hm2:=h8 (qS fs acts most).1 1 ⟨hr,by omega,by omega⟩
 have hmf:few (yC (qS fs acts most).1 1).2:=by
  unfold yC xz few
  rw [lq]; exact hr
 have hh:=h10 _ 1 (show tj (yC (qS fs acts most).1 1).2 1 from ⟨hmf,by omega,by omega⟩)
 have hk:∀ l:List TFile,(yC l 1).1=1+2 * l.length:=by
  intro l; unfold yC xz; rfl
 have hs':fs.length ≤ 1048576:=hs
 have hm3:=h9 acts (yC fs 1).1 ⟨hsa,by rw [hk]; omega,by rw [hk]; omega⟩
 have hk2:¬ (vt acts (yC fs 1).1).1 < 0:=by
  unfold vt; simp only; rw [hk]; omega
 have hk3:¬ (yC (qS fs acts most).1 1).1 < 0:=by rw [hk]; omega
 simp only [h2 _ hs,h3 _ hsa,Option.bind_some,pE,sR,h4 _ _ _ hpl,h5 _ _ _ (show sY _ _ _ from hpl),oT,rF,h6 _ _ (show uB _ _ from ⟨hr,rfl⟩),h6 _ _ (show uB _ _ from ⟨hs,rfl⟩),h7 _ _ (show rO _ _ from ⟨hsa,rfl⟩),pM,sB,hm1,hm2,hm3,hh,YB,if_neg hk2,if_neg hk3,if_true,Bool.true_eq_false,if_false]
theorem mO {fs:List TFile} {acts:List TAct} {most:Int} {q:Prop} (h1:fs.length ≤ maxLen∧∀ x ∈ fs,x.Name.length ≤ maxLen∧x.Data.length ≤ maxLen) (h2:acts.length ≤ maxLen∧∀ x ∈ acts,(Lit.int .i64 x.Kind).wf=true∧x.Name.length ≤ maxLen∧x.To.length ≤ maxLen∧x.Data.length ≤ maxLen) (h3:q):wx fs acts most:=⟨h1,h2.1,fun x hx=>(h2.2 x hx).2⟩
def pr (f:TFile):List UInt8×List UInt8:=(f.Name,f.Data)
def toB (x:TAct):ActB:=⟨x.Kind,⟨x.Name.toArray⟩,⟨x.To.toArray⟩,⟨x.Data.toArray⟩,rC x.Kind x.Name x.To x.Data⟩
theorem ZW {α β:Type}:∀ {M:List (α×β)},(M.map (·.1)).Nodup→∀ f ∈ M,∀ g ∈ M,f.1=g.1→f=g
 | [],_,f,hf,_,_,_=>(List.not_mem_nil hf).elim
 | a :: M,h,f,hf,g,hg,e=>by
   rw [List.map_cons,List.nodup_cons] at h
   rcases List.mem_cons.1 hf with hf' | hf'
   ·rcases List.mem_cons.1 hg with hg' | hg'
    ·rw [hf',hg']
    ·exact absurd (List.mem_map.2 ⟨g,hg',by rw [← e,hf']⟩) h.1
   ·rcases List.mem_cons.1 hg with hg' | hg'
    ·exact absurd (List.mem_map.2 ⟨f,hf',by rw [e,hg']⟩) h.1
    ·exact ZW h.2 f hf' g hg' e
theorem ZD {fs:List TFile} (h:srt fs):((fs.map pr).map (·.1)).Nodup:=by
 rw [List.map_map]
 unfold List.Nodup
 rw [List.pairwise_map]
 refine List.Pairwise.imp ?_ h
 intro a b hab e
 have e':a.Name=b.Name:=e
 rw [e'] at hab
 exact kW _ hab
theorem UZ {L M:List (List UInt8×List UInt8)} (h:L.Perm M) (hn:(M.map (·.1)).Nodup) (n:List UInt8):L.find? (fun f=>decide (f.1=n))=M.find? (fun f=>decide (f.1=n)):=by
 cases hL:L.find? (fun f=>decide (f.1=n)) with
 | none=>
   refine (List.find?_eq_none.2 fun x hx=>?_).symm
   exact List.find?_eq_none.1 hL x (h.mem_iff.2 hx)
 | some f=>
   have f1:f.1=n:=by simpa using List.find?_some hL
   have f2:=h.mem_iff.1 (List.mem_of_find?_eq_some hL)
   cases hM:M.find? (fun f=>decide (f.1=n)) with
   | none=>exact absurd (by simpa using f1) (List.find?_eq_none.1 hM f f2)
   | some g=>
     have g1:g.1=n:=by simpa using List.find?_some hM
     rw [ZW hn f f2 g (List.mem_of_find?_eq_some hM) (f1.trans g1.symm)]
theorem TM {L:List (List UInt8×List UInt8)} {fs:List TFile} (h:L.Perm (fs.map pr)) (hs:srt fs) (n:List UInt8):L.find? (fun f=>decide (f.1=n))=(atN fs n).map pr:=by
 rw [UZ h (ZD hs),List.find?_map]; rfl
theorem g8 {L:List (List UInt8×List UInt8)} {fs:List TFile} (h:L.Perm (fs.map pr)) (n:List UInt8):(L.filter fun f=>decide (f.1 ≠ n)).Perm ((vP fs n).map pr):=by
 have:=h.filter fun f=>decide (f.1 ≠ n)
 rw [List.filter_map] at this
 exact this
theorem gP {L:List (List UInt8×List UInt8)} {fs:List TFile} (h:L.Perm (fs.map pr)) (hs:srt fs) (n d:List UInt8):((n,d) :: L.filter fun f=>decide (f.1 ≠ n)).Perm ((qW fs n d).map pr):=
 ((g8 h n).cons (n,d)).trans ((ki n d fs hs).map pr).symm
theorem Lz {L:List (List UInt8×List UInt8)} {fs:List TFile} (h:L.Perm (fs.map pr)) (hs:srt fs) (x:TAct):
  ((toB x).run L).2=(doF fs x).2∧((toB x).run L).1.Perm ((doF fs x).1.map pr):=by
 unfold ActB.run toB doP
 rw [ai]
 simp only
 by_cases c1:rC x.Kind x.Name x.To x.Data=false
 ·rw [if_pos c1,if_pos c1]; exact ⟨rfl,h⟩
 rw [if_neg c1,if_neg c1]
 have hk:1 ≤ x.Kind∧x.Kind ≤ 4:=by
  unfold rC at c1
  simp only [Bool.not_eq_false,Bool.and_eq_true,decide_eq_true_eq] at c1
  exact c1.1.1.1
 have hlen:L.length=fs.length:=by rw [h.length_eq,List.length_map]
 have hfi:=TM h hs x.Name
 by_cases c2:x.Kind=1
 ·rw [if_pos c2,if_pos c2]
  have hany:(L.any fun f=>decide (f.1=x.Name))=false ↔ atN fs x.Name=none:=by
   rw [List.any_eq_false]
   have e:(∀ y ∈ L,¬ (decide (y.1=x.Name))=true) ↔ L.find? (fun f=>decide (f.1=x.Name))=none:=List.find?_eq_none.symm
   rw [e,hfi,Option.map_eq_none_iff]
  by_cases c3:atN fs x.Name=none∧400 ≤ fs.length
  ·rw [if_pos c3,if_pos ⟨hany.2 c3.1,by omega⟩]; exact ⟨rfl,h⟩
  ·rw [if_neg c3,if_neg (fun g=>c3 ⟨hany.1 g.1,by omega⟩)]
   exact ⟨rfl,gP h hs _ _⟩
 ·rw [if_neg c2,if_neg c2,hfi]
  cases atN fs x.Name with
  | none=>exact ⟨rfl,h⟩
  | some f=>
    simp only [Option.map_some]
    by_cases c3:x.Kind=2
    ·rw [if_pos c3,if_pos c3]
     by_cases c4:100000 < f.Data.length+x.Data.length
     ·rw [if_pos c4,if_pos (show 100000 < (pr f).2.length+x.Data.length from c4)]; exact ⟨rfl,h⟩
     ·rw [if_neg c4,if_neg (show ¬ 100000 < (pr f).2.length+x.Data.length from c4)]
      exact ⟨rfl,gP h hs _ _⟩
    ·rw [if_neg c3,if_neg c3]
     by_cases c4:x.Kind=3
     ·rw [if_pos c4,if_pos c4]
      exact ⟨rfl,gP (g8 h x.Name) (ZV hs _) _ _⟩
     ·rw [if_neg c4,if_neg c4,if_pos (by omega)]
      exact ⟨rfl,g8 h x.Name⟩
theorem OQ {fs:List TFile} {x:TAct} (h:(doF fs x).2 ≠ 0):(doF fs x).1=fs:=by
 rw [ai] at h ⊢
 repeat' split
 all_goals first | rfl | (exfalso; apply h; simp [*]; done) | (exfalso; simp_all; done)
theorem Xk (most:Int):∀ (acts:List TAct) (n m:Nat) (L:List (List UInt8×List UInt8)) (fs:List TFile),L.Perm (fs.map pr)→FsIn fs m→
  (pO most (acts.map toB) n L).2=(qQ most acts n fs).2∧(pO most (acts.map toB) n L).1.Perm ((qQ most acts n fs).1.map pr)∧srt (qQ most acts n fs).1
 | [],n,m,L,fs,h,hf=>⟨rfl,h,hf.srt⟩
 | x :: r,n,m,L,fs,h,hf=>by
   obtain ⟨e1,e2⟩:=Lz h hf.srt x
   simp only [List.map_cons,pO,qQ]
   by_cases c:(n:Int) < most
   ·rw [if_pos c,if_pos c,e1]
    by_cases c2:(doF fs x).2=0
    ·rw [if_pos c2,if_pos c2]
     exact Xk most r (n+1) (m+1) _ _ e2 (dQ hf x)
    ·rw [if_neg c2,if_neg c2]
     rw [OQ c2] at e2
     exact ⟨rfl,e2,hf.srt⟩
   ·rw [if_neg c,if_neg c]; exact ⟨rfl,h,hf.srt⟩
theorem XJ {fs:List TFile} {acts:List TAct} {most:Int} {xs:List (List UInt8×List UInt8)} {n:Nat} (h:qT (qC fs) (acts.map toB) most (fs.map pr) xs n):xs=(qS fs acts most).1.map pr∧n=(qS fs acts most).2:=by
 unfold qT at h
 unfold qS
 rw [List.length_map] at h
 by_cases c:qC fs=true∧acts.length ≤ 10000
 ·rw [if_pos c] at h ⊢
  obtain ⟨h1,h2,h3⟩:=h
  obtain ⟨i1,i2,i3⟩:=oB c.1
  obtain ⟨e1,e2,e3⟩:=Xk most acts 0 400 (fs.map pr).reverse fs (List.reverse_perm _) ⟨i1,i2,fun x hx=>(i3 x hx).2⟩
  refine ⟨?_,h1.trans e1⟩
  have hp:=h3.trans e2
  rw [List.pairwise_map] at h2
  have hs2:(((qQ most acts 0 fs).1).map pr).Pairwise fun a b=>a.1 ≤ b.1:=by
   rw [List.pairwise_map]
   exact e3.imp fun {a b} hab=>List.le_of_lt hab
  refine List.Perm.eq_of_pairwise (fun a b ha hb h1 h2=>?_) h2 hs2 hp
  exact ZW (ZD e3) a (hp.mem_iff.1 ha) b hb (List.le_antisymm h1 h2)
 ·rw [if_neg c] at h ⊢
  exact ⟨h.2,h.1⟩
end Go.Vm
