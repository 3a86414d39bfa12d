import Derived.Test.YtpjfklhaogdfeaaGreatDoorAsS
import Derived.Test.YtpjfklhaogdfeaaGreatDoorFDo
import Derived.Test.YtpjfklhaogdfeaaGreatDoorPBase
import Derived.Sort.Walk0
set_option linter.all false
set_option maxRecDepth 100000
namespace Go.Vm
open Go.Proofs Go.RowKit Go.Lib
class GlTab [Gl]:Prop where
 et:∀ w:World,(∀ b,b < Gl.G→w.heap[b]? =Gl.g b)→w.cell? ⟨0,0,none⟩=some etV
variable [Gl]
theorem SU {w:World} {b:Nat} {e:TypeId} {sz n:Nat} {v:Value} {xs:List Value} (h:w.ownsRow 0 e sz v n xs) (hb:∀ k,v.ownBlock=some k→b ≤ k):w.ownsRow b e sz v n xs:=by
 refine ⟨h.1,?_⟩
 rcases h.2 with hn | ⟨g,cap,cur,rfl,h1,rest⟩
 ·exact .inl hn
 ·exact .inr ⟨g,cap,cur,rfl,hb g rfl,rest⟩
def prF (f:TFile):List UInt8×List UInt8:=(f.Name,f.Data)
theorem rdl_rowF {S:Nat→Nat} {w:World}:∀ {l:List TFile} {xs:List Value},RDl S w (zb cFile l) xs ↔ xs=q9 (l.map prF)
 | [],xs=>by rw [show zb cFile ([]:List TFile)=[] from rfl]; simp [RDl,q9]
 | x :: l,xs=>by
   rw [show zb cFile (x :: l)=sD x.Name :: sD x.Data :: zb cFile l from rfl]
   rw [show q9 ((x :: l).map prF)= .string ⟨x.Name.toArray⟩ :: .string ⟨x.Data.toArray⟩ :: q9 (l.map prF) from rfl]
   show (∃ v r,xs=v :: r∧RD S w (sD x.Name) v∧∃ v' r',r=v' :: r'∧RD S w (sD x.Data) v'∧RDl S w (zb cFile l) r') ↔ _
   simp only [RD,sD]
   constructor
   ·rintro ⟨v,r,rfl,rfl,v',r',rfl,rfl,h⟩
    rw [rdl_rowF.1 h]
   ·rintro rfl
    exact ⟨_,_,rfl,rfl,_,_,rfl,rfl,rdl_rowF.2 rfl⟩
theorem gK {S:Nat→Nat} {w:World} {pb:Nat}:∀ {l:List TFile} {po:Nat},RDat S w (zb cFile l) pb po→∀ i x,l[i]? =some x→w.cell? ⟨pb,po+i * 2,none⟩=some (.string ⟨x.Name.toArray⟩)∧w.cell? ⟨pb,po+i * 2+1,none⟩=some (.string ⟨x.Data.toArray⟩)
 | [],po,h,i,x,hx=>by simp at hx
 | y :: l,po,h,i,x,hx=>by
   rw [show zb cFile (y :: l)=sD y.Name :: sD y.Data :: zb cFile l from rfl] at h
   obtain ⟨_,⟨v1,h1,e1⟩,_,⟨v2,h2,e2⟩,hr⟩:=h
   simp only [RD,sD] at e1 e2
   subst e1 e2
   cases i with
   | zero=>
     simp only [List.getElem?_cons_zero,Option.some.injEq] at hx
     subst hx
     exact ⟨by simpa using h1,by simpa using h2⟩
   | succ i=>
     rw [List.getElem?_cons_succ] at hx
     have:=gK hr i x hx
     rw [show po+1+1+i * 2=po+(i+1) * 2 by omega] at this
     exact this
theorem PF {w W:World} (hB:Below w.heap.size w W) {p:Addr} {v:Value} (h:w.cell? p=some v):W.cell? p=some v:=by
 have hlt:=World.block_lt_of_cell? w p h
 have e:=hB.block p.block hlt
 simp only [World.cell?,e] at h ⊢
 exact h
theorem Zo (S:Nat→Nat) {w W:World} (hB:Below w.heap.size w W):Stab S w S W:=fun b o v ho hv=>⟨ho,PF hB hv⟩
def bB (l:List UInt8):ByteArray:=⟨l.toArray⟩
theorem mj (l:List UInt8):(bB l).data.toList=l:=by unfold bB; simp
theorem Zj (l:List UInt8):(bB l).size=l.length:=by unfold bB; simp [ByteArray.size]
theorem W8 {n:Nat} {cs:List D} {cap:Nat} {a:Option Addr} (h1:n ≤ cap) (h2:a=none→n=0∧cap=0∧cs=[]) (h3:∀ p,a=some p→p.spot=none ∨ cap=0∧cs=[]):∃ pb po,0 < n→a=some ⟨pb,po,none⟩:=by
 cases a with
 | none=>exact ⟨0,0,fun h=>by have:=(h2 rfl).1; omega⟩
 | some p=>
   refine ⟨p.block,p.off,fun h=>?_⟩
   rcases h3 p rfl with e | ⟨e,_⟩
   ·obtain ⟨b,o,sp⟩:=p
    simp only at e
    rw [e]
   ·omega
set_option maxHeartbeats 4000000 in
theorem TG [GlTab] {Cd Cc Ca:List X→Option XOut} (hd:Sound Tryz.prog 18 Cd) (hc:Sound Tryz.prog 19 Cc) (ha:Sound Tryz.prog 43 Ca)
  {D:List TFile→Bool} {A:Int→List UInt8→List UInt8→List UInt8→Bool} {pre:List TFile→Int→List UInt8→List UInt8→List UInt8→Prop}
  (hpre:∀ fs k n t d,pre fs k n t d→(∀ x ∈ fs,x.Name.length ≤ 1048576∧x.Data.length ≤ 1048576)∧n.length ≤ 1048576∧t.length ≤ 1048576∧d.length ≤ 1048576)
  (hnd:∀ fs,D fs=true→fs.length ≤ 400∧(fs.map (·.Name)).Nodup)
  (hCd:∀ fs k n t d,pre fs k n t d→Cd [.agg [.d (zh cFile fs)]]=some (.ret (.d (.bool (D fs))) []))
  (hCc:∀ fs k n t d,pre fs k n t d→Cc [.agg [.d (zh cFile fs)]]=some (.ret (.agg [zP cFile 59 none false fs]) []))
  (hCa:∀ k n t d,n.length ≤ 1048576∧t.length ≤ 1048576→Ca [.agg [.d (.int .i64 k),.d (sD n),.d (sD t),.d (sD d)]]=some (.ret (.d (.bool (A k n t d))) []))
  {F:List TFile→Int→List UInt8→List UInt8→List UInt8→List TFile×Int}
  (hF:∀ fs k n t d xs (c:Int),lE (D fs) (doP (A k n t d) k n t d) (fs.map prF) xs c→xs=(F fs k n t d).1.map prF∧c=(F fs k n t d).2)
  {enc:List TFile×Int×List UInt8×List UInt8×List UInt8→List X} (henc:∀ a,enc a=[.agg [.d (zh cFile a.1)],.agg [.d (.int .i64 a.2.1),.d (sD a.2.2.1),.d (sD a.2.2.2.1),.d (sD a.2.2.2.2)]])
  {C:List TFile×Int×List UInt8×List UInt8×List UInt8→Option XOut}
  (hC:∀ a out,C a=some out→pre a.1 a.2.1 a.2.2.1 a.2.2.2.1 a.2.2.2.2∧out= .ret (.tup [.agg [zP cFile 59 none false (F a.1 a.2.1 a.2.2.1 a.2.2.2.1 a.2.2.2.2).1],.d (.int .i64 (F a.1 a.2.1 a.2.2.1 a.2.2.2.1 a.2.2.2.2).2)]) []):
  Sound Tryz.prog 9 (lay enc C):=by
 intro S w args xs bs hx hb out ho
 obtain ⟨⟨fs,k,n,t,d⟩,rfl,ho2⟩:=sV ho
 obtain ⟨hp,rfl⟩:=hC _ _ ho2
 simp only at hp
 rw [henc] at hx ⊢
 simp only at hx ⊢
 obtain ⟨v1,r1,b1,b2,hargs,rfl,⟨us,rfl,u,r2,b3,b4,hus,rfl,⟨rfl,hu⟩,rfl,rfl⟩,v2,r3,b5,b6,rfl,rfl,⟨zs,rfl,z1,s1,c1,c2,hzs,rfl,⟨rfl,y1⟩,z2,s2,c3,c4,rfl,rfl,⟨rfl,y2⟩,z3,s3,c5,c6,rfl,rfl,⟨rfl,y3⟩,z4,s4,c7,c8,rfl,rfl,⟨rfl,y4⟩,rfl,rfl⟩,rfl,rfl⟩:=hx
 have hU:=hu
 simp only [zh,sD,RD] at hu y1 y2 y3 y4
 subst y1 y2 y3 y4
 obtain ⟨a,cap,rfl,a1,a2,a3⟩:=hu
 obtain rfl:us=#[.slice a fs.length cap]:=by cases us; simp_all
 obtain rfl:zs=#[.int .i64 k,.string ⟨n.toArray⟩,.string ⟨t.toArray⟩,.string ⟨d.toArray⟩]:=by cases zs; simp_all
 obtain rfl:args=#[.agg #[.slice a fs.length cap],.agg #[.int .i64 k,.string ⟨n.toArray⟩,.string ⟨t.toArray⟩,.string ⟨d.toArray⟩]]:=by cases args; simp_all
 obtain ⟨p1,p2,p3,p4⟩:=hpre _ _ _ _ _ hp
 refine ⟨qJ Tryz.func9 (by kernel_rfl) (by kernel_rfl) _ _,?_⟩
 have hG:Gl.G ≤ w.heap.size∧∀ b,b < Gl.G→w.heap[b]? =Gl.g b:=⟨hb.2.1,fun b h=>(hb.2.2 b h).1⟩
 have hG':∀ W,Below w.heap.size w W→∀ b,b < Gl.G→W.heap[b]? =Gl.g b:=fun W hB b h=>(hB.block b (Nat.lt_of_lt_of_le h hG.1)).trans (hG.2 b h)
 have hok:∀ W,Below w.heap.size w W→fK W ([]:List Nat):=fun W hB=>⟨List.nodup_nil,Nat.le_trans hG.1 hB.size,fun b h=>⟨hG' W hB b h,by simp⟩⟩
 obtain ⟨pb,po,hpp⟩:=W8 a1 a2 fun p h=>(a3 p h).1
 have hfs:∀ i x,fs[i]? =some x→a=some ⟨pb,po,none⟩∧w.cell? ⟨pb,po+i * 2,none⟩=some (.string ⟨x.Name.toArray⟩)∧w.cell? ⟨pb,po+i * 2+1,none⟩=some (.string ⟨x.Data.toArray⟩):=fun i x hx=>by
  have e:=hpp (List.length_pos_of_mem (List.mem_of_getElem? hx))
  exact ⟨e,gK (a3 _ e).2 i x hx⟩
 have hl1:(fs.map fun f=>(bB f.Name,bB f.Data)).length=fs.length:=List.length_map ..
 have hm1:(fs.map fun f=>(bB f.Name,bB f.Data)).map (fun f=>(f.1.data.toList,f.2.data.toList))=fs.map prF:=by
  rw [List.map_map]
  refine List.map_congr_left fun x _=>?_
  simp only [Function.comp,mj,prF]
 have hW:=TP w (fs.map fun f=>(bB f.Name,bB f.Data)) a pb po cap k (bB n) (bB t) (bB d) (A k n t d) (D fs) ?_ ?_ ?_ ?_ ?_ ?_ ?_ ?_ ?_
 ·rw [hl1] at hW
  refine hW.mono ?_
  rintro e w' ⟨v,ys,c,rfl,hB,hown,hend⟩
  rw [hm1,mj,mj,mj] at hend
  obtain ⟨e1,e2⟩:=hF _ _ _ _ _ _ _ hend
  rw [e2]
  have hle:ys.length=(F fs k n t d).1.length:=by rw [e1,List.length_map]
  rw [hle] at hown
  have hge:∀ k,v.ownBlock=some k→w.heap.size ≤ k:=fun k hk=>(hown.lt k hk).1
  refine ⟨fun b=>if b < w.heap.size then S b else 0,hB.os,hB.tape,hB.output,hB.size,fun b hb1 _=>⟨hB.block b hb1,if_pos hb1⟩,_,v.ownBlock.toList,[],rfl,?_,?_,?_,rfl,?_,rfl,rfl⟩
  ·refine ⟨_,rfl,_,_,v.ownBlock.toList,[],rfl,(List.append_nil _).symm,⟨_,rfl,_,_,v.ownBlock.toList,[],rfl,(List.append_nil _).symm,⟨_,jh hown (Nat.zero_le _),rdl_rowF.2 ?_,rfl,?_,fun k h=>by cases h⟩,rfl,rfl⟩,_,_,[],[],rfl,rfl,⟨rfl,by simp only [RD]⟩,rfl,rfl⟩
   ·rw [e1]
   ·intro b hbm
    show (if b < w.heap.size then S b else 0)=_
    rw [if_neg (Nat.not_lt.2 (hge b hbm))]; rfl
  ·simp only [List.flatMap_nil,List.append_nil]
   cases v.ownBlock <;> simp
  ·intro b hbm
   exact hge b (by simpa using hbm)
  ·simp only [ParOK]
   intro vs hv
   injection hv with hv
   subst hv
   simp only [ParOKs,ParOK,and_self]
   refine ⟨?_,trivial⟩
   intro vs hv
   injection hv with hv
   subst hv
   simp only [ParOKs,zP,ParOK,and_self]
 ·intro W hB
  rw [hl1]
  have hxs:RXs S W [.agg [.d (zh cFile fs)]] (#[.agg #[.slice a fs.length cap]]:Array Value).toList []:=⟨_,_,[],[],rfl,rfl,⟨_,rfl,_,_,[],[],rfl,rfl,⟨rfl,RD.mono (Zo S hB) _ _ hU⟩,rfl,rfl⟩,rfl,rfl⟩
  refine (hd S W _ _ _ hxs (hok W hB) _ (hCd _ _ _ _ _ hp)).2.mono ?_
  rintro e w' ⟨S',o1,o2,o3,o4,o5,v,b1,ls',rfl,⟨rfl,hv⟩,_⟩
  simp only [RD] at hv
  subst hv
  exact ⟨rfl,o1,o2,o3,o4,fun b hb1=>(o5 b hb1 (by simp)).1⟩
 ·intro W hB
  rw [hl1,hm1]
  have hxs:RXs S W [.agg [.d (zh cFile fs)]] (#[.agg #[.slice a fs.length cap]]:Array Value).toList []:=⟨_,_,[],[],rfl,rfl,⟨_,rfl,_,_,[],[],rfl,rfl,⟨rfl,RD.mono (Zo S hB) _ _ hU⟩,rfl,rfl⟩,rfl,rfl⟩
  refine (hc S W _ _ _ hxs (hok W hB) _ (hCc _ _ _ _ _ hp)).2.mono ?_
  rintro e w' ⟨S',o1,o2,o3,o4,o5,v,b1,ls',rfl,⟨vs,rfl,u1,r1,b2,b3,hvs,hb1,⟨zs,k1,k2,k3,k4,k5⟩,hr,hb3⟩,hnd1,hge,_⟩
  subst hr hb3
  obtain rfl:vs=#[u1]:=by cases vs; simp_all
  rw [rdl_rowF] at k2
  subst k2 k3
  refine ⟨u1,rfl,⟨o1,o2,o3,o4,fun b hb1=>(o5 b hb1 (by simp)).1⟩,SU k1 fun k hk=>hge k ?_⟩
  rw [hb1]
  simp [hk]
 ·intro W hB
  have hxs:RXs S W [.agg [.d (.int .i64 k),.d (sD n),.d (sD t),.d (sD d)]] (#[.agg #[.int .i64 k,.string (bB n),.string (bB t),.string (bB d)]]:Array Value).toList []:=
   ⟨_,_,[],[],rfl,rfl,⟨_,rfl,_,_,[],[],rfl,rfl,⟨rfl,rfl⟩,_,_,[],[],rfl,rfl,⟨rfl,rfl⟩,_,_,[],[],rfl,rfl,⟨rfl,rfl⟩,_,_,[],[],rfl,rfl,⟨rfl,rfl⟩,rfl,rfl⟩,rfl,rfl⟩
  refine (ha S W _ _ _ hxs (hok W hB) _ (hCa _ _ _ _ ⟨p2,p3⟩)).2.mono ?_
  rintro e w' ⟨S',o1,o2,o3,o4,o5,v,b1,ls',rfl,⟨rfl,hv⟩,_⟩
  simp only [RD] at hv
  subst hv
  exact ⟨rfl,o1,o2,o3,o4,fun b hb1=>(o5 b hb1 (by simp)).1⟩
 ·intro y hy
  obtain ⟨i,hi⟩:=List.getElem?_of_mem hy
  rw [List.getElem?_map,Option.map_eq_some_iff] at hi
  obtain ⟨x,hx,_⟩:=hi
  exact (hfs i x hx).1
 ·intro y hy
  obtain ⟨i,hi⟩:=List.getElem?_of_mem hy
  rw [List.getElem?_map,Option.map_eq_some_iff] at hi
  obtain ⟨x,hx,_⟩:=hi
  exact World.block_lt_of_cell? w ⟨pb,_,none⟩ (hfs i x hx).2.1
 ·intro i f hf
  rw [List.getElem?_map,Option.map_eq_some_iff] at hf
  obtain ⟨x,hx,rfl⟩:=hf
  exact (hfs i x hx).2
 ·intro hD
  obtain ⟨d1,d2⟩:=hnd fs hD
  rw [hl1]
  refine ⟨d1,fun f hf=>?_,?_⟩
  ·obtain ⟨x,hx,rfl⟩:=List.mem_map.1 hf
   have q:=p1 x hx
   simp only [Zj]
   exact ⟨Nat.le_trans q.1 (by decide),q.2⟩
  ·have e:(fs.map fun f=>(bB f.Name,bB f.Data)).map (fun f=>f.1.data.toList)=fs.map (·.Name):=by
    rw [List.map_map]
    refine List.map_congr_left fun x _=>?_
    simp only [Function.comp,mj]
   rw [e]; exact d2
 ·simp only [Zj]
  exact ⟨Nat.le_trans p2 (by decide),Nat.le_trans p3 (by decide),p4⟩
 ·intro W hB
  exact GlTab.et W (hG' W hB)
end Go.Vm
set_option linter.all false
set_option maxRecDepth 100000
namespace Go.Vm
def sL (n d:List UInt8) (left:Int):Prop:=n.length ≤ big∧d.length ≤ big∧0 ≤ left∧left ≤ 1048576
def yD (n d:List UInt8) (left:Int):Int:=if left < n.length then -1 else if left - n.length < d.length then -1 else left - n.length - d.length
theorem db (n d:List UInt8) (left:Int) (h:sL n d left):∃ N,tA N n d left=some (yD n d left):=by
 obtain ⟨h1,h2,h3,h4⟩:=h
 rw [tE] at h1 h2
 refine ⟨0,?_⟩
 unfold tA yD
 rw [vI (n:=left - n.length) (by omega)]
 by_cases c1:left < n.length
 ·rw [if_pos c1,if_pos (by omega)]
 ·rw [if_neg c1,if_neg (by omega),vI (by omega)]
  by_cases c2:left - n.length < d.length
  ·rw [if_pos c2,if_pos (by omega)]
  ·rw [if_neg c2,if_neg (by omega)]
def qO (x:TFile):Prop:=x.Name.length ≤ big∧x.Data.length ≤ big
def tg (l:List TFile) (left:Int):Prop:=l.length ≤ big∧(∀ x ∈ l,qO x)∧0 ≤ left∧left ≤ 1048576
def szF:List TFile→Int→Int
 | [],left=>left
 | x :: r,left=>if yD x.Name x.Data left < 0 then -1 else szF r (yD x.Name x.Data left)
def wa (l:List TFile) (left:Int):Int:=if left < l.length then -1 else szF l (left - l.length)
theorem VS (n d:List UInt8) (left:Int) (h:left ≤ 1048576):yD n d left ≤ 1048576:=by
 unfold yD; split
 ·omega
 ·split <;> omega
theorem eM (L:List UInt8→List UInt8→Int→Option Int) (hL:∀ n d l,sL n d l→L n d l=some (yD n d l)) (l:List TFile) (hl:few l) (hf:∀ x ∈ l,qO x):
  ∀ (r:List TFile) (j e:Nat) (left:Int),l.drop j=r→0 ≤ left→left ≤ 1048576→xT L (r.length+1+e) l left j=some (szF r left)
 | [],j,e,left,hd,h0,h1=>by
   rw [List.length_nil,qR]
   simp only [xT]
   rw [if_neg (tV hd)]; rfl
 | x :: r,j,e,left,hd,h0,h1=>by
   obtain ⟨g1,g2,g3,g4,g5,g6⟩:=w6 hd
   have hx:=hf x (List.mem_of_getElem? g4)
   rw [List.length_cons,yz]
   simp only [xT]
   rw [if_pos g2,g3]
   simp only [Option.bind_some]
   rw [hL _ _ _ ⟨hx.1,hx.2,h0,h1⟩]
   simp only [Option.bind_some,szF]
   by_cases c:yD x.Name x.Data left < 0
   ·rw [if_pos c,if_pos c]
   ·rw [if_neg c,if_neg c,vt g1 (wE hl)]
    exact eM L hL l hl hf r (j+1) e _ g5 (by omega) (VS _ _ _ h1)
theorem fT (L:List UInt8→List UInt8→Int→Option Int) (hL:∀ n d l,sL n d l→L n d l=some (yD n d l)) (l:List TFile) (left:Int) (h:tg l left):
  ∃ N,uA L N l left=some (wa l left):=by
 obtain ⟨h1,h2,h3,h4⟩:=h
 rw [tE] at h1
 refine ⟨l.length+1,?_⟩
 unfold uA wa
 rw [vI (n:=left - l.length) (by omega)]
 by_cases c:left < l.length
 ·rw [if_pos c,if_pos (by omega)]
 ·rw [if_neg c,if_neg (by omega)]
  exact eM L hL l (by unfold few; omega) h2 l 0 0 _ rfl (by omega) (by omega)
def qH (l:List TFile) (left:Int):Prop:=tg l left
def wL (l:List TFile) (left:Int):Int:=if wa l left < 0 then -1 else wa l left
theorem eU (L:List TFile→Int→Option Int) (hL:∀ l n,tg l n→L l n=some (wa l n)) (l:List TFile) (left:Int) (h:qH l left):
  ∃ N,t6 L N l left=some (wL l left):=by
 refine ⟨0,?_⟩
 unfold t6 wL
 rw [hL _ _ h]
 simp only [Option.bind_some]
 split <;> rfl
def pj (k:Int) (n t d:List UInt8) (left:Int):Prop:=n.length ≤ big∧t.length ≤ big∧d.length ≤ big∧0 ≤ left∧left ≤ 1048576
def wn (k:Int) (n t d:List UInt8) (left:Int):Int:=if left < n.length then -1 else if left - n.length < t.length then -1 else if left - n.length - t.length < d.length then -1 else left - n.length - t.length - d.length
theorem cX (k:Int) (n t d:List UInt8) (left:Int) (h:pj k n t d left):∃ N,s7 N k n t d left=some (wn k n t d left):=by
 obtain ⟨h1,h2,h3,h4,h5⟩:=h
 rw [tE] at h1 h2 h3
 refine ⟨0,?_⟩
 unfold s7 wn
 rw [vI (n:=left - n.length) (by omega)]
 by_cases c1:left < n.length
 ·rw [if_pos c1,if_pos (by omega)]
 ·rw [if_neg c1,if_neg (by omega),vI (n:=left - n.length - t.length) (by omega)]
  by_cases c2:left - n.length < t.length
  ·rw [if_pos c2,if_pos (by omega)]
  ·rw [if_neg c2,if_neg (by omega),vI (by omega)]
   by_cases c3:left - n.length - t.length < d.length
   ·rw [if_pos c3,if_pos (by omega)]
   ·rw [if_neg c3,if_neg (by omega)]
def sM (n d:List UInt8):Prop:=True
def tx (n d:List UInt8):List UInt8×List UInt8:=(n,d)
theorem dx (n d:List UInt8) (h:sM n d):∃ N,rV N n d=some (tx n d):=⟨0,rfl⟩
def qk (l:List TFile):Prop:=few l
def rx (l:List TFile):List TFile:=l
theorem eh (L:List UInt8→List UInt8→Option (List UInt8×List UInt8)) (hL:∀ n d,sM n d→L n d=some (tx n d)) (l:List TFile) (hl:few l):
  ∀ (r:List TFile) (j e:Nat) (z:List TFile),l.drop j=r→z.length=l.length→z.take j=l.take j→xN L (r.length+1+e) l j z=some l
 | [],j,e,z,hd,hz,ht=>by
   have h:=tV hd
   have hj:l.length ≤ j:=by omega
   rw [List.length_nil,qR]
   simp only [xN]
   rw [if_neg h,← List.take_of_length_le (show z.length ≤ j by omega),ht,List.take_of_length_le hj]
 | x :: r,j,e,z,hd,hz,ht=>by
   obtain ⟨h1,h2,h3,h4,h5,h6⟩:=w6 hd
   rw [List.length_cons,yz]
   simp only [xN]
   rw [if_pos h2,h3]
   simp only [Option.bind_some]
   rw [hL _ _ trivial]
   simp only [Option.bind_some,tx]
   rw [if_pos (by omega),Int.toNat_natCast,oY,if_pos (by omega)]
   simp only [Option.bind_some]
   rw [vt h1 (wE hl)]
   refine eh L hL l hl r (j+1) e (z.set j x) h5 (by simp [hz]) ?_
   rw [List.take_add_one,List.take_add_one,List.getElem?_set_self (by omega),h4,List.take_set_of_le (Nat.le_refl j),ht]
theorem fO (L:List UInt8→List UInt8→Option (List UInt8×List UInt8)) (hL:∀ n d,sM n d→L n d=some (tx n d)) (l:List TFile) (h:qk l):
  ∃ N,uS L N l=some (rx l):=by
 refine ⟨l.length+1,?_⟩
 unfold uS rx
 have h':l.length ≤ 1048576:=h
 rw [if_pos (by unfold fg wF; omega)]
 exact eh L hL l h l 0 0 _ rfl (by simp) rfl
def qy (l:List TFile):Prop:=few l
def rX (l:List TFile):List TFile:=l
theorem dm (L:List TFile→Option (List TFile)) (hL:∀ l,qk l→L l=some (rx l)) (l:List TFile) (h:qy l):
  ∃ N,tG L N l=some (rX l):=by
 refine ⟨0,?_⟩
 unfold tG
 rw [hL _ h]; rfl
def qW (k:Int) (n t d:List UInt8):Prop:=True
def qG (k:Int) (n t d:List UInt8):Int×List UInt8×List UInt8×List UInt8:=(k,n,t,d)
theorem ct (k:Int) (n t d:List UInt8) (h:qW k n t d):∃ N,qz N k n t d=some (qG k n t d):=⟨0,rfl⟩
def u2 (c:Int):Prop:=True
def lj (c:Int):Bool:=decide (48 ≤ c)&&decide (c ≤ 57)
def va (c:Int):Bool:=lj c
theorem fM (c:Int) (h:u2 c):∃ N,uG N c=some (va c):=by
 refine ⟨0,?_⟩
 unfold uG va lj
 by_cases h:48 ≤ c <;> simp [h]
def uw (c:Int):Prop:=True
def lG (c:Int):Bool:=(decide (97 ≤ c)&&decide (c ≤ 122))||(decide (65 ≤ c)&&decide (c ≤ 90))
def wA (c:Int):Bool:=lG c
theorem gg (c:Int) (h:uw c):∃ N,vQ N c=some (wA c):=by
 refine ⟨0,?_⟩
 unfold vQ wA lG
 by_cases h:97 ≤ c <;> by_cases h':c ≤ 122 <;> by_cases h'':65 ≤ c <;> simp [h,h',h'']
def wP (l:List UInt8):Prop:=l.length ≤ big
def iJ (b:UInt8):Bool:=lj b.toNat||lG b.toNat||decide ((b.toNat:Int)=46)||decide ((b.toNat:Int)=95)
def wO (l:List UInt8):Bool:=l.all iJ&&(decide (1 ≤ l.length)&&decide (l.length ≤ 40))
def wC (l:List UInt8):Bool:=wO l
theorem gj (L1 L2:Int→Option Bool) (h1:∀ c,u2 c→L1 c=some (va c)) (h2:∀ c,uw c→L2 c=some (wA c)) (l:List UInt8) (hl:l.length ≤ big):
  ∀ (r:List UInt8) (j e:Nat),l.drop j=r→yJ L1 L2 (r.length+1+e) l j=some (r.all iJ&&(decide (1 ≤ l.length)&&decide (l.length ≤ 40)))
 | [],j,e,hd=>by
   rw [List.length_nil,qR]
   simp only [yJ]
   rw [if_neg (tV hd)]
   by_cases c:1 ≤ l.length
   ·rw [if_pos (by omega)]
    by_cases c':l.length ≤ 40
    ·have:(l.length:Int) ≤ 40:=by omega
     simp [c,c',this]
    ·have:¬ (l.length:Int) ≤ 40:=by omega
     simp [c,c',this]
   ·rw [if_neg (by omega)]; simp [c]
 | b :: r,j,e,hd=>by
   obtain ⟨g1,g2,g3,g4,g5,g6⟩:=w6 hd
   rw [List.length_cons,yz]
   simp only [yJ]
   rw [if_pos g2,eD g3]
   simp only [Option.bind_some]
   rw [h1 _ trivial,h2 _ trivial,vt g1 hl,gj L1 L2 h1 h2 l hl r (j+1) e g5]
   simp only [Option.bind_some,List.all_cons,va,wA,iJ]
   by_cases c1:lj b.toNat=true
   ·simp [c1]
   ·by_cases c2:lG b.toNat=true
    ·simp [c1,c2]
    ·by_cases c3:(b.toNat:Int)=46
     ·simp [c1,c2,c3]
     ·by_cases c4:(b.toNat:Int)=95
      ·simp [c1,c2,c3,c4]
      ·simp [c1,c2,c3,c4]
theorem hX (L1:Int→Option Bool) (h1:∀ c,u2 c→L1 c=some (va c)) (L2:Int→Option Bool) (h2:∀ c,uw c→L2 c=some (wA c)) (l:List UInt8) (h:wP l):
  ∃ N,sE L1 L2 N l=some (wC l):=⟨l.length+1,gj L1 L2 h1 h2 l h l 0 0 rfl⟩
def qU (l:List TFile):Prop:=few l∧∀ x ∈ l,qO x
def nM:Option (List UInt8)→List TFile→Bool
 | _,[]=>true
 | p,x :: r=>wO x.Name&&decide (x.Data.length ≤ 100000)&&(match p with | none=>true | some q=>xZ q x.Name)&&nM (some x.Name) r
def s5 (l:List TFile):Bool:=decide (l.length ≤ 400)&&nM none l
def tI (l:List TFile):Bool:=s5 l
theorem ZB {l:List TFile} {j:Nat} {x:TFile} (h:l[j]? =some x):(if j+1=0 then none else (l[j+1 - 1]?).map (·.Name))=some x.Name:=by
 rw [if_neg (by omega),Nat.add_sub_cancel,h]; rfl
theorem cR {j n:Nat} (h:j < n) (hn:n ≤ big) (h0:0 < j):w64 ((j:Int) - 1)=((j - 1:Nat):Int):=by
 rw [tE] at hn
 rw [vI (by omega)]; omega
theorem iF (L:List UInt8→Option Bool) (hL:∀ l,wP l→L l=some (wC l)) (l:List TFile) (hl:few l) (hf:∀ x ∈ l,qO x):
  ∀ (r:List TFile) (j e:Nat) (p:Option (List UInt8)),l.drop j=r→p=(if j=0 then none else (l[j - 1]?).map (·.Name))→xH L (r.length+1+e) j l=some (nM p r)
 | [],j,e,p,hd,hp=>by
   rw [List.length_nil,qR]
   simp only [xH]
   rw [if_neg (tV hd)]; rfl
 | x :: r,j,e,p,hd,hp=>by
   obtain ⟨g1,g2,g3,g4,g5,g6⟩:=w6 hd
   have hx:=hf x (List.mem_of_getElem? g4)
   rw [List.length_cons,yz]
   simp only [xH]
   rw [if_pos g2,g3]
   simp only [Option.bind_some]
   rw [hL _ hx.1]
   simp only [Option.bind_some,wC,nM]
   have ih:=iF L hL l hl hf r (j+1) e (some x.Name) g5 (ZB g4).symm
   cases c1:wO x.Name with
   | false=>simp
   | true=>
     rw [if_neg (by simp)]
     by_cases c2:(100000:Int) < x.Data.length
     ·have:¬ x.Data.length ≤ 100000:=by omega
      rw [if_pos c2]; simp [this]
     ·have e2:x.Data.length ≤ 100000:=by omega
      rw [if_neg c2,vt g1 (wE hl),ih]
      by_cases c3:(0:Int) < j
      ·rw [if_pos c3,cR g1 (wE hl) (by omega),fj]
       have hj:j - 1 < l.length:=by omega
       rw [if_neg (by omega)] at hp
       rw [List.getElem?_eq_getElem hj] at hp ⊢
       subst hp
       simp only [Option.bind_some,Option.map_some,e2,decide_true,Bool.true_and]
       cases xZ l[j - 1].Name x.Name <;> simp
      ·rw [if_neg c3]
       rw [if_pos (by omega)] at hp
       subst hp
       simp [e2]
theorem eZ (L:List UInt8→Option Bool) (hL:∀ l,wP l→L l=some (wC l)) (l:List TFile) (h:qU l):∃ N,se L N l=some (tI l):=by
 refine ⟨l.length+1,?_⟩
 unfold se tI s5
 by_cases c:(400:Int) < l.length
 ·have:¬ l.length ≤ 400:=by omega
  rw [if_pos c]; simp [this]
 ·have e:l.length ≤ 400:=by omega
  rw [if_neg c]
  simp only [e,decide_true,Bool.true_and]
  exact iF L hL l h.1 h.2 l 0 0 none rfl rfl
def sJ (l:List TFile):Prop:=few l
def vD (l:List TFile):List TFile:=l
def lX (l:List TFile):List TFile:=vD l
theorem bi {l:List TFile} (h:few l):vm 32 l.length:=by
 have h':l.length ≤ 1048576:=h
 unfold vm wF; omega
theorem dF (l:List TFile) (h:sJ l):∃ N,sb N l=some (vD l):=by
 refine ⟨0,?_⟩
 unfold sb vD
 rw [if_pos (bi h)]
def qn (k:Int) (n t d:List UInt8):Prop:=n.length ≤ big∧t.length ≤ big
def vH (k:Int) (n t d:List UInt8):Bool:=decide (1 ≤ k)&&decide (k ≤ 4)&&wO n&&(decide (k=2)||decide (d=[]))&&(if k=3 then wO t else decide (t=[]))
def uU (k:Int) (n t d:List UInt8):Bool:=vH k n t d
theorem fX (L:List UInt8→Option Bool) (hL:∀ l,wP l→L l=some (wC l)) (k:Int) (n t d:List UInt8) (h:qn k n t d):∃ N,uJ L N k n t d=some (uU k n t d):=by
 refine ⟨0,?_⟩
 have h1:L n=some (wO n):=hL _ h.1
 have h2:L t=some (wO t):=hL _ h.2
 unfold uJ uU vH
 rw [h1,h2]
 by_cases c1:k < 1
 ·rw [if_pos c1,decide_eq_false (show ¬ 1 ≤ k by omega)]; simp
 ·rw [if_neg c1,decide_eq_true (show 1 ≤ k by omega)]
  by_cases c2:4 < k
  ·rw [if_pos c2,decide_eq_false (show ¬ k ≤ 4 by omega)]; simp
  ·rw [if_neg c2,decide_eq_true (show k ≤ 4 by omega)]
   simp only [Option.bind_some]
   cases wO n with
   | false=>simp
   | true=>
     rw [if_neg (by simp)]
     by_cases c3:k=2
     ·subst c3; simp
     ·rw [if_neg c3]
      by_cases c4:d=[]
      ·by_cases c5:k=3
       ·subst c5; simp [c4]
       ·simp [c3,c4,c5]
      ·simp [c3,c4]
def oa (fs:List TFile) (n:List UInt8):Prop:=few fs
def atF (n:List UInt8):List TFile→Nat→Int
 | [],_=>-1
 | f :: r,i=>if f.Name=n then i else atF n r (i+1)
def pq (fs:List TFile) (n:List UInt8):Int:=atF n fs 0
theorem Ox (n:List UInt8) (fs:List TFile) (hl:few fs):∀ (r:List TFile) (j e:Nat),fs.drop j=r→vg (r.length+1+e) n j fs=some (atF n r j)
 | [],j,e,hd=>by
   rw [List.length_nil,qR]
   simp only [vg]
   rw [if_neg (tV hd)]; rfl
 | x :: r,j,e,hd=>by
   obtain ⟨g1,g2,g3,g4,g5,g6⟩:=w6 hd
   rw [List.length_cons,yz]
   simp only [vg]
   rw [if_pos g2,g3]
   simp only [Option.bind_some,atF]
   by_cases c:x.Name=n
   ·rw [if_pos c,if_pos c]
   ·rw [if_neg c,if_neg c,vt g1 (wE hl)]
    exact Ox n fs hl r (j+1) e g5
theorem aq (fs:List TFile) (n:List UInt8) (h:oa fs n):∃ N,pv N fs n=some (pq fs n):=⟨fs.length+1,Ox n fs h fs 0 0 rfl⟩
def qP (fs:List TFile) (n d:List UInt8):Prop:=few fs
def rm (fs:List TFile) (n d:List UInt8):List TFile:=fs.takeWhile (fun f=>xZ f.Name n)++⟨n,d⟩ :: fs.filter fun f=>!(xZ f.Name n||decide (f.Name=n))
def qa (fs:List TFile) (n d:List UInt8):List TFile:=rm fs n d
theorem jm (n d:List UInt8) (fs:List TFile) (hl:few fs):∀ (r:List TFile) (j e:Nat) (acc:List TFile),fs.drop j=r→acc.length ≤ 1048577+j→xf (r.length+1+e) j fs n d acc=some (acc++r.filter fun f=>!(xZ f.Name n||decide (f.Name=n)))
 | [],j,e,acc,hd,ha=>by
   rw [List.length_nil,qR]
   simp only [xf]
   rw [if_neg (tV hd)]; simp
 | x :: r,j,e,acc,hd,ha=>by
   obtain ⟨g1,g2,g3,g4,g5,g6⟩:=w6 hd
   have hl':fs.length ≤ 1048576:=hl
   rw [List.length_cons,yz]
   simp only [xf]
   rw [if_pos g2,g3]
   simp only [Option.bind_some]
   by_cases c:(xZ x.Name n||decide (x.Name=n))=false
   ·rw [if_pos c,if_pos (by unfold vm wF; simp only [List.length_append,List.length_cons,List.length_nil]; omega),vt g1 (wE hl),jm n d fs hl r (j+1) e _ g5 (by simp only [List.length_append,List.length_cons,List.length_nil]; omega),List.filter_cons_of_pos (by simp [c])]
    simp
   ·rw [if_neg c,vt g1 (wE hl),jm n d fs hl r (j+1) e _ g5 (by omega),List.filter_cons_of_neg (by simpa using c)]
theorem ZI (n d:List UInt8) (fs:List TFile) (hl:few fs):∀ (r:List TFile) (j e:Nat) (acc:List TFile),fs.drop j=r→acc.length ≤ j∧j ≤ fs.length→we (fs.length+1) (r.length+1+e) j fs n d acc=some (acc++r.takeWhile (fun f=>xZ f.Name n)++⟨n,d⟩ :: fs.filter fun f=>!(xZ f.Name n||decide (f.Name=n)))
 | [],j,e,acc,hd,ha=>by
   have hl':fs.length ≤ 1048576:=hl
   rw [List.length_nil,qR]
   simp only [we]
   by_cases hz:acc.length ≤ 1048576
   ·rw [if_neg (tV hd),if_pos (by unfold vm wF; simp only [List.length_append,List.length_cons,List.length_nil]; omega)]
    refine (jm n d fs hl fs 0 0 _ rfl ?_).trans ?_
    ·simp only [List.length_append,List.length_cons,List.length_nil]; omega
    ·simp
   ·omega
 | x :: r,j,e,acc,hd,ha=>by
   obtain ⟨g1,g2,g3,g4,g5,g6⟩:=w6 hd
   have hl':fs.length ≤ 1048576:=hl
   rw [List.length_cons,yz]
   simp only [we]
   rw [if_pos g2,g3]
   simp only [Option.bind_some]
   by_cases c:xZ x.Name n=true
   ·rw [if_pos c,if_pos (by unfold vm wF; simp only [List.length_append,List.length_cons,List.length_nil]; omega),vt g1 (wE hl),ZI n d fs hl r (j+1) e _ g5 ⟨by simp only [List.length_append,List.length_cons,List.length_nil]; omega,by omega⟩,List.takeWhile_cons_of_pos (by simpa using c)]
    simp
   ·rw [if_neg c,if_pos (by unfold vm wF; simp only [List.length_append,List.length_cons,List.length_nil]; omega)]
    refine (jm n d fs hl fs 0 0 _ rfl ?_).trans ?_
    ·simp only [List.length_append,List.length_cons,List.length_nil]; omega
    ·rw [List.takeWhile_cons_of_neg (by simpa using c)]; simp
theorem dp (fs:List TFile) (n d:List UInt8) (h:qP fs n d):∃ N,qe N fs n d=some (qa fs n d):=
 ⟨fs.length+1,ZI n d fs h fs 0 0 [] rfl ⟨Nat.zero_le _,Nat.zero_le _⟩⟩
def rb (fs:List TFile) (n:List UInt8):Prop:=few fs
def wV (fs:List TFile) (n:List UInt8):List TFile:=fs.filter fun f=>decide (f.Name ≠ n)
def th (fs:List TFile) (n:List UInt8):List TFile:=wV fs n
theorem kz (n:List UInt8) (fs:List TFile) (hl:few fs):∀ (r:List TFile) (j e:Nat) (acc:List TFile),fs.drop j=r→acc.length ≤ j→yU (r.length+1+e) n j fs acc=some (acc++wV r n)
 | [],j,e,acc,hd,ha=>by
   rw [List.length_nil,qR]
   simp only [yU]
   rw [if_neg (tV hd)]; simp [wV]
 | x :: r,j,e,acc,hd,ha=>by
   obtain ⟨g1,g2,g3,g4,g5,g6⟩:=w6 hd
   have hl':fs.length ≤ 1048576:=hl
   rw [List.length_cons,yz]
   simp only [yU]
   rw [if_pos g2,g3]
   simp only [Option.bind_some]
   by_cases c:x.Name=n
   ·rw [if_pos c,vt g1 (wE hl),kz n fs hl r (j+1) e _ g5 (by omega)]
    unfold wV
    rw [List.filter_cons_of_neg (by simpa using c)]
   ·rw [if_neg c,if_pos (by unfold vm wF; simp only [List.length_append,List.length_cons,List.length_nil]; omega),vt g1 (wE hl),kz n fs hl r (j+1) e _ g5 (by simp only [List.length_append,List.length_cons,List.length_nil]; omega)]
    unfold wV
    rw [List.filter_cons_of_pos (by simpa using c)]; simp
theorem j1 (fs:List TFile) (n:List UInt8) (h:rb fs n):∃ N,tm N fs n=some (th fs n):=
 ⟨fs.length+1,kz n fs h fs 0 0 [] rfl (Nat.zero_le _)⟩
def qc (fs:List TFile) (k:Int) (n t d:List UInt8):Prop:=few fs∧(∀ x ∈ fs,x.Data.length ≤ 1048576)∧n.length ≤ 1048576∧t.length ≤ 1048576∧d.length ≤ 1048576
def atN (fs:List TFile) (n:List UInt8):Option TFile:=fs.find? fun f=>decide (f.Name=n)
def wZ (fs:List TFile) (k:Int) (n t d:List UInt8):Alt (List TFile×Int) (List TFile×Int):=
 if vH k n t d=false then .a (fs,2)
 else if k=1 then (if atN fs n=none∧400 ≤ fs.length then .a (fs,4) else .b (rm fs n [],0))
 else match atN fs n with
  | none=> .a (fs,3)
  | some f=>if k=2 then (if 100000 < f.Data.length+d.length then .a (fs,4) else .b (rm fs n (f.Data++d),0))
    else if k=3 then .b (rm (wV fs n) t f.Data,0) else .b (wV fs n,0)
def sA (fs:List TFile) (k:Int) (n t d:List UInt8):List TFile×Int:=match wZ fs k n t d with
 | .a x=>x
 | .b x=>x
theorem ae (n:List UInt8) (fs:List TFile):∀ (r:List TFile) (j:Nat),fs.drop j=r→(r.find? (fun f=>decide (f.Name=n))=none∧atF n r j=-1) ∨ ∃ (i:Nat) (f:TFile),atF n r j=i∧fs[i]? =some f∧r.find? (fun f=>decide (f.Name=n))=some f
 | [],j,hd=> .inl ⟨rfl,rfl⟩
 | x :: r,j,hd=>by
   obtain ⟨g1,g2,g3,g4,g5,g6⟩:=w6 hd
   simp only [atF]
   by_cases c:x.Name=n
   ·exact .inr ⟨j,x,if_pos c,g4,by rw [List.find?_cons_of_pos (by simpa using c)]⟩
   ·rw [if_neg c,List.find?_cons_of_neg (by simpa using c)]
    exact ae n fs r (j+1) g5
theorem aV (L1:Int→List UInt8→List UInt8→List UInt8→Option Bool) (h1:∀ k n t d,qn k n t d→L1 k n t d=some (uU k n t d)) (L2:List TFile→List UInt8→Option Int) (h2:∀ fs n,oa fs n→L2 fs n=some (pq fs n))
  (L3:List TFile→List UInt8→List UInt8→Option (List TFile)) (h3:∀ fs n d,qP fs n d→L3 fs n d=some (qa fs n d)) (L4:List TFile→List UInt8→Option (List TFile)) (h4:∀ fs n,rb fs n→L4 fs n=some (th fs n))
  (fs:List TFile) (k:Int) (n t d:List UInt8) (h:qc fs k n t d):∃ N,rK L1 L2 L3 L4 N fs k n t d=some (wZ fs k n t d):=by
 obtain ⟨hf,hx,hn,ht,hd⟩:=h
 have hf':fs.length ≤ 1048576:=hf
 have hw:few (wV fs n):=by
  have:=List.length_filter_le (fun f:TFile=>decide (f.Name ≠ n)) fs
  show (wV fs n).length ≤ 1048576
  unfold wV; omega
 refine ⟨0,?_⟩
 unfold rK wZ
 rw [h1 _ _ _ _ ⟨by rw [tE]; omega,by rw [tE]; omega⟩,h2 _ _ hf]
 simp only [h3 _ _ _ hf,h4 _ _ hf,h3 _ _ _ hw,Option.bind_some,qa,th,uU,pq]
 by_cases c1:vH k n t d=false
 ·rw [if_pos c1,if_pos c1]
 rw [if_neg c1,if_neg c1]
 rcases ae n fs fs 0 rfl with ⟨e1,e2⟩ | ⟨i,f,e1,e2,e3⟩
 ·rw [e2]
  have e1':atN fs n=none:=e1
  by_cases c2:k=1
  ·rw [if_pos c2,if_pos c2,if_pos (by omega)]
   by_cases c3:400 ≤ fs.length
   ·rw [if_pos (by omega),if_pos ⟨e1',c3⟩]
   ·rw [if_neg (by omega),if_neg (fun h=>c3 h.2)]
  ·rw [if_neg c2,if_neg c2,if_pos (by omega),e1']
 ·rw [e1]
  have e3':atN fs n=some f:=e3
  have hm:f ∈ fs:=List.mem_of_getElem? e2
  have hfd:=hx f hm
  by_cases c2:k=1
  ·rw [if_pos c2,if_pos c2,if_neg (by omega),if_neg (by rw [e3']; simp)]
  ·rw [if_neg c2,if_neg c2,if_neg (by omega),fj,e2,e3']
   simp only [Option.bind_some]
   by_cases c3:k=2
   ·rw [if_pos c3,if_pos c3,vI (by omega)]
    by_cases c4:100000 < f.Data.length+d.length
    ·rw [if_pos (by omega),if_pos c4]
    ·rw [if_neg (by omega),if_neg c4,if_pos (by unfold qI; simp only [List.length_append]; omega)]
   ·rw [if_neg c3,if_neg c3]
    by_cases c4:k=3
    ·rw [if_pos c4,if_pos c4]
    ·rw [if_neg c4,if_neg c4]
def sw (fs:List TFile) (k:Int) (n t d:List UInt8):Prop:=few fs∧(∀ x ∈ fs,x.Name.length ≤ 1048576∧x.Data.length ≤ 1048576)∧n.length ≤ 1048576∧t.length ≤ 1048576∧d.length ≤ 1048576
def qX (fs:List TFile) (k:Int) (n t d:List UInt8):List TFile×Int:=if s5 fs=true then sA fs k n t d else (fs,1)
def pD (fs:List TFile) (k:Int) (n t d:List UInt8):List TFile×Int:=qX fs k n t d
theorem Rd {fs:List TFile} (h:∀ x ∈ fs,x.Name.length ≤ 1048576∧x.Data.length ≤ 1048576):∀ x ∈ fs,qO x:=fun x hx=>by
 have:=h x hx
 unfold qO
 rw [tE]; omega
theorem Vw (L1:List TFile→Option Bool) (h1:∀ l,qU l→L1 l=some (tI l)) (L2:List TFile→Option (List TFile)) (h2:∀ l,sJ l→L2 l=some (vD l))
  (L3:List TFile→Int→List UInt8→List UInt8→List UInt8→Option (List TFile×Int)) (h3:∀ fs k n t d,qc fs k n t d→L3 fs k n t d=some (sA fs k n t d))
  (fs:List TFile) (k:Int) (n t d:List UInt8) (h:sw fs k n t d):∃ N,pM L1 L2 L3 N fs k n t d=some (pD fs k n t d):=by
 obtain ⟨g1,g2,g3,g4,g5⟩:=h
 refine ⟨0,?_⟩
 unfold pM pD qX
 rw [h1 _ ⟨g1,Rd g2⟩]
 simp only [Option.bind_some,tI]
 rw [h2 _ g1]
 simp only [Option.bind_some,vD]
 by_cases c:s5 fs=true
 ·rw [if_neg (by rw [c]; simp),if_pos c,h3 _ _ _ _ _ ⟨g1,fun x hx=>(g2 x hx).2,g3,g4,g5⟩]
  rfl
 ·rw [if_pos (by simpa using c),if_neg c]
def tj (c:Int):Prop:=True
def ve (c:Int):Bool:=lj c
theorem eb (c:Int) (h:tj c):∃ N,uE N c=some (ve c):=by
 refine ⟨0,?_⟩
 unfold uE ve lj
 by_cases h:48 ≤ c <;> simp [h]
def uu (c:Int):Prop:=True
def wy (c:Int):Bool:=lG c
theorem gr (c:Int) (h:uu c):∃ N,vN N c=some (wy c):=by
 refine ⟨0,?_⟩
 unfold vN wy lG
 by_cases h:97 ≤ c <;> by_cases h':c ≤ 122 <;> by_cases h'':65 ≤ c <;> simp [h,h',h'']
def x8 (l:List UInt8):Prop:=l.length ≤ big
def xj (l:List UInt8):Bool:=wO l
theorem gN (L1 L2:Int→Option Bool) (h1:∀ c,tj c→L1 c=some (ve c)) (h2:∀ c,uu c→L2 c=some (wy c)) (l:List UInt8) (hl:l.length ≤ big):
  ∀ (r:List UInt8) (j e:Nat),l.drop j=r→yA L1 L2 (r.length+1+e) l l.length j=some (r.all iJ)
 | [],j,e,hd=>by
   rw [List.length_nil,qR]
   simp only [yA]
   rw [if_neg (tV hd)]; rfl
 | b :: r,j,e,hd=>by
   obtain ⟨g1,g2,g3,g4,g5,g6⟩:=w6 hd
   rw [List.length_cons,yz]
   simp only [yA]
   rw [if_pos g2,eD g3]
   simp only [Option.bind_some]
   rw [h1 _ trivial,h2 _ trivial,vt g1 hl,gN L1 L2 h1 h2 l hl r (j+1) e g5]
   simp only [Option.bind_some,List.all_cons,ve,wy,iJ]
   by_cases c1:lj b.toNat=true
   ·simp [c1]
   ·by_cases c2:lG b.toNat=true
    ·simp [c1,c2]
    ·by_cases c3:(b.toNat:Int)=46
     ·simp [c1,c2,c3]
     ·by_cases c4:(b.toNat:Int)=95
      ·simp [c1,c2,c3,c4]
      ·simp [c1,c2,c3,c4]
theorem jE (L1:Int→Option Bool) (h1:∀ c,tj c→L1 c=some (ve c)) (L2:Int→Option Bool) (h2:∀ c,uu c→L2 c=some (wy c)) (l:List UInt8) (h:x8 l):
  ∃ N,wM L1 L2 N l=some (xj l):=by
 refine ⟨l.length+1,?_⟩
 unfold wM xj wO
 by_cases c:(l.length:Int) < 1
 ·have:¬ 1 ≤ l.length:=by omega
  rw [if_pos c]; simp [this]
 ·rw [if_neg c]
  by_cases c':(40:Int) < l.length
  ·have:¬ l.length ≤ 40:=by omega
   rw [if_pos c']; simp [this]
  ·rw [if_neg c']
   have q:=gN L1 L2 h1 h2 l h l 0 0 rfl
   have e1:1 ≤ l.length:=by omega
   have e2:l.length ≤ 40:=by omega
   simp only [e1,e2,decide_true,Bool.and_self,Bool.and_true]
   exact q
def nO (l:List TFile):Prop:=few l∧∀ x ∈ l,qO x
def rY (l:List TFile):Bool:=s5 l
theorem gf (L:List UInt8→Option Bool) (hL:∀ l,x8 l→L l=some (xj l)) (l:List TFile) (hl:few l) (hf:∀ x ∈ l,qO x):
  ∀ (r:List TFile) (j e:Nat) (p:Option (List UInt8)),l.drop j=r→p=(if j=0 then none else (l[j - 1]?).map (·.Name))→xI L (r.length+1+e) l l.length j l=some (nM p r)
 | [],j,e,p,hd,hp=>by
   rw [List.length_nil,qR]
   simp only [xI]
   rw [if_neg (tV hd)]; rfl
 | x :: r,j,e,p,hd,hp=>by
   obtain ⟨g1,g2,g3,g4,g5,g6⟩:=w6 hd
   have hx:=hf x (List.mem_of_getElem? g4)
   rw [List.length_cons,yz]
   simp only [xI]
   rw [if_pos g2,g3]
   simp only [Option.bind_some]
   rw [hL _ hx.1]
   simp only [Option.bind_some,xj,nM]
   have ih:=gf L hL l hl hf r (j+1) e (some x.Name) g5 (ZB g4).symm
   cases c1:wO x.Name with
   | false=>simp
   | true=>
     rw [if_neg (by simp)]
     by_cases c2:(100000:Int) < x.Data.length
     ·have:¬ x.Data.length ≤ 100000:=by omega
      rw [if_pos c2]; simp [this]
     ·have e2:x.Data.length ≤ 100000:=by omega
      rw [if_neg c2,vt g1 (wE hl),ih]
      by_cases c3:(0:Int) < j
      ·rw [if_pos c3,cR g1 (wE hl) (by omega),fj]
       have hj:j - 1 < l.length:=by omega
       rw [if_neg (by omega)] at hp
       rw [List.getElem?_eq_getElem hj] at hp ⊢
       subst hp
       simp only [Option.bind_some,Option.map_some,e2,decide_true,Bool.true_and]
       cases xZ l[j - 1].Name x.Name <;> simp
      ·rw [if_neg c3]
       rw [if_pos (by omega)] at hp
       subst hp
       simp [e2]
theorem dL (L:List UInt8→Option Bool) (hL:∀ l,x8 l→L l=some (xj l)) (l:List TFile) (h:nO l):∃ N,tZ L N l=some (rY l):=by
 refine ⟨l.length+1,?_⟩
 unfold tZ rY s5
 by_cases c:(400:Int) < l.length
 ·have:¬ l.length ≤ 400:=by omega
  rw [if_pos c]; simp [this]
 ·have e:l.length ≤ 400:=by omega
  rw [if_neg c]
  simp only [e,decide_true,Bool.true_and]
  exact gf L hL l h.1 h.2 l 0 0 none rfl rfl
def yO (l:List TFile):Prop:=few l
def yf (l:List TFile):List TFile:=l
theorem wh (l:List TFile) (h:yO l):(∃ N,ya N l=some (yf l))∧(∃ N,yE N=some (yf [])):=by
 refine ⟨⟨0,?_⟩,0,rfl⟩
 unfold ya yf
 rw [if_pos (bi h)]
def nE (l:List TFile):Prop:=few l
def oe (l:List TFile):List TFile:=l
theorem eS (L:List TFile→Option (List TFile)) (hL:∀ l,yO l→L l=some (yf l)) (l:List TFile) (h:nE l):∃ N,tt L N l=some (oe l):=by
 refine ⟨0,?_⟩
 unfold tt
 rw [hL _ h]; rfl
def m3 (k:Int) (n t d:List UInt8):Prop:=n.length ≤ big∧t.length ≤ big
def qw (k:Int) (n t d:List UInt8):Bool:=vH k n t d
theorem bw (L:List UInt8→Option Bool) (hL:∀ l,x8 l→L l=some (xj l)) (k:Int) (n t d:List UInt8) (h:m3 k n t d):∃ N,re L N k n t d=some (qw k n t d):=by
 refine ⟨0,?_⟩
 have h1:L n=some (wO n):=hL _ h.1
 have h2:L t=some (wO t):=hL _ h.2
 unfold re qw vH
 rw [h1,h2]
 by_cases c1:k < 1
 ·rw [if_pos c1,decide_eq_false (show ¬ 1 ≤ k by omega)]; simp
 ·rw [if_neg c1,decide_eq_true (show 1 ≤ k by omega)]
  by_cases c2:4 < k
  ·rw [if_pos c2,decide_eq_false (show ¬ k ≤ 4 by omega)]; simp
  ·rw [if_neg c2,decide_eq_true (show k ≤ 4 by omega)]
   simp only [Option.bind_some]
   cases wO n with
   | false=>simp
   | true=>
     rw [if_neg (by simp)]
     by_cases c4:d=[]
     ·rw [if_pos c4]
      by_cases c5:k=3
      ·subst c5
       cases wO t <;> simp [c4]
      ·simp [c4,c5]
     ·rw [if_neg c4]
      by_cases c3:k=2
      ·subst c3; simp
      ·simp [c3,c4]
def rQ (fs:List TFile) (k:Int) (n t d:List UInt8):Prop:=sw fs k n t d
def nX (fs:List TFile) (k:Int) (n t d:List UInt8):List TFile×Int:=qX fs k n t d
theorem K4 {fs:List TFile} {k:Int} {n t d:List UInt8} (h:rQ fs k n t d):sw fs k n t d:=h
def sN (n d n' d':List UInt8):Prop:=True
def vC (n d n' d':List UInt8):Bool:=decide (n=n')&&decide (d=d')
theorem dE (n d n' d':List UInt8) (h:sN n d n' d'):∃ N,sr N n d n' d'=some (vC n d n' d'):=by
 refine ⟨0,?_⟩
 unfold sr vC
 by_cases c:n=n' <;> by_cases c':d=d' <;> simp [c,c']
def u9 (a b:List TFile):Prop:=few a∧a=b
def rr (a b:List TFile):Bool:=true
theorem ez (L:List UInt8→List UInt8→List UInt8→List UInt8→Option Bool) (hL:∀ n d n' d',sN n d n' d'→L n d n' d'=some (vC n d n' d')) (a:List TFile) (ha:few a):
  ∀ (r:List TFile) (j e:Nat),a.drop j=r→xU L (r.length+1+e) a a j=some true
 | [],j,e,hd=>by
   rw [List.length_nil,qR]
   simp only [xU]
   rw [if_neg (tV hd)]
 | x :: r,j,e,hd=>by
   obtain ⟨h1,h2,h3,h4,h5,h6⟩:=w6 hd
   rw [List.length_cons,yz]
   simp only [xU]
   rw [if_pos h2,h3]
   simp only [Option.bind_some]
   rw [hL _ _ _ _ trivial]
   simp only [Option.bind_some,vC,decide_true,Bool.and_self,Bool.true_eq_false,if_false]
   rw [vt h1 (wE ha)]
   exact ez L hL a ha r (j+1) e h5
theorem fp (L:List UInt8→List UInt8→List UInt8→List UInt8→Option Bool) (hL:∀ n d n' d',sN n d n' d'→L n d n' d'=some (vC n d n' d')) (a b:List TFile) (h:u9 a b):
  ∃ N,uF L N a b=some (rr a b):=by
 obtain ⟨h,rfl⟩:=h
 refine ⟨a.length+1,?_⟩
 unfold uF rr
 rw [if_pos rfl]
 exact ez L hL a h a 0 0 rfl
def vM (a b:List TFile):Prop:=u9 a b
def rW (a b:List TFile):Bool:=true
theorem dK (L:List TFile→List TFile→Option Bool) (hL:∀ a b,u9 a b→L a b=some (rr a b)) (a b:List TFile) (h:vM a b):∃ N,tW L N a b=some (rW a b):=by
 refine ⟨0,?_⟩
 unfold tW
 rw [hL _ _ h]; rfl
def yH (k:Int):Prop:=k ≤ 100000000
def dV:Nat→Int→List UInt8→List UInt8
 | 0,_,acc=>acc
 | f+1,k,acc=>if 0 < k then dV f (w64 (Int.tdiv k 10)) (qx [Go.IntKind.wrap .u8 (w64 (48+Int.tmod k 10))]++acc) else acc
def z6 (k:Int):List UInt8:=if k ≤ 0 then [109,48] else 109 :: dV 10 k []
theorem hY:∀ (f:Nat) (k:Int) (acc:List UInt8) (e:Nat),0 ≤ k→k < 10 ^ f→k ≤ 1000000000→acc.length+f ≤ 100→xA (f+1+e) k acc=some (109 :: dV (f+1) k acc)
 | 0,k,acc,e,h0,h1,h2,h3=>by
   rw [show 0+1+e=e+1 by omega]
   simp only [xA,dV]
   have:¬ 0 < k:=by simp at h1; omega
   rw [if_neg this,if_neg this,if_pos (by unfold qI; omega)]
 | f+1,k,acc,e,h0,h1,h2,h3=>by
   rw [show f+1+1+e=(f+1+e)+1 by omega]
   simp only [xA]
   rw [dV]
   by_cases c:0 < k
   ·have hq:Int.tdiv k 10=k / 10:=Int.tdiv_eq_ediv_of_nonneg h0
    have hl:(qx [Go.IntKind.wrap .u8 (w64 (48+Int.tmod k 10))]++acc).length=acc.length+1:=by simp [qx]
    have hp:(10:Int) ^ (f+1)=10 ^ f * 10:=Int.pow_succ 10 f
    rw [if_pos c,if_pos c,if_pos (by unfold qI; rw [hl]; omega),hq,vI (by omega)]
    exact hY f (k / 10) _ e (by omega) (by omega) (by omega) (by rw [hl]; omega)
   ·rw [if_neg c,if_neg c,if_pos (by unfold qI; omega)]
theorem gJ (k:Int) (h:yH k):∃ N,uc N k=some (z6 k):=by
 have h':k ≤ 100000000:=h
 refine ⟨10,?_⟩
 unfold uc z6
 by_cases c:k ≤ 0
 ·rw [if_pos c,if_pos c]
 ·rw [if_neg c,if_neg c]
  exact hY 9 k [] 0 (by omega) (by omega) (by omega) (by simp)
def vL (l:List TFile) (k:Int):Prop:=few l∧0 ≤ k∧k ≤ 16777216
def w7 (k:Int):Nat→List TFile
 | 0=>[]
 | n+1=>⟨z6 k,z6 (k+1)⟩ :: w7 (k+1+1) n
def xc (l:List TFile) (k:Int):Int×List TFile:=(k+2 * l.length,w7 k l.length)
theorem jX (L:Int→Option (List UInt8)) (hL:∀ k,yH k→L k=some (z6 k)) (n:Nat) (hn:n ≤ 1048576):∀ (m j e:Nat) (k:Int) (z y:List TFile),j+m=n→z.length=n→0 ≤ k→k+2 * m ≤ 33554432→z.take j=y→xl L (m+1+e) k j z=some (k+2 * m,y++w7 k m)
 | 0,j,e,k,z,y,hj,hz,h0,h1,ht=>by
   rw [show 0+1+e=e+1 by omega]
   simp only [xl]
   rw [if_neg (by omega)]
   have:z=y:=by rw [← ht,List.take_of_length_le (by omega)]
   simp [w7,this]
 | m+1,j,e,k,z,y,hj,hz,h0,h1,ht=>by
   rw [show m+1+1+e=(m+1+e)+1 by omega]
   simp only [xl]
   obtain ⟨x,hx⟩:∃ x,z[j]? =some x:=⟨_,List.getElem?_eq_getElem (show j < z.length by omega)⟩
   rw [if_pos (by omega),hL _ (by unfold yH; omega)]
   simp only [Option.bind_some,Int.toNat_natCast]
   rw [if_pos (by omega),hx]
   simp only [Option.bind_some]
   rw [vI (n:=k+1) (by omega),hL _ (by unfold yH; omega)]
   simp only [Option.bind_some,List.length_set]
   rw [if_pos (by omega),List.getElem?_set_self (by omega)]
   simp only [Option.bind_some,List.set_set]
   rw [vI (n:=k+1+1) (by omega),vt (n:=n) (by omega) (by rw [tE]; omega)]
   rw [jX L hL n hn m (j+1) e (k+1+1) _ (y++[⟨z6 k,z6 (k+1)⟩]) (by omega) (by simp [hz]) (by omega) (by omega) (by
    rw [List.take_add_one,List.getElem?_set_self (by omega),List.take_set_of_le (Nat.le_refl j),ht]; rfl)]
   simp [w7]
   omega
theorem j3 (L:Int→Option (List UInt8)) (hL:∀ k,yH k→L k=some (z6 k)) (l:List TFile) (k:Int) (h:vL l k):∃ N,vn L N l k=some (xc l k):=by
 obtain ⟨h1,h2,h3⟩:=h
 refine ⟨l.length+1,?_⟩
 unfold vn xc
 have h1':l.length ≤ 1048576:=h1
 have:=jX L hL l.length h1 l.length 0 0 k l [] (by omega) rfl h2 (by omega) rfl
 simpa using this
def rH (l:List TFile) (k:Int):Prop:=vL l k
def yj (l:List TFile) (k:Int):Int×List TFile:=xc l k
theorem gP (L:List TFile→Int→Option (Int×List TFile)) (hL:∀ l k,vL l k→L l k=some (xc l k)) (l:List TFile) (k:Int) (h:rH l k):∃ N,ug L N l k=some (yj l k):=by
 refine ⟨0,?_⟩
 unfold ug
 rw [hL _ _ h]; rfl
def vJ (l:List TFile) (k:Int):Prop:=few l∧0 ≤ k∧k ≤ 16777216
def xb (l:List TFile) (k:Int):Int:=if l=w7 k l.length then k+2 * l.length else -1
theorem jV (L:Int→Option (List UInt8)) (hL:∀ k,yH k→L k=some (z6 k)) (l:List TFile) (hl:few l):∀ (r:List TFile) (j e:Nat) (k:Int),l.drop j=r→0 ≤ k→k+2 * r.length ≤ 33554432→
  xm L (r.length+1+e) l k j=some (if r=w7 k r.length then k+2 * r.length else -1)
 | [],j,e,k,hd,h0,h1=>by
   rw [show ([]:List TFile).length+1+e=e+1 by simp; omega]
   simp only [xm]
   rw [if_neg (tV hd)]; simp [w7]
 | x :: r,j,e,k,hd,h0,h1=>by
   obtain ⟨g1,g2,g3,g4,g5,g6⟩:=w6 hd
   rw [List.length_cons] at h1
   rw [show (x :: r).length+1+e=(r.length+1+e)+1 by simp; omega]
   simp only [xm]
   rw [if_pos g2,g3]
   simp only [Option.bind_some]
   rw [hL _ (by unfold yH; omega)]
   simp only [Option.bind_some]
   by_cases c:x.Name=z6 k
   ·rw [if_pos c,vI (n:=k+1) (by omega),hL _ (by unfold yH; omega)]
    simp only [Option.bind_some]
    by_cases c':x.Data=z6 (k+1)
    ·rw [if_pos c',vI (n:=k+1+1) (by omega),vt g1 (wE hl),jV L hL l hl r (j+1) e (k+1+1) g5 (by omega) (by omega)]
     have hx:x=⟨z6 k,z6 (k+1)⟩:=by cases x; simp only at c c'; rw [c,c']
     simp only [List.length_cons,w7,List.cons.injEq,hx,true_and]
     congr 1
     split
     ·omega
     ·rfl
    ·rw [if_neg c',if_neg]
     intro q
     simp only [List.length_cons,w7,List.cons.injEq] at q
     exact c' (by rw [q.1])
   ·rw [if_neg c,if_neg]
    intro q
    simp only [List.length_cons,w7,List.cons.injEq] at q
    exact c (by rw [q.1])
theorem ig (L:Int→Option (List UInt8)) (hL:∀ k,yH k→L k=some (z6 k)) (l:List TFile) (k:Int) (h:vJ l k):∃ N,vh L N l k=some (xb l k):=by
 obtain ⟨h1,h2,h3⟩:=h
 have h1':l.length ≤ 1048576:=h1
 refine ⟨l.length+1,?_⟩
 unfold vh xb
 have:=jV L hL l h1 l 0 0 k rfl h2 (by omega)
 simpa using this
def ur (l:List TFile) (k:Int):Prop:=vJ l k
def wD (l:List TFile) (k:Int):Int:=xb l k
theorem iO (L:List TFile→Int→Option Int) (hL:∀ l k,vJ l k→L l k=some (xb l k)) (l:List TFile) (k:Int) (h:ur l k):∃ N,ui L N l k=some (wD l k):=by
 refine ⟨0,?_⟩
 unfold ui wD
 rw [hL _ _ h]
 simp only [Option.bind_some]
 by_cases c:xb l k < 0
 ·rw [if_pos c]
  unfold xb at c ⊢
  split at c
  ·have:=h.2.1; omega
  ·rename_i q; rw [if_neg q]
 ·rw [if_neg c]
def wx (fs:List TFile) (k:Int) (n t d:List UInt8):Prop:=(fs.length ≤ big∧∀ x ∈ fs,qO x)∧n.length ≤ big∧t.length ≤ big∧d.length ≤ big
def qh (fs:List TFile) (k:Int) (n t d:List UInt8):Bool:=true
theorem ma:∀ (n:Nat) (k:Int),(w7 k n).length=n
 | 0,_=>rfl
 | n+1,k=>by simp [w7,ma n]
theorem ak (l:List TFile) (k:Int):wD (yj l k).2 k=(yj l k).1:=by
 unfold wD xb yj xc
 simp only [ma]
 rw [if_pos trivial]
theorem YN {n d:List UInt8} {l:Int} (h:¬ yD n d l < 0):yD n d l=l - n.length - d.length∧0 ≤ l - n.length - d.length:=by
 unfold yD at h ⊢
 split at h
 ·omega
 ·split at h
  ·omega
  ·rename_i h1 h2
   rw [if_neg h1,if_neg h2]; exact ⟨rfl,by omega⟩
theorem ZA:∀ (l:List TFile) (left:Int),left ≤ 1048576→¬ szF l left < 0→(∀ x ∈ l,x.Name.length ≤ 1048576∧x.Data.length ≤ 1048576)∧szF l left ≤ 1048576
 | [],left,h,_=>⟨fun _ hx=>(List.not_mem_nil hx).elim,by simpa [szF] using h⟩
 | x :: r,left,h,hz=>by
   unfold szF at hz ⊢
   by_cases c:yD x.Name x.Data left < 0
   ·rw [if_pos c] at hz; omega
   ·rw [if_neg c] at hz ⊢
    obtain ⟨e1,e2⟩:=YN c
    obtain ⟨i1,i2⟩:=ZA r _ (by omega) hz
    refine ⟨fun y hy=>?_,i2⟩
    rcases List.mem_cons.1 hy with rfl | hy
    ·omega
    ·exact i1 y hy
theorem Vd {k:Int} {n t d:List UInt8} {l:Int} (h:¬ wn k n t d l < 0):wn k n t d l=l - n.length - t.length - d.length∧0 ≤ l - n.length - t.length - d.length:=by
 unfold wn at h ⊢
 split at h
 ·omega
 ·split at h
  ·omega
  ·split at h
   ·omega
   ·rename_i h1 h2 h3
    rw [if_neg h1,if_neg h2,if_neg h3]; exact ⟨rfl,by omega⟩
def srt (fs:List TFile):Prop:=fs.Pairwise fun a b=>a.Name < b.Name
theorem iv (a b:List UInt8):xZ a b=decide (a < b):=Go.Proofs.bytesLess_eq a b
theorem cA {a b c:List UInt8} (h:a < b) (g:b < c):a < c:=List.lt_trans h g
theorem srt_cons {x:TFile} {r:List TFile}:srt (x :: r) ↔ (∀ y ∈ r,x.Name < y.Name)∧srt r:=List.pairwise_cons
theorem eO:∀ (fs:List TFile) (p:Option (List UInt8)),nM p fs=true→srt fs∧(∀ q,p=some q→∀ x ∈ fs,q < x.Name)∧∀ x ∈ fs,x.Name.length ≤ 40∧x.Data.length ≤ 100000
 | [],p,h=>⟨.nil,fun _ _ _ hx=>(List.not_mem_nil hx).elim,fun _ hx=>(List.not_mem_nil hx).elim⟩
 | y :: r,p,h=>by
   simp only [nM,Bool.and_eq_true,decide_eq_true_eq] at h
   obtain ⟨⟨⟨h1,h2⟩,h3⟩,h4⟩:=h
   obtain ⟨i1,i2,i3⟩:=eO r _ h4
   have hy:∀ q,p=some q→q < y.Name:=by
    intro q hq
    subst hq
    simpa [iv] using h3
   refine ⟨srt_cons.2 ⟨i2 _ rfl,i1⟩,?_,?_⟩
   ·intro q hq x hx
    rcases List.mem_cons.1 hx with rfl | hx
    ·exact hy q hq
    ·exact cA (hy q hq) (i2 _ rfl x hx)
   ·intro x hx
    rcases List.mem_cons.1 hx with rfl | hx
    ·refine ⟨?_,h2⟩
     unfold wO at h1
     simp only [Bool.and_eq_true,decide_eq_true_eq] at h1
     exact h1.2.2
    ·exact i3 x hx
theorem ox {fs:List TFile} (h:s5 fs=true):srt fs∧fs.length ≤ 400∧∀ x ∈ fs,x.Name.length ≤ 40∧x.Data.length ≤ 100000:=by
 unfold s5 at h
 simp only [Bool.and_eq_true,decide_eq_true_eq] at h
 obtain ⟨h1,h2⟩:=h
 obtain ⟨i1,_,i3⟩:=eO fs none h2
 exact ⟨i1,h1,i3⟩
structure TAct where
 Kind:Int
 Name:List UInt8
 To:List UInt8
 Data:List UInt8
def doF (fs:List TFile) (x:TAct):List TFile×Int:=sA fs x.Kind x.Name x.To x.Data
theorem bp (fs:List TFile) (x:TAct):doF fs x=(if vH x.Kind x.Name x.To x.Data=false then (fs,2)
 else if x.Kind=1 then (if atN fs x.Name=none∧400 ≤ fs.length then (fs,4) else (rm fs x.Name [],0))
 else match atN fs x.Name with
  | none=>(fs,3)
  | some f=>if x.Kind=2 then (if 100000 < f.Data.length+x.Data.length then (fs,4) else (rm fs x.Name (f.Data++x.Data),0))
    else if x.Kind=3 then (rm (wV fs x.Name) x.To f.Data,0) else (wV fs x.Name,0):List TFile×Int):=by
 unfold doF sA wZ
 by_cases c1:vH x.Kind x.Name x.To x.Data=false
 ·simp only [if_pos c1]
 ·simp only [if_neg c1]
  by_cases c2:x.Kind=1
  ·simp only [if_pos c2]
   by_cases c3:atN fs x.Name=none∧400 ≤ fs.length
   ·simp only [if_pos c3]
   ·simp only [if_neg c3]
  ·simp only [if_neg c2]
   cases atN fs x.Name with
   | none=>rfl
   | some f=>
     simp only
     by_cases c3:x.Kind=2
     ·simp only [if_pos c3]
      by_cases c4:100000 < f.Data.length+x.Data.length
      ·simp only [if_pos c4]
      ·simp only [if_neg c4]
     ·simp only [if_neg c3]
      by_cases c4:x.Kind=3
      ·simp only [if_pos c4]
      ·simp only [if_neg c4]
structure FsIn (fs:List TFile) (m:Nat):Prop where
 srt:srt fs
 len:fs.length ≤ m
 dat:∀ x ∈ fs,x.Data.length ≤ 100000
theorem lH (a:List UInt8):¬ a < a:=List.lt_irrefl a
theorem Rj {a b:List UInt8} (h:¬ a < b) (g:a ≠ b):b < a:=by
 apply Classical.byContradiction
 intro hn
 exact g (List.le_antisymm (List.not_lt.1 hn) (List.not_lt.1 h))
theorem MO (z n:List UInt8):(!(xZ z n||decide (z=n)))=decide (n < z):=by
 rw [iv]
 by_cases c:n < z
 ·have h1:¬ z < n:=fun h=>lH _ (cA h c)
  have h2:z ≠ n:=fun h=>lH _ (h ▸ c)
  simp [c,h1,h2]
 ·by_cases c2:z=n
  ·simp [c,c2]
  ·have:=Rj c (Ne.symm c2)
   simp [c,this]
theorem cM (fs:List TFile) (n d:List UInt8):rm fs n d=fs.takeWhile (fun f=>decide (f.Name < n))++⟨n,d⟩ :: fs.filter fun f=>decide (n < f.Name):=by
 unfold rm
 simp only [MO]
 simp only [iv]
theorem lr (n d:List UInt8):∀ fs:List TFile,srt fs→(rm fs n d).Perm (⟨n,d⟩ :: wV fs n)
 | [],_=> .refl _
 | y :: r,h=>by
   obtain ⟨h1,h2⟩:=srt_cons.1 h
   have ih:=lr n d r h2
   rw [cM] at ih ⊢
   unfold wV at ih ⊢
   by_cases c:y.Name < n
   ·have c1:¬ n < y.Name:=fun g=>lH _ (cA g c)
    have c2:y.Name ≠ n:=fun g=>lH _ (g ▸ c)
    rw [List.takeWhile_cons_of_pos (by simpa using c),List.filter_cons_of_neg (by simpa using c1),List.filter_cons_of_pos (by simpa using c2),List.cons_append]
    exact (ih.cons y).trans (.swap _ _ _)
   ·rw [List.takeWhile_cons_of_neg (by simpa using c),List.nil_append]
    refine .cons _ (.of_eq (List.filter_congr ?_))
    intro z hz
    have hz':¬ z.Name < n:=by
     rcases List.mem_cons.1 hz with rfl | hz
     ·exact c
     ·intro g; exact c (cA (h1 z hz) g)
    by_cases c3:z.Name=n
    ·have:¬ n < z.Name:=fun g=>lH _ (c3 ▸ g)
     simp [c3,lH]
    ·simp [c3,Rj hz' c3]
theorem XC {p:TFile→Bool}:∀ {l:List TFile} {a:TFile},a ∈ l.takeWhile p→p a=true
 | [],a,h=>by simp at h
 | x :: l,a,h=>by
   rw [List.takeWhile_cons] at h
   split at h
   ·rename_i hx
    rcases List.mem_cons.1 h with h | h
    ·rw [h]; exact hx
    ·exact XC h
   ·simp at h
theorem WX {fs:List TFile} (n d:List UInt8) (h:srt fs):srt (rm fs n d):=by
 rw [cM]
 unfold srt
 have ha:∀ a ∈ fs.takeWhile (fun f=>decide (f.Name < n)),a.Name < n:=fun a ha=>by
  have:=XC ha
  simpa using this
 have hb:∀ b ∈ fs.filter (fun f=>decide (n < f.Name)),n < b.Name:=fun b hb=>by simpa using (List.mem_filter.1 hb).2
 refine List.pairwise_append.2 ⟨h.sublist (List.takeWhile_sublist _),List.pairwise_cons.2 ⟨fun b hb'=>hb b hb',h.filter _⟩,?_⟩
 intro a ha' b hb'
 rcases List.mem_cons.1 hb' with rfl | hb'
 ·exact ha a ha'
 ·exact cA (ha a ha') (hb b hb')
theorem kJ {fs:List TFile} {m:Nat} (h:FsIn fs m) (n d:List UInt8) (hd:d.length ≤ 100000):FsIn (rm fs n d) (m+1):=by
 have hp:=lr n d fs h.srt
 have hl:(wV fs n).length ≤ fs.length:=List.length_filter_le _ _
 refine ⟨WX n d h.srt,by rw [hp.length_eq,List.length_cons]; have:=h.len; omega,fun x hx=>?_⟩
 rcases List.mem_cons.1 (hp.mem_iff.1 hx) with rfl | hx
 ·exact hd
 ·exact h.dat x (List.mem_filter.1 hx).1
theorem bl {fs:List TFile} (h:srt fs) (n:List UInt8):srt (wV fs n):=h.filter _
theorem eP {fs:List TFile} {m:Nat} (h:FsIn fs m) (n:List UInt8):FsIn (wV fs n) m:=
 ⟨bl h.srt n,by have:=List.length_filter_le (fun f:TFile=>decide (f.Name ≠ n)) fs; have:=h.len; unfold wV; omega,fun x hx=>h.dat x (List.mem_filter.1 hx).1⟩
theorem m2 {fs:List TFile} {m m':Nat} (h:FsIn fs m) (hm:m ≤ m'):FsIn fs m':=⟨h.srt,Nat.le_trans h.len hm,h.dat⟩
theorem Zh {fs:List TFile} {m:Nat} (h:FsIn fs m) (x:TAct):FsIn (doF fs x).1 (m+1):=by
 rw [bp]
 split
 ·exact m2 h (by omega)
 ·split
  ·split
   ·exact m2 h (by omega)
   ·exact kJ h _ _ (by simp)
  ·split
   ·exact m2 h (by omega)
   ·rename_i f hf
    have hm:f ∈ fs:=List.mem_of_find?_eq_some hf
    split
    ·split
     ·exact m2 h (by omega)
     ·exact kJ h _ _ (by simp only [List.length_append]; omega)
    ·split
     ·exact kJ (eP h _) _ _ (h.dat f hm)
     ·exact m2 (eP h _) (by omega)
theorem MX {fs:List TFile} {k:Int} {n t d:List UInt8} (h:few fs):few (qX fs k n t d).1:=by
 unfold qX
 split
 ·rename_i c
  obtain ⟨i1,i2,i3⟩:=ox c
  have:=(Zh (m:=400) ⟨i1,i2,fun x hx=>(i3 x hx).2⟩ ⟨k,n,t,d⟩).len
  show (doF fs ⟨k,n,t,d⟩).1.length ≤ 1048576
  omega
 ·exact h
theorem j5 (L0:List TFile→Int→Option Int) (h0:∀ l n,qH l n→L0 l n=some (wL l n)) (L1:Int→List UInt8→List UInt8→List UInt8→Int→Option Int) (h1:∀ k n t d l,pj k n t d l→L1 k n t d l=some (wn k n t d l))
  (L2:List TFile→Option (List TFile)) (h2:∀ l,qy l→L2 l=some (rX l)) (L3:Int→List UInt8→List UInt8→List UInt8→Option (Int×List UInt8×List UInt8×List UInt8)) (h3:∀ k n t d,qW k n t d→L3 k n t d=some (qG k n t d))
  (L4:List TFile→Int→List UInt8→List UInt8→List UInt8→Option (List TFile×Int)) (h4:∀ l k n t d,sw l k n t d→L4 l k n t d=some (pD l k n t d)) (L5:List TFile→Int→List UInt8→List UInt8→List UInt8→Option (List TFile×Int)) (h5:∀ l k n t d,rQ l k n t d→L5 l k n t d=some (nX l k n t d))
  (L6:List TFile→List TFile→Option Bool) (h6:∀ a b,vM a b→L6 a b=some (rW a b))
  (L8:List TFile→Int→Option (Int×List TFile)) (h8:∀ l k,rH l k→L8 l k=some (yj l k))
  (L10:List TFile→Int→Option Int) (h10:∀ l k,ur l k→L10 l k=some (wD l k)) (fs:List TFile) (k:Int) (n t d:List UInt8) (h:wx fs k n t d):
  ∃ N,vf L0 L1 L2 L3 L4 L5 L6 L8 L10 N fs k n t d=some (qh fs k n t d):=by
 obtain ⟨g1,g2,g3,g4⟩:=h
 refine ⟨0,?_⟩
 unfold vf qh
 rw [h0 _ _ ⟨g1.1,g1.2,by omega,by omega⟩]
 simp only [Option.bind_some]
 by_cases c:wL fs 1048576 < 0
 ·rw [if_pos c]
 rw [if_neg c]
 have hz:¬ (1048576:Int) < fs.length∧¬ szF fs (1048576 - fs.length) < 0∧wL fs 1048576=szF fs (1048576 - fs.length):=by
  unfold wL wa at c ⊢
  by_cases q:(1048576:Int) < fs.length
  ·rw [if_pos q] at c; simp at c
  ·rw [if_neg q] at c ⊢
   by_cases q2:szF fs (1048576 - fs.length) < 0
   ·rw [if_pos q2] at c; simp at c
   ·rw [if_neg q2]; exact ⟨q,q2,rfl⟩
 obtain ⟨z1,z2,z3⟩:=hz
 obtain ⟨z4,z5⟩:=ZA fs _ (by omega) z2
 rw [z3,h1 _ _ _ _ _ ⟨g2,g3,g4,by omega,z5⟩]
 simp only [Option.bind_some]
 by_cases c2:wn k n t d (szF fs (1048576 - fs.length)) < 0
 ·rw [if_pos c2]
 rw [if_neg c2]
 obtain ⟨y1,y2⟩:=Vd c2
 have hs:few fs:=by unfold few; omega
 have hpl:sw fs k n t d:=⟨hs,z4,by omega,by omega,by omega⟩
 have hr:few (qX fs k n t d).1:=MX hs
 have hm1:=h8 fs 1 ⟨hs,by omega,by omega⟩
 have hm2:=h8 (qX fs k n t d).1 1 ⟨hr,by omega,by omega⟩
 have hmf:few (yj (qX fs k n t d).1 1).2:=by
  unfold yj xc few
  rw [ma]; exact hr
 have hh:=h10 _ 1 (show ur (yj (qX fs k n t d).1 1).2 1 from ⟨hmf,by omega,by omega⟩)
 have hk:∀ l:List TFile,(yj l 1).1=1+2 * l.length:=by
  intro l; unfold yj xc; rfl
 have hk2:¬ (yj fs 1).1 < 0:=by rw [hk]; omega
 have hk3:¬ (yj (qX fs k n t d).1 1).1 < 0:=by rw [hk]; omega
 simp only [h2 _ hs,h3 _ _ _ _ trivial,Option.bind_some,rX,qG,h4 _ _ _ _ _ hpl,h5 _ _ _ _ _ (show rQ _ _ _ _ _ from hpl),nX,pD,h6 _ _ (show vM _ _ from ⟨hr,rfl⟩),h6 _ _ (show vM _ _ from ⟨hs,rfl⟩),rW,hm1,hm2,hh,ak,if_neg hk2,if_neg hk3,if_true,Bool.true_eq_false,if_false]
theorem mC {fs:List TFile} {k:Int} {n t d:List UInt8} {q:Prop} (h1:fs.length ≤ maxLen∧∀ x ∈ fs,x.Name.length ≤ maxLen∧x.Data.length ≤ maxLen) (h2:q) (h3:n.length ≤ maxLen) (h4:t.length ≤ maxLen) (h5:d.length ≤ maxLen):wx fs k n t d:=⟨h1,h3,h4,h5⟩
def pr (f:TFile):List UInt8×List UInt8:=(f.Name,f.Data)
theorem Qb {fs:List TFile} {x:TAct} (h:(doF fs x).2 ≠ 0):(doF fs x).1=fs:=by
 rw [bp] at h ⊢
 repeat' split
 all_goals first | rfl | (exfalso; apply h; simp [*]; done) | (exfalso; simp_all; done)
theorem cZ {fs:List TFile} (h:srt fs):((fs.map pr).map (·.1)).Nodup:=by
 rw [List.map_map]
 unfold List.Nodup
 rw [List.pairwise_map]
 refine List.Pairwise.imp ?_ h
 intro a b hab e
 have e':a.Name=b.Name:=e
 rw [e'] at hab
 exact lH _ hab
theorem d4 {α β:Type}:∀ {M:List (α×β)},(M.map (·.1)).Nodup→∀ f ∈ M,∀ g ∈ M,f.1=g.1→f=g
 | [],_,f,hf,_,_,_=>(List.not_mem_nil hf).elim
 | a :: M,h,f,hf,g,hg,e=>by
   rw [List.map_cons,List.nodup_cons] at h
   rcases List.mem_cons.1 hf with hf' | hf'
   ·rcases List.mem_cons.1 hg with hg' | hg'
    ·rw [hf',hg']
    ·exact absurd (List.mem_map.2 ⟨g,hg',by rw [← e,hf']⟩) h.1
   ·rcases List.mem_cons.1 hg with hg' | hg'
    ·exact absurd (List.mem_map.2 ⟨f,hf',by rw [e,hg']⟩) h.1
    ·exact d4 h.2 f hf' g hg' e
theorem VA {L M:List (List UInt8×List UInt8)} (h:L.Perm M) (hn:(M.map (·.1)).Nodup) (n:List UInt8):L.find? (fun f=>decide (f.1=n))=M.find? (fun f=>decide (f.1=n)):=by
 cases hL:L.find? (fun f=>decide (f.1=n)) with
 | none=>
   refine (List.find?_eq_none.2 fun x hx=>?_).symm
   exact List.find?_eq_none.1 hL x (h.mem_iff.2 hx)
 | some f=>
   have f1:f.1=n:=by simpa using List.find?_some hL
   have f2:=h.mem_iff.1 (List.mem_of_find?_eq_some hL)
   cases hM:M.find? (fun f=>decide (f.1=n)) with
   | none=>exact absurd (by simpa using f1) (List.find?_eq_none.1 hM f f2)
   | some g=>
     have g1:g.1=n:=by simpa using List.find?_some hM
     rw [d4 hn f f2 g (List.mem_of_find?_eq_some hM) (f1.trans g1.symm)]
theorem Tq {L:List (List UInt8×List UInt8)} {fs:List TFile} (h:L.Perm (fs.map pr)) (hs:srt fs) (n:List UInt8):L.find? (fun f=>decide (f.1=n))=(atN fs n).map pr:=by
 rw [VA h (cZ hs),List.find?_map]; rfl
theorem iC {L:List (List UInt8×List UInt8)} {fs:List TFile} (h:L.Perm (fs.map pr)) (n:List UInt8):(L.filter fun f=>decide (f.1 ≠ n)).Perm ((wV fs n).map pr):=by
 have:=h.filter fun f=>decide (f.1 ≠ n)
 rw [List.filter_map] at this
 exact this
theorem j6 {L:List (List UInt8×List UInt8)} {fs:List TFile} (h:L.Perm (fs.map pr)) (hs:srt fs) (n d:List UInt8):((n,d) :: L.filter fun f=>decide (f.1 ≠ n)).Perm ((rm fs n d).map pr):=
 ((iC h n).cons (n,d)).trans ((lr n d fs hs).map pr).symm
theorem QD {L:List (List UInt8×List UInt8)} {fs:List TFile} (h:L.Perm (fs.map pr)) (hs:srt fs) (x:TAct):
  (doP (vH x.Kind x.Name x.To x.Data) x.Kind x.Name x.To x.Data L).2=(doF fs x).2∧(doP (vH x.Kind x.Name x.To x.Data) x.Kind x.Name x.To x.Data L).1.Perm ((doF fs x).1.map pr):=by
 unfold doP
 rw [bp]
 by_cases c1:vH x.Kind x.Name x.To x.Data=false
 ·rw [if_pos c1,if_pos c1]; exact ⟨rfl,h⟩
 rw [if_neg c1,if_neg c1]
 have hk:1 ≤ x.Kind∧x.Kind ≤ 4:=by
  unfold vH at c1
  simp only [Bool.not_eq_false,Bool.and_eq_true,decide_eq_true_eq] at c1
  exact c1.1.1.1
 have hlen:L.length=fs.length:=by rw [h.length_eq,List.length_map]
 have hfi:=Tq h hs x.Name
 by_cases c2:x.Kind=1
 ·rw [if_pos c2,if_pos c2]
  have hany:(L.any fun f=>decide (f.1=x.Name))=false ↔ atN fs x.Name=none:=by
   rw [List.any_eq_false]
   have e:(∀ y ∈ L,¬ (decide (y.1=x.Name))=true) ↔ L.find? (fun f=>decide (f.1=x.Name))=none:=List.find?_eq_none.symm
   rw [e,hfi,Option.map_eq_none_iff]
  by_cases c3:atN fs x.Name=none∧400 ≤ fs.length
  ·rw [if_pos c3,if_pos ⟨hany.2 c3.1,by omega⟩]; exact ⟨rfl,h⟩
  ·rw [if_neg c3,if_neg (fun g=>c3 ⟨hany.1 g.1,by omega⟩)]
   exact ⟨rfl,j6 h hs _ _⟩
 ·rw [if_neg c2,if_neg c2,hfi]
  cases atN fs x.Name with
  | none=>exact ⟨rfl,h⟩
  | some f=>
    simp only [Option.map_some]
    by_cases c3:x.Kind=2
    ·rw [if_pos c3,if_pos c3]
     by_cases c4:100000 < f.Data.length+x.Data.length
     ·rw [if_pos c4,if_pos (show 100000 < (pr f).2.length+x.Data.length from c4)]; exact ⟨rfl,h⟩
     ·rw [if_neg c4,if_neg (show ¬ 100000 < (pr f).2.length+x.Data.length from c4)]
      exact ⟨rfl,j6 h hs _ _⟩
    ·rw [if_neg c3,if_neg c3]
     by_cases c4:x.Kind=3
     ·rw [if_pos c4,if_pos c4]
      exact ⟨rfl,j6 (iC h x.Name) (bl hs _) _ _⟩
     ·rw [if_neg c4,if_neg c4,if_pos (by omega)]
      exact ⟨rfl,iC h x.Name⟩
theorem WN {xs L:List (List UInt8×List UInt8)} {fs:List TFile} (h1:(xs.map (·.1)).Pairwise (· ≤ ·)) (h2:xs.Perm L) (h3:L.Perm (fs.map pr)) (h4:srt fs):xs=fs.map pr:=by
 have hp:=h2.trans h3
 rw [List.pairwise_map] at h1
 have hs2:(fs.map pr).Pairwise fun a b=>a.1 ≤ b.1:=by
  rw [List.pairwise_map]
  exact h4.imp fun {a b} hab=>List.le_of_lt hab
 refine List.Perm.eq_of_pairwise (fun a b ha hb h1 h2=>?_) h1 hs2 hp
 exact d4 (cZ h4) a (hp.mem_iff.1 ha) b hb (List.le_antisymm h1 h2)
theorem Um {fs:List TFile} {k:Int} {n t d:List UInt8} {xs:List (List UInt8×List UInt8)} {c:Int} (h:lE (s5 fs) (doP (vH k n t d) k n t d) (fs.map pr) xs c):xs=(qX fs k n t d).1.map pr∧c=(qX fs k n t d).2:=by
 unfold lE at h
 unfold qX
 by_cases g:s5 fs=true
 ·rw [if_pos g] at h ⊢
  obtain ⟨h1,h2⟩:=h
  obtain ⟨i1,i2,i3⟩:=ox g
  obtain ⟨e1,e2⟩:=QD (L:=(fs.map pr).reverse) (List.reverse_perm _) i1 ⟨k,n,t,d⟩
  simp only at e1 e2
  have hsr:=(Zh (m:=400) ⟨i1,i2,fun x hx=>(i3 x hx).2⟩ ⟨k,n,t,d⟩).srt
  refine ⟨?_,h1.trans e1⟩
  by_cases c0:c=0
  ·rw [if_pos c0] at h2
   exact WN h2.1 h2.2 e2 hsr
  ·rw [if_neg c0] at h2
   have:=Qb (fs:=fs) (x:=⟨k,n,t,d⟩) (by rw [← e1,← h1]; exact c0)
   rw [h2]
   exact congrArg (List.map pr) this.symm
 ·rw [if_neg g] at h ⊢
  exact ⟨h.2,h.1⟩
end Go.Vm
