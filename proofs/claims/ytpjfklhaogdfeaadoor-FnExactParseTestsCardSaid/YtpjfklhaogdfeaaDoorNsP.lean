/- impl.ParseTests as a contract of the abstract machine: its answer is a row of rows of its own. -/
import Derived.Test.YtpjfklhaogdfeaaDoorNsW
import Derived.Test.YtpjfklhaogdfeaaDoorLayC
set_option linter.all false
set_option maxRecDepth 100000
namespace Go.Vm
open Go.Proofs Go.RowKit Go.Lib
variable [Gl] [GlTab]
theorem g9 {w:World} {b:Nat} {e:TypeId} {sz n:Nat} {v:Value} {xs:List Value} (h:w.ownsRow 0 e sz v n xs) (hb:∀ k,v.ownBlock=some k→b ≤ k):w.ownsRow b e sz v n xs:=by
 refine ⟨h.1,?_⟩
 rcases h.2 with hn | ⟨g,cap,cur,rfl,h1,rest⟩
 ·exact .inl hn
 ·exact .inr ⟨g,cap,cur,rfl,hb g rfl,rest⟩
theorem jg {sep:ByteArray}:∀ (k:Nat) (s x:ByteArray),x ∈ Lib.splitB sep 0 k s→x.size ≤ s.size
 | 0,s,x,h=>by simp only [Lib.splitB_zero,List.mem_singleton] at h; subst h; exact Nat.le_refl _
 | k+1,s,x,h=>by
   unfold Lib.splitB at h
   split at h
   ·simp only [List.mem_singleton] at h; subst h; exact Nat.le_refl _
   ·rcases List.mem_cons.1 h with rfl | h
    ·rw [ByteArray.size_extract]; omega
    ·have:=jg k _ _ h
     rw [ByteArray.size_extract] at this; omega
theorem Ux (s sep:List UInt8):(Lib.cut s sep).1.length ≤ s.length∧(Lib.cut s sep).2.1.length ≤ s.length:=by
 unfold Lib.cut
 split
 ·simp only [List.length_take,List.length_drop]; omega
 ·simp
def p8 (A:List UInt8→List Int×List Int×Int) (x:ByteArray):PtLine:=
 ⟨⟨(Lib.cut x.data.toList [32,61,62,32]).1.toArray⟩,⟨(Lib.cut x.data.toList [32,61,62,32]).2.1.toArray⟩,(Lib.cut x.data.toList [32,61,62,32]).2.2,A (Lib.cut x.data.toList [32,61,62,32]).1,A (Lib.cut x.data.toList [32,61,62,32]).2.1⟩
def qN (A:List UInt8→List Int×List Int×Int) (a:List UInt8):List (List Int)×Int×Int:=
 if 50000 < a.length then ([],1,0) else t8 (p8 A) ((Lib.split a [10]).map fun l=>⟨l.toArray⟩) 0 []
theorem ax (a sep:List UInt8):Lib.splitB ⟨sep.toArray⟩ 0 (Lib.countB ⟨a.toArray⟩ ⟨sep.toArray⟩) ⟨a.toArray⟩=(Lib.split a sep).map fun l=>⟨l.toArray⟩:=by
 have el:(Lib.splitB ⟨sep.toArray⟩ 0 (Lib.countB ⟨a.toArray⟩ ⟨sep.toArray⟩) ⟨a.toArray⟩).map (·.data.toList)=Lib.split a sep:=(Lib.splitB_data ⟨sep.toArray⟩ 0 _ ⟨a.toArray⟩).trans rfl
 rw [← el,List.map_map]
 exact (List.map_id _).symm
set_option maxHeartbeats 4000000 in
theorem ZQ (w0:World) (text:ByteArray) (ht:50000 < text.size) (hsz:text.size ≤ 1048576):
  Calls Tryd.prog 5 #[.string text] w0 fun e w'=>e= .returned (.tuple #[.slice none 0 0,.int .i64 1,.int .i64 0])∧w'=w0:=by
 go_enter Tryd.func5,Tryd.ntmps5
 go_wp2
 refine bodyPost_ret (results_tmp3 rfl _ _ _) rfl ?_
 exact ⟨rfl,rfl⟩
set_option maxHeartbeats 4000000 in
theorem jH {Cp:List X→Option XOut} (hp:Sound Tryd.prog 13 Cp) {A:List UInt8→List Int×List Int×Int}
  (hCp:∀ l,l.length ≤ 1048576→Cp [.d (sD l)]=some (.ret (.tup [.agg [zx cI 3 none false (A l).1,zx cI 3 none false (A l).2.1],.d (.int .i64 (A l).2.2)]) []))
  {enc:List UInt8→List X} (henc:∀ a,enc a=[.d (sD a)]) {C:List UInt8→Option XOut}
  (hC:∀ a out,C a=some out→a.length ≤ 1048576∧out= .ret (.tup [.res (.ext 4 34 3) (zb cI (zS (qN A a).1)),.d (.int .i64 (qN A a).2.1),.d (.int .i64 (qN A a).2.2)]) []):
  Sound Tryd.prog 5 (lay enc C):=by
 intro S w args xs bs hx hb out ho
 obtain ⟨a,rfl,ho2⟩:=wY ho
 obtain ⟨ha,rfl⟩:=hC _ _ ho2
 rw [henc] at hx ⊢
 obtain ⟨v,r0,bs1,bs2,hargs,rfl,⟨rfl,hv⟩,rfl,rfl⟩:=hx
 simp only [sD,RD] at hv
 subst hv
 obtain rfl:args=#[.string ⟨a.toArray⟩]:=by cases args; simp_all
 refine ⟨xP Tryd.func5 (by kernel_rfl) (by kernel_rfl) _ _,?_⟩
 have hG:Gl.G ≤ w.heap.size∧∀ b,b < Gl.G→w.heap[b]? =Gl.g b:=⟨hb.2.1,fun b h=>(hb.2.2 b h).1⟩
 have hG':∀ W,Below w.heap.size w W→∀ b,b < Gl.G→W.heap[b]? =Gl.g b:=fun W hB b h=>(hB.block b (Nat.lt_of_lt_of_le h hG.1)).trans (hG.2 b h)
 have hfin:∀ (v:Value) (m:Nat) (ls:List (List Int)) (c l:Int) (w':World),PtSt w v m ls w'→
   ∃ S',w'.os=w.os∧w'.tape=w.tape∧w'.output=w.output∧w.heap.size ≤ w'.heap.size∧(∀ b,b < w.heap.size→b ∉ ([]++[]:List Nat)→w'.heap[b]? =w.heap[b]? ∧S' b=S b)∧
     io w (z8 [.d (sD a)] (#[.string ⟨a.toArray⟩]:Array Value).toList) S' w' (.returned (.tuple #[v,.int .i64 c,.int .i64 l])) (.ret (.tup [.res (.ext 4 34 3) (zb cI (zS ls)),.d (.int .i64 c),.d (.int .i64 l)]) []):=by
  intro v m ls c l w' hS
  obtain ⟨us,hown,hus,hrows,hnd⟩:=hS.own
  have hown0:=rF hown (Nat.zero_le _)
  have hf:=tf hown0
  have hge:∀ b ∈ xr 4 w' v,w.heap.size ≤ b:=by
   intro b hbm
   rw [hf] at hbm
   rcases List.mem_append.1 hbm with h | h
   ·exact (hown.lt b (by simpa using h)).1
   ·obtain ⟨u,hu,q⟩:=List.mem_flatMap.1 h
    obtain ⟨r,hr,rfl⟩:=List.getElem_of_mem hu
    exact ((hrows r _ ls[r] (List.getElem?_eq_getElem hr) (List.getElem?_eq_getElem (by omega))).lt b (by simpa using q)).1
  refine ⟨fun b=>if b < w.heap.size then S b else 0,hS.below.os,hS.below.tape,hS.below.output,hS.below.size,fun b hb1 _=>⟨hS.below.block b hb1,if_pos hb1⟩,_,xr 4 w' v,[],rfl,?_,?_,hge,rfl,?_,rfl,rfl⟩
  ·refine ⟨_,rfl,_,_,xr 4 w' v,[],rfl,(List.append_nil _).symm,⟨zZ (zS ls),⟨m,us,hown0,lW hus fun r u l h1 h2=>rF (hrows r u l h1 h2) (Nat.zero_le _),by rw [hf]; exact hnd⟩,rdl_intsV.2 rfl,rfl,fun b hbm=>if_neg (Nat.not_lt.2 (hge b hbm))⟩,_,_,[],[],rfl,rfl,⟨rfl,by simp only [RD]⟩,_,_,[],[],rfl,rfl,⟨rfl,by simp only [RD]⟩,rfl,rfl⟩
  ·simp only [List.flatMap_nil,List.append_nil]
   rw [hf]; exact hnd
  ·simp only [ParOK]
   intro vs hv
   injection hv with hv
   subst hv
   simp only [ParOKs,ParOK,and_self]
 by_cases h50:50000 < a.length
 ·have e1:qN A a=([],1,0):=if_pos h50
  rw [e1]
  refine (ZQ w ⟨a.toArray⟩ (by simpa [ByteArray.size] using h50) (by simpa [ByteArray.size] using ha)).mono ?_
  rintro e w' ⟨rfl,rfl⟩
  exact hfin _ 0 [] 1 0 _ (lP (Below.refl _ _))
 ·have e1:qN A a=t8 (p8 A) ((Lib.split a [10]).map fun l=>⟨l.toArray⟩) 0 []:=if_neg h50
  rw [e1,← ax]
  have hs1:1 ≤ (⟨([10]:List UInt8).toArray⟩:ByteArray).size:=by decide
  have hsz:(⟨a.toArray⟩:ByteArray).size=a.length:=by simp [ByteArray.size]
  have hcl:=Lib.countB_le ⟨([10]:List UInt8).toArray⟩ hs1 _ ⟨a.toArray⟩ (Nat.le_refl _)
  have hall:=Lib.splitB_all ⟨([10]:List UInt8).toArray⟩ hs1 0 _ ⟨a.toArray⟩ rfl
  have hlines:∀ x ∈ Lib.splitB ⟨([10]:List UInt8).toArray⟩ 0 (Lib.countB ⟨a.toArray⟩ ⟨([10]:List UInt8).toArray⟩) ⟨a.toArray⟩,x.size ≤ 50000:=fun x hx=>by
   have:=jg _ _ _ hx
   omega
  refine (Zu w ⟨a.toArray⟩ (Lib.splitB ⟨([10]:List UInt8).toArray⟩ 0 (Lib.countB ⟨a.toArray⟩ ⟨([10]:List UInt8).toArray⟩) ⟨a.toArray⟩) (p8 A) hG ?_ ?_ ?_ (by omega) (by omega)).mono ?_
  ·intro W hB
   obtain ⟨m,hm⟩:=GlTab.ml W (hG' W hB)
   refine (Any.strings_Split Go.Proofs.Tryd.lays146 (by kernel_rfl) ⟨a.toArray⟩ ⟨([10]:List UInt8).toArray⟩ m W (by omega) hm hs1).mono ?_
   rintro e w' ⟨he,rfl⟩
   refine ⟨W.heap.size,0,_,by rw [hall]; exact he,(Below.refl _ W).alloc (Nat.le_refl _) _,Nat.le_refl _,fun t x ht=>?_⟩
   rw [Nat.zero_add,wT (heap_alloc_new W _),← Array.getElem?_toList]
   simp [ht]
  ·intro W x hB hx
   obtain ⟨m,hm⟩:=GlTab.ml W (hG' W hB)
   refine (Any.strings_Cut Go.Proofs.Tryd.lays145 x ⟨([32,61,62,32]:List UInt8).toArray⟩ m W (by have:=hlines x hx; omega) hm).mono ?_
   rintro e w' ⟨he,n,rfl⟩
   exact ⟨he,⟨rfl,rfl,rfl,Nat.le_refl _,fun _ _=>rfl⟩⟩
  ·rintro W s r hB ⟨x,hx,hsr⟩
   have hxl:x.data.toList.length ≤ 50000:=by rw [Array.length_toList]; exact hlines x hx
   have hsr':∃ l:List UInt8,l.length ≤ 1048576∧s=⟨l.toArray⟩∧r=A l:=by
    have hc:=Ux x.data.toList [32,61,62,32]
    rcases hsr with ⟨rfl,rfl⟩ | ⟨rfl,rfl⟩
    ·exact ⟨_,by omega,rfl,rfl⟩
    ·exact ⟨_,by omega,rfl,rfl⟩
   obtain ⟨l,hl,rfl,rfl⟩:=hsr'
   have hxs:RXs (fun _=>0) W [.d (sD l)] (#[.string ⟨l.toArray⟩]:Array Value).toList []:=⟨_,_,[],[],rfl,rfl,⟨rfl,by simp only [sD,RD]⟩,rfl,rfl⟩
   have hc:=hp (fun _=>0) W #[.string ⟨l.toArray⟩] _ _ hxs ⟨List.nodup_nil,Nat.le_trans hG.1 hB.size,fun b h=>⟨hG' W hB b h,by simp⟩⟩ _ (hCp l hl)
   refine hc.2.mono ?_
   rintro e w' ⟨S',o1,o2,o3,o4,o5,v,b1,ls',rfl,hv,hnd,hge,hro,hpar,hmv⟩
   obtain ⟨vs,rfl,v1,r1,b2,b3,hvs,hb1,⟨us,rfl,u1,r2,b4,b5,hus,hb2,⟨xs1,k1,k2,k3,k4,k5⟩,u2,r3,b6,b7,hr2,hb5,⟨xs2,q1,q2,q3,q4,q5⟩,rfl,rfl⟩,v2,r4,b8,b9,hr1,hb3,⟨rfl,hv2⟩,rfl,rfl⟩:=hv
   simp only [RD] at hv2
   subst hv2 hr1 hr2 hb3 hb5
   obtain rfl:vs=#[.agg us,.int .i64 (A l).2.2]:=by cases vs; simp_all
   obtain rfl:us=#[u1,u2]:=by cases us; simp_all
   rw [rdl_intsV] at k2 q2
   subst k2 q2
   have hls:ls'=[]:=hro
   subst hls
   simp only [List.flatMap_nil,List.append_nil] at hnd hb1 hb2
   subst hb1 hb2 k3 q3
   refine ⟨u1,u2,rfl,⟨o1,o2,o3,o4,fun b hb1=>(o5 b hb1 (by simp)).1⟩,g9 ?_ fun k hk=>hge k ?_,g9 ?_ fun k hk=>hge k ?_,hnd⟩
   ·exact k1
   ·simp [hk]
   ·exact q1
   ·simp [hk]
  ·rintro e w' ⟨v,m,rfl,hS⟩
   exact hfin v m _ _ _ w' hS
end Go.Vm
