/- Rows that own rows: marking, reading. -/
import Derived.Test.YtpjfklhaogdfeaaDoorVmShelf
import Derived.Test.YtpjfklhaogdfeaaDoorProg
import Derived.Test.YtpjfklhaogdfeaaDoorVmKind
import Derived.KernelRfl
import Derived.WalkKit
import Derived.ProofKit
import Derived.Sort.WalkA
import Derived.Below
import Derived.WalkSmall
set_option linter.all false
set_option maxRecDepth 100000
namespace Go.Vm
open Go.Proofs Go.RowKit Go.Lib
structure Put (p:Prop):Prop where
 out:p
def zZ (l:List Int):List Value:=l.map (.int .i64)
def sb (k:Int):Nat→List Int
 | 0=>[]
 | n+1=>k :: sb (k+1) n
theorem jN:∀ (n:Nat) (k:Int),(sb k n).length=n
 | 0,k=>rfl
 | n+1,k=>by simp [sb,jN n]
def zS:List (List Int)→List Int
 | []=>[]
 | l :: r=>(l.length:Int) :: (l++zS r)
def xl:List (List Int)→Int→List (List Int)
 | [],_=>[]
 | l :: r,k=>sb k l.length :: xl r (k+l.length)
def tj:List (List Int)→Int→Int
 | [],k=>k
 | l :: r,k=>tj r (k+l.length)
theorem ii:∀ (ls:List (List Int)) (k:Int),(xl ls k).length=ls.length
 | [],_=>rfl
 | l :: ls,k=>by simp [xl,ii ls]
theorem pc:∀ {a b:List (List Int)},zS a=zS b→a=b
 | [],[],_=>rfl
 | [],_ :: _,h=>by simp [zS] at h
 | _ :: _,[],h=>by simp [zS] at h
 | x :: a,y :: b,h=>by
   simp only [zS,List.cons.injEq] at h
   obtain ⟨h1,h2⟩:=h
   obtain ⟨rfl,h3⟩:=List.append_inj h2 (by omega)
   rw [pc h3]
variable [Gl]
theorem rdl_intsV {S:Nat→Nat} {w:World}:∀ {l:List Int} {xs:List Value},RDl S w (zf cI l) xs ↔ xs=zZ l
 | [],xs=>by rw [show zf cI ([]:List Int)=[] from rfl]; simp [RDl,zZ]
 | x :: l,xs=>by
   rw [show zf cI (x :: l)= .int .i64 x :: zf cI l from rfl]
   show (∃ v r,xs=v :: r∧RD S w (.int .i64 x) v∧RDl S w (zf cI l) r) ↔ _
   simp only [RD,zZ,List.map_cons]
   constructor
   ·rintro ⟨v,r,rfl,rfl,h⟩
    rw [rdl_intsV.1 h]; rfl
   ·rintro rfl
    exact ⟨_,_,rfl,rfl,rdl_intsV.2 rfl⟩
theorem Up {C:List X→Option XOut} (hv:Sound Tryd.prog 15 C)
  (hC:∀ (l:List Int) (k:Int),l.length ≤ 1048576→0 ≤ k→k ≤ 16777216→C [zx cI 3 none false l,.d (.int .i64 k)]=some (.ret (.d (.int .i64 (k+l.length))) [[zb cI (sb k l.length)]]))
  (w:World) (u:Value) (l:List Int) (k:Int) (hu:w.ownsRow 0 3 1 u l.length (zZ l)) (hl:l.length ≤ 1048576) (hk:0 ≤ k) (hk2:k ≤ 16777216) (hb:iJ w u.ownBlock.toList):
  Calls Tryd.prog 15 #[u,.int .i64 k] w fun e w'=>e= .returned (.int .i64 (k+l.length))∧w'.os=w.os∧w'.tape=w.tape∧w'.output=w.output∧w.heap.size ≤ w'.heap.size∧
   (∀ b,b < w.heap.size→u.ownBlock ≠ some b→w'.heap[b]? =w.heap[b]?)∧w'.ownsRow 0 3 1 u l.length (zZ (sb k l.length)):=by
 have hx:RXs (fun _=>0) w [zx cI 3 none false l,.d (.int .i64 k)] [u,.int .i64 k] (u.ownBlock.toList++[]):=by
  refine ⟨_,_,_,_,rfl,rfl,⟨zZ l,hu,rdl_intsV.2 rfl,rfl,fun _ _=>rfl,fun k h=>by cases h⟩,_,_,[],[],rfl,rfl,⟨rfl,rfl⟩,rfl,rfl⟩
 have hc:=hv (fun _=>0) w #[u,.int .i64 k] _ _ hx (by simpa using hb) _ (hC l k hl hk hk2)
 refine hc.2.mono ?_
 rintro e w' ⟨S',o1,o2,o3,o4,o5,v,b1,ls',rfl,⟨rfl,hv1⟩,hnd,hge,hro,hpar,hmv⟩
 simp only [RD] at hv1
 subst hv1
 refine ⟨rfl,o1,o2,o3,o4,fun b hb1 hb2=>(o5 b hb1 (by simpa using hb2)).1,?_⟩
 obtain ⟨l0,r0,rfl,h1,h2⟩:=hro
 simp only [s4] at h2
 subst h2
 simp only [zx,z8,ti,List.append_nil,List.cons_append,List.nil_append,Mvs] at hmv
 obtain ⟨l1,r1,l1',r1',e1,e2,h3,h4⟩:=hmv
 obtain ⟨rfl,rfl⟩:Lent.row u 3 cI.sz=l1∧r1=[]:=by
  simp only [List.cons.injEq] at e1
  exact ⟨e1.1,e1.2.symm⟩
 obtain ⟨rfl,rfl⟩:l0=l1'∧r1'=[]:=by
  simp only [List.cons.injEq] at e2
  exact ⟨e2.1,e2.2.symm⟩
 obtain ⟨v',rfl,h5,h6⟩:=h3
 obtain rfl:v'=u:=by
  rcases h5 with h5 | ⟨n,cells,h5⟩
  ·exact h5
  ·simp at h5
 obtain ⟨n,cells,xs,h7,h8,h9,h10⟩:=h1
 have h11:zb cI (sb k l.length)= .lst n cells:=by
  rcases h7 with h7 | h7
  ·simpa using h7
  ·simp at h7
 have h12:zb cI (sb k l.length)= .lst l.length (zf cI (sb k l.length)):=by
  unfold zb; rw [jN]
 rw [h12] at h11
 injection h11 with h13 h14
 subst h13 h14
 rw [rdl_intsV.1 h9] at h8
 exact h8
def kAt (len:Nat→Nat) (k:Int):Nat→Int
 | 0=>k
 | q+1=>kAt len k q+len q
theorem Wb (len:Nat→Nat) (k:Int):∀ q,k ≤ kAt len k q
 | 0=>Int.le_refl _
 | q+1=>by have:=Wb len k q; simp only [kAt]; omega
theorem eP (len:Nat→Nat) (k:Int) (q:Nat):∀ m,kAt len k q ≤ kAt len k (q+m)
 | 0=>Int.le_refl _
 | m+1=>by have:=eP len k q m; rw [← Nat.add_assoc]; simp only [kAt]; omega
structure MkSt (w0:World) (U:Nat→Value) (len:Nat→Nat) (L:Nat→List Int) (k:Int) (N q:Nat) (w:World):Prop where
 os:w.os=w0.os
 tape:w.tape=w0.tape
 output:w.output=w0.output
 size:w0.heap.size ≤ w.heap.size
 rest:∀ b,b < w0.heap.size→(∀ r,r < N→(U r).ownBlock ≠ some b)→w.heap[b]? =w0.heap[b]?
 row:∀ r,r < N→w.ownsRow 0 3 1 (U r) (len r) (zZ (if r < q then sb (kAt len k r) (len r) else L r))
theorem YD {C:List X→Option XOut} (hv:Sound Tryd.prog 15 C)
  (hC:∀ (l:List Int) (k:Int),l.length ≤ 1048576→0 ≤ k→k ≤ 16777216→C [zx cI 3 none false l,.d (.int .i64 k)]=some (.ret (.d (.int .i64 (k+l.length))) [[zb cI (sb k l.length)]]))
  {w0:World} {U:Nat→Value} {len:Nat→Nat} {L:Nat→List Int} {k:Int} {N q:Nat} {w:World} (h:MkSt w0 U len L k N q w) (hq:q < N) (hL:∀ r,r < N→(L r).length=len r) (hlen:∀ r,r < N→len r ≤ 1048576) (hk:0 ≤ k) (hkN:kAt len k N ≤ 16777216)
  (hd:∀ r s,r < N→s < N→r ≠ s→∀ b,(U r).ownBlock=some b→(U s).ownBlock ≠ some b) (hG:Gl.G ≤ w0.heap.size∧∀ b,b < Gl.G→w0.heap[b]? =Gl.g b) (hU:∀ r,r < N→∀ b,(U r).ownBlock=some b→Gl.G ≤ b):
  Calls Tryd.prog 15 #[U q,.int .i64 (kAt len k q)] w fun e w'=>e= .returned (.int .i64 (kAt len k (q+1)))∧MkSt w0 U len L k N (q+1) w':=by
 have hr:=h.row q hq
 rw [if_neg (by omega),← hL q hq] at hr
 have hkq:kAt len k q ≤ 16777216:=by
  have:=eP len k q (N - q)
  rw [show q+(N - q)=N by omega] at this
  omega
 refine (Up hv hC w (U q) (L q) (kAt len k q) hr (by rw [hL q hq]; exact hlen q hq) (Int.le_trans hk (Wb len k q)) hkq ?_).mono ?_
 ·refine ⟨by cases (U q).ownBlock <;> simp,Nat.le_trans hG.1 h.size,fun b hb=>⟨?_,fun hm=>?_⟩⟩
  ·rw [h.rest b (Nat.lt_of_lt_of_le hb hG.1) fun r hr q'=>by have:=hU r hr b q'; omega]
   exact hG.2 b hb
  ·have:=hU q hq b (by simpa using hm)
   omega
 ·rintro e w' ⟨rfl,o1,o2,o3,o4,o5,o6⟩
  rw [hL q hq] at o6
  refine ⟨by rw [hL q hq]; rfl,o1.trans h.os,o2.trans h.tape,o3.trans h.output,Nat.le_trans h.size o4,fun b hb hn=>(o5 b (Nat.lt_of_lt_of_le hb h.size) (hn q hq)).trans (h.rest b hb hn),fun r hr'=>?_⟩
  by_cases e:r=q
  ·subst e
   rw [if_pos (by omega)]
   exact o6
  ·have:=h.row r hr'
   have hx:(if r < q+1 then sb (kAt len k r) (len r) else L r)=(if r < q then sb (kAt len k r) (len r) else L r):=by
    by_cases c:r < q
    ·rw [if_pos c,if_pos (by omega)]
    ·rw [if_neg c,if_neg (by omega)]
   rw [hx]
   exact oC this fun b hb=>o5 b (iY this hb) (fun q'=>hd r q hr' hq e b hb q')
set_option maxHeartbeats 4000000 in
theorem ZP (w0:World) (U:Nat→Value) (len:Nat→Nat) (L:Nat→List Int) (k:Int) (n cap g:Nat)
  (hstep:∀ q w,q < n * 4→MkSt w0 U len L k (n * 4) q w→Calls Tryd.prog 15 #[U q,.int .i64 (kAt len k q)] w fun e w'=>e= .returned (.int .i64 (kAt len k (q+1)))∧MkSt w0 U len L k (n * 4) (q+1) w')
  (hcell:∀ q w,q < n * 4→∀ q',MkSt w0 U len L k (n * 4) q' w→w.cell? ⟨g,q,none⟩=some (U q)) (h0:MkSt w0 U len L k (n * 4) 0 w0) (hn:n ≤ 1048576):
  Calls Tryd.prog 7 #[.slice (some ⟨g,0,none⟩) n cap,.int .i64 k] w0 fun e w'=>e= .returned (.int .i64 (kAt len k (n * 4)))∧MkSt w0 U len L k (n * 4) (n * 4) w':=by
 go_enter Tryd.func7,Tryd.ntmps7
 go_wp2
 go_loopw [1,5] (fun vk vi wr=>∃ i:Nat,vi= .int .i64 i∧vk= .int .i64 (kAt len k (i * 4))∧i ≤ n∧MkSt w0 U len L k (n * 4) (i * 4) wr) (fun _ vi _=>n - (Proofs.intOf vi).toNat)
 case atStart=>exact ⟨0,by go_num,rfl,by omega,h0⟩
 case round=>
  obtain ⟨i,rfl,rfl,hi,hS⟩:=hrel
  by_cases hlt:i < n
  ·have c0:=hcell (i * 4) wr (by omega) _ hS
   have s0:=hstep (i * 4) wr (by omega) hS
   have A0:Put _:=⟨hstep⟩
   have A1:Put _:=⟨hcell⟩
   have A2:Put _:=⟨h0⟩
   have A3:Put _:=⟨hS⟩
   clear hstep hcell h0 hS
   go_wp2_with (go_at_call 15; refine s0.mono ?_; rintro e W1 ⟨rfl,hS1⟩; have c1:=A1.out (i * 4+1) W1 (by omega) _ hS1; have s1:=A0.out (i * 4+1) W1 (by omega) hS1; have B1:Put _:=⟨hS1⟩; clear hS1 s0)
   go_wp2_with (go_at_call 15; refine s1.mono ?_; rintro e W2 ⟨rfl,hS2⟩; have c2:=A1.out (i * 4+1+1) W2 (by omega) _ hS2; have s2:=A0.out (i * 4+1+1) W2 (by omega) hS2; have B2:Put _:=⟨hS2⟩; clear hS2 s1)
   go_wp2_with (go_at_call 15; refine s2.mono ?_; rintro e W3 ⟨rfl,hS3⟩; have c3:=A1.out (i * 4+1+1+1) W3 (by omega) _ hS3; have s3:=A0.out (i * 4+1+1+1) W3 (by omega) hS3; have B3:Put _:=⟨hS3⟩; clear hS3 s2)
   go_wp2_with (go_at_call 15; refine s3.mono ?_; rintro e W4 ⟨rfl,hS4⟩; have B4:Put _:=⟨hS4⟩; clear hS4 s3)
   go_roundw
   case rel=>exact ⟨i+1,by go_num,by congr 2; omega,by omega,by have:=B4.out; rwa [show (i+1) * 4=i * 4+1+1+1+1 by omega]⟩
   case measure=>simp [Proofs.intOf]; omega
  ·obtain rfl:i=n:=by omega
   go_wp2
   go_ret
   exact ⟨rfl,hS⟩
set_option maxHeartbeats 4000000 in
theorem Z2 (w0:World) (k:Int):Calls Tryd.prog 7 #[.slice none 0 0,.int .i64 k] w0 fun e w'=>e= .returned (.int .i64 k)∧w'=w0:=by
 go_enter Tryd.func7,Tryd.ntmps7
 go_wp2
 go_loopw [1,5] (fun vk vi wr=>vi= .int .i64 0∧vk= .int .i64 k∧wr=w0) (fun _ vi _=>0)
 case atStart=>exact ⟨by go_num,rfl,rfl⟩
 case round=>
  obtain ⟨rfl,rfl,rfl⟩:=hrel
  go_wp2
  go_ret
  exact ⟨rfl,rfl⟩
theorem Wf:∀ {a b:List Int},zZ a=zZ b→a=b
 | [],[],_=>rfl
 | [],_ :: _,h=>by simp [zZ] at h
 | _ :: _,[],h=>by simp [zZ] at h
 | x :: a,y :: b,h=>by
   simp only [zZ,List.map_cons,List.cons.injEq,Value.int.injEq,true_and] at h
   rw [h.1,Wf (a:=a) (b:=b) h.2]
theorem k8:∀ {f:List Int} {xs r:List Value},zZ f=xs++r→∃ a b,f=a++b∧xs=zZ a∧r=zZ b
 | f,[],r,h=>⟨[],f,rfl,rfl,by simpa using h.symm⟩
 | [],x :: xs,r,h=>by simp [zZ] at h
 | y :: f,x :: xs,r,h=>by
   simp only [zZ,List.map_cons,List.cons_append,List.cons.injEq] at h
   obtain ⟨a,b,rfl,e1,e2⟩:=k8 (f:=f) h.2
   exact ⟨y :: a,b,rfl,by rw [← h.1,e1]; rfl,e2⟩
theorem l8 {w:World} {e:TypeId}:∀ {us:List Value} {f:List Int},sG w e us (zZ f)→∃ ls:List (List Int),f=zS ls∧ls.length=us.length∧∀ (r:Nat) (u:Value) (l:List Int),us[r]? =some u→ls[r]? =some l→w.ownsRow 0 e 1 u l.length (zZ l)
 | [],f,h=>by
   have:f=[]:=by cases f <;> simp_all [sG,zZ]
   subst this
   exact ⟨[],rfl,rfl,fun r u l h=>by simp at h⟩
 | u :: us,f,⟨n,xs,r,h1,h2,h3⟩=>by
   cases f with
   | nil=>simp [zZ] at h2
   | cons y f=>
     simp only [zZ,List.map_cons,List.cons.injEq,Value.int.injEq,true_and] at h2
     obtain ⟨rfl,h2⟩:=h2
     obtain ⟨a,b,rfl,rfl,rfl⟩:=k8 h2
     obtain ⟨ls,rfl,h4,h5⟩:=l8 h3
     have hn:n=a.length:=by have:=h1.1; simpa [zZ] using this.symm
     subst hn
     refine ⟨a :: ls,rfl,by simp [h4],fun r u' l hu hl=>?_⟩
     cases r with
     | zero=>simp only [List.getElem?_cons_zero,Option.some.injEq] at hu hl; subst hu hl; exact h1
     | succ r=>simp only [List.getElem?_cons_succ] at hu hl; exact h5 r u' l hu hl
theorem lW {w:World} {e:TypeId}:∀ {us:List Value} {ls:List (List Int)},ls.length=us.length→(∀ (r:Nat) (u:Value) (l:List Int),us[r]? =some u→ls[r]? =some l→w.ownsRow 0 e 1 u l.length (zZ l))→sG w e us (zZ (zS ls))
 | [],[],_,_=>rfl
 | [],_ :: _,h,_=>by simp at h
 | _ :: _,[],h,_=>by simp at h
 | u :: us,l :: ls,h,hr=>⟨l.length,zZ l,zZ (zS ls),hr 0 u l rfl rfl,by simp [zS,zZ],lW (by simpa using h) fun r u' l' hu hl=>hr (r+1) u' l' hu hl⟩
theorem j6:∀ {ls:List (List Int)} {k:Int} {r:Nat} {l:List Int},ls[r]? =some l→(xl ls k)[r]? =some (sb (kAt (fun q=>(ls.getD q []).length) k r) l.length)
 | x :: ls,k,0,l,h=>by
   simp only [List.getElem?_cons_zero,Option.some.injEq] at h
   subst h
   rfl
 | x :: ls,k,r+1,l,h=>by
   simp only [List.getElem?_cons_succ] at h
   have ih:=j6 (k:=k+x.length) h
   simp only [xl,List.getElem?_cons_succ]
   rw [ih]
   congr 2
   have:∀ q,kAt (fun q=>(ls.getD q []).length) (k+x.length) q=kAt (fun q=>((x :: ls).getD q []).length) k (q+1):=by
    intro q
    induction q with
    | zero=>rfl
    | succ q ihq=>simp only [kAt] at ihq ⊢; rw [ihq]; rfl
   exact this r
theorem jz:∀ (ls:List (List Int)) (k:Int),tj ls k=kAt (fun q=>(ls.getD q []).length) k ls.length
 | [],_=>rfl
 | x :: ls,k=>by
   rw [tj,jz ls]
   have:∀ q,kAt (fun q=>(ls.getD q []).length) (k+x.length) q=kAt (fun q=>((x :: ls).getD q []).length) k (q+1):=by
    intro q
    induction q with
    | zero=>rfl
    | succ q ihq=>simp only [kAt] at ihq ⊢; rw [ihq]; rfl
   exact this _
theorem fP {us:List Value} (h:(us.flatMap fun u=>u.ownBlock.toList).Nodup) {r s:Nat} {u v:Value} (hu:us[r]? =some u) (hv:us[s]? =some v) (hrs:r ≠ s) {b:Nat} (hb:u.ownBlock=some b):v.ownBlock ≠ some b:=by
 induction us generalizing r s with
 | nil=>simp at hu
 | cons x us ih=>
   rw [List.flatMap_cons,List.nodup_append] at h
   obtain ⟨_,h2,h3⟩:=h
   cases r with
   | zero=>
     simp only [List.getElem?_cons_zero,Option.some.injEq] at hu
     subst hu
     cases s with
     | zero=>omega
     | succ s=>
       simp only [List.getElem?_cons_succ] at hv
       intro q
       exact h3 b (by simp [hb]) b (List.mem_flatMap.2 ⟨v,List.mem_of_getElem? hv,by simp [q]⟩) rfl
   | succ r=>
     simp only [List.getElem?_cons_succ] at hu
     cases s with
     | zero=>
       simp only [List.getElem?_cons_zero,Option.some.injEq] at hv
       subst hv
       intro q
       exact h3 b (by simp [q]) b (List.mem_flatMap.2 ⟨u,List.mem_of_getElem? hu,by simp [hb]⟩) rfl
     | succ s=>
       simp only [List.getElem?_cons_succ] at hv
       exact ih h2 hu hv (by omega)
theorem oU {w:World} {bs:Nat} {e:TypeId} {sz:Nat} {v:Value} {n:Nat} {xs:List Value} (h:w.ownsRow bs e sz v n xs):∃ p m k,v= .slice p m k:=by
 rcases h.2 with ⟨h,_⟩ | ⟨g,cap,cur,h,_⟩ <;> exact ⟨_,_,_,h⟩
theorem td {w w':World} {bs:Nat} {e:TypeId} {sz n:Nat} {v:Value} {xs:List Value} (h:w.ownsRow bs e sz v n xs) (hb:∀ b,v.ownBlock=some b→w'.heap[b]? =w.heap[b]?):w'.ownsRow bs e sz v n xs:=by
 refine ⟨h.1,?_⟩
 rcases h.2 with hn | ⟨g,cap,cur,rfl,h1,h2,rest⟩
 ·exact .inl hn
 ·exact .inr ⟨g,cap,cur,rfl,h1,by rw [hb g rfl]; exact h2,rest⟩
theorem kV {w:World} {bs:Nat} {e:TypeId} {sz:Nat} {v:Value} {n:Nat} {xs:List Value} (h:w.ownsRow bs e sz v n xs):∃ p k,v= .slice p n k:=by
 rcases h.2 with ⟨h1,h2⟩ | ⟨g,cap,cur,h1,_⟩
 ·subst h2; exact ⟨_,_,h1⟩
 ·exact ⟨_,_,h1⟩
theorem wT {w:World} {b:Nat} {cs:Array Value} {t:TypeId} {fr:Nat×Nat} (h:w.heap[b]? =some (.cells cs t fr)) (k:Nat):w.cell? ⟨b,k,none⟩=cs[k]? :=by simp [World.cell?,h]
theorem sC {w w':World} {g:Nat} (h:w'.heap[g]? =w.heap[g]?) (q:Nat):w'.cell? ⟨g,q,none⟩=w.cell? ⟨g,q,none⟩:=by simp [World.cell?,h]
set_option maxHeartbeats 4000000 in
theorem iG {Cm:List X→Option XOut} (hv:Sound Tryd.prog 15 Cm)
  (hCm:∀ (l:List Int) (k:Int),l.length ≤ 1048576→0 ≤ k→k ≤ 16777216→Cm [zx cI 3 none false l,.d (.int .i64 k)]=some (.ret (.d (.int .i64 (k+l.length))) [[zb cI (sb k l.length)]]))
  {enc:List Int×Int→List X} (henc:∀ a,enc a=[.res (.ext 4 34 3) (zb cI a.1),.d (.int .i64 a.2)]) {C:List Int×Int→Option XOut}
  (hC:∀ a out,C a=some out→∃ ls,a.1=zS ls∧(∀ l ∈ ls,l.length ≤ 1048576)∧ls.length ≤ 1048576∧0 ≤ a.2∧tj ls a.2 ≤ 16777216∧out= .ret (.d (.int .i64 (tj ls a.2))) [[zb cI (zS (xl ls a.2))]]):
  Sound Tryd.prog 7 (lay enc C):=by
 intro S w args xs bs hx hb out ho
 obtain ⟨⟨f,k⟩,rfl,ho2⟩:=wY ho
 obtain ⟨ls,hf,c1,c2,c3,c4,rfl⟩:=hC _ _ ho2
 simp only at hf c3 c4
 subst hf
 rw [henc] at hx
 obtain ⟨v,r0,bs1,bs2,hargs,rfl,⟨vs,hH,hD,hbs,hS0⟩,v2,r1,bs3,bs4,rfl,rfl,⟨rfl,hd⟩,rfl,rfl⟩:=hx
 simp only [RD] at hd
 subst hd
 obtain rfl:args=#[v,.int .i64 k]:=by cases args; simp_all
 refine ⟨xP Tryd.func7 (by kernel_rfl) (by kernel_rfl) _ _,?_⟩
 have hD':vs=zZ (zS ls):=rdl_intsV.1 hD
 subst hD'
 obtain ⟨n,us,h1,h2,h3⟩:=(show lb 4 _ _ w v _ from hH)
 obtain ⟨ls',e1,e2,hrow⟩:=l8 h2
 obtain rfl:=pc e1
 have hfoot:=tf h1
 have hfin:∀ (e:Ending) (w':World),e= .returned (.int .i64 (tj ls k))→w'.os=w.os→w'.tape=w.tape→w'.output=w.output→w.heap.size ≤ w'.heap.size→
   (∀ b,b < w.heap.size→b ∉ bs1→w'.heap[b]? =w.heap[b]?)→w'.ownsRow 0 34 4 v n us→(∀ (r:Nat) (u:Value) (l:List Int),us[r]? =some u→(xl ls k)[r]? =some l→w'.ownsRow 0 3 1 u l.length (zZ l))→
   ∃ S',w'.os=w.os∧w'.tape=w.tape∧w'.output=w.output∧w.heap.size ≤ w'.heap.size∧(∀ b,b < w.heap.size→b ∉ bs1++([]++[])→w'.heap[b]? =w.heap[b]? ∧S' b=S b)∧
     io w (z8 (enc (zS ls,k)) (#[v,.int .i64 k]:Array Value).toList) S' w' e (.ret (.d (.int .i64 (tj ls k))) [[zb cI (zS (xl ls k))]]):=by
  intro e w' he o1 o2 o3 o4 o5 hown hrows
  subst he
  have hfoot':=tf hown
  have hff:xr 4 w' v=xr 4 w v:=hfoot'.trans hfoot.symm
  refine ⟨S,o1,o2,o3,o4,fun b hb1 hb2=>⟨o5 b hb1 (by simpa using hb2),rfl⟩,_,[],[.res (.ext 4 34 3) v],rfl,⟨rfl,by simp only [RD]⟩,?_,by simp,?_,?_,?_⟩
  ·show ([]++((xr 4 w' v).filter (fun b=>decide (w.heap.size ≤ b))++[])).Nodup
   rw [List.nil_append,List.append_nil,hff]
   exact List.Pairwise.filter _ h3
  ·refine ⟨_,[],rfl,⟨_,zZ (zS (xl ls k)),rfl,⟨n,us,hown,lW (by rw [ii,e2]) hrows,by rw [hff]; exact h3⟩,rdl_intsV.2 rfl,?_⟩,rfl⟩
   intro b hb'
   rw [show (RK.ext 4 34 3).foot w' v=xr 4 w' v from rfl,hff] at hb'
   exact hS0 b (by rw [hbs]; exact hb')
  ·simp [ParOK]
  ·rw [henc]
   refine ⟨_,[],_,[],rfl,rfl,⟨rfl,fun b hb' _=>?_⟩,rfl,rfl⟩
   rw [show (RK.ext 4 34 3).foot w' v=xr 4 w' v from rfl,hff] at hb'
   exact hb'
 rcases h1.2 with ⟨rfl,rfl⟩ | ⟨g,cap,cur,rfl,g1,g2,g3,g4,g5,g6⟩
 ·have hus:us=[]:=List.eq_nil_of_length_eq_zero (by simpa using h1.1)
  subst hus
  have hls:ls=[]:=List.eq_nil_of_length_eq_zero (by simpa using e2)
  subst hls
  refine (Z2 w k).mono ?_
  rintro e w' ⟨rfl,rfl⟩
  exact hfin _ _ rfl rfl rfl rfl (Nat.le_refl _) (fun _ _ _=>rfl) h1 (fun r u l hu=>by simp at hu)
 ·have hlen:us.length=n * 4:=h1.1
  rw [show xr 4 w (.slice (some ⟨g,0,none⟩) n cap)=g :: us.flatMap (fun u=>u.ownBlock.toList) from hfoot] at h3
  have hnd:=(List.nodup_cons.1 h3).2
  have hgn:=(List.nodup_cons.1 h3).1
  have hUs:∀ q,q < n * 4→us[q]? =some (us.getD q (.slice none 0 0)):=fun q hq=>by
   rw [List.getD_eq_getElem?_getD,List.getElem?_eq_getElem (by omega)]; rfl
  have hLs:∀ q,q < n * 4→ls[q]? =some (ls.getD q []):=fun q hq=>by
   rw [List.getD_eq_getElem?_getD,List.getElem?_eq_getElem (by omega)]; rfl
  have hin:∀ q,q < n * 4→∀ b,(us.getD q (.slice none 0 0)).ownBlock=some b→b ∈ bs1:=fun q hq b hb'=>by
   rw [hbs]
   rw [show (RK.ext 4 34 3).foot w (Value.slice (some ⟨g,0,none⟩) n cap)=xr 4 w (Value.slice (some ⟨g,0,none⟩) n cap) from rfl,hfoot]
   exact List.mem_append_right _ (List.mem_flatMap.2 ⟨_,List.mem_of_getElem? (hUs q hq),by rw [hb']; simp⟩)
  have hgne:∀ q,q < n * 4→(us.getD q (.slice none 0 0)).ownBlock ≠ some g:=fun q hq h=>hgn (List.mem_flatMap.2 ⟨_,List.mem_of_getElem? (hUs q hq),by rw [h]; simp⟩)
  have hgl:g < w.heap.size:=(Array.getElem?_eq_some_iff.1 g2).1
  have hG:Gl.G ≤ w.heap.size∧∀ b,b < Gl.G→w.heap[b]? =Gl.g b:=⟨hb.2.1,fun b h=>(hb.2.2 b h).1⟩
  have hU:∀ r,r < n * 4→∀ b,(us.getD r (.slice none 0 0)).ownBlock=some b→Gl.G ≤ b:=fun r hr b hb'=>by
   rcases Nat.lt_or_ge b Gl.G with h | h
   ·exact absurd (List.mem_append_left _ (hin r hr b hb')) (hb.2.2 b h).2
   ·exact h
  have hheap:∀ q' w',MkSt w (fun q=>us.getD q (.slice none 0 0)) (fun q=>(ls.getD q []).length) (fun q=>ls.getD q []) k (n * 4) q' w'→w'.heap[g]? =w.heap[g]? :=fun q' w' h=>h.rest g hgl fun r hr=>hgne r hr
  have h0:MkSt w (fun q=>us.getD q (.slice none 0 0)) (fun q=>(ls.getD q []).length) (fun q=>ls.getD q []) k (n * 4) 0 w:=⟨rfl,rfl,rfl,Nat.le_refl _,fun _ _ _=>rfl,fun r hr=>by rw [if_neg (by omega)]; exact hrow r _ _ (hUs r hr) (hLs r hr)⟩
  refine (ZP w (fun q=>us.getD q (.slice none 0 0)) (fun q=>(ls.getD q []).length) (fun q=>ls.getD q []) k n cap g ?_ ?_ h0 (by omega)).mono ?_
  ·intro q w' hq hS
   refine YD hv hCm hS hq (fun _ _=>rfl) (fun r hr=>c1 _ (List.mem_of_getElem? (hLs r hr))) c3 (by have:=jz ls k; rw [← hlen,← e2,← this]; exact c4) ?_ hG hU
   intro r s hr hs hrs b hb1
   exact fP hnd (hUs r hr) (hUs s hs) hrs hb1
  ·intro q w' hq q' hS
   rw [sC (hheap q' w' hS),wT g2]
   have:=hUs q hq
   rw [← g6,List.getElem?_take_of_lt hq] at this
   rw [g6] at this
   rw [← Array.getElem?_toList]
   exact this
  ·rintro e w' ⟨rfl,hS⟩
   refine hfin _ _ (by rw [jz,e2,hlen]) hS.os hS.tape hS.output hS.size (fun b hb1 hb2=>hS.rest b hb1 fun r hr q=>hb2 (hin r hr b q)) (oC h1 fun b hb'=>by cases hb'; exact hheap _ _ hS) ?_
   intro r u l hu hl
   have hr:r < n * 4:=by
    have:=(List.getElem?_eq_some_iff.1 hu).1
    omega
   have hrow':=hS.row r hr
   rw [if_pos hr] at hrow'
   have hm:=j6 (k:=k) (hLs r hr)
   rw [hl] at hm
   injection hm with hm
   subst hm
   have hu':=hUs r hr
   rw [hu] at hu'
   injection hu' with hu'
   subst hu'
   rw [jN]
   exact hrow'
theorem gx {S:Nat→Nat} {w:World}:∀ (cs:List D) (b o:Nat),(∀ t x,cs[t]? =some x→o+t < S b∧∃ v,w.cell? ⟨b,o+t,none⟩=some v∧RD S w x v)→RDat S w cs b o
 | [],_,_,_=>trivial
 | x :: l,b,o,h=>by
   refine ⟨(h 0 x rfl).1,(h 0 x rfl).2,gx l b (o+1) fun t y ht=>?_⟩
   have:=h (t+1) y (by simpa using ht)
   rw [show o+1+t=o+(t+1) by omega]
   exact this
theorem iw:∀ {l:List Int} {t:Nat} {x:D},(zf cI l)[t]? =some x→∃ y,l[t]? =some y∧x= .int .i64 y
 | [],t,x,h=>by rw [show zf cI ([]:List Int)=[] from rfl] at h; simp at h
 | y :: l,t,x,h=>by
   rw [show zf cI (y :: l)= .int .i64 y :: zf cI l from rfl] at h
   cases t with
   | zero=>simp only [List.getElem?_cons_zero,Option.some.injEq] at h ⊢; exact ⟨y,rfl,h.symm⟩
   | succ t=>simp only [List.getElem?_cons_succ] at h ⊢; exact iw h
theorem OR {S:Nat→Nat} {w:World} {e:TypeId} {u:Value} {l:List Int} (h:w.ownsRow 0 e 1 u l.length (zZ l)) (hS:∀ b,u.ownBlock=some b→maxLen < S b):RD S w (zb cI l) u:=by
 rcases h.2 with ⟨rfl,h2⟩ | ⟨g,cap,cur,rfl,g1,g2,g3,g4,g5,g6⟩
 ·have:l=[]:=List.eq_nil_of_length_eq_zero h2
  subst this
  exact ⟨none,0,rfl,Nat.le_refl _,fun _=>⟨rfl,rfl,rfl⟩,fun p hp=>by cases hp⟩
 ·refine ⟨_,cap,rfl,g3,fun q=>(by cases q),fun p hp=>?_⟩
  cases hp
  refine ⟨.inl rfl,gx _ _ _ fun t x hx=>?_⟩
  obtain ⟨y,hy,rfl⟩:=iw hx
  have hl:=(List.getElem?_eq_some_iff.1 hy).1
  have hb:=hS g rfl
  refine ⟨by simp only; omega,.int .i64 y,?_,rfl⟩
  show w.cell? ⟨g,0+t,none⟩=_
  rw [wT g2,Nat.zero_add,← Array.getElem?_toList,← List.getElem?_take_of_lt (j:=l.length * 1) (by omega),g6]
  simp [zZ,hy]
theorem SS {S:Nat→Nat} {w:World} {T e:TypeId} {v:Value} {n:Nat} {us:List Value} {ls:List (List Int)} (h:w.ownsRow 0 T 4 v n us) (hl:ls.length=us.length)
  (hr:∀ (r:Nat) (u:Value) (l:List Int),us[r]? =some u→ls[r]? =some l→w.ownsRow 0 e 1 u l.length (zZ l)) (hS:∀ b,b ∈ xr 4 w v→4 * maxLen < S b):RD S w (.lst n (ls.map fun l=>zb cI l)) v:=by
 have hf:=tf h
 rcases h.2 with ⟨rfl,rfl⟩ | ⟨g,cap,cur,rfl,g1,g2,g3,g4,g5,g6⟩
 ·have:us=[]:=List.eq_nil_of_length_eq_zero (by simpa using h.1)
  subst this
  have:ls=[]:=List.eq_nil_of_length_eq_zero (by simpa using hl)
  subst this
  exact ⟨none,0,rfl,Nat.le_refl _,fun _=>⟨rfl,rfl,rfl⟩,fun p hp=>by cases hp⟩
 ·refine ⟨_,cap,rfl,g3,fun q=>(by cases q),fun p hp=>?_⟩
  cases hp
  refine ⟨.inl rfl,gx _ _ _ fun t x hx=>?_⟩
  simp only [List.getElem?_map,Option.map_eq_some_iff] at hx
  obtain ⟨l,hl1,rfl⟩:=hx
  have ht:=(List.getElem?_eq_some_iff.1 hl1).1
  have hlen:us.length=n * 4:=h.1
  have hu:us[t]? =some us[t]:=List.getElem?_eq_getElem (by omega)
  have hb:=hS g (by rw [hf]; simp [Value.ownBlock])
  refine ⟨by simp only; omega,us[t],?_,OR (hr t _ l hu hl1) fun b hb'=>?_⟩
  ·show w.cell? ⟨g,0+t,none⟩=_
   rw [wT g2,Nat.zero_add,← Array.getElem?_toList,← List.getElem?_take_of_lt (j:=n * 4) (by omega),g6]
   exact hu
  ·have:=hS b (by rw [hf]; exact List.mem_append_right _ (List.mem_flatMap.2 ⟨_,List.mem_of_getElem? hu,by rw [hb']; simp⟩))
   omega
def Q7 (y:D):Prop:=(∃ k n,y= .int k n) ∨ ∃ b,y= .bool b
theorem iF {f:FuncId} {T e:TypeId} {C:List X→Option XOut} (hv:Sound Tryd.prog f C) {α:Type} {x2:α→D} {enc:List Int×α→List X} (henc:∀ a,enc a=[.res (.ext 4 T e) (zb cI a.1),.d (x2 a.2)]) {C':List Int×α→Option XOut}
  (hC:∀ a out,C' a=some out→∃ n ls y,a.1=zS ls∧ls.length=n * 4∧C [.d (.lst n (ls.map fun l=>zb cI l)),.d (x2 a.2)]=some (.ret (.d y) [])∧Q7 y∧out= .ret (.d y) [[zb cI (zS ls)]]):
  Sound Tryd.prog f (lay enc C'):=by
 intro S w args xs bs hx hb out ho
 obtain ⟨⟨fl,k⟩,rfl,ho2⟩:=wY ho
 obtain ⟨n,ls,y,hf,hln,hCo,hy,rfl⟩:=hC _ _ ho2
 simp only at hf hCo
 subst hf
 rw [henc] at hx
 obtain ⟨v,r0,bs1,bs2,hargs,rfl,⟨vs,hH,hD,hbs,hS0⟩,v2,r1,bs3,bs4,rfl,rfl,⟨rfl,hd⟩,rfl,rfl⟩:=hx
 obtain rfl:args=#[v,v2]:=by cases args; simp_all
 have hD':vs=zZ (zS ls):=rdl_intsV.1 hD
 subst hD'
 obtain ⟨n',us,h1,h2,h3⟩:=(show lb 4 T e w v _ from hH)
 obtain ⟨ls',e1,e2,hrow⟩:=l8 h2
 obtain rfl:=pc e1
 obtain rfl:n'=n:=by have:=h1.1; omega
 have hfoot:=tf h1
 have hbs':bs1=xr 4 w v:=hbs
 have hSt:Stab S w (fun b=>if b ∈ bs1 then 4 * maxLen+1 else S b) w:=fun b o u h h'=>by
  refine ⟨?_,h'⟩
  by_cases c:b ∈ bs1
  ·have:=hS0 b c; omega
  ·simpa only [if_neg c] using h
 have hx':RXs (fun b=>if b ∈ bs1 then 4 * maxLen+1 else S b) w [.d (.lst n' (ls.map fun l=>zb cI l)),.d (x2 k)] [v,v2] []:=
  ⟨_,_,[],[],rfl,rfl,⟨rfl,SS h1 e2 hrow fun b hb'=>by rw [if_pos (by rw [hbs']; exact hb')]; omega⟩,_,_,[],[],rfl,rfl,⟨rfl,RD.mono hSt _ _ hd⟩,rfl,rfl⟩
 have hb0:iJ w []:=⟨List.nodup_nil,hb.2.1,fun b h=>⟨(hb.2.2 b h).1,by simp⟩⟩
 obtain ⟨hc1,hc2⟩:=hv _ w #[v,v2] _ [] hx' hb0 _ hCo
 refine ⟨hc1,hc2.mono ?_⟩
 rintro e' w' ⟨S2,o1,o2,o3,o4,o5,u,b1,ls',rfl,⟨rfl,hu⟩,hnd,hge,hro,hpar,hmv⟩
 have hkeep:=(RK.Holds.keep (k:= .ext 4 T e) hH fun b hb'=>(o5 b (RK.Holds.lt hH b hb') (by simp)).1)
 have hff:(RK.ext 4 T e).foot w' v=(RK.ext 4 T e).foot w v:=hkeep.2
 have hyv:RD (fun b=>if b ∈ bs1 then 0 else S2 b) w' y u:=by
  rcases hy with ⟨k,m,rfl⟩ | ⟨b,rfl⟩ <;> exact hu
 refine ⟨fun b=>if b ∈ bs1 then 0 else S2 b,o1,o2,o3,o4,fun b hb1 hb2=>?_,u,[],[.res (.ext 4 T e) v],rfl,⟨rfl,hyv⟩,?_,by simp,?_,by simp [ParOK],?_⟩
 ·have hn:b ∉ bs1:=fun h=>hb2 (List.mem_append_left _ h)
  have:=o5 b hb1 (by simp)
  rw [if_neg hn] at this
  exact ⟨this.1,(if_neg hn).trans this.2⟩
 ·show ([]++(((RK.ext 4 T e).foot w' v).filter (fun b=>decide (w.heap.size ≤ b))++[])).Nodup
  rw [List.nil_append,List.append_nil,hff]
  exact List.Pairwise.filter _ h3
 ·refine ⟨_,[],rfl,⟨_,zZ (zS ls),rfl,hkeep.1,rdl_intsV.2 rfl,fun b hb'=>?_⟩,rfl⟩
  rw [hff,← hbs] at hb'
  exact if_pos hb'
 ·rw [henc]
  refine ⟨_,[],_,[],rfl,rfl,⟨rfl,fun b hb' _=>?_⟩,rfl,rfl⟩
  rw [hff] at hb'
  exact hb'
end Go.Vm
