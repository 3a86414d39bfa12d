/- The abstract machine's operations on the call's own objects, told by what the object is. -/
import Derived.Test.YtpjfklhaogdfeaaVmTyp
set_option linter.unusedSectionVars false
set_option linter.unusedSimpArgs false
set_option linter.unusedVariables false
namespace Go.Vm
def ub (b n:Nat):Prop:=n * b ≤ va∧n ≤ 9223372036854775807
instance (b n:Nat):Decidable (ub b n):=by unfold ub; infer_instance
def ou (n:Nat):Prop:=n ≤ 9223372036854775807
instance (n:Nat):Decidable (ou n):=by unfold ou; infer_instance
def nI (x:Ob) (ver:Nat):Option (List A):=match x.o with
 | .box cells=>if x.ver=ver then some cells else none
 | _=>none
def up (x:Ob) (ver:Nat):Option (Nat×Nat×Nat×Option Nat×List D):=match x.o with
 | .row e s n c cells=>if x.ver=ver then some (e,s,n,c,cells) else none
 | _=>none
theorem Oe (ob:Nat→Ob) (id ver:Nat):xG ob id ver=nI (ob id) ver:=rfl
theorem pX (ob:Nat→Ob) (id ver:Nat):xq ob id ver=up (ob id) ver:=rfl
theorem Sy (v ver:Nat) (cells:List A) (lk:Bool):nI ⟨v,.box cells,lk⟩ ver=if v=ver then some cells else none:=rfl
def fY (x:Ob) (id ver:Nat):Option (D×List Nat):=match x.o with
 | .row _ _ n _ cells=>if x.ver=ver then some (.lst n cells,[id]) else none
 | _=>none
theorem aE (ob:Nat→Ob) (id ver:Nat):yT ob (.row id ver)=fY (ob id) id ver:=rfl
def oX (m:Bool) (x:Ob) (id ver:Nat):Option (X×List Nat×List Nat):=match x.o with
 | .row e s n cap cells=>if x.ver=ver then (if m then (if x.leak=false then some (.own e s n none cells false,[],[id]) else none) else some (.d (.lst n cells),[id],[])) else none
 | .res k y=>if x.ver=ver then some (.res k y,[],[id]) else none
 | _=>none
theorem Om (m:Bool) (ob:Nat→Ob) (id ver:Nat):toX m ob (.row id ver)=oX m (ob id) id ver:=rfl
def oXB (x:Ob) (id ver off:Nat):Option (X×List Nat×List Nat):=match x.o with
 | .box cells=>if x.ver=ver∧off=0 then (wb cells).map fun xs=>(.box (xs.map .d),[],[id]) else none
 | _=>none
theorem Pu (m:Bool) (ob:Nat→Ob) (id ver off:Nat):toX m ob (.adr id ver off)=oXB (ob id) id ver off:=rfl
theorem OV (v id ver off:Nat) (cells:List A) (lk:Bool):oXB ⟨v,.box cells,lk⟩ id ver off=if v=ver∧off=0 then (wb cells).map fun xs=>(.box (xs.map .d),[],[id]) else none:=rfl
def jx (k:Option Nat) (x:Ob) (id ver:Nat):Option (X×List Nat):=match x.o with
 | .row e s n c cells=>if x.ver=ver then (match k with
     | some k=>some (.par k,[])
     | none=>some (.own e s n c cells x.leak,[id])) else none
 | .res q y=>if x.ver=ver then (match k with
     | some _=>none
     | none=>some (.res q y,[id])) else none
 | _=>none
@[congr] theorem Jz {k k':Option Nat} {x x':Ob} {id ver:Nat} (h:k=k') (h':x=x'):jx k x id ver=jx k' x' id ver:=by rw [h,h']
theorem Zk (ps:List Nat) (ob:Nat→Ob) (id ver:Nat):uo ps ob (.row id ver)=jx (pG ps id) (ob id) id ver:=by
 simp only [uo,jx]
 cases (ob id).o <;> rfl
def QY (ps:List Nat) (ob:Nat→Ob) (x:Ob) (id ver off:Nat):Option (X×List Nat):=match x.o with
 | .box cells=>if x.ver=ver∧off=0 then (wn ps ob cells).bind fun y=>if y.1.all tq then some (.box y.1,y.2++[id]) else none else none
 | _=>none
theorem X8 (ps:List Nat) (ob:Nat→Ob) (id ver off:Nat):oo ps ob (.adr id ver off)=QY ps ob (ob id) id ver off:=rfl
theorem Vj (ps:List Nat) (ob:Nat→Ob) (v id ver off:Nat) (cells:List A) (lk:Bool):QY ps ob ⟨v,.box cells,lk⟩ id ver off=
  if v=ver∧off=0 then (wn ps ob cells).bind fun y=>if y.1.all tq then some (.box y.1,y.2++[id]) else none else none:=rfl
section
variable {Γ:Ctx} {ob:Nat→Ob} {d:Nat} {α:Type} (c:Enc α)
theorem Kg (v ver e:Nat) (cap:Option Nat) (l:List α) (lk:Bool):up ⟨v,yl c e cap l,lk⟩ ver=if v=ver then some (e,c.sz,l.length,cap,zh c l) else none:=rfl
theorem OX (v id ver e:Nat) (cap:Option Nat) (l:List α) (lk:Bool):fY ⟨v,yl c e cap l,lk⟩ id ver=if v=ver then some (zb c l,[id]) else none:=rfl
theorem Hq (v id ver e:Nat) (cap:Option Nat) (l:List α) (lk:Bool):oX false ⟨v,yl c e cap l,lk⟩ id ver=if v=ver then some (.d (zb c l),[id],[]) else none:=rfl
theorem Ha (v id ver e:Nat) (cap:Option Nat) (l:List α):oX true ⟨v,yl c e cap l,false⟩ id ver=if v=ver then some (ye c e none false l,[],[id]) else none:=rfl
theorem NR (v e:Nat) (cap:Option Nat) (l l':List α) (lk:Bool):qP ⟨v,yl c e cap l,lk⟩ [zb c l']=some ⟨v,yl c e cap l',false⟩:=rfl
theorem Ow (v e:Nat) (cap:Option Nat) (l l':List α) (lk:Bool):qP ⟨v,yl c e cap l,lk⟩ [zb c l',.bool true]=some ⟨v+1,yl c e none l',false⟩:=rfl
theorem Qi (v e:Nat) (cap:Option Nat) (l:List α):nr ob ⟨v,yl c e cap l,false⟩=if v=1 then some ([zb c l],[]) else some ([zb c l,.bool true],[]):=by simp [nr,yl,zb]
theorem QE (v e e' s:Nat) (cap:Option Nat) (l:List α) (lk:Bool) (hs:s=c.sz):nt ⟨v,yl c e cap l,lk⟩ (.row e' s)=(e == e'):=by
 subst hs; simp [nt,yl]
theorem Mh (v id ver e:Nat) (cap:Option Nat) (l:List α) (lk:Bool):jx none ⟨v,yl c e cap l,lk⟩ id ver=if v=ver then some (ye c e cap lk l,[id]) else none:=rfl
theorem M0 (k v id ver e:Nat) (cap:Option Nat) (l:List α) (lk:Bool):jx (some k) ⟨v,yl c e cap l,lk⟩ id ver=if v=ver then some (.par k,[]) else none:=rfl
theorem Kw (ob:Nat→Ob) (ms:List Nat) (e:Nat) (cap:Option Nat) (lk:Bool) (l:List α) (a:A):yS ob ms (ye c e cap lk l) a=a:=by cases a <;> rfl
theorem Ic (e:Nat) (cap:Option Nat) (lk:Bool) (l:List α) (j:Nat):ofX ob d (ye c e cap lk l) j=
  (.row (oid d j) ((ob (oid d j)).ver+1),[(oid d j,⟨(ob (oid d j)).ver+1,yl c e cap l,lk⟩)],j+1):=rfl
theorem M4 (m:List (Nat×Nat)) (e:Nat) (cap:Option Nat) (l:List α):pe m ob (yl c e cap l)=yl c e none l:=rfl
theorem Sj (m:List (Nat×Nat)) (cells:List A):pe m ob (.box cells)= .box (qI m ob cells):=rfl
theorem O0 (m:List (Nat×Nat)) (e:Nat) (cap:Option Nat) (l:List α):nM m ob (yl c e cap l)=true:=rfl
theorem VE (m:List (Nat×Nat)) (cells:List A):nM m ob (.box cells)=(qI m ob cells).all one:=rfl
theorem JI (s id ver:Nat) (k:IntKind) (i:Int):eval Γ ob d (.ia s) [.row id ver,.d (.int k i)]=
  (up (ob id) ver).bind fun r=>if 0 ≤ i∧i < (r.2.2.1:Int) then some (.val (.rad id ver (i.toNat * s)) []) else none:=rfl
theorem UN (off id ver o:Nat):eval Γ ob d (.fa off) [.rad id ver o]=(up (ob id) ver).bind fun _=>some (.val (.rad id ver (o+off)) []):=rfl
theorem JU (id ver off:Nat):eval Γ ob d (.ld none) [.rad id ver off]=(up (ob id) ver).bind fun r=>(r.2.2.2.2[off]?).bind fun x=>some (.val (.d x) []):=rfl
def eP (cells:List D) (off n:Nat):Option (List D):=if off+n ≤ cells.length then some ((cells.drop off).take n) else none
theorem Mn (n id ver off:Nat):eval Γ ob d (.ld (some n)) [.rad id ver off]=(up (ob id) ver).bind fun r=>(eP r.2.2.2.2 off n).bind fun xs=>some (.val (.agg (xs.map .d)) []):=by
 simp only [eval,qL,pX,eP,ok]
 cases up (ob id) ver with
 | none=>rfl
 | some r=>simp only [Option.bind_some]; split <;> rfl
def rK (r:Nat×Nat×Nat×Option Nat×List D) (off:Nat) (xs:List D):Option O:=
 if off+xs.length ≤ r.2.2.2.2.length then some (.row r.1 r.2.1 r.2.2.1 r.2.2.2.1 (r.2.2.2.2.take off++xs++r.2.2.2.2.drop (off+xs.length))) else none
theorem RN (id:Nat):kL id []=true:=rfl
theorem Tk (id i:Nat) (r:List Nat):kL id (i :: r)=if i=id then false else kL id r:=rfl
theorem Jl (n id ver off:Nat) (a:A):eval Γ ob d (.st n) [.rad id ver off,a]=(up (ob id) ver).bind fun r=>(yp ob (cellsOf a)).bind fun p=>
  if (ob id).leak=false∧p.1.length=n∧kL id p.2=true then (rK r off p.1).bind fun o=>some (.val .undef (zo ob p.2++[(id,⟨(ob id).ver,o,(ob id).leak⟩)])) else none:=by
 simp only [eval,dE,pX,rK]
 cases up (ob id) ver with
 | none=>rfl
 | some r=>
   obtain ⟨e,s,m,cap,cells⟩:=r
   simp only [Option.bind_some]
   cases yp ob (cellsOf a) with
   | none=>rfl
   | some p=>
     obtain ⟨xs,ls⟩:=p
     simp only [Option.bind_some]
     by_cases h1:(ob id).leak=false∧xs.length=n∧kL id ls=true
     ·rw [if_pos h1]
      by_cases h2:off+xs.length ≤ cells.length
      ·rw [if_pos ⟨h1.1,by omega,h1.2.1,h1.2.2⟩,if_pos h2,h1.2.1]; rfl
      ·rw [if_neg (fun q=>h2 (by omega)),if_neg h2]; rfl
     ·rw [if_neg h1,if_neg (fun q=>h1 ⟨q.1,q.2.2.1,q.2.2.2⟩)]
theorem M7 (id ver:Nat):eval Γ ob d (.len false) [.row id ver]=(up (ob id) ver).bind fun r=>some (.val (.d (.int .i64 r.2.2.1)) []):=rfl
theorem LM (id ver:Nat):eval Γ ob d .cap [.row id ver]=(up (ob id) ver).bind fun r=>r.2.2.2.1.bind fun k=>some (.val (.d (.int .i64 k)) []):=rfl
def lr (r:Nat×Nat×Nat×Option Nat×List D) (e size b:Nat) (x:D):Option O:=x.asLst.bind fun p=>
 if r.2.1=size∧r.1=e∧0 < size∧p.2.length=p.1 * size∧(r.2.2.1+p.1) * b ≤ va∧r.2.2.1+p.1 ≤ 9223372036854775807 then
     some (.row e r.2.1 (r.2.2.1+p.1) none (r.2.2.2.2++p.2)) else none
theorem M3 (e s b id ver:Nat) (x:A):eval Γ ob d (.app e s b) [.row id ver,x]=(up (ob id) ver).bind fun r=>(yT ob x).bind fun p=>(lr r e s b p.1).bind fun o=>
  some (.val (.row id (ver+1)) [(id,⟨ver+1,o,(ob id).leak⟩)]):=by
 simp only [eval,kQ,pX,lr]
 cases up (ob id) ver with
 | none=>rfl
 | some r=>
   obtain ⟨e',s',m,cap,cells⟩:=r
   simp only [Option.bind_some]
   cases yT ob x with
   | none=>rfl
   | some p=>
     obtain ⟨y,ls⟩:=p
     simp only [Option.bind_some]
     cases y.asLst with
     | none=>rfl
     | some q=>
       obtain ⟨n,xs⟩:=q
       simp only [Option.bind_some]
       split <;> rename_i hc <;> first | (rw [hc.2.1]; rfl) | rfl
def eh (r:Nat×Nat×Nat×Option Nat×List D) (e size b:Nat) (z:List D) (k:Int):Option O:=
 if r.2.1=size∧r.1=e∧0 ≤ k∧z.length=size∧0 < size∧(r.2.2.1+k.toNat) * b ≤ va∧r.2.2.1+k.toNat ≤ 9223372036854775807 then
     some (.row e r.2.1 (r.2.2.1+k.toNat) none (r.2.2.2.2++(List.replicate k.toNat z).flatten)) else none
theorem OH (e s b id ver:Nat) (z:List D) (q:IntKind) (k:Int):eval Γ ob d (.appZ e s b z) [.row id ver,.d (.int q k)]=(up (ob id) ver).bind fun r=>(eh r e s b z k).bind fun o=>
  some (.val (.row id (ver+1)) [(id,⟨ver+1,o,(ob id).leak⟩)]):=by
 simp only [eval,mF,pX,eh]
 cases up (ob id) ver with
 | none=>rfl
 | some r=>
   obtain ⟨e',s',m,cap,cells⟩:=r
   simp only [Option.bind_some]
   split <;> rename_i hc <;> first | (rw [hc.2.1]; rfl) | rfl
def al (e s n:Nat) (z:List D):O:= .row e s n none (List.replicate n z).flatten
def QN (id ver e s b:Nat) (z:List D) (k:Int):Option Out:=if 0 ≤ k∧z.length=s∧0 < s∧k.toNat * b ≤ va∧k ≤ 9223372036854775807 then
    (if k=0 then some (.val .nil []) else some (.val (.row id ver) [(id,⟨ver,al e s k.toNat z,false⟩)])) else none
theorem Sn (e s b:Nat) (z:List D) (q:IntKind) (k:Int):eval Γ ob d (.appZ e s b z) [.nil,.d (.int q k)]=QN (oid d 0) ((ob (oid d 0)).ver+1) e s b z k:=rfl
def iK (c:Bool) (x y:Option Out):Option Out:=match c with
 | true=>x
 | false=>y
@[congr] theorem Je {c c':Bool} {x y:Option Out} (h:c=c'):iK c x y=iK c' x y:=by rw [h]
theorem YX (x y:Option Out):iK true x y=x:=rfl
theorem Y3 (x y:Option Out):iK false x y=y:=rfl
def Zy (r:Nat×Nat×Nat×Option Nat×List D) (s:Nat) (h:Int):Option O:=
 if r.2.1=s∧0 ≤ h∧h ≤ r.2.2.1 then some (.row r.1 r.2.1 h.toNat r.2.2.2.1 (r.2.2.2.2.take (h.toNat * r.2.1))) else none
theorem Kr (s id ver:Nat) (q:IntKind) (h:Int):eval Γ ob d (.cut s) [.row id ver,.d (.int q h)]=iK (ob id).leak (eval Γ ob d (.slc false s false true) [.row id ver,.d (.int q h)]) ((up (ob id) ver).bind fun r=>(Zy r s h).bind fun o=>
  some (.val (.row id (ver+1)) [(id,⟨ver+1,o,false⟩)])):=by
 have e1:eval Γ ob d (.cut s) [.row id ver,.d (.int q h)]=if (ob id).leak=true then tX ob false s false true [.row id ver,.d (.int q h)] else (xq ob id ver).bind fun (e,s',n,c,cells)=>
       if s'=s∧0 ≤ h∧h ≤ n then
        some (.val (.row id (ver+1)) [(id,{ ver:=ver+1,o:= .row e s' h.toNat c (cells.take (h.toNat * s')),leak:=false })])
       else none:=rfl
 rw [e1]
 cases (ob id).leak with
 | true=>rfl
 | false=>
   simp only [Bool.false_eq_true,if_false,pX,iK,Zy]
   cases up (ob id) ver with
   | none=>rfl
   | some r=>
     obtain ⟨e',s',m,cap,cells⟩:=r
     simp only [Option.bind_some]
     split <;> rfl
theorem OK (s:Nat) (x:D) (b:A):eval Γ ob d (.cut s) [.d x,b]=eval Γ ob d (.slc false s false true) [.d x,b]:=by
 cases b <;> rfl
theorem P9 (s:Nat) (q:IntKind) (h:Int):eval Γ ob d (.cut s) [.nil,.d (.int q h)]=if h=0 then some (.val .nil []) else none:=rfl
theorem PK:eval Γ ob d .cap [.nil]=some (.val (.d (.int .i64 0)) []):=rfl
theorem Ye (g:Bool):eval Γ ob d (.snil g) [.nil]=some (.val (.d (.bool !g)) []):=rfl
theorem KH (g:Bool) (ks:List Nat) (xs ys:List A):eval Γ ob d (.seq g ks) [.agg xs,.agg ys]=(wQ ks xs ys).bind fun b=>some (.val (.d (.bool (if g then !b else b))) []):=rfl
omit Γ ob d in
theorem Oi:wQ [] [] []=some true:=rfl
omit Γ ob d in
theorem NF (ks:List Nat) (k:IntKind) (a b:Int) (xs ys:List A):wQ (0 :: ks) (.d (.int k a) :: xs) (.d (.int k b) :: ys)=(wQ ks xs ys).map fun r=>decide (a=b)&&r:=by
 simp [wQ,wM,w6]; rfl
omit Γ ob d in
theorem PC (ks:List Nat) (a b:ByteArray) (xs ys:List A):wQ (1 :: ks) (.d (.str a) :: xs) (.d (.str b) :: ys)=(wQ ks xs ys).map fun r=>(a.data.toList == b.data.toList)&&r:=by
 simp only [wQ,wM,w6,and_self,if_true,Option.bind_some]
omit Γ ob d in
theorem RI (ks:List Nat) (a b:Bool) (xs ys:List A):wQ (2 :: ks) (.d (.bool a) :: xs) (.d (.bool b) :: ys)=(wQ ks xs ys).map fun r=>(a == b)&&r:=by
 simp [wQ,wM,w6]
theorem UK (g:Bool) (m:Nat) (cs:List D):eval Γ ob d (.snil g) [.d (.lstS m cs)]=some (.val (.d (.bool g)) []):=rfl
def mj (r:Nat×Nat×Nat×Option Nat×List D) (s:Nat) (lo hi:Bool) (bs:List A):Option D:=if r.2.1=s then
 (uS r.2.2.1 lo hi bs).bind fun (p:Nat×Nat)=>some (.lst (p.2 - p.1) ((r.2.2.2.2.drop (p.1 * s)).take ((p.2 - p.1) * s))) else none
theorem LY (s:Nat) (lo hi:Bool) (id ver:Nat) (bs:List A):eval Γ ob d (.slc false s lo hi) (.row id ver :: bs)=(up (ob id) ver).bind fun r=>
  (mj r s lo hi bs).bind fun x=>some (.val (.d x) (zo ob [id])):=by
 simp only [eval,tX,pX,mj]
 cases up (ob id) ver with
 | none=>rfl
 | some r=>
   obtain ⟨e',s',m,cap,cells⟩:=r
   simp only [Option.bind_some,Bool.false_eq_true,if_false]
   split
   ·cases uS m lo hi bs <;> rfl
   ·rfl
def Qr (p:D×List Nat):Option Out:=match p.1 with
 | .lst n xs=>if n=xs.length then (qO xs).bind fun bs=>some (.val (.d (.str ⟨bs.toArray⟩)) []) else none
 | _=>none
theorem K4 (id ver:Nat):eval Γ ob d .b2s [.row id ver]=(fY (ob id) id ver).bind Qr:=by
 simp only [eval,aE]
 cases fY (ob id) id ver with
 | none=>rfl
 | some p=>obtain ⟨x,l⟩:=p; cases x <;> rfl
theorem M8 (l:List Int) (ids:List Nat):Qr (zb c8 l,ids)=some (.val (.d (sD (oq l))) []):=by
 have h:(zh c8 l).length=l.length:=by rw [xd]; exact Nat.mul_one _
 simp only [Qr,zb,h,if_true,j4,Option.bind_some,sD]
theorem X2 (l:List α) (n o:Nat) (ho:o < c.sz):(zh c l)[n * c.sz+o]? =(l[n]?).bind fun x=>(c.enc x)[o]? :=by
 cases h:l[n]? with
 | none=>
   have:l.length ≤ n:=List.getElem?_eq_none_iff.mp h
   rw [List.getElem?_eq_none]
   ·rfl
   ·rw [xd]
    have:=Nat.mul_le_mul_right c.sz this
    omega
 | some x=>
   rw [← List.getElem?_drop,nQ c h,List.getElem?_append_left (by rw [c.len]; exact ho)]; rfl
theorem NO (l:List α) (n s:Nat) (hs:s=c.sz):eP (zh c l) (n * s) s=(l[n]?).map c.enc:=by
 subst hs
 unfold eP
 cases h:l[n]? with
 | none=>
   have:l.length ≤ n:=List.getElem?_eq_none_iff.mp h
   rw [if_neg]
   ·rfl
   ·rw [xd]
    have:=Nat.mul_le_mul_right c.sz this
    have:=c.pos
    omega
 | some x=>
   have hn:n < l.length:=by
    apply Classical.byContradiction
    intro hn
    rw [List.getElem?_eq_none (by omega)] at h; cases h
   have hm:=Nat.mul_le_mul_right c.sz (show n+1 ≤ l.length from hn)
   rw [Nat.succ_mul] at hm
   rw [if_pos (by rw [xd]; exact hm),nQ c h,List.take_append,List.take_of_length_le (by rw [c.len]; exact Nat.le_refl _),c.len]
   simp
theorem XY (l:List α) (n:Nat) (x:α) (h:n < l.length):(zh c l).take (n * c.sz)++c.enc x++(zh c l).drop ((n+1) * c.sz)=zh c (l.set n x):=by
 rw [pp,ph,List.set_eq_take_append_cons_drop,if_pos h]
 simp [zh]
def oM (l:List α) (n:Nat) (x:α):Option (List α):=if n < l.length then some (l.set n x) else none
theorem YT (e:Nat) (cap:Option Nat) (l:List α) (n s:Nat) (xs:List D) (x:α) (hs:s=c.sz) (hd:c.dec xs=some x):
  rK (e,s,l.length,cap,zh c l) (n * s) xs=(oM l n x).map fun l'=>yl c e cap l':=by
 subst hs
 obtain rfl:=c.dcd _ _ hd
 unfold rK oM
 simp only [c.len]
 by_cases h:n < l.length
 ·have hm:=Nat.mul_le_mul_right c.sz (show n+1 ≤ l.length from h)
  rw [if_pos (by rw [xd]; rw [Nat.succ_mul] at hm; exact hm),if_pos h]
  simp only [Option.map_some,yl,List.length_set]
  rw [← XY c l n x h,Nat.succ_mul]
 ·rw [if_neg,if_neg h]
  ·rfl
  ·rw [xd]
   have:=Nat.mul_le_mul_right c.sz (show l.length ≤ n by omega)
   have:=c.pos
   omega
theorem ME (e:Nat) (cap:Option Nat) (l l':List α) (s b:Nat) (hs:s=c.sz):
  lr (e,s,l.length,cap,zh c l) e s b (zb c l')=if ub b (l++l').length then some (yl c e none (l++l')) else none:=by
 subst hs
 unfold lr zb ub
 simp only [D.asLst,Option.bind_some,List.length_append,xd,true_and,c.pos,yl,p8]
def kj (l:List α):D:= .lstS l.length (zh c l)
theorem Ub {Γ:Ctx} {ob:Nat→Ob} {d:Nat} (g:Bool) (l:List α):eval Γ ob d (.snil g) [.d (kj c l)]=some (.val (.d (.bool g)) []):=rfl
theorem HL (r:Nat×Nat×Nat×Option Nat×List D) (e s b:Nat) (l:List α):lr r e s b (kj c l)=lr r e s b (zb c l):=rfl
theorem NT (e:Nat) (cap:Option Nat) (l:List α) (s b:Nat) (hs:s=c.sz) (z:List D) (x:α) (hx:c.dec z=some x) (k:Int):
  eh (e,s,l.length,cap,zh c l) e s b z k=if 0 ≤ k∧ub b (l++List.replicate k.toNat x).length then some (yl c e none (l++List.replicate k.toNat x)) else none:=by
 subst hs
 obtain rfl:=c.dcd _ _ hx
 have h1:(List.replicate k.toNat (c.enc x)).flatten=zh c (List.replicate k.toNat x):=by simp only [zh,List.flatMap_def,List.map_replicate]
 unfold eh ub
 simp only [c.len,true_and,c.pos,yl,p8,h1,List.length_append,List.length_replicate]
theorem NY (e:Nat) (cap:Option Nat) (l:List α) (s:Nat) (hs:s=c.sz) (h:Int):Zy (e,s,l.length,cap,zh c l) s h=if 0 ≤ h∧h ≤ l.length then some (yl c e cap (l.take h.toNat)) else none:=by
 subst hs
 unfold Zy
 by_cases hh:0 ≤ h∧h ≤ l.length
 ·rw [if_pos ⟨rfl,hh.1,hh.2⟩,if_pos hh]
  simp only [yl,List.length_take]
  rw [Nat.min_eq_left (by omega)]
  congr 2
  rw [pp]
 ·rw [if_neg (fun q=>hh ⟨q.2.1,q.2.2⟩),if_neg hh]
end
theorem XI {α:Type} (c:Enc α) (l:List α) (lo hi:Int):((if 0 ≤ lo∧lo ≤ hi∧hi ≤ (l.length:Int) then some (lo.toNat,hi.toNat) else none).bind fun (p:Nat×Nat)=>
   some (D.lst (p.2 - p.1) (((zh c l).drop (p.1 * c.sz)).take ((p.2 - p.1) * c.sz))))=(cut l lo hi).bind fun l'=>some (zb c l'):=by
 unfold cut
 by_cases h:0 ≤ lo∧lo ≤ hi∧hi ≤ l.length
 ·rw [if_pos h,if_pos h]
  simp only [Option.bind_some,zb]
  rw [Ti c l lo hi h,Xb l lo hi h]
 ·rw [if_neg h,if_neg h]; rfl
section
variable {α:Type} (c:Enc α)
theorem Mf (e s:Nat) (cap:Option Nat) (l:List α) (k k':IntKind) (lo hi:Int) (hs:s=c.sz):mj (e,s,l.length,cap,zh c l) s true true [.d (.int k lo),.d (.int k' hi)]=(cut l lo hi).bind fun l'=>some (zb c l'):=by
 subst hs
 rw [← XI c l lo hi,← Zd l.length k k' lo hi]; exact if_pos rfl
theorem KS (e s:Nat) (cap:Option Nat) (l:List α) (k:IntKind) (lo:Int) (hs:s=c.sz):mj (e,s,l.length,cap,zh c l) s true false [.d (.int k lo)]=(cut l lo l.length).bind fun l'=>some (zb c l'):=by
 subst hs
 rw [← XI c l lo l.length,← ZJ l.length k lo]; exact if_pos rfl
theorem Mu (e s:Nat) (cap:Option Nat) (l:List α) (k:IntKind) (hi:Int) (hs:s=c.sz):mj (e,s,l.length,cap,zh c l) s false true [.d (.int k hi)]=(cut l 0 hi).bind fun l'=>some (zb c l'):=by
 subst hs
 rw [← XI c l 0 hi,← Zh l.length k hi]; exact if_pos rfl
end
theorem HK {α:Type} (c:Enc α) (e:Nat) (cap:Option Nat):O.row e c.sz 0 cap []=yl c e cap []:=rfl
theorem H3 {α:Type} (c:Enc α) (e:Nat) (cap:Option Nat) (xs:List D) (x:α) (h:c.dec xs=some x):O.row e c.sz 1 cap xs=yl c e cap [x]:=by
 obtain rfl:=c.dcd _ _ h
 simp [yl,zh]
theorem Y2 {α:Type} (c:Enc α) (e:Nat) (cap:Option Nat) (n:Nat) (xs:List D) (x:α) (h:c.dec xs=some x):
  O.row e c.sz n cap (List.replicate n xs).flatten=yl c e cap (List.replicate n x):=by
 obtain rfl:=c.dcd _ _ h
 simp only [yl,zh,List.length_replicate,List.flatMap_def,List.map_replicate]
end Go.Vm
