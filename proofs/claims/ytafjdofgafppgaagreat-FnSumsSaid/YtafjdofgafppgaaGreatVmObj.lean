/- The abstract machine's operations on the call's own objects, told by what the object is. -/
import Derived.Test.YtafjdofgafppgaaGreatVmTyp
set_option linter.unusedSectionVars false
set_option linter.unusedSimpArgs false
set_option linter.unusedVariables false
namespace Go.Vm
def yu (b n:Nat):Prop:=n * b ≤ sm∧n ≤ 9223372036854775807
instance (b n:Nat):Decidable (yu b n):=by unfold yu; infer_instance
def TC (n:Nat):Prop:=n ≤ 9223372036854775807
instance (n:Nat):Decidable (TC n):=by unfold TC; infer_instance
def ed (x:Ob) (ver:Nat):Option (List A):=match x.o with
 | .box cells=>if x.ver=ver then some cells else none
 | _=>none
def q9 (x:Ob) (ver:Nat):Option (Nat×Nat×Nat×Option Nat×List D):=match x.o with
 | .row e s n c cells=>if x.ver=ver then some (e,s,n,c,cells) else none
 | _=>none
theorem H0 (ob:Nat→Ob) (id ver:Nat):ui ob id ver=ed (ob id) ver:=rfl
theorem iV (ob:Nat→Ob) (id ver:Nat):vu ob id ver=q9 (ob id) ver:=rfl
theorem JV (v ver:Nat) (cells:List A) (lk:Bool):ed ⟨v,.box cells,lk⟩ ver=if v=ver then some cells else none:=rfl
def X1 (x:Ob) (id ver:Nat):Option (D×List Nat):=match x.o with
 | .row _ _ n _ cells=>if x.ver=ver then some (.lst n cells,[id]) else none
 | _=>none
theorem Sw (ob:Nat→Ob) (id ver:Nat):xT ob (.row id ver)=X1 (ob id) id ver:=rfl
def oX (m:Bool) (x:Ob) (id ver:Nat):Option (X×List Nat×List Nat):=match x.o with
 | .row e s n cap cells=>if x.ver=ver then (if m then (if x.leak=false then some (.own e s n none cells false,[],[id]) else none) else some (.d (.lst n cells),[id],[])) else none
 | .res k y=>if x.ver=ver then some (.res k y,[],[id]) else none
 | _=>none
theorem Hi (m:Bool) (ob:Nat→Ob) (id ver:Nat):toX m ob (.row id ver)=oX m (ob id) id ver:=rfl
def oXB (x:Ob) (id ver off:Nat):Option (X×List Nat×List Nat):=match x.o with
 | .box cells=>if x.ver=ver∧off=0 then (uN cells).map fun xs=>(.box (xs.map .d),[],[id]) else none
 | _=>none
theorem Fp (m:Bool) (ob:Nat→Ob) (id ver off:Nat):toX m ob (.adr id ver off)=oXB (ob id) id ver off:=rfl
theorem GM (v id ver off:Nat) (cells:List A) (lk:Bool):oXB ⟨v,.box cells,lk⟩ id ver off=if v=ver∧off=0 then (uN cells).map fun xs=>(.box (xs.map .d),[],[id]) else none:=rfl
def aU (k:Option Nat) (x:Ob) (id ver:Nat):Option (X×List Nat):=match x.o with
 | .row e s n c cells=>if x.ver=ver then (match k with
     | some k=>some (.par k,[])
     | none=>some (.own e s n c cells x.leak,[id])) else none
 | .res q y=>if x.ver=ver then (match k with
     | some _=>none
     | none=>some (.res q y,[id])) else none
 | _=>none
@[congr] theorem BW {k k':Option Nat} {x x':Ob} {id ver:Nat} (h:k=k') (h':x=x'):aU k x id ver=aU k' x' id ver:=by rw [h,h']
theorem T6 (ps:List Nat) (ob:Nat→Ob) (id ver:Nat):pc ps ob (.row id ver)=aU (il ps id) (ob id) id ver:=by
 simp only [pc,aU]
 cases (ob id).o <;> rfl
def IK (ps:List Nat) (ob:Nat→Ob) (x:Ob) (id ver off:Nat):Option (X×List Nat):=match x.o with
 | .box cells=>if x.ver=ver∧off=0 then (u6 ps ob cells).bind fun y=>if y.1.all ol then some (.box y.1,y.2++[id]) else none else none
 | _=>none
theorem P1 (ps:List Nat) (ob:Nat→Ob) (id ver off:Nat):gc ps ob (.adr id ver off)=IK ps ob (ob id) id ver off:=rfl
theorem Lv (ps:List Nat) (ob:Nat→Ob) (v id ver off:Nat) (cells:List A) (lk:Bool):IK ps ob ⟨v,.box cells,lk⟩ id ver off=
  if v=ver∧off=0 then (u6 ps ob cells).bind fun y=>if y.1.all ol then some (.box y.1,y.2++[id]) else none else none:=rfl
section
variable {Γ:Ctx} {ob:Nat→Ob} {d:Nat} {α:Type} (c:Enc α)
theorem EQ (v ver e:Nat) (cap:Option Nat) (l:List α) (lk:Bool):q9 ⟨v,yg c e cap l,lk⟩ ver=if v=ver then some (e,c.sz,l.length,cap,zE c l) else none:=rfl
theorem Fb (v id ver e:Nat) (cap:Option Nat) (l:List α) (lk:Bool):X1 ⟨v,yg c e cap l,lk⟩ id ver=if v=ver then some (zf c l,[id]) else none:=rfl
theorem A8 (v id ver e:Nat) (cap:Option Nat) (l:List α) (lk:Bool):oX false ⟨v,yg c e cap l,lk⟩ id ver=if v=ver then some (.d (zf c l),[id],[]) else none:=rfl
theorem Al (v id ver e:Nat) (cap:Option Nat) (l:List α):oX true ⟨v,yg c e cap l,false⟩ id ver=if v=ver then some (zo c e none false l,[],[id]) else none:=rfl
theorem Hp (v e:Nat) (cap:Option Nat) (l l':List α) (lk:Bool):jj ⟨v,yg c e cap l,lk⟩ [zf c l']=some ⟨v,yg c e cap l',false⟩:=rfl
theorem Fo (v e:Nat) (cap:Option Nat) (l l':List α) (lk:Bool):jj ⟨v,yg c e cap l,lk⟩ [zf c l',.bool true]=some ⟨v+1,yg c e none l',false⟩:=rfl
theorem JE (v e:Nat) (cap:Option Nat) (l:List α):fE ob ⟨v,yg c e cap l,false⟩=if v=1 then some ([zf c l],[]) else some ([zf c l,.bool true],[]):=by simp [fE,yg,zf]
theorem ID (v e e' s:Nat) (cap:Option Nat) (l:List α) (lk:Bool) (hs:s=c.sz):fK ⟨v,yg c e cap l,lk⟩ (.row e' s)=(e == e'):=by
 subst hs; simp [fK,yg]
theorem CU (v id ver e:Nat) (cap:Option Nat) (l:List α) (lk:Bool):aU none ⟨v,yg c e cap l,lk⟩ id ver=if v=ver then some (zo c e cap lk l,[id]) else none:=rfl
theorem Cn (k v id ver e:Nat) (cap:Option Nat) (l:List α) (lk:Bool):aU (some k) ⟨v,yg c e cap l,lk⟩ id ver=if v=ver then some (.par k,[]) else none:=rfl
theorem Cp (ob:Nat→Ob) (ms:List Nat) (e:Nat) (cap:Option Nat) (lk:Bool) (l:List α) (a:A):xU ob ms (zo c e cap lk l) a=a:=by cases a <;> rfl
theorem BS (e:Nat) (cap:Option Nat) (lk:Bool) (l:List α) (j:Nat):ofX ob d (zo c e cap lk l) j=
  (.row (oid d j) ((ob (oid d j)).ver+1),[(oid d j,⟨(ob (oid d j)).ver+1,yg c e cap l,lk⟩)],j+1):=rfl
theorem CG (m:List (Nat×Nat)) (e:Nat) (cap:Option Nat) (l:List α):jE m ob (yg c e cap l)=yg c e none l:=rfl
theorem Jv (m:List (Nat×Nat)) (cells:List A):jE m ob (.box cells)= .box (jt m ob cells):=rfl
theorem Hk (m:List (Nat×Nat)) (e:Nat) (cap:Option Nat) (l:List α):eD m ob (yg c e cap l)=true:=rfl
theorem MS (m:List (Nat×Nat)) (cells:List A):eD m ob (.box cells)=(jt m ob cells).all one:=rfl
theorem C2 (s id ver:Nat) (k:IntKind) (i:Int):eval Γ ob d (.ia s) [.row id ver,.d (.int k i)]=
  (q9 (ob id) ver).bind fun r=>if 0 ≤ i∧i < (r.2.2.1:Int) then some (.val (.rad id ver (i.toNat * s)) []) else none:=rfl
theorem Lg (off id ver o:Nat):eval Γ ob d (.fa off) [.rad id ver o]=(q9 (ob id) ver).bind fun _=>some (.val (.rad id ver (o+off)) []):=rfl
theorem Bl (id ver off:Nat):eval Γ ob d (.ld none) [.rad id ver off]=(q9 (ob id) ver).bind fun r=>(r.2.2.2.2[off]?).bind fun x=>some (.val (.d x) []):=rfl
def Wc (cells:List D) (off n:Nat):Option (List D):=if off+n ≤ cells.length then some ((cells.drop off).take n) else none
theorem FN (n id ver off:Nat):eval Γ ob d (.ld (some n)) [.rad id ver off]=(q9 (ob id) ver).bind fun r=>(Wc r.2.2.2.2 off n).bind fun xs=>some (.val (.agg (xs.map .d)) []):=by
 simp only [eval,jr,iV,Wc,ok]
 cases q9 (ob id) ver with
 | none=>rfl
 | some r=>simp only [Option.bind_some]; split <;> rfl
def jw (r:Nat×Nat×Nat×Option Nat×List D) (off:Nat) (xs:List D):Option O:=
 if off+xs.length ≤ r.2.2.2.2.length then some (.row r.1 r.2.1 r.2.2.1 r.2.2.2.1 (r.2.2.2.2.take off++xs++r.2.2.2.2.drop (off+xs.length))) else none
theorem Kq (id:Nat):bD id []=true:=rfl
theorem Ni (id i:Nat) (r:List Nat):bD id (i :: r)=if i=id then false else bD id r:=rfl
theorem BE (n id ver off:Nat) (a:A):eval Γ ob d (.st n) [.rad id ver off,a]=(q9 (ob id) ver).bind fun r=>(xm ob (cellsOf a)).bind fun p=>
  if (ob id).leak=false∧p.1.length=n∧bD id p.2=true then (jw r off p.1).bind fun o=>some (.val .undef (zX ob p.2++[(id,⟨(ob id).ver,o,(ob id).leak⟩)])) else none:=by
 simp only [eval,Vi,iV,jw]
 cases q9 (ob id) ver with
 | none=>rfl
 | some r=>
   obtain ⟨e,s,m,cap,cells⟩:=r
   simp only [Option.bind_some]
   cases xm ob (cellsOf a) with
   | none=>rfl
   | some p=>
     obtain ⟨xs,ls⟩:=p
     simp only [Option.bind_some]
     by_cases h1:(ob id).leak=false∧xs.length=n∧bD id ls=true
     ·rw [if_pos h1]
      by_cases h2:off+xs.length ≤ cells.length
      ·rw [if_pos ⟨h1.1,by omega,h1.2.1,h1.2.2⟩,if_pos h2,h1.2.1]; rfl
      ·rw [if_neg (fun q=>h2 (by omega)),if_neg h2]; rfl
     ·rw [if_neg h1,if_neg (fun q=>h1 ⟨q.1,q.2.2.1,q.2.2.2⟩)]
theorem DV (id ver:Nat):eval Γ ob d (.len false) [.row id ver]=(q9 (ob id) ver).bind fun r=>some (.val (.d (.int .i64 r.2.2.1)) []):=rfl
theorem EG (id ver:Nat):eval Γ ob d .cap [.row id ver]=(q9 (ob id) ver).bind fun r=>r.2.2.2.1.bind fun k=>some (.val (.d (.int .i64 k)) []):=rfl
def cE (r:Nat×Nat×Nat×Option Nat×List D) (e size b:Nat) (x:D):Option O:=x.asLst.bind fun p=>
 if r.2.1=size∧r.1=e∧0 < size∧p.2.length=p.1 * size∧(r.2.2.1+p.1) * b ≤ sm∧r.2.2.1+p.1 ≤ 9223372036854775807 then
     some (.row e r.2.1 (r.2.2.1+p.1) none (r.2.2.2.2++p.2)) else none
theorem Es (e s b id ver:Nat) (x:A):eval Γ ob d (.app e s b) [.row id ver,x]=(q9 (ob id) ver).bind fun r=>(xT ob x).bind fun p=>(cE r e s b p.1).bind fun o=>
  some (.val (.row id (ver+1)) [(id,⟨ver+1,o,(ob id).leak⟩)]):=by
 simp only [eval,bR,iV,cE]
 cases q9 (ob id) ver with
 | none=>rfl
 | some r=>
   obtain ⟨e',s',m,cap,cells⟩:=r
   simp only [Option.bind_some]
   cases xT ob x with
   | none=>rfl
   | some p=>
     obtain ⟨y,ls⟩:=p
     simp only [Option.bind_some]
     cases y.asLst with
     | none=>rfl
     | some q=>
       obtain ⟨n,xs⟩:=q
       simp only [Option.bind_some]
       split <;> rename_i hc <;> first | (rw [hc.2.1]; rfl) | rfl
def XZ (r:Nat×Nat×Nat×Option Nat×List D) (e size b:Nat) (z:List D) (k:Int):Option O:=
 if r.2.1=size∧r.1=e∧0 ≤ k∧z.length=size∧0 < size∧(r.2.2.1+k.toNat) * b ≤ sm∧r.2.2.1+k.toNat ≤ 9223372036854775807 then
     some (.row e r.2.1 (r.2.2.1+k.toNat) none (r.2.2.2.2++(List.replicate k.toNat z).flatten)) else none
theorem HA (e s b id ver:Nat) (z:List D) (q:IntKind) (k:Int):eval Γ ob d (.appZ e s b z) [.row id ver,.d (.int q k)]=(q9 (ob id) ver).bind fun r=>(XZ r e s b z k).bind fun o=>
  some (.val (.row id (ver+1)) [(id,⟨ver+1,o,(ob id).leak⟩)]):=by
 simp only [eval,dh,iV,XZ]
 cases q9 (ob id) ver with
 | none=>rfl
 | some r=>
   obtain ⟨e',s',m,cap,cells⟩:=r
   simp only [Option.bind_some]
   split <;> rename_i hc <;> first | (rw [hc.2.1]; rfl) | rfl
def Rx (e s n:Nat) (z:List D):O:= .row e s n none (List.replicate n z).flatten
def JK (id ver e s b:Nat) (z:List D) (k:Int):Option Out:=if 0 ≤ k∧z.length=s∧0 < s∧k.toNat * b ≤ sm∧k ≤ 9223372036854775807 then
    (if k=0 then some (.val .nil []) else some (.val (.row id ver) [(id,⟨ver,Rx e s k.toNat z,false⟩)])) else none
theorem JQ (e s b:Nat) (z:List D) (q:IntKind) (k:Int):eval Γ ob d (.appZ e s b z) [.nil,.d (.int q k)]=JK (oid d 0) ((ob (oid d 0)).ver+1) e s b z k:=rfl
def Z9 (c:Bool) (x y:Option Out):Option Out:=match c with
 | true=>x
 | false=>y
@[congr] theorem CY {c c':Bool} {x y:Option Out} (h:c=c'):Z9 c x y=Z9 c' x y:=by rw [h]
theorem QX (x y:Option Out):Z9 true x y=x:=rfl
theorem QZ (x y:Option Out):Z9 false x y=y:=rfl
def S9 (r:Nat×Nat×Nat×Option Nat×List D) (s:Nat) (h:Int):Option O:=
 if r.2.1=s∧0 ≤ h∧h ≤ r.2.2.1 then some (.row r.1 r.2.1 h.toNat r.2.2.2.1 (r.2.2.2.2.take (h.toNat * r.2.1))) else none
theorem Dg (s id ver:Nat) (q:IntKind) (h:Int):eval Γ ob d (.cut s) [.row id ver,.d (.int q h)]=Z9 (ob id).leak (eval Γ ob d (.slc false s false true) [.row id ver,.d (.int q h)]) ((q9 (ob id) ver).bind fun r=>(S9 r s h).bind fun o=>
  some (.val (.row id (ver+1)) [(id,⟨ver+1,o,false⟩)])):=by
 have e1:eval Γ ob d (.cut s) [.row id ver,.d (.int q h)]=if (ob id).leak=true then nB ob false s false true [.row id ver,.d (.int q h)] else (vu ob id ver).bind fun (e,s',n,c,cells)=>
       if s'=s∧0 ≤ h∧h ≤ n then
        some (.val (.row id (ver+1)) [(id,{ ver:=ver+1,o:= .row e s' h.toNat c (cells.take (h.toNat * s')),leak:=false })])
       else none:=rfl
 rw [e1]
 cases (ob id).leak with
 | true=>rfl
 | false=>
   simp only [Bool.false_eq_true,if_false,iV,Z9,S9]
   cases q9 (ob id) ver with
   | none=>rfl
   | some r=>
     obtain ⟨e',s',m,cap,cells⟩:=r
     simp only [Option.bind_some]
     split <;> rfl
theorem GY (s:Nat) (x:D) (b:A):eval Γ ob d (.cut s) [.d x,b]=eval Γ ob d (.slc false s false true) [.d x,b]:=by
 cases b <;> rfl
theorem GO (s:Nat) (q:IntKind) (h:Int):eval Γ ob d (.cut s) [.nil,.d (.int q h)]=if h=0 then some (.val .nil []) else none:=rfl
theorem Ht:eval Γ ob d .cap [.nil]=some (.val (.d (.int .i64 0)) []):=rfl
theorem Qt (g:Bool):eval Γ ob d (.snil g) [.nil]=some (.val (.d (.bool !g)) []):=rfl
theorem Cx (g:Bool) (ks:List Nat) (xs ys:List A):eval Γ ob d (.seq g ks) [.agg xs,.agg ys]=(tW ks xs ys).bind fun b=>some (.val (.d (.bool (if g then !b else b))) []):=rfl
omit Γ ob d in
theorem GR:tW [] [] []=some true:=rfl
omit Γ ob d in
theorem Gk (ks:List Nat) (k:IntKind) (a b:Int) (xs ys:List A):tW (0 :: ks) (.d (.int k a) :: xs) (.d (.int k b) :: ys)=(tW ks xs ys).map fun r=>decide (a=b)&&r:=by
 simp [tW,tI,sn]; rfl
omit Γ ob d in
theorem H8 (ks:List Nat) (a b:ByteArray) (xs ys:List A):tW (1 :: ks) (.d (.str a) :: xs) (.d (.str b) :: ys)=(tW ks xs ys).map fun r=>(a.data.toList == b.data.toList)&&r:=by
 simp only [tW,tI,sn,and_self,if_true,Option.bind_some]
omit Γ ob d in
theorem JH (ks:List Nat) (a b:Bool) (xs ys:List A):tW (2 :: ks) (.d (.bool a) :: xs) (.d (.bool b) :: ys)=(tW ks xs ys).map fun r=>(a == b)&&r:=by
 simp [tW,tI,sn]
theorem MU (g:Bool) (m:Nat) (cs:List D):eval Γ ob d (.snil g) [.d (.lstS m cs)]=some (.val (.d (.bool g)) []):=rfl
def dJ (r:Nat×Nat×Nat×Option Nat×List D) (s:Nat) (lo hi:Bool) (bs:List A):Option D:=if r.2.1=s then
 (pT r.2.2.1 lo hi bs).bind fun (p:Nat×Nat)=>some (.lst (p.2 - p.1) ((r.2.2.2.2.drop (p.1 * s)).take ((p.2 - p.1) * s))) else none
theorem FS (s:Nat) (lo hi:Bool) (id ver:Nat) (bs:List A):eval Γ ob d (.slc false s lo hi) (.row id ver :: bs)=(q9 (ob id) ver).bind fun r=>
  (dJ r s lo hi bs).bind fun x=>some (.val (.d x) (zX ob [id])):=by
 simp only [eval,nB,iV,dJ]
 cases q9 (ob id) ver with
 | none=>rfl
 | some r=>
   obtain ⟨e',s',m,cap,cells⟩:=r
   simp only [Option.bind_some,Bool.false_eq_true,if_false]
   split
   ·cases pT m lo hi bs <;> rfl
   ·rfl
def Iu (p:D×List Nat):Option Out:=match p.1 with
 | .lst n xs=>if n=xs.length then (je xs).bind fun bs=>some (.val (.d (.str ⟨bs.toArray⟩)) []) else none
 | _=>none
theorem Cr (id ver:Nat):eval Γ ob d .b2s [.row id ver]=(X1 (ob id) id ver).bind Iu:=by
 simp only [eval,Sw]
 cases X1 (ob id) id ver with
 | none=>rfl
 | some p=>obtain ⟨x,l⟩:=p; cases x <;> rfl
theorem F2 (l:List Int) (ids:List Nat):Iu (zf c8 l,ids)=some (.val (.d (sD (WX l))) []):=by
 have h:(zE c8 l).length=l.length:=by rw [wQ]; exact Nat.mul_one _
 simp only [Iu,zf,h,if_true,Zd,Option.bind_some,sD]
theorem Ou (l:List α) (n o:Nat) (ho:o < c.sz):(zE c l)[n * c.sz+o]? =(l[n]?).bind fun x=>(c.enc x)[o]? :=by
 cases h:l[n]? with
 | none=>
   have:l.length ≤ n:=List.getElem?_eq_none_iff.mp h
   rw [List.getElem?_eq_none]
   ·rfl
   ·rw [wQ]
    have:=Nat.mul_le_mul_right c.sz this
    omega
 | some x=>
   rw [← List.getElem?_drop,eK c h,List.getElem?_append_left (by rw [c.len]; exact ho)]; rfl
theorem H2 (l:List α) (n s:Nat) (hs:s=c.sz):Wc (zE c l) (n * s) s=(l[n]?).map c.enc:=by
 subst hs
 unfold Wc
 cases h:l[n]? with
 | none=>
   have:l.length ≤ n:=List.getElem?_eq_none_iff.mp h
   rw [if_neg]
   ·rfl
   ·rw [wQ]
    have:=Nat.mul_le_mul_right c.sz this
    have:=c.pos
    omega
 | some x=>
   have hn:n < l.length:=by
    apply Classical.byContradiction
    intro hn
    rw [List.getElem?_eq_none (by omega)] at h; cases h
   have hm:=Nat.mul_le_mul_right c.sz (show n+1 ≤ l.length from hn)
   rw [Nat.succ_mul] at hm
   rw [if_pos (by rw [wQ]; exact hm),eK c h,List.take_append,List.take_of_length_le (by rw [c.len]; exact Nat.le_refl _),c.len]
   simp
theorem OV (l:List α) (n:Nat) (x:α) (h:n < l.length):(zE c l).take (n * c.sz)++c.enc x++(zE c l).drop ((n+1) * c.sz)=zE c (l.set n x):=by
 rw [jT,jZ,List.set_eq_take_append_cons_drop,if_pos h]
 simp [zE]
def dM (l:List α) (n:Nat) (x:α):Option (List α):=if n < l.length then some (l.set n x) else none
theorem I8 (e:Nat) (cap:Option Nat) (l:List α) (n s:Nat) (xs:List D) (x:α) (hs:s=c.sz) (hd:c.dec xs=some x):
  jw (e,s,l.length,cap,zE c l) (n * s) xs=(dM l n x).map fun l'=>yg c e cap l':=by
 subst hs
 obtain rfl:=c.dcd _ _ hd
 unfold jw dM
 simp only [c.len]
 by_cases h:n < l.length
 ·have hm:=Nat.mul_le_mul_right c.sz (show n+1 ≤ l.length from h)
  rw [if_pos (by rw [wQ]; rw [Nat.succ_mul] at hm; exact hm),if_pos h]
  simp only [Option.map_some,yg,List.length_set]
  rw [← OV c l n x h,Nat.succ_mul]
 ·rw [if_neg,if_neg h]
  ·rfl
  ·rw [wQ]
   have:=Nat.mul_le_mul_right c.sz (show l.length ≤ n by omega)
   have:=c.pos
   omega
theorem CI (e:Nat) (cap:Option Nat) (l l':List α) (s b:Nat) (hs:s=c.sz):
  cE (e,s,l.length,cap,zE c l) e s b (zf c l')=if yu b (l++l').length then some (yg c e none (l++l')) else none:=by
 subst hs
 unfold cE zf yu
 simp only [D.asLst,Option.bind_some,List.length_append,wQ,true_and,c.pos,yg,gv]
def bZ (l:List α):D:= .lstS l.length (zE c l)
theorem Mz {Γ:Ctx} {ob:Nat→Ob} {d:Nat} (g:Bool) (l:List α):eval Γ ob d (.snil g) [.d (bZ c l)]=some (.val (.d (.bool g)) []):=rfl
theorem zaI (r:Nat×Nat×Nat×Option Nat×List D) (e s b:Nat) (l:List α):cE r e s b (bZ c l)=cE r e s b (zf c l):=rfl
theorem Hd (e:Nat) (cap:Option Nat) (l:List α) (s b:Nat) (hs:s=c.sz) (z:List D) (x:α) (hx:c.dec z=some x) (k:Int):
  XZ (e,s,l.length,cap,zE c l) e s b z k=if 0 ≤ k∧yu b (l++List.replicate k.toNat x).length then some (yg c e none (l++List.replicate k.toNat x)) else none:=by
 subst hs
 obtain rfl:=c.dcd _ _ hx
 have h1:(List.replicate k.toNat (c.enc x)).flatten=zE c (List.replicate k.toNat x):=by simp only [zE,List.flatMap_def,List.map_replicate]
 unfold XZ yu
 simp only [c.len,true_and,c.pos,yg,gv,h1,List.length_append,List.length_replicate]
theorem Et (e:Nat) (cap:Option Nat) (l:List α) (s:Nat) (hs:s=c.sz) (h:Int):S9 (e,s,l.length,cap,zE c l) s h=if 0 ≤ h∧h ≤ l.length then some (yg c e cap (l.take h.toNat)) else none:=by
 subst hs
 unfold S9
 by_cases hh:0 ≤ h∧h ≤ l.length
 ·rw [if_pos ⟨rfl,hh.1,hh.2⟩,if_pos hh]
  simp only [yg,List.length_take]
  rw [Nat.min_eq_left (by omega)]
  congr 2
  rw [jT]
 ·rw [if_neg (fun q=>hh ⟨q.2.1,q.2.2⟩),if_neg hh]
end
theorem O9 {α:Type} (c:Enc α) (l:List α) (lo hi:Int):((if 0 ≤ lo∧lo ≤ hi∧hi ≤ (l.length:Int) then some (lo.toNat,hi.toNat) else none).bind fun (p:Nat×Nat)=>
   some (D.lst (p.2 - p.1) (((zE c l).drop (p.1 * c.sz)).take ((p.2 - p.1) * c.sz))))=(cut l lo hi).bind fun l'=>some (zf c l'):=by
 unfold cut
 by_cases h:0 ≤ lo∧lo ≤ hi∧hi ≤ l.length
 ·rw [if_pos h,if_pos h]
  simp only [Option.bind_some,zf]
  rw [MY c l lo hi h,Q0 l lo hi h]
 ·rw [if_neg h,if_neg h]; rfl
section
variable {α:Type} (c:Enc α)
theorem EX (e s:Nat) (cap:Option Nat) (l:List α) (k k':IntKind) (lo hi:Int) (hs:s=c.sz):dJ (e,s,l.length,cap,zE c l) s true true [.d (.int k lo),.d (.int k' hi)]=(cut l lo hi).bind fun l'=>some (zf c l'):=by
 subst hs
 rw [← O9 c l lo hi,← SF l.length k k' lo hi]; exact if_pos rfl
theorem DO (e s:Nat) (cap:Option Nat) (l:List α) (k:IntKind) (lo:Int) (hs:s=c.sz):dJ (e,s,l.length,cap,zE c l) s true false [.d (.int k lo)]=(cut l lo l.length).bind fun l'=>some (zf c l'):=by
 subst hs
 rw [← O9 c l lo l.length,← TI l.length k lo]; exact if_pos rfl
theorem CB (e s:Nat) (cap:Option Nat) (l:List α) (k:IntKind) (hi:Int) (hs:s=c.sz):dJ (e,s,l.length,cap,zE c l) s false true [.d (.int k hi)]=(cut l 0 hi).bind fun l'=>some (zf c l'):=by
 subst hs
 rw [← O9 c l 0 hi,← Ro l.length k hi]; exact if_pos rfl
end
theorem zaG {α:Type} (c:Enc α) (e:Nat) (cap:Option Nat):O.row e c.sz 0 cap []=yg c e cap []:=rfl
theorem zaW {α:Type} (c:Enc α) (e:Nat) (cap:Option Nat) (xs:List D) (x:α) (h:c.dec xs=some x):O.row e c.sz 1 cap xs=yg c e cap [x]:=by
 obtain rfl:=c.dcd _ _ h
 simp [yg,zE]
theorem Q1 {α:Type} (c:Enc α) (e:Nat) (cap:Option Nat) (n:Nat) (xs:List D) (x:α) (h:c.dec xs=some x):
  O.row e c.sz n cap (List.replicate n xs).flatten=yg c e cap (List.replicate n x):=by
 obtain rfl:=c.dcd _ _ h
 simp only [yg,zE,List.length_replicate,List.flatMap_def,List.map_replicate]
end Go.Vm
