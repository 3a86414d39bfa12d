/- The abstract machine's operations on the call's own objects, told by what the object is. -/
import Derived.Test.YtpjfklhaogdfeaaGreatDoorVmTyp
set_option linter.unusedSectionVars false
set_option linter.unusedSimpArgs false
set_option linter.unusedVariables false
namespace Go.Vm
def vm (b n:Nat):Prop:=n * b ≤ wF∧n ≤ 9223372036854775807
instance (b n:Nat):Decidable (vm b n):=by unfold vm; infer_instance
def qI (n:Nat):Prop:=n ≤ 9223372036854775807
instance (n:Nat):Decidable (qI n):=by unfold qI; infer_instance
def pU (x:Ob) (ver:Nat):Option (List A):=match x.o with
 | .box cells=>if x.ver=ver then some cells else none
 | _=>none
def vv (x:Ob) (ver:Nat):Option (Nat×Nat×Nat×Option Nat×List D):=match x.o with
 | .row e s n c cells=>if x.ver=ver then some (e,s,n,c,cells) else none
 | _=>none
theorem RZ (ob:Nat→Ob) (id ver:Nat):xg ob id ver=pU (ob id) ver:=rfl
theorem qu (ob:Nat→Ob) (id ver:Nat):yW ob id ver=vv (ob id) ver:=rfl
theorem UL (v ver:Nat) (cells:List A) (lk:Bool):pU ⟨v,.box cells,lk⟩ ver=if v=ver then some cells else none:=rfl
def iP (x:Ob) (id ver:Nat):Option (D×List Nat):=match x.o with
 | .row _ _ n _ cells=>if x.ver=ver then some (.lst n cells,[id]) else none
 | _=>none
theorem cF (ob:Nat→Ob) (id ver:Nat):yC ob (.row id ver)=iP (ob id) id ver:=rfl
def oX (m:Bool) (x:Ob) (id ver:Nat):Option (X×List Nat×List Nat):=match x.o with
 | .row e s n cap cells=>if x.ver=ver then (if m then (if x.leak=false then some (.own e s n none cells false,[],[id]) else none) else some (.d (.lst n cells),[id],[])) else none
 | .res k y=>if x.ver=ver then some (.res k y,[],[id]) else none
 | _=>none
theorem Pu (m:Bool) (ob:Nat→Ob) (id ver:Nat):toX m ob (.row id ver)=oX m (ob id) id ver:=rfl
def oXB (x:Ob) (id ver off:Nat):Option (X×List Nat×List Nat):=match x.o with
 | .box cells=>if x.ver=ver∧off=0 then (xE cells).map fun xs=>(.box (xs.map .d),[],[id]) else none
 | _=>none
theorem PP (m:Bool) (ob:Nat→Ob) (id ver off:Nat):toX m ob (.adr id ver off)=oXB (ob id) id ver off:=rfl
theorem PO (v id ver off:Nat) (cells:List A) (lk:Bool):oXB ⟨v,.box cells,lk⟩ id ver off=if v=ver∧off=0 then (xE cells).map fun xs=>(.box (xs.map .d),[],[id]) else none:=rfl
def kP (k:Option Nat) (x:Ob) (id ver:Nat):Option (X×List Nat):=match x.o with
 | .row e s n c cells=>if x.ver=ver then (match k with
     | some k=>some (.par k,[])
     | none=>some (.own e s n c cells x.leak,[id])) else none
 | .res q y=>if x.ver=ver then (match k with
     | some _=>none
     | none=>some (.res q y,[id])) else none
 | _=>none
@[congr] theorem LV {k k':Option Nat} {x x':Ob} {id ver:Nat} (h:k=k') (h':x=x'):kP k x id ver=kP k' x' id ver:=by rw [h,h']
theorem cD (ps:List Nat) (ob:Nat→Ob) (id ver:Nat):vB ps ob (.row id ver)=kP (r9 ps id) (ob id) id ver:=by
 simp only [vB,kP]
 cases (ob id).o <;> rfl
def Ro (ps:List Nat) (ob:Nat→Ob) (x:Ob) (id ver off:Nat):Option (X×List Nat):=match x.o with
 | .box cells=>if x.ver=ver∧off=0 then (xL ps ob cells).bind fun y=>if y.1.all uv then some (.box y.1,y.2++[id]) else none else none
 | _=>none
theorem YS (ps:List Nat) (ob:Nat→Ob) (id ver off:Nat):qQ ps ob (.adr id ver off)=Ro ps ob (ob id) id ver off:=rfl
theorem XW (ps:List Nat) (ob:Nat→Ob) (v id ver off:Nat) (cells:List A) (lk:Bool):Ro ps ob ⟨v,.box cells,lk⟩ id ver off=
  if v=ver∧off=0 then (xL ps ob cells).bind fun y=>if y.1.all uv then some (.box y.1,y.2++[id]) else none else none:=rfl
section
variable {Γ:Ctx} {ob:Nat→Ob} {d:Nat} {α:Type} (c:Enc α)
theorem Nn (v ver e:Nat) (cap:Option Nat) (l:List α) (lk:Bool):vv ⟨v,zY c e cap l,lk⟩ ver=if v=ver then some (e,c.sz,l.length,cap,zb c l) else none:=rfl
theorem Pf (v id ver e:Nat) (cap:Option Nat) (l:List α) (lk:Bool):iP ⟨v,zY c e cap l,lk⟩ id ver=if v=ver then some (zh c l,[id]) else none:=rfl
theorem JZ (v id ver e:Nat) (cap:Option Nat) (l:List α) (lk:Bool):oX false ⟨v,zY c e cap l,lk⟩ id ver=if v=ver then some (.d (zh c l),[id],[]) else none:=rfl
theorem JH (v id ver e:Nat) (cap:Option Nat) (l:List α):oX true ⟨v,zY c e cap l,false⟩ id ver=if v=ver then some (zP c e none false l,[],[id]) else none:=rfl
theorem Oa (v e:Nat) (cap:Option Nat) (l l':List α) (lk:Bool):ro ⟨v,zY c e cap l,lk⟩ [zh c l']=some ⟨v,zY c e cap l',false⟩:=rfl
theorem Qv (v e:Nat) (cap:Option Nat) (l l':List α) (lk:Bool):ro ⟨v,zY c e cap l,lk⟩ [zh c l',.bool true]=some ⟨v+1,zY c e none l',false⟩:=rfl
theorem US (v e:Nat) (cap:Option Nat) (l:List α):pC ob ⟨v,zY c e cap l,false⟩=if v=1 then some ([zh c l],[]) else some ([zh c l,.bool true],[]):=by simp [pC,zY,zh]
theorem UK (v e e' s:Nat) (cap:Option Nat) (l:List α) (lk:Bool) (hs:s=c.sz):pK ⟨v,zY c e cap l,lk⟩ (.row e' s)=(e == e'):=by
 subst hs; simp [pK,zY]
theorem O4 (v id ver e:Nat) (cap:Option Nat) (l:List α) (lk:Bool):kP none ⟨v,zY c e cap l,lk⟩ id ver=if v=ver then some (zP c e cap lk l,[id]) else none:=rfl
theorem O5 (k v id ver e:Nat) (cap:Option Nat) (l:List α) (lk:Bool):kP (some k) ⟨v,zY c e cap l,lk⟩ id ver=if v=ver then some (.par k,[]) else none:=rfl
theorem Nd (ob:Nat→Ob) (ms:List Nat) (e:Nat) (cap:Option Nat) (lk:Bool) (l:List α) (a:A):yB ob ms (zP c e cap lk l) a=a:=by cases a <;> rfl
theorem KE (e:Nat) (cap:Option Nat) (lk:Bool) (l:List α) (j:Nat):ofX ob d (zP c e cap lk l) j=
  (.row (oid d j) ((ob (oid d j)).ver+1),[(oid d j,⟨(ob (oid d j)).ver+1,zY c e cap l,lk⟩)],j+1):=rfl
theorem Lc (m:List (Nat×Nat)) (e:Nat) (cap:Option Nat) (l:List α):rD m ob (zY c e cap l)=zY c e none l:=rfl
theorem S9 (m:List (Nat×Nat)) (cells:List A):rD m ob (.box cells)= .box (rt m ob cells):=rfl
theorem Py (m:List (Nat×Nat)) (e:Nat) (cap:Option Nat) (l:List α):oB m ob (zY c e cap l)=true:=rfl
theorem WU (m:List (Nat×Nat)) (cells:List A):oB m ob (.box cells)=(rt m ob cells).all one:=rfl
theorem KL (s id ver:Nat) (k:IntKind) (i:Int):eval Γ ob d (.ia s) [.row id ver,.d (.int k i)]=
  (vv (ob id) ver).bind fun r=>if 0 ≤ i∧i < (r.2.2.1:Int) then some (.val (.rad id ver (i.toNat * s)) []) else none:=rfl
theorem Vt (off id ver o:Nat):eval Γ ob d (.fa off) [.rad id ver o]=(vv (ob id) ver).bind fun _=>some (.val (.rad id ver (o+off)) []):=rfl
theorem Kd (id ver off:Nat):eval Γ ob d (.ld none) [.rad id ver off]=(vv (ob id) ver).bind fun r=>(r.2.2.2.2[off]?).bind fun x=>some (.val (.d x) []):=rfl
def gy (cells:List D) (off n:Nat):Option (List D):=if off+n ≤ cells.length then some ((cells.drop off).take n) else none
theorem NY (n id ver off:Nat):eval Γ ob d (.ld (some n)) [.rad id ver off]=(vv (ob id) ver).bind fun r=>(gy r.2.2.2.2 off n).bind fun xs=>some (.val (.agg (xs.map .d)) []):=by
 simp only [eval,rz,qu,gy,ok]
 cases vv (ob id) ver with
 | none=>rfl
 | some r=>simp only [Option.bind_some]; split <;> rfl
def sO (r:Nat×Nat×Nat×Option Nat×List D) (off:Nat) (xs:List D):Option O:=
 if off+xs.length ≤ r.2.2.2.2.length then some (.row r.1 r.2.1 r.2.2.1 r.2.2.2.1 (r.2.2.2.2.take off++xs++r.2.2.2.2.drop (off+xs.length))) else none
theorem T1 (id:Nat):m9 id []=true:=rfl
theorem WF (id i:Nat) (r:List Nat):m9 id (i :: r)=if i=id then false else m9 id r:=rfl
theorem LP (n id ver off:Nat) (a:A):eval Γ ob d (.st n) [.rad id ver off,a]=(vv (ob id) ver).bind fun r=>(zZ ob (cellsOf a)).bind fun p=>
  if (ob id).leak=false∧p.1.length=n∧m9 id p.2=true then (sO r off p.1).bind fun o=>some (.val .undef (zl ob p.2++[(id,⟨(ob id).ver,o,(ob id).leak⟩)])) else none:=by
 simp only [eval,fx,qu,sO]
 cases vv (ob id) ver with
 | none=>rfl
 | some r=>
   obtain ⟨e,s,m,cap,cells⟩:=r
   simp only [Option.bind_some]
   cases zZ ob (cellsOf a) with
   | none=>rfl
   | some p=>
     obtain ⟨xs,ls⟩:=p
     simp only [Option.bind_some]
     by_cases h1:(ob id).leak=false∧xs.length=n∧m9 id ls=true
     ·rw [if_pos h1]
      by_cases h2:off+xs.length ≤ cells.length
      ·rw [if_pos ⟨h1.1,by omega,h1.2.1,h1.2.2⟩,if_pos h2,h1.2.1]; rfl
      ·rw [if_neg (fun q=>h2 (by omega)),if_neg h2]; rfl
     ·rw [if_neg h1,if_neg (fun q=>h1 ⟨q.1,q.2.2.1,q.2.2.2⟩)]
theorem MQ (id ver:Nat):eval Γ ob d (.len false) [.row id ver]=(vv (ob id) ver).bind fun r=>some (.val (.d (.int .i64 r.2.2.1)) []):=rfl
theorem OC (id ver:Nat):eval Γ ob d .cap [.row id ver]=(vv (ob id) ver).bind fun r=>r.2.2.2.1.bind fun k=>some (.val (.d (.int .i64 k)) []):=rfl
def nY (r:Nat×Nat×Nat×Option Nat×List D) (e size b:Nat) (x:D):Option O:=x.asLst.bind fun p=>
 if r.2.1=size∧r.1=e∧0 < size∧p.2.length=p.1 * size∧(r.2.2.1+p.1) * b ≤ wF∧r.2.2.1+p.1 ≤ 9223372036854775807 then
     some (.row e r.2.1 (r.2.2.1+p.1) none (r.2.2.2.2++p.2)) else none
theorem Ou (e s b id ver:Nat) (x:A):eval Γ ob d (.app e s b) [.row id ver,x]=(vv (ob id) ver).bind fun r=>(yC ob x).bind fun p=>(nY r e s b p.1).bind fun o=>
  some (.val (.row id (ver+1)) [(id,⟨ver+1,o,(ob id).leak⟩)]):=by
 simp only [eval,lL,qu,nY]
 cases vv (ob id) ver with
 | none=>rfl
 | some r=>
   obtain ⟨e',s',m,cap,cells⟩:=r
   simp only [Option.bind_some]
   cases yC ob x with
   | none=>rfl
   | some p=>
     obtain ⟨y,ls⟩:=p
     simp only [Option.bind_some]
     cases y.asLst with
     | none=>rfl
     | some q=>
       obtain ⟨n,xs⟩:=q
       simp only [Option.bind_some]
       split <;> rename_i hc <;> first | (rw [hc.2.1]; rfl) | rfl
def iH (r:Nat×Nat×Nat×Option Nat×List D) (e size b:Nat) (z:List D) (k:Int):Option O:=
 if r.2.1=size∧r.1=e∧0 ≤ k∧z.length=size∧0 < size∧(r.2.2.1+k.toNat) * b ≤ wF∧r.2.2.1+k.toNat ≤ 9223372036854775807 then
     some (.row e r.2.1 (r.2.2.1+k.toNat) none (r.2.2.2.2++(List.replicate k.toNat z).flatten)) else none
theorem Pm (e s b id ver:Nat) (z:List D) (q:IntKind) (k:Int):eval Γ ob d (.appZ e s b z) [.row id ver,.d (.int q k)]=(vv (ob id) ver).bind fun r=>(iH r e s b z k).bind fun o=>
  some (.val (.row id (ver+1)) [(id,⟨ver+1,o,(ob id).leak⟩)]):=by
 simp only [eval,ng,qu,iH]
 cases vv (ob id) ver with
 | none=>rfl
 | some r=>
   obtain ⟨e',s',m,cap,cells⟩:=r
   simp only [Option.bind_some]
   split <;> rename_i hc <;> first | (rw [hc.2.1]; rfl) | rfl
def bH (e s n:Nat) (z:List D):O:= .row e s n none (List.replicate n z).flatten
def Tl (id ver e s b:Nat) (z:List D) (k:Int):Option Out:=if 0 ≤ k∧z.length=s∧0 < s∧k.toNat * b ≤ wF∧k ≤ 9223372036854775807 then
    (if k=0 then some (.val .nil []) else some (.val (.row id ver) [(id,⟨ver,bH e s k.toNat z,false⟩)])) else none
theorem Ux (e s b:Nat) (z:List D) (q:IntKind) (k:Int):eval Γ ob d (.appZ e s b z) [.nil,.d (.int q k)]=Tl (oid d 0) ((ob (oid d 0)).ver+1) e s b z k:=rfl
def jn (c:Bool) (x y:Option Out):Option Out:=match c with
 | true=>x
 | false=>y
@[congr] theorem LD {c c':Bool} {x y:Option Out} (h:c=c'):jn c x y=jn c' x y:=by rw [h]
theorem ZF (x y:Option Out):jn true x y=x:=rfl
theorem Ze (x y:Option Out):jn false x y=y:=rfl
def cn (r:Nat×Nat×Nat×Option Nat×List D) (s:Nat) (h:Int):Option O:=
 if r.2.1=s∧0 ≤ h∧h ≤ r.2.2.1 then some (.row r.1 r.2.1 h.toNat r.2.2.2.1 (r.2.2.2.2.take (h.toNat * r.2.1))) else none
theorem OI (s id ver:Nat) (q:IntKind) (h:Int):eval Γ ob d (.cut s) [.row id ver,.d (.int q h)]=jn (ob id).leak (eval Γ ob d (.slc false s false true) [.row id ver,.d (.int q h)]) ((vv (ob id) ver).bind fun r=>(cn r s h).bind fun o=>
  some (.val (.row id (ver+1)) [(id,⟨ver+1,o,false⟩)])):=by
 have e1:eval Γ ob d (.cut s) [.row id ver,.d (.int q h)]=if (ob id).leak=true then tk ob false s false true [.row id ver,.d (.int q h)] else (yW ob id ver).bind fun (e,s',n,c,cells)=>
       if s'=s∧0 ≤ h∧h ≤ n then
        some (.val (.row id (ver+1)) [(id,{ ver:=ver+1,o:= .row e s' h.toNat c (cells.take (h.toNat * s')),leak:=false })])
       else none:=rfl
 rw [e1]
 cases (ob id).leak with
 | true=>rfl
 | false=>
   simp only [Bool.false_eq_true,if_false,qu,jn,cn]
   cases vv (ob id) ver with
   | none=>rfl
   | some r=>
     obtain ⟨e',s',m,cap,cells⟩:=r
     simp only [Option.bind_some]
     split <;> rfl
theorem Of (s:Nat) (x:D) (b:A):eval Γ ob d (.cut s) [.d x,b]=eval Γ ob d (.slc false s false true) [.d x,b]:=by
 cases b <;> rfl
theorem Pv (s:Nat) (q:IntKind) (h:Int):eval Γ ob d (.cut s) [.nil,.d (.int q h)]=if h=0 then some (.val .nil []) else none:=rfl
theorem QF:eval Γ ob d .cap [.nil]=some (.val (.d (.int .i64 0)) []):=rfl
theorem aE (g:Bool):eval Γ ob d (.snil g) [.nil]=some (.val (.d (.bool !g)) []):=rfl
theorem N0 (g:Bool) (ks:List Nat) (xs ys:List A):eval Γ ob d (.seq g ks) [.agg xs,.agg ys]=(wc ks xs ys).bind fun b=>some (.val (.d (.bool (if g then !b else b))) []):=rfl
omit Γ ob d in
theorem QL:wc [] [] []=some true:=rfl
omit Γ ob d in
theorem QC (ks:List Nat) (k:IntKind) (a b:Int) (xs ys:List A):wc (0 :: ks) (.d (.int k a) :: xs) (.d (.int k b) :: ys)=(wc ks xs ys).map fun r=>decide (a=b)&&r:=by
 simp [wc,xY,wl]; rfl
omit Γ ob d in
theorem Pl (ks:List Nat) (a b:ByteArray) (xs ys:List A):wc (1 :: ks) (.d (.str a) :: xs) (.d (.str b) :: ys)=(wc ks xs ys).map fun r=>(a.data.toList == b.data.toList)&&r:=by
 simp only [wc,xY,wl,and_self,if_true,Option.bind_some]
omit Γ ob d in
theorem SP (ks:List Nat) (a b:Bool) (xs ys:List A):wc (2 :: ks) (.d (.bool a) :: xs) (.d (.bool b) :: ys)=(wc ks xs ys).map fun r=>(a == b)&&r:=by
 simp [wc,xY,wl]
theorem X5 (g:Bool) (m:Nat) (cs:List D):eval Γ ob d (.snil g) [.d (.lstS m cs)]=some (.val (.d (.bool g)) []):=rfl
def oN (r:Nat×Nat×Nat×Option Nat×List D) (s:Nat) (lo hi:Bool) (bs:List A):Option D:=if r.2.1=s then
 (ub r.2.2.1 lo hi bs).bind fun (p:Nat×Nat)=>some (.lst (p.2 - p.1) ((r.2.2.2.2.drop (p.1 * s)).take ((p.2 - p.1) * s))) else none
theorem O3 (s:Nat) (lo hi:Bool) (id ver:Nat) (bs:List A):eval Γ ob d (.slc false s lo hi) (.row id ver :: bs)=(vv (ob id) ver).bind fun r=>
  (oN r s lo hi bs).bind fun x=>some (.val (.d x) (zl ob [id])):=by
 simp only [eval,tk,qu,oN]
 cases vv (ob id) ver with
 | none=>rfl
 | some r=>
   obtain ⟨e',s',m,cap,cells⟩:=r
   simp only [Option.bind_some,Bool.false_eq_true,if_false]
   split
   ·cases ub m lo hi bs <;> rfl
   ·rfl
def Ui (p:D×List Nat):Option Out:=match p.1 with
 | .lst n xs=>if n=xs.length then (rk xs).bind fun bs=>some (.val (.d (.str ⟨bs.toArray⟩)) []) else none
 | _=>none
theorem Lt (id ver:Nat):eval Γ ob d .b2s [.row id ver]=(iP (ob id) id ver).bind Ui:=by
 simp only [eval,cF]
 cases iP (ob id) id ver with
 | none=>rfl
 | some p=>obtain ⟨x,l⟩:=p; cases x <;> rfl
theorem MD (l:List Int) (ids:List Nat):Ui (zh c8 l,ids)=some (.val (.d (sD (qx l))) []):=by
 have h:(zb c8 l).length=l.length:=by rw [yM]; exact Nat.mul_one _
 simp only [Ui,zh,h,if_true,ko,Option.bind_some,sD]
theorem ZS (l:List α) (n o:Nat) (ho:o < c.sz):(zb c l)[n * c.sz+o]? =(l[n]?).bind fun x=>(c.enc x)[o]? :=by
 cases h:l[n]? with
 | none=>
   have:l.length ≤ n:=List.getElem?_eq_none_iff.mp h
   rw [List.getElem?_eq_none]
   ·rfl
   ·rw [yM]
    have:=Nat.mul_le_mul_right c.sz this
    omega
 | some x=>
   rw [← List.getElem?_drop,oA c h,List.getElem?_append_left (by rw [c.len]; exact ho)]; rfl
theorem RL (l:List α) (n s:Nat) (hs:s=c.sz):gy (zb c l) (n * s) s=(l[n]?).map c.enc:=by
 subst hs
 unfold gy
 cases h:l[n]? with
 | none=>
   have:l.length ≤ n:=List.getElem?_eq_none_iff.mp h
   rw [if_neg]
   ·rfl
   ·rw [yM]
    have:=Nat.mul_le_mul_right c.sz this
    have:=c.pos
    omega
 | some x=>
   have hn:n < l.length:=by
    apply Classical.byContradiction
    intro hn
    rw [List.getElem?_eq_none (by omega)] at h; cases h
   have hm:=Nat.mul_le_mul_right c.sz (show n+1 ≤ l.length from hn)
   rw [Nat.succ_mul] at hm
   rw [if_pos (by rw [yM]; exact hm),oA c h,List.take_append,List.take_of_length_le (by rw [c.len]; exact Nat.le_refl _),c.len]
   simp
theorem Xb (l:List α) (n:Nat) (x:α) (h:n < l.length):(zb c l).take (n * c.sz)++c.enc x++(zb c l).drop ((n+1) * c.sz)=zb c (l.set n x):=by
 rw [rN,rL,List.set_eq_take_append_cons_drop,if_pos h]
 simp [zb]
def oY (l:List α) (n:Nat) (x:α):Option (List α):=if n < l.length then some (l.set n x) else none
theorem ZC (e:Nat) (cap:Option Nat) (l:List α) (n s:Nat) (xs:List D) (x:α) (hs:s=c.sz) (hd:c.dec xs=some x):
  sO (e,s,l.length,cap,zb c l) (n * s) xs=(oY l n x).map fun l'=>zY c e cap l':=by
 subst hs
 obtain rfl:=c.dcd _ _ hd
 unfold sO oY
 simp only [c.len]
 by_cases h:n < l.length
 ·have hm:=Nat.mul_le_mul_right c.sz (show n+1 ≤ l.length from h)
  rw [if_pos (by rw [yM]; rw [Nat.succ_mul] at hm; exact hm),if_pos h]
  simp only [Option.map_some,zY,List.length_set]
  rw [← Xb c l n x h,Nat.succ_mul]
 ·rw [if_neg,if_neg h]
  ·rfl
  ·rw [yM]
   have:=Nat.mul_le_mul_right c.sz (show l.length ≤ n by omega)
   have:=c.pos
   omega
theorem M9 (e:Nat) (cap:Option Nat) (l l':List α) (s b:Nat) (hs:s=c.sz):
  nY (e,s,l.length,cap,zb c l) e s b (zh c l')=if vm b (l++l').length then some (zY c e none (l++l')) else none:=by
 subst hs
 unfold nY zh vm
 simp only [D.asLst,Option.bind_some,List.length_append,yM,true_and,c.pos,zY,qE]
def lw (l:List α):D:= .lstS l.length (zb c l)
theorem Ww {Γ:Ctx} {ob:Nat→Ob} {d:Nat} (g:Bool) (l:List α):eval Γ ob d (.snil g) [.d (lw c l)]=some (.val (.d (.bool g)) []):=rfl
theorem If (r:Nat×Nat×Nat×Option Nat×List D) (e s b:Nat) (l:List α):nY r e s b (lw c l)=nY r e s b (zh c l):=rfl
theorem Qi (e:Nat) (cap:Option Nat) (l:List α) (s b:Nat) (hs:s=c.sz) (z:List D) (x:α) (hx:c.dec z=some x) (k:Int):
  iH (e,s,l.length,cap,zb c l) e s b z k=if 0 ≤ k∧vm b (l++List.replicate k.toNat x).length then some (zY c e none (l++List.replicate k.toNat x)) else none:=by
 subst hs
 obtain rfl:=c.dcd _ _ hx
 have h1:(List.replicate k.toNat (c.enc x)).flatten=zb c (List.replicate k.toNat x):=by simp only [zb,List.flatMap_def,List.map_replicate]
 unfold iH vm
 simp only [c.len,true_and,c.pos,zY,qE,h1,List.length_append,List.length_replicate]
theorem MH (e:Nat) (cap:Option Nat) (l:List α) (s:Nat) (hs:s=c.sz) (h:Int):cn (e,s,l.length,cap,zb c l) s h=if 0 ≤ h∧h ≤ l.length then some (zY c e cap (l.take h.toNat)) else none:=by
 subst hs
 unfold cn
 by_cases hh:0 ≤ h∧h ≤ l.length
 ·rw [if_pos ⟨rfl,hh.1,hh.2⟩,if_pos hh]
  simp only [zY,List.length_take]
  rw [Nat.min_eq_left (by omega)]
  congr 2
  rw [rN]
 ·rw [if_neg (fun q=>hh ⟨q.2.1,q.2.2⟩),if_neg hh]
end
theorem Xi {α:Type} (c:Enc α) (l:List α) (lo hi:Int):((if 0 ≤ lo∧lo ≤ hi∧hi ≤ (l.length:Int) then some (lo.toNat,hi.toNat) else none).bind fun (p:Nat×Nat)=>
   some (D.lst (p.2 - p.1) (((zb c l).drop (p.1 * c.sz)).take ((p.2 - p.1) * c.sz))))=(cut l lo hi).bind fun l'=>some (zh c l'):=by
 unfold cut
 by_cases h:0 ≤ lo∧lo ≤ hi∧hi ≤ l.length
 ·rw [if_pos h,if_pos h]
  simp only [Option.bind_some,zh]
  rw [VP c l lo hi h,Zq l lo hi h]
 ·rw [if_neg h,if_neg h]; rfl
section
variable {α:Type} (c:Enc α)
theorem Ot (e s:Nat) (cap:Option Nat) (l:List α) (k k':IntKind) (lo hi:Int) (hs:s=c.sz):oN (e,s,l.length,cap,zb c l) s true true [.d (.int k lo),.d (.int k' hi)]=(cut l lo hi).bind fun l'=>some (zh c l'):=by
 subst hs
 rw [← Xi c l lo hi,← cU l.length k k' lo hi]; exact if_pos rfl
theorem MU (e s:Nat) (cap:Option Nat) (l:List α) (k:IntKind) (lo:Int) (hs:s=c.sz):oN (e,s,l.length,cap,zb c l) s true false [.d (.int k lo)]=(cut l lo l.length).bind fun l'=>some (zh c l'):=by
 subst hs
 rw [← Xi c l lo l.length,← bC l.length k lo]; exact if_pos rfl
theorem Mn (e s:Nat) (cap:Option Nat) (l:List α) (k:IntKind) (hi:Int) (hs:s=c.sz):oN (e,s,l.length,cap,zb c l) s false true [.d (.int k hi)]=(cut l 0 hi).bind fun l'=>some (zh c l'):=by
 subst hs
 rw [← Xi c l 0 hi,← bf l.length k hi]; exact if_pos rfl
end
theorem J9 {α:Type} (c:Enc α) (e:Nat) (cap:Option Nat):O.row e c.sz 0 cap []=zY c e cap []:=rfl
theorem IB {α:Type} (c:Enc α) (e:Nat) (cap:Option Nat) (xs:List D) (x:α) (h:c.dec xs=some x):O.row e c.sz 1 cap xs=zY c e cap [x]:=by
 obtain rfl:=c.dcd _ _ h
 simp [zY,zb]
theorem ZE {α:Type} (c:Enc α) (e:Nat) (cap:Option Nat) (n:Nat) (xs:List D) (x:α) (h:c.dec xs=some x):
  O.row e c.sz n cap (List.replicate n xs).flatten=zY c e cap (List.replicate n x):=by
 obtain rfl:=c.dcd _ _ h
 simp only [zY,zb,List.length_replicate,List.flatMap_def,List.map_replicate]
end Go.Vm
