/- The abstract machine's operations on the call's own objects, told by what the object is. -/
import Derived.Test.YtpjfklhaogdfeaaVmTyp
set_option linter.unusedSectionVars false
set_option linter.unusedSimpArgs false
set_option linter.unusedVariables false
namespace Go.Vm
def v7 (b n:Nat):Prop:=n * b ≤ uQ∧n ≤ 9223372036854775807
instance (b n:Nat):Decidable (v7 b n):=by unfold v7; infer_instance
def ZO (n:Nat):Prop:=n ≤ 9223372036854775807
instance (n:Nat):Decidable (ZO n):=by unfold ZO; infer_instance
def mP (x:Ob) (ver:Nat):Option (List A):=match x.o with
 | .box cells=>if x.ver=ver then some cells else none
 | _=>none
def uR (x:Ob) (ver:Nat):Option (Nat×Nat×Nat×Option Nat×List D):=match x.o with
 | .row e s n c cells=>if x.ver=ver then some (e,s,n,c,cells) else none
 | _=>none
theorem Lb (ob:Nat→Ob) (id ver:Nat):wa ob id ver=mP (ob id) ver:=rfl
theorem np (ob:Nat→Ob) (id ver:Nat):xL ob id ver=uR (ob id) ver:=rfl
theorem Oi (v ver:Nat) (cells:List A) (lk:Bool):mP ⟨v,.box cells,lk⟩ ver=if v=ver then some cells else none:=rfl
def dZ (x:Ob) (id ver:Nat):Option (D×List Nat):=match x.o with
 | .row _ _ n _ cells=>if x.ver=ver then some (.lst n cells,[id]) else none
 | _=>none
theorem YP (ob:Nat→Ob) (id ver:Nat):yX ob (.row id ver)=dZ (ob id) id ver:=rfl
def oX (m:Bool) (x:Ob) (id ver:Nat):Option (X×List Nat×List Nat):=match x.o with
 | .row e s n cap cells=>if x.ver=ver then (if m then (if x.leak=false then some (.own e s n none cells false,[],[id]) else none) else some (.d (.lst n cells),[id],[])) else none
 | .res k y=>if x.ver=ver then some (.res k y,[],[id]) else none
 | _=>none
theorem Nb (m:Bool) (ob:Nat→Ob) (id ver:Nat):toX m ob (.row id ver)=oX m (ob id) id ver:=rfl
def oXB (x:Ob) (id ver off:Nat):Option (X×List Nat×List Nat):=match x.o with
 | .box cells=>if x.ver=ver∧off=0 then (wC cells).map fun xs=>(.box (xs.map .d),[],[id]) else none
 | _=>none
theorem MQ (m:Bool) (ob:Nat→Ob) (id ver off:Nat):toX m ob (.adr id ver off)=oXB (ob id) id ver off:=rfl
theorem Nd (v id ver off:Nat) (cells:List A) (lk:Bool):oXB ⟨v,.box cells,lk⟩ id ver off=if v=ver∧off=0 then (wC cells).map fun xs=>(.box (xs.map .d),[],[id]) else none:=rfl
def fe (k:Option Nat) (x:Ob) (id ver:Nat):Option (X×List Nat):=match x.o with
 | .row e s n c cells=>if x.ver=ver then (match k with
     | some k=>some (.par k,[])
     | none=>some (.own e s n c cells x.leak,[id])) else none
 | .res q y=>if x.ver=ver then (match k with
     | some _=>none
     | none=>some (.res q y,[id])) else none
 | _=>none
@[congr] theorem IW {k k':Option Nat} {x x':Ob} {id ver:Nat} (h:k=k') (h':x=x'):fe k x id ver=fe k' x' id ver:=by rw [h,h']
theorem YV (ps:List Nat) (ob:Nat→Ob) (id ver:Nat):uU ps ob (.row id ver)=fe (oK ps id) (ob id) id ver:=by
 simp only [uU,fe]
 cases (ob id).o <;> rfl
def OR (ps:List Nat) (ob:Nat→Ob) (x:Ob) (id ver off:Nat):Option (X×List Nat):=match x.o with
 | .box cells=>if x.ver=ver∧off=0 then (wL ps ob cells).bind fun y=>if y.1.all tZ then some (.box y.1,y.2++[id]) else none else none
 | _=>none
theorem Vx (ps:List Nat) (ob:Nat→Ob) (id ver off:Nat):nQ ps ob (.adr id ver off)=OR ps ob (ob id) id ver off:=rfl
theorem T9 (ps:List Nat) (ob:Nat→Ob) (v id ver off:Nat) (cells:List A) (lk:Bool):OR ps ob ⟨v,.box cells,lk⟩ id ver off=
  if v=ver∧off=0 then (wL ps ob cells).bind fun y=>if y.1.all tZ then some (.box y.1,y.2++[id]) else none else none:=rfl
section
variable {Γ:Ctx} {ob:Nat→Ob} {d:Nat} {α:Type} (c:Enc α)
theorem II (v ver e:Nat) (cap:Option Nat) (l:List α) (lk:Bool):uR ⟨v,zW c e cap l,lk⟩ ver=if v=ver then some (e,c.sz,l.length,cap,zm c l) else none:=rfl
theorem Mg (v id ver e:Nat) (cap:Option Nat) (l:List α) (lk:Bool):dZ ⟨v,zW c e cap l,lk⟩ id ver=if v=ver then some (zf c l,[id]) else none:=rfl
theorem GZ (v id ver e:Nat) (cap:Option Nat) (l:List α) (lk:Bool):oX false ⟨v,zW c e cap l,lk⟩ id ver=if v=ver then some (.d (zf c l),[id],[]) else none:=rfl
theorem GM (v id ver e:Nat) (cap:Option Nat) (l:List α):oX true ⟨v,zW c e cap l,false⟩ id ver=if v=ver then some (zj c e none false l,[],[id]) else none:=rfl
theorem NP (v e:Nat) (cap:Option Nat) (l l':List α) (lk:Bool):om ⟨v,zW c e cap l,lk⟩ [zf c l']=some ⟨v,zW c e cap l',false⟩:=rfl
theorem Mh (v e:Nat) (cap:Option Nat) (l l':List α) (lk:Bool):om ⟨v,zW c e cap l,lk⟩ [zf c l',.bool true]=some ⟨v+1,zW c e none l',false⟩:=rfl
theorem Rw (v e:Nat) (cap:Option Nat) (l:List α):mF ob ⟨v,zW c e cap l,false⟩=if v=1 then some ([zf c l],[]) else some ([zf c l,.bool true],[]):=by simp [mF,zW,zf]
theorem QL (v e e' s:Nat) (cap:Option Nat) (l:List α) (lk:Bool) (hs:s=c.sz):my ⟨v,zW c e cap l,lk⟩ (.row e' s)=(e == e'):=by
 subst hs; simp [my,zW]
theorem IJ (v id ver e:Nat) (cap:Option Nat) (l:List α) (lk:Bool):fe none ⟨v,zW c e cap l,lk⟩ id ver=if v=ver then some (zj c e cap lk l,[id]) else none:=rfl
theorem Ka (k v id ver e:Nat) (cap:Option Nat) (l:List α) (lk:Bool):fe (some k) ⟨v,zW c e cap l,lk⟩ id ver=if v=ver then some (.par k,[]) else none:=rfl
theorem KS (ob:Nat→Ob) (ms:List Nat) (e:Nat) (cap:Option Nat) (lk:Bool) (l:List α) (a:A):yY ob ms (zj c e cap lk l) a=a:=by cases a <;> rfl
theorem Hp (e:Nat) (cap:Option Nat) (lk:Bool) (l:List α) (j:Nat):ofX ob d (zj c e cap lk l) j=
  (.row (oid d j) ((ob (oid d j)).ver+1),[(oid d j,⟨(ob (oid d j)).ver+1,zW c e cap l,lk⟩)],j+1):=rfl
theorem LV (m:List (Nat×Nat)) (e:Nat) (cap:Option Nat) (l:List α):oo m ob (zW c e cap l)=zW c e none l:=rfl
theorem QA (m:List (Nat×Nat)) (cells:List A):oo m ob (.box cells)= .box (p7 m ob cells):=rfl
theorem M6 (m:List (Nat×Nat)) (e:Nat) (cap:Option Nat) (l:List α):mZ m ob (zW c e cap l)=true:=rfl
theorem TE (m:List (Nat×Nat)) (cells:List A):mZ m ob (.box cells)=(p7 m ob cells).all one:=rfl
theorem Hx (s id ver:Nat) (k:IntKind) (i:Int):eval Γ ob d (.ia s) [.row id ver,.d (.int k i)]=
  (uR (ob id) ver).bind fun r=>if 0 ≤ i∧i < (r.2.2.1:Int) then some (.val (.rad id ver (i.toNat * s)) []) else none:=rfl
theorem SB (off id ver o:Nat):eval Γ ob d (.fa off) [.rad id ver o]=(uR (ob id) ver).bind fun _=>some (.val (.rad id ver (o+off)) []):=rfl
theorem IR (id ver off:Nat):eval Γ ob d (.ld none) [.rad id ver off]=(uR (ob id) ver).bind fun r=>(r.2.2.2.2[off]?).bind fun x=>some (.val (.d x) []):=rfl
def bi (cells:List D) (off n:Nat):Option (List D):=if off+n ≤ cells.length then some ((cells.drop off).take n) else none
theorem Iv (n id ver off:Nat):eval Γ ob d (.ld (some n)) [.rad id ver off]=(uR (ob id) ver).bind fun r=>(bi r.2.2.2.2 off n).bind fun xs=>some (.val (.agg (xs.map .d)) []):=by
 simp only [eval,pQ,np,bi,ok]
 cases uR (ob id) ver with
 | none=>rfl
 | some r=>simp only [Option.bind_some]; split <;> rfl
def q9 (r:Nat×Nat×Nat×Option Nat×List D) (off:Nat) (xs:List D):Option O:=
 if off+xs.length ≤ r.2.2.2.2.length then some (.row r.1 r.2.1 r.2.2.1 r.2.2.2.1 (r.2.2.2.2.take off++xs++r.2.2.2.2.drop (off+xs.length))) else none
theorem Pr (id:Nat):jU id []=true:=rfl
theorem SP (id i:Nat) (r:List Nat):jU id (i :: r)=if i=id then false else jU id r:=rfl
theorem Hv (n id ver off:Nat) (a:A):eval Γ ob d (.st n) [.rad id ver off,a]=(uR (ob id) ver).bind fun r=>(yH ob (cellsOf a)).bind fun p=>
  if (ob id).leak=false∧p.1.length=n∧jU id p.2=true then (q9 r off p.1).bind fun o=>some (.val .undef (zt ob p.2++[(id,⟨(ob id).ver,o,(ob id).leak⟩)])) else none:=by
 simp only [eval,ab,np,q9]
 cases uR (ob id) ver with
 | none=>rfl
 | some r=>
   obtain ⟨e,s,m,cap,cells⟩:=r
   simp only [Option.bind_some]
   cases yH ob (cellsOf a) with
   | none=>rfl
   | some p=>
     obtain ⟨xs,ls⟩:=p
     simp only [Option.bind_some]
     by_cases h1:(ob id).leak=false∧xs.length=n∧jU id ls=true
     ·rw [if_pos h1]
      by_cases h2:off+xs.length ≤ cells.length
      ·rw [if_pos ⟨h1.1,by omega,h1.2.1,h1.2.2⟩,if_pos h2,h1.2.1]; rfl
      ·rw [if_neg (fun q=>h2 (by omega)),if_neg h2]; rfl
     ·rw [if_neg h1,if_neg (fun q=>h1 ⟨q.1,q.2.2.1,q.2.2.2⟩)]
theorem Ke (id ver:Nat):eval Γ ob d (.len false) [.row id ver]=(uR (ob id) ver).bind fun r=>some (.val (.d (.int .i64 r.2.2.1)) []):=rfl
theorem In (id ver:Nat):eval Γ ob d .cap [.row id ver]=(uR (ob id) ver).bind fun r=>r.2.2.2.1.bind fun k=>some (.val (.d (.int .i64 k)) []):=rfl
def kT (r:Nat×Nat×Nat×Option Nat×List D) (e size b:Nat) (x:D):Option O:=x.asLst.bind fun p=>
 if r.2.1=size∧r.1=e∧0 < size∧p.2.length=p.1 * size∧(r.2.2.1+p.1) * b ≤ uQ∧r.2.2.1+p.1 ≤ 9223372036854775807 then
     some (.row e r.2.1 (r.2.2.1+p.1) none (r.2.2.2.2++p.2)) else none
theorem J5 (e s b id ver:Nat) (x:A):eval Γ ob d (.app e s b) [.row id ver,x]=(uR (ob id) ver).bind fun r=>(yX ob x).bind fun p=>(kT r e s b p.1).bind fun o=>
  some (.val (.row id (ver+1)) [(id,⟨ver+1,o,(ob id).leak⟩)]):=by
 simp only [eval,j7,np,kT]
 cases uR (ob id) ver with
 | none=>rfl
 | some r=>
   obtain ⟨e',s',m,cap,cells⟩:=r
   simp only [Option.bind_some]
   cases yX ob x with
   | none=>rfl
   | some p=>
     obtain ⟨y,ls⟩:=p
     simp only [Option.bind_some]
     cases y.asLst with
     | none=>rfl
     | some q=>
       obtain ⟨n,xs⟩:=q
       simp only [Option.bind_some]
       split <;> rename_i hc <;> first | (rw [hc.2.1]; rfl) | rfl
def dN (r:Nat×Nat×Nat×Option Nat×List D) (e size b:Nat) (z:List D) (k:Int):Option O:=
 if r.2.1=size∧r.1=e∧0 ≤ k∧z.length=size∧0 < size∧(r.2.2.1+k.toNat) * b ≤ uQ∧r.2.2.1+k.toNat ≤ 9223372036854775807 then
     some (.row e r.2.1 (r.2.2.1+k.toNat) none (r.2.2.2.2++(List.replicate k.toNat z).flatten)) else none
theorem MH (e s b id ver:Nat) (z:List D) (q:IntKind) (k:Int):eval Γ ob d (.appZ e s b z) [.row id ver,.d (.int q k)]=(uR (ob id) ver).bind fun r=>(dN r e s b z k).bind fun o=>
  some (.val (.row id (ver+1)) [(id,⟨ver+1,o,(ob id).leak⟩)]):=by
 simp only [eval,lW,np,dN]
 cases uR (ob id) ver with
 | none=>rfl
 | some r=>
   obtain ⟨e',s',m,cap,cells⟩:=r
   simp only [Option.bind_some]
   split <;> rename_i hc <;> first | (rw [hc.2.1]; rfl) | rfl
def Xp (e s n:Nat) (z:List D):O:= .row e s n none (List.replicate n z).flatten
def PB (id ver e s b:Nat) (z:List D) (k:Int):Option Out:=if 0 ≤ k∧z.length=s∧0 < s∧k.toNat * b ≤ uQ∧k ≤ 9223372036854775807 then
    (if k=0 then some (.val .nil []) else some (.val (.row id ver) [(id,⟨ver,Xp e s k.toNat z,false⟩)])) else none
theorem P2 (e s b:Nat) (z:List D) (q:IntKind) (k:Int):eval Γ ob d (.appZ e s b z) [.nil,.d (.int q k)]=PB (oid d 0) ((ob (oid d 0)).ver+1) e s b z k:=rfl
def fS (c:Bool) (x y:Option Out):Option Out:=match c with
 | true=>x
 | false=>y
@[congr] theorem IM {c c':Bool} {x y:Option Out} (h:c=c'):fS c x y=fS c' x y:=by rw [h]
theorem WG (x y:Option Out):fS true x y=x:=rfl
theorem Wp (x y:Option Out):fS false x y=y:=rfl
def Xg (r:Nat×Nat×Nat×Option Nat×List D) (s:Nat) (h:Int):Option O:=
 if r.2.1=s∧0 ≤ h∧h ≤ r.2.2.1 then some (.row r.1 r.2.1 h.toNat r.2.2.2.1 (r.2.2.2.2.take (h.toNat * r.2.1))) else none
theorem Kr (s id ver:Nat) (q:IntKind) (h:Int):eval Γ ob d (.cut s) [.row id ver,.d (.int q h)]=fS (ob id).leak (eval Γ ob d (.slc false s false true) [.row id ver,.d (.int q h)]) ((uR (ob id) ver).bind fun r=>(Xg r s h).bind fun o=>
  some (.val (.row id (ver+1)) [(id,⟨ver+1,o,false⟩)])):=by
 have e1:eval Γ ob d (.cut s) [.row id ver,.d (.int q h)]=if (ob id).leak=true then ry ob false s false true [.row id ver,.d (.int q h)] else (xL ob id ver).bind fun (e,s',n,c,cells)=>
       if s'=s∧0 ≤ h∧h ≤ n then
        some (.val (.row id (ver+1)) [(id,{ ver:=ver+1,o:= .row e s' h.toNat c (cells.take (h.toNat * s')),leak:=false })])
       else none:=rfl
 rw [e1]
 cases (ob id).leak with
 | true=>rfl
 | false=>
   simp only [Bool.false_eq_true,if_false,np,fS,Xg]
   cases uR (ob id) ver with
   | none=>rfl
   | some r=>
     obtain ⟨e',s',m,cap,cells⟩:=r
     simp only [Option.bind_some]
     split <;> rfl
theorem M4 (s:Nat) (x:D) (b:A):eval Γ ob d (.cut s) [.d x,b]=eval Γ ob d (.slc false s false true) [.d x,b]:=by
 cases b <;> rfl
theorem NY (s:Nat) (q:IntKind) (h:Int):eval Γ ob d (.cut s) [.nil,.d (.int q h)]=if h=0 then some (.val .nil []) else none:=rfl
theorem MV:eval Γ ob d .cap [.nil]=some (.val (.d (.int .i64 0)) []):=rfl
theorem XE (g:Bool):eval Γ ob d (.snil g) [.nil]=some (.val (.d (.bool !g)) []):=rfl
theorem Kl (g:Bool) (ks:List Nat) (xs ys:List A):eval Γ ob d (.seq g ks) [.agg xs,.agg ys]=(vB ks xs ys).bind fun b=>some (.val (.d (.bool (if g then !b else b))) []):=rfl
omit Γ ob d in
theorem Nr:vB [] [] []=some true:=rfl
omit Γ ob d in
theorem MN (ks:List Nat) (k:IntKind) (a b:Int) (xs ys:List A):vB (0 :: ks) (.d (.int k a) :: xs) (.d (.int k b) :: ys)=(vB ks xs ys).map fun r=>decide (a=b)&&r:=by
 simp [vB,vh,vK]; rfl
omit Γ ob d in
theorem MX (ks:List Nat) (a b:ByteArray) (xs ys:List A):vB (1 :: ks) (.d (.str a) :: xs) (.d (.str b) :: ys)=(vB ks xs ys).map fun r=>(a.data.toList == b.data.toList)&&r:=by
 simp only [vB,vh,vK,and_self,if_true,Option.bind_some]
omit Γ ob d in
theorem Pf (ks:List Nat) (a b:Bool) (xs ys:List A):vB (2 :: ks) (.d (.bool a) :: xs) (.d (.bool b) :: ys)=(vB ks xs ys).map fun r=>(a == b)&&r:=by
 simp [vB,vh,vK]
theorem T0 (g:Bool) (m:Nat) (cs:List D):eval Γ ob d (.snil g) [.d (.lstS m cs)]=some (.val (.d (.bool g)) []):=rfl
def lB (r:Nat×Nat×Nat×Option Nat×List D) (s:Nat) (lo hi:Bool) (bs:List A):Option D:=if r.2.1=s then
 (u5 r.2.2.1 lo hi bs).bind fun (p:Nat×Nat)=>some (.lst (p.2 - p.1) ((r.2.2.2.2.drop (p.1 * s)).take ((p.2 - p.1) * s))) else none
theorem Io (s:Nat) (lo hi:Bool) (id ver:Nat) (bs:List A):eval Γ ob d (.slc false s lo hi) (.row id ver :: bs)=(uR (ob id) ver).bind fun r=>
  (lB r s lo hi bs).bind fun x=>some (.val (.d x) (zt ob [id])):=by
 simp only [eval,ry,np,lB]
 cases uR (ob id) ver with
 | none=>rfl
 | some r=>
   obtain ⟨e',s',m,cap,cells⟩:=r
   simp only [Option.bind_some,Bool.false_eq_true,if_false]
   split
   ·cases u5 m lo hi bs <;> rfl
   ·rfl
def Pb (p:D×List Nat):Option Out:=match p.1 with
 | .lst n xs=>if n=xs.length then (og xs).bind fun bs=>some (.val (.d (.str ⟨bs.toArray⟩)) []) else none
 | _=>none
theorem Jd (id ver:Nat):eval Γ ob d .b2s [.row id ver]=(dZ (ob id) id ver).bind Pb:=by
 simp only [eval,YP]
 cases dZ (ob id) id ver with
 | none=>rfl
 | some p=>obtain ⟨x,l⟩:=p; cases x <;> rfl
theorem K9 (l:List Int) (ids:List Nat):Pb (zf c8 l,ids)=some (.val (.d (sD (c9 l))) []):=by
 have h:(zm c8 l).length=l.length:=by rw [xw]; exact Nat.mul_one _
 simp only [Pb,zf,h,if_true,gJ,Option.bind_some,sD]
theorem Vs (l:List α) (n o:Nat) (ho:o < c.sz):(zm c l)[n * c.sz+o]? =(l[n]?).bind fun x=>(c.enc x)[o]? :=by
 cases h:l[n]? with
 | none=>
   have:l.length ≤ n:=List.getElem?_eq_none_iff.mp h
   rw [List.getElem?_eq_none]
   ·rfl
   ·rw [xw]
    have:=Nat.mul_le_mul_right c.sz this
    omega
 | some x=>
   rw [← List.getElem?_drop,m8 c h,List.getElem?_append_left (by rw [c.len]; exact ho)]; rfl
theorem O9 (l:List α) (n s:Nat) (hs:s=c.sz):bi (zm c l) (n * s) s=(l[n]?).map c.enc:=by
 subst hs
 unfold bi
 cases h:l[n]? with
 | none=>
   have:l.length ≤ n:=List.getElem?_eq_none_iff.mp h
   rw [if_neg]
   ·rfl
   ·rw [xw]
    have:=Nat.mul_le_mul_right c.sz this
    have:=c.pos
    omega
 | some x=>
   have hn:n < l.length:=by
    apply Classical.byContradiction
    intro hn
    rw [List.getElem?_eq_none (by omega)] at h; cases h
   have hm:=Nat.mul_le_mul_right c.sz (show n+1 ≤ l.length from hn)
   rw [Nat.succ_mul] at hm
   rw [if_pos (by rw [xw]; exact hm),m8 c h,List.take_append,List.take_of_length_le (by rw [c.len]; exact Nat.le_refl _),c.len]
   simp
theorem Uh (l:List α) (n:Nat) (x:α) (h:n < l.length):(zm c l).take (n * c.sz)++c.enc x++(zm c l).drop ((n+1) * c.sz)=zm c (l.set n x):=by
 rw [oC,oB,List.set_eq_take_append_cons_drop,if_pos h]
 simp [zm]
def uM (l:List α) (n:Nat) (x:α):Option (List α):=if n < l.length then some (l.set n x) else none
theorem Wu (e:Nat) (cap:Option Nat) (l:List α) (n s:Nat) (xs:List D) (x:α) (hs:s=c.sz) (hd:c.dec xs=some x):
  q9 (e,s,l.length,cap,zm c l) (n * s) xs=(uM l n x).map fun l'=>zW c e cap l':=by
 subst hs
 obtain rfl:=c.dcd _ _ hd
 unfold q9 uM
 simp only [c.len]
 by_cases h:n < l.length
 ·have hm:=Nat.mul_le_mul_right c.sz (show n+1 ≤ l.length from h)
  rw [if_pos (by rw [xw]; rw [Nat.succ_mul] at hm; exact hm),if_pos h]
  simp only [Option.map_some,zW,List.length_set]
  rw [← Uh c l n x h,Nat.succ_mul]
 ·rw [if_neg,if_neg h]
  ·rfl
  ·rw [xw]
   have:=Nat.mul_le_mul_right c.sz (show l.length ≤ n by omega)
   have:=c.pos
   omega
theorem Kt (e:Nat) (cap:Option Nat) (l l':List α) (s b:Nat) (hs:s=c.sz):
  kT (e,s,l.length,cap,zm c l) e s b (zf c l')=if v7 b (l++l').length then some (zW c e none (l++l')) else none:=by
 subst hs
 unfold kT zf v7
 simp only [D.asLst,Option.bind_some,List.length_append,xw,true_and,c.pos,zW,nJ]
def j8 (l:List α):D:= .lstS l.length (zm c l)
theorem TX {Γ:Ctx} {ob:Nat→Ob} {d:Nat} (g:Bool) (l:List α):eval Γ ob d (.snil g) [.d (j8 c l)]=some (.val (.d (.bool g)) []):=rfl
theorem Fy (r:Nat×Nat×Nat×Option Nat×List D) (e s b:Nat) (l:List α):kT r e s b (j8 c l)=kT r e s b (zf c l):=rfl
theorem O7 (e:Nat) (cap:Option Nat) (l:List α) (s b:Nat) (hs:s=c.sz) (z:List D) (x:α) (hx:c.dec z=some x) (k:Int):
  dN (e,s,l.length,cap,zm c l) e s b z k=if 0 ≤ k∧v7 b (l++List.replicate k.toNat x).length then some (zW c e none (l++List.replicate k.toNat x)) else none:=by
 subst hs
 obtain rfl:=c.dcd _ _ hx
 have h1:(List.replicate k.toNat (c.enc x)).flatten=zm c (List.replicate k.toNat x):=by simp only [zm,List.flatMap_def,List.map_replicate]
 unfold dN v7
 simp only [c.len,true_and,c.pos,zW,nJ,h1,List.length_append,List.length_replicate]
theorem KN (e:Nat) (cap:Option Nat) (l:List α) (s:Nat) (hs:s=c.sz) (h:Int):Xg (e,s,l.length,cap,zm c l) s h=if 0 ≤ h∧h ≤ l.length then some (zW c e cap (l.take h.toNat)) else none:=by
 subst hs
 unfold Xg
 by_cases hh:0 ≤ h∧h ≤ l.length
 ·rw [if_pos ⟨rfl,hh.1,hh.2⟩,if_pos hh]
  simp only [zW,List.length_take]
  rw [Nat.min_eq_left (by omega)]
  congr 2
  rw [oC]
 ·rw [if_neg (fun q=>hh ⟨q.2.1,q.2.2⟩),if_neg hh]
end
theorem Vc {α:Type} (c:Enc α) (l:List α) (lo hi:Int):((if 0 ≤ lo∧lo ≤ hi∧hi ≤ (l.length:Int) then some (lo.toNat,hi.toNat) else none).bind fun (p:Nat×Nat)=>
   some (D.lst (p.2 - p.1) (((zm c l).drop (p.1 * c.sz)).take ((p.2 - p.1) * c.sz))))=(cut l lo hi).bind fun l'=>some (zf c l'):=by
 unfold cut
 by_cases h:0 ≤ lo∧lo ≤ hi∧hi ≤ l.length
 ·rw [if_pos h,if_pos h]
  simp only [Option.bind_some,zf]
  rw [Tj c l lo hi h,Wq l lo hi h]
 ·rw [if_neg h,if_neg h]; rfl
section
variable {α:Type} (c:Enc α)
theorem JA (e s:Nat) (cap:Option Nat) (l:List α) (k k':IntKind) (lo hi:Int) (hs:s=c.sz):lB (e,s,l.length,cap,zm c l) s true true [.d (.int k lo),.d (.int k' hi)]=(cut l lo hi).bind fun l'=>some (zf c l'):=by
 subst hs
 rw [← Vc c l lo hi,← Xv l.length k k' lo hi]; exact if_pos rfl
theorem LC (e s:Nat) (cap:Option Nat) (l:List α) (k:IntKind) (lo:Int) (hs:s=c.sz):lB (e,s,l.length,cap,zm c l) s true false [.d (.int k lo)]=(cut l lo l.length).bind fun l'=>some (zf c l'):=by
 subst hs
 rw [← Vc c l lo l.length,← YJ l.length k lo]; exact if_pos rfl
theorem JK (e s:Nat) (cap:Option Nat) (l:List α) (k:IntKind) (hi:Int) (hs:s=c.sz):lB (e,s,l.length,cap,zm c l) s false true [.d (.int k hi)]=(cut l 0 hi).bind fun l'=>some (zf c l'):=by
 subst hs
 rw [← Vc c l 0 hi,← YF l.length k hi]; exact if_pos rfl
end
theorem FG {α:Type} (c:Enc α) (e:Nat) (cap:Option Nat):O.row e c.sz 0 cap []=zW c e cap []:=rfl
theorem FV {α:Type} (c:Enc α) (e:Nat) (cap:Option Nat) (xs:List D) (x:α) (h:c.dec xs=some x):O.row e c.sz 1 cap xs=zW c e cap [x]:=by
 obtain rfl:=c.dcd _ _ h
 simp [zW,zm]
theorem WM {α:Type} (c:Enc α) (e:Nat) (cap:Option Nat) (n:Nat) (xs:List D) (x:α) (h:c.dec xs=some x):
  O.row e c.sz n cap (List.replicate n xs).flatten=zW c e cap (List.replicate n x):=by
 obtain rfl:=c.dcd _ _ h
 simp only [zW,zm,List.length_replicate,List.flatMap_def,List.map_replicate]
end Go.Vm
