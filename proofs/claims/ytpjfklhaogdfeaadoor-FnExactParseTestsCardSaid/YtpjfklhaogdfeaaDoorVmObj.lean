/- The abstract machine's operations on the call's own objects, told by what the object is. -/
import Derived.Test.YtpjfklhaogdfeaaDoorVmTyp
set_option linter.unusedSectionVars false
set_option linter.unusedSimpArgs false
set_option linter.unusedVariables false
namespace Go.Vm
def tl (b n:Nat):Prop:=n * b ≤ vQ∧n ≤ 9223372036854775807
instance (b n:Nat):Decidable (tl b n):=by unfold tl; infer_instance
def oO (n:Nat):Prop:=n ≤ 9223372036854775807
instance (n:Nat):Decidable (oO n):=by unfold oO; infer_instance
def pp (x:Ob) (ver:Nat):Option (List A):=match x.o with
 | .box cells=>if x.ver=ver then some cells else none
 | _=>none
def vU (x:Ob) (ver:Nat):Option (Nat×Nat×Nat×Option Nat×List D):=match x.o with
 | .row e s n c cells=>if x.ver=ver then some (e,s,n,c,cells) else none
 | _=>none
theorem Rj (ob:Nat→Ob) (id ver:Nat):xk ob id ver=pp (ob id) ver:=rfl
theorem rM (ob:Nat→Ob) (id ver:Nat):yX ob id ver=vU (ob id) ver:=rfl
theorem Vj (v ver:Nat) (cells:List A) (lk:Bool):pp ⟨v,.box cells,lk⟩ ver=if v=ver then some cells else none:=rfl
def jT (x:Ob) (id ver:Nat):Option (D×List Nat):=match x.o with
 | .row _ _ n _ cells=>if x.ver=ver then some (.lst n cells,[id]) else none
 | _=>none
theorem dY (ob:Nat→Ob) (id ver:Nat):yk ob (.row id ver)=jT (ob id) id ver:=rfl
def oX (m:Bool) (x:Ob) (id ver:Nat):Option (X×List Nat×List Nat):=match x.o with
 | .row e s n cap cells=>if x.ver=ver then (if m then (if x.leak=false then some (.own e s n none cells false,[],[id]) else none) else some (.d (.lst n cells),[id],[])) else none
 | .res k y=>if x.ver=ver then some (.res k y,[],[id]) else none
 | _=>none
theorem Sz (m:Bool) (ob:Nat→Ob) (id ver:Nat):toX m ob (.row id ver)=oX m (ob id) id ver:=rfl
def oXB (x:Ob) (id ver off:Nat):Option (X×List Nat×List Nat):=match x.o with
 | .box cells=>if x.ver=ver∧off=0 then (xD cells).map fun xs=>(.box (xs.map .d),[],[id]) else none
 | _=>none
theorem Ra (m:Bool) (ob:Nat→Ob) (id ver off:Nat):toX m ob (.adr id ver off)=oXB (ob id) id ver off:=rfl
theorem Rd (v id ver off:Nat) (cells:List A) (lk:Bool):oXB ⟨v,.box cells,lk⟩ id ver off=if v=ver∧off=0 then (xD cells).map fun xs=>(.box (xs.map .d),[],[id]) else none:=rfl
def m7 (k:Option Nat) (x:Ob) (id ver:Nat):Option (X×List Nat):=match x.o with
 | .row e s n c cells=>if x.ver=ver then (match k with
     | some k=>some (.par k,[])
     | none=>some (.own e s n c cells x.leak,[id])) else none
 | .res q y=>if x.ver=ver then (match k with
     | some _=>none
     | none=>some (.res q y,[id])) else none
 | _=>none
@[congr] theorem NR {k k':Option Nat} {x x':Ob} {id ver:Nat} (h:k=k') (h':x=x'):m7 k x id ver=m7 k' x' id ver:=by rw [h,h']
theorem dB (ps:List Nat) (ob:Nat→Ob) (id ver:Nat):vS ps ob (.row id ver)=m7 (rn ps id) (ob id) id ver:=by
 simp only [vS,m7]
 cases (ob id).o <;> rfl
def Tn (ps:List Nat) (ob:Nat→Ob) (x:Ob) (id ver off:Nat):Option (X×List Nat):=match x.o with
 | .box cells=>if x.ver=ver∧off=0 then (xM ps ob cells).bind fun y=>if y.1.all ux then some (.box y.1,y.2++[id]) else none else none
 | _=>none
theorem ZG (ps:List Nat) (ob:Nat→Ob) (id ver off:Nat):qg ps ob (.adr id ver off)=Tn ps ob (ob id) id ver off:=rfl
theorem XB (ps:List Nat) (ob:Nat→Ob) (v id ver off:Nat) (cells:List A) (lk:Bool):Tn ps ob ⟨v,.box cells,lk⟩ id ver off=
  if v=ver∧off=0 then (xM ps ob cells).bind fun y=>if y.1.all ux then some (.box y.1,y.2++[id]) else none else none:=rfl
section
variable {Γ:Ctx} {ob:Nat→Ob} {d:Nat} {α:Type} (c:Enc α)
theorem QW (v ver e:Nat) (cap:Option Nat) (l:List α) (lk:Bool):vU ⟨v,zP c e cap l,lk⟩ ver=if v=ver then some (e,c.sz,l.length,cap,zf c l) else none:=rfl
theorem Rm (v id ver e:Nat) (cap:Option Nat) (l:List α) (lk:Bool):jT ⟨v,zP c e cap l,lk⟩ id ver=if v=ver then some (zb c l,[id]) else none:=rfl
theorem Lm (v id ver e:Nat) (cap:Option Nat) (l:List α) (lk:Bool):oX false ⟨v,zP c e cap l,lk⟩ id ver=if v=ver then some (.d (zb c l),[id],[]) else none:=rfl
theorem M9 (v id ver e:Nat) (cap:Option Nat) (l:List α):oX true ⟨v,zP c e cap l,false⟩ id ver=if v=ver then some (zx c e none false l,[],[id]) else none:=rfl
theorem RM (v e:Nat) (cap:Option Nat) (l l':List α) (lk:Bool):sY ⟨v,zP c e cap l,lk⟩ [zb c l']=some ⟨v,zP c e cap l',false⟩:=rfl
theorem SX (v e:Nat) (cap:Option Nat) (l l':List α) (lk:Bool):sY ⟨v,zP c e cap l,lk⟩ [zb c l',.bool true]=some ⟨v+1,zP c e none l',false⟩:=rfl
theorem WT (v e:Nat) (cap:Option Nat) (l:List α):qQ ob ⟨v,zP c e cap l,false⟩=if v=1 then some ([zb c l],[]) else some ([zb c l,.bool true],[]):=by simp [qQ,zP,zb]
theorem WA (v e e' s:Nat) (cap:Option Nat) (l:List α) (lk:Bool) (hs:s=c.sz):qX ⟨v,zP c e cap l,lk⟩ (.row e' s)=(e == e'):=by
 subst hs; simp [qX,zP]
theorem Pt (v id ver e:Nat) (cap:Option Nat) (l:List α) (lk:Bool):m7 none ⟨v,zP c e cap l,lk⟩ id ver=if v=ver then some (zx c e cap lk l,[id]) else none:=rfl
theorem OP (k v id ver e:Nat) (cap:Option Nat) (l:List α) (lk:Bool):m7 (some k) ⟨v,zP c e cap l,lk⟩ id ver=if v=ver then some (.par k,[]) else none:=rfl
theorem QL (ob:Nat→Ob) (ms:List Nat) (e:Nat) (cap:Option Nat) (lk:Bool) (l:List α) (a:A):yi ob ms (zx c e cap lk l) a=a:=by cases a <;> rfl
theorem Np (e:Nat) (cap:Option Nat) (lk:Bool) (l:List α) (j:Nat):ofX ob d (zx c e cap lk l) j=
  (.row (oid d j) ((ob (oid d j)).ver+1),[(oid d j,⟨(ob (oid d j)).ver+1,zP c e cap l,lk⟩)],j+1):=rfl
theorem Pl (m:List (Nat×Nat)) (e:Nat) (cap:Option Nat) (l:List α):ra m ob (zP c e cap l)=zP c e none l:=rfl
theorem WK (m:List (Nat×Nat)) (cells:List A):ra m ob (.box cells)= .box (sW m ob cells):=rfl
theorem TK (m:List (Nat×Nat)) (e:Nat) (cap:Option Nat) (l:List α):pG m ob (zP c e cap l)=true:=rfl
theorem Y4 (m:List (Nat×Nat)) (cells:List A):pG m ob (.box cells)=(sW m ob cells).all one:=rfl
theorem Mi (s id ver:Nat) (k:IntKind) (i:Int):eval Γ ob d (.ia s) [.row id ver,.d (.int k i)]=
  (vU (ob id) ver).bind fun r=>if 0 ≤ i∧i < (r.2.2.1:Int) then some (.val (.rad id ver (i.toNat * s)) []) else none:=rfl
theorem Xt (off id ver o:Nat):eval Γ ob d (.fa off) [.rad id ver o]=(vU (ob id) ver).bind fun _=>some (.val (.rad id ver (o+off)) []):=rfl
theorem Mc (id ver off:Nat):eval Γ ob d (.ld none) [.rad id ver off]=(vU (ob id) ver).bind fun r=>(r.2.2.2.2[off]?).bind fun x=>some (.val (.d x) []):=rfl
def it (cells:List D) (off n:Nat):Option (List D):=if off+n ≤ cells.length then some ((cells.drop off).take n) else none
theorem O9 (n id ver off:Nat):eval Γ ob d (.ld (some n)) [.rad id ver off]=(vU (ob id) ver).bind fun r=>(it r.2.2.2.2 off n).bind fun xs=>some (.val (.agg (xs.map .d)) []):=by
 simp only [eval,s5,rM,it,ok]
 cases vU (ob id) ver with
 | none=>rfl
 | some r=>simp only [Option.bind_some]; split <;> rfl
def sg (r:Nat×Nat×Nat×Option Nat×List D) (off:Nat) (xs:List D):Option O:=
 if off+xs.length ≤ r.2.2.2.2.length then some (.row r.1 r.2.1 r.2.2.1 r.2.2.2.1 (r.2.2.2.2.take off++xs++r.2.2.2.2.drop (off+xs.length))) else none
theorem UX (id:Nat):mz id []=true:=rfl
theorem Xb (id i:Nat) (r:List Nat):mz id (i :: r)=if i=id then false else mz id r:=rfl
theorem Ny (n id ver off:Nat) (a:A):eval Γ ob d (.st n) [.rad id ver off,a]=(vU (ob id) ver).bind fun r=>(zR ob (cellsOf a)).bind fun p=>
  if (ob id).leak=false∧p.1.length=n∧mz id p.2=true then (sg r off p.1).bind fun o=>some (.val .undef (zg ob p.2++[(id,⟨(ob id).ver,o,(ob id).leak⟩)])) else none:=by
 simp only [eval,iP,rM,sg]
 cases vU (ob id) ver with
 | none=>rfl
 | some r=>
   obtain ⟨e,s,m,cap,cells⟩:=r
   simp only [Option.bind_some]
   cases zR ob (cellsOf a) with
   | none=>rfl
   | some p=>
     obtain ⟨xs,ls⟩:=p
     simp only [Option.bind_some]
     by_cases h1:(ob id).leak=false∧xs.length=n∧mz id ls=true
     ·rw [if_pos h1]
      by_cases h2:off+xs.length ≤ cells.length
      ·rw [if_pos ⟨h1.1,by omega,h1.2.1,h1.2.2⟩,if_pos h2,h1.2.1]; rfl
      ·rw [if_neg (fun q=>h2 (by omega)),if_neg h2]; rfl
     ·rw [if_neg h1,if_neg (fun q=>h1 ⟨q.1,q.2.2.1,q.2.2.2⟩)]
theorem OE (id ver:Nat):eval Γ ob d (.len false) [.row id ver]=(vU (ob id) ver).bind fun r=>some (.val (.d (.int .i64 r.2.2.1)) []):=rfl
theorem Pq (id ver:Nat):eval Γ ob d .cap [.row id ver]=(vU (ob id) ver).bind fun r=>r.2.2.2.1.bind fun k=>some (.val (.d (.int .i64 k)) []):=rfl
def nd (r:Nat×Nat×Nat×Option Nat×List D) (e size b:Nat) (x:D):Option O:=x.asLst.bind fun p=>
 if r.2.1=size∧r.1=e∧0 < size∧p.2.length=p.1 * size∧(r.2.2.1+p.1) * b ≤ vQ∧r.2.2.1+p.1 ≤ 9223372036854775807 then
     some (.row e r.2.1 (r.2.2.1+p.1) none (r.2.2.2.2++p.2)) else none
theorem Qc (e s b id ver:Nat) (x:A):eval Γ ob d (.app e s b) [.row id ver,x]=(vU (ob id) ver).bind fun r=>(yk ob x).bind fun p=>(nd r e s b p.1).bind fun o=>
  some (.val (.row id (ver+1)) [(id,⟨ver+1,o,(ob id).leak⟩)]):=by
 simp only [eval,nV,rM,nd]
 cases vU (ob id) ver with
 | none=>rfl
 | some r=>
   obtain ⟨e',s',m,cap,cells⟩:=r
   simp only [Option.bind_some]
   cases yk ob x with
   | none=>rfl
   | some p=>
     obtain ⟨y,ls⟩:=p
     simp only [Option.bind_some]
     cases y.asLst with
     | none=>rfl
     | some q=>
       obtain ⟨n,xs⟩:=q
       simp only [Option.bind_some]
       split <;> rename_i hc <;> first | (rw [hc.2.1]; rfl) | rfl
def jP (r:Nat×Nat×Nat×Option Nat×List D) (e size b:Nat) (z:List D) (k:Int):Option O:=
 if r.2.1=size∧r.1=e∧0 ≤ k∧z.length=size∧0 < size∧(r.2.2.1+k.toNat) * b ≤ vQ∧r.2.2.1+k.toNat ≤ 9223372036854775807 then
     some (.row e r.2.1 (r.2.2.1+k.toNat) none (r.2.2.2.2++(List.replicate k.toNat z).flatten)) else none
theorem RI (e s b id ver:Nat) (z:List D) (q:IntKind) (k:Int):eval Γ ob d (.appZ e s b z) [.row id ver,.d (.int q k)]=(vU (ob id) ver).bind fun r=>(jP r e s b z k).bind fun o=>
  some (.val (.row id (ver+1)) [(id,⟨ver+1,o,(ob id).leak⟩)]):=by
 simp only [eval,oe,rM,jP]
 cases vU (ob id) ver with
 | none=>rfl
 | some r=>
   obtain ⟨e',s',m,cap,cells⟩:=r
   simp only [Option.bind_some]
   split <;> rename_i hc <;> first | (rw [hc.2.1]; rfl) | rfl
def d5 (e s n:Nat) (z:List D):O:= .row e s n none (List.replicate n z).flatten
def Wn (id ver e s b:Nat) (z:List D) (k:Int):Option Out:=if 0 ≤ k∧z.length=s∧0 < s∧k.toNat * b ≤ vQ∧k ≤ 9223372036854775807 then
    (if k=0 then some (.val .nil []) else some (.val (.row id ver) [(id,⟨ver,d5 e s k.toNat z,false⟩)])) else none
theorem VY (e s b:Nat) (z:List D) (q:IntKind) (k:Int):eval Γ ob d (.appZ e s b z) [.nil,.d (.int q k)]=Wn (oid d 0) ((ob (oid d 0)).ver+1) e s b z k:=rfl
def km (c:Bool) (x y:Option Out):Option Out:=match c with
 | true=>x
 | false=>y
@[congr] theorem Nn {c c':Bool} {x y:Option Out} (h:c=c'):km c x y=km c' x y:=by rw [h]
theorem bK (x y:Option Out):km true x y=x:=rfl
theorem bi (x y:Option Out):km false x y=y:=rfl
def dP (r:Nat×Nat×Nat×Option Nat×List D) (s:Nat) (h:Int):Option O:=
 if r.2.1=s∧0 ≤ h∧h ≤ r.2.2.1 then some (.row r.1 r.2.1 h.toNat r.2.2.2.1 (r.2.2.2.2.take (h.toNat * r.2.1))) else none
theorem Nb (s id ver:Nat) (q:IntKind) (h:Int):eval Γ ob d (.cut s) [.row id ver,.d (.int q h)]=km (ob id).leak (eval Γ ob d (.slc false s false true) [.row id ver,.d (.int q h)]) ((vU (ob id) ver).bind fun r=>(dP r s h).bind fun o=>
  some (.val (.row id (ver+1)) [(id,⟨ver+1,o,false⟩)])):=by
 have e1:eval Γ ob d (.cut s) [.row id ver,.d (.int q h)]=if (ob id).leak=true then tv ob false s false true [.row id ver,.d (.int q h)] else (yX ob id ver).bind fun (e,s',n,c,cells)=>
       if s'=s∧0 ≤ h∧h ≤ n then
        some (.val (.row id (ver+1)) [(id,{ ver:=ver+1,o:= .row e s' h.toNat c (cells.take (h.toNat * s')),leak:=false })])
       else none:=rfl
 rw [e1]
 cases (ob id).leak with
 | true=>rfl
 | false=>
   simp only [Bool.false_eq_true,if_false,rM,km,dP]
   cases vU (ob id) ver with
   | none=>rfl
   | some r=>
     obtain ⟨e',s',m,cap,cells⟩:=r
     simp only [Option.bind_some]
     split <;> rfl
theorem RR (s:Nat) (x:D) (b:A):eval Γ ob d (.cut s) [.d x,b]=eval Γ ob d (.slc false s false true) [.d x,b]:=by
 cases b <;> rfl
theorem RH (s:Nat) (q:IntKind) (h:Int):eval Γ ob d (.cut s) [.nil,.d (.int q h)]=if h=0 then some (.val .nil []) else none:=rfl
theorem RF:eval Γ ob d .cap [.nil]=some (.val (.d (.int .i64 0)) []):=rfl
theorem cz (g:Bool):eval Γ ob d (.snil g) [.nil]=some (.val (.d (.bool !g)) []):=rfl
theorem O1 (g:Bool) (ks:List Nat) (xs ys:List A):eval Γ ob d (.seq g ks) [.agg xs,.agg ys]=(wD ks xs ys).bind fun b=>some (.val (.d (.bool (if g then !b else b))) []):=rfl
omit Γ ob d in
theorem RP:wD [] [] []=some true:=rfl
omit Γ ob d in
theorem Rz (ks:List Nat) (k:IntKind) (a b:Int) (xs ys:List A):wD (0 :: ks) (.d (.int k a) :: xs) (.d (.int k b) :: ys)=(wD ks xs ys).map fun r=>decide (a=b)&&r:=by
 simp [wD,wj,wI]; rfl
omit Γ ob d in
theorem Sm (ks:List Nat) (a b:ByteArray) (xs ys:List A):wD (1 :: ks) (.d (.str a) :: xs) (.d (.str b) :: ys)=(wD ks xs ys).map fun r=>(a.data.toList == b.data.toList)&&r:=by
 simp only [wD,wj,wI,and_self,if_true,Option.bind_some]
omit Γ ob d in
theorem WR (ks:List Nat) (a b:Bool) (xs ys:List A):wD (2 :: ks) (.d (.bool a) :: xs) (.d (.bool b) :: ys)=(wD ks xs ys).map fun r=>(a == b)&&r:=by
 simp [wD,wj,wI]
theorem YO (g:Bool) (m:Nat) (cs:List D):eval Γ ob d (.snil g) [.d (.lstS m cs)]=some (.val (.d (.bool g)) []):=rfl
def om (r:Nat×Nat×Nat×Option Nat×List D) (s:Nat) (lo hi:Bool) (bs:List A):Option D:=if r.2.1=s then
 (uc r.2.2.1 lo hi bs).bind fun (p:Nat×Nat)=>some (.lst (p.2 - p.1) ((r.2.2.2.2.drop (p.1 * s)).take ((p.2 - p.1) * s))) else none
theorem Oc (s:Nat) (lo hi:Bool) (id ver:Nat) (bs:List A):eval Γ ob d (.slc false s lo hi) (.row id ver :: bs)=(vU (ob id) ver).bind fun r=>
  (om r s lo hi bs).bind fun x=>some (.val (.d x) (zg ob [id])):=by
 simp only [eval,tv,rM,om]
 cases vU (ob id) ver with
 | none=>rfl
 | some r=>
   obtain ⟨e',s',m,cap,cells⟩:=r
   simp only [Option.bind_some,Bool.false_eq_true,if_false]
   split
   ·cases uc m lo hi bs <;> rfl
   ·rfl
def Wy (p:D×List Nat):Option Out:=match p.1 with
 | .lst n xs=>if n=xs.length then (sX xs).bind fun bs=>some (.val (.d (.str ⟨bs.toArray⟩)) []) else none
 | _=>none
theorem QB (id ver:Nat):eval Γ ob d .b2s [.row id ver]=(jT (ob id) id ver).bind Wy:=by
 simp only [eval,dY]
 cases jT (ob id) id ver with
 | none=>rfl
 | some p=>obtain ⟨x,l⟩:=p; cases x <;> rfl
theorem Oh (l:List Int) (ids:List Nat):Wy (zb c8 l,ids)=some (.val (.d (sD (qR l))) []):=by
 have h:(zf c8 l).length=l.length:=by rw [yI]; exact Nat.mul_one _
 simp only [Wy,zb,h,if_true,lO,Option.bind_some,sD]
theorem ai (l:List α) (n o:Nat) (ho:o < c.sz):(zf c l)[n * c.sz+o]? =(l[n]?).bind fun x=>(c.enc x)[o]? :=by
 cases h:l[n]? with
 | none=>
   have:l.length ≤ n:=List.getElem?_eq_none_iff.mp h
   rw [List.getElem?_eq_none]
   ·rfl
   ·rw [yI]
    have:=Nat.mul_le_mul_right c.sz this
    omega
 | some x=>
   rw [← List.getElem?_drop,pA c h,List.getElem?_append_left (by rw [c.len]; exact ho)]; rfl
theorem ST (l:List α) (n s:Nat) (hs:s=c.sz):it (zf c l) (n * s) s=(l[n]?).map c.enc:=by
 subst hs
 unfold it
 cases h:l[n]? with
 | none=>
   have:l.length ≤ n:=List.getElem?_eq_none_iff.mp h
   rw [if_neg]
   ·rfl
   ·rw [yI]
    have:=Nat.mul_le_mul_right c.sz this
    have:=c.pos
    omega
 | some x=>
   have hn:n < l.length:=by
    apply Classical.byContradiction
    intro hn
    rw [List.getElem?_eq_none (by omega)] at h; cases h
   have hm:=Nat.mul_le_mul_right c.sz (show n+1 ≤ l.length from hn)
   rw [Nat.succ_mul] at hm
   rw [if_pos (by rw [yI]; exact hm),pA c h,List.take_append,List.take_of_length_le (by rw [c.len]; exact Nat.le_refl _),c.len]
   simp
theorem Zr (l:List α) (n:Nat) (x:α) (h:n < l.length):(zf c l).take (n * c.sz)++c.enc x++(zf c l).drop ((n+1) * c.sz)=zf c (l.set n x):=by
 rw [rh,rf,List.set_eq_take_append_cons_drop,if_pos h]
 simp [zf]
def ot (l:List α) (n:Nat) (x:α):Option (List α):=if n < l.length then some (l.set n x) else none
theorem bx (e:Nat) (cap:Option Nat) (l:List α) (n s:Nat) (xs:List D) (x:α) (hs:s=c.sz) (hd:c.dec xs=some x):
  sg (e,s,l.length,cap,zf c l) (n * s) xs=(ot l n x).map fun l'=>zP c e cap l':=by
 subst hs
 obtain rfl:=c.dcd _ _ hd
 unfold sg ot
 simp only [c.len]
 by_cases h:n < l.length
 ·have hm:=Nat.mul_le_mul_right c.sz (show n+1 ≤ l.length from h)
  rw [if_pos (by rw [yI]; rw [Nat.succ_mul] at hm; exact hm),if_pos h]
  simp only [Option.map_some,zP,List.length_set]
  rw [← Zr c l n x h,Nat.succ_mul]
 ·rw [if_neg,if_neg h]
  ·rfl
  ·rw [yI]
   have:=Nat.mul_le_mul_right c.sz (show l.length ≤ n by omega)
   have:=c.pos
   omega
theorem OU (e:Nat) (cap:Option Nat) (l l':List α) (s b:Nat) (hs:s=c.sz):
  nd (e,s,l.length,cap,zf c l) e s b (zb c l')=if tl b (l++l').length then some (zP c e none (l++l')) else none:=by
 subst hs
 unfold nd zb tl
 simp only [D.asLst,Option.bind_some,List.length_append,yI,true_and,c.pos,zP,qe]
def iA (l:List α):D:= .lstS l.length (zf c l)
theorem YX {Γ:Ctx} {ob:Nat→Ob} {d:Nat} (g:Bool) (l:List α):eval Γ ob d (.snil g) [.d (iA c l)]=some (.val (.d (.bool g)) []):=rfl
theorem Lz (r:Nat×Nat×Nat×Option Nat×List D) (e s b:Nat) (l:List α):nd r e s b (iA c l)=nd r e s b (zb c l):=rfl
theorem TX (e:Nat) (cap:Option Nat) (l:List α) (s b:Nat) (hs:s=c.sz) (z:List D) (x:α) (hx:c.dec z=some x) (k:Int):
  jP (e,s,l.length,cap,zf c l) e s b z k=if 0 ≤ k∧tl b (l++List.replicate k.toNat x).length then some (zP c e none (l++List.replicate k.toNat x)) else none:=by
 subst hs
 obtain rfl:=c.dcd _ _ hx
 have h1:(List.replicate k.toNat (c.enc x)).flatten=zf c (List.replicate k.toNat x):=by simp only [zf,List.flatMap_def,List.map_replicate]
 unfold jP tl
 simp only [c.len,true_and,c.pos,zP,qe,h1,List.length_append,List.length_replicate]
theorem Pr (e:Nat) (cap:Option Nat) (l:List α) (s:Nat) (hs:s=c.sz) (h:Int):dP (e,s,l.length,cap,zf c l) s h=if 0 ≤ h∧h ≤ l.length then some (zP c e cap (l.take h.toNat)) else none:=by
 subst hs
 unfold dP
 by_cases hh:0 ≤ h∧h ≤ l.length
 ·rw [if_pos ⟨rfl,hh.1,hh.2⟩,if_pos hh]
  simp only [zP,List.length_take]
  rw [Nat.min_eq_left (by omega)]
  congr 2
  rw [rh]
 ·rw [if_neg (fun q=>hh ⟨q.2.1,q.2.2⟩),if_neg hh]
end
theorem aT {α:Type} (c:Enc α) (l:List α) (lo hi:Int):((if 0 ≤ lo∧lo ≤ hi∧hi ≤ (l.length:Int) then some (lo.toNat,hi.toNat) else none).bind fun (p:Nat×Nat)=>
   some (D.lst (p.2 - p.1) (((zf c l).drop (p.1 * c.sz)).take ((p.2 - p.1) * c.sz))))=(cut l lo hi).bind fun l'=>some (zb c l'):=by
 unfold cut
 by_cases h:0 ≤ lo∧lo ≤ hi∧hi ≤ l.length
 ·rw [if_pos h,if_pos h]
  simp only [Option.bind_some,zb]
  rw [Yp c l lo hi h,bv l lo hi h]
 ·rw [if_neg h,if_neg h]; rfl
section
variable {α:Type} (c:Enc α)
theorem Qm (e s:Nat) (cap:Option Nat) (l:List α) (k k':IntKind) (lo hi:Int) (hs:s=c.sz):om (e,s,l.length,cap,zf c l) s true true [.d (.int k lo),.d (.int k' hi)]=(cut l lo hi).bind fun l'=>some (zb c l'):=by
 subst hs
 rw [← aT c l lo hi,← dq l.length k k' lo hi]; exact if_pos rfl
theorem QN (e s:Nat) (cap:Option Nat) (l:List α) (k:IntKind) (lo:Int) (hs:s=c.sz):om (e,s,l.length,cap,zf c l) s true false [.d (.int k lo)]=(cut l lo l.length).bind fun l'=>some (zb c l'):=by
 subst hs
 rw [← aT c l lo l.length,← ep l.length k lo]; exact if_pos rfl
theorem Ps (e s:Nat) (cap:Option Nat) (l:List α) (k:IntKind) (hi:Int) (hs:s=c.sz):om (e,s,l.length,cap,zf c l) s false true [.d (.int k hi)]=(cut l 0 hi).bind fun l'=>some (zb c l'):=by
 subst hs
 rw [← aT c l 0 hi,← dU l.length k hi]; exact if_pos rfl
end
theorem Lp {α:Type} (c:Enc α) (e:Nat) (cap:Option Nat):O.row e c.sz 0 cap []=zP c e cap []:=rfl
theorem LV {α:Type} (c:Enc α) (e:Nat) (cap:Option Nat) (xs:List D) (x:α) (h:c.dec xs=some x):O.row e c.sz 1 cap xs=zP c e cap [x]:=by
 obtain rfl:=c.dcd _ _ h
 simp [zP,zf]
theorem bE {α:Type} (c:Enc α) (e:Nat) (cap:Option Nat) (n:Nat) (xs:List D) (x:α) (h:c.dec xs=some x):
  O.row e c.sz n cap (List.replicate n xs).flatten=zP c e cap (List.replicate n x):=by
 obtain rfl:=c.dcd _ _ h
 simp only [zP,zf,List.length_replicate,List.flatMap_def,List.map_replicate]
end Go.Vm
