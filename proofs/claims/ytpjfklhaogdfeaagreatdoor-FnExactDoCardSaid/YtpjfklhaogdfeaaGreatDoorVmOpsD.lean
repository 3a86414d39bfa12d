import Derived.Test.YtpjfklhaogdfeaaGreatDoorVmOpsC
import Derived.WideLaws
import Derived.Laws.Cover3
set_option linter.unusedVariables false
set_option linter.unusedSectionVars false
set_option linter.unusedSimpArgs false
namespace Go.Vm
theorem b7 (size:Nat):∀ (parts:List Value) (k:Nat) (arr:Array Value),(∀ v ∈ parts,v.cells.size=size)→(k+parts.length) * size ≤ arr.size→
  ∃ cells,Instr.fill (fun i=>some (i * size,size)) arr ((parts.zipIdx k).map fun x=>(x.2,x.1))=some cells∧
    cells.toList=arr.toList.take (k * size)++parts.flatMap (·.cells.toList)++arr.toList.drop ((k+parts.length) * size)
 | [],k,arr,_,h=>⟨arr,rfl,by simp⟩
 | v :: parts,k,arr,hv,h=>by
   have hsz:v.cells.size=size:=hv v (by simp)
   simp only [List.length_cons] at h
   have hfit:k * size+size ≤ arr.size:=by
    have:(k+1) * size ≤ (k+(parts.length+1)) * size:=Nat.mul_le_mul_right _ (by omega)
    rw [Nat.add_mul,Nat.one_mul] at this; omega
   have hfold:=ki (k * size) v.cells.toList 0 arr (by simp; omega)
   simp only [Nat.add_zero,Array.length_toList] at hfold
   obtain ⟨cells,e1,e2⟩:=b7 size parts (k+1) (v.cells.zipIdx.foldl (fun cs (x:Value×Nat)=>cs.setIfInBounds (k * size+x.2) x.1) arr) (fun u hu=>hv u (by simp [hu])) (by
    rw [← Array.foldl_toList,Array.toList_zipIdx,← Array.length_toList,hfold,hsz]
    simp
    have:k+1+parts.length=k+(parts.length+1):=by omega
    rw [this]; omega)
   refine ⟨cells,?_,?_⟩
   ·simp only [List.zipIdx_cons,List.map_cons,Instr.fill]
    rw [if_neg (by simp; omega)]
    exact e1
   ·rw [e2,← Array.foldl_toList,Array.toList_zipIdx,hfold,hsz]
    have hA:(arr.toList.take (k * size)).length=k * size:=by rw [List.length_take]; simp; omega
    have hAv:(arr.toList.take (k * size)++v.cells.toList).length=(k+1) * size:=by rw [List.length_append,hA,Nat.add_mul]; simp [hsz]
    rw [List.take_append,List.take_of_length_le (by omega),hAv,Nat.sub_self,List.take_zero,List.append_nil,List.drop_append,hAv]
    rw [List.drop_eq_nil_of_le (by rw [hAv]; exact Nat.mul_le_mul_right _ (by omega)),List.nil_append,List.drop_drop]
    simp only [List.flatMap_cons,List.length_cons]
    have:k * size+size+((k+1+parts.length) * size - (k+1) * size)=(k+(parts.length+1)) * size:=by
     have e:(k+1+parts.length) * size=(k+1) * size+parts.length * size:=by rw [Nat.add_mul]
     have e':(k+(parts.length+1)) * size=(k+1) * size+parts.length * size:=by rw [← Nat.add_mul]; congr 1; omega
     rw [e,e',Nat.add_mul,Nat.one_mul]; omega
    rw [this]
    simp
theorem jb (zs:List Value) (s:Nat) (hs:zs.length=s) (hpos:0 < s):∀ (l j:Nat),(List.replicate l zs).flatten[j]? =if j < l * s then zs[j % s]? else none
 | 0,j=>by simp
 | l+1,j=>by
   rw [List.replicate_succ,List.flatten_cons]
   by_cases h:j < s
   ·rw [List.getElem?_append_left (by omega),if_pos (by rw [Nat.add_mul]; omega),Nat.mod_eq_of_lt h]
   ·rw [List.getElem?_append_right (by omega),jb zs s hs hpos l (j - zs.length),hs]
    have hm:(j - s) % s=j % s:=by
     have:j=(j - s)+s:=by omega
     conv=>rhs; rw [this,Nat.add_mod_right]
    rw [hm]
    by_cases h':j < (l+1) * s
    ·rw [if_pos h',if_pos (by rw [Nat.add_mul] at h'; omega)]
    ·rw [if_neg h',if_neg (by rw [Nat.add_mul] at h'; omega)]
theorem VX (z:Array Value) (s l k:Nat) (hs:z.size=s) (hpos:0 < s) (hlk:l ≤ k):(madeCells z (k * s)).toList.take (l * s)=(List.replicate l z.toList).flatten:=by
 apply List.ext_getElem?
 intro j
 rw [jb z.toList s (by simpa using hs) hpos l j,List.getElem?_take]
 have hle:l * s ≤ k * s:=Nat.mul_le_mul_right _ hlk
 by_cases h:j < l * s
 ·rw [if_pos h,if_pos h]
  simp only [madeCells,Array.toList_map,Array.toList_range,List.getElem?_map]
  rw [List.getElem?_range (by omega)]
  have hm:j % z.size < z.size:=Nat.mod_lt _ (by omega)
  simp [hs ▸ hm,hs]
 ·rw [if_neg h,if_neg h]
theorem o8 {S:Nat→Nat} {w:World} {xs:List D} {vs:List Value} (h:RDl S w xs vs):∀ l,RDl S w (List.replicate l xs).flatten (List.replicate l vs).flatten
 | 0=>rfl
 | l+1=>by rw [List.replicate_succ,List.replicate_succ,List.flatten_cons,List.flatten_cons]; exact h.append (o8 h l)
theorem mP {c:C}:∀ {as:List A} {xs:List D} {vs:List Value},qd as=some xs→Rl c as vs→RDl c.S c.w xs vs
 | [],xs,vs,h,hr=>by simp only [qd,Option.some.injEq] at h; subst h; exact hr
 | a :: as,xs,vs,h,⟨v,r,e,hv,hr⟩=>by
   simp only [qd,Option.bind_eq_some_iff,Option.map_eq_some_iff] at h
   obtain ⟨x,hx,l,hl,rfl⟩:=h
   refine ⟨v,r,e,?_,mP hl hr⟩
   cases a <;> simp only [NM,Option.some.injEq,reduceCtorEq] at hx
   ·subst hx; exact hv
   ·subst hx; simp only [R] at hv; subst hv; exact ⟨none,0,rfl,Nat.le_refl _,fun _=>⟨rfl,rfl,rfl⟩,by simp⟩
section
variable {P:Program} {o:Oper} {act:Act} {c:C} {role:Nat→Option Nat} {st:St}
variable (hs:∀ n,R c (st.slot n) (act.tmps.getD n undef)) (hobs:∀ id,ObOK c role id)
include hs hobs
theorem jR {e sz n:Nat} {cap:Option Nat} {cells:List D} {ids:List Nat} {cur:Array Value} {k:Nat} {out:Out} {d:Nat} {xs:List Value}
  (hrun:(execOp act.eval o).run P c.w= .ok (.value (.slice (some ⟨c.w.heap.size,0,none⟩) n k)) (c.w.alloc (.cells cur e)))
  (hids:∀ id ∈ ids,∃ e sz n cap cells,(c.ob id).o= .row e sz n cap cells)
  (hown:(c.w.alloc (.cells cur e)).ownsRow 0 e sz (.slice (some ⟨c.w.heap.size,0,none⟩) n k) n xs)
  (hc:∀ S',Stab c.S c.w S' c.w→(∀ id ∈ ids,∀ e sz n cap cells,(c.ob id).o= .row e sz n cap cells→∀ b,(c.hd id).ownBlock=some b→S' b=n * sz)→RDl S' c.w cells xs)
  (hcap:∀ k',cap=some k'→k=k') (he:mk c.ob d (zl c.ob ids) (.row e sz n cap cells)=some out):Does P o act c role out:=by
 simp only [mk,Option.some.injEq] at he
 subst he
 obtain ⟨S',x1,x2⟩:=w4 ids hobs hids
 have x3:=lz (c:=⟨S',c.w,c.hd,za c.ob (zl c.ob ids)⟩) (role:=role) x1.obs (oid d 0) e sz n cap cells (w':=c.w.alloc (.cells cur e)) (k0:=k) xs rfl (Nat.le_refl _)
  (World.grownBy_alloc c.w _ none) hown (hc S' x1.le.stab x2) hcap
 have hv:=nD c.ob (oid d 0) ids c.ob rfl
 have hob:za c.ob (zl c.ob ids++[wU c.ob (oid d 0) (.row e sz n cap cells)])=
   upd (za c.ob (zl c.ob ids)) (oid d 0) { ver:=(za c.ob (zl c.ob ids) (oid d 0)).ver+1,o:= .row e sz n cap cells,leak:=false }:=by
  rw [yh,hv]; rfl
 refine ⟨_,_,upd S' c.w.heap.size 0,_,upd c.hd (oid d 0) (.slice (some ⟨c.w.heap.size,0,none⟩) n k),upd role c.w.heap.size (some (oid d 0)),hrun,.inl rfl,?_,?_⟩
 ·rw [hob]; exact x1.trans x3
 ·refine ⟨rfl,?_,?_⟩
  ·simp [hob,zq,hv]
  ·intro _ _; exact (zq _ _ _).symm
omit hs hobs in
theorem RW {t e:TypeId} {ie:TypeInfo} {z:Value} {len:Nat} (ps:Array (Nat×Value)) {cells:Array Value} (w:World) (ht:P.underlying t=some (.slice e)) (hi:P.info? e=some ie)
  (hz:ie.zero=some z) (hbig:len * ie.size ≤ 2 ^ 24)
  (hfill:Instr.fill (fun i=>some (i * ie.size,ie.size)) ((Array.range (len * ie.size)).map (z.cells[· % z.cells.size]!)) ps.toList=some cells):
  (Instr.buildSlice t len ps).run P w= .ok (.slice (some ⟨w.heap.size,0,none⟩) len len) (w.alloc (.cells cells e)):=by
 have hbig':¬ (len * ie.size > 2 ^ 24):=by omega
 simp only [Instr.buildSlice,Sem.run_bind,zS ht,Result.andThen_ok,sizeOf,typeInfo,run_program,hi,Sem.run_pure,hbig',if_false]
 by_cases h0:len * ie.size=0
 ·have e0:(Array.range (len * ie.size)).map ((#[]:Array Value)[· % (#[]:Array Value).size]!)=(Array.range (len * ie.size)).map (z.cells[· % z.cells.size]!):=by
   have hr0:Array.range (len * ie.size)=#[]:=by rw [h0]; rfl
   rw [hr0,Array.map_empty,Array.map_empty]
  rw [if_pos h0]
  rw [pure_bind]
  rw [e0,hfill]
  rfl
 ·rw [if_neg h0]
  simp only [Sem.run_bind,zeroValue,typeInfo,run_program,Result.andThen_ok,hi,Sem.run_pure,hz]
  rw [hfill]
  rfl
theorem XT {t e:TypeId} {ie:TypeInfo} {len:Nat} {parts:Array (Nat×Operand)} {l:List SA} {out:Out} {Γ:Ctx} {d:Nat} (ho:o.op= .buildSlice t len parts)
  (ht:P.underlying t=some (.slice e)) (hi:P.info? e=some ie) (hix:parts.toList.map (·.1)=List.range len) (hbig:len * ie.size ≤ 2 ^ 24) (hpos:0 < ie.size) (hz:ie.zero.isSome=true)
  (hl:zD (parts.toList.map (·.2))=some l) (he:eval Γ c.ob d (.bldS e ie.size len ((List.range len).map fun i=>(i * ie.size,ie.size))) (l.map st.get)=some out):Does P o act c role out:=by
 have hR:=qm hs hl
 obtain ⟨z,hz⟩:=Option.isSome_iff_exists.1 hz
 simp only [eval] at he
 split at he
 ·rename_i hc
  obtain ⟨_,hlen,hall⟩:=hc
  simp only [Option.bind_eq_some_iff] at he
  obtain ⟨⟨xs,ids⟩,hsn,he⟩:=he
  have hone:=nu hsn
  have hcells:∀ (as:List A) (vs:List Value),Rl c as vs→(as.flatMap cellsOf).all one=true→(as.all fun a=>decide ((cellsOf a).length=ie.size))=true→
    Rl c (as.flatMap cellsOf) (vs.flatMap (·.cells.toList))∧∀ v ∈ vs,v.cells.size=ie.size:=by
   intro as
   induction as with
   | nil=>intro vs h _ _; simp only [Rl] at h; subst h; exact ⟨rfl,by simp⟩
   | cons a as ih=>
     rintro _ ⟨v,r,rfl,hv,hr⟩ h1 h2
     simp only [List.flatMap_cons,List.all_append,Bool.and_eq_true,List.all_cons,decide_eq_true_eq] at h1 h2
     obtain ⟨i1,i2⟩:=ih r hr h1.2 h2.2
     have hc:=qp hv h1.1
     refine ⟨by simp only [List.flatMap_cons]; exact hc.append i1,?_⟩
     intro u hu
     rcases List.mem_cons.1 hu with rfl | h
     ·have:=hc.length; simp at this; omega
     ·exact i2 u h
  obtain ⟨h1,h2⟩:=hcells _ _ hR hone hall
  have hvl:((parts.toList.map (·.2)).map act.eval).length=len:=by rw [hR.length]; simpa using hlen
  obtain ⟨cells,e1,e2⟩:=b7 ie.size ((parts.toList.map (·.2)).map act.eval) 0 ((Array.range (len * ie.size)).map (z.cells[· % z.cells.size]!)) h2 (by simp at hvl ⊢; rw [hvl]; exact Nat.le_refl _)
  simp only [Nat.zero_mul,List.take_zero,List.nil_append,Nat.zero_add] at e2
  have hsize:((parts.toList.map (·.2)).map act.eval).length * ie.size=len * ie.size:=by rw [hvl]
  rw [List.drop_eq_nil_of_le (by rw [hsize]; simp),List.append_nil] at e2
  have hparts:(parts.map fun p=>(p.1,act.eval p.2)).toList=(((parts.toList.map (·.2)).map act.eval).zipIdx).map fun x=>(x.2,x.1):=by
   apply List.ext_getElem?
   intro j
   simp only [Array.toList_map,List.getElem?_map,List.getElem?_zipIdx,List.map_map]
   have hj:=congrArg (fun l=>l[j]?) hix
   simp only [List.getElem?_map] at hj
   cases hp:parts.toList[j]? with
   | none=>simp
   | some p=>
     rw [hp] at hj
     simp only [Option.map_some] at hj
     have:p.1=j:=by
      rcases Nat.lt_or_ge j len with h | h
      ·rw [List.getElem?_range h] at hj; injection hj
      ·rw [List.getElem?_eq_none (by simpa using h)] at hj; cases hj
     simp [this]
  have hsz:cells.size=len * ie.size:=by
   rw [← Array.length_toList,e2]
   have:=h1.length; have hx:=(uM hobs hsn h1).2 c.S
   have hflat:∀ (vs:List Value),(∀ v ∈ vs,v.cells.size=ie.size)→(vs.flatMap (·.cells.toList)).length=vs.length * ie.size:=by
    intro vs
    induction vs with
    | nil=>intro _; simp
    | cons v vs ih=>intro h; rw [List.flatMap_cons,List.length_append,ih (fun u hu=>h u (by simp [hu]))]; simp [h v (by simp),Nat.add_mul]; omega
   rw [hflat _ h2,hvl]
  obtain ⟨q1,q2⟩:=uM hobs hsn h1
  refine jR hs hobs (cur:=cells) (k:=len) (xs:=cells.toList) ?_ q1 ?_ ?_ (by simp) he
  ·have hfill:Instr.fill (fun i=>some (i * ie.size,ie.size)) ((Array.range (len * ie.size)).map (z.cells[· % z.cells.size]!)) (parts.map fun p=>(p.1,act.eval p.2)).toList=some cells:=by rw [hparts]; exact e1
   have hr:=RW (t:=t) (parts.map fun p=>(p.1,act.eval p.2)) c.w ht hi hz hbig hfill
   simp only [execOp,ho,Sem.run_bind]
   rw [show (parts.map fun x=>match x with | (i,x)=>(i,act.eval x))=parts.map fun p=>(p.1,act.eval p.2) from rfl,hr]
   rfl
  ·have:=World.ownsRow_lit (base:=0) (e:=e) (size:=ie.size) c.w cells len (Nat.zero_le _) (by
    simp only [maxLen]
    have:len ≤ len * ie.size:=Nat.le_mul_of_pos_right _ hpos
    omega) hsz
   exact this
  ·intro S' hS hb
   rw [e2]; exact q2 S' hS hb
 ·cases he
theorem Ug {t e:TypeId} {i:TypeInfo} {z:List A} {zd:List D} {x y:Operand} {l:List SA} {out:Out} {Γ:Ctx} {d:Nat} (ho:o.op= .makeSlice t x y)
  (ht:P.underlying t=some (.slice e)) (hi:P.info? e=some i) (hz:ux P e=some z) (hzd:qd z=some zd) (hl:zD [x,y]=some l)
  (he:eval Γ c.ob d (.mkS e i.size i.bytes zd) (l.map st.get)=some out):Does P o act c role out:=by
 obtain ⟨a,b,rfl,h1,h2⟩:=uq hs hobs hl
 obtain ⟨i',zv,hi',hzv,hzR⟩:=pe (c:=c) hs hobs hz
 rw [hi] at hi'; injection hi' with hi'; subst hi'
 have hzR':=mP hzd hzR
 simp only [eval,List.map_cons,List.map_nil] at he
 split at he
 ·rename_i k1 ln k2 cp heq
  simp only [List.cons.injEq,and_true] at heq
  obtain ⟨e1,e2⟩:=heq
  rw [e1] at h1; rw [e2] at h2
  simp only [R,RD] at h1 h2
  split at he
  ·rename_i hc
   obtain ⟨c1,c2,c3,c4,c5,c6⟩:=hc
   have hr:=run_make (P:=P) c.w t e i zv ht hi hzv k1 k2 ln cp c1 c2 (by simp only [wF] at c3; omega) c4
   have hzs:zv.cells.size=i.size:=by have:=hzR'.length; simp at this; omega
   refine jR hs hobs (ids:=[]) (cur:=madeCells zv.cells (cp.toNat * i.size)) (k:=cp.toNat) (xs:=(List.replicate ln.toNat zv.cells.toList).flatten) ?_ (by simp) ?_ ?_ (by simp) he
   ·simp [execOp,ho,h1,h2,hr]
   ·refine ⟨?_,.inr ⟨c.w.heap.size,cp.toNat,_,rfl,Nat.zero_le _,heap_alloc_new c.w _,by omega,by simp only [maxLen]; omega,size_madeCells _ _,?_⟩⟩
    ·simp [hzs]
    ·exact VX zv.cells i.size ln.toNat cp.toNat hzs c6 (by omega)
   ·intro S' hS _
    exact o8 (RDl.mono hS _ _ hzR') _
  ·cases he
 ·cases he
end
end Go.Vm
set_option linter.unusedVariables false
set_option linter.unusedSectionVars false
set_option linter.unusedSimpArgs false
namespace Go.Vm
section
variable {P:Program} {o:Oper} {act:Act} {c:C} {role:Nat→Option Nat} {st:St}
variable (hs:∀ n,R c (st.slot n) (act.tmps.getD n undef)) (hobs:∀ id,ObOK c role id)
include hs hobs
theorem Wn {op:BinOp} {neg:Bool} {t yt:TypeId} {x:Operand} {ms:Array (String×TypeId)} {sa:SA} {out:Out} {Γ:Ctx} {d:Nat} (ho:o.op= .binOp op t x (.const .nilIface) yt) (ht:P.underlying t=some (.interface ms))
  (hop:(op= .eql∧neg=false) ∨ (op= .neq∧neg=true)) (hx:zQ x=some sa) (he:eval Γ c.ob d (.inil neg) [st.get sa]=some out):Does P o act c role out:=by
 have hr:=yn hs hx
 generalize st.get sa=a at he hr
 have hm:P.underlying t=some (.interface (P.methodsAt t)):=by simp [Program.methodsAt,ht]
 have hg1:∀ op u v,(eqGuard op t x (.const .nilIface) (.iface u v) .nilIface).run P c.w= .ok () c.w:=by
  intro op u v; cases op <;> simp [eqGuard]
 have hg2:∀ op,(eqGuard op t x (.const .nilIface) .nilIface .nilIface).run P c.w= .ok () c.w:=by
  intro op; cases op <;> simp [eqGuard]
 have hheld:∀ u v,act.eval x= .iface u v→(execOp act.eval o).run P c.w= .ok (.value (.bool neg)) c.w:=by
  intro u v h
  have hc:act.eval (.const .nilIface)= .nilIface:=rfl
  rcases hop with ⟨rfl,rfl⟩ | ⟨rfl,rfl⟩ <;> simp only [execOp,ho,h,hc,Sem.run_bind,hg1,run_eql_held_nil c.w t u v hm,run_neq_held_nil c.w t u v hm,Result.andThen_ok,Sem.run_pure]
 have hnil:act.eval x= .nilIface→(execOp act.eval o).run P c.w= .ok (.value (.bool !neg)) c.w:=by
  intro h
  have hc:act.eval (.const .nilIface)= .nilIface:=rfl
  rcases hop with ⟨rfl,rfl⟩ | ⟨rfl,rfl⟩ <;> simp only [execOp,ho,h,hc,Sem.run_bind,hg2,run_eql_nil_nil c.w t hm,run_neq_nil_nil c.w t hm,Result.andThen_ok,Sem.run_pure,Bool.not_false,Bool.not_true]
 simp only [eval] at he
 split at he <;> rename_i heq
 ·simp only [List.cons.injEq,and_true] at heq; subst heq
  rw [zr he]
  exact Does.pure hobs (hnil hr) rfl
 ·simp only [List.cons.injEq,and_true] at heq; subst heq
  rw [zr he]
  obtain ⟨u,e,H⟩:=hr
  exact Does.pure hobs (hheld _ _ e) rfl
 ·simp only [List.cons.injEq,and_true] at heq; subst heq
  rw [zr he]
  obtain ⟨u,e,H⟩:=hr
  exact Does.pure hobs (hheld _ _ e) rfl
 ·cases he
theorem QA {x:Operand} {xt t:TypeId} {u:TypeDesc} {sa:SA} {out:Out} {Γ:Ctx} {d:Nat} (ho:o.op= .typeAssert x xt t true) (ht:P.underlying t=some u) (hu:∀ ms,u ≠ .interface ms)
  (hx:zQ x=some sa) (he:eval Γ c.ob d (.ta t) [st.get sa]=some out):Does P o act c role out:=by
 have hr:=yn hs hx
 generalize st.get sa=a at he hr
 have hrun:∀ v,act.eval x= .iface t v→(execOp act.eval o).run P c.w= .ok (.value (.tuple #[v,.bool true])) c.w:=by
  intro v h
  simp only [execOp,ho,h,Instr.typeAssert,zS ht,Sem.run_bind,Result.andThen_ok]
  cases u <;> first | (exact absurd rfl (hu _)) | simp
 simp only [eval] at he
 split at he <;> rename_i heq
 ·simp only [List.cons.injEq,and_true] at heq; subst heq
  split at he
  ·rename_i hu'; subst hu'
   rw [zr he]
   obtain ⟨v,e,H⟩:=hr
   exact Does.pure hobs (hrun v e) ⟨_,rfl,v,_,rfl,H,_,_,rfl,rfl,rfl⟩
  ·cases he
 ·simp only [List.cons.injEq,and_true] at heq; subst heq
  split at he
  ·rename_i hu'; subst hu'
   rw [zr he]
   obtain ⟨vs,e,H⟩:=hr
   exact Does.pure hobs (hrun _ e) ⟨_,rfl,_,_,rfl,⟨vs,rfl,Rl.map_d H⟩,_,_,rfl,rfl,rfl⟩
  ·cases he
 ·cases he
theorem Uc {t e:TypeId} {n sz:Nat} {x y:Operand} {l:List SA} {out:Out} (ho:o.op= .indexAddr t x y) (ht:P.underlying t=some (.array n e)) (hsz:xK P e=some sz)
  (hl:zD [x,y]=some l) (he:jd c.ob n sz (l.map st.get)=some out):Does P o act c role out:=by
 obtain ⟨a,b,rfl,h1,h2⟩:=uq hs hobs hl
 simp only [List.map_cons,List.map_nil] at he
 have hrun:∀ (b off:Nat) k (i:Int),act.eval x= .pointer (some ⟨b,off,none⟩)→act.eval y= .int k i→0 ≤ i→i < n→
   (execOp act.eval o).run P c.w= .ok (.value (.pointer (some ⟨b,off+i.toNat * sz,none⟩))) c.w:=by
  intro b off k i hx hy h0 h1
  simp [execOp,ho,hx,hy,Instr.indexAt,Instr.sureAddr,asIntOf,zS ht,h0,h1,wv hsz,Addr.add_mk]
 unfold jd at he
 split at he <;> rename_i heq
 ·rename_i id ver off k i
  simp only [List.cons.injEq,and_true] at heq
  obtain ⟨e1,e2⟩:=heq
  rw [e1] at h1; rw [e2] at h2
  simp only [Option.bind_eq_some_iff] at he
  obtain ⟨cells,hb,he⟩:=he
  split at he
  ·rename_i hi
   rw [zr he]
   obtain ⟨b,cs,et,e1,e2,_⟩:=mO hs hobs h1 hb
   exact Does.pure hobs (hrun b off k i e2 h2 hi.1 hi.2) ⟨rfl,h1.2.1,fun _ _=>⟨b,e1,rfl⟩⟩
  ·cases he
 ·rename_i id ver off k i
  simp only [List.cons.injEq,and_true] at heq
  obtain ⟨e1,e2⟩:=heq
  rw [e1] at h1; rw [e2] at h2
  simp only [Option.bind_eq_some_iff] at he
  obtain ⟨⟨ze,zs,zn,zc,cells⟩,hb,he⟩:=he
  split at he
  ·rename_i hi
   rw [zr he]
   obtain ⟨b,k',xs,e1,e2,_⟩:=kK hs hobs h1 hb
   exact Does.pure hobs (hrun b off k i e2 h2 hi.1 hi.2) ⟨rfl,h1.2.1,fun _ _=>⟨b,_,k',e1,rfl⟩⟩
  ·cases he
 ·rename_i cells k i
  simp only [List.cons.injEq,and_true] at heq
  obtain ⟨e1,e2⟩:=heq
  rw [e1] at h1; rw [e2] at h2
  split at he
  ·rename_i hi
   rw [zr he]
   obtain ⟨b,off,e1,H⟩:=h1
   exact Does.pure hobs (hrun b off k i e1 h2 hi.1 hi.2.1) ⟨b,_,rfl,H.drop _⟩
  ·cases he
 ·cases he
theorem SL {t e:TypeId} {n sz:Nat} {m:Option Nat} {x y:Operand} {l:List SA} {out:Out} {Γ:Ctx} {d:Nat} (ho:o.op= .index t x y) (ht:P.underlying t=some (.array n e)) (hsz:xK P e=some sz) (hm:sC P e=some m)
  (hl:zD [x,y]=some l) (he:eval Γ c.ob d (.ixa n sz m) (l.map st.get)=some out):Does P o act c role out:=by
 obtain ⟨a,b,rfl,h1,h2⟩:=uq hs hobs hl
 simp only [List.map_cons,List.map_nil] at he
 cases m with
 | none=>
   simp only [eval] at he
   split at he
   ·rename_i cs k i heq
    simp only [List.cons.injEq,and_true] at heq
    obtain ⟨e1,e2⟩:=heq
    rw [e1] at h1; rw [e2] at h2
    split at he
    ·rename_i hi
     simp only [Option.bind_eq_some_iff] at he
     obtain ⟨y',hy,he⟩:=he
     rw [zr he]
     obtain ⟨vs,e3,H⟩:=h1
     obtain ⟨u,hu,hru⟩:=H.get _ y' hy
     have hu':vs[i.toNat * sz]? =some u:=by simpa using hu
     simp only [R,RD] at h2
     refine Does.pure hobs (v:=u) ?_ hru
     simp [execOp,ho,e3,h2,Instr.index,asIntOf,zS ht,hi.1,hi.2,part,kV hm,wv hsz,hu']
    ·cases he
   ·cases he
 | some m=>
   simp only [eval] at he
   split at he
   ·rename_i cs k i heq
    simp only [List.cons.injEq,and_true] at heq
    obtain ⟨e1,e2⟩:=heq
    rw [e1] at h1; rw [e2] at h2
    split at he
    ·rename_i hi
     rw [zr he]
     obtain ⟨vs,e3,H⟩:=h1
     simp only [R,RD] at h2
     refine Does.pure hobs (v:= .agg (vs.extract (i.toNat * sz) (i.toNat * sz+m))) ?_ ⟨_,rfl,?_⟩
     ·have hsm:sz=m:=by
       have q1:=(s6 hm c.w).2
       have q2:=wv hsz c.w
       rw [q1] at q2; injection q2 with q2; exact q2.symm
      subst hsm
      simp [execOp,ho,e3,h2,Instr.index,asIntOf,zS ht,hi.1,hi.2.1,part,(s6 hm c.w).1,(s6 hm c.w).2]
     ·have:=Rl.take m (Rl.drop (i.toNat * sz) H)
      rw [Array.toList_extract,List.extract_eq_take_drop,Nat.add_sub_cancel_left]
      exact this
    ·cases he
   ·cases he
end
end Go.Vm
set_option linter.unusedVariables false
set_option linter.unusedSectionVars false
set_option linter.unusedSimpArgs false
namespace Go.Vm
theorem iQ (z:Array Value) (s k:Nat) (hs:z.size=s) (hpos:0 < s):(Builtin.zeroCells z k).toList=(List.replicate k z.toList).flatten:=by
 apply List.ext_getElem?
 intro j
 rw [jb z.toList s (by simpa using hs) hpos k j]
 simp only [Builtin.zeroCells,Array.toList_map,Array.toList_range,List.getElem?_map]
 by_cases h:j < k * s
 ·rw [List.getElem?_range (by rw [hs]; exact h),if_pos h]
  have hm:j % z.size < z.size:=Nat.mod_lt _ (by omega)
  simp [hs ▸ hm,hs]
 ·rw [if_neg h,List.getElem?_eq_none (by simp [hs]; omega)]; rfl
theorem d7 {l:List Value} (h:∀ u ∈ l,u.oneCell'=true) (k:Nat):∀ u ∈ (List.replicate k l).flatten,u.oneCell'=true:=by
 intro u hu
 obtain ⟨l',h1,h2⟩:=List.mem_flatten.1 hu
 rw [(List.mem_replicate.1 h1).2] at h2
 exact h u h2
theorem bd {P:Program} (w:World) (t tn ty e:TypeId) (i:TypeInfo) (z:Value) (kn kq:IntKind) (ht:P.underlying t=some (.slice e)) (htn:P.underlying tn=some (.int kn)) (hi:P.info? e=some i) (hz:i.zero=some z)
  (hzs:z.cells.size=i.size) (hsz:0 < i.size) (h1:∀ u ∈ z.cells.toList,u.oneCell'=true) (v:Value) (n:Nat) (xs:List Value) (hown:w.ownsRow 0 e i.size v n xs)
  (k:Nat) (h63:n+k ≤ maxLen) (hbytes:(n+k) * i.bytes ≤ 140737488355328):
  ∃ v' w',(Builtin.append_ #[t,tn] ty #[v,.int kq k]).run P w= .ok v' w'∧w'.ownsRow 0 e i.size v' (n+k) (xs++(List.replicate k z.cells.toList).flatten)∧
    ((v'.ownBlock=v.ownBlock∧w.grownBy w' v.ownBlock) ∨ (v'.ownBlock=some w.heap.size∧w.grownBy w' none))∧(v'= .slice none 0 0 ↔ v= .slice none 0 0∧k=0):=by
 have hsmall:n+k ≤ 9223372036854775807:=by simp only [maxLen] at h63; omega
 have hw:IntKind.i64.wrap (k:Int)=k:=by rw [IntKind.wrap_i64]; omega
 have hneg:¬ ((k:Int) < 0):=by omega
 have hkb:k * i.bytes ≤ 140737488355328:=Nat.le_trans (Nat.mul_le_mul_right _ (Nat.le_add_left k n)) hbytes
 have h48i:¬ (281474976710656 < (k:Int) * (i.bytes:Int)):=by rw [← Int.natCast_mul]; omega
 have hzl:=iQ z.cells i.size k hzs hsz
 have hlen:(xs++(List.replicate k z.cells.toList).flatten).length=(n+k) * i.size:=by
  rw [List.length_append,hown.1,← hzl,Array.length_toList,size_zeroCells,hzs,Nat.add_mul]
 by_cases hk:k=0
 ·subst hk
  simp only [List.replicate_zero,List.flatten_nil,List.append_nil,Nat.add_zero] at hlen ⊢
  have hr:(Builtin.append_ #[t,tn] ty #[v,.int kq (0:Nat)]).run P w= .ok v w:=by
   rcases hown.2 with ⟨rfl,rfl⟩ | ⟨g,cap,cur,rfl,hbg,hg,hnc,hcm,hcs,htake⟩
   ·simp [Builtin.append_,run_underlying ht,run_underlying htn,sizeOf,typeInfo,hi,asInt,asIntOf,IntKind.wrap_i64]
   ·simp [Builtin.append_,run_underlying ht,run_underlying htn,sizeOf,typeInfo,hi,asInt,asIntOf,IntKind.wrap_i64,hnc,storeCells]
  exact ⟨v,w,hr,hown,.inl ⟨rfl,⟨rfl,rfl,rfl,Nat.le_refl _,fun _ _ _=>rfl⟩⟩,by simp⟩
 ·have hns:¬ (k * i.size=0):=Nat.mul_ne_zero hk (by omega)
  have grown:∀ (old:Nat),old < n+k→
    (w.drew.alloc (.cells (xs.toArray++Builtin.zeroCells z.cells k++Builtin.zeroCells z.cells (grownCap w (n+k) old e - (n+k))) e)).ownsRow 0 e i.size
      (.slice (some ⟨w.heap.size,0,none⟩) (n+k) (grownCap w (n+k) old e)) (n+k) (xs++(List.replicate k z.cells.toList).flatten)∧
    w.grownBy (w.drew.alloc (.cells (xs.toArray++Builtin.zeroCells z.cells k++Builtin.zeroCells z.cells (grownCap w (n+k) old e - (n+k))) e)) none:=by
   intro old ho
   have hge:=grownCap_ge w (n+k) old e
   have hcm:grownCap w (n+k) old e ≤ maxLen:=grownCap_le_maxLen w (n+k) old e h63
   refine ⟨⟨hlen,.inr ⟨w.heap.size,_,_,rfl,Nat.zero_le _,heap_alloc_new w.drew _,hge,hcm,?_,?_⟩⟩,⟨rfl,rfl,rfl,by simp,fun k hk _=>heap_alloc_old w.drew _ hk⟩⟩
   ·simp only [Array.size_append,List.size_toArray,size_zeroCells,hzs,hown.1,← Nat.add_mul]
    congr 1
    omega
   ·simp only [Array.toList_append,hzl]
    rw [← hlen]
    exact List.take_left
  have grow:∀ (base:Option Addr) (sCap:Nat),(Builtin.firstCells i.size n (.slice base n sCap)).run P w.drew= .ok xs.toArray w.drew→sCap < n+k→
    (Builtin.append_ #[t,tn] ty #[.slice base n sCap,.int kq k]).run P w= .ok (.slice (some ⟨w.heap.size,0,none⟩) (n+k) (grownCap w (n+k) sCap e))
      (w.drew.alloc (.cells (xs.toArray++Builtin.zeroCells z.cells k++Builtin.zeroCells z.cells (grownCap w (n+k) sCap e - (n+k))) e)):=by
   intro base sCap hf hg
   have hn:¬ (n+k ≤ sCap):=by omega
   have h63':¬ (9223372036854775807 < ((n:Int)+(k:Int))):=by omega
   have h48':¬ (281474976710656 < Builtin.nextslicecap (n+k) sCap * i.bytes):=by have:=growslice_fits hg hbytes; omega
   simp [Builtin.append_,run_underlying ht,run_underlying htn,sizeOf,typeInfo,zeroValue,hi,hz,asInt,asIntOf,hw,hn,hneg,hns,h63',h48',h48i,Question.forced,hf,newRow,grownCap]
  rcases hown.2 with ⟨rfl,rfl⟩ | ⟨g,cap,cur,rfl,hbg,hg,hnc,hcm,hcs,htake⟩
  ·have hx:xs=[]:=List.eq_nil_of_length_eq_zero (by simpa using hown.1)
   subst hx
   have hgr:=grown 0 (by omega)
   exact ⟨_,_,grow none 0 (run_firstCells_none w.drew i.size 0 0 0) (by omega),hgr.1,.inr ⟨rfl,hgr.2⟩,by simp [hk]⟩
  ·have holds:∀ j u,xs[j]? =some u→w.cell? ((⟨g,0,none⟩:Addr).add j)=some u:=hown.cells (g:=g) rfl
   by_cases hroom:n+k ≤ cap
   ·have hfit:n * i.size+(Builtin.zeroCells z.cells k).toList.length ≤ cur.size:=by
     rw [Array.length_toList,size_zeroCells,hzs,hcs,← Nat.add_mul]; exact Nat.mul_le_mul_right _ hroom
    have h1':∀ u ∈ (Builtin.zeroCells z.cells k).toList,u.oneCell'=true:=by rw [hzl]; exact d7 h1 k
    have hst:=run_storeCells_at P g (n * i.size) e (Builtin.zeroCells z.cells k).toList 0 cur w hg (by simpa using hfit) h1'
    simp only [Nat.add_zero] at hst
    have hr:(Builtin.append_ #[t,tn] ty #[.slice (some ⟨g,0,none⟩) n cap,.int kq k]).run P w=
      .ok (.slice (some ⟨g,0,none⟩) (n+k) cap) (w.setRow g (cur.toList.take (n * i.size)++(Builtin.zeroCells z.cells k).toList++cur.toList.drop (n * i.size+(Builtin.zeroCells z.cells k).toList.length)).toArray):=by
     simp [Builtin.append_,run_underlying ht,run_underlying htn,sizeOf,typeInfo,zeroValue,hi,hz,asInt,asIntOf,hw,hneg,hns,h48i,hroom,Addr.add_lit,hst]
    refine ⟨_,_,hr,⟨hlen,.inr ⟨g,cap,_,rfl,hbg,setRow_heap w g cur _ e _ hg,hroom,hcm,?_,?_⟩⟩,.inl ⟨rfl,⟨rfl,rfl,rfl,by simp [World.setRow],fun k _ hk=>setRow_other w g k _ (fun e=>hk (by simp [Value.ownBlock,e]))⟩⟩,by simp⟩
    ·simp only [List.size_toArray,List.length_append,List.length_take,List.length_drop,Array.length_toList]
     rw [Array.length_toList] at hfit
     omega
    ·rw [htake,← hlen,hzl]
     exact List.take_left
   ·have hgr:=grown cap (by omega)
    exact ⟨_,_,grow _ cap (run_firstCells_some w.drew i.size n _ n cap xs hown.1 (by simpa using holds)) (by omega),hgr.1,.inr ⟨rfl,hgr.2⟩,by simp⟩
section
variable {P:Program} {o:Oper} {act:Act} {c:C} {role:Nat→Option Nat} {st:St}
variable (hs:∀ n,R c (st.slot n) (act.tmps.getD n undef)) (hobs:∀ id,ObOK c role id)
include hs hobs
theorem X6 {op:BinOp} {neg:Bool} {t yt e:TypeId} {x:Operand} {sa:SA} {out:Out} (ho:o.op= .binOp op t x (.const (.slice none 0 0)) yt) (ht:P.underlying t=some (.slice e))
  (hop:(op= .eql∧neg=false) ∨ (op= .neq∧neg=true)) (hx:zQ x=some sa) (he:hJ neg [st.get sa]=some out):Does P o act c role out:=by
 have hr:=yn hs hx
 generalize st.get sa=a at he hr
 have hrun:∀ a l k,act.eval x= .slice a l k→(execOp act.eval o).run P c.w= .ok (.value (.bool (if neg then !a.isNone else a.isNone))) c.w:=by
  intro a l k h
  have hc:act.eval (.const (.slice none 0 0))= .slice none 0 0:=rfl
  rcases hop with ⟨rfl,rfl⟩ | ⟨rfl,rfl⟩
  ·simp [execOp,ho,h,hc,eqGuard,binOp,run_equal_slice_nil c.w t e a l k ht]
  ·simp [execOp,ho,h,hc,eqGuard,run_neq_slice_nil c.w t e a l k ht]
 unfold hJ at he
 split at he <;> rename_i heq
 ·simp only [List.cons.injEq,and_true] at heq; subst heq
  rw [zr he]
  refine Does.pure hobs (hrun none 0 0 hr) ?_
  cases neg <;> rfl
 ·simp only [List.cons.injEq,and_true] at heq; subst heq
  rw [zr he]
  refine Does.pure hobs (hrun none 0 0 hr) ?_
  cases neg <;> rfl
 ·simp only [List.cons.injEq,and_true] at heq; subst heq
  rw [zr he]
  obtain ⟨p,cap,e1,_⟩:=hr
  refine Does.pure hobs (hrun _ _ _ e1) ?_
  cases neg <;> rfl
 ·simp only [List.cons.injEq,and_true] at heq; subst heq
  split at he
  ·rename_i hn
   rw [zr he]
   obtain ⟨a,cap,e1,_,e3,_⟩:=hr
   cases a with
   | none=>have:=(e3 rfl).1; omega
   | some p=>
     refine Does.pure hobs (hrun _ _ _ e1) ?_
     cases neg <;> rfl
  ·cases he
 ·cases he
theorem XM {x y:Operand} {args:Array Operand} {tys:Array TypeId} {t tn e:TypeId} {kn:IntKind} {i:TypeInfo} {z:List A} {zd:List D} {l:List SA} {out:Out} {d:Nat}
  (ho:o.op= .call { callee:= .builtin .append,args:=args,argTypes:=tys }) (ha:args.toList=[x,y]) (hty:tys.toList=[t,tn]) (ht:P.underlying t=some (.slice e)) (htn:P.underlying tn=some (.int kn))
  (hi:P.info? e=some i) (hz:ux P e=some z) (hzd:qd z=some zd) (hl:zD [x,y]=some l) (he:ng c.ob d e i.size i.bytes zd (l.map st.get)=some out):Does P o act c role out:=by
 obtain rfl:args=#[x,y]:=by have:=congrArg List.toArray ha; simpa using this
 obtain rfl:tys=#[t,tn]:=by have:=congrArg List.toArray hty; simpa using this
 obtain ⟨a,b,rfl,h1,h2⟩:=uq hs hobs hl
 simp only [List.map_cons,List.map_nil] at he
 obtain ⟨i',zv,hi',hzv,hzR⟩:=pe (c:=c) hs hobs hz
 rw [hi] at hi'; injection hi' with hi'; subst hi'
 have hzR':=mP hzd hzR
 have hexec:∀ v w',(Builtin.append_ #[t,tn] o.type #[act.eval x,act.eval y]).run P c.w= .ok v w'→(execOp act.eval o).run P c.w= .ok (.value v) w':=by
  intro v w' h
  simp [execOp,ho,resolve,invoke,builtin,h]
 unfold ng at he
 split at he <;> rename_i heq
 ·rename_i kq k
  simp only [List.cons.injEq,and_true] at heq
  obtain ⟨e1,e2⟩:=heq
  rw [e1] at h1; rw [e2] at h2
  simp only [R,RD] at h1 h2
  split at he
  ·rename_i hc
   obtain ⟨c1,c2,c3,c4,c5⟩:=hc
   have hzs:zv.cells.size=i.size:=by have:=hzR'.length; simp at this; omega
   have hkk:(k.toNat:Int)=k:=Int.toNat_of_nonneg c1
   obtain ⟨v',w',hr,hown,hwhere,hnil⟩:=bd (P:=P) c.w t tn o.type e i zv kn kq ht htn hi hzv hzs c3 (pc hzR') (.slice none 0 0) 0 [] (World.ownsRow_nil c.w 0 e i.size) k.toNat
    (by simp only [maxLen]; omega) (by rw [Nat.zero_add]; exact c4)
   rw [hkk] at hr
   rw [← h1,← h2] at hr
   simp only [Nat.zero_add,List.nil_append] at hown
   split at he
   ·rename_i hk0
    rw [zr he]
    subst hk0
    have hv:v'= .slice none 0 0:=hnil.2 ⟨rfl,rfl⟩
    have hw:w'=c.w:=by
     have:(Builtin.append_ #[t,tn] o.type #[.slice none 0 0,.int kq 0]).run P c.w= .ok (.slice none 0 0) c.w:=by
      simp [Builtin.append_,run_underlying ht,run_underlying htn,sizeOf,typeInfo,hi,asInt,asIntOf,IntKind.wrap_i64]
     rw [h1,h2,this] at hr
     injection hr with _ hr; exact hr.symm
    subst hv; subst hw
    exact Does.pure hobs (hexec _ _ hr) rfl
   ·rename_i hm
    simp only [mk,List.nil_append,Option.some.injEq] at he
    subst he
    obtain ⟨a',k',q1,q2,q3,q4,q5⟩:=xW hown
    cases a' with
    | none=>exact absurd (q4 rfl).1 (by omega)
    | some p'=>
      obtain ⟨r1,r2,r3⟩:=q5 p' rfl
      rcases hwhere with ⟨hb,_⟩ | ⟨hb,hg⟩
      ·rw [r3] at hb; simp [Value.ownBlock] at hb
      ·rw [r3] at hb
       injection hb with hb
       obtain ⟨pb,po,ps⟩:=p'
       simp only at r1 r2 hb
       subst r1; subst r2; subst hb
       have hx:=lz hobs (oid d 0) e i.size k.toNat none _ (w':=w') _ (v:=v') q1 (Nat.le_refl _) hg hown (o8 hzR' k.toNat) (by simp)
       refine ⟨_,_,_,_,_,_,hexec _ _ hr,.inl rfl,hx,?_⟩
       refine ⟨by rw [q1]; rfl,?_,?_⟩
       ·simp [za,wU,zq]
       ·intro _ _; exact (zq _ _ _).symm
  ·cases he
 ·rename_i id ver kq k
  simp only [List.cons.injEq,and_true] at heq
  obtain ⟨e1,e2⟩:=heq
  rw [e1] at h1; rw [e2] at h2
  simp only [R,RD] at h2
  simp only [Option.bind_eq_some_iff] at he
  obtain ⟨⟨ze,zs,n,zc,cells⟩,hrow,he⟩:=he
  simp only at he
  split at he
  ·rename_i hc
   obtain ⟨rfl,rfl,c1,c2,c3,c4,c5⟩:=hc
   simp only [Option.some.injEq] at he
   subst he
   have hzs:zv.cells.size=i.size:=by have:=hzR'.length; simp at this; omega
   have hkk:(k.toNat:Int)=k:=Int.toNat_of_nonneg c1
   obtain ⟨g1,olds,g2,g3,g4,g5⟩:=pR hs hobs h1 hrow
   obtain ⟨v',w',hr,hown,hwhere,hnil⟩:=bd (P:=P) c.w t tn o.type _ i zv kn kq ht htn hi hzv hzs c3 (pc hzR') (c.hd id) n olds g2 k.toNat (by simp only [maxLen]; omega) c4
   rw [hkk] at hr
   rw [← g1,← h2] at hr
   exact eg hs hobs h1 hrow g2 g3 g4 (o8 hzR' k.toNat) (hexec _ _ hr) hown hwhere
  ·cases he
 ·cases he
theorem TV {t e:TypeId} {s:Nat} {x y:Operand} {l:List SA} {out:Out} (ho:o.op= .slice t x none (some y) none) (ht:P.underlying t=some (.slice e)) (hsz:xK P e=some s)
  (hl:zD [x,y]=some l) (he:ji c.ob s (l.map st.get)=some out):Does P o act c role out:=by
 have hslc:tk c.ob false s false true (l.map st.get)=some out→Does P o act c role out:=fun h=>
  j7 (lo:=none) (hi:=some y) hs hobs ho ht (.inr ⟨⟨e,rfl,hsz⟩,rfl⟩) (by simpa using hl) h
 obtain ⟨a,b,rfl,h1,h2⟩:=uq hs hobs hl
 simp only [List.map_cons,List.map_nil] at he hslc
 have hrun:∀ (a:Option Addr) (n cap:Nat) k (h:Int),act.eval x= .slice a n cap→act.eval y= .int k h→0 ≤ h→h ≤ cap→
   (execOp act.eval o).run P c.w= .ok (.value (.slice (if cap=0 then a else a.map (·.add 0)) h.toNat cap)) c.w:=by
  intro a n cap k h hx hy h0 h1
  simp [execOp,ho,hx,hy,Instr.sliceAt,Instr.slice,Instr.sliceBounds,Instr.sliceBound,asIntOf,zS ht,h0,h1,wv hsz]
 unfold ji at he
 split at he <;> rename_i heq
 ·rename_i k h
  simp only [List.cons.injEq,and_true] at heq
  obtain ⟨e1,e2⟩:=heq
  rw [e1] at h1; rw [e2] at h2
  simp only [R,RD] at h1 h2
  split at he
  ·rename_i hh
   subst hh
   rw [zr he]
   exact Does.pure hobs (hrun none 0 0 k 0 h1 h2 (Int.le_refl _) (Int.le_refl _)) rfl
  ·cases he
 ·rename_i id ver k h
  simp only [List.cons.injEq,and_true] at heq
  obtain ⟨e1,e2⟩:=heq
  rw [e1,e2] at hslc
  rw [e1] at h1; rw [e2] at h2
  simp only [R,RD] at h2
  by_cases hlk:(c.ob id).leak=true
  ·rw [if_pos hlk] at he; exact hslc he
  rw [if_neg hlk] at he
  have c3:(c.ob id).leak=false:=by simpa using hlk
  simp only [Option.bind_eq_some_iff] at he
  obtain ⟨⟨ze,zs,n,zc,cells⟩,hrow,he⟩:=he
  simp only at he
  split at he
  ·rename_i hc
   obtain ⟨rfl,c1,c2⟩:=hc
   simp only [Option.some.injEq] at he
   subst he
   obtain ⟨g1,olds,g2,g3,g4,g5⟩:=pR hs hobs h1 hrow
   obtain ⟨hob,hver⟩:=xQ hrow
   obtain ⟨a',k',q1,q2,q3,q4,q5⟩:=xW g2
   have hr:=hrun a' n k' k h (g1.trans q1) h2 c1 (by omega)
   have hle:h.toNat * zs ≤ n * zs:=Nat.mul_le_mul_right _ (by omega)
   have hv:(if k'=0 then a' else a'.map (·.add 0))=a':=by
    split
    ·rfl
    ·cases a' with
     | none=>rfl
     | some p=>
       obtain ⟨pb,po,ps⟩:=p
       obtain ⟨r1,r2,_⟩:=q5 _ rfl
       simp only at r1 r2; subst r1; subst r2; rfl
   rw [hv] at hr
   have hown:c.w.ownsRow 0 ze zs (.slice a' h.toNat k') h.toNat (olds.take (h.toNat * zs)):=by
    refine ⟨by rw [List.length_take,g2.1]; omega,?_⟩
    rcases g2.2 with ⟨e3,e4⟩ | ⟨g,cap,cur,e3,hbg,hg,hnc,hcm,hcs,htake⟩
    ·rw [q1] at e3
     injection e3 with e5 e6 e7
     left
     refine ⟨?_,by omega⟩
     rw [e5,e7]
     congr 1
     omega
    ·rw [q1] at e3
     injection e3 with e5 e6 e7
     subst e5; subst e7
     right
     refine ⟨g,k',cur,rfl,hbg,hg,by omega,hcm,hcs,?_⟩
     rw [← htake,List.take_take,Nat.min_eq_left hle]
   have hblk:Value.ownBlock (.slice a' h.toNat k')=(c.hd id).ownBlock:=by rw [q1]; cases a' <;> rfl
   refine ⟨_,_,c.S,c.w,upd c.hd id (.slice a' h.toNat k'),role,hr,.inl rfl,?_,?_⟩
   ·refine uY hobs id (fun _ _ _=>rfl) (fun _ _ _=>rfl) ?_ (fun _ _=>rfl) (fun j hj=>⟨zx _ _ hj,zx _ _ hj⟩) (.inl (by simp [za,zq,hver])) rfl rfl rfl (Nat.le_refl _) ?_
    ·intro b off u _ ho' hu; exact ⟨ho',hu⟩
    ·intro hle'
     unfold ObOK
     simp only [za,zq]
     refine ⟨_,hown,g3.take _,?_,?_⟩
     ·intro b hb
      rw [hblk] at hb
      have:=g4 b hb
      rw [c3] at this
      simpa using this
     ·intro k'' hk''
      obtain ⟨a2,e2'⟩:=g5 k'' hk''
      rw [q1] at e2'
      injection e2' with e5 e6 e7
      subst e7
      exact ⟨_,rfl⟩
   ·refine ⟨by cases a' <;> rfl,?_,?_⟩
    ·simp [za,zq]
    ·intro _ _; exact (zq _ _ _).symm
  ·cases he
 ·exact hslc he
end
end Go.Vm
