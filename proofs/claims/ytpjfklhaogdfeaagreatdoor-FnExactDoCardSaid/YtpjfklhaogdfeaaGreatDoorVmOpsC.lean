import Derived.Test.YtpjfklhaogdfeaaGreatDoorVmOpsB
import Derived.Laws.Tables
import Derived.Laws.CopyRow
import Derived.Laws.BytesString
set_option linter.unusedVariables false
set_option linter.unusedSectionVars false
set_option linter.unusedSimpArgs false
namespace Go.Vm
theorem er {c:C}:∀ {vs:List Value} {as:List A},mF vs=some as→Rl c as vs
 | [],as,h=>by simp only [mF,Option.some.injEq] at h; subst h; rfl
 | v :: vs,as,h=>by
   simp only [mF,Option.bind_eq_some_iff,Option.map_eq_some_iff] at h
   obtain ⟨a,ha,l,hl,rfl⟩:=h
   exact ⟨v,vs,rfl,cj ha,er hl⟩
theorem ki (off:Nat):∀ (vs:List Value) (s:Nat) (arr:Array Value),off+s+vs.length ≤ arr.size→
  ((vs.zipIdx s).foldl (fun cs (x:Value×Nat)=>cs.setIfInBounds (off+x.2) x.1) arr).toList=arr.toList.take (off+s)++vs++arr.toList.drop (off+s+vs.length)
 | [],s,arr,_=>by simp
 | v :: vs,s,arr,h=>by
   simp only [List.length_cons] at h
   simp only [List.zipIdx_cons,List.foldl_cons]
   rw [ki off vs (s+1) _ (by simp; omega)]
   rw [Array.toList_setIfInBounds]
   have hlt:off+s < arr.toList.length:=by simp; omega
   rw [List.set_eq_take_append_cons_drop,if_pos hlt]
   have hl0:(arr.toList.take (off+s)).length=off+s:=by rw [List.length_take]; omega
   have e1:(arr.toList.take (off+s)++v :: arr.toList.drop (off+s+1)).take (off+(s+1))=arr.toList.take (off+s)++[v]:=by
    rw [List.take_append,hl0,List.take_of_length_le (by omega),show off+(s+1) - (off+s)=1 from by omega]
    rfl
   have e2:(arr.toList.take (off+s)++v :: arr.toList.drop (off+s+1)).drop (off+(s+1)+vs.length)=arr.toList.drop (off+s+(v :: vs).length):=by
    have hl:(arr.toList.take (off+s)).length=off+s:=by rw [List.length_take]; omega
    rw [List.drop_append,hl]
    have:off+(s+1)+vs.length - (off+s)=vs.length+1:=by omega
    rw [this,List.drop_succ_cons,List.drop_drop]
    have h0:(arr.toList.take (off+s)).drop (off+(s+1)+vs.length)=[]:=by apply List.drop_eq_nil_of_le; omega
    rw [h0,List.nil_append]
    congr 1
    simp; omega
   rw [e1,e2]
   simp
theorem bN {c:C} {place:Nat→Option (Nat×Nat)}:∀ (parts:List (Nat×Value)) (qs:List (Nat×Nat)) (as zero cs:List A) (z:Array Value),
  parts.map (fun p=>place p.1)=qs.map some→Rl c as (parts.map (·.2))→om zero qs as=some cs→Rl c zero z.toList→∃ cells,Instr.fill place z parts=some cells∧Rl c cs cells.toList
 | [],qs,as,zero,cs,z,hp,ha,hf,hz=>by
   have:qs=[]:=by cases qs with | nil=>rfl | cons _ _=>simp at hp
   subst this
   cases as with
   | nil=>simp only [om,Option.some.injEq] at hf; subst hf; exact ⟨z,rfl,hz⟩
   | cons a r=>obtain ⟨v,r',e,_⟩:=ha; cases e
 | (i,v) :: parts,qs,as,zero,cs,z,hp,ha,hf,hz=>by
   cases qs with
   | nil=>simp at hp
   | cons q qs=>
     obtain ⟨off,size⟩:=q
     simp only [List.map_cons,List.cons.injEq] at hp ha
     cases as with
     | nil=>simp [Rl] at ha
     | cons a as=>
       obtain ⟨v',r',e,hv,hr⟩:=ha
       simp only [List.cons.injEq] at e
       obtain ⟨rfl,rfl⟩:=e
       simp only [om] at hf
       split at hf
       ·rename_i hc
        obtain ⟨h1,h2,h3⟩:=hc
        have hcells:=qp hv h3
        have hlc:=hcells.length
        have hlz:=hz.length
        simp only [Array.length_toList] at hlc hlz
        have hsz:v.cells.size=size:=by omega
        have hfold:=ki off v.cells.toList 0 z (by simp; omega)
        simp only [Nat.add_zero,Array.length_toList] at hfold
        have hz':Rl c (zero.take off++cellsOf a++zero.drop (off+size)) (v.cells.zipIdx.foldl (fun cs (x:Value×Nat)=>cs.setIfInBounds (off+x.2) x.1) z).toList:=by
         rw [← Array.foldl_toList,Array.toList_zipIdx,hfold,hsz]
         exact ((Rl.take off hz).append hcells).append (Rl.drop _ hz)
        obtain ⟨cells,e1,e2⟩:=bN parts qs as _ cs _ hp.2 hr hf hz'
        refine ⟨cells,?_,e2⟩
        simp only [Instr.fill,hp.1]
        rw [if_neg (by simp; omega)]
        exact e1
       ·cases hf
section
variable {P:Program} {o:Oper} {act:Act} {c:C} {role:Nat→Option Nat} {st:St}
variable (hs:∀ n,R c (st.slot n) (act.tmps.getD n undef)) (hobs:∀ id,ObOK c role id)
include hs hobs
theorem pe {t:TypeId} {zero:List A} (h:ux P t=some zero):∃ i z,P.info? t=some i∧i.zero=some z∧Rl c zero z.cells.toList:=by
 simp only [ux,Option.bind_eq_some_iff] at h
 obtain ⟨z,⟨i,hi,hz⟩,hc⟩:=h
 exact ⟨i,z,hi,hz,er hc⟩
theorem T9 {t:TypeId} {parts:Array (Nat×Operand)} {zero:List A} {ps qs:List (Nat×Nat)} {l:List SA} {out:Out} {Γ:Ctx} {d:Nat} (ho:o.op= .build t parts)
  (hz:ux P t=some zero) (hps:gX P t=some ps) (hqs:(parts.toList.mapM fun p=>ps[p.1]?)=some qs) (hl:zD (parts.toList.map (·.2))=some l)
  (he:eval Γ c.ob d (.bld zero qs) (l.map st.get)=some out):Does P o act c role out:=by
 have hR:=qm hs hl
 obtain ⟨i,z,hi,hiz,hzR⟩:=pe (c:=c) hs hobs hz
 simp only [eval,Option.bind_eq_some_iff] at he
 obtain ⟨cs,hf,he⟩:=he
 rw [zr he]
 have hmap:∀ (place:Nat→Option (Nat×Nat)),(∀ i x,ps[i]? =some x→place i=some x)→
   (parts.toList.map fun p=>(p.1,act.eval p.2)).map (fun p=>place p.1)=qs.map some:=by
  intro place hp
  have:∀ (l:List (Nat×Operand)) (qs:List (Nat×Nat)),(l.mapM fun p=>ps[p.1]?)=some qs→(l.map fun p=>(p.1,act.eval p.2)).map (fun p=>place p.1)=qs.map some:=by
   intro l
   induction l with
   | nil=>intro qs h; simp at h; subst h; rfl
   | cons p l ih=>
     intro qs h
     simp only [List.mapM_cons,Option.bind_eq_bind,Option.pure_def,Option.bind_eq_some_iff,Option.some.injEq] at h
     obtain ⟨x,hx,rest,hr,rfl⟩:=h
     simp only [List.map_cons,hp _ _ hx]
     rw [ih rest hr]
  exact this _ _ hqs
 have hvals:Rl c (l.map st.get) ((parts.toList.map fun p=>(p.1,act.eval p.2)).map (·.2)):=by
  simp only [List.map_map] at hR ⊢
  exact hR
 have hbuilt:∃ cells,P.built t (parts.toList.map fun p=>(p.1,act.eval p.2))=some cells∧Rl c cs cells.toList:=by
  simp only [gX,Option.bind_eq_some_iff] at hps
  obtain ⟨u,hu,hps⟩:=hps
  split at hps
  ·rename_i fs
   have hplaces:fs.toList.mapM (fun f=>(P.info? f.type).map fun i=>(f.offset,i.size))=some ps:=by
    rw [← hps]
    congr 1
    funext f
    cases h:P.info? f.type <;> simp [xK,h]
   obtain ⟨cells,e1,e2⟩:=bN _ qs _ zero cs z.cells (hmap (ps.toArray[·]?) (fun i x h=>by simpa using h)) hvals hf hzR
   exact ⟨cells,by simp only [Program.built,hi,hu,hiz,hplaces]; exact e1,e2⟩
  ·rename_i n e
   simp only [Option.map_eq_some_iff] at hps
   obtain ⟨s,hs',rfl⟩:=hps
   simp only [xK,Option.map_eq_some_iff] at hs'
   obtain ⟨ie,hie,rfl⟩:=hs'
   obtain ⟨cells,e1,e2⟩:=bN (place:=fun i=>some (i * ie.size,ie.size)) _ qs _ zero cs z.cells (hmap (fun i=>some (i * ie.size,ie.size)) (fun i x h=>by
    simp only [List.getElem?_map,Option.map_eq_some_iff] at h
    obtain ⟨j,hj,rfl⟩:=h
    rw [List.getElem?_range] at hj
    ·simp only [Option.some.injEq] at hj; subst hj; rfl
    ·rcases Nat.lt_or_ge i n with h' | h'
     ·exact h'
     ·rw [List.getElem?_eq_none (by simpa using h')] at hj; cases hj)) hvals hf hzR
   exact ⟨cells,by simp only [Program.built,hi,hu,hiz,hie]; exact e1,e2⟩
  ·cases hps
 obtain ⟨cells,e1,e2⟩:=hbuilt
 refine Does.pure hobs (v:= .agg cells) ?_ ⟨cells,rfl,e2⟩
 have hrun:=run_build (P:=P) c.w t (parts.map fun p=>(p.1,act.eval p.2)) cells (by simpa using e1)
 simp only [execOp,ho,Sem.run_bind]
 rw [show (parts.map fun x=>match x with | (i,x)=>(i,act.eval x))=parts.map fun p=>(p.1,act.eval p.2) from rfl,hrun]
 rfl
theorem jF {cells:List A} {cs:Array Value} {et:TypeId} {out:Out} {d:Nat} (hrun:(execOp act.eval o).run P c.w= .ok (.value (.pointer (some ⟨c.w.heap.size,0,none⟩))) (c.w.alloc (.cells cs et)))
  (hc:Rl c cells cs.toList) (h1:cells.all one=true) (he:mk c.ob d [] (.box cells)=some out):Does P o act c role out:=by
 simp only [mk,List.nil_append,Option.some.injEq] at he
 subst he
 have hx:=Yq hobs (oid d 0) cells cs et hc h1
 refine ⟨_,_,_,_,_,_,hrun,.inl rfl,hx,?_⟩
 refine ⟨rfl,?_,?_⟩
 ·simp [za,wU,zq]
 ·intro _ _; exact ⟨c.w.heap.size,zq _ _ _,rfl⟩
theorem Z4 {t:TypeId} {zero:List A} {out:Out} {Γ:Ctx} {d:Nat} (ho:o.op= .alloc t) (hz:ux P t=some zero) (he:eval Γ c.ob d (.alloc zero) []=some out):Does P o act c role out:=by
 obtain ⟨i,z,hi,hiz,hzR⟩:=pe (c:=c) hs hobs hz
 simp only [eval] at he
 split at he
 ·rename_i h1
  refine jF hs hobs (cs:=z.cells) (et:=t) ?_ hzR h1 he
  simp [execOp,ho,Instr.alloc,zeroValue,typeInfo,hi,hiz,newVar,newRow]
 ·cases he
theorem U4 {t:TypeId} {x:Operand} {sa:SA} {out:Out} {Γ:Ctx} {d:Nat} (ho:o.op= .box t x) (hx:zQ x=some sa) (he:eval Γ c.ob d .box [st.get sa]=some out):Does P o act c role out:=by
 have hr:=yn hs hx
 simp only [eval] at he
 split at he
 ·rename_i h1
  refine jF hs hobs (cs:=(act.eval x).cells) (et:=t) ?_ (qp hr h1) h1 he
  simp [execOp,ho,Instr.box,newVar,newRow]
 ·cases he
end
end Go.Vm
set_option linter.unusedVariables false
set_option linter.unusedSectionVars false
set_option linter.unusedSimpArgs false
namespace Go.Vm
theorem yh (f:Nat→Ob):∀ (l l':List (Nat×Ob)),za f (l++l')=za (za f l) l'
 | [],_=>rfl
 | (i,o) :: l,l'=>yh (upd f i o) l l'
theorem nD (ob:Nat→Ob) (id:Nat):∀ (ids:List Nat) (f:Nat→Ob),(f id).ver=(ob id).ver→(za f (zl ob ids) id).ver=(ob id).ver
 | [],f,h=>h
 | i :: ids,f,h=>by
   simp only [zl,List.map_cons,za]
   refine nD ob id ids _ ?_
   by_cases hi:id=i
   ·subst hi; simp [zq]
   ·simpa [zx _ _ hi] using h
theorem NE {S:Nat→Nat} {w:World} {x:D} {v:Value} (h:RD S w x v):v.oneCell'=true:=by
 have:R ⟨S,w,fun _=>undef,fun _=>{}⟩ (.d x) v:=h
 exact xM this rfl
theorem pc {S:Nat→Nat} {w:World}:∀ {xs:List D} {vs:List Value},RDl S w xs vs→∀ v ∈ vs,v.oneCell'=true
 | [],vs,h,v,hv=>by simp only [RDl] at h; subst h; cases hv
 | x :: xs,_,⟨u,r,e,hu,hr⟩,v,hv=>by
   subst e
   rcases List.mem_cons.1 hv with rfl | h
   ·exact NE hu
   ·exact pc hr v h
theorem WJ {c:C}:∀ {xs:List A} {vs:List Value},Rl c xs vs→xs.all one=true→∀ v ∈ vs,v.oneCell'=true
 | [],vs,h,_,v,hv=>by simp only [Rl] at h; subst h; cases hv
 | x :: xs,_,⟨u,r,e,hu,hr⟩,h1,v,hv=>by
   subst e
   simp only [List.all_cons,Bool.and_eq_true] at h1
   rcases List.mem_cons.1 hv with rfl | h
   ·exact xM hu h1.1
   ·exact WJ hr h1.2 v h
theorem gx {S:Nat→Nat} {w:World} {b:Nat}:∀ (xs:List D) (o:Nat),RDat S w xs b o→
  ∃ vs:List Value,(∀ j v,vs[j]? =some v→w.cell? ⟨b,o+j,none⟩=some v)∧RDl S w xs vs
 | [],_,_=>⟨[],by simp,rfl⟩
 | x :: xs,o,⟨_,⟨v,hv,hx⟩,hr⟩=>by
   obtain ⟨vs,h2,h3⟩:=gx xs (o+1) hr
   refine ⟨v :: vs,?_,v,vs,rfl,hx,h3⟩
   intro j u hj
   cases j with
   | zero=>simp at hj; subst hj; simpa using hv
   | succ j=>simp at hj; have:=h2 j u hj; rwa [show o+1+j=o+(j+1) from by omega] at this
theorem TZ {ob:Nat→Ob} {a:A} {x:D×List Nat} (h:yC ob a=some x):one a=true:=by
 cases a <;> simp_all [yC,one]
theorem nu {ob:Nat→Ob}:∀ {as:List A} {x:List D×List Nat},zZ ob as=some x→as.all one=true
 | [],_,_=>rfl
 | a :: as,x,h=>by
   simp only [zZ,Option.bind_eq_some_iff,Option.map_eq_some_iff] at h
   obtain ⟨y,h1,z,h2,_⟩:=h
   simp [TZ h1,nu h2]
section
variable {c:C} {role:Nat→Option Nat} (hobs:∀ id,ObOK c role id)
include hobs
theorem lv {a:A} {v:Value} {m:Nat} {xs:List D} {y:D} {ids:List Nat} (h:yC c.ob a=some (y,ids)) (hy:y.asLst=some (m,xs)) (hr:R c a v):
  ∃ p k news,v= .slice p m k∧m ≤ k∧(p=none→m=0∧k=0∧xs=[])∧(∀ q,p=some q→∀ j u,news[j]? =some u→c.w.cell? (q.add j)=some u)∧RDl c.S c.w xs news:=by
 have key:∀ v,RD c.S c.w (.lst m xs) v→∃ p k news,v= .slice p m k∧m ≤ k∧(p=none→m=0∧k=0∧xs=[])∧(∀ q,p=some q→∀ j u,news[j]? =some u→c.w.cell? (q.add j)=some u)∧RDl c.S c.w xs news:=by
  rintro v ⟨p,k,e1,e2,e3,e4⟩
  cases p with
  | none=>
    obtain ⟨h1,h2,h3⟩:=e3 rfl
    exact ⟨none,k,[],e1,e2,e3,by simp,by subst h3; rfl⟩
  | some q=>
    obtain ⟨q1,q2⟩:=e4 q rfl
    obtain ⟨vs,h1,h2⟩:=gx xs _ q2
    refine ⟨some q,k,vs,e1,e2,by simp,?_,h2⟩
    rintro q' ⟨rfl⟩ j u hj
    rcases q1 with q1 | ⟨_,q1⟩
    ·obtain ⟨qb,qo,qs⟩:=q
     simp only at q1; subst q1
     rw [Addr.add_mk]; exact h1 j u hj
    ·subst q1
     have:vs=[]:=h2
     subst this; simp at hj
 have key':∀ v,RD c.S c.w y v→∃ p k news,v= .slice p m k∧m ≤ k∧(p=none→m=0∧k=0∧xs=[])∧(∀ q,p=some q→∀ j u,news[j]? =some u→c.w.cell? (q.add j)=some u)∧RDl c.S c.w xs news:=by
  intro v hv
  cases y <;> simp only [D.asLst,reduceCtorEq,Option.some.injEq,Prod.mk.injEq] at hy
  ·obtain ⟨rfl,rfl⟩:=hy; exact key v hv
  ·obtain ⟨rfl,rfl⟩:=hy
   obtain ⟨p,k,e1,e2,e3,e4⟩:=hv
   exact key v ⟨some p,k,e1,e2,by simp,by rintro q ⟨rfl⟩; exact ⟨e3,e4⟩⟩
 cases a with
 | d x=>simp only [yC,Option.some.injEq,Prod.mk.injEq] at h; obtain ⟨rfl,rfl⟩:=h; exact key' v hr
 | nil=>
   simp only [yC,Option.some.injEq,Prod.mk.injEq] at h
   obtain ⟨rfl,rfl⟩:=h
   simp only [D.asLst,Option.some.injEq,Prod.mk.injEq] at hy
   obtain ⟨rfl,rfl⟩:=hy
   simp only [R] at hr; subst hr
   exact ⟨none,0,[],rfl,Nat.le_refl _,fun _=>⟨rfl,rfl,rfl⟩,by simp,rfl⟩
 | row id ver=>
   simp only [yC] at h
   split at h
   ·rename_i e sz n cap cells ho
    split at h
    ·rename_i hv
     simp only [Option.some.injEq,Prod.mk.injEq] at h
     obtain ⟨rfl,rfl⟩:=h
     simp only [D.asLst,Option.some.injEq,Prod.mk.injEq] at hy
     obtain ⟨rfl,rfl⟩:=hy
     have e1:=hr.2.2 hv.symm (by rw [ho]; rfl)
     obtain ⟨xs,h1,h2,h3,h4⟩:=x9 (hobs id) ho
     obtain ⟨a,k,q1,q2,q3,q4,q5⟩:=xW h1
     refine ⟨a,k,xs,e1.trans q1,q2,?_,?_,h2⟩
     ·intro ha
      obtain ⟨p1,p2⟩:=q4 ha
      refine ⟨p1,p2,?_⟩
      have:=h1.1; rw [p1,Nat.zero_mul] at this
      exact List.eq_nil_of_length_eq_zero (by rw [← h2.length]; exact this)
     ·intro q hq j u hj
      obtain ⟨p1,p2,p3⟩:=q5 q hq
      obtain ⟨qb,qo,qs⟩:=q
      simp only at p1 p2 p3; subst p1; subst p2
      exact h1.cells p3 j u hj
    ·cases h
   ·cases h
 | undef=>simp [yC] at h
 | adr=>simp [yC] at h
 | rad=>simp [yC] at h
 | vw=>simp [yC] at h
 | cp=>simp [yC] at h
 | agg=>simp [yC] at h
 | tup=>simp [yC] at h
end
section
variable {P:Program} {o:Oper} {act:Act} {c:C} {role:Nat→Option Nat} {st:St}
variable (hs:∀ n,R c (st.slot n) (act.tmps.getD n undef)) (hobs:∀ id,ObOK c role id)
include hs hobs
theorem SG {t u e:TypeId} {x:Operand} {sa:SA} {out:Out} {Γ:Ctx} {d:Nat} (ho:o.op= .convert t u x) (ht:P.underlying t=some (.slice e)) (hu:P.underlying u=some .string) (hE:P.underlying e=some (.int .u8))
  (hx:zQ x=some sa) (he:eval Γ c.ob d .b2s [st.get sa]=some out):Does P o act c role out:=by
 have hr:=yn hs hx
 generalize st.get sa=a at he hr
 simp only [eval,Option.bind_eq_some_iff] at he
 obtain ⟨⟨y,ids⟩,hsn,he⟩:=he
 split at he
 ·rename_i n xs _ heq
  simp only [Prod.mk.injEq] at heq
  obtain ⟨rfl,rfl⟩:=heq
  split at he
  ·rename_i hn
   simp only [Option.bind_eq_some_iff] at he
   obtain ⟨bs,hbs,he⟩:=he
   rw [zr he]
   obtain ⟨p,k,news,e1,e2,e3,e4,e5⟩:=lv hobs hsn rfl hr
   have hb:∀ (xs:List D) (news:List Value) (bs:List UInt8),rk xs=some bs→RDl c.S c.w xs news→∃ ns:List Int,news=ns.map (Value.int .u8)∧bs=ns.map fun n=>UInt8.ofNat n.toNat:=by
    intro xs
    induction xs with
    | nil=>intro news bs h hR; simp only [rk,Option.some.injEq] at h; simp only [RDl] at hR; subst h; subst hR; exact ⟨[],rfl,rfl⟩
    | cons x xs ih=>
      intro news bs h hR
      obtain ⟨v,r,e,hv,hr⟩:=hR
      cases x with
      | int q n=>
        cases q <;> simp only [rk,Option.map_eq_some_iff,reduceCtorEq] at h
        obtain ⟨bs',h',rfl⟩:=h
        obtain ⟨ns,h1,h2⟩:=ih r bs' h' hr
        simp only [RD] at hv
        exact ⟨n :: ns,by rw [e,hv,h1]; rfl,by rw [h2]; rfl⟩
      | _=>simp [rk] at h
   obtain ⟨ns,h1,h2⟩:=hb xs news bs hbs e5
   refine Does.pure hobs (v:= .string ⟨bs.toArray⟩) ?_ rfl
   have hpush:∀ (ns:List Int) (s:ByteArray),ns.foldl (fun r n=>r.push (UInt8.ofNat n.toNat)) s=⟨s.data++(ns.map fun n=>UInt8.ofNat n.toNat).toArray⟩:=by
    intro ns
    induction ns with
    | nil=>intro s; simp
    | cons n ns ih=>
      intro s
      rw [List.foldl_cons,ih]
      congr 1
      show s.data.push _++_=_
      simp
   simp only [execOp,ho,e1,Sem.run_bind,run_convert_bytes_string c.w t u e p n k ht hE hu]
   cases p with
   | none=>
     obtain ⟨q1,q2,q3⟩:=e3 rfl
     subst q3
     simp only [RDl] at e5
     subst e5
     have:ns=[]:=by cases ns with | nil=>rfl | cons _ _=>simp at h1
     subst this
     simp only [List.map_nil] at h2; subst h2
     simp [Conv.bytesToString]
     rfl
   | some q=>
     have hl:(loadCells q n).run P c.w= .ok (ns.map (Value.int .u8)).toArray c.w:=by
      have hlen:n=(ns.map (Value.int .u8)).length:=by rw [← h1,e5.length]; exact hn
      rw [hlen]
      exact run_loadCells_list c.w q _ (by rw [← h1]; exact e4 q rfl)
     rw [run_bytesToString c.w q n k ns hl,hpush,h2]
     simp
  ·cases he
 ·cases he
theorem RM {t:TypeId} {n:Nat} {x y:Operand} {l:List SA} {out:Out} (ho:o.op= .store t x y) (hn:xK P t=some n) (hl:zD [x,y]=some l)
  (he:fx c.ob n (l.map st.get)=some out):Does P o act c role out:=by
 obtain ⟨a,b,rfl,h1,h2⟩:=uq hs hobs hl
 simp only [List.map_cons,List.map_nil] at he
 have hrun:∀ (g off:Nat) (et:TypeId) (cur:Array Value),act.eval x= .pointer (some ⟨g,off,none⟩)→c.w.heap[g]? =some (.cells cur et (0,0))→(act.eval y).cells.size=n→off+n ≤ cur.size→
   (∀ v ∈ (act.eval y).cells.toList,v.oneCell'=true)→(execOp act.eval o).run P c.w=
     .ok .skip (c.w.setRow g (cur.toList.take off++(act.eval y).cells.toList++cur.toList.drop (off+n)).toArray):=by
  intro g off et cur hx hg hsz hfit hone
  have hst:=run_storeCells_at P g off et (act.eval y).cells.toList 0 cur c.w hg (by simp; omega) hone
  simp only [Nat.add_zero,Array.length_toList,hsz] at hst
  simp [execOp,ho,hx,Instr.storeAt,Instr.sureAddr,storeVar,wv hn,hsz,hst]
 have hother:∀ (g b:Nat) (z:Array Value),b ≠ g→(c.w.setRow g z).heap[b]? =c.w.heap[b]? :=fun g b z hb=>setRow_other c.w g b z hb
 unfold fx at he
 split at he <;> rename_i heq
 ·rename_i id ver off a'
  simp only [List.cons.injEq,and_true] at heq
  obtain ⟨e1,e2⟩:=heq
  rw [e1] at h1; rw [e2] at h2
  simp only [Option.bind_eq_some_iff] at he
  obtain ⟨cells,hb,he⟩:=he
  split at he
  ·rename_i hc
   obtain ⟨c1,c2,c3⟩:=hc
   simp only [Option.some.injEq] at he
   subst he
   obtain ⟨g,cs,et,q1,q2,q3,q4,q5,q6,q7⟩:=mO hs hobs h1 hb
   have hcell:=qp h2 c3
   have hsz:(act.eval y).cells.size=n:=by have:=hcell.length; simp at this; omega
   have hcl:=q4.length
   simp only [Array.length_toList] at hcl
   have hr:=hrun g off et cs q2 q3 hsz (by omega) (WJ hcell c3)
   refine ⟨_,undef,c.S,_,c.hd,role,hr,.inr ⟨rfl,rfl⟩,?_,trivial⟩
   have hob:=(m5 hb).1
   refine uY hobs id ?_ ?_ ?_ (fun b hb=>rfl) (fun j hj=>⟨zx _ _ hj,rfl⟩) ?_ rfl rfl rfl (by simp [World.setRow]) ?_
   ·exact fun b hb _=>rfl
   ·intro b hb hr'
    exact hother g b _ (fun h=>hr' (by rw [h]; exact q7))
   ·intro b o v hr' ho' hv
    refine ⟨ho',?_⟩
    have hne:b ≠ g:=by rintro rfl; rw [q6] at ho'; omega
    show (c.w.setRow g _).cell? _=_
    rw [World.cell?_of_block (w:=c.w) (hother g b _ hne)]; exact hv
   ·right
    refine ⟨by simp [za,zq],?_,?_,rfl⟩
    ·simp only [za,zq,hob]; rfl
    ·simp only [za,zq,hob]; rfl
   ·intro hle
    unfold ObOK
    simp only [za,zq]
    refine ⟨g,_,et,q1,setRow_heap c.w g cs _ et _ q3,?_,?_,q6,q7⟩
    ·simp only [List.toList_toArray] at *
     exact ((Rl.take off (Rl.mono hle _ _ q4)).append (Rl.mono hle _ _ hcell)).append (Rl.drop _ (Rl.mono hle _ _ q4))
    ·simp only [List.all_append,Bool.and_eq_true]
     refine ⟨⟨?_,c3⟩,?_⟩
     ·rw [List.all_eq_true] at q5 ⊢; exact fun z hz=>q5 z (List.mem_of_mem_take hz)
     ·rw [List.all_eq_true] at q5 ⊢; exact fun z hz=>q5 z (List.mem_of_mem_drop hz)
  ·cases he
 ·rename_i id ver off a'
  simp only [List.cons.injEq,and_true] at heq
  obtain ⟨e1,e2⟩:=heq
  rw [e1] at h1; rw [e2] at h2
  simp only [Option.bind_eq_some_iff] at he
  obtain ⟨⟨ze,zs,zn,zc,cells⟩,hb,⟨ys,ls⟩,hsn,he⟩:=he
  simp only at he
  split at he
  ·rename_i hc
   obtain ⟨c1,c2,c3,c4⟩:=hc
   simp only [Option.some.injEq] at he
   subst he
   obtain ⟨g,k,xs,q1,q2,q3,q4,q5,q6⟩:=kK hs hobs h1 hb
   have h1':=nu hsn
   have hcell:=qp h2 h1'
   obtain ⟨r1,r2⟩:=uM hobs hsn hcell
   obtain ⟨S1,x1,y1⟩:=w4 ls hobs r1
   have hys:RDl S1 c.w ys (act.eval y).cells.toList:=r2 S1 x1.le.stab y1
   have hsame:za c.ob (zl c.ob ls) id=c.ob id:=by
    have:∀ (l:List Nat) (f:Nat→Ob),id ∉ l→za f (zl c.ob l) id=f id:=by
     intro l
     induction l with
     | nil=>intro f _; rfl
     | cons i l ih=>
       intro f h
       simp only [List.mem_cons,not_or] at h
       simp only [zl,List.map_cons,za]
       rw [show l.map (fun id=>(id,({ c.ob id with leak:=true }:Ob)))=zl c.ob l from rfl,ih _ h.2,zx _ _ h.1]
    exact this ls c.ob (bO c4)
   have hsz:(act.eval y).cells.size=n:=by have:=hys.length; simp at this; omega
   simp only [c1,Bool.false_eq_true,if_false] at q6
   have hob:=(xQ hb).1
   have hS1:S1 g=0:=by
    have q:=x1.obs id
    unfold ObOK at q
    simp only [hsame,hob] at q
    obtain ⟨_,_,_,q7,_⟩:=q
    have q8:=(q7 g (by rw [q1]; rfl)).2
    simpa [c1] using q8
   obtain ⟨cap,cur,hhd,hg,hnc,hcm,hcs,htake⟩:∃ cap cur,c.hd id= .slice (some ⟨g,0,none⟩) zn cap∧c.w.heap[g]? =some (.cells cur ze (0,0))∧zn ≤ cap∧cap ≤ maxLen∧cur.size=cap * zs∧cur.toList.take (zn * zs)=xs:=by
    rcases q3.2 with ⟨e,_⟩ | ⟨g',cap,cur,e,_,h3,h4,h5,h6,h7⟩
    ·rw [q1] at e; simp at e
    ·have e0:=e
     rw [q1] at e
     injection e with e' _ _
     injection e' with e'
     injection e' with e'
     subst e'
     exact ⟨cap,cur,e0,h3,h4,h5,h6,h7⟩
   have hxl:=q3.1
   have hcl:=q4.length
   have hle':zn * zs ≤ cap * zs:=Nat.mul_le_mul_right _ hnc
   have hr:=hrun g off ze cur q2 hg hsz (by rw [hcs]; omega) (pc hys)
   refine ⟨_,undef,S1,_,c.hd,role,hr,.inr ⟨rfl,rfl⟩,x1.trans ?_,trivial⟩
   refine uY x1.obs id ?_ ?_ ?_ (fun b hb=>rfl) (fun j hj=>⟨by simp only [yh,za,zx _ _ hj],rfl⟩) ?_ rfl rfl rfl (by simp [World.setRow]) ?_
   ·exact fun b hb _=>rfl
   ·intro b hb hr'
    exact hother g b _ (fun h=>hr' (by rw [h]; exact q5))
   ·intro b o v hr' ho' hv
    refine ⟨ho',?_⟩
    have hne:b ≠ g:=by rintro rfl; simp only at ho'; omega
    show (c.w.setRow g _).cell? _=_
    rw [World.cell?_of_block (w:=c.w) (hother g b _ hne)]; exact hv
   ·right
    refine ⟨by simp [yh,za,zq,hsame],?_,?_,rfl⟩
    ·simp only [yh,za,zq,hsame,hob]; rfl
    ·simp only [yh,za,zq,hsame,hob]; rfl
   ·intro hle
    unfold ObOK
    simp only [yh,za,zq]
    refine ⟨xs.take off++(act.eval y).cells.toList++xs.drop (off+n),?_,?_,?_,?_⟩
    ·refine ⟨by simp; omega,.inr ⟨g,cap,_,hhd,Nat.zero_le _,setRow_heap c.w g cur _ ze _ hg,hnc,hcm,?_,?_⟩⟩
     ·simp; omega
     ·simp only [List.toList_toArray]
      subst htake
      have hA:((cur.toList.take off)).length=off:=by simp; omega
      have e1:(cur.toList.take (zn * zs)).take off=cur.toList.take off:=by rw [List.take_take]; congr 1; omega
      have e2:(cur.toList.take off++(act.eval y).cells.toList++cur.toList.drop (off+n)).take (zn * zs)=
        cur.toList.take off++(act.eval y).cells.toList++(cur.toList.drop (off+n)).take (zn * zs - (off+n)):=by
       rw [List.take_append,List.take_of_length_le (by simp; omega)]
       congr 2
       simp; omega
      rw [e1,e2,List.drop_take]
    ·exact ((RDl.take off (RDl.mono (x1.le.stab.trans hle.stab) _ _ q4)).append (RDl.mono hle.stab _ _ hys)).append (RDl.drop _ (RDl.mono (x1.le.stab.trans hle.stab) _ _ q4))
    ·intro b hb'
     rw [q1] at hb'
     simp only [Value.ownBlock,Option.some.injEq] at hb'
     subst hb'
     exact ⟨q5,by simp [c1,hS1]⟩
    ·have:=(x9 (hobs id) hob)
     obtain ⟨_,_,_,_,h4⟩:=this
     exact h4
  ·cases he
 ·cases he
end
end Go.Vm
set_option linter.unusedVariables false
set_option linter.unusedSectionVars false
set_option linter.unusedSimpArgs false
namespace Go.Vm
theorem Zu {P:Program} (w:World) (t ty e:TypeId) (i:TypeInfo) (z:Value) (ht:P.underlying t=some (.slice e)) (hi:P.info? e=some i) (hz:i.zero=some z)
  (hzs:z.cells.size=i.size) (hsz:0 < i.size) (v:Value) (n:Nat) (xs:List Value) (hown:w.ownsRow 0 e i.size v n xs)
  (a:Option Addr) (m c:Nat) (hna:a=none→m=0∧c=0) (news:List Value) (hl:news.length=m * i.size) (hnews:∀ q,a=some q→∀ j u,news[j]? =some u→w.cell? (q.add j)=some u) (h1:∀ u ∈ news,u.oneCell'=true)
  (h63:n+m ≤ maxLen) (hbytes:(n+m) * i.bytes ≤ 140737488355328):
  ∃ v' w',(Builtin.append_ #[t,t] ty #[v,.slice a m c]).run P w= .ok v' w'∧w'.ownsRow 0 e i.size v' (n+m) (xs++news)∧
    ((v'.ownBlock=v.ownBlock∧w.grownBy w' v.ownBlock) ∨ (v'.ownBlock=some w.heap.size∧w.grownBy w' none))∧(v'= .slice none 0 0 ↔ v= .slice none 0 0∧m=0):=by
 cases a with
 | none=>
   obtain ⟨rfl,rfl⟩:=hna rfl
   have:news=[]:=List.eq_nil_of_length_eq_zero (by simpa using hl)
   subst this
   refine ⟨v,w,run_append_owned_none w 0 t ty e i i.size ht hi v n xs hown,by simpa using hown,.inl ⟨rfl,⟨rfl,rfl,rfl,Nat.le_refl _,fun _ _ _=>rfl⟩⟩,by simp⟩
 | some a=>
   have hnews:=hnews a rfl
   have hsmall:n+m ≤ 9223372036854775807:=by simp only [maxLen] at h63; omega
   have hlen:(xs++news).length=(n+m) * i.size:=by rw [List.length_append,hown.1,hl,Nat.add_mul]
   have grown:∀ (old:Nat),old < n+m→
     (w.drew.alloc (.cells (xs.toArray++news.toArray++Builtin.zeroCells z.cells (grownCap w (n+m) old e - (n+m))) e)).ownsRow 0 e i.size
       (.slice (some ⟨w.heap.size,0,none⟩) (n+m) (grownCap w (n+m) old e)) (n+m) (xs++news)∧
     w.grownBy (w.drew.alloc (.cells (xs.toArray++news.toArray++Builtin.zeroCells z.cells (grownCap w (n+m) old e - (n+m))) e)) none:=by
    intro old ho
    have hge:=grownCap_ge w (n+m) old e
    have hcm:grownCap w (n+m) old e ≤ maxLen:=grownCap_le_maxLen w (n+m) old e h63
    refine ⟨⟨hlen,.inr ⟨w.heap.size,_,_,rfl,Nat.zero_le _,heap_alloc_new w.drew _,hge,hcm,?_,?_⟩⟩,⟨rfl,rfl,rfl,by simp,fun k hk _=>heap_alloc_old w.drew _ hk⟩⟩
    ·simp only [Array.size_append,List.size_toArray,size_zeroCells,hzs,hown.1,hl,← Nat.add_mul]
     congr 1
     omega
    ·simp only [Array.toList_append,List.append_assoc]
     rw [← List.append_assoc,← hlen]
     exact List.take_left
   rcases hown.2 with ⟨rfl,rfl⟩ | ⟨g,cap,cur,rfl,hbg,hg,hnc,hcm,hcs,htake⟩
   ·have hx:xs=[]:=List.eq_nil_of_length_eq_zero (by simpa using hown.1)
    subst hx
    by_cases hm:m=0
    ·subst hm
     have hn:news=[]:=List.eq_nil_of_length_eq_zero (by simpa using hl)
     subst hn
     refine ⟨.slice none 0 0,w,?_,World.ownsRow_nil w 0 e i.size,.inl ⟨rfl,⟨rfl,rfl,rfl,Nat.le_refl _,fun _ _ _=>rfl⟩⟩,by simp⟩
     simp [Builtin.append_,run_underlying ht,sizeOf,typeInfo,hi,Builtin.lenOf,Builtin.firstCells,loadCells,loadCellsFrom]
    ·have hr:=run_append_nil (P:=P) w t ty e i z ht hi hz a m c news hl hnews (by omega) (by omega) (by have hb:=hbytes; simp only [Nat.zero_add] at hb; omega)
     have hgr:=grown 0 (by omega)
     simp only [Nat.zero_add,List.nil_append,Array.empty_append] at hgr ⊢
     exact ⟨_,_,hr,hgr.1,.inr ⟨rfl,hgr.2⟩,by simp [hm]⟩
   ·by_cases hroom:n+m ≤ cap
    ·have hfit:n * i.size+news.length ≤ cur.size:=by rw [hl,hcs,← Nat.add_mul]; exact Nat.mul_le_mul_right _ hroom
     have hr:=run_append_room (P:=P) w t ty e i ht hi g n cap cur hg a m c news hl hnews h1 hroom hfit
     refine ⟨_,_,hr,⟨hlen,.inr ⟨g,cap,_,rfl,hbg,setRow_heap w g cur _ e _ hg,hroom,hcm,?_,?_⟩⟩,.inl ⟨rfl,⟨rfl,rfl,rfl,by simp [World.setRow],fun k _ hk=>setRow_other w g k _ (fun e=>hk (by simp [Value.ownBlock,e]))⟩⟩,by simp⟩
     ·simp only [List.size_toArray,List.length_append,List.length_take,List.length_drop,Array.length_toList]
      omega
     ·rw [htake,← hlen]
      exact List.take_left
    ·have holds:∀ j u,xs[j]? =some u→w.cell? ((⟨g,0,none⟩:Addr).add j)=some u:=hown.cells (g:=g) rfl
     have hr:=run_append_grow (P:=P) w t ty e i z ht hi hz ⟨g,0,none⟩ n cap xs hown.1 holds a m c news hl hnews (by omega) (by omega) (growslice_fits (by omega) hbytes)
     have hgr:=grown cap (by omega)
     exact ⟨_,_,hr,hgr.1,.inr ⟨rfl,hgr.2⟩,by simp⟩
section
variable {P:Program} {o:Oper} {act:Act} {c:C} {role:Nat→Option Nat} {st:St}
variable (hs:∀ n,R c (st.slot n) (act.tmps.getD n undef)) (hobs:∀ id,ObOK c role id)
include hs hobs
theorem eg {id ver n m sz:Nat} {e:TypeId} {zc:Option Nat} {cells xs:List D} {olds news:List Value} {u v':Value} {w':World}
  (h1:R c (.row id ver) u) (hrow:yW c.ob id ver=some (e,sz,n,zc,cells)) (g2:c.w.ownsRow 0 e sz (c.hd id) n olds) (g3:RDl c.S c.w cells olds)
  (g4:∀ b,(c.hd id).ownBlock=some b→role b=some id∧c.S b=if (c.ob id).leak then n * sz else 0) (f5:RDl c.S c.w xs news)
  (hexec:(execOp act.eval o).run P c.w= .ok (.value v') w') (hown:w'.ownsRow 0 e sz v' (n+m) (olds++news))
  (hwhere:(v'.ownBlock=(c.hd id).ownBlock∧c.w.grownBy w' (c.hd id).ownBlock) ∨ (v'.ownBlock=some c.w.heap.size∧c.w.grownBy w' none)):
  Does P o act c role (.val (.row id (ver+1)) [(id,{ ver:=ver+1,o:= .row e sz (n+m) none (cells++xs),leak:=(c.ob id).leak })]):=by
 obtain ⟨hob,hver⟩:=xQ hrow
 have hlt:∀ b,(c.hd id).ownBlock=some b→b < c.w.heap.size:=fun b hb=>(g2.lt b hb).2
 obtain ⟨a',k',q1,q2,q3,q4,q5⟩:=xW hown
 refine ⟨_,v',fun b=>if v'.ownBlock=some b then (if (c.ob id).leak then (n+m) * sz else 0) else c.S b,w',upd c.hd id v',
  fun b=>if v'.ownBlock=some b then some id else role b,hexec,.inl rfl,?_,?_⟩
 ·have hgr:c.w.grownBy w' (c.hd id).ownBlock:=by
   rcases hwhere with ⟨_,hg⟩ | ⟨_,hg⟩
   ·exact hg
   ·exact ⟨hg.os,hg.tape,hg.output,hg.size,fun b hb _=>hg.block b hb (by simp)⟩
  have hvb:∀ b,v'.ownBlock=some b→b < c.w.heap.size→(c.hd id).ownBlock=some b:=by
   intro b hb hl
   rcases hwhere with ⟨h,_⟩ | ⟨h,_⟩
   ·rw [← h]; exact hb
   ·rw [hb] at h; injection h with h; omega
  refine uY hobs id ?_ ?_ ?_ ?_ ?_ ?_ hgr.os hgr.tape hgr.output hgr.size ?_
  ·intro b hb hr'
   have:v'.ownBlock ≠ some b:=fun h=>hr' (g4 b (hvb b h hb)).1
   simp [this]
  ·intro b hb hr'
   exact hgr.block b hb (fun h=>hr' (g4 b h.symm).1)
  ·intro b off u hr' ho' hu
   have hl:=World.block_lt_of_cell? c.w ⟨b,off,none⟩ hu
   simp only at hl
   by_cases hb:(c.hd id).ownBlock=some b
   ·have hS:=(g4 b hb).2
    rw [hS] at ho'
    split at ho'
    ·rename_i hlk
     have hxl:=g2.1
     have hold:olds[off]? =some u:=by
      have:=g2.cells hb off
      cases h:olds[off]? with
      | none=>rw [List.getElem?_eq_none_iff] at h; omega
      | some u'=>
        have:=this u' h
        rw [Addr.add_mk,Nat.zero_add] at this
        rw [hu] at this; exact this.symm
     rcases hwhere with ⟨h,_⟩ | ⟨h,hg⟩
     ·have hb':v'.ownBlock=some b:=by rw [h]; exact hb
      refine ⟨?_,?_⟩
      ·simp only [hb',if_true,hlk]; rw [Nat.add_mul]; omega
      ·have:=hown.cells hb' off u (by rw [List.getElem?_append_left (by omega)]; exact hold)
       rw [Addr.add_mk,Nat.zero_add] at this; exact this
     ·have hb':v'.ownBlock ≠ some b:=by rw [h]; simp; omega
      refine ⟨?_,?_⟩
      ·simp only [hb',if_false]; rw [hS]; simp only [hlk,if_true]; exact ho'
      ·rw [World.cell?_of_block (w:=c.w) (hg.block b hl (by simp))]; exact hu
    ·omega
   ·have hb':v'.ownBlock ≠ some b:=fun h=>hb (hvb b h hl)
    refine ⟨by simp only [hb',if_false]; exact ho',?_⟩
    rw [World.cell?_of_block (w:=c.w) (hgr.block b hl (fun h=>hb h.symm))]; exact hu
  ·intro b hb
   by_cases h:v'.ownBlock=some b
   ·simp only [h,if_true]; exact (g4 b (hvb b h hb)).1.symm
   ·simp only [h,if_false]
  ·exact fun j hj=>⟨zx _ _ hj,zx _ _ hj⟩
  ·left; simp [za,zq,hver]
  ·intro hle
   unfold ObOK
   simp only [za,zq]
   refine ⟨olds++news,hown,(RDl.mono hle.stab _ _ g3).append (RDl.mono hle.stab _ _ f5),?_,by simp⟩
   intro b hb
   simp [hb]
 ·refine ⟨by rw [q1]; rfl,?_,?_⟩
  ·simp [za,zq]
  ·intro _ _; exact (zq _ _ _).symm
theorem TB {x y:Operand} {args:Array Operand} {tys:Array TypeId} {t e:TypeId} {i:TypeInfo} {z:Value} {l:List SA} {out:Out} {d:Nat}
  (ho:o.op= .call { callee:= .builtin .append,args:=args,argTypes:=tys }) (ha:args.toList=[x,y]) (hty:tys.toList=[t,t]) (ht:P.underlying t=some (.slice e))
  (hi:P.info? e=some i) (hz:i.zero=some z) (hzs:z.cells.size=i.size) (hl:zD [x,y]=some l) (he:lL c.ob d e i.size i.bytes (l.map st.get)=some out):Does P o act c role out:=by
 obtain rfl:args=#[x,y]:=by have:=congrArg List.toArray ha; simpa using this
 obtain rfl:tys=#[t,t]:=by have:=congrArg List.toArray hty; simpa using this
 obtain ⟨a,b,rfl,h1,h2⟩:=uq hs hobs hl
 simp only [List.map_cons,List.map_nil] at he
 have hexec:∀ v w',(Builtin.append_ #[t,t] o.type #[act.eval x,act.eval y]).run P c.w= .ok v w'→(execOp act.eval o).run P c.w= .ok (.value v) w':=by
  intro v w' h
  simp [execOp,ho,resolve,invoke,builtin,h]
 unfold lL at he
 split at he <;> rename_i heq
 ·simp only [List.cons.injEq,and_true] at heq
  obtain ⟨e1,e2⟩:=heq
  rw [e1] at h1; rw [e2] at h2
  simp only [R] at h1
  simp only [Option.bind_eq_some_iff] at he
  obtain ⟨⟨q,ids⟩,hsn,⟨m,xs⟩,hq,he⟩:=he
  ·split at he
   ·rename_i hc
    obtain ⟨c1,c2,c3,c4⟩:=hc
    obtain ⟨p,k,news,f1,f2,f3,f4,f5⟩:=lv hobs hsn hq h2
    obtain ⟨v',w',hr,hown,hwhere,hnil⟩:=Zu (P:=P) c.w t o.type e i z ht hi hz hzs c2 (.slice none 0 0) 0 [] (World.ownsRow_nil c.w 0 e i.size) p m k
     (fun h=>⟨(f3 h).1,(f3 h).2.1⟩) news (by rw [f5.length]; exact c1) f4 (pc f5) (by simp [maxLen]; omega) (by rw [Nat.zero_add]; exact c3)
    rw [← h1,← f1] at hr
    simp only [Nat.zero_add,List.nil_append] at hown
    split at he
    ·rename_i hm
     rw [zr he]
     have hv:v'= .slice none 0 0:=hnil.2 ⟨rfl,hm⟩
     have hw:w'=c.w:=by
      subst hm
      have hn:news=[]:=List.eq_nil_of_length_eq_zero (by rw [f5.length,c1]; simp)
      cases p with
      | none=>
        obtain ⟨_,rfl,_⟩:=f3 rfl
        have:=run_append_owned_none (P:=P) c.w 0 t o.type e i i.size ht hi (.slice none 0 0) 0 [] (World.ownsRow_nil c.w 0 e i.size)
        rw [h1,f1,this] at hr
        injection hr with _ hr; exact hr.symm
      | some p=>
        have:(Builtin.append_ #[t,t] o.type #[.slice none 0 0,.slice (some p) 0 k]).run P c.w= .ok (.slice none 0 0) c.w:=by
         simp [Builtin.append_,run_underlying ht,sizeOf,typeInfo,hi,Builtin.lenOf,Builtin.firstCells,loadCells,loadCellsFrom]
        rw [h1,f1,this] at hr
        injection hr with _ hr; exact hr.symm
     subst hv; subst hw
     exact Does.pure hobs (hexec _ _ hr) rfl
    ·rename_i hm
     simp only [mk,List.nil_append,Option.some.injEq] at he
     subst he
     obtain ⟨a',k',q1,q2,q3,q4,q5⟩:=xW hown
     cases a' with
     | none=>exact absurd (q4 rfl).1 hm
     | some p'=>
       obtain ⟨r1,r2,r3⟩:=q5 p' rfl
       rcases hwhere with ⟨hb,_⟩ | ⟨hb,hg⟩
       ·rw [r3] at hb; simp [Value.ownBlock] at hb
       ·rw [r3] at hb
        injection hb with hb
        obtain ⟨pb,po,ps⟩:=p'
        simp only at r1 r2 hb
        subst r1; subst r2; subst hb
        have hx:=lz hobs (oid d 0) e i.size m none xs (w':=w') news (v:=v') q1 (Nat.le_refl _) hg hown f5 (by simp)
        refine ⟨_,_,_,_,_,_,hexec _ _ hr,.inl rfl,hx,?_⟩
        refine ⟨by rw [q1]; rfl,?_,?_⟩
        ·simp [za,wU,zq]
        ·intro _ _; exact (zq _ _ _).symm
   ·cases he
 ·rename_i id ver y'
  simp only [List.cons.injEq,and_true] at heq
  obtain ⟨e1,e2⟩:=heq
  rw [e1] at h1; rw [e2] at h2
  simp only [Option.bind_eq_some_iff] at he
  obtain ⟨⟨ze,zs,n,zc,cells⟩,hrow,⟨q,ids⟩,hsn,⟨m,xs⟩,hq,he⟩:=he
  simp only at he
  ·split at he
   ·rename_i hc
    obtain ⟨rfl,rfl,c2,c1,c3,c4⟩:=hc
    simp only [Option.some.injEq] at he
    subst he
    obtain ⟨p,k,news,f1,f2,f3,f4,f5⟩:=lv hobs hsn hq h2
    obtain ⟨g1,olds,g2,g3,g4,g5⟩:=pR hs hobs h1 hrow
    obtain ⟨hob,hver⟩:=xQ hrow
    obtain ⟨v',w',hr,hown,hwhere,hnil⟩:=Zu (P:=P) c.w t o.type _ i z ht hi hz hzs c2 (c.hd id) n olds g2 p m k
     (fun h=>⟨(f3 h).1,(f3 h).2.1⟩) news (by rw [f5.length]; exact c1) f4 (pc f5) (by simp [maxLen]; omega) c3
    rw [← g1,← f1] at hr
    have hlt:∀ b,(c.hd id).ownBlock=some b→b < c.w.heap.size:=fun b hb=>(g2.lt b hb).2
    obtain ⟨a',k',q1,q2,q3,q4,q5⟩:=xW hown
    exact eg hs hobs h1 hrow g2 g3 g4 f5 (hexec _ _ hr) hown hwhere
   ·cases he
 ·cases he
end
end Go.Vm
