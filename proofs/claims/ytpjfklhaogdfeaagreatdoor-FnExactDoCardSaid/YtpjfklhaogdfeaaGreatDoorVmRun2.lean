/- The code of a function does what the abstract machine says. -/
import Derived.Test.YtpjfklhaogdfeaaGreatDoorVmCanon
set_option linter.unusedVariables false
set_option linter.unusedSectionVars false
set_option linter.unusedSimpArgs false
namespace Go.Vm
variable [Gl]
section
variable {F:Fr} {P:Program} {Γ:Ctx}
theorem lO {ops:Array Oper} {N:Nx}:∀ {l:List Oper} {sops:List SOper},pA P ops N l=some sops→l.map (sT P ops N)=sops.map some
 | [],_,h=>by cases h; rfl
 | o :: r,sops,h=>by
   obtain ⟨a,h1,h⟩:=bind_some h
   obtain ⟨as,h2,h⟩:=map_some h
   subst h
   simp only [List.map_cons,h1,lO h2]
theorem VJ {ops:Array Oper} {N:Nx} {sops:List SOper} (h:pA P ops N ops.toList=some sops):
  (List.range ops.size).map (fun i=>(ops[i]?).bind (sT P ops N))=sops.map some:=by
 rw [← lO h]
 apply List.ext_getElem?
 intro i
 simp only [List.getElem?_map,Array.getElem?_toList]
 by_cases hi:i < ops.size
 ·rw [List.getElem?_range hi]; simp [hi]
 ·rw [List.getElem?_eq_none (by simpa using hi)]; simp [hi]
def lh (ob:Nat→Ob):O→List Nat
 | .box cells=>match zZ ob cells with
   | some (_,ls)=>ls
   | none=>[]
 | _=>[]
theorem Inv.forget {st:St} {S:Nat→Nat} {hd:Nat→Value} {role:Nat→Option Nat} {act:Act} {w:World} (h:Inv F st S hd role act w) {ps:List Nat} (hps:F.par.map (·.1)=ps):
  ∃ S',Inv F (st.forget ps) S' hd role act w∧Stab S w S' w:=by
 have hrows:∀ id ∈ ps.flatMap (fun i=>lh st.ob (st.ob i).o),∃ e sz n cap cells,(st.ob id).o= .row e sz n cap cells:=by
  intro id hid
  obtain ⟨i,hi,hm⟩:=List.mem_flatMap.1 hid
  unfold lh at hm
  split at hm
  ·rename_i cells ho
   split at hm
   ·rename_i xs ls hsn
    obtain ⟨b,cs,et,_,_,q3,_⟩:=wQ (h.obs i) ho
    exact (uM h.obs hsn q3).1 id hm
   ·cases hm
  ·cases hm
 obtain ⟨S',x1,x2⟩:=w4 _ h.obs hrows
 have hI:=h.ext x1
 refine ⟨S',?_,x1.le.stab⟩
 refine ⟨hI.num,hI.dfr,hI.fix,fun _=>trivial,?_,hI.os,hI.tape,hI.output,hI.size,hI.heap,hI.gl,hI.roleP,hI.role,?_⟩
 ·intro id
  by_cases e:ps.any (· == id)=true
  ·have hi:=h.obs id
   have hI':=x1.obs id
   unfold ObOK
   simp only [St.forget,e,if_true]
   cases ho:(st.ob id).o with
   | dead=>simp only [tr]
   | row=>simp only [tr]
   | res k x=>
     simp only [tr]
     obtain ⟨vs,q1,q2,q3⟩:=sX hI' (by rw [mS st.ob id _ st.ob rfl]; exact ho)
     exact ⟨vs,q1,q2,q3⟩
   | box cells=>
     simp only [tr]
     cases hsn:zZ st.ob cells with
     | none=>simp only
     | some y=>
       obtain ⟨xs,ls⟩:=y
       simp only
       have ho':(za st.ob (zl st.ob (ps.flatMap (fun i=>lh st.ob (st.ob i).o))) id).o= .box cells:=by rw [mS st.ob id _ st.ob rfl]; exact ho
       obtain ⟨b,cs,et,q1,q2,q3,q4,q5,q6⟩:=wQ hI' ho'
       obtain ⟨b',cs',et',r1,r2,r3,_⟩:=wQ hi ho
       simp only at q1 r1 q2 r2
       rw [q1] at r1; injection r1 with r1; injection r1 with r1; injection r1 with r1; subst r1
       rw [q2] at r2; injection r2 with r2; injection r2 with r2 r2'; subst r2
       refine ⟨b,cs,et,q1,q2,ZU ?_,gW xs,q5,q6⟩
       refine (uM h.obs hsn r3).2 S' x1.le.stab ?_
       intro j hj
       refine x2 j (List.mem_flatMap.2 ⟨id,?_,?_⟩)
       ·obtain ⟨k,hk,hke⟩:=List.any_eq_true.1 e
        rw [← beq_iff_eq.1 hke]; exact hk
       ·simp only [ho,lh,hsn]; exact hj
  ·unfold ObOK
   have:(st.forget ps).ob id={}:=by simp only [St.forget,e]; rfl
   simp only [this]
 ·intro p hp
  have:ps.any (· == p.1)=true:=by
   rw [List.any_eq_true]; exact ⟨p.1,by rw [← hps]; exact List.mem_map_of_mem (f:=(·.1)) hp,by simp⟩
  simp only [St.forget,this,if_true]
  exact h.par p hp
theorem Inv.frz {st st':St} {S:Nat→Nat} {hd:Nat→Value} {role:Nat→Option Nat} {act:Act} {w:World} (h:Inv F st S hd role act w) {n:Nat} (hf:st.frz n=some st'):∃ S',Inv F st' S' hd role act w:=by
 unfold St.frz at hf
 split at hf
 ·rename_i id ver off hsl
  obtain ⟨cells,hbox,hf⟩:=bind_some hf
  obtain ⟨⟨xs,ls⟩,hsn,hf⟩:=bind_some hf
  simp only [Option.some.injEq] at hf
  subst hf
  have ho:(st.ob id).o= .box cells:=by
   unfold xg at hbox
   split at hbox
   ·rename_i e; split at hbox <;> simp_all
   ·simp_all
  obtain ⟨b,cs,et,q1,q2,q3,q4,q5,q6⟩:=wQ (h.obs id) ho
  have hrows:=(uM h.obs hsn q3).1
  obtain ⟨S',x1,x2⟩:=w4 ls h.obs hrows
  have hI:=h.ext x1
  have hid:id ∉ ls:=fun hm=>by
   obtain ⟨e,sz,n,cap,cells',hr⟩:=hrows id hm
   rw [ho] at hr; cases hr
  have hv:∀ i,(za st.ob (zl st.ob ls) i).ver=(st.ob i).ver∧(za st.ob (zl st.ob ls) i).o=(st.ob i).o:=by
   intro i
   refine ⟨?_,mS st.ob i _ st.ob rfl⟩
   have:∀ (l:List Nat) (f:Nat→Ob),(f i).ver=(st.ob i).ver→(za f (zl st.ob l) i).ver=(st.ob i).ver:=by
    intro l
    induction l with
    | nil=>intro f hf; exact hf
    | cons j l ih=>
      intro f hf
      refine ih (upd f j { st.ob j with leak:=true }) ?_
      unfold upd
      split
      ·rename_i e; subst e; rfl
      ·exact hf
   exact this ls st.ob rfl
  have happ:∀ (l m:List (Nat×Ob)) (f:Nat→Ob),za f (l++m)=za (za f l) m:=by
   intro l
   induction l with
   | nil=>intro m f; rfl
   | cons p l ih=>intro m f; exact ih m _
  have hob:∀ i,za st.ob (zl st.ob ls++[(id,{ st.ob id with o:= .box (xs.map dA) })]) i=if i=id then { st.ob id with o:= .box (xs.map dA) } else za st.ob (zl st.ob ls) i:=by
   intro i
   rw [happ]; rfl
  have hle:Le ⟨S',w,hd,za st.ob (zl st.ob ls)⟩ ⟨S',w,hd,za st.ob (zl st.ob ls++[(id,{ st.ob id with o:= .box (xs.map dA) })])⟩:=by
   refine ⟨Stab.refl _ _,fun i=>?_,fun i _=>?_⟩
   ·simp only [hob]
    split
    ·rename_i e; subst e; rw [(hv i).1]; exact Nat.le_refl _
    ·exact Nat.le_refl _
   ·simp only [hob]
    split
    ·rename_i e; subst e; rw [(hv i).2,ho]; exact ⟨rfl,rfl,trivial⟩
    ·exact ⟨rfl,rfl,trivial⟩
  refine ⟨S',hI.num,hI.dfr,hI.fix,fun m=>R.mono hle _ _ (hI.slots m),?_,hI.os,hI.tape,hI.output,hI.size,hI.heap,hI.gl,hI.roleP,hI.role,?_⟩
  ·intro i
   by_cases e:i=id
   ·subst e
    unfold ObOK
    simp only [hob,if_true]
    obtain ⟨b',cs',et',r1,r2,r3,r4,r5,r6⟩:=wQ (hI.obs i) (by rw [(hv i).2]; exact ho)
    simp only at q1 r1 q2 r2
    rw [q1] at r1; injection r1 with r1; injection r1 with r1; injection r1 with r1; subst r1
    rw [q2] at r2; injection r2 with r2; injection r2 with r2 r2'; subst r2
    refine ⟨b,cs,et,q1,q2,ZU ?_,gW xs,r5,r6⟩
    refine (uM h.obs hsn q3).2 S' x1.le.stab ?_
    intro j hj
    exact x2 j hj
   ·exact (hI.obs i).keep hle i (by simp only [hob]; rw [if_neg e]) rfl (fun b hb _=>⟨rfl,rfl,hb⟩)
  ·intro p hp
   have hpp:=hI.par p hp
   simp only [hob]
   by_cases e:p.1=id
   ·rw [if_pos e]
    rw [(hv p.1).1] at hpp
    rw [e] at hpp
    simpa using ⟨hpp.1,fun h=>by rw [e]; exact hpp.2 h⟩
   ·rw [if_neg e]; exact hpp
 ·simp only [Option.some.injEq] at hf
  subst hf
  exact ⟨S,h⟩
def fm (P:Program) (Γ:Ctx) (F:Fr) (ps:List Nat):Prop:=∀ (id:Nat) (ops:Array Oper) (live watch:List Nat) (sops:List SOper) (n:Nat) (st st':St) (ex:Ex) (S:Nat→Nat) (hd:Nat→Value) (role:Nat→Option Nat) (act:Act) (w:World),
 NN P ops F.N=some sops→run Γ ps n (.region (some watch) live sops) st=some (ex,st')→Inv F st S hd role act w→(Code.region id ops true).wp P (Post F ex st') act w
theorem cf (hΓ:SoundAll P Γ) {ps:List Nat} (id:Nat) {ops:Array Oper} {live:List Nat} {sops:List SOper} {n:Nat} {st st':St} {ex:Ex} {S:Nat→Nat} {hd:Nat→Value} {role:Nat→Option Nat} {act:Act} {w:World}
  (hc:pA P ops F.N ops.toList=some sops) (hr:run Γ ps n (.region none live sops) st=some (ex,st')) (hI:Inv F st S hd role act w):(Code.region id ops false).wp P (Post F ex st') act w:=by
 simp only [run] at hr
 obtain ⟨⟨e1,s1⟩,h1,hr⟩:=map_some hr
 have h2:=kZ (P:=P) hΓ _ _ (VJ hc) h1 hI
 refine wp_mono (wp_region h2) ?_
 rintro e a w' ⟨S',hd',role',hI',hx⟩
 cases e1 with
 | normal=>
   simp only [Prod.mk.injEq] at hr
   obtain ⟨rfl,rfl⟩:=hr
   exact ⟨S',hd',role',hI'.only live,hx⟩
 | exit i=>
   simp only [Prod.mk.injEq] at hr
   obtain ⟨rfl,rfl⟩:=hr
   exact ⟨S',hd',role',hI',hx⟩
 | ret=>
   simp only [Prod.mk.injEq] at hr
   obtain ⟨rfl,rfl⟩:=hr
   exact ⟨S',hd',role',hI',hx⟩
 | panic x=>
   simp only [Prod.mk.injEq] at hr
   obtain ⟨rfl,rfl⟩:=hr
   exact ⟨S',hd',role',hI',hx⟩
theorem Post.then {next:Act→World→Prop} {ex ex':Ex} {st st':St} {e:Exit} {a:Act} {w:World} (h:Post F ex st e a w)
  (hn:ex= .normal→Post F .normal st .normal a w→next a w) (hq:ex ≠ .normal→ex'=ex∧st'=st):Exit.then next (Post F ex' st') e a w:=by
 obtain ⟨S,hd,role,hI,hx⟩:=h
 cases ex with
 | normal=>
   simp only [ExR] at hx; subst hx
   exact hn rfl ⟨S,hd,role,hI,rfl⟩
 | exit i=>
   simp only [ExR] at hx; subst hx
   obtain ⟨rfl,rfl⟩:=hq (by simp)
   exact ⟨S,hd,role,hI,rfl⟩
 | ret=>
   simp only [ExR] at hx; subst hx
   obtain ⟨rfl,rfl⟩:=hq (by simp)
   exact ⟨S,hd,role,hI,rfl⟩
 | panic x=>
   obtain ⟨v,rfl,hv⟩:=hx
   obtain ⟨rfl,rfl⟩:=hq (by simp)
   exact ⟨S,hd,role,hI,v,rfl,hv⟩
theorem gG {c:Code} {ps:List Nat} {keep:List Nat} {f:St→Option (Ex×St)} (hps:F.par.map (·.1)=ps)
  (hb:∀ {st st':St} {ex:Ex} {S:Nat→Nat} {hd:Nat→Value} {role:Nat→Option Nat} {act:Act} {w:World},f st=some (ex,st')→Inv F st S hd role act w→c.wp P (Post F ex st') act w):
  ∀ (n:Nat) {st st':St} {ex:Ex} {S:Nat→Nat} {hd:Nat→Value} {role:Nat→Option Nat} {act:Act} {w:World},
    g9 (fun st=>(canon ps keep st).bind f) n st=some (ex,st')→Inv F st S hd role act w→
    ∀ (b:Frame) (k:List Item) (cs:List Frame),∃ e a' w',Post F ex st' e a' w'∧Arrives P (lone (b.at act (.code c :: .inLoop c :: k)) cs w) b k cs e a' w'
 | 0,st,st',ex,S,hd,role,act,w,h,hI,b,k,cs=>by cases h
 | n+1,st,st',ex,S,hd,role,act,w,h,hI,b,k,cs=>by
   simp only [g9] at h
   obtain ⟨⟨e1,s1⟩,h1,h⟩:=bind_some h
   obtain ⟨s0,h0,h1⟩:=bind_some h1
   obtain ⟨hd0,role0,hI0⟩:=hI.canon hps h0
   obtain ⟨e,a₁,w₁,hq,harr⟩:=hb h1 hI0 b (.inLoop c :: k) cs
   obtain ⟨S1,hd1,role1,hI1,hx⟩:=hq
   cases e1 with
   | normal=>
     simp only at h
     simp only [ExR] at hx; subst hx
     obtain ⟨e₂,a₂,w₂,hq₂,harr₂⟩:=gG hps hb n h hI1 b k cs
     exact ⟨e₂,a₂,w₂,hq₂,.of_steps (Steps.trans harr (.one step_inLoop)) harr₂⟩
   | exit i=>
     simp only [Option.some.injEq,Prod.mk.injEq] at h
     obtain ⟨rfl,rfl⟩:=h
     simp only [ExR] at hx; subst hx
     exact ⟨_,a₁,w₁,⟨S1,hd1,role1,hI1,rfl⟩,.pass (x:= .inLoop c) rfl (fun _ _=> .inl (by simp)) harr⟩
   | ret=>
     simp only [Option.some.injEq,Prod.mk.injEq] at h
     obtain ⟨rfl,rfl⟩:=h
     simp only [ExR] at hx; subst hx
     exact ⟨_,a₁,w₁,⟨S1,hd1,role1,hI1,rfl⟩,.pass (x:= .inLoop c) rfl (fun _ _=> .inl (by simp)) harr⟩
   | panic x=>
     simp only [Option.some.injEq,Prod.mk.injEq] at h
     obtain ⟨rfl,rfl⟩:=h
     obtain ⟨v,rfl,hv⟩:=hx
     exact ⟨_,a₁,w₁,⟨S1,hd1,role1,hI1,v,rfl,hv⟩,.pass (x:= .inLoop c) rfl (fun _ _=> .inl (by simp)) harr⟩
def qf:Cd→Nat
 | .skip=>0 | .region .. =>1 | .seq .. =>2 | .cond .. =>3 | .block .. =>4 | .loop .. =>5 | .exit _=>6 | .ret=>7 | .scope _=>9 | .frz .. =>10
def sc:Code→Nat
 | .skip=>0 | .region .. =>1 | .seq .. =>2 | .cond .. =>3 | .block .. =>4 | .loop .. =>5 | .exit _=>6 | .ret=>7 | .scope _=>9 | .label _=>0 | _=>8
theorem xR {N:Nx} {code:Code} {cd:Cd} (h:comp P N code=some cd):sc code=qf cd:=by
 cases code with
 | skip=>cases h; rfl
 | region _ _ d=>cases d <;> (obtain ⟨_,_,h⟩:=map_some h; subst h; rfl)
 | seq=>obtain ⟨_,_,h⟩:=bind_some h; obtain ⟨_,_,h⟩:=map_some h; subst h; rfl
 | cond=>obtain ⟨_,_,h⟩:=bind_some h; obtain ⟨_,_,h⟩:=bind_some h; obtain ⟨_,_,h⟩:=map_some h; subst h; rfl
 | block=>obtain ⟨_,_,h⟩:=map_some h; subst h; rfl
 | loop=>obtain ⟨_,_,h⟩:=map_some h; subst h; rfl
 | exit=>cases h; rfl
 | scope=>obtain ⟨_,_,h⟩:=map_some h; subst h; rfl
 | label=>cases h; rfl
 | ret=>cases h; rfl
 | _=>cases h
theorem xX (hΓ:SoundAll P Γ) {ps:List Nat} (hps:F.par.map (·.1)=ps) (hD:fm P Γ F ps) (n:Nat):∀ (cd:Cd) {code:Code} {st st':St} {ex:Ex} {S:Nat→Nat} {hd:Nat→Value} {role:Nat→Option Nat} {act:Act} {w:World},
  comp P F.N code=some cd.strip→run Γ ps n cd st=some (ex,st')→Inv F st S hd role act w→code.wp P (Post F ex st') act w
 | .skip,code,st,st',ex,S,hd,role,act,w,hc,hr,hI=>by
   simp only [run,Option.some.injEq,Prod.mk.injEq] at hr
   obtain ⟨rfl,rfl⟩:=hr
   cases code with
   | skip=>exact wp_skip ⟨S,hd,role,hI,rfl⟩
   | label l=>exact wp_label ⟨S,hd,role,hI,rfl⟩
   | _=>exact absurd (xR hc) (by simp [qf,sc,Cd.strip])
 | .region d live sops,code,st,st',ex,S,hd,role,act,w,hc,hr,hI=>by
   cases code with
   | region id ops draw=>
     cases draw with
     | false=>
       simp only [comp,Cd.strip] at hc
       obtain ⟨l,h1,hc⟩:=map_some hc
       cases hc
       exact cf hΓ id h1 hr hI
     | true=>
       simp only [comp,Cd.strip] at hc
       obtain ⟨l,h1,hc⟩:=map_some hc
       cases hc
       exact hD id ops live [] _ n st st' ex S hd role act w h1 hr hI
   | _=>
     exact absurd (xR hc) (by simp [qf,sc,Cd.strip])
 | .seq x y,code,st,st',ex,S,hd,role,act,w,hc,hr,hI=>by
   cases code with
   | seq a b=>
     simp only [comp,Cd.strip] at hc
     obtain ⟨ca,h1,hc⟩:=bind_some hc
     obtain ⟨cb,h2,hc⟩:=map_some hc
     cases hc
     simp only [run] at hr
     obtain ⟨⟨e1,s1⟩,h3,hr⟩:=bind_some hr
     refine wp_seq (wp_mono (xX hΓ hps hD n x h1 h3 hI) ?_)
     intro e a' w' hp
     refine hp.then ?_ ?_
     ·rintro rfl ⟨S',hd',role',hI',_⟩
      exact xX hΓ hps hD n y h2 hr hI'
     ·intro hne
      cases e1 with
      | normal=>exact absurd rfl hne
      | _=>simp only [Option.some.injEq,Prod.mk.injEq] at hr; exact ⟨hr.1.symm,hr.2.symm⟩
   | _=>
     exact absurd (xR hc) (by simp [qf,sc,Cd.strip])
 | .cond c x y,code,st,st',ex,S,hd,role,act,w,hc,hr,hI=>by
   cases code with
   | cond oc a b=>
     simp only [comp,Cd.strip] at hc
     obtain ⟨cc,h0,hc⟩:=bind_some hc
     obtain ⟨ca,h1,hc⟩:=bind_some hc
     obtain ⟨cb,h2,hc⟩:=map_some hc
     cases hc
     simp only [run] at hr
     have hv:=yn (c:=⟨S,w,hd,st.ob⟩) (st:=st) (act:=act) hI.slots h0
     split at hr
     ·rename_i b' hb'
      rw [hb'] at hv
      simp only [R,RD] at hv
      refine wp_cond hv ?_
      cases b'
      ·exact xX hΓ hps hD n y h2 hr hI
      ·exact xX hΓ hps hD n x h1 hr hI
     ·cases hr
   | _=>
     exact absurd (xR hc) (by simp [qf,sc,Cd.strip])
 | .frz m x,code,st,st',ex,S,hd,role,act,w,hc,hr,hI=>by
   simp only [run] at hr
   obtain ⟨st1,h1,hr⟩:=bind_some hr
   obtain ⟨S',hI'⟩:=hI.frz h1
   exact xX hΓ hps hD n x hc hr hI'
 | .scope x,code,st,st',ex,S,hd,role,act,w,hc,hr,hI=>by
   cases code with
   | scope a=>
     simp only [comp,Cd.strip] at hc
     obtain ⟨ca,h1,hc⟩:=map_some hc
     cases hc
     simp only [run] at hr
     refine wp_scope_straight (wp_mono (xX hΓ hps hD n x h1 hr hI) ?_)
     intro e a' w' hp
     cases e with
     | goto l=>
       obtain ⟨S',hd',role',hI',hx⟩:=hp
       cases ex <;> simp [ExR] at hx
     | _=>exact hp
   | _=>
     exact absurd (xR hc) (by simp [qf,sc,Cd.strip])
 | .block i x,code,st,st',ex,S,hd,role,act,w,hc,hr,hI=>by
   cases code with
   | block id a=>
     simp only [comp,Cd.strip] at hc
     obtain ⟨ca,h1,hc⟩:=map_some hc
     cases hc
     simp only [run] at hr
     obtain ⟨⟨e1,s1⟩,h3,hr⟩:=map_some hr
     refine wp_block (wp_mono (xX hΓ hps hD n x h1 h3 hI) ?_)
     rintro e a' w' ⟨S',hd',role',hI',hx⟩
     cases e1 with
     | normal=>
       simp only [Prod.mk.injEq] at hr; obtain ⟨rfl,rfl⟩:=hr
       simp only [ExR] at hx; subst hx
       exact ⟨S',hd',role',hI',rfl⟩
     | exit j=>
       simp only [ExR] at hx; subst hx
       simp only [Exit.inBlock]
       simp only at hr
       split at hr
       ·simp only [Prod.mk.injEq] at hr; obtain ⟨rfl,rfl⟩:=hr
        rw [if_pos ‹_›]
        exact ⟨S',hd',role',hI',rfl⟩
       ·simp only [Prod.mk.injEq] at hr; obtain ⟨rfl,rfl⟩:=hr
        rw [if_neg ‹_›]
        exact ⟨S',hd',role',hI',rfl⟩
     | ret=>
       simp only [Prod.mk.injEq] at hr; obtain ⟨rfl,rfl⟩:=hr
       simp only [ExR] at hx; subst hx
       exact ⟨S',hd',role',hI',rfl⟩
     | panic z=>
       simp only [Prod.mk.injEq] at hr; obtain ⟨rfl,rfl⟩:=hr
       obtain ⟨v,rfl,hv⟩:=hx
       exact ⟨S',hd',role',hI',v,rfl,hv⟩
   | _=>
     exact absurd (xR hc) (by simp [qf,sc,Cd.strip])
 | .loop keep x,code,st,st',ex,S,hd,role,act,w,hc,hr,hI=>by
   cases code with
   | loop a=>
     simp only [comp,Cd.strip] at hc
     obtain ⟨ca,h1,hc⟩:=map_some hc
     cases hc
     simp only [run] at hr
     intro b k cs
     obtain ⟨e,a',w',hq,harr⟩:=gG (P:=P) (c:=a) (f:=run Γ ps n x) hps (fun h hI'=>xX hΓ hps hD n x h1 h hI') n hr hI b k cs
     exact ⟨e,a',w',hq,.of_steps (.one step_loop) harr⟩
   | _=>
     exact absurd (xR hc) (by simp [qf,sc,Cd.strip])
 | .exit i,code,st,st',ex,S,hd,role,act,w,hc,hr,hI=>by
   have hcode:code= .exit i:=by
    have:=xR hc
    cases code <;> first | (cases hc; rfl) | (exact absurd this (by simp [qf,sc,Cd.strip]))
   subst hcode
   simp only [run,Option.some.injEq,Prod.mk.injEq] at hr
   obtain ⟨rfl,rfl⟩:=hr
   exact wp_exit ⟨S,hd,role,hI,rfl⟩
 | .ret,code,st,st',ex,S,hd,role,act,w,hc,hr,hI=>by
   have hcode:code= .ret:=by
    have:=xR hc
    cases code <;> first | rfl | (exact absurd this (by simp [qf,sc,Cd.strip]))
   subst hcode
   simp only [run,Option.some.injEq,Prod.mk.injEq] at hr
   obtain ⟨rfl,rfl⟩:=hr
   exact wp_ret ⟨S,hd,role,hI,rfl⟩
end
end Go.Vm
