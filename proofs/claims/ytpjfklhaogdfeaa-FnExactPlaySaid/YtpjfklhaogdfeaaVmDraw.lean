/- A region whose order is drawn: every order does what the run in one order tells. First part: single operations. -/
import Derived.Test.YtpjfklhaogdfeaaVmSound
set_option linter.unusedVariables false
set_option linter.unusedSectionVars false
set_option linter.unusedSimpArgs false
namespace Go.Vm
variable [Gl]
theorem jC {id:Nat}:∀ (us:List (Nat×Ob)) (f:Nat→Ob),za f us id=f id ∨ ∃ x,(id,x) ∈ us∧za f us id=x
 | [],f=> .inl rfl
 | (i,o) :: us,f=>by
   simp only [za]
   rcases jC (id:=id) us (upd f i o) with h | ⟨x,h1,h2⟩
   ·by_cases e:id=i
    ·subst e
     exact .inr ⟨o,by simp,by rw [h,zt]⟩
    ·left; rw [h,zI _ _ e]
   ·exact .inr ⟨x,List.mem_cons_of_mem _ h1,h2⟩
theorem nY {id:Nat} {x:Ob}:∀ (us:List (Nat×Ob)) (ob:Nat→Ob),id ∉ us.map (·.1)→za (upd ob id x) us=upd (za ob us) id x
 | [],ob,_=>rfl
 | (i,y) :: us,ob,h=>by
   simp only [List.map_cons,List.mem_cons,not_or] at h
   simp only [za]
   have:upd (upd ob id x) i y=upd (upd ob i y) id x:=by
    funext k
    unfold upd
    by_cases h1:k=i
    ·subst h1; simp [Ne.symm h.1]
    ·simp [h1]
   rw [this]
   exact nY us _ h.2
def qZ (ob:Nat→Ob) (us:List (Nat×Ob)):Prop:=∀ p ∈ us,p.2.leak=true→p.2.ver=(ob p.1).ver→p.2.o=(ob p.1).o
theorem wE (ob:Nat→Ob):qZ ob []:=by intro p h; cases h
theorem nU (ob:Nat→Ob) (ids:List Nat):qZ ob (zo ob ids):=by
 intro p hp _ _
 obtain ⟨id,_,rfl⟩:=List.mem_map.1 hp
 rfl
theorem o9 {ob:Nat→Ob} {us vs:List (Nat×Ob)} (h:qZ ob us) (h':qZ ob vs):qZ ob (us++vs):=by
 intro p hp
 rcases List.mem_append.1 hp with q | q
 ·exact h p q
 ·exact h' p q
theorem W0 (ob:Nat→Ob) (id:Nat) (o:O):qZ ob [vS ob id o]:=by
 intro p hp hl
 simp only [List.mem_singleton] at hp
 subst hp
 cases hl
theorem fM {ob:Nat→Ob}:∀ {ids:List Nat} {outs:List (List D)} {us:List (Nat×Ob)},yX ob ids outs=some us→qZ ob us
 | [],[],us,h=>by simp only [yX,Option.some.injEq] at h; subst h; exact wE ob
 | id :: ids,ds :: outs,us,h=>by
   simp only [yX] at h
   obtain ⟨x,hx,h⟩:=bind_some h
   obtain ⟨bs,h1,h2⟩:=map_some h
   subst h2
   intro p hp hl hv
   rcases List.mem_cons.1 hp with rfl | hp
   ·have:x.leak=false:=by
     unfold qP at hx
     split at hx
     ·split at hx
      ·cases hx; rfl
      ·cases hx; rfl
      ·cases hx
     ·split at hx
      ·cases hx; rfl
      ·cases hx
     ·cases hx; rfl
    simp only [this] at hl
    cases hl
   ·exact fM h1 p hp hl hv
 | [],_ :: _,_,h=>by cases h
 | _ :: _,[],_,h=>by cases h
theorem ab {ob:Nat→Ob}:∀ {ids:List Nat} {outs:List (List D)} {us:List (Nat×Ob)},yX ob ids outs=some us→∀ p ∈ us,(ob p.1).ver ≤ p.2.ver
 | [],[],us,h=>by simp only [yX,Option.some.injEq] at h; subst h; simp
 | id :: ids,ds :: outs,us,h=>by
   simp only [yX] at h
   obtain ⟨x,hx,h⟩:=bind_some h
   obtain ⟨bs,h1,h2⟩:=map_some h
   subst h2
   intro p hp
   rcases List.mem_cons.1 hp with rfl | hp
   ·show (ob id).ver ≤ x.ver
    unfold qP at hx
    split at hx
    ·split at hx
     ·cases hx; exact Nat.le_refl _
     ·cases hx; exact Nat.le_succ _
     ·cases hx
    ·split at hx
     ·cases hx; exact Nat.le_refl _
     ·cases hx
    ·cases hx; exact Nat.le_refl _
   ·exact ab h1 p hp
 | [],_ :: _,_,h=>by cases h
 | _ :: _,[],_,h=>by cases h
theorem Ua {ob:Nat→Ob} {ids:List Nat} {outs:List (List D)} {us:List (Nat×Ob)} (h:yX ob ids outs=some us) (i:Nat):(ob i).ver ≤ (za ob us i).ver:=by
 rcases jC (id:=i) us ob with e | ⟨x,h1,e⟩
 ·rw [e]; exact Nat.le_refl _
 ·rw [e]; exact ab h _ h1
theorem cR {ob:Nat→Ob}:∀ {ids:List Nat} {outs:List (List D)} {us:List (Nat×Ob)},yX ob ids outs=some us→us.map (·.1)=ids
 | [],[],us,h=>by simp only [yX,Option.some.injEq] at h; subst h; rfl
 | id :: ids,ds :: outs,us,h=>by
   simp only [yX] at h
   obtain ⟨x,hx,h⟩:=bind_some h
   obtain ⟨bs,h1,h2⟩:=map_some h
   subst h2
   simp only [List.map_cons,cR h1]
 | [],_ :: _,_,h=>by cases h
 | _ :: _,[],_,h=>by cases h
theorem II (ob:Nat→Ob) (d:Nat) (x:X) (j:Nat):qZ ob (ofX ob d x j).2.1:=by
 intro p hp _ hv
 have:=lX ob d x j p hp
 omega
theorem cn {Γ:Ctx} {ob:Nat→Ob} {d:Nat} {f:FuncId} {as:List A} {a:A} {us:List (Nat×Ob)} (h:qc Γ ob d f as=some (.val a us)):qZ ob us:=by
 unfold qc at h
 obtain ⟨⟨xs,ls,ms⟩,_,h⟩:=bind_some h
 simp only at h
 split at h
 ·obtain ⟨xo,_,h⟩:=bind_some h
  cases xo with
  | ret x outs=>
    obtain ⟨bs,hb,h⟩:=map_some h
    cases h
    refine o9 ?_ (o9 (fM hb) (fun p hp _ hv=>?_))
    rotate_left
    ·have h1:=lX (za ob bs) d x 0 p hp
     have h2:=Ua hb p.1
     omega
    split
    ·exact wE ob
    ·exact nU ob ls
  | pan x outs=>
    obtain ⟨bs,hb,h⟩:=map_some h
    cases h
 ·cases h
theorem oO {ob:Nat→Ob} {d:Nat} {us:List (Nat×Ob)} {o:O} {a:A} {vs:List (Nat×Ob)} (hu:qZ ob us) (h:mk ob d us o=some (.val a vs)):qZ ob vs:=by
 unfold mk at h
 simp only [Option.some.injEq,Out.val.injEq] at h
 rw [← h.2]
 exact o9 hu (W0 ob _ _)
theorem Rz {ob:Nat→Ob} {d e s b:Nat} {as:List A} {a:A} {us:List (Nat×Ob)} (h:kQ ob d e s b as=some (.val a us)):qZ ob us:=by
 unfold kQ at h
 split at h
 ·obtain ⟨⟨y,l⟩,_,h⟩:=bind_some h
  obtain ⟨⟨m,xs⟩,_,h⟩:=bind_some h
  simp only at h
  split at h
  ·split at h
   ·have:=zA h; cases this; exact wE ob
   ·exact oO (wE ob) h
  ·cases h
 ·obtain ⟨⟨e',s',n',c',cells⟩,hr,h⟩:=bind_some h
  obtain ⟨⟨y,l⟩,_,h⟩:=bind_some h
  obtain ⟨⟨m,xs⟩,_,h⟩:=bind_some h
  simp only at h
  split at h
  ·simp only [Option.some.injEq,Out.val.injEq] at h
   rw [← h.2]
   intro p hp _ hv
   simp only [List.mem_singleton] at hp
   subst hp
   have:=(wG hr).2
   simp only at hv
   omega
  ·cases h
 ·cases h
theorem U8 {ob:Nat→Ob} {d e s b:Nat} {z:List D} {as:List A} {a:A} {us:List (Nat×Ob)} (h:mF ob d e s b z as=some (.val a us)):qZ ob us:=by
 unfold mF at h
 split at h
 ·split at h
  ·split at h
   ·have:=zA h; cases this; exact wE ob
   ·exact oO (wE ob) h
  ·cases h
 ·obtain ⟨⟨e',s',n',c',cells⟩,hr,h⟩:=bind_some h
  simp only at h
  split at h
  ·simp only [Option.some.injEq,Out.val.injEq] at h
   rw [← h.2]
   intro p hp _ hv
   simp only [List.mem_singleton] at hp
   subst hp
   have:=(wG hr).2
   simp only at hv
   omega
  ·cases h
 ·cases h
theorem ah {ob:Nat→Ob} {str:Bool} {s:Nat} {lo hi:Bool} {as:List A} {a:A} {us:List (Nat×Ob)} (h:tX ob str s lo hi as=some (.val a us)):qZ ob us:=by
 unfold tX at h
 split at h
 ·split at h
  ·obtain ⟨⟨_,_⟩,_,h⟩:=bind_some h; have:=zA h; cases this; exact wE ob
  ·cases h
 ·split at h
  ·cases h
  ·obtain ⟨⟨_,_⟩,_,h⟩:=bind_some h
   simp only at h
   split at h
   ·have:=zA h; cases this; exact wE ob
   ·cases h
 ·split at h
  ·cases h
  ·obtain ⟨⟨_,_,_,_,_⟩,_,h⟩:=bind_some h
   simp only at h
   split at h
   ·obtain ⟨⟨_,_⟩,_,h⟩:=bind_some h
    simp only [Option.some.injEq,Out.val.injEq] at h
    rw [← h.2]
    exact nU ob _
   ·cases h
 ·cases h
theorem SE {ob:Nat→Ob} {s:Nat} {as:List A} {a:A} {us:List (Nat×Ob)} (h:iF ob s as=some (.val a us)):qZ ob us:=by
 unfold iF at h
 split at h
 ·split at h
  ·have:=zA h; cases this; exact wE ob
  ·cases h
 ·split at h
  ·exact ah h
  obtain ⟨⟨e',s',n',c',cells⟩,hr,h⟩:=bind_some h
  simp only at h
  split at h
  ·simp only [Option.some.injEq,Out.val.injEq] at h
   rw [← h.2]
   intro p hp hl
   simp only [List.mem_singleton] at hp
   subst hp
   cases hl
  ·cases h
 ·exact ah h
theorem UV {Γ:Ctx} {ob:Nat→Ob} {d:Nat} {op:SOp} (hst:op.isSt=false) (hq:op.quiet=false) {as:List A} {a:A} {us:List (Nat×Ob)} (h:eval Γ ob d op as=some (.val a us)):qZ ob us:=by
 cases op with
 | alloc cells=>
   simp only [eval] at h
   split at h
   ·split at h
    ·exact oO (wE ob) h
    ·cases h
   ·cases h
 | box=>
   simp only [eval] at h
   split at h
   ·split at h
    ·exact oO (wE ob) h
    ·cases h
   ·cases h
 | bldS e s l parts=>
   simp only [eval] at h
   split at h
   ·obtain ⟨⟨xs,ls⟩,_,h⟩:=bind_some h
    exact oO (nU ob ls) h
   ·cases h
 | mkS e s b zero=>
   simp only [eval] at h
   split at h
   ·split at h
    ·exact oO (wE ob) h
    ·cases h
   ·cases h
 | call f=>exact cn h
 | dyn=>
   simp only [eval] at h
   split at h
   ·exact cn h
   ·cases h
 | app e s b=>exact Rz h
 | appZ e s b z=>exact U8 h
 | cut s=>exact SE h
 | pan=>
   simp only [eval] at h
   split at h <;> cases h
 | s2b e=>
   simp only [eval] at h
   split at h
   ·have:=zA h; cases this; exact wE ob
   ·cases h
 | mkR k=>
   simp only [eval] at h
   split at h <;> first | exact oO (wE ob) h | cases h
 | mset t kc n=>
   simp only [eval,lN] at h
   split at h
   ·obtain ⟨q,_,h⟩:=bind_some h
    split at h
    ·obtain ⟨p,_,h⟩:=bind_some h
     obtain ⟨s,_,h⟩:=bind_some h
     split at h
     ·obtain ⟨z,_,h⟩:=bind_some h
      simp only [Option.some.injEq,Out.val.injEq] at h
      rw [← h.2]
      refine o9 (nU ob _) ?_
      intro p hp hl
      simp only [List.mem_singleton] at hp
      subst hp
      cases hl
     ·cases h
    ·cases h
   ·cases h
 | clr z=>
   simp only [eval,iE] at h
   split at h
   ·obtain ⟨⟨_,_,_,_,_⟩,_,h⟩:=bind_some h
    simp only at h
    split at h
    ·rename_i hc
     simp only [Option.some.injEq,Out.val.injEq] at h
     rw [← h.2]
     intro p hp hl
     simp only [List.mem_singleton] at hp
     subst hp
     simp only [hc.2.1] at hl
     cases hl
    ·cases h
   ·cases h
 | st n=>cases hst
 | _=>cases hq
theorem vW {ob ob':Nat→Ob} {id:Nat} (h:(ob' id).ver=(ob id).ver∧(ob' id).o=(ob id).o) (v:Nat):xq ob' id v=xq ob id v:=by
 unfold xq; rw [h.1,h.2]
theorem pw {ob ob':Nat→Ob} {id:Nat} (h:(ob' id).ver=(ob id).ver∧(ob' id).o=(ob id).o) (v:Nat):xG ob' id v=xG ob id v:=by
 unfold xG; rw [h.1,h.2]
theorem ng {ob ob':Nat→Ob} {id:Nat} (h:(ob' id).ver=(ob id).ver∧(ob' id).o=(ob id).o) (v:Nat):tm ob' id v=tm ob id v:=by
 unfold tm; rw [h.1,h.2]
theorem Wt {ob ob':Nat→Ob} {a:A} (h:∀ id ∈ xJ a,(ob' id).ver=(ob id).ver∧(ob' id).o=(ob id).o):yT ob' a=yT ob a:=by
 cases a <;> simp only [yT]
 rename_i id v
 have:=h id (by simp [xJ,tY])
 rw [this.1,this.2]
theorem hZ {ob ob':Nat→Ob}:∀ {as:List A},(∀ id ∈ as.flatMap tY,(ob' id).ver=(ob id).ver∧(ob' id).o=(ob id).o)→yp ob' as=yp ob as
 | [],_=>rfl
 | a :: as,h=>by
   have h1:yT ob' a=yT ob a:=by
    cases a <;> simp only [yT]
    rename_i id v
    have:=h id (by simp [tY])
    rw [this.1,this.2]
   simp only [yp,h1,hZ (as:=as) fun id hid=>h id (by rw [List.flatMap_cons]; exact List.mem_append.2 (.inr hid))]
def Agree (ob ob':Nat→Ob) (as:List A):Prop:=∀ x ∈ as,∀ id ∈ xJ x,(ob' id).ver=(ob id).ver∧(ob' id).o=(ob id).o
theorem Agree.adr {ob ob':Nat→Ob} {id v o:Nat} {r:List A} (h:Agree ob ob' (.adr id v o :: r)):(ob' id).ver=(ob id).ver∧(ob' id).o=(ob id).o:=
 h (.adr id v o) List.mem_cons_self id (List.mem_singleton.2 rfl)
theorem Agree.rad {ob ob':Nat→Ob} {id v o:Nat} {r:List A} (h:Agree ob ob' (.rad id v o :: r)):(ob' id).ver=(ob id).ver∧(ob' id).o=(ob id).o:=
 h (.rad id v o) List.mem_cons_self id (List.mem_singleton.2 rfl)
theorem Agree.row {ob ob':Nat→Ob} {id v:Nat} {r:List A} (h:Agree ob ob' (.row id v :: r)):(ob' id).ver=(ob id).ver∧(ob' id).o=(ob id).o:=
 h (.row id v) List.mem_cons_self id (List.mem_singleton.2 rfl)
theorem XP {Γ:Ctx} {ob ob':Nat→Ob} {d:Nat} {op:SOp} (hq:op.quiet=true) {as:List A} {a:A} (h:eval Γ ob d op as=some (.val a [])) (hag:op.looks=true→Agree ob ob' as):
  eval Γ ob' d op as=some (.val a []):=by
 cases op with
 | mv=>exact h
 | pick=>exact h
 | bld=>exact h
 | bin=>exact h
 | beq=>exact h
 | neg=>exact h
 | not=>exact h
 | cvt=>exact h
 | shr=>exact h
 | mget t kc n z wo=>
   replace hag:=hag rfl
   simp only [eval,ke] at h ⊢
   split at h
   ·rw [ng hag.row]; exact h
   ·cases h
 | mlen=>
   replace hag:=hag rfl
   simp only [eval,mw] at h ⊢
   split at h
   ·rw [ng hag.row]; exact h
   ·cases h
 | vws s=>
   replace hag:=hag rfl
   simp only [eval,ix] at h ⊢
   split at h
   ·rename_i id v k i
    rw [vW hag.row]; exact h
   ·cases h
 | mkI t=>
   replace hag:=hag rfl
   simp only [eval] at h ⊢
   split at h
   ·exact h
   ·rename_i cs
    rw [hZ (fun id hid=>hag (.agg cs) (by simp) id hid)]
    obtain ⟨p,hp,h'⟩:=bind_some h
    rw [hp]
    simp only [Option.some.injEq,Out.val.injEq] at h'
    obtain ⟨h1,h2⟩:=h'
    simp only [zo,List.map_eq_nil_iff] at h2
    simp only [Option.bind_some,h1,zo,h2,List.map_nil]
   ·cases h
 | mkF=>exact h
 | fld off n=>cases n <;> exact h
 | ixs=>exact h
 | ext=>exact h
 | mm=>exact h
 | ld n=>
   replace hag:=hag rfl
   cases n with
   | none=>
     simp only [eval,ko] at h ⊢
     split at h
     ·rename_i id v off
      rw [pw hag.adr]; exact h
     ·rename_i id v off
      rw [vW hag.rad]; exact h
     ·exact h
     ·cases h
   | some n=>
     simp only [eval,qL] at h ⊢
     split at h
     ·rename_i id v off
      rw [pw hag.adr]; exact h
     ·rename_i id v off
      rw [vW hag.rad]; exact h
     ·exact h
     ·cases h
 | nilck=>
   replace hag:=hag rfl
   simp only [eval] at h ⊢
   split at h
   ·rename_i id v off
    rw [pw hag.adr]; exact h
   ·rw [ng hag.row]; exact h
   ·cases h
 | fa off=>
   replace hag:=hag rfl
   simp only [eval,nJ] at h ⊢
   split at h
   ·rename_i id v off
    rw [pw hag.adr]; exact h
   ·rename_i id v off
    rw [vW hag.rad]; exact h
   ·exact h
   ·rw [ng hag.row]; exact h
   ·cases h
 | ia s=>
   replace hag:=hag rfl
   simp only [eval,kO] at h ⊢
   split at h
   ·exact h
   ·rename_i id v k i
    rw [vW hag.row]; exact h
   ·cases h
 | len s=>
   replace hag:=hag rfl
   simp only [eval,ku] at h ⊢
   split at h
   ·exact h
   ·exact h
   ·exact h
   ·rename_i id v
    rw [vW hag.row]; exact h
   ·cases h
 | cap=>
   replace hag:=hag rfl
   simp only [eval,iG] at h ⊢
   split at h
   ·exact h
   ·rename_i id v
    rw [vW hag.row]; exact h
   ·cases h
 | slc s sz lo hi=>
   simp only [eval,tX] at h ⊢
   split at h
   ·exact h
   ·exact h
   ·exfalso
    split at h
    ·cases h
    ·obtain ⟨⟨_,_,_,_,_⟩,_,h⟩:=bind_some h
     simp only at h
     split at h
     ·obtain ⟨⟨_,_⟩,_,h⟩:=bind_some h
      simp [zo] at h
     ·cases h
   ·cases h
 | b2s=>
   replace hag:=hag rfl
   simp only [eval] at h ⊢
   split at h
   ·rename_i x
    rw [Wt (fun id hid=>hag x (by simp) id hid)]; exact h
   ·cases h
 | inil=>exact h
 | snil=>exact h
 | seq=>exact h
 | ta=>exact h
 | ixa n sz m=>cases m <;> exact h
 | iaa n sz=>
   replace hag:=hag rfl
   simp only [eval,iI] at h ⊢
   split at h
   ·rename_i id v off k i
    rw [pw hag.adr]; exact h
   ·rename_i id v off k i
    rw [vW hag.rad]; exact h
   ·exact h
   ·cases h
 | _=>cases hq
theorem dG {Γ:Ctx} {ob:Nat→Ob} {d:Nat} {op:SOp} (hq:op.quiet=true) {as:List A} {x:D} {us:List (Nat×Ob)} (h:eval Γ ob d op as=some (.pan x us)):False:=by
 have hok:∀ {a:A} {x:D} {us:List (Nat×Ob)},ok a=some (.pan x us)→False:=by intro a x us h; cases h
 cases op with
 | fld off n=>
   cases n <;> simp only [eval] at h <;> split at h <;> first | cases h | skip
   ·obtain ⟨_,_,h⟩:=bind_some h; exact hok h
   ·split at h
    ·exact hok h
    ·cases h
 | ld n=>
   cases n <;> simp only [eval,ko,qL] at h <;> split at h <;> first | cases h | skip
   ·obtain ⟨_,_,h⟩:=bind_some h; obtain ⟨_,_,h⟩:=bind_some h; exact hok h
   ·obtain ⟨_,_,h⟩:=bind_some h; obtain ⟨_,_,h⟩:=bind_some h; exact hok h
   ·obtain ⟨_,_,h⟩:=bind_some h; split at h <;> first | exact hok h | cases h
   ·obtain ⟨_,_,h⟩:=bind_some h; split at h <;> first | exact hok h | cases h
   ·split at h <;> first | exact hok h | cases h
 | slc s sz lo hi=>
   simp only [eval,tX] at h
   split at h
   ·split at h
    ·obtain ⟨⟨_,_⟩,_,h⟩:=bind_some h; exact hok h
    ·cases h
   ·split at h
    ·cases h
    ·obtain ⟨⟨_,_⟩,_,h⟩:=bind_some h
     simp only at h
     split at h <;> first | exact hok h | cases h
   ·split at h
    ·cases h
    ·obtain ⟨⟨_,_,_,_,_⟩,_,h⟩:=bind_some h
     simp only at h
     split at h
     ·obtain ⟨⟨_,_⟩,_,h⟩:=bind_some h; cases h
     ·cases h
   ·cases h
 | mv=>simp only [eval] at h; split at h <;> first | exact hok h | cases h
 | pick=>simp only [eval] at h; split at h <;> first | exact hok h | cases h
 | bld z p=>simp only [eval] at h; obtain ⟨_,_,h⟩:=bind_some h; exact hok h
 | bin b=>
   simp only [eval,wC] at h
   split at h
   ·split at h
    ·obtain ⟨_,_,h⟩:=bind_some h; exact hok h
    ·cases h
   ·obtain ⟨_,_,h⟩:=bind_some h; exact hok h
   ·cases h
 | beq=>simp only [eval] at h; split at h <;> first | exact hok h | cases h
 | neg=>simp only [eval] at h; split at h <;> first | exact hok h | cases h
 | not=>simp only [eval] at h; split at h <;> first | exact hok h | cases h
 | cvt=>simp only [eval] at h; split at h <;> first | exact hok h | cases h
 | mkI=>
   simp only [eval] at h
   split at h
   ·exact hok h
   ·obtain ⟨_,_,h⟩:=bind_some h; cases h
   ·cases h
 | shr=>
   simp only [eval] at h
   split at h
   ·split at h <;> first | exact hok h | cases h
   ·cases h
 | mget t kc n z wo=>
   simp only [eval,ke] at h
   split at h
   ·obtain ⟨_,_,h⟩:=bind_some h
    split at h
    ·obtain ⟨_,_,h⟩:=bind_some h
     obtain ⟨_,_,h⟩:=bind_some h
     obtain ⟨_,_,h⟩:=bind_some h
     exact hok h
    ·cases h
   ·cases h
 | mlen=>
   simp only [eval,mw] at h
   split at h
   ·obtain ⟨_,_,h⟩:=bind_some h
    split at h
    ·obtain ⟨_,_,h⟩:=bind_some h
     exact hok h
    ·cases h
   ·cases h
 | vws s=>
   simp only [eval,ix] at h
   split at h
   ·obtain ⟨⟨_,_,_,_,_⟩,_,h⟩:=bind_some h
    simp only at h
    split at h <;> first | exact hok h | cases h
   ·cases h
 | mkF=>simp only [eval] at h; split at h <;> first | exact hok h | cases h
 | ixs=>
   simp only [eval] at h
   split at h
   ·split at h <;> first | exact hok h | cases h
   ·cases h
 | ext=>
   simp only [eval] at h
   split at h
   ·obtain ⟨_,_,h⟩:=bind_some h; exact hok h
   ·cases h
 | mm=>
   simp only [eval] at h
   split at h
   ·split at h <;> first | exact hok h | cases h
   ·cases h
 | nilck=>
   simp only [eval] at h
   split at h
   ·obtain ⟨_,_,h⟩:=bind_some h; exact hok h
   ·obtain ⟨_,_,h⟩:=bind_some h
    split at h <;> first | exact hok h | cases h
   ·cases h
 | fa=>
   simp only [eval,nJ] at h
   split at h
   ·obtain ⟨_,_,h⟩:=bind_some h; exact hok h
   ·obtain ⟨_,_,h⟩:=bind_some h; exact hok h
   ·split at h <;> first | exact hok h | cases h
   ·obtain ⟨_,_,h⟩:=bind_some h
    split at h
    ·split at h <;> first | exact hok h | cases h
    ·cases h
   ·cases h
 | ia=>
   simp only [eval,kO] at h
   split at h
   ·split at h <;> first | exact hok h | cases h
   ·obtain ⟨_,_,h⟩:=bind_some h; split at h <;> first | exact hok h | cases h
   ·cases h
 | len=>
   simp only [eval,ku] at h
   split at h
   ·split at h <;> first | exact hok h | cases h
   ·split at h <;> first | exact hok h | cases h
   ·split at h <;> first | exact hok h | cases h
   ·split at h
    ·cases h
    ·obtain ⟨_,_,h⟩:=bind_some h; exact hok h
   ·cases h
 | cap=>
   simp only [eval,iG] at h
   split at h
   ·exact hok h
   ·obtain ⟨_,_,h⟩:=bind_some h; obtain ⟨_,_,h⟩:=bind_some h; exact hok h
   ·cases h
 | b2s=>
   simp only [eval] at h
   split at h
   ·obtain ⟨⟨y,l⟩,_,h⟩:=bind_some h
    split at h
    ·split at h
     ·obtain ⟨_,_,h⟩:=bind_some h; exact hok h
     ·cases h
    ·cases h
   ·cases h
 | inil=>simp only [eval] at h; split at h <;> first | exact hok h | cases h
 | seq=>
   simp only [eval,XU] at h
   split at h
   ·obtain ⟨_,_,h⟩:=bind_some h
    exact hok h
   ·cases h
 | snil=>
   simp only [eval,eQ] at h
   split at h <;> first | exact hok h | cases h | (split at h <;> first | exact hok h | cases h)
 | ta=>
   simp only [eval] at h
   split at h
   ·split at h <;> first | exact hok h | cases h
   ·split at h <;> first | exact hok h | cases h
   ·cases h
 | iaa=>
   simp only [eval,iI] at h
   split at h
   ·obtain ⟨_,_,h⟩:=bind_some h; split at h <;> first | exact hok h | cases h
   ·obtain ⟨_,_,h⟩:=bind_some h; split at h <;> first | exact hok h | cases h
   ·split at h <;> first | exact hok h | cases h
   ·cases h
 | ixa n sz m=>
   cases m <;> simp only [eval] at h <;> split at h <;> first | cases h | skip
   ·split at h
    ·obtain ⟨_,_,h⟩:=bind_some h; exact hok h
    ·cases h
   ·split at h <;> first | exact hok h | cases h
 | _=>cases hq
end Go.Vm
