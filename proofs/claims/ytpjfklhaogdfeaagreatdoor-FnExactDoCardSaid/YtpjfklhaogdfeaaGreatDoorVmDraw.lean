/- A region whose order is drawn: every order does what the run in one order tells. First part: single operations. -/
import Derived.Test.YtpjfklhaogdfeaaGreatDoorVmSound
set_option linter.unusedVariables false
set_option linter.unusedSectionVars false
set_option linter.unusedSimpArgs false
namespace Go.Vm
variable [Gl]
theorem kw {id:Nat}:∀ (us:List (Nat×Ob)) (f:Nat→Ob),za f us id=f id ∨ ∃ x,(id,x) ∈ us∧za f us id=x
 | [],f=> .inl rfl
 | (i,o) :: us,f=>by
   simp only [za]
   rcases kw (id:=id) us (upd f i o) with h | ⟨x,h1,h2⟩
   ·by_cases e:id=i
    ·subst e
     exact .inr ⟨o,by simp,by rw [h,zq]⟩
    ·left; rw [h,zx _ _ e]
   ·exact .inr ⟨x,List.mem_cons_of_mem _ h1,h2⟩
theorem ot {id:Nat} {x:Ob}:∀ (us:List (Nat×Ob)) (ob:Nat→Ob),id ∉ us.map (·.1)→za (upd ob id x) us=upd (za ob us) id x
 | [],ob,_=>rfl
 | (i,y) :: us,ob,h=>by
   simp only [List.map_cons,List.mem_cons,not_or] at h
   simp only [za]
   have:upd (upd ob id x) i y=upd (upd ob i y) id x:=by
    funext k
    unfold upd
    by_cases h1:k=i
    ·subst h1; simp [Ne.symm h.1]
    ·simp [h1]
   rw [this]
   exact ot us _ h.2
def rF (ob:Nat→Ob) (us:List (Nat×Ob)):Prop:=∀ p ∈ us,p.2.leak=true→p.2.ver=(ob p.1).ver→p.2.o=(ob p.1).o
theorem xO (ob:Nat→Ob):rF ob []:=by intro p h; cases h
theorem oD (ob:Nat→Ob) (ids:List Nat):rF ob (zl ob ids):=by
 intro p hp _ _
 obtain ⟨id,_,rfl⟩:=List.mem_map.1 hp
 rfl
theorem pp {ob:Nat→Ob} {us vs:List (Nat×Ob)} (h:rF ob us) (h':rF ob vs):rF ob (us++vs):=by
 intro p hp
 rcases List.mem_append.1 hp with q | q
 ·exact h p q
 ·exact h' p q
theorem Xa (ob:Nat→Ob) (id:Nat) (o:O):rF ob [wU ob id o]:=by
 intro p hp hl
 simp only [List.mem_singleton] at hp
 subst hp
 cases hl
theorem iX {ob:Nat→Ob}:∀ {ids:List Nat} {outs:List (List D)} {us:List (Nat×Ob)},yG ob ids outs=some us→rF ob us
 | [],[],us,h=>by simp only [yG,Option.some.injEq] at h; subst h; exact xO ob
 | id :: ids,ds :: outs,us,h=>by
   simp only [yG] at h
   obtain ⟨x,hx,h⟩:=bind_some h
   obtain ⟨bs,h1,h2⟩:=map_some h
   subst h2
   intro p hp hl hv
   rcases List.mem_cons.1 hp with rfl | hp
   ·have:x.leak=false:=by
     unfold ro at hx
     split at hx
     ·split at hx
      ·cases hx; rfl
      ·cases hx; rfl
      ·cases hx
     ·split at hx
      ·cases hx; rfl
      ·cases hx
     ·cases hx; rfl
    simp only [this] at hl
    cases hl
   ·exact iX h1 p hp hl hv
 | [],_ :: _,_,h=>by cases h
 | _ :: _,[],_,h=>by cases h
theorem cT {ob:Nat→Ob}:∀ {ids:List Nat} {outs:List (List D)} {us:List (Nat×Ob)},yG ob ids outs=some us→∀ p ∈ us,(ob p.1).ver ≤ p.2.ver
 | [],[],us,h=>by simp only [yG,Option.some.injEq] at h; subst h; simp
 | id :: ids,ds :: outs,us,h=>by
   simp only [yG] at h
   obtain ⟨x,hx,h⟩:=bind_some h
   obtain ⟨bs,h1,h2⟩:=map_some h
   subst h2
   intro p hp
   rcases List.mem_cons.1 hp with rfl | hp
   ·show (ob id).ver ≤ x.ver
    unfold ro at hx
    split at hx
    ·split at hx
     ·cases hx; exact Nat.le_refl _
     ·cases hx; exact Nat.le_succ _
     ·cases hx
    ·split at hx
     ·cases hx; exact Nat.le_refl _
     ·cases hx
    ·cases hx; exact Nat.le_refl _
   ·exact cT h1 p hp
 | [],_ :: _,_,h=>by cases h
 | _ :: _,[],_,h=>by cases h
theorem VN {ob:Nat→Ob} {ids:List Nat} {outs:List (List D)} {us:List (Nat×Ob)} (h:yG ob ids outs=some us) (i:Nat):(ob i).ver ≤ (za ob us i).ver:=by
 rcases kw (id:=i) us ob with e | ⟨x,h1,e⟩
 ·rw [e]; exact Nat.le_refl _
 ·rw [e]; exact cT h _ h1
theorem eF {ob:Nat→Ob}:∀ {ids:List Nat} {outs:List (List D)} {us:List (Nat×Ob)},yG ob ids outs=some us→us.map (·.1)=ids
 | [],[],us,h=>by simp only [yG,Option.some.injEq] at h; subst h; rfl
 | id :: ids,ds :: outs,us,h=>by
   simp only [yG] at h
   obtain ⟨x,hx,h⟩:=bind_some h
   obtain ⟨bs,h1,h2⟩:=map_some h
   subst h2
   simp only [List.map_cons,eF h1]
 | [],_ :: _,_,h=>by cases h
 | _ :: _,[],_,h=>by cases h
theorem JI (ob:Nat→Ob) (d:Nat) (x:X) (j:Nat):rF ob (ofX ob d x j).2.1:=by
 intro p hp _ hv
 have:=mU ob d x j p hp
 omega
theorem eC {Γ:Ctx} {ob:Nat→Ob} {d:Nat} {f:FuncId} {as:List A} {a:A} {us:List (Nat×Ob)} (h:sY Γ ob d f as=some (.val a us)):rF ob us:=by
 unfold sY at h
 obtain ⟨⟨xs,ls,ms⟩,_,h⟩:=bind_some h
 simp only at h
 split at h
 ·obtain ⟨xo,_,h⟩:=bind_some h
  cases xo with
  | ret x outs=>
    obtain ⟨bs,hb,h⟩:=map_some h
    cases h
    refine pp ?_ (pp (iX hb) (fun p hp _ hv=>?_))
    rotate_left
    ·have h1:=mU (za ob bs) d x 0 p hp
     have h2:=VN hb p.1
     omega
    split
    ·exact xO ob
    ·exact oD ob ls
  | pan x outs=>
    obtain ⟨bs,hb,h⟩:=map_some h
    cases h
 ·cases h
theorem pg {ob:Nat→Ob} {d:Nat} {us:List (Nat×Ob)} {o:O} {a:A} {vs:List (Nat×Ob)} (hu:rF ob us) (h:mk ob d us o=some (.val a vs)):rF ob vs:=by
 unfold mk at h
 simp only [Option.some.injEq,Out.val.injEq] at h
 rw [← h.2]
 exact pp hu (Xa ob _ _)
theorem SJ {ob:Nat→Ob} {d e s b:Nat} {as:List A} {a:A} {us:List (Nat×Ob)} (h:lL ob d e s b as=some (.val a us)):rF ob us:=by
 unfold lL at h
 split at h
 ·obtain ⟨⟨y,l⟩,_,h⟩:=bind_some h
  obtain ⟨⟨m,xs⟩,_,h⟩:=bind_some h
  simp only at h
  split at h
  ·split at h
   ·have:=zr h; cases this; exact xO ob
   ·exact pg (xO ob) h
  ·cases h
 ·obtain ⟨⟨e',s',n',c',cells⟩,hr,h⟩:=bind_some h
  obtain ⟨⟨y,l⟩,_,h⟩:=bind_some h
  obtain ⟨⟨m,xs⟩,_,h⟩:=bind_some h
  simp only at h
  split at h
  ·simp only [Option.some.injEq,Out.val.injEq] at h
   rw [← h.2]
   intro p hp _ hv
   simp only [List.mem_singleton] at hp
   subst hp
   have:=(xQ hr).2
   simp only at hv
   omega
  ·cases h
 ·cases h
theorem Wy {ob:Nat→Ob} {d e s b:Nat} {z:List D} {as:List A} {a:A} {us:List (Nat×Ob)} (h:ng ob d e s b z as=some (.val a us)):rF ob us:=by
 unfold ng at h
 split at h
 ·split at h
  ·split at h
   ·have:=zr h; cases this; exact xO ob
   ·exact pg (xO ob) h
  ·cases h
 ·obtain ⟨⟨e',s',n',c',cells⟩,hr,h⟩:=bind_some h
  simp only at h
  split at h
  ·simp only [Option.some.injEq,Out.val.injEq] at h
   rw [← h.2]
   intro p hp _ hv
   simp only [List.mem_singleton] at hp
   subst hp
   have:=(xQ hr).2
   simp only at hv
   omega
  ·cases h
 ·cases h
theorem be {ob:Nat→Ob} {str:Bool} {s:Nat} {lo hi:Bool} {as:List A} {a:A} {us:List (Nat×Ob)} (h:tk ob str s lo hi as=some (.val a us)):rF ob us:=by
 unfold tk at h
 split at h
 ·split at h
  ·obtain ⟨⟨_,_⟩,_,h⟩:=bind_some h; have:=zr h; cases this; exact xO ob
  ·cases h
 ·split at h
  ·cases h
  ·obtain ⟨⟨_,_⟩,_,h⟩:=bind_some h
   simp only at h
   split at h
   ·have:=zr h; cases this; exact xO ob
   ·cases h
 ·split at h
  ·cases h
  ·obtain ⟨⟨_,_,_,_,_⟩,_,h⟩:=bind_some h
   simp only at h
   split at h
   ·obtain ⟨⟨_,_⟩,_,h⟩:=bind_some h
    simp only [Option.some.injEq,Out.val.injEq] at h
    rw [← h.2]
    exact oD ob _
   ·cases h
 ·cases h
theorem Sy {ob:Nat→Ob} {s:Nat} {as:List A} {a:A} {us:List (Nat×Ob)} (h:ji ob s as=some (.val a us)):rF ob us:=by
 unfold ji at h
 split at h
 ·split at h
  ·have:=zr h; cases this; exact xO ob
  ·cases h
 ·split at h
  ·exact be h
  obtain ⟨⟨e',s',n',c',cells⟩,hr,h⟩:=bind_some h
  simp only at h
  split at h
  ·simp only [Option.some.injEq,Out.val.injEq] at h
   rw [← h.2]
   intro p hp hl
   simp only [List.mem_singleton] at hp
   subst hp
   cases hl
  ·cases h
 ·exact be h
theorem Vs {Γ:Ctx} {ob:Nat→Ob} {d:Nat} {op:SOp} (hst:op.isSt=false) (hq:op.quiet=false) {as:List A} {a:A} {us:List (Nat×Ob)} (h:eval Γ ob d op as=some (.val a us)):rF ob us:=by
 cases op with
 | alloc cells=>
   simp only [eval] at h
   split at h
   ·split at h
    ·exact pg (xO ob) h
    ·cases h
   ·cases h
 | box=>
   simp only [eval] at h
   split at h
   ·split at h
    ·exact pg (xO ob) h
    ·cases h
   ·cases h
 | bldS e s l parts=>
   simp only [eval] at h
   split at h
   ·obtain ⟨⟨xs,ls⟩,_,h⟩:=bind_some h
    exact pg (oD ob ls) h
   ·cases h
 | mkS e s b zero=>
   simp only [eval] at h
   split at h
   ·split at h
    ·exact pg (xO ob) h
    ·cases h
   ·cases h
 | call f=>exact eC h
 | dyn=>
   simp only [eval] at h
   split at h
   ·exact eC h
   ·cases h
 | app e s b=>exact SJ h
 | appZ e s b z=>exact Wy h
 | cut s=>exact Sy h
 | pan=>
   simp only [eval] at h
   split at h <;> cases h
 | s2b e=>
   simp only [eval] at h
   split at h
   ·have:=zr h; cases this; exact xO ob
   ·cases h
 | mkR k=>
   simp only [eval] at h
   split at h <;> first | exact pg (xO ob) h | cases h
 | mset t kc n=>
   simp only [eval,mi] at h
   split at h
   ·obtain ⟨q,_,h⟩:=bind_some h
    split at h
    ·obtain ⟨p,_,h⟩:=bind_some h
     obtain ⟨s,_,h⟩:=bind_some h
     split at h
     ·obtain ⟨z,_,h⟩:=bind_some h
      simp only [Option.some.injEq,Out.val.injEq] at h
      rw [← h.2]
      refine pp (oD ob _) ?_
      intro p hp hl
      simp only [List.mem_singleton] at hp
      subst hp
      cases hl
     ·cases h
    ·cases h
   ·cases h
 | clr z=>
   simp only [eval,jr] at h
   split at h
   ·obtain ⟨⟨_,_,_,_,_⟩,_,h⟩:=bind_some h
    simp only at h
    split at h
    ·rename_i hc
     simp only [Option.some.injEq,Out.val.injEq] at h
     rw [← h.2]
     intro p hp hl
     simp only [List.mem_singleton] at hp
     subst hp
     simp only [hc.2.1] at hl
     cases hl
    ·cases h
   ·cases h
 | st n=>cases hst
 | _=>cases hq
theorem wX {ob ob':Nat→Ob} {id:Nat} (h:(ob' id).ver=(ob id).ver∧(ob' id).o=(ob id).o) (v:Nat):yW ob' id v=yW ob id v:=by
 unfold yW; rw [h.1,h.2]
theorem rR {ob ob':Nat→Ob} {id:Nat} (h:(ob' id).ver=(ob id).ver∧(ob' id).o=(ob id).o) (v:Nat):xg ob' id v=xg ob id v:=by
 unfold xg; rw [h.1,h.2]
theorem pn {ob ob':Nat→Ob} {id:Nat} (h:(ob' id).ver=(ob id).ver∧(ob' id).o=(ob id).o) (v:Nat):uy ob' id v=uy ob id v:=by
 unfold uy; rw [h.1,h.2]
theorem Xm {ob ob':Nat→Ob} {a:A} (h:∀ id ∈ xk a,(ob' id).ver=(ob id).ver∧(ob' id).o=(ob id).o):yC ob' a=yC ob a:=by
 cases a <;> simp only [yC]
 rename_i id v
 have:=h id (by simp [xk,u0])
 rw [this.1,this.2]
theorem jL {ob ob':Nat→Ob}:∀ {as:List A},(∀ id ∈ as.flatMap u0,(ob' id).ver=(ob id).ver∧(ob' id).o=(ob id).o)→zZ ob' as=zZ ob as
 | [],_=>rfl
 | a :: as,h=>by
   have h1:yC ob' a=yC ob a:=by
    cases a <;> simp only [yC]
    rename_i id v
    have:=h id (by simp [u0])
    rw [this.1,this.2]
   simp only [zZ,h1,jL (as:=as) fun id hid=>h id (by rw [List.flatMap_cons]; exact List.mem_append.2 (.inr hid))]
def Agree (ob ob':Nat→Ob) (as:List A):Prop:=∀ x ∈ as,∀ id ∈ xk x,(ob' id).ver=(ob id).ver∧(ob' id).o=(ob id).o
theorem Agree.adr {ob ob':Nat→Ob} {id v o:Nat} {r:List A} (h:Agree ob ob' (.adr id v o :: r)):(ob' id).ver=(ob id).ver∧(ob' id).o=(ob id).o:=
 h (.adr id v o) List.mem_cons_self id (List.mem_singleton.2 rfl)
theorem Agree.rad {ob ob':Nat→Ob} {id v o:Nat} {r:List A} (h:Agree ob ob' (.rad id v o :: r)):(ob' id).ver=(ob id).ver∧(ob' id).o=(ob id).o:=
 h (.rad id v o) List.mem_cons_self id (List.mem_singleton.2 rfl)
theorem Agree.row {ob ob':Nat→Ob} {id v:Nat} {r:List A} (h:Agree ob ob' (.row id v :: r)):(ob' id).ver=(ob id).ver∧(ob' id).o=(ob id).o:=
 h (.row id v) List.mem_cons_self id (List.mem_singleton.2 rfl)
theorem Y0 {Γ:Ctx} {ob ob':Nat→Ob} {d:Nat} {op:SOp} (hq:op.quiet=true) {as:List A} {a:A} (h:eval Γ ob d op as=some (.val a [])) (hag:op.looks=true→Agree ob ob' as):
  eval Γ ob' d op as=some (.val a []):=by
 cases op with
 | mv=>exact h
 | pick=>exact h
 | bld=>exact h
 | bin=>exact h
 | beq=>exact h
 | neg=>exact h
 | not=>exact h
 | cvt=>exact h
 | shr=>exact h
 | mget t kc n z wo=>
   replace hag:=hag rfl
   simp only [eval,mt] at h ⊢
   split at h
   ·rw [pn hag.row]; exact h
   ·cases h
 | mlen=>
   replace hag:=hag rfl
   simp only [eval,oL] at h ⊢
   split at h
   ·rw [pn hag.row]; exact h
   ·cases h
 | vws s=>
   replace hag:=hag rfl
   simp only [eval,jj] at h ⊢
   split at h
   ·rename_i id v k i
    rw [wX hag.row]; exact h
   ·cases h
 | mkI t=>
   replace hag:=hag rfl
   simp only [eval] at h ⊢
   split at h
   ·exact h
   ·rename_i cs
    rw [jL (fun id hid=>hag (.agg cs) (by simp) id hid)]
    obtain ⟨p,hp,h'⟩:=bind_some h
    rw [hp]
    simp only [Option.some.injEq,Out.val.injEq] at h'
    obtain ⟨h1,h2⟩:=h'
    simp only [zl,List.map_eq_nil_iff] at h2
    simp only [Option.bind_some,h1,zl,h2,List.map_nil]
   ·cases h
 | mkF=>exact h
 | fld off n=>cases n <;> exact h
 | ixs=>exact h
 | ext=>exact h
 | mm=>exact h
 | ld n=>
   replace hag:=hag rfl
   cases n with
   | none=>
     simp only [eval,lg] at h ⊢
     split at h
     ·rename_i id v off
      rw [rR hag.adr]; exact h
     ·rename_i id v off
      rw [wX hag.rad]; exact h
     ·exact h
     ·cases h
   | some n=>
     simp only [eval,rz] at h ⊢
     split at h
     ·rename_i id v off
      rw [rR hag.adr]; exact h
     ·rename_i id v off
      rw [wX hag.rad]; exact h
     ·exact h
     ·cases h
 | nilck=>
   replace hag:=hag rfl
   simp only [eval] at h ⊢
   split at h
   ·rename_i id v off
    rw [rR hag.adr]; exact h
   ·rw [pn hag.row]; exact h
   ·cases h
 | fa off=>
   replace hag:=hag rfl
   simp only [eval,pT] at h ⊢
   split at h
   ·rename_i id v off
    rw [rR hag.adr]; exact h
   ·rename_i id v off
    rw [wX hag.rad]; exact h
   ·exact h
   ·rw [pn hag.row]; exact h
   ·cases h
 | ia s=>
   replace hag:=hag rfl
   simp only [eval,lA] at h ⊢
   split at h
   ·exact h
   ·rename_i id v k i
    rw [wX hag.row]; exact h
   ·cases h
 | len s=>
   replace hag:=hag rfl
   simp only [eval,lc] at h ⊢
   split at h
   ·exact h
   ·exact h
   ·exact h
   ·rename_i id v
    rw [wX hag.row]; exact h
   ·cases h
 | cap=>
   replace hag:=hag rfl
   simp only [eval,jl] at h ⊢
   split at h
   ·exact h
   ·rename_i id v
    rw [wX hag.row]; exact h
   ·cases h
 | slc s sz lo hi=>
   simp only [eval,tk] at h ⊢
   split at h
   ·exact h
   ·exact h
   ·exfalso
    split at h
    ·cases h
    ·obtain ⟨⟨_,_,_,_,_⟩,_,h⟩:=bind_some h
     simp only at h
     split at h
     ·obtain ⟨⟨_,_⟩,_,h⟩:=bind_some h
      simp [zl] at h
     ·cases h
   ·cases h
 | b2s=>
   replace hag:=hag rfl
   simp only [eval] at h ⊢
   split at h
   ·rename_i x
    rw [Xm (fun id hid=>hag x (by simp) id hid)]; exact h
   ·cases h
 | inil=>exact h
 | snil=>exact h
 | seq=>exact h
 | ta=>exact h
 | ixa n sz m=>cases m <;> exact h
 | iaa n sz=>
   replace hag:=hag rfl
   simp only [eval,jd] at h ⊢
   split at h
   ·rename_i id v off k i
    rw [rR hag.adr]; exact h
   ·rename_i id v off k i
    rw [wX hag.rad]; exact h
   ·exact h
   ·cases h
 | _=>cases hq
theorem fH {Γ:Ctx} {ob:Nat→Ob} {d:Nat} {op:SOp} (hq:op.quiet=true) {as:List A} {x:D} {us:List (Nat×Ob)} (h:eval Γ ob d op as=some (.pan x us)):False:=by
 have hok:∀ {a:A} {x:D} {us:List (Nat×Ob)},ok a=some (.pan x us)→False:=by intro a x us h; cases h
 cases op with
 | fld off n=>
   cases n <;> simp only [eval] at h <;> split at h <;> first | cases h | skip
   ·obtain ⟨_,_,h⟩:=bind_some h; exact hok h
   ·split at h
    ·exact hok h
    ·cases h
 | ld n=>
   cases n <;> simp only [eval,lg,rz] at h <;> split at h <;> first | cases h | skip
   ·obtain ⟨_,_,h⟩:=bind_some h; obtain ⟨_,_,h⟩:=bind_some h; exact hok h
   ·obtain ⟨_,_,h⟩:=bind_some h; obtain ⟨_,_,h⟩:=bind_some h; exact hok h
   ·obtain ⟨_,_,h⟩:=bind_some h; split at h <;> first | exact hok h | cases h
   ·obtain ⟨_,_,h⟩:=bind_some h; split at h <;> first | exact hok h | cases h
   ·split at h <;> first | exact hok h | cases h
 | slc s sz lo hi=>
   simp only [eval,tk] at h
   split at h
   ·split at h
    ·obtain ⟨⟨_,_⟩,_,h⟩:=bind_some h; exact hok h
    ·cases h
   ·split at h
    ·cases h
    ·obtain ⟨⟨_,_⟩,_,h⟩:=bind_some h
     simp only at h
     split at h <;> first | exact hok h | cases h
   ·split at h
    ·cases h
    ·obtain ⟨⟨_,_,_,_,_⟩,_,h⟩:=bind_some h
     simp only at h
     split at h
     ·obtain ⟨⟨_,_⟩,_,h⟩:=bind_some h; cases h
     ·cases h
   ·cases h
 | mv=>simp only [eval] at h; split at h <;> first | exact hok h | cases h
 | pick=>simp only [eval] at h; split at h <;> first | exact hok h | cases h
 | bld z p=>simp only [eval] at h; obtain ⟨_,_,h⟩:=bind_some h; exact hok h
 | bin b=>
   simp only [eval,xV] at h
   split at h
   ·split at h
    ·obtain ⟨_,_,h⟩:=bind_some h; exact hok h
    ·cases h
   ·obtain ⟨_,_,h⟩:=bind_some h; exact hok h
   ·cases h
 | beq=>simp only [eval] at h; split at h <;> first | exact hok h | cases h
 | neg=>simp only [eval] at h; split at h <;> first | exact hok h | cases h
 | not=>simp only [eval] at h; split at h <;> first | exact hok h | cases h
 | cvt=>simp only [eval] at h; split at h <;> first | exact hok h | cases h
 | mkI=>
   simp only [eval] at h
   split at h
   ·exact hok h
   ·obtain ⟨_,_,h⟩:=bind_some h; cases h
   ·cases h
 | shr=>
   simp only [eval] at h
   split at h
   ·split at h <;> first | exact hok h | cases h
   ·cases h
 | mget t kc n z wo=>
   simp only [eval,mt] at h
   split at h
   ·obtain ⟨_,_,h⟩:=bind_some h
    split at h
    ·obtain ⟨_,_,h⟩:=bind_some h
     obtain ⟨_,_,h⟩:=bind_some h
     obtain ⟨_,_,h⟩:=bind_some h
     exact hok h
    ·cases h
   ·cases h
 | mlen=>
   simp only [eval,oL] at h
   split at h
   ·obtain ⟨_,_,h⟩:=bind_some h
    split at h
    ·obtain ⟨_,_,h⟩:=bind_some h
     exact hok h
    ·cases h
   ·cases h
 | vws s=>
   simp only [eval,jj] at h
   split at h
   ·obtain ⟨⟨_,_,_,_,_⟩,_,h⟩:=bind_some h
    simp only at h
    split at h <;> first | exact hok h | cases h
   ·cases h
 | mkF=>simp only [eval] at h; split at h <;> first | exact hok h | cases h
 | ixs=>
   simp only [eval] at h
   split at h
   ·split at h <;> first | exact hok h | cases h
   ·cases h
 | ext=>
   simp only [eval] at h
   split at h
   ·obtain ⟨_,_,h⟩:=bind_some h; exact hok h
   ·cases h
 | mm=>
   simp only [eval] at h
   split at h
   ·split at h <;> first | exact hok h | cases h
   ·cases h
 | nilck=>
   simp only [eval] at h
   split at h
   ·obtain ⟨_,_,h⟩:=bind_some h; exact hok h
   ·obtain ⟨_,_,h⟩:=bind_some h
    split at h <;> first | exact hok h | cases h
   ·cases h
 | fa=>
   simp only [eval,pT] at h
   split at h
   ·obtain ⟨_,_,h⟩:=bind_some h; exact hok h
   ·obtain ⟨_,_,h⟩:=bind_some h; exact hok h
   ·split at h <;> first | exact hok h | cases h
   ·obtain ⟨_,_,h⟩:=bind_some h
    split at h
    ·split at h <;> first | exact hok h | cases h
    ·cases h
   ·cases h
 | ia=>
   simp only [eval,lA] at h
   split at h
   ·split at h <;> first | exact hok h | cases h
   ·obtain ⟨_,_,h⟩:=bind_some h; split at h <;> first | exact hok h | cases h
   ·cases h
 | len=>
   simp only [eval,lc] at h
   split at h
   ·split at h <;> first | exact hok h | cases h
   ·split at h <;> first | exact hok h | cases h
   ·split at h <;> first | exact hok h | cases h
   ·split at h
    ·cases h
    ·obtain ⟨_,_,h⟩:=bind_some h; exact hok h
   ·cases h
 | cap=>
   simp only [eval,jl] at h
   split at h
   ·exact hok h
   ·obtain ⟨_,_,h⟩:=bind_some h; obtain ⟨_,_,h⟩:=bind_some h; exact hok h
   ·cases h
 | b2s=>
   simp only [eval] at h
   split at h
   ·obtain ⟨⟨y,l⟩,_,h⟩:=bind_some h
    split at h
    ·split at h
     ·obtain ⟨_,_,h⟩:=bind_some h; exact hok h
     ·cases h
    ·cases h
   ·cases h
 | inil=>simp only [eval] at h; split at h <;> first | exact hok h | cases h
 | seq=>
   simp only [eval,ZL] at h
   split at h
   ·obtain ⟨_,_,h⟩:=bind_some h
    exact hok h
   ·cases h
 | snil=>
   simp only [eval,hJ] at h
   split at h <;> first | exact hok h | cases h | (split at h <;> first | exact hok h | cases h)
 | ta=>
   simp only [eval] at h
   split at h
   ·split at h <;> first | exact hok h | cases h
   ·split at h <;> first | exact hok h | cases h
   ·cases h
 | iaa=>
   simp only [eval,jd] at h
   split at h
   ·obtain ⟨_,_,h⟩:=bind_some h; split at h <;> first | exact hok h | cases h
   ·obtain ⟨_,_,h⟩:=bind_some h; split at h <;> first | exact hok h | cases h
   ·split at h <;> first | exact hok h | cases h
   ·cases h
 | ixa n sz m=>
   cases m <;> simp only [eval] at h <;> split at h <;> first | cases h | skip
   ·split at h
    ·obtain ⟨_,_,h⟩:=bind_some h; exact hok h
    ·cases h
   ·split at h <;> first | exact hok h | cases h
 | _=>cases hq
end Go.Vm
