/- What an operation looks at and changes: the objects that its arguments lead to, and its own. -/
import Derived.Test.YtafjdofgafppgaaGreatVmDraw2
set_option linter.unusedVariables false
set_option linter.unusedSectionVars false
set_option linter.unusedSimpArgs false
namespace Go.Vm
variable [Gl]
section
variable {ob:Nat→Ob} {id:Nat} {x:Ob}
theorem eV {i v:Nat} (h:i ≠ id):ui (upd ob id x) i v=ui ob i v:=by unfold ui; rw [yq _ _ h]
theorem sG {i v:Nat} (h:i ≠ id):vu (upd ob id x) i v=vu ob i v:=by unfold vu; rw [yq _ _ h]
theorem bm {i v:Nat} (h:i ≠ id):og (upd ob id x) i v=og ob i v:=by unfold og; rw [yq _ _ h]
theorem nq {a:A} {as:List A} (h:a ∈ as) {i:Nat} (hi:i ∈ yo a):i ∈ yV as:=by
 induction as with
 | nil=>cases h
 | cons b as ih=>
   simp only [yV,List.mem_append]
   rcases List.mem_cons.1 h with rfl | h
   ·exact .inl hi
   ·exact .inr (ih h)
theorem Ww {a:A} (h:id ∉ yo a):xT (upd ob id x) a=xT ob a:=by
 cases a with
 | row i v=>
   have:i ≠ id:=by rintro rfl; exact h (by simp [yo])
   simp only [xT,yq _ _ this]
 | _=>rfl
theorem LQ {a:A} {y:D} {ls:List Nat} (h:xT ob a=some (y,ls)):∀ i ∈ ls,i ∈ yo a:=by
 cases a with
 | row i v=>
   simp only [xT] at h
   split at h
   ·split at h
    ·simp only [Option.some.injEq,Prod.mk.injEq] at h
     obtain ⟨_,rfl⟩:=h
     simp [yo]
    ·cases h
   ·cases h
 | d y=>simp only [xT,Option.some.injEq,Prod.mk.injEq] at h; obtain ⟨_,rfl⟩:=h; simp
 | nil=>simp only [xT,Option.some.injEq,Prod.mk.injEq] at h; obtain ⟨_,rfl⟩:=h; simp
 | _=>simp [xT] at h
theorem bt:∀ {as:List A},id ∉ yV as→xm (upd ob id x) as=xm ob as
 | [],_=>rfl
 | a :: as,h=>by
   simp only [yV,List.mem_append,not_or] at h
   simp only [xm,Ww h.1,bt h.2]
theorem fS:∀ {as:List A} {ys:List D} {ls:List Nat},xm ob as=some (ys,ls)→∀ i ∈ ls,i ∈ yV as
 | [],ys,ls,h=>by simp only [xm,Option.some.injEq,Prod.mk.injEq] at h; obtain ⟨_,rfl⟩:=h; simp
 | a :: as,ys,ls,h=>by
   simp only [xm] at h
   obtain ⟨⟨y,l⟩,h1,h⟩:=bind_some h
   obtain ⟨⟨zs,l'⟩,h2,h⟩:=map_some h
   simp only [Prod.mk.injEq] at h
   obtain ⟨_,rfl⟩:=h
   intro i hi
   simp only [yV,List.mem_append]
   rcases List.mem_append.1 hi with hi | hi
   ·exact .inl (LQ h1 i hi)
   ·exact .inr (fS h2 i hi)
theorem jv:∀ {ls:List Nat},id ∉ ls→zX (upd ob id x) ls=zX ob ls
 | [],_=>rfl
 | i :: ls,h=>by
   simp only [List.mem_cons,not_or] at h
   have:=jv (ls:=ls) h.2
   unfold zX at this ⊢
   simp only [List.map_cons,this,yq _ _ (Ne.symm h.1)]
theorem BZ {ls:List Nat}:(zX ob ls).map (·.1)=ls:=by unfold zX; rw [List.map_map]; exact List.map_id' ls
theorem dN {a:A}:∀ i ∈ yV (cellsOf a),i ∈ yo a:=by
 intro i hi
 cases a <;> first | (simp only [cellsOf,yV,List.append_nil] at hi; exact hi) | (simp only [cellsOf] at hi; simp only [yo]; exact hi)
theorem refsDs_append {as bs:List A} {i:Nat}:i ∈ yV (as++bs) ↔ i ∈ yV as ∨ i ∈ yV bs:=by
 induction as with
 | nil=>simp [yV]
 | cons a as ih=>simp [yV,ih,or_assoc]
theorem cK:∀ {as:List A},∀ i ∈ yV (as.flatMap cellsOf),i ∈ yV as
 | [],i,h=>h
 | a :: as,i,h=>by
   rw [List.flatMap_cons] at h
   simp only [yV,List.mem_append]
   rcases refsDs_append.1 h with h | h
   ·exact .inl (dN i h)
   ·exact .inr (cK i h)
mutual
theorem Bn (m:Bool):∀ (a:A),id ∉ yo a→toX m (upd ob id x) a=toX m ob a
 | .row i v,h=>by
   have:i ≠ id:=by rintro rfl; exact h (by simp [yo])
   simp only [toX,yq _ _ this]
 | .adr i v o,h=>by
   have:i ≠ id:=by rintro rfl; exact h (by simp [yo])
   simp only [toX,yq _ _ this]
 | .agg cs,h=>by
   simp only [toX,So m cs (by simpa [yo] using h)]
 | .d _,_=>rfl
 | .nil,_=>rfl
 | .undef,_=>rfl
 | .rad ..,_=>rfl
 | .vw ..,_=>rfl
 | .cp _,_=>rfl
 | .tup _,_=>rfl
theorem So (m:Bool):∀ (as:List A),id ∉ yV as→sv m (upd ob id x) as=sv m ob as
 | [],_=>rfl
 | a :: as,h=>by
   simp only [yV,List.mem_append,not_or] at h
   simp only [sv,Bn m a h.1,So m as h.2]
end
mutual
theorem Gu (m:Bool):∀ (a:A) {y:X} {ls ms:List Nat},toX m ob a=some (y,ls,ms)→∀ i ∈ ls++ms,i ∈ yo a
 | .row i v,y,ls,ms,h=>by
   simp only [toX] at h
   split at h
   ·split at h
    ·cases m with
     | false=>
       simp only [Bool.false_eq_true,if_false,Option.some.injEq,Prod.mk.injEq] at h
       obtain ⟨_,rfl,rfl⟩:=h
       simp [yo]
     | true=>
       simp only [if_true] at h
       split at h
       ·simp only [Option.some.injEq,Prod.mk.injEq] at h
        obtain ⟨_,rfl,rfl⟩:=h
        simp [yo]
       ·cases h
    ·cases h
   ·split at h
    ·simp only [Option.some.injEq,Prod.mk.injEq] at h
     obtain ⟨_,rfl,rfl⟩:=h
     simp [yo]
    ·cases h
   ·cases h
 | .adr i v o,y,ls,ms,h=>by
   simp only [toX] at h
   split at h
   ·split at h
    ·obtain ⟨_,_,h⟩:=map_some h
     simp only [Prod.mk.injEq] at h
     obtain ⟨_,rfl,rfl⟩:=h
     simp [yo]
    ·cases h
   ·cases h
 | .agg cs,y,ls,ms,h=>by
   simp only [toX] at h
   obtain ⟨⟨xs,l,k⟩,h1,h⟩:=map_some h
   simp only [Prod.mk.injEq] at h
   obtain ⟨_,rfl,rfl⟩:=h
   simp only [yo]
   exact Xi m cs h1
 | .d _,y,ls,ms,h=>by simp only [toX,Option.some.injEq,Prod.mk.injEq] at h; obtain ⟨_,rfl,rfl⟩:=h; simp
 | .nil,y,ls,ms,h=>by simp only [toX,Option.some.injEq,Prod.mk.injEq] at h; obtain ⟨_,rfl,rfl⟩:=h; simp
 | .undef,_,_,_,h=>by simp [toX] at h
 | .rad ..,_,_,_,h=>by simp [toX] at h
 | .cp _,_,_,_,h=>by simp [toX] at h
 | .tup _,_,_,_,h=>by simp [toX] at h
theorem Xi (m:Bool):∀ (as:List A) {ys:List X} {ls ms:List Nat},sv m ob as=some (ys,ls,ms)→∀ i ∈ ls++ms,i ∈ yV as
 | [],ys,ls,ms,h=>by simp only [sv,Option.some.injEq,Prod.mk.injEq] at h; obtain ⟨_,rfl,rfl⟩:=h; simp
 | a :: as,ys,ls,ms,h=>by
   simp only [sv] at h
   obtain ⟨⟨y,l,k⟩,h1,h⟩:=bind_some h
   obtain ⟨⟨zs,l',k'⟩,h2,h⟩:=map_some h
   simp only [Prod.mk.injEq] at h
   obtain ⟨_,rfl,rfl⟩:=h
   intro i hi
   simp only [yV,List.mem_append]
   have p:=Gu m a h1 i
   have q:=Xi m as h2 i
   simp only [List.mem_append] at hi p q
   rcases hi with (hi | hi) | (hi | hi)
   ·exact .inl (p (.inl hi))
   ·exact .inr (q (.inl hi))
   ·exact .inl (p (.inr hi))
   ·exact .inr (q (.inr hi))
end
mutual
theorem IZ (d:Nat):∀ (y:X) (j:Nat),id ∉ (ofX (upd ob id x) d y j).2.1.map (·.1)→ofX (upd ob id x) d y j=ofX ob d y j
 | .d _,_,_=>rfl
 | .par _,_,_=>rfl
 | .nil,_,_=>rfl
 | .own e s n c cells lk,j,h=>by
   simp only [ofX,List.map_cons,List.map_nil,List.mem_singleton] at h
   simp only [ofX,yq _ _ (Ne.symm h)]
 | .res k z,j,h=>by
   simp only [ofX,List.map_cons,List.map_nil,List.mem_singleton] at h
   simp only [ofX,yq _ _ (Ne.symm h)]
 | .box xs,j,h=>by
   simp only [ofX,List.map_append,List.mem_append,not_or,s3,List.map_cons,List.map_nil,List.mem_singleton] at h
   simp only [ofX,X5 d xs (j+1) h.1,s3,yq _ _ (Ne.symm h.2)]
 | .agg xs,j,h=>by
   simp only [ofX] at h
   simp only [ofX,X5 d xs j h]
 | .tup xs,j,h=>by
   simp only [ofX] at h
   simp only [ofX,X5 d xs j h]
theorem X5 (d:Nat):∀ (ys:List X) (j:Nat),id ∉ (xQ (upd ob id x) d ys j).2.1.map (·.1)→xQ (upd ob id x) d ys j=xQ ob d ys j
 | [],_,_=>rfl
 | y :: ys,j,h=>by
   simp only [xQ,List.map_append,List.mem_append,not_or] at h
   have e1:=IZ d y j h.1
   have e2:=X5 d ys (ofX (upd ob id x) d y j).2.2 h.2
   simp only [xQ,e1] at e2 ⊢
   rw [e2]
end
mutual
theorem Lk {ms:List Nat} (hm:id ∉ ms):∀ (y:X) (a:A),xU (upd ob id x) ms y a=xU ob ms y a
 | .par k,a=>by
   simp only [xU]
   cases h:ms[k]? with
   | none=>rfl
   | some i=>
     have:i ≠ id:=by rintro rfl; exact hm (List.mem_of_getElem? h)
     simp only [yq _ _ this]
 | .agg xs,.agg as=>by simp only [xU,Vb hm xs as]
 | .tup xs,.tup as=>by simp only [xU,Vb hm xs as]
 | .d _,a=>by cases a <;> rfl
 | .nil,a=>by cases a <;> rfl
 | .own ..,a=>by cases a <;> rfl
 | .box _,a=>by cases a <;> rfl
 | .res _ _,a=>by cases a <;> rfl
 | .agg xs,.undef=>rfl
 | .agg xs,.d _=>rfl
 | .agg xs,.nil=>rfl
 | .agg xs,.row .. =>rfl
 | .agg xs,.adr .. =>rfl
 | .agg xs,.rad .. =>rfl
 | .agg xs,.vw .. =>rfl
 | .agg xs,.cp _=>rfl
 | .agg xs,.tup _=>rfl
 | .tup xs,.undef=>rfl
 | .tup xs,.d _=>rfl
 | .tup xs,.nil=>rfl
 | .tup xs,.row .. =>rfl
 | .tup xs,.adr .. =>rfl
 | .tup xs,.rad .. =>rfl
 | .tup xs,.vw .. =>rfl
 | .tup xs,.cp _=>rfl
 | .tup xs,.agg _=>rfl
theorem Vb {ms:List Nat} (hm:id ∉ ms):∀ (ys:List X) (as:List A),nu (upd ob id x) ms ys as=nu ob ms ys as
 | [],as=>by cases as <;> rfl
 | _ :: _,[]=>rfl
 | y :: ys,a :: as=>by simp only [nu,Lk hm y a,Vb hm ys as]
end
theorem Vd:∀ {ms:List Nat} {outs:List (List D)},id ∉ ms→xY (upd ob id x) ms outs=xY ob ms outs
 | [],[],_=>rfl
 | [],_ :: _,_=>rfl
 | _ :: _,[],_=>rfl
 | i :: ms,ds :: outs,h=>by
   simp only [List.mem_cons,not_or] at h
   simp only [xY,yq _ _ (Ne.symm h.1),Vd h.2]
end
section
variable {ob:Nat→Ob} {id:Nat} {x:Ob}
theorem VV {d:Nat} {o:O} {out:Out} (h:mk (upd ob id x) d [] o=some out) (hu:id ∉ (fX out).map (·.1)):mk ob d [] o=some out:=by
 have hne:oid d 0 ≠ id:=by
  rintro rfl
  unfold mk at h
  simp only [Option.some.injEq] at h
  subst h
  exact hu (by simp [fX,s3])
 unfold mk s3 at h ⊢
 rw [yq _ _ hne] at h
 exact h
theorem Sn {Γ:Ctx} {d:Nat} {f:FuncId} {as:List A} {out:Out} (h:kp Γ (upd ob id x) d f as=some out) (hn:id ∉ yV as) (hu:id ∉ (fX out).map (·.1)):kp Γ ob d f as=some out:=by
 unfold kp at h ⊢
 rw [So _ as hn] at h
 obtain ⟨⟨xs,ls,ms⟩,hx,h⟩:=bind_some h
 have hids:=Xi _ as hx
 have hl:id ∉ ls:=fun hm=>hn (hids id (List.mem_append.2 (.inl hm)))
 have hm:id ∉ ms:=fun hm=>hn (hids id (List.mem_append.2 (.inr hm)))
 rw [hx]
 simp only [Option.bind_some] at h ⊢
 split at h
 ·rename_i hc
  rw [if_pos hc]
  obtain ⟨xo,hF,h⟩:=bind_some h
  rw [hF]
  simp only [Option.bind_some]
  cases xo with
  | ret y outs=>
    simp only [Vd hm,jv hl] at h ⊢
    obtain ⟨bs,hb,h⟩:=map_some h
    rw [hb]
    subst h
    simp only [fX,List.map_append,List.mem_append,not_or] at hu
    have hbm:id ∉ bs.map (·.1):=by rw [Un hb]; exact hm
    have e:zq (upd ob id x) bs=upd (zq ob bs) id x:=eG bs ob hbm
    rw [e] at hu ⊢
    simp only [Option.map_some,IZ d y 0 hu.2.2,Lk hm]
  | pan y outs=>
    simp only [Vd hm,jv hl] at h ⊢
    exact h
 ·cases h
theorem Vh {st:Bool} {sz:Nat} {lo hi:Bool} {as:List A} {out:Out} (h:nB (upd ob id x) st sz lo hi as=some out) (hn:id ∉ yV as):nB ob st sz lo hi as=some out:=by
 have hne:∀ {a:A} {i:Nat},a ∈ as→i ∈ yo a→i ≠ id:=by
  rintro a i ha hi rfl
  exact hn (nq ha hi)
 simp only [nB] at h ⊢
 split at h
 ·exact h
 ·exact h
 ·rename_i i v bs
  have e:=hne (a:= .row i v) (i:=i) List.mem_cons_self (by simp [yo])
  rw [sG e,jv (by simpa using Ne.symm e)] at h; exact h
 ·cases h
theorem D9 {Γ:Ctx} {d:Nat} {op:SOp} {as:List A} {out:Out} (h:eval Γ (upd ob id x) d op as=some out) (hn:id ∉ yV as) (hu:id ∉ (fX out).map (·.1)):eval Γ ob d op as=some out:=by
 have hne:∀ {a:A} {i:Nat},a ∈ as→i ∈ yo a→i ≠ id:=by
  rintro a i ha hi rfl
  exact hn (nq ha hi)
 cases op with
 | mv=>exact h
 | pick=>exact h
 | bld=>exact h
 | bin=>exact h
 | beq=>exact h
 | neg=>exact h
 | not=>exact h
 | cvt=>exact h
 | shr=>exact h
 | s2b=>exact h
 | mkI t=>
   simp only [eval] at h ⊢
   split at h
   ·exact h
   ·rename_i cs
    have e2:id ∉ yV cs:=fun hm=>hn (nq (a:= .agg cs) (by simp) (by simpa [yo] using hm))
    rw [bt e2] at h
    obtain ⟨⟨xs,ls⟩,hs,h⟩:=bind_some h
    have hl:id ∉ ls:=fun hm=>e2 (fS hs id hm)
    rw [hs]
    simp only [Option.bind_some,jv hl] at h ⊢; exact h
   ·cases h
 | mkR k=>
   simp only [eval] at h ⊢
   split at h <;> first | exact VV h hu | cases h
 | mget t kc n z wo=>
   simp only [eval,bo] at h ⊢
   split at h
   ·rw [bm (hne List.mem_cons_self (by simp [yo]))] at h; exact h
   ·cases h
 | mlen=>
   simp only [eval,dq] at h ⊢
   split at h
   ·rw [bm (hne List.mem_cons_self (by simp [yo]))] at h; exact h
   ·cases h
 | vws s=>
   simp only [eval,Z3] at h ⊢
   split at h
   ·rw [sG (hne List.mem_cons_self (by simp [yo]))] at h; exact h
   ·cases h
 | clr z=>
   simp only [eval,Z4] at h ⊢
   split at h
   ·rename_i i v lo sz
    have e:=hne (a:= .vw i v lo sz) (i:=i) List.mem_cons_self (by simp [yo])
    rw [sG e,yq _ _ e] at h; exact h
   ·cases h
 | mset t kc n=>
   simp only [eval,bc] at h ⊢
   split at h
   ·rename_i i v k a
    have e:=hne (a:= .row i v) (i:=i) List.mem_cons_self (by simp [yo])
    have e2:id ∉ yV (cellsOf a):=fun hm=>hn (nq (a:=a) (by simp) (dN id hm))
    rw [bm e,bt e2] at h
    obtain ⟨q,hq,h⟩:=bind_some h
    rw [hq]
    simp only [Option.bind_some] at h ⊢
    split at h
    ·rename_i hc
     rw [if_pos hc]
     obtain ⟨p,hp,h⟩:=bind_some h
     obtain ⟨⟨xs,ls⟩,hs,h⟩:=bind_some h
     have hl:id ∉ ls:=fun hm=>e2 (fS hs id hm)
     rw [hp,hs]
     simp only [Option.bind_some,jv hl] at h ⊢; exact h
    ·cases h
   ·cases h
 | mkF=>exact h
 | fld off n=>cases n <;> exact h
 | ixs=>exact h
 | ext=>exact h
 | mm=>exact h
 | pan=>exact h
 | inil=>exact h
 | snil=>exact h
 | seq=>exact h
 | ta=>exact h
 | ixa n sz m=>cases m <;> exact h
 | ld n=>
   cases n with
   | none=>
     simp only [eval,bW] at h ⊢
     split at h
     ·rw [eV (hne (List.mem_singleton.2 rfl) (by simp [yo]))] at h; exact h
     ·rw [sG (hne (List.mem_singleton.2 rfl) (by simp [yo]))] at h; exact h
     ·exact h
     ·cases h
   | some n=>
     simp only [eval,jr] at h ⊢
     split at h
     ·rw [eV (hne (List.mem_singleton.2 rfl) (by simp [yo]))] at h; exact h
     ·rw [sG (hne (List.mem_singleton.2 rfl) (by simp [yo]))] at h; exact h
     ·exact h
     ·cases h
 | nilck=>
   simp only [eval] at h ⊢
   split at h
   ·rw [eV (hne (List.mem_singleton.2 rfl) (by simp [yo]))] at h; exact h
   ·rw [bm (hne (List.mem_singleton.2 rfl) (by simp [yo]))] at h; exact h
   ·cases h
 | fa off=>
   simp only [eval,f6] at h ⊢
   split at h
   ·rw [eV (hne (List.mem_singleton.2 rfl) (by simp [yo]))] at h; exact h
   ·rw [sG (hne (List.mem_singleton.2 rfl) (by simp [yo]))] at h; exact h
   ·exact h
   ·rw [bm (hne (List.mem_singleton.2 rfl) (by simp [yo]))] at h; exact h
   ·cases h
 | ia s=>
   simp only [eval,bF] at h ⊢
   split at h
   ·exact h
   ·rw [sG (hne List.mem_cons_self (by simp [yo]))] at h; exact h
   ·cases h
 | iaa n s=>
   simp only [eval,Ya] at h ⊢
   split at h
   ·rw [eV (hne List.mem_cons_self (by simp [yo]))] at h; exact h
   ·rw [sG (hne List.mem_cons_self (by simp [yo]))] at h; exact h
   ·exact h
   ·cases h
 | len s=>
   simp only [eval,bI] at h ⊢
   split at h
   ·exact h
   ·exact h
   ·exact h
   ·rw [sG (hne (List.mem_singleton.2 rfl) (by simp [yo]))] at h; exact h
   ·cases h
 | cap=>
   simp only [eval,Z0] at h ⊢
   split at h
   ·exact h
   ·rw [sG (hne (List.mem_singleton.2 rfl) (by simp [yo]))] at h; exact h
   ·cases h
 | slc st sz lo hi=>exact Vh h hn
 | b2s=>
   simp only [eval] at h ⊢
   split at h
   ·rename_i a
    rw [Ww (by intro hi; exact hn (by simpa [yV] using hi))] at h; exact h
   ·cases h
 | alloc cells=>
   simp only [eval] at h ⊢
   split at h
   ·split at h
    ·rename_i hc
     rw [if_pos hc]; exact VV h hu
    ·cases h
   ·cases h
 | box=>
   simp only [eval] at h ⊢
   split at h
   ·split at h
    ·rename_i hc
     rw [if_pos hc]; exact VV h hu
    ·cases h
   ·cases h
 | mkS e sz b z=>
   simp only [eval] at h ⊢
   split at h
   ·split at h
    ·rename_i hc
     rw [if_pos hc]; exact VV h hu
    ·cases h
   ·cases h
 | st n=>
   simp only [eval,Vi] at h ⊢
   split at h
   ·rename_i i v o a
    have e:=hne (a:= .adr i v o) (i:=i) List.mem_cons_self (by simp [yo])
    rw [eV e,yq _ _ e] at h; exact h
   ·rename_i i v o a
    have e:=hne (a:= .rad i v o) (i:=i) List.mem_cons_self (by simp [yo])
    have e2:id ∉ yV (cellsOf a):=fun hm=>hn (nq (a:=a) (by simp) (dN id hm))
    rw [sG e,bt e2,yq _ _ e] at h
    obtain ⟨r,hr,h⟩:=bind_some h
    obtain ⟨⟨xs,ls⟩,hs,h⟩:=bind_some h
    have hl:id ∉ ls:=fun hm=>e2 (fS hs id hm)
    rw [hr]
    simp only [Option.bind_some]
    rw [hs]
    simp only [Option.bind_some] at h ⊢
    rw [jv hl] at h
    exact h
   ·cases h
 | bldS e size len parts=>
   simp only [eval] at h ⊢
   have e2:id ∉ yV (as.flatMap cellsOf):=fun hm=>hn (cK id hm)
   rw [bt e2] at h
   split at h
   ·rename_i hc
    rw [if_pos hc]
    obtain ⟨⟨xs,ls⟩,hs,h⟩:=bind_some h
    have hl:id ∉ ls:=fun hm=>e2 (fS hs id hm)
    rw [hs]
    simp only [Option.bind_some] at h ⊢
    unfold mk at h ⊢
    simp only [Option.some.injEq] at h
    subst h
    rw [jv hl]
    simp only [fX,jv hl,s3,List.map_append,List.map_cons,List.map_nil,List.mem_append,List.mem_singleton,not_or] at hu
    simp only [s3,yq _ _ (Ne.symm hu.2)]
   ·cases h
 | app e size b=>
   simp only [eval,bR] at h ⊢
   split at h
   ·rename_i y
    have e2:id ∉ yo y:=fun hm=>hn (nq (a:=y) (by simp) hm)
    rw [Ww e2] at h
    obtain ⟨⟨z,ls⟩,hs,h⟩:=bind_some h
    rw [hs]
    simp only [Option.bind_some] at h ⊢
    obtain ⟨⟨m,xs⟩,hq,h⟩:=bind_some h
    rw [hq]
    simp only [Option.bind_some] at h ⊢
    split at h
    ·rename_i hc
     rw [if_pos hc]
     split at h
     ·rename_i hm; rw [if_pos hm]; exact h
     ·rename_i hm; rw [if_neg hm]; exact VV h hu
    ·cases h
   ·rename_i i v y
    have e1:=hne (a:= .row i v) (i:=i) List.mem_cons_self (by simp [yo])
    have e2:id ∉ yo y:=fun hm=>hn (nq (a:=y) (by simp) hm)
    rw [sG e1,Ww e2,yq _ _ e1] at h; exact h
   ·cases h
 | appZ e size b z=>
   simp only [eval,dh] at h ⊢
   split at h
   ·split at h
    ·rename_i hc
     rw [if_pos hc]
     split at h
     ·rename_i hm; rw [if_pos hm]; exact h
     ·rename_i hm; rw [if_neg hm]; exact VV h hu
    ·cases h
   ·rename_i i v k kk
    have e1:=hne (a:= .row i v) (i:=i) List.mem_cons_self (by simp [yo])
    rw [sG e1,yq _ _ e1] at h; exact h
   ·cases h
 | cut s=>
   simp only [eval,Z6] at h ⊢
   split at h
   ·exact h
   ·rename_i i v k kk
    have e1:=hne (a:= .row i v) (i:=i) List.mem_cons_self (by simp [yo])
    rw [yq _ _ e1] at h
    split at h
    ·rename_i hl
     rw [if_pos hl]; exact Vh h hn
    ·rename_i hl
     rw [if_neg hl]
     rw [sG e1] at h; exact h
   ·exact Vh h hn
 | call f=>exact Sn h hn hu
 | dyn=>
   simp only [eval] at h ⊢
   split at h
   ·rename_i f r
    exact Sn h (fun hm=>hn (by simp only [yV,yo,List.nil_append]; exact hm)) hu
   ·cases h
end
theorem Nk {ob:Nat→Ob} {a:A} {y:D} (h:xT ob a=some (y,[])) (ob':Nat→Ob):xT ob' a=some (y,[]):=by
 cases a with
 | row i v=>
   simp only [xT] at h
   split at h
   ·split at h
    ·simp at h
    ·cases h
   ·cases h
 | _=>exact h
theorem Wl {ob:Nat→Ob}:∀ {as:List A} {ys:List D},xm ob as=some (ys,[])→∀ ob',xm ob' as=some (ys,[])
 | [],ys,h,ob'=>h
 | a :: as,ys,h,ob'=>by
   simp only [xm] at h ⊢
   obtain ⟨⟨y,l⟩,h1,h⟩:=bind_some h
   obtain ⟨⟨zs,l'⟩,h2,h⟩:=map_some h
   simp only [Prod.mk.injEq,List.append_eq_nil_iff] at h
   obtain ⟨rfl,rfl,rfl⟩:=h
   rw [Nk h1 ob',Wl h2 ob']
   rfl
theorem WD {Γ:Ctx} {ob ob':Nat→Ob} {d:Nat} {op:SOp} (hm:op.maker=true) {as:List A} {a:A} {i:Nat} {x:Ob} (h:eval Γ ob d op as=some (.val a [(i,x)]))
  (hv:(ob' (oid d 0)).ver=(ob (oid d 0)).ver):eval Γ ob' d op as=some (.val a [(i,x)])∧i=oid d 0∧x.ver=(ob (oid d 0)).ver+1:=by
 have hmk:∀ {o:O},mk ob d [] o=some (.val a [(i,x)])→mk ob' d [] o=some (.val a [(i,x)])∧i=oid d 0∧x.ver=(ob (oid d 0)).ver+1:=by
  intro o h
  unfold mk s3 at h ⊢
  simp only [Option.some.injEq,Out.val.injEq,List.nil_append,List.cons.injEq,and_true,Prod.mk.injEq] at h
  obtain ⟨h1,h2,h3⟩:=h
  rw [hv]
  subst h2 h3
  exact ⟨by rw [h1]; rfl,rfl,rfl⟩
 cases op with
 | alloc cells=>
   simp only [eval] at h ⊢
   split at h
   ·split at h
    ·rename_i hc
     rw [if_pos hc]; exact hmk h
    ·cases h
   ·cases h
 | box=>
   simp only [eval] at h ⊢
   split at h
   ·split at h
    ·rename_i hc
     rw [if_pos hc]; exact hmk h
    ·cases h
   ·cases h
 | mkS e sz b z=>
   simp only [eval] at h ⊢
   split at h
   ·split at h
    ·rename_i hc
     rw [if_pos hc]; exact hmk h
    ·cases h
   ·cases h
 | bldS e size len parts=>
   simp only [eval] at h ⊢
   split at h
   ·rename_i hc
    rw [if_pos hc]
    obtain ⟨⟨xs,ls⟩,hs,h⟩:=bind_some h
    have hl:ls=[]:=by
     unfold mk at h
     simp only [Option.some.injEq,Out.val.injEq] at h
     have:=congrArg List.length h.2
     simp only [List.length_append,List.length_cons,List.length_nil,zX,List.length_map] at this
     exact List.eq_nil_of_length_eq_zero (by omega)
    subst hl
    rw [Wl hs ob']
    exact hmk h
   ·cases h
 | _=>cases hm
end Go.Vm
