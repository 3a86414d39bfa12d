/- What an operation looks at and changes: the objects that its arguments lead to, and its own. -/
import Derived.Test.YtpjfklhaogdfeaaVmDraw2
set_option linter.unusedVariables false
set_option linter.unusedSectionVars false
set_option linter.unusedSimpArgs false
namespace Go.Vm
variable [Gl]
section
variable {ob:Nat→Ob} {id:Nat} {x:Ob}
theorem n5 {i v:Nat} (h:i ≠ id):xG (upd ob id x) i v=xG ob i v:=by unfold xG; rw [zI _ _ h]
theorem vp {i v:Nat} (h:i ≠ id):xq (upd ob id x) i v=xq ob i v:=by unfold xq; rw [zI _ _ h]
theorem lP {i v:Nat} (h:i ≠ id):tm (upd ob id x) i v=tm ob i v:=by unfold tm; rw [zI _ _ h]
theorem se {a:A} {as:List A} (h:a ∈ as) {i:Nat} (hi:i ∈ zB a):i ∈ yi as:=by
 induction as with
 | nil=>cases h
 | cons b as ih=>
   simp only [yi,List.mem_append]
   rcases List.mem_cons.1 h with rfl | h
   ·exact .inl hi
   ·exact .inr (ih h)
theorem eo {a:A} (h:id ∉ zB a):yT (upd ob id x) a=yT ob a:=by
 cases a with
 | row i v=>
   have:i ≠ id:=by rintro rfl; exact h (by simp [zB])
   simp only [yT,zI _ _ this]
 | _=>rfl
theorem Rk {a:A} {y:D} {ls:List Nat} (h:yT ob a=some (y,ls)):∀ i ∈ ls,i ∈ zB a:=by
 cases a with
 | row i v=>
   simp only [yT] at h
   split at h
   ·split at h
    ·simp only [Option.some.injEq,Prod.mk.injEq] at h
     obtain ⟨_,rfl⟩:=h
     simp [zB]
    ·cases h
   ·cases h
 | d y=>simp only [yT,Option.some.injEq,Prod.mk.injEq] at h; obtain ⟨_,rfl⟩:=h; simp
 | nil=>simp only [yT,Option.some.injEq,Prod.mk.injEq] at h; obtain ⟨_,rfl⟩:=h; simp
 | _=>simp [yT] at h
theorem lR:∀ {as:List A},id ∉ yi as→yp (upd ob id x) as=yp ob as
 | [],_=>rfl
 | a :: as,h=>by
   simp only [yi,List.mem_append,not_or] at h
   simp only [yp,eo h.1,lR h.2]
theorem nj:∀ {as:List A} {ys:List D} {ls:List Nat},yp ob as=some (ys,ls)→∀ i ∈ ls,i ∈ yi as
 | [],ys,ls,h=>by simp only [yp,Option.some.injEq,Prod.mk.injEq] at h; obtain ⟨_,rfl⟩:=h; simp
 | a :: as,ys,ls,h=>by
   simp only [yp] at h
   obtain ⟨⟨y,l⟩,h1,h⟩:=bind_some h
   obtain ⟨⟨zs,l'⟩,h2,h⟩:=map_some h
   simp only [Prod.mk.injEq] at h
   obtain ⟨_,rfl⟩:=h
   intro i hi
   simp only [yi,List.mem_append]
   rcases List.mem_append.1 hi with hi | hi
   ·exact .inl (Rk h1 i hi)
   ·exact .inr (nj h2 i hi)
theorem qK:∀ {ls:List Nat},id ∉ ls→zo (upd ob id x) ls=zo ob ls
 | [],_=>rfl
 | i :: ls,h=>by
   simp only [List.mem_cons,not_or] at h
   have:=qK (ls:=ls) h.2
   unfold zo at this ⊢
   simp only [List.map_cons,this,zI _ _ (Ne.symm h.1)]
theorem Iq {ls:List Nat}:(zo ob ls).map (·.1)=ls:=by unfold zo; rw [List.map_map]; exact List.map_id' ls
theorem mE {a:A}:∀ i ∈ yi (cellsOf a),i ∈ zB a:=by
 intro i hi
 cases a <;> first | (simp only [cellsOf,yi,List.append_nil] at hi; exact hi) | (simp only [cellsOf] at hi; simp only [zB]; exact hi)
theorem refsDs_append {as bs:List A} {i:Nat}:i ∈ yi (as++bs) ↔ i ∈ yi as ∨ i ∈ yi bs:=by
 induction as with
 | nil=>simp [yi]
 | cons a as ih=>simp [yi,ih,or_assoc]
theorem lC:∀ {as:List A},∀ i ∈ yi (as.flatMap cellsOf),i ∈ yi as
 | [],i,h=>h
 | a :: as,i,h=>by
   rw [List.flatMap_cons] at h
   simp only [yi,List.mem_append]
   rcases refsDs_append.1 h with h | h
   ·exact .inl (mE i h)
   ·exact .inr (lC i h)
mutual
theorem J8 (m:Bool):∀ (a:A),id ∉ zB a→toX m (upd ob id x) a=toX m ob a
 | .row i v,h=>by
   have:i ≠ id:=by rintro rfl; exact h (by simp [zB])
   simp only [toX,zI _ _ this]
 | .adr i v o,h=>by
   have:i ≠ id:=by rintro rfl; exact h (by simp [zB])
   simp only [toX,zI _ _ this]
 | .agg cs,h=>by
   simp only [toX,af m cs (by simpa [zB] using h)]
 | .d _,_=>rfl
 | .nil,_=>rfl
 | .undef,_=>rfl
 | .rad ..,_=>rfl
 | .vw ..,_=>rfl
 | .cp _,_=>rfl
 | .tup _,_=>rfl
theorem af (m:Bool):∀ (as:List A),id ∉ yi as→vc m (upd ob id x) as=vc m ob as
 | [],_=>rfl
 | a :: as,h=>by
   simp only [yi,List.mem_append,not_or] at h
   simp only [vc,J8 m a h.1,af m as h.2]
end
mutual
theorem PW (m:Bool):∀ (a:A) {y:X} {ls ms:List Nat},toX m ob a=some (y,ls,ms)→∀ i ∈ ls++ms,i ∈ zB a
 | .row i v,y,ls,ms,h=>by
   simp only [toX] at h
   split at h
   ·split at h
    ·cases m with
     | false=>
       simp only [Bool.false_eq_true,if_false,Option.some.injEq,Prod.mk.injEq] at h
       obtain ⟨_,rfl,rfl⟩:=h
       simp [zB]
     | true=>
       simp only [if_true] at h
       split at h
       ·simp only [Option.some.injEq,Prod.mk.injEq] at h
        obtain ⟨_,rfl,rfl⟩:=h
        simp [zB]
       ·cases h
    ·cases h
   ·split at h
    ·simp only [Option.some.injEq,Prod.mk.injEq] at h
     obtain ⟨_,rfl,rfl⟩:=h
     simp [zB]
    ·cases h
   ·cases h
 | .adr i v o,y,ls,ms,h=>by
   simp only [toX] at h
   split at h
   ·split at h
    ·obtain ⟨_,_,h⟩:=map_some h
     simp only [Prod.mk.injEq] at h
     obtain ⟨_,rfl,rfl⟩:=h
     simp [zB]
    ·cases h
   ·cases h
 | .agg cs,y,ls,ms,h=>by
   simp only [toX] at h
   obtain ⟨⟨xs,l,k⟩,h1,h⟩:=map_some h
   simp only [Prod.mk.injEq] at h
   obtain ⟨_,rfl,rfl⟩:=h
   simp only [zB]
   exact gI m cs h1
 | .d _,y,ls,ms,h=>by simp only [toX,Option.some.injEq,Prod.mk.injEq] at h; obtain ⟨_,rfl,rfl⟩:=h; simp
 | .nil,y,ls,ms,h=>by simp only [toX,Option.some.injEq,Prod.mk.injEq] at h; obtain ⟨_,rfl,rfl⟩:=h; simp
 | .undef,_,_,_,h=>by simp [toX] at h
 | .rad ..,_,_,_,h=>by simp [toX] at h
 | .cp _,_,_,_,h=>by simp [toX] at h
 | .tup _,_,_,_,h=>by simp [toX] at h
theorem gI (m:Bool):∀ (as:List A) {ys:List X} {ls ms:List Nat},vc m ob as=some (ys,ls,ms)→∀ i ∈ ls++ms,i ∈ yi as
 | [],ys,ls,ms,h=>by simp only [vc,Option.some.injEq,Prod.mk.injEq] at h; obtain ⟨_,rfl,rfl⟩:=h; simp
 | a :: as,ys,ls,ms,h=>by
   simp only [vc] at h
   obtain ⟨⟨y,l,k⟩,h1,h⟩:=bind_some h
   obtain ⟨⟨zs,l',k'⟩,h2,h⟩:=map_some h
   simp only [Prod.mk.injEq] at h
   obtain ⟨_,rfl,rfl⟩:=h
   intro i hi
   simp only [yi,List.mem_append]
   have p:=PW m a h1 i
   have q:=gI m as h2 i
   simp only [List.mem_append] at hi p q
   rcases hi with (hi | hi) | (hi | hi)
   ·exact .inl (p (.inl hi))
   ·exact .inr (q (.inl hi))
   ·exact .inl (p (.inr hi))
   ·exact .inr (q (.inr hi))
end
mutual
theorem Pc (d:Nat):∀ (y:X) (j:Nat),id ∉ (ofX (upd ob id x) d y j).2.1.map (·.1)→ofX (upd ob id x) d y j=ofX ob d y j
 | .d _,_,_=>rfl
 | .par _,_,_=>rfl
 | .nil,_,_=>rfl
 | .own e s n c cells lk,j,h=>by
   simp only [ofX,List.map_cons,List.map_nil,List.mem_singleton] at h
   simp only [ofX,zI _ _ (Ne.symm h)]
 | .res k z,j,h=>by
   simp only [ofX,List.map_cons,List.map_nil,List.mem_singleton] at h
   simp only [ofX,zI _ _ (Ne.symm h)]
 | .box xs,j,h=>by
   simp only [ofX,List.map_append,List.mem_append,not_or,vS,List.map_cons,List.map_nil,List.mem_singleton] at h
   simp only [ofX,fG d xs (j+1) h.1,vS,zI _ _ (Ne.symm h.2)]
 | .agg xs,j,h=>by
   simp only [ofX] at h
   simp only [ofX,fG d xs j h]
 | .tup xs,j,h=>by
   simp only [ofX] at h
   simp only [ofX,fG d xs j h]
theorem fG (d:Nat):∀ (ys:List X) (j:Nat),id ∉ (yP (upd ob id x) d ys j).2.1.map (·.1)→yP (upd ob id x) d ys j=yP ob d ys j
 | [],_,_=>rfl
 | y :: ys,j,h=>by
   simp only [yP,List.map_append,List.mem_append,not_or] at h
   have e1:=Pc d y j h.1
   have e2:=fG d ys (ofX (upd ob id x) d y j).2.2 h.2
   simp only [yP,e1] at e2 ⊢
   rw [e2]
end
mutual
theorem TC {ms:List Nat} (hm:id ∉ ms):∀ (y:X) (a:A),yS (upd ob id x) ms y a=yS ob ms y a
 | .par k,a=>by
   simp only [yS]
   cases h:ms[k]? with
   | none=>rfl
   | some i=>
     have:i ≠ id:=by rintro rfl; exact hm (List.mem_of_getElem? h)
     simp only [zI _ _ this]
 | .agg xs,.agg as=>by simp only [yS,dp hm xs as]
 | .tup xs,.tup as=>by simp only [yS,dp hm xs as]
 | .d _,a=>by cases a <;> rfl
 | .nil,a=>by cases a <;> rfl
 | .own ..,a=>by cases a <;> rfl
 | .box _,a=>by cases a <;> rfl
 | .res _ _,a=>by cases a <;> rfl
 | .agg xs,.undef=>rfl
 | .agg xs,.d _=>rfl
 | .agg xs,.nil=>rfl
 | .agg xs,.row .. =>rfl
 | .agg xs,.adr .. =>rfl
 | .agg xs,.rad .. =>rfl
 | .agg xs,.vw .. =>rfl
 | .agg xs,.cp _=>rfl
 | .agg xs,.tup _=>rfl
 | .tup xs,.undef=>rfl
 | .tup xs,.d _=>rfl
 | .tup xs,.nil=>rfl
 | .tup xs,.row .. =>rfl
 | .tup xs,.adr .. =>rfl
 | .tup xs,.rad .. =>rfl
 | .tup xs,.vw .. =>rfl
 | .tup xs,.cp _=>rfl
 | .tup xs,.agg _=>rfl
theorem dp {ms:List Nat} (hm:id ∉ ms):∀ (ys:List X) (as:List A),sd (upd ob id x) ms ys as=sd ob ms ys as
 | [],as=>by cases as <;> rfl
 | _ :: _,[]=>rfl
 | y :: ys,a :: as=>by simp only [sd,TC hm y a,dp hm ys as]
end
theorem d6:∀ {ms:List Nat} {outs:List (List D)},id ∉ ms→yX (upd ob id x) ms outs=yX ob ms outs
 | [],[],_=>rfl
 | [],_ :: _,_=>rfl
 | _ :: _,[],_=>rfl
 | i :: ms,ds :: outs,h=>by
   simp only [List.mem_cons,not_or] at h
   simp only [yX,zI _ _ (Ne.symm h.1),d6 h.2]
end
section
variable {ob:Nat→Ob} {id:Nat} {x:Ob}
theorem dW {d:Nat} {o:O} {out:Out} (h:mk (upd ob id x) d [] o=some out) (hu:id ∉ (nv out).map (·.1)):mk ob d [] o=some out:=by
 have hne:oid d 0 ≠ id:=by
  rintro rfl
  unfold mk at h
  simp only [Option.some.injEq] at h
  subst h
  exact hu (by simp [nv,vS])
 unfold mk vS at h ⊢
 rw [zI _ _ hne] at h
 exact h
theorem Zs {Γ:Ctx} {d:Nat} {f:FuncId} {as:List A} {out:Out} (h:qc Γ (upd ob id x) d f as=some out) (hn:id ∉ yi as) (hu:id ∉ (nv out).map (·.1)):qc Γ ob d f as=some out:=by
 unfold qc at h ⊢
 rw [af _ as hn] at h
 obtain ⟨⟨xs,ls,ms⟩,hx,h⟩:=bind_some h
 have hids:=gI _ as hx
 have hl:id ∉ ls:=fun hm=>hn (hids id (List.mem_append.2 (.inl hm)))
 have hm:id ∉ ms:=fun hm=>hn (hids id (List.mem_append.2 (.inr hm)))
 rw [hx]
 simp only [Option.bind_some] at h ⊢
 split at h
 ·rename_i hc
  rw [if_pos hc]
  obtain ⟨xo,hF,h⟩:=bind_some h
  rw [hF]
  simp only [Option.bind_some]
  cases xo with
  | ret y outs=>
    simp only [d6 hm,qK hl] at h ⊢
    obtain ⟨bs,hb,h⟩:=map_some h
    rw [hb]
    subst h
    simp only [nv,List.map_append,List.mem_append,not_or] at hu
    have hbm:id ∉ bs.map (·.1):=by rw [cR hb]; exact hm
    have e:za (upd ob id x) bs=upd (za ob bs) id x:=nY bs ob hbm
    rw [e] at hu ⊢
    simp only [Option.map_some,Pc d y 0 hu.2.2,TC hm]
  | pan y outs=>
    simp only [d6 hm,qK hl] at h ⊢
    exact h
 ·cases h
theorem ce {st:Bool} {sz:Nat} {lo hi:Bool} {as:List A} {out:Out} (h:tX (upd ob id x) st sz lo hi as=some out) (hn:id ∉ yi as):tX ob st sz lo hi as=some out:=by
 have hne:∀ {a:A} {i:Nat},a ∈ as→i ∈ zB a→i ≠ id:=by
  rintro a i ha hi rfl
  exact hn (se ha hi)
 simp only [tX] at h ⊢
 split at h
 ·exact h
 ·exact h
 ·rename_i i v bs
  have e:=hne (a:= .row i v) (i:=i) List.mem_cons_self (by simp [zB])
  rw [vp e,qK (by simpa using Ne.symm e)] at h; exact h
 ·cases h
theorem Lo {Γ:Ctx} {d:Nat} {op:SOp} {as:List A} {out:Out} (h:eval Γ (upd ob id x) d op as=some out) (hn:id ∉ yi as) (hu:id ∉ (nv out).map (·.1)):eval Γ ob d op as=some out:=by
 have hne:∀ {a:A} {i:Nat},a ∈ as→i ∈ zB a→i ≠ id:=by
  rintro a i ha hi rfl
  exact hn (se ha hi)
 cases op with
 | mv=>exact h
 | pick=>exact h
 | bld=>exact h
 | bin=>exact h
 | beq=>exact h
 | neg=>exact h
 | not=>exact h
 | cvt=>exact h
 | shr=>exact h
 | s2b=>exact h
 | mkI t=>
   simp only [eval] at h ⊢
   split at h
   ·exact h
   ·rename_i cs
    have e2:id ∉ yi cs:=fun hm=>hn (se (a:= .agg cs) (by simp) (by simpa [zB] using hm))
    rw [lR e2] at h
    obtain ⟨⟨xs,ls⟩,hs,h⟩:=bind_some h
    have hl:id ∉ ls:=fun hm=>e2 (nj hs id hm)
    rw [hs]
    simp only [Option.bind_some,qK hl] at h ⊢; exact h
   ·cases h
 | mkR k=>
   simp only [eval] at h ⊢
   split at h <;> first | exact dW h hu | cases h
 | mget t kc n z wo=>
   simp only [eval,ke] at h ⊢
   split at h
   ·rw [lP (hne List.mem_cons_self (by simp [zB]))] at h; exact h
   ·cases h
 | mlen=>
   simp only [eval,mw] at h ⊢
   split at h
   ·rw [lP (hne List.mem_cons_self (by simp [zB]))] at h; exact h
   ·cases h
 | vws s=>
   simp only [eval,ix] at h ⊢
   split at h
   ·rw [vp (hne List.mem_cons_self (by simp [zB]))] at h; exact h
   ·cases h
 | clr z=>
   simp only [eval,iE] at h ⊢
   split at h
   ·rename_i i v lo sz
    have e:=hne (a:= .vw i v lo sz) (i:=i) List.mem_cons_self (by simp [zB])
    rw [vp e,zI _ _ e] at h; exact h
   ·cases h
 | mset t kc n=>
   simp only [eval,lN] at h ⊢
   split at h
   ·rename_i i v k a
    have e:=hne (a:= .row i v) (i:=i) List.mem_cons_self (by simp [zB])
    have e2:id ∉ yi (cellsOf a):=fun hm=>hn (se (a:=a) (by simp) (mE id hm))
    rw [lP e,lR e2] at h
    obtain ⟨q,hq,h⟩:=bind_some h
    rw [hq]
    simp only [Option.bind_some] at h ⊢
    split at h
    ·rename_i hc
     rw [if_pos hc]
     obtain ⟨p,hp,h⟩:=bind_some h
     obtain ⟨⟨xs,ls⟩,hs,h⟩:=bind_some h
     have hl:id ∉ ls:=fun hm=>e2 (nj hs id hm)
     rw [hp,hs]
     simp only [Option.bind_some,qK hl] at h ⊢; exact h
    ·cases h
   ·cases h
 | mkF=>exact h
 | fld off n=>cases n <;> exact h
 | ixs=>exact h
 | ext=>exact h
 | mm=>exact h
 | pan=>exact h
 | inil=>exact h
 | snil=>exact h
 | seq=>exact h
 | ta=>exact h
 | ixa n sz m=>cases m <;> exact h
 | ld n=>
   cases n with
   | none=>
     simp only [eval,ko] at h ⊢
     split at h
     ·rw [n5 (hne (List.mem_singleton.2 rfl) (by simp [zB]))] at h; exact h
     ·rw [vp (hne (List.mem_singleton.2 rfl) (by simp [zB]))] at h; exact h
     ·exact h
     ·cases h
   | some n=>
     simp only [eval,qL] at h ⊢
     split at h
     ·rw [n5 (hne (List.mem_singleton.2 rfl) (by simp [zB]))] at h; exact h
     ·rw [vp (hne (List.mem_singleton.2 rfl) (by simp [zB]))] at h; exact h
     ·exact h
     ·cases h
 | nilck=>
   simp only [eval] at h ⊢
   split at h
   ·rw [n5 (hne (List.mem_singleton.2 rfl) (by simp [zB]))] at h; exact h
   ·rw [lP (hne (List.mem_singleton.2 rfl) (by simp [zB]))] at h; exact h
   ·cases h
 | fa off=>
   simp only [eval,nJ] at h ⊢
   split at h
   ·rw [n5 (hne (List.mem_singleton.2 rfl) (by simp [zB]))] at h; exact h
   ·rw [vp (hne (List.mem_singleton.2 rfl) (by simp [zB]))] at h; exact h
   ·exact h
   ·rw [lP (hne (List.mem_singleton.2 rfl) (by simp [zB]))] at h; exact h
   ·cases h
 | ia s=>
   simp only [eval,kO] at h ⊢
   split at h
   ·exact h
   ·rw [vp (hne List.mem_cons_self (by simp [zB]))] at h; exact h
   ·cases h
 | iaa n s=>
   simp only [eval,iI] at h ⊢
   split at h
   ·rw [n5 (hne List.mem_cons_self (by simp [zB]))] at h; exact h
   ·rw [vp (hne List.mem_cons_self (by simp [zB]))] at h; exact h
   ·exact h
   ·cases h
 | len s=>
   simp only [eval,ku] at h ⊢
   split at h
   ·exact h
   ·exact h
   ·exact h
   ·rw [vp (hne (List.mem_singleton.2 rfl) (by simp [zB]))] at h; exact h
   ·cases h
 | cap=>
   simp only [eval,iG] at h ⊢
   split at h
   ·exact h
   ·rw [vp (hne (List.mem_singleton.2 rfl) (by simp [zB]))] at h; exact h
   ·cases h
 | slc st sz lo hi=>exact ce h hn
 | b2s=>
   simp only [eval] at h ⊢
   split at h
   ·rename_i a
    rw [eo (by intro hi; exact hn (by simpa [yi] using hi))] at h; exact h
   ·cases h
 | alloc cells=>
   simp only [eval] at h ⊢
   split at h
   ·split at h
    ·rename_i hc
     rw [if_pos hc]; exact dW h hu
    ·cases h
   ·cases h
 | box=>
   simp only [eval] at h ⊢
   split at h
   ·split at h
    ·rename_i hc
     rw [if_pos hc]; exact dW h hu
    ·cases h
   ·cases h
 | mkS e sz b z=>
   simp only [eval] at h ⊢
   split at h
   ·split at h
    ·rename_i hc
     rw [if_pos hc]; exact dW h hu
    ·cases h
   ·cases h
 | st n=>
   simp only [eval,dE] at h ⊢
   split at h
   ·rename_i i v o a
    have e:=hne (a:= .adr i v o) (i:=i) List.mem_cons_self (by simp [zB])
    rw [n5 e,zI _ _ e] at h; exact h
   ·rename_i i v o a
    have e:=hne (a:= .rad i v o) (i:=i) List.mem_cons_self (by simp [zB])
    have e2:id ∉ yi (cellsOf a):=fun hm=>hn (se (a:=a) (by simp) (mE id hm))
    rw [vp e,lR e2,zI _ _ e] at h
    obtain ⟨r,hr,h⟩:=bind_some h
    obtain ⟨⟨xs,ls⟩,hs,h⟩:=bind_some h
    have hl:id ∉ ls:=fun hm=>e2 (nj hs id hm)
    rw [hr]
    simp only [Option.bind_some]
    rw [hs]
    simp only [Option.bind_some] at h ⊢
    rw [qK hl] at h
    exact h
   ·cases h
 | bldS e size len parts=>
   simp only [eval] at h ⊢
   have e2:id ∉ yi (as.flatMap cellsOf):=fun hm=>hn (lC id hm)
   rw [lR e2] at h
   split at h
   ·rename_i hc
    rw [if_pos hc]
    obtain ⟨⟨xs,ls⟩,hs,h⟩:=bind_some h
    have hl:id ∉ ls:=fun hm=>e2 (nj hs id hm)
    rw [hs]
    simp only [Option.bind_some] at h ⊢
    unfold mk at h ⊢
    simp only [Option.some.injEq] at h
    subst h
    rw [qK hl]
    simp only [nv,qK hl,vS,List.map_append,List.map_cons,List.map_nil,List.mem_append,List.mem_singleton,not_or] at hu
    simp only [vS,zI _ _ (Ne.symm hu.2)]
   ·cases h
 | app e size b=>
   simp only [eval,kQ] at h ⊢
   split at h
   ·rename_i y
    have e2:id ∉ zB y:=fun hm=>hn (se (a:=y) (by simp) hm)
    rw [eo e2] at h
    obtain ⟨⟨z,ls⟩,hs,h⟩:=bind_some h
    rw [hs]
    simp only [Option.bind_some] at h ⊢
    obtain ⟨⟨m,xs⟩,hq,h⟩:=bind_some h
    rw [hq]
    simp only [Option.bind_some] at h ⊢
    split at h
    ·rename_i hc
     rw [if_pos hc]
     split at h
     ·rename_i hm; rw [if_pos hm]; exact h
     ·rename_i hm; rw [if_neg hm]; exact dW h hu
    ·cases h
   ·rename_i i v y
    have e1:=hne (a:= .row i v) (i:=i) List.mem_cons_self (by simp [zB])
    have e2:id ∉ zB y:=fun hm=>hn (se (a:=y) (by simp) hm)
    rw [vp e1,eo e2,zI _ _ e1] at h; exact h
   ·cases h
 | appZ e size b z=>
   simp only [eval,mF] at h ⊢
   split at h
   ·split at h
    ·rename_i hc
     rw [if_pos hc]
     split at h
     ·rename_i hm; rw [if_pos hm]; exact h
     ·rename_i hm; rw [if_neg hm]; exact dW h hu
    ·cases h
   ·rename_i i v k kk
    have e1:=hne (a:= .row i v) (i:=i) List.mem_cons_self (by simp [zB])
    rw [vp e1,zI _ _ e1] at h; exact h
   ·cases h
 | cut s=>
   simp only [eval,iF] at h ⊢
   split at h
   ·exact h
   ·rename_i i v k kk
    have e1:=hne (a:= .row i v) (i:=i) List.mem_cons_self (by simp [zB])
    rw [zI _ _ e1] at h
    split at h
    ·rename_i hl
     rw [if_pos hl]; exact ce h hn
    ·rename_i hl
     rw [if_neg hl]
     rw [vp e1] at h; exact h
   ·exact ce h hn
 | call f=>exact Zs h hn hu
 | dyn=>
   simp only [eval] at h ⊢
   split at h
   ·rename_i f r
    exact Zs h (fun hm=>hn (by simp only [yi,zB,List.nil_append]; exact hm)) hu
   ·cases h
end
theorem VS {ob:Nat→Ob} {a:A} {y:D} (h:yT ob a=some (y,[])) (ob':Nat→Ob):yT ob' a=some (y,[]):=by
 cases a with
 | row i v=>
   simp only [yT] at h
   split at h
   ·split at h
    ·simp at h
    ·cases h
   ·cases h
 | _=>exact h
theorem fX {ob:Nat→Ob}:∀ {as:List A} {ys:List D},yp ob as=some (ys,[])→∀ ob',yp ob' as=some (ys,[])
 | [],ys,h,ob'=>h
 | a :: as,ys,h,ob'=>by
   simp only [yp] at h ⊢
   obtain ⟨⟨y,l⟩,h1,h⟩:=bind_some h
   obtain ⟨⟨zs,l'⟩,h2,h⟩:=map_some h
   simp only [Prod.mk.injEq,List.append_eq_nil_iff] at h
   obtain ⟨rfl,rfl,rfl⟩:=h
   rw [VS h1 ob',fX h2 ob']
   rfl
theorem eF {Γ:Ctx} {ob ob':Nat→Ob} {d:Nat} {op:SOp} (hm:op.maker=true) {as:List A} {a:A} {i:Nat} {x:Ob} (h:eval Γ ob d op as=some (.val a [(i,x)]))
  (hv:(ob' (oid d 0)).ver=(ob (oid d 0)).ver):eval Γ ob' d op as=some (.val a [(i,x)])∧i=oid d 0∧x.ver=(ob (oid d 0)).ver+1:=by
 have hmk:∀ {o:O},mk ob d [] o=some (.val a [(i,x)])→mk ob' d [] o=some (.val a [(i,x)])∧i=oid d 0∧x.ver=(ob (oid d 0)).ver+1:=by
  intro o h
  unfold mk vS at h ⊢
  simp only [Option.some.injEq,Out.val.injEq,List.nil_append,List.cons.injEq,and_true,Prod.mk.injEq] at h
  obtain ⟨h1,h2,h3⟩:=h
  rw [hv]
  subst h2 h3
  exact ⟨by rw [h1]; rfl,rfl,rfl⟩
 cases op with
 | alloc cells=>
   simp only [eval] at h ⊢
   split at h
   ·split at h
    ·rename_i hc
     rw [if_pos hc]; exact hmk h
    ·cases h
   ·cases h
 | box=>
   simp only [eval] at h ⊢
   split at h
   ·split at h
    ·rename_i hc
     rw [if_pos hc]; exact hmk h
    ·cases h
   ·cases h
 | mkS e sz b z=>
   simp only [eval] at h ⊢
   split at h
   ·split at h
    ·rename_i hc
     rw [if_pos hc]; exact hmk h
    ·cases h
   ·cases h
 | bldS e size len parts=>
   simp only [eval] at h ⊢
   split at h
   ·rename_i hc
    rw [if_pos hc]
    obtain ⟨⟨xs,ls⟩,hs,h⟩:=bind_some h
    have hl:ls=[]:=by
     unfold mk at h
     simp only [Option.some.injEq,Out.val.injEq] at h
     have:=congrArg List.length h.2
     simp only [List.length_append,List.length_cons,List.length_nil,zo,List.length_map] at this
     exact List.eq_nil_of_length_eq_zero (by omega)
    subst hl
    rw [fX hs ob']
    exact hmk h
   ·cases h
 | _=>cases hm
end Go.Vm
