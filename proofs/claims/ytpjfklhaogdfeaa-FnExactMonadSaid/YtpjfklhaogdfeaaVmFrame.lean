/- What an operation looks at and changes: the objects that its arguments lead to, and its own. -/
import Derived.Test.YtpjfklhaogdfeaaVmDraw2
set_option linter.unusedVariables false
set_option linter.unusedSectionVars false
set_option linter.unusedSimpArgs false
namespace Go.Vm
variable [Gl]
section
variable {ob:Nat→Ob} {id:Nat} {x:Ob}
theorem ll {i v:Nat} (h:i ≠ id):wa (upd ob id x) i v=wa ob i v:=by unfold wa; rw [zS _ _ h]
theorem vX {i v:Nat} (h:i ≠ id):xL (upd ob id x) i v=xL ob i v:=by unfold xL; rw [zS _ _ h]
theorem jl {i v:Nat} (h:i ≠ id):t6 (upd ob id x) i v=t6 ob i v:=by unfold t6; rw [zS _ _ h]
theorem rJ {a:A} {as:List A} (h:a ∈ as) {i:Nat} (hi:i ∈ zK a):i ∈ yx as:=by
 induction as with
 | nil=>cases h
 | cons b as ih=>
   simp only [yx,List.mem_append]
   rcases List.mem_cons.1 h with rfl | h
   ·exact .inl hi
   ·exact .inr (ih h)
theorem cU {a:A} (h:id ∉ zK a):yX (upd ob id x) a=yX ob a:=by
 cases a with
 | row i v=>
   have:i ≠ id:=by rintro rfl; exact h (by simp [zK])
   simp only [yX,zS _ _ this]
 | _=>rfl
theorem R3 {a:A} {y:D} {ls:List Nat} (h:yX ob a=some (y,ls)):∀ i ∈ ls,i ∈ zK a:=by
 cases a with
 | row i v=>
   simp only [yX] at h
   split at h
   ·split at h
    ·simp only [Option.some.injEq,Prod.mk.injEq] at h
     obtain ⟨_,rfl⟩:=h
     simp [zK]
    ·cases h
   ·cases h
 | d y=>simp only [yX,Option.some.injEq,Prod.mk.injEq] at h; obtain ⟨_,rfl⟩:=h; simp
 | nil=>simp only [yX,Option.some.injEq,Prod.mk.injEq] at h; obtain ⟨_,rfl⟩:=h; simp
 | _=>simp [yX] at h
theorem jf:∀ {as:List A},id ∉ yx as→yH (upd ob id x) as=yH ob as
 | [],_=>rfl
 | a :: as,h=>by
   simp only [yx,List.mem_append,not_or] at h
   simp only [yH,cU h.1,jf h.2]
theorem mC:∀ {as:List A} {ys:List D} {ls:List Nat},yH ob as=some (ys,ls)→∀ i ∈ ls,i ∈ yx as
 | [],ys,ls,h=>by simp only [yH,Option.some.injEq,Prod.mk.injEq] at h; obtain ⟨_,rfl⟩:=h; simp
 | a :: as,ys,ls,h=>by
   simp only [yH] at h
   obtain ⟨⟨y,l⟩,h1,h⟩:=bind_some h
   obtain ⟨⟨zs,l'⟩,h2,h⟩:=map_some h
   simp only [Prod.mk.injEq] at h
   obtain ⟨_,rfl⟩:=h
   intro i hi
   simp only [yx,List.mem_append]
   rcases List.mem_append.1 hi with hi | hi
   ·exact .inl (R3 h1 i hi)
   ·exact .inr (mC h2 i hi)
theorem oa:∀ {ls:List Nat},id ∉ ls→zt (upd ob id x) ls=zt ob ls
 | [],_=>rfl
 | i :: ls,h=>by
   simp only [List.mem_cons,not_or] at h
   have:=oa (ls:=ls) h.2
   unfold zt at this ⊢
   simp only [List.map_cons,this,zS _ _ (Ne.symm h.1)]
theorem Ga {ls:List Nat}:(zt ob ls).map (·.1)=ls:=by unfold zt; rw [List.map_map]; exact List.map_id' ls
theorem ly {a:A}:∀ i ∈ yx (cellsOf a),i ∈ zK a:=by
 intro i hi
 cases a <;> first | (simp only [cellsOf,yx,List.append_nil] at hi; exact hi) | (simp only [cellsOf] at hi; simp only [zK]; exact hi)
theorem refsDs_append {as bs:List A} {i:Nat}:i ∈ yx (as++bs) ↔ i ∈ yx as ∨ i ∈ yx bs:=by
 induction as with
 | nil=>simp [yx]
 | cons a as ih=>simp [yx,ih,or_assoc]
theorem jx:∀ {as:List A},∀ i ∈ yx (as.flatMap cellsOf),i ∈ yx as
 | [],i,h=>h
 | a :: as,i,h=>by
   rw [List.flatMap_cons] at h
   simp only [yx,List.mem_append]
   rcases refsDs_append.1 h with h | h
   ·exact .inl (ly i h)
   ·exact .inr (jx i h)
mutual
theorem He (m:Bool):∀ (a:A),id ∉ zK a→toX m (upd ob id x) a=toX m ob a
 | .row i v,h=>by
   have:i ≠ id:=by rintro rfl; exact h (by simp [zK])
   simp only [toX,zS _ _ this]
 | .adr i v o,h=>by
   have:i ≠ id:=by rintro rfl; exact h (by simp [zK])
   simp only [toX,zS _ _ this]
 | .agg cs,h=>by
   simp only [toX,YN m cs (by simpa [zK] using h)]
 | .d _,_=>rfl
 | .nil,_=>rfl
 | .undef,_=>rfl
 | .rad ..,_=>rfl
 | .vw ..,_=>rfl
 | .cp _,_=>rfl
 | .tup _,_=>rfl
theorem YN (m:Bool):∀ (as:List A),id ∉ yx as→vO m (upd ob id x) as=vO m ob as
 | [],_=>rfl
 | a :: as,h=>by
   simp only [yx,List.mem_append,not_or] at h
   simp only [vO,He m a h.1,YN m as h.2]
end
mutual
theorem Nh (m:Bool):∀ (a:A) {y:X} {ls ms:List Nat},toX m ob a=some (y,ls,ms)→∀ i ∈ ls++ms,i ∈ zK a
 | .row i v,y,ls,ms,h=>by
   simp only [toX] at h
   split at h
   ·split at h
    ·cases m with
     | false=>
       simp only [Bool.false_eq_true,if_false,Option.some.injEq,Prod.mk.injEq] at h
       obtain ⟨_,rfl,rfl⟩:=h
       simp [zK]
     | true=>
       simp only [if_true] at h
       split at h
       ·simp only [Option.some.injEq,Prod.mk.injEq] at h
        obtain ⟨_,rfl,rfl⟩:=h
        simp [zK]
       ·cases h
    ·cases h
   ·split at h
    ·simp only [Option.some.injEq,Prod.mk.injEq] at h
     obtain ⟨_,rfl,rfl⟩:=h
     simp [zK]
    ·cases h
   ·cases h
 | .adr i v o,y,ls,ms,h=>by
   simp only [toX] at h
   split at h
   ·split at h
    ·obtain ⟨_,_,h⟩:=map_some h
     simp only [Prod.mk.injEq] at h
     obtain ⟨_,rfl,rfl⟩:=h
     simp [zK]
    ·cases h
   ·cases h
 | .agg cs,y,ls,ms,h=>by
   simp only [toX] at h
   obtain ⟨⟨xs,l,k⟩,h1,h⟩:=map_some h
   simp only [Prod.mk.injEq] at h
   obtain ⟨_,rfl,rfl⟩:=h
   simp only [zK]
   exact eW m cs h1
 | .d _,y,ls,ms,h=>by simp only [toX,Option.some.injEq,Prod.mk.injEq] at h; obtain ⟨_,rfl,rfl⟩:=h; simp
 | .nil,y,ls,ms,h=>by simp only [toX,Option.some.injEq,Prod.mk.injEq] at h; obtain ⟨_,rfl,rfl⟩:=h; simp
 | .undef,_,_,_,h=>by simp [toX] at h
 | .rad ..,_,_,_,h=>by simp [toX] at h
 | .cp _,_,_,_,h=>by simp [toX] at h
 | .tup _,_,_,_,h=>by simp [toX] at h
theorem eW (m:Bool):∀ (as:List A) {ys:List X} {ls ms:List Nat},vO m ob as=some (ys,ls,ms)→∀ i ∈ ls++ms,i ∈ yx as
 | [],ys,ls,ms,h=>by simp only [vO,Option.some.injEq,Prod.mk.injEq] at h; obtain ⟨_,rfl,rfl⟩:=h; simp
 | a :: as,ys,ls,ms,h=>by
   simp only [vO] at h
   obtain ⟨⟨y,l,k⟩,h1,h⟩:=bind_some h
   obtain ⟨⟨zs,l',k'⟩,h2,h⟩:=map_some h
   simp only [Prod.mk.injEq] at h
   obtain ⟨_,rfl,rfl⟩:=h
   intro i hi
   simp only [yx,List.mem_append]
   have p:=Nh m a h1 i
   have q:=eW m as h2 i
   simp only [List.mem_append] at hi p q
   rcases hi with (hi | hi) | (hi | hi)
   ·exact .inl (p (.inl hi))
   ·exact .inr (q (.inl hi))
   ·exact .inl (p (.inr hi))
   ·exact .inr (q (.inr hi))
end
mutual
theorem OO (d:Nat):∀ (y:X) (j:Nat),id ∉ (ofX (upd ob id x) d y j).2.1.map (·.1)→ofX (upd ob id x) d y j=ofX ob d y j
 | .d _,_,_=>rfl
 | .par _,_,_=>rfl
 | .nil,_,_=>rfl
 | .own e s n c cells lk,j,h=>by
   simp only [ofX,List.map_cons,List.map_nil,List.mem_singleton] at h
   simp only [ofX,zS _ _ (Ne.symm h)]
 | .res k z,j,h=>by
   simp only [ofX,List.map_cons,List.map_nil,List.mem_singleton] at h
   simp only [ofX,zS _ _ (Ne.symm h)]
 | .box xs,j,h=>by
   simp only [ofX,List.map_append,List.mem_append,not_or,ul,List.map_cons,List.map_nil,List.mem_singleton] at h
   simp only [ofX,dT d xs (j+1) h.1,ul,zS _ _ (Ne.symm h.2)]
 | .agg xs,j,h=>by
   simp only [ofX] at h
   simp only [ofX,dT d xs j h]
 | .tup xs,j,h=>by
   simp only [ofX] at h
   simp only [ofX,dT d xs j h]
theorem dT (d:Nat):∀ (ys:List X) (j:Nat),id ∉ (yU (upd ob id x) d ys j).2.1.map (·.1)→yU (upd ob id x) d ys j=yU ob d ys j
 | [],_,_=>rfl
 | y :: ys,j,h=>by
   simp only [yU,List.map_append,List.mem_append,not_or] at h
   have e1:=OO d y j h.1
   have e2:=dT d ys (ofX (upd ob id x) d y j).2.2 h.2
   simp only [yU,e1] at e2 ⊢
   rw [e2]
end
mutual
theorem Tz {ms:List Nat} (hm:id ∉ ms):∀ (y:X) (a:A),yY (upd ob id x) ms y a=yY ob ms y a
 | .par k,a=>by
   simp only [yY]
   cases h:ms[k]? with
   | none=>rfl
   | some i=>
     have:i ≠ id:=by rintro rfl; exact hm (List.mem_of_getElem? h)
     simp only [zS _ _ this]
 | .agg xs,.agg as=>by simp only [yY,aA hm xs as]
 | .tup xs,.tup as=>by simp only [yY,aA hm xs as]
 | .d _,a=>by cases a <;> rfl
 | .nil,a=>by cases a <;> rfl
 | .own ..,a=>by cases a <;> rfl
 | .box _,a=>by cases a <;> rfl
 | .res _ _,a=>by cases a <;> rfl
 | .agg xs,.undef=>rfl
 | .agg xs,.d _=>rfl
 | .agg xs,.nil=>rfl
 | .agg xs,.row .. =>rfl
 | .agg xs,.adr .. =>rfl
 | .agg xs,.rad .. =>rfl
 | .agg xs,.vw .. =>rfl
 | .agg xs,.cp _=>rfl
 | .agg xs,.tup _=>rfl
 | .tup xs,.undef=>rfl
 | .tup xs,.d _=>rfl
 | .tup xs,.nil=>rfl
 | .tup xs,.row .. =>rfl
 | .tup xs,.adr .. =>rfl
 | .tup xs,.rad .. =>rfl
 | .tup xs,.vw .. =>rfl
 | .tup xs,.cp _=>rfl
 | .tup xs,.agg _=>rfl
theorem aA {ms:List Nat} (hm:id ∉ ms):∀ (ys:List X) (as:List A),rq (upd ob id x) ms ys as=rq ob ms ys as
 | [],as=>by cases as <;> rfl
 | _ :: _,[]=>rfl
 | y :: ys,a :: as=>by simp only [rq,Tz hm y a,aA hm ys as]
end
theorem bu:∀ {ms:List Nat} {outs:List (List D)},id ∉ ms→xe (upd ob id x) ms outs=xe ob ms outs
 | [],[],_=>rfl
 | [],_ :: _,_=>rfl
 | _ :: _,[],_=>rfl
 | i :: ms,ds :: outs,h=>by
   simp only [List.mem_cons,not_or] at h
   simp only [xe,zS _ _ (Ne.symm h.1),bu h.2]
end
section
variable {ob:Nat→Ob} {id:Nat} {x:Ob}
theorem b8 {d:Nat} {o:O} {out:Out} (h:mk (upd ob id x) d [] o=some out) (hu:id ∉ (mU out).map (·.1)):mk ob d [] o=some out:=by
 have hne:oid d 0 ≠ id:=by
  rintro rfl
  unfold mk at h
  simp only [Option.some.injEq] at h
  subst h
  exact hu (by simp [mU,ul])
 unfold mk ul at h ⊢
 rw [zS _ _ hne] at h
 exact h
theorem Y7 {Γ:Ctx} {d:Nat} {f:FuncId} {as:List A} {out:Out} (h:pq Γ (upd ob id x) d f as=some out) (hn:id ∉ yx as) (hu:id ∉ (mU out).map (·.1)):pq Γ ob d f as=some out:=by
 unfold pq at h ⊢
 rw [YN _ as hn] at h
 obtain ⟨⟨xs,ls,ms⟩,hx,h⟩:=bind_some h
 have hids:=eW _ as hx
 have hl:id ∉ ls:=fun hm=>hn (hids id (List.mem_append.2 (.inl hm)))
 have hm:id ∉ ms:=fun hm=>hn (hids id (List.mem_append.2 (.inr hm)))
 rw [hx]
 simp only [Option.bind_some] at h ⊢
 split at h
 ·rename_i hc
  rw [if_pos hc]
  obtain ⟨xo,hF,h⟩:=bind_some h
  rw [hF]
  simp only [Option.bind_some]
  cases xo with
  | ret y outs=>
    simp only [bu hm,oa hl] at h ⊢
    obtain ⟨bs,hb,h⟩:=map_some h
    rw [hb]
    subst h
    simp only [mU,List.map_append,List.mem_append,not_or] at hu
    have hbm:id ∉ bs.map (·.1):=by rw [aE hb]; exact hm
    have e:zh (upd ob id x) bs=upd (zh ob bs) id x:=m6 bs ob hbm
    rw [e] at hu ⊢
    simp only [Option.map_some,OO d y 0 hu.2.2,Tz hm]
  | pan y outs=>
    simp only [bu hm,oa hl] at h ⊢
    exact h
 ·cases h
theorem ak {st:Bool} {sz:Nat} {lo hi:Bool} {as:List A} {out:Out} (h:ry (upd ob id x) st sz lo hi as=some out) (hn:id ∉ yx as):ry ob st sz lo hi as=some out:=by
 have hne:∀ {a:A} {i:Nat},a ∈ as→i ∈ zK a→i ≠ id:=by
  rintro a i ha hi rfl
  exact hn (rJ ha hi)
 simp only [ry] at h ⊢
 split at h
 ·exact h
 ·exact h
 ·rename_i i v bs
  have e:=hne (a:= .row i v) (i:=i) List.mem_cons_self (by simp [zK])
  rw [vX e,oa (by simpa using Ne.symm e)] at h; exact h
 ·cases h
theorem Iu {Γ:Ctx} {d:Nat} {op:SOp} {as:List A} {out:Out} (h:eval Γ (upd ob id x) d op as=some out) (hn:id ∉ yx as) (hu:id ∉ (mU out).map (·.1)):eval Γ ob d op as=some out:=by
 have hne:∀ {a:A} {i:Nat},a ∈ as→i ∈ zK a→i ≠ id:=by
  rintro a i ha hi rfl
  exact hn (rJ ha hi)
 cases op with
 | mv=>exact h
 | pick=>exact h
 | bld=>exact h
 | bin=>exact h
 | beq=>exact h
 | neg=>exact h
 | not=>exact h
 | cvt=>exact h
 | shr=>exact h
 | s2b=>exact h
 | mkI t=>
   simp only [eval] at h ⊢
   split at h
   ·exact h
   ·rename_i cs
    have e2:id ∉ yx cs:=fun hm=>hn (rJ (a:= .agg cs) (by simp) (by simpa [zK] using hm))
    rw [jf e2] at h
    obtain ⟨⟨xs,ls⟩,hs,h⟩:=bind_some h
    have hl:id ∉ ls:=fun hm=>e2 (mC hs id hm)
    rw [hs]
    simp only [Option.bind_some,oa hl] at h ⊢; exact h
   ·cases h
 | mkR k=>
   simp only [eval] at h ⊢
   split at h <;> first | exact b8 h hu | cases h
 | mget t kc n z wo=>
   simp only [eval,jG] at h ⊢
   split at h
   ·rw [jl (hne List.mem_cons_self (by simp [zK]))] at h; exact h
   ·cases h
 | mlen=>
   simp only [eval,lR] at h ⊢
   split at h
   ·rw [jl (hne List.mem_cons_self (by simp [zK]))] at h; exact h
   ·cases h
 | vws s=>
   simp only [eval,fV] at h ⊢
   split at h
   ·rw [vX (hne List.mem_cons_self (by simp [zK]))] at h; exact h
   ·cases h
 | clr z=>
   simp only [eval,fQ] at h ⊢
   split at h
   ·rename_i i v lo sz
    have e:=hne (a:= .vw i v lo sz) (i:=i) List.mem_cons_self (by simp [zK])
    rw [vX e,zS _ _ e] at h; exact h
   ·cases h
 | mset t kc n=>
   simp only [eval,kV] at h ⊢
   split at h
   ·rename_i i v k a
    have e:=hne (a:= .row i v) (i:=i) List.mem_cons_self (by simp [zK])
    have e2:id ∉ yx (cellsOf a):=fun hm=>hn (rJ (a:=a) (by simp) (ly id hm))
    rw [jl e,jf e2] at h
    obtain ⟨q,hq,h⟩:=bind_some h
    rw [hq]
    simp only [Option.bind_some] at h ⊢
    split at h
    ·rename_i hc
     rw [if_pos hc]
     obtain ⟨p,hp,h⟩:=bind_some h
     obtain ⟨⟨xs,ls⟩,hs,h⟩:=bind_some h
     have hl:id ∉ ls:=fun hm=>e2 (mC hs id hm)
     rw [hp,hs]
     simp only [Option.bind_some,oa hl] at h ⊢; exact h
    ·cases h
   ·cases h
 | mkF=>exact h
 | fld off n=>cases n <;> exact h
 | ixs=>exact h
 | ext=>exact h
 | mm=>exact h
 | pan=>exact h
 | inil=>exact h
 | snil=>exact h
 | seq=>exact h
 | ta=>exact h
 | ixa n sz m=>cases m <;> exact h
 | ld n=>
   cases n with
   | none=>
     simp only [eval,jZ] at h ⊢
     split at h
     ·rw [ll (hne (List.mem_singleton.2 rfl) (by simp [zK]))] at h; exact h
     ·rw [vX (hne (List.mem_singleton.2 rfl) (by simp [zK]))] at h; exact h
     ·exact h
     ·cases h
   | some n=>
     simp only [eval,pQ] at h ⊢
     split at h
     ·rw [ll (hne (List.mem_singleton.2 rfl) (by simp [zK]))] at h; exact h
     ·rw [vX (hne (List.mem_singleton.2 rfl) (by simp [zK]))] at h; exact h
     ·exact h
     ·cases h
 | nilck=>
   simp only [eval] at h ⊢
   split at h
   ·rw [ll (hne (List.mem_singleton.2 rfl) (by simp [zK]))] at h; exact h
   ·rw [jl (hne (List.mem_singleton.2 rfl) (by simp [zK]))] at h; exact h
   ·cases h
 | fa off=>
   simp only [eval,mT] at h ⊢
   split at h
   ·rw [ll (hne (List.mem_singleton.2 rfl) (by simp [zK]))] at h; exact h
   ·rw [vX (hne (List.mem_singleton.2 rfl) (by simp [zK]))] at h; exact h
   ·exact h
   ·rw [jl (hne (List.mem_singleton.2 rfl) (by simp [zK]))] at h; exact h
   ·cases h
 | ia s=>
   simp only [eval,jR] at h ⊢
   split at h
   ·exact h
   ·rw [vX (hne List.mem_cons_self (by simp [zK]))] at h; exact h
   ·cases h
 | iaa n s=>
   simp only [eval,fI] at h ⊢
   split at h
   ·rw [ll (hne List.mem_cons_self (by simp [zK]))] at h; exact h
   ·rw [vX (hne List.mem_cons_self (by simp [zK]))] at h; exact h
   ·exact h
   ·cases h
 | len s=>
   simp only [eval,ic] at h ⊢
   split at h
   ·exact h
   ·exact h
   ·exact h
   ·rw [vX (hne (List.mem_singleton.2 rfl) (by simp [zK]))] at h; exact h
   ·cases h
 | cap=>
   simp only [eval,fN] at h ⊢
   split at h
   ·exact h
   ·rw [vX (hne (List.mem_singleton.2 rfl) (by simp [zK]))] at h; exact h
   ·cases h
 | slc st sz lo hi=>exact ak h hn
 | b2s=>
   simp only [eval] at h ⊢
   split at h
   ·rename_i a
    rw [cU (by intro hi; exact hn (by simpa [yx] using hi))] at h; exact h
   ·cases h
 | alloc cells=>
   simp only [eval] at h ⊢
   split at h
   ·split at h
    ·rename_i hc
     rw [if_pos hc]; exact b8 h hu
    ·cases h
   ·cases h
 | box=>
   simp only [eval] at h ⊢
   split at h
   ·split at h
    ·rename_i hc
     rw [if_pos hc]; exact b8 h hu
    ·cases h
   ·cases h
 | mkS e sz b z=>
   simp only [eval] at h ⊢
   split at h
   ·split at h
    ·rename_i hc
     rw [if_pos hc]; exact b8 h hu
    ·cases h
   ·cases h
 | st n=>
   simp only [eval,ab] at h ⊢
   split at h
   ·rename_i i v o a
    have e:=hne (a:= .adr i v o) (i:=i) List.mem_cons_self (by simp [zK])
    rw [ll e,zS _ _ e] at h; exact h
   ·rename_i i v o a
    have e:=hne (a:= .rad i v o) (i:=i) List.mem_cons_self (by simp [zK])
    have e2:id ∉ yx (cellsOf a):=fun hm=>hn (rJ (a:=a) (by simp) (ly id hm))
    rw [vX e,jf e2,zS _ _ e] at h
    obtain ⟨r,hr,h⟩:=bind_some h
    obtain ⟨⟨xs,ls⟩,hs,h⟩:=bind_some h
    have hl:id ∉ ls:=fun hm=>e2 (mC hs id hm)
    rw [hr]
    simp only [Option.bind_some]
    rw [hs]
    simp only [Option.bind_some] at h ⊢
    rw [oa hl] at h
    exact h
   ·cases h
 | bldS e size len parts=>
   simp only [eval] at h ⊢
   have e2:id ∉ yx (as.flatMap cellsOf):=fun hm=>hn (jx id hm)
   rw [jf e2] at h
   split at h
   ·rename_i hc
    rw [if_pos hc]
    obtain ⟨⟨xs,ls⟩,hs,h⟩:=bind_some h
    have hl:id ∉ ls:=fun hm=>e2 (mC hs id hm)
    rw [hs]
    simp only [Option.bind_some] at h ⊢
    unfold mk at h ⊢
    simp only [Option.some.injEq] at h
    subst h
    rw [oa hl]
    simp only [mU,oa hl,ul,List.map_append,List.map_cons,List.map_nil,List.mem_append,List.mem_singleton,not_or] at hu
    simp only [ul,zS _ _ (Ne.symm hu.2)]
   ·cases h
 | app e size b=>
   simp only [eval,j7] at h ⊢
   split at h
   ·rename_i y
    have e2:id ∉ zK y:=fun hm=>hn (rJ (a:=y) (by simp) hm)
    rw [cU e2] at h
    obtain ⟨⟨z,ls⟩,hs,h⟩:=bind_some h
    rw [hs]
    simp only [Option.bind_some] at h ⊢
    obtain ⟨⟨m,xs⟩,hq,h⟩:=bind_some h
    rw [hq]
    simp only [Option.bind_some] at h ⊢
    split at h
    ·rename_i hc
     rw [if_pos hc]
     split at h
     ·rename_i hm; rw [if_pos hm]; exact h
     ·rename_i hm; rw [if_neg hm]; exact b8 h hu
    ·cases h
   ·rename_i i v y
    have e1:=hne (a:= .row i v) (i:=i) List.mem_cons_self (by simp [zK])
    have e2:id ∉ zK y:=fun hm=>hn (rJ (a:=y) (by simp) hm)
    rw [vX e1,cU e2,zS _ _ e1] at h; exact h
   ·cases h
 | appZ e size b z=>
   simp only [eval,lW] at h ⊢
   split at h
   ·split at h
    ·rename_i hc
     rw [if_pos hc]
     split at h
     ·rename_i hm; rw [if_pos hm]; exact h
     ·rename_i hm; rw [if_neg hm]; exact b8 h hu
    ·cases h
   ·rename_i i v k kk
    have e1:=hne (a:= .row i v) (i:=i) List.mem_cons_self (by simp [zK])
    rw [vX e1,zS _ _ e1] at h; exact h
   ·cases h
 | cut s=>
   simp only [eval,fJ] at h ⊢
   split at h
   ·exact h
   ·rename_i i v k kk
    have e1:=hne (a:= .row i v) (i:=i) List.mem_cons_self (by simp [zK])
    rw [zS _ _ e1] at h
    split at h
    ·rename_i hl
     rw [if_pos hl]; exact ak h hn
    ·rename_i hl
     rw [if_neg hl]
     rw [vX e1] at h; exact h
   ·exact ak h hn
 | call f=>exact Y7 h hn hu
 | dyn=>
   simp only [eval] at h ⊢
   split at h
   ·rename_i f r
    exact Y7 h (fun hm=>hn (by simp only [yx,zK,List.nil_append]; exact hm)) hu
   ·cases h
end
theorem SL {ob:Nat→Ob} {a:A} {y:D} (h:yX ob a=some (y,[])) (ob':Nat→Ob):yX ob' a=some (y,[]):=by
 cases a with
 | row i v=>
   simp only [yX] at h
   split at h
   ·split at h
    ·simp at h
    ·cases h
   ·cases h
 | _=>exact h
theorem cD {ob:Nat→Ob}:∀ {as:List A} {ys:List D},yH ob as=some (ys,[])→∀ ob',yH ob' as=some (ys,[])
 | [],ys,h,ob'=>h
 | a :: as,ys,h,ob'=>by
   simp only [yH] at h ⊢
   obtain ⟨⟨y,l⟩,h1,h⟩:=bind_some h
   obtain ⟨⟨zs,l'⟩,h2,h⟩:=map_some h
   simp only [Prod.mk.injEq,List.append_eq_nil_iff] at h
   obtain ⟨rfl,rfl,rfl⟩:=h
   rw [SL h1 ob',cD h2 ob']
   rfl
theorem d7 {Γ:Ctx} {ob ob':Nat→Ob} {d:Nat} {op:SOp} (hm:op.maker=true) {as:List A} {a:A} {i:Nat} {x:Ob} (h:eval Γ ob d op as=some (.val a [(i,x)]))
  (hv:(ob' (oid d 0)).ver=(ob (oid d 0)).ver):eval Γ ob' d op as=some (.val a [(i,x)])∧i=oid d 0∧x.ver=(ob (oid d 0)).ver+1:=by
 have hmk:∀ {o:O},mk ob d [] o=some (.val a [(i,x)])→mk ob' d [] o=some (.val a [(i,x)])∧i=oid d 0∧x.ver=(ob (oid d 0)).ver+1:=by
  intro o h
  unfold mk ul at h ⊢
  simp only [Option.some.injEq,Out.val.injEq,List.nil_append,List.cons.injEq,and_true,Prod.mk.injEq] at h
  obtain ⟨h1,h2,h3⟩:=h
  rw [hv]
  subst h2 h3
  exact ⟨by rw [h1]; rfl,rfl,rfl⟩
 cases op with
 | alloc cells=>
   simp only [eval] at h ⊢
   split at h
   ·split at h
    ·rename_i hc
     rw [if_pos hc]; exact hmk h
    ·cases h
   ·cases h
 | box=>
   simp only [eval] at h ⊢
   split at h
   ·split at h
    ·rename_i hc
     rw [if_pos hc]; exact hmk h
    ·cases h
   ·cases h
 | mkS e sz b z=>
   simp only [eval] at h ⊢
   split at h
   ·split at h
    ·rename_i hc
     rw [if_pos hc]; exact hmk h
    ·cases h
   ·cases h
 | bldS e size len parts=>
   simp only [eval] at h ⊢
   split at h
   ·rename_i hc
    rw [if_pos hc]
    obtain ⟨⟨xs,ls⟩,hs,h⟩:=bind_some h
    have hl:ls=[]:=by
     unfold mk at h
     simp only [Option.some.injEq,Out.val.injEq] at h
     have:=congrArg List.length h.2
     simp only [List.length_append,List.length_cons,List.length_nil,zt,List.length_map] at this
     exact List.eq_nil_of_length_eq_zero (by omega)
    subst hl
    rw [cD hs ob']
    exact hmk h
   ·cases h
 | _=>cases hm
end Go.Vm
