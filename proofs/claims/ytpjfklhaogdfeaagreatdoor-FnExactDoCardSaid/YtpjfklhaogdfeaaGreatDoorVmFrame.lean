/- What an operation looks at and changes: the objects that its arguments lead to, and its own. -/
import Derived.Test.YtpjfklhaogdfeaaGreatDoorVmDraw2
set_option linter.unusedVariables false
set_option linter.unusedSectionVars false
set_option linter.unusedSimpArgs false
namespace Go.Vm
variable [Gl]
section
variable {ob:Nat→Ob} {id:Nat} {x:Ob}
theorem oF {i v:Nat} (h:i ≠ id):xg (upd ob id x) i v=xg ob i v:=by unfold xg; rw [zx _ _ h]
theorem wz {i v:Nat} (h:i ≠ id):yW (upd ob id x) i v=yW ob i v:=by unfold yW; rw [zx _ _ h]
theorem mZ {i v:Nat} (h:i ≠ id):uy (upd ob id x) i v=uy ob i v:=by unfold uy; rw [zx _ _ h]
theorem tp {a:A} {as:List A} (h:a ∈ as) {i:Nat} (hi:i ∈ zu a):i ∈ zN as:=by
 induction as with
 | nil=>cases h
 | cons b as ih=>
   simp only [zN,List.mem_append]
   rcases List.mem_cons.1 h with rfl | h
   ·exact .inl hi
   ·exact .inr (ih h)
theorem hZ {a:A} (h:id ∉ zu a):yC (upd ob id x) a=yC ob a:=by
 cases a with
 | row i v=>
   have:i ≠ id:=by rintro rfl; exact h (by simp [zu])
   simp only [yC,zx _ _ this]
 | _=>rfl
theorem Sc {a:A} {y:D} {ls:List Nat} (h:yC ob a=some (y,ls)):∀ i ∈ ls,i ∈ zu a:=by
 cases a with
 | row i v=>
   simp only [yC] at h
   split at h
   ·split at h
    ·simp only [Option.some.injEq,Prod.mk.injEq] at h
     obtain ⟨_,rfl⟩:=h
     simp [zu]
    ·cases h
   ·cases h
 | d y=>simp only [yC,Option.some.injEq,Prod.mk.injEq] at h; obtain ⟨_,rfl⟩:=h; simp
 | nil=>simp only [yC,Option.some.injEq,Prod.mk.injEq] at h; obtain ⟨_,rfl⟩:=h; simp
 | _=>simp [yC] at h
theorem mB:∀ {as:List A},id ∉ zN as→zZ (upd ob id x) as=zZ ob as
 | [],_=>rfl
 | a :: as,h=>by
   simp only [zN,List.mem_append,not_or] at h
   simp only [zZ,hZ h.1,mB h.2]
theorem pQ:∀ {as:List A} {ys:List D} {ls:List Nat},zZ ob as=some (ys,ls)→∀ i ∈ ls,i ∈ zN as
 | [],ys,ls,h=>by simp only [zZ,Option.some.injEq,Prod.mk.injEq] at h; obtain ⟨_,rfl⟩:=h; simp
 | a :: as,ys,ls,h=>by
   simp only [zZ] at h
   obtain ⟨⟨y,l⟩,h1,h⟩:=bind_some h
   obtain ⟨⟨zs,l'⟩,h2,h⟩:=map_some h
   simp only [Prod.mk.injEq] at h
   obtain ⟨_,rfl⟩:=h
   intro i hi
   simp only [zN,List.mem_append]
   rcases List.mem_append.1 hi with hi | hi
   ·exact .inl (Sc h1 i hi)
   ·exact .inr (pQ h2 i hi)
theorem rA:∀ {ls:List Nat},id ∉ ls→zl (upd ob id x) ls=zl ob ls
 | [],_=>rfl
 | i :: ls,h=>by
   simp only [List.mem_cons,not_or] at h
   have:=rA (ls:=ls) h.2
   unfold zl at this ⊢
   simp only [List.map_cons,this,zx _ _ (Ne.symm h.1)]
theorem K8 {ls:List Nat}:(zl ob ls).map (·.1)=ls:=by unfold zl; rw [List.map_map]; exact List.map_id' ls
theorem o9 {a:A}:∀ i ∈ zN (cellsOf a),i ∈ zu a:=by
 intro i hi
 cases a <;> first | (simp only [cellsOf,zN,List.append_nil] at hi; exact hi) | (simp only [cellsOf] at hi; simp only [zu]; exact hi)
theorem refsDs_append {as bs:List A} {i:Nat}:i ∈ zN (as++bs) ↔ i ∈ zN as ∨ i ∈ zN bs:=by
 induction as with
 | nil=>simp [zN]
 | cons a as ih=>simp [zN,ih,or_assoc]
theorem mz:∀ {as:List A},∀ i ∈ zN (as.flatMap cellsOf),i ∈ zN as
 | [],i,h=>h
 | a :: as,i,h=>by
   rw [List.flatMap_cons] at h
   simp only [zN,List.mem_append]
   rcases refsDs_append.1 h with h | h
   ·exact .inl (o9 i h)
   ·exact .inr (mz i h)
mutual
theorem KH (m:Bool):∀ (a:A),id ∉ zu a→toX m (upd ob id x) a=toX m ob a
 | .row i v,h=>by
   have:i ≠ id:=by rintro rfl; exact h (by simp [zu])
   simp only [toX,zx _ _ this]
 | .adr i v o,h=>by
   have:i ≠ id:=by rintro rfl; exact h (by simp [zu])
   simp only [toX,zx _ _ this]
 | .agg cs,h=>by
   simp only [toX,d8 m cs (by simpa [zu] using h)]
 | .d _,_=>rfl
 | .nil,_=>rfl
 | .undef,_=>rfl
 | .rad ..,_=>rfl
 | .vw ..,_=>rfl
 | .cp _,_=>rfl
 | .tup _,_=>rfl
theorem d8 (m:Bool):∀ (as:List A),id ∉ zN as→wq m (upd ob id x) as=wq m ob as
 | [],_=>rfl
 | a :: as,h=>by
   simp only [zN,List.mem_append,not_or] at h
   simp only [wq,KH m a h.1,d8 m as h.2]
end
mutual
theorem Pg (m:Bool):∀ (a:A) {y:X} {ls ms:List Nat},toX m ob a=some (y,ls,ms)→∀ i ∈ ls++ms,i ∈ zu a
 | .row i v,y,ls,ms,h=>by
   simp only [toX] at h
   split at h
   ·split at h
    ·cases m with
     | false=>
       simp only [Bool.false_eq_true,if_false,Option.some.injEq,Prod.mk.injEq] at h
       obtain ⟨_,rfl,rfl⟩:=h
       simp [zu]
     | true=>
       simp only [if_true] at h
       split at h
       ·simp only [Option.some.injEq,Prod.mk.injEq] at h
        obtain ⟨_,rfl,rfl⟩:=h
        simp [zu]
       ·cases h
    ·cases h
   ·split at h
    ·simp only [Option.some.injEq,Prod.mk.injEq] at h
     obtain ⟨_,rfl,rfl⟩:=h
     simp [zu]
    ·cases h
   ·cases h
 | .adr i v o,y,ls,ms,h=>by
   simp only [toX] at h
   split at h
   ·split at h
    ·obtain ⟨_,_,h⟩:=map_some h
     simp only [Prod.mk.injEq] at h
     obtain ⟨_,rfl,rfl⟩:=h
     simp [zu]
    ·cases h
   ·cases h
 | .agg cs,y,ls,ms,h=>by
   simp only [toX] at h
   obtain ⟨⟨xs,l,k⟩,h1,h⟩:=map_some h
   simp only [Prod.mk.injEq] at h
   obtain ⟨_,rfl,rfl⟩:=h
   simp only [zu]
   exact j0 m cs h1
 | .d _,y,ls,ms,h=>by simp only [toX,Option.some.injEq,Prod.mk.injEq] at h; obtain ⟨_,rfl,rfl⟩:=h; simp
 | .nil,y,ls,ms,h=>by simp only [toX,Option.some.injEq,Prod.mk.injEq] at h; obtain ⟨_,rfl,rfl⟩:=h; simp
 | .undef,_,_,_,h=>by simp [toX] at h
 | .rad ..,_,_,_,h=>by simp [toX] at h
 | .cp _,_,_,_,h=>by simp [toX] at h
 | .tup _,_,_,_,h=>by simp [toX] at h
theorem j0 (m:Bool):∀ (as:List A) {ys:List X} {ls ms:List Nat},wq m ob as=some (ys,ls,ms)→∀ i ∈ ls++ms,i ∈ zN as
 | [],ys,ls,ms,h=>by simp only [wq,Option.some.injEq,Prod.mk.injEq] at h; obtain ⟨_,rfl,rfl⟩:=h; simp
 | a :: as,ys,ls,ms,h=>by
   simp only [wq] at h
   obtain ⟨⟨y,l,k⟩,h1,h⟩:=bind_some h
   obtain ⟨⟨zs,l',k'⟩,h2,h⟩:=map_some h
   simp only [Prod.mk.injEq] at h
   obtain ⟨_,rfl,rfl⟩:=h
   intro i hi
   simp only [zN,List.mem_append]
   have p:=Pg m a h1 i
   have q:=j0 m as h2 i
   simp only [List.mem_append] at hi p q
   rcases hi with (hi | hi) | (hi | hi)
   ·exact .inl (p (.inl hi))
   ·exact .inr (q (.inl hi))
   ·exact .inl (p (.inr hi))
   ·exact .inr (q (.inr hi))
end
mutual
theorem Rr (d:Nat):∀ (y:X) (j:Nat),id ∉ (ofX (upd ob id x) d y j).2.1.map (·.1)→ofX (upd ob id x) d y j=ofX ob d y j
 | .d _,_,_=>rfl
 | .par _,_,_=>rfl
 | .nil,_,_=>rfl
 | .own e s n c cells lk,j,h=>by
   simp only [ofX,List.map_cons,List.map_nil,List.mem_singleton] at h
   simp only [ofX,zx _ _ (Ne.symm h)]
 | .res k z,j,h=>by
   simp only [ofX,List.map_cons,List.map_nil,List.mem_singleton] at h
   simp only [ofX,zx _ _ (Ne.symm h)]
 | .box xs,j,h=>by
   simp only [ofX,List.map_append,List.mem_append,not_or,wU,List.map_cons,List.map_nil,List.mem_singleton] at h
   simp only [ofX,gc d xs (j+1) h.1,wU,zx _ _ (Ne.symm h.2)]
 | .agg xs,j,h=>by
   simp only [ofX] at h
   simp only [ofX,gc d xs j h]
 | .tup xs,j,h=>by
   simp only [ofX] at h
   simp only [ofX,gc d xs j h]
theorem gc (d:Nat):∀ (ys:List X) (j:Nat),id ∉ (yy (upd ob id x) d ys j).2.1.map (·.1)→yy (upd ob id x) d ys j=yy ob d ys j
 | [],_,_=>rfl
 | y :: ys,j,h=>by
   simp only [yy,List.map_append,List.mem_append,not_or] at h
   have e1:=Rr d y j h.1
   have e2:=gc d ys (ofX (upd ob id x) d y j).2.2 h.2
   simp only [yy,e1] at e2 ⊢
   rw [e2]
end
mutual
theorem Vy {ms:List Nat} (hm:id ∉ ms):∀ (y:X) (a:A),yB (upd ob id x) ms y a=yB ob ms y a
 | .par k,a=>by
   simp only [yB]
   cases h:ms[k]? with
   | none=>rfl
   | some i=>
     have:i ≠ id:=by rintro rfl; exact hm (List.mem_of_getElem? h)
     simp only [zx _ _ this]
 | .agg xs,.agg as=>by simp only [yB,fD hm xs as]
 | .tup xs,.tup as=>by simp only [yB,fD hm xs as]
 | .d _,a=>by cases a <;> rfl
 | .nil,a=>by cases a <;> rfl
 | .own ..,a=>by cases a <;> rfl
 | .box _,a=>by cases a <;> rfl
 | .res _ _,a=>by cases a <;> rfl
 | .agg xs,.undef=>rfl
 | .agg xs,.d _=>rfl
 | .agg xs,.nil=>rfl
 | .agg xs,.row .. =>rfl
 | .agg xs,.adr .. =>rfl
 | .agg xs,.rad .. =>rfl
 | .agg xs,.vw .. =>rfl
 | .agg xs,.cp _=>rfl
 | .agg xs,.tup _=>rfl
 | .tup xs,.undef=>rfl
 | .tup xs,.d _=>rfl
 | .tup xs,.nil=>rfl
 | .tup xs,.row .. =>rfl
 | .tup xs,.adr .. =>rfl
 | .tup xs,.rad .. =>rfl
 | .tup xs,.vw .. =>rfl
 | .tup xs,.cp _=>rfl
 | .tup xs,.agg _=>rfl
theorem fD {ms:List Nat} (hm:id ∉ ms):∀ (ys:List X) (as:List A),ti (upd ob id x) ms ys as=ti ob ms ys as
 | [],as=>by cases as <;> rfl
 | _ :: _,[]=>rfl
 | y :: ys,a :: as=>by simp only [ti,Vy hm y a,fD hm ys as]
end
theorem fy:∀ {ms:List Nat} {outs:List (List D)},id ∉ ms→yG (upd ob id x) ms outs=yG ob ms outs
 | [],[],_=>rfl
 | [],_ :: _,_=>rfl
 | _ :: _,[],_=>rfl
 | i :: ms,ds :: outs,h=>by
   simp only [List.mem_cons,not_or] at h
   simp only [yG,zx _ _ (Ne.symm h.1),fy h.2]
end
section
variable {ob:Nat→Ob} {id:Nat} {x:Ob}
theorem fe {d:Nat} {o:O} {out:Out} (h:mk (upd ob id x) d [] o=some out) (hu:id ∉ (pY out).map (·.1)):mk ob d [] o=some out:=by
 have hne:oid d 0 ≠ id:=by
  rintro rfl
  unfold mk at h
  simp only [Option.some.injEq] at h
  subst h
  exact hu (by simp [pY,wU])
 unfold mk wU at h ⊢
 rw [zx _ _ hne] at h
 exact h
theorem cu {Γ:Ctx} {d:Nat} {f:FuncId} {as:List A} {out:Out} (h:sY Γ (upd ob id x) d f as=some out) (hn:id ∉ zN as) (hu:id ∉ (pY out).map (·.1)):sY Γ ob d f as=some out:=by
 unfold sY at h ⊢
 rw [d8 _ as hn] at h
 obtain ⟨⟨xs,ls,ms⟩,hx,h⟩:=bind_some h
 have hids:=j0 _ as hx
 have hl:id ∉ ls:=fun hm=>hn (hids id (List.mem_append.2 (.inl hm)))
 have hm:id ∉ ms:=fun hm=>hn (hids id (List.mem_append.2 (.inr hm)))
 rw [hx]
 simp only [Option.bind_some] at h ⊢
 split at h
 ·rename_i hc
  rw [if_pos hc]
  obtain ⟨xo,hF,h⟩:=bind_some h
  rw [hF]
  simp only [Option.bind_some]
  cases xo with
  | ret y outs=>
    simp only [fy hm,rA hl] at h ⊢
    obtain ⟨bs,hb,h⟩:=map_some h
    rw [hb]
    subst h
    simp only [pY,List.map_append,List.mem_append,not_or] at hu
    have hbm:id ∉ bs.map (·.1):=by rw [eF hb]; exact hm
    have e:za (upd ob id x) bs=upd (za ob bs) id x:=ot bs ob hbm
    rw [e] at hu ⊢
    simp only [Option.map_some,Rr d y 0 hu.2.2,Vy hm]
  | pan y outs=>
    simp only [fy hm,rA hl] at h ⊢
    exact h
 ·cases h
theorem fR {st:Bool} {sz:Nat} {lo hi:Bool} {as:List A} {out:Out} (h:tk (upd ob id x) st sz lo hi as=some out) (hn:id ∉ zN as):tk ob st sz lo hi as=some out:=by
 have hne:∀ {a:A} {i:Nat},a ∈ as→i ∈ zu a→i ≠ id:=by
  rintro a i ha hi rfl
  exact hn (tp ha hi)
 simp only [tk] at h ⊢
 split at h
 ·exact h
 ·exact h
 ·rename_i i v bs
  have e:=hne (a:= .row i v) (i:=i) List.mem_cons_self (by simp [zu])
  rw [wz e,rA (by simpa using Ne.symm e)] at h; exact h
 ·cases h
theorem Ly {Γ:Ctx} {d:Nat} {op:SOp} {as:List A} {out:Out} (h:eval Γ (upd ob id x) d op as=some out) (hn:id ∉ zN as) (hu:id ∉ (pY out).map (·.1)):eval Γ ob d op as=some out:=by
 have hne:∀ {a:A} {i:Nat},a ∈ as→i ∈ zu a→i ≠ id:=by
  rintro a i ha hi rfl
  exact hn (tp ha hi)
 cases op with
 | mv=>exact h
 | pick=>exact h
 | bld=>exact h
 | bin=>exact h
 | beq=>exact h
 | neg=>exact h
 | not=>exact h
 | cvt=>exact h
 | shr=>exact h
 | s2b=>exact h
 | mkI t=>
   simp only [eval] at h ⊢
   split at h
   ·exact h
   ·rename_i cs
    have e2:id ∉ zN cs:=fun hm=>hn (tp (a:= .agg cs) (by simp) (by simpa [zu] using hm))
    rw [mB e2] at h
    obtain ⟨⟨xs,ls⟩,hs,h⟩:=bind_some h
    have hl:id ∉ ls:=fun hm=>e2 (pQ hs id hm)
    rw [hs]
    simp only [Option.bind_some,rA hl] at h ⊢; exact h
   ·cases h
 | mkR k=>
   simp only [eval] at h ⊢
   split at h <;> first | exact fe h hu | cases h
 | mget t kc n z wo=>
   simp only [eval,mt] at h ⊢
   split at h
   ·rw [mZ (hne List.mem_cons_self (by simp [zu]))] at h; exact h
   ·cases h
 | mlen=>
   simp only [eval,oL] at h ⊢
   split at h
   ·rw [mZ (hne List.mem_cons_self (by simp [zu]))] at h; exact h
   ·cases h
 | vws s=>
   simp only [eval,jj] at h ⊢
   split at h
   ·rw [wz (hne List.mem_cons_self (by simp [zu]))] at h; exact h
   ·cases h
 | clr z=>
   simp only [eval,jr] at h ⊢
   split at h
   ·rename_i i v lo sz
    have e:=hne (a:= .vw i v lo sz) (i:=i) List.mem_cons_self (by simp [zu])
    rw [wz e,zx _ _ e] at h; exact h
   ·cases h
 | mset t kc n=>
   simp only [eval,mi] at h ⊢
   split at h
   ·rename_i i v k a
    have e:=hne (a:= .row i v) (i:=i) List.mem_cons_self (by simp [zu])
    have e2:id ∉ zN (cellsOf a):=fun hm=>hn (tp (a:=a) (by simp) (o9 id hm))
    rw [mZ e,mB e2] at h
    obtain ⟨q,hq,h⟩:=bind_some h
    rw [hq]
    simp only [Option.bind_some] at h ⊢
    split at h
    ·rename_i hc
     rw [if_pos hc]
     obtain ⟨p,hp,h⟩:=bind_some h
     obtain ⟨⟨xs,ls⟩,hs,h⟩:=bind_some h
     have hl:id ∉ ls:=fun hm=>e2 (pQ hs id hm)
     rw [hp,hs]
     simp only [Option.bind_some,rA hl] at h ⊢; exact h
    ·cases h
   ·cases h
 | mkF=>exact h
 | fld off n=>cases n <;> exact h
 | ixs=>exact h
 | ext=>exact h
 | mm=>exact h
 | pan=>exact h
 | inil=>exact h
 | snil=>exact h
 | seq=>exact h
 | ta=>exact h
 | ixa n sz m=>cases m <;> exact h
 | ld n=>
   cases n with
   | none=>
     simp only [eval,lg] at h ⊢
     split at h
     ·rw [oF (hne (List.mem_singleton.2 rfl) (by simp [zu]))] at h; exact h
     ·rw [wz (hne (List.mem_singleton.2 rfl) (by simp [zu]))] at h; exact h
     ·exact h
     ·cases h
   | some n=>
     simp only [eval,rz] at h ⊢
     split at h
     ·rw [oF (hne (List.mem_singleton.2 rfl) (by simp [zu]))] at h; exact h
     ·rw [wz (hne (List.mem_singleton.2 rfl) (by simp [zu]))] at h; exact h
     ·exact h
     ·cases h
 | nilck=>
   simp only [eval] at h ⊢
   split at h
   ·rw [oF (hne (List.mem_singleton.2 rfl) (by simp [zu]))] at h; exact h
   ·rw [mZ (hne (List.mem_singleton.2 rfl) (by simp [zu]))] at h; exact h
   ·cases h
 | fa off=>
   simp only [eval,pT] at h ⊢
   split at h
   ·rw [oF (hne (List.mem_singleton.2 rfl) (by simp [zu]))] at h; exact h
   ·rw [wz (hne (List.mem_singleton.2 rfl) (by simp [zu]))] at h; exact h
   ·exact h
   ·rw [mZ (hne (List.mem_singleton.2 rfl) (by simp [zu]))] at h; exact h
   ·cases h
 | ia s=>
   simp only [eval,lA] at h ⊢
   split at h
   ·exact h
   ·rw [wz (hne List.mem_cons_self (by simp [zu]))] at h; exact h
   ·cases h
 | iaa n s=>
   simp only [eval,jd] at h ⊢
   split at h
   ·rw [oF (hne List.mem_cons_self (by simp [zu]))] at h; exact h
   ·rw [wz (hne List.mem_cons_self (by simp [zu]))] at h; exact h
   ·exact h
   ·cases h
 | len s=>
   simp only [eval,lc] at h ⊢
   split at h
   ·exact h
   ·exact h
   ·exact h
   ·rw [wz (hne (List.mem_singleton.2 rfl) (by simp [zu]))] at h; exact h
   ·cases h
 | cap=>
   simp only [eval,jl] at h ⊢
   split at h
   ·exact h
   ·rw [wz (hne (List.mem_singleton.2 rfl) (by simp [zu]))] at h; exact h
   ·cases h
 | slc st sz lo hi=>exact fR h hn
 | b2s=>
   simp only [eval] at h ⊢
   split at h
   ·rename_i a
    rw [hZ (by intro hi; exact hn (by simpa [zN] using hi))] at h; exact h
   ·cases h
 | alloc cells=>
   simp only [eval] at h ⊢
   split at h
   ·split at h
    ·rename_i hc
     rw [if_pos hc]; exact fe h hu
    ·cases h
   ·cases h
 | box=>
   simp only [eval] at h ⊢
   split at h
   ·split at h
    ·rename_i hc
     rw [if_pos hc]; exact fe h hu
    ·cases h
   ·cases h
 | mkS e sz b z=>
   simp only [eval] at h ⊢
   split at h
   ·split at h
    ·rename_i hc
     rw [if_pos hc]; exact fe h hu
    ·cases h
   ·cases h
 | st n=>
   simp only [eval,fx] at h ⊢
   split at h
   ·rename_i i v o a
    have e:=hne (a:= .adr i v o) (i:=i) List.mem_cons_self (by simp [zu])
    rw [oF e,zx _ _ e] at h; exact h
   ·rename_i i v o a
    have e:=hne (a:= .rad i v o) (i:=i) List.mem_cons_self (by simp [zu])
    have e2:id ∉ zN (cellsOf a):=fun hm=>hn (tp (a:=a) (by simp) (o9 id hm))
    rw [wz e,mB e2,zx _ _ e] at h
    obtain ⟨r,hr,h⟩:=bind_some h
    obtain ⟨⟨xs,ls⟩,hs,h⟩:=bind_some h
    have hl:id ∉ ls:=fun hm=>e2 (pQ hs id hm)
    rw [hr]
    simp only [Option.bind_some]
    rw [hs]
    simp only [Option.bind_some] at h ⊢
    rw [rA hl] at h
    exact h
   ·cases h
 | bldS e size len parts=>
   simp only [eval] at h ⊢
   have e2:id ∉ zN (as.flatMap cellsOf):=fun hm=>hn (mz id hm)
   rw [mB e2] at h
   split at h
   ·rename_i hc
    rw [if_pos hc]
    obtain ⟨⟨xs,ls⟩,hs,h⟩:=bind_some h
    have hl:id ∉ ls:=fun hm=>e2 (pQ hs id hm)
    rw [hs]
    simp only [Option.bind_some] at h ⊢
    unfold mk at h ⊢
    simp only [Option.some.injEq] at h
    subst h
    rw [rA hl]
    simp only [pY,rA hl,wU,List.map_append,List.map_cons,List.map_nil,List.mem_append,List.mem_singleton,not_or] at hu
    simp only [wU,zx _ _ (Ne.symm hu.2)]
   ·cases h
 | app e size b=>
   simp only [eval,lL] at h ⊢
   split at h
   ·rename_i y
    have e2:id ∉ zu y:=fun hm=>hn (tp (a:=y) (by simp) hm)
    rw [hZ e2] at h
    obtain ⟨⟨z,ls⟩,hs,h⟩:=bind_some h
    rw [hs]
    simp only [Option.bind_some] at h ⊢
    obtain ⟨⟨m,xs⟩,hq,h⟩:=bind_some h
    rw [hq]
    simp only [Option.bind_some] at h ⊢
    split at h
    ·rename_i hc
     rw [if_pos hc]
     split at h
     ·rename_i hm; rw [if_pos hm]; exact h
     ·rename_i hm; rw [if_neg hm]; exact fe h hu
    ·cases h
   ·rename_i i v y
    have e1:=hne (a:= .row i v) (i:=i) List.mem_cons_self (by simp [zu])
    have e2:id ∉ zu y:=fun hm=>hn (tp (a:=y) (by simp) hm)
    rw [wz e1,hZ e2,zx _ _ e1] at h; exact h
   ·cases h
 | appZ e size b z=>
   simp only [eval,ng] at h ⊢
   split at h
   ·split at h
    ·rename_i hc
     rw [if_pos hc]
     split at h
     ·rename_i hm; rw [if_pos hm]; exact h
     ·rename_i hm; rw [if_neg hm]; exact fe h hu
    ·cases h
   ·rename_i i v k kk
    have e1:=hne (a:= .row i v) (i:=i) List.mem_cons_self (by simp [zu])
    rw [wz e1,zx _ _ e1] at h; exact h
   ·cases h
 | cut s=>
   simp only [eval,ji] at h ⊢
   split at h
   ·exact h
   ·rename_i i v k kk
    have e1:=hne (a:= .row i v) (i:=i) List.mem_cons_self (by simp [zu])
    rw [zx _ _ e1] at h
    split at h
    ·rename_i hl
     rw [if_pos hl]; exact fR h hn
    ·rename_i hl
     rw [if_neg hl]
     rw [wz e1] at h; exact h
   ·exact fR h hn
 | call f=>exact cu h hn hu
 | dyn=>
   simp only [eval] at h ⊢
   split at h
   ·rename_i f r
    exact cu h (fun hm=>hn (by simp only [zN,zu,List.nil_append]; exact hm)) hu
   ·cases h
end
theorem WS {ob:Nat→Ob} {a:A} {y:D} (h:yC ob a=some (y,[])) (ob':Nat→Ob):yC ob' a=some (y,[]):=by
 cases a with
 | row i v=>
   simp only [yC] at h
   split at h
   ·split at h
    ·simp at h
    ·cases h
   ·cases h
 | _=>exact h
theorem gR {ob:Nat→Ob}:∀ {as:List A} {ys:List D},zZ ob as=some (ys,[])→∀ ob',zZ ob' as=some (ys,[])
 | [],ys,h,ob'=>h
 | a :: as,ys,h,ob'=>by
   simp only [zZ] at h ⊢
   obtain ⟨⟨y,l⟩,h1,h⟩:=bind_some h
   obtain ⟨⟨zs,l'⟩,h2,h⟩:=map_some h
   simp only [Prod.mk.injEq,List.append_eq_nil_iff] at h
   obtain ⟨rfl,rfl,rfl⟩:=h
   rw [WS h1 ob',gR h2 ob']
   rfl
theorem iS {Γ:Ctx} {ob ob':Nat→Ob} {d:Nat} {op:SOp} (hm:op.maker=true) {as:List A} {a:A} {i:Nat} {x:Ob} (h:eval Γ ob d op as=some (.val a [(i,x)]))
  (hv:(ob' (oid d 0)).ver=(ob (oid d 0)).ver):eval Γ ob' d op as=some (.val a [(i,x)])∧i=oid d 0∧x.ver=(ob (oid d 0)).ver+1:=by
 have hmk:∀ {o:O},mk ob d [] o=some (.val a [(i,x)])→mk ob' d [] o=some (.val a [(i,x)])∧i=oid d 0∧x.ver=(ob (oid d 0)).ver+1:=by
  intro o h
  unfold mk wU at h ⊢
  simp only [Option.some.injEq,Out.val.injEq,List.nil_append,List.cons.injEq,and_true,Prod.mk.injEq] at h
  obtain ⟨h1,h2,h3⟩:=h
  rw [hv]
  subst h2 h3
  exact ⟨by rw [h1]; rfl,rfl,rfl⟩
 cases op with
 | alloc cells=>
   simp only [eval] at h ⊢
   split at h
   ·split at h
    ·rename_i hc
     rw [if_pos hc]; exact hmk h
    ·cases h
   ·cases h
 | box=>
   simp only [eval] at h ⊢
   split at h
   ·split at h
    ·rename_i hc
     rw [if_pos hc]; exact hmk h
    ·cases h
   ·cases h
 | mkS e sz b z=>
   simp only [eval] at h ⊢
   split at h
   ·split at h
    ·rename_i hc
     rw [if_pos hc]; exact hmk h
    ·cases h
   ·cases h
 | bldS e size len parts=>
   simp only [eval] at h ⊢
   split at h
   ·rename_i hc
    rw [if_pos hc]
    obtain ⟨⟨xs,ls⟩,hs,h⟩:=bind_some h
    have hl:ls=[]:=by
     unfold mk at h
     simp only [Option.some.injEq,Out.val.injEq] at h
     have:=congrArg List.length h.2
     simp only [List.length_append,List.length_cons,List.length_nil,zl,List.length_map] at this
     exact List.eq_nil_of_length_eq_zero (by omega)
    subst hl
    rw [gR hs ob']
    exact hmk h
   ·cases h
 | _=>cases hm
end Go.Vm
