/- What an operation looks at and changes: the objects that its arguments lead to, and its own. -/
import Derived.Test.YtpjfklhaogdfeaaDoorVmDraw2
set_option linter.unusedVariables false
set_option linter.unusedSectionVars false
set_option linter.unusedSimpArgs false
namespace Go.Vm
variable [Gl]
section
variable {ob:Nat→Ob} {id:Nat} {x:Ob}
theorem pN {i v:Nat} (h:i ≠ id):xk (upd ob id x) i v=xk ob i v:=by unfold xk; rw [zp _ _ h]
theorem wS {i v:Nat} (h:i ≠ id):yX (upd ob id x) i v=yX ob i v:=by unfold yX; rw [zp _ _ h]
theorem nI {i v:Nat} (h:i ≠ id):uv (upd ob id x) i v=uv ob i v:=by unfold uv; rw [zp _ _ h]
theorem th {a:A} {as:List A} (h:a ∈ as) {i:Nat} (hi:i ∈ zm a):i ∈ zG as:=by
 induction as with
 | nil=>cases h
 | cons b as ih=>
   simp only [zG,List.mem_append]
   rcases List.mem_cons.1 h with rfl | h
   ·exact .inl hi
   ·exact .inr (ih h)
theorem j1 {a:A} (h:id ∉ zm a):yk (upd ob id x) a=yk ob a:=by
 cases a with
 | row i v=>
   have:i ≠ id:=by rintro rfl; exact h (by simp [zm])
   simp only [yk,zp _ _ this]
 | _=>rfl
theorem WC {a:A} {y:D} {ls:List Nat} (h:yk ob a=some (y,ls)):∀ i ∈ ls,i ∈ zm a:=by
 cases a with
 | row i v=>
   simp only [yk] at h
   split at h
   ·split at h
    ·simp only [Option.some.injEq,Prod.mk.injEq] at h
     obtain ⟨_,rfl⟩:=h
     simp [zm]
    ·cases h
   ·cases h
 | d y=>simp only [yk,Option.some.injEq,Prod.mk.injEq] at h; obtain ⟨_,rfl⟩:=h; simp
 | nil=>simp only [yk,Option.some.injEq,Prod.mk.injEq] at h; obtain ⟨_,rfl⟩:=h; simp
 | _=>simp [yk] at h
theorem nh:∀ {as:List A},id ∉ zG as→zR (upd ob id x) as=zR ob as
 | [],_=>rfl
 | a :: as,h=>by
   simp only [zG,List.mem_append,not_or] at h
   simp only [zR,j1 h.1,nh h.2]
theorem q9:∀ {as:List A} {ys:List D} {ls:List Nat},zR ob as=some (ys,ls)→∀ i ∈ ls,i ∈ zG as
 | [],ys,ls,h=>by simp only [zR,Option.some.injEq,Prod.mk.injEq] at h; obtain ⟨_,rfl⟩:=h; simp
 | a :: as,ys,ls,h=>by
   simp only [zR] at h
   obtain ⟨⟨y,l⟩,h1,h⟩:=bind_some h
   obtain ⟨⟨zs,l'⟩,h2,h⟩:=map_some h
   simp only [Prod.mk.injEq] at h
   obtain ⟨_,rfl⟩:=h
   intro i hi
   simp only [zG,List.mem_append]
   rcases List.mem_append.1 hi with hi | hi
   ·exact .inl (WC h1 i hi)
   ·exact .inr (q9 h2 i hi)
theorem sU:∀ {ls:List Nat},id ∉ ls→zg (upd ob id x) ls=zg ob ls
 | [],_=>rfl
 | i :: ls,h=>by
   simp only [List.mem_cons,not_or] at h
   have:=sU (ls:=ls) h.2
   unfold zg at this ⊢
   simp only [List.map_cons,this,zp _ _ (Ne.symm h.1)]
theorem Mr {ls:List Nat}:(zg ob ls).map (·.1)=ls:=by unfold zg; rw [List.map_map]; exact List.map_id' ls
theorem ox {a:A}:∀ i ∈ zG (cellsOf a),i ∈ zm a:=by
 intro i hi
 cases a <;> first | (simp only [cellsOf,zG,List.append_nil] at hi; exact hi) | (simp only [cellsOf] at hi; simp only [zm]; exact hi)
theorem refsDs_append {as bs:List A} {i:Nat}:i ∈ zG (as++bs) ↔ i ∈ zG as ∨ i ∈ zG bs:=by
 induction as with
 | nil=>simp [zG]
 | cons a as ih=>simp [zG,ih,or_assoc]
theorem nL:∀ {as:List A},∀ i ∈ zG (as.flatMap cellsOf),i ∈ zG as
 | [],i,h=>h
 | a :: as,i,h=>by
   rw [List.flatMap_cons] at h
   simp only [zG,List.mem_append]
   rcases refsDs_append.1 h with h | h
   ·exact .inl (ox i h)
   ·exact .inr (nL i h)
mutual
theorem Mh (m:Bool):∀ (a:A),id ∉ zm a→toX m (upd ob id x) a=toX m ob a
 | .row i v,h=>by
   have:i ≠ id:=by rintro rfl; exact h (by simp [zm])
   simp only [toX,zp _ _ this]
 | .adr i v o,h=>by
   have:i ≠ id:=by rintro rfl; exact h (by simp [zm])
   simp only [toX,zp _ _ this]
 | .agg cs,h=>by
   simp only [toX,eF m cs (by simpa [zm] using h)]
 | .d _,_=>rfl
 | .nil,_=>rfl
 | .undef,_=>rfl
 | .rad ..,_=>rfl
 | .vw ..,_=>rfl
 | .cp _,_=>rfl
 | .tup _,_=>rfl
theorem eF (m:Bool):∀ (as:List A),id ∉ zG as→wO m (upd ob id x) as=wO m ob as
 | [],_=>rfl
 | a :: as,h=>by
   simp only [zG,List.mem_append,not_or] at h
   simp only [wO,Mh m a h.1,eF m as h.2]
end
mutual
theorem Sw (m:Bool):∀ (a:A) {y:X} {ls ms:List Nat},toX m ob a=some (y,ls,ms)→∀ i ∈ ls++ms,i ∈ zm a
 | .row i v,y,ls,ms,h=>by
   simp only [toX] at h
   split at h
   ·split at h
    ·cases m with
     | false=>
       simp only [Bool.false_eq_true,if_false,Option.some.injEq,Prod.mk.injEq] at h
       obtain ⟨_,rfl,rfl⟩:=h
       simp [zm]
     | true=>
       simp only [if_true] at h
       split at h
       ·simp only [Option.some.injEq,Prod.mk.injEq] at h
        obtain ⟨_,rfl,rfl⟩:=h
        simp [zm]
       ·cases h
    ·cases h
   ·split at h
    ·simp only [Option.some.injEq,Prod.mk.injEq] at h
     obtain ⟨_,rfl,rfl⟩:=h
     simp [zm]
    ·cases h
   ·cases h
 | .adr i v o,y,ls,ms,h=>by
   simp only [toX] at h
   split at h
   ·split at h
    ·obtain ⟨_,_,h⟩:=map_some h
     simp only [Prod.mk.injEq] at h
     obtain ⟨_,rfl,rfl⟩:=h
     simp [zm]
    ·cases h
   ·cases h
 | .agg cs,y,ls,ms,h=>by
   simp only [toX] at h
   obtain ⟨⟨xs,l,k⟩,h1,h⟩:=map_some h
   simp only [Prod.mk.injEq] at h
   obtain ⟨_,rfl,rfl⟩:=h
   simp only [zm]
   exact jB m cs h1
 | .d _,y,ls,ms,h=>by simp only [toX,Option.some.injEq,Prod.mk.injEq] at h; obtain ⟨_,rfl,rfl⟩:=h; simp
 | .nil,y,ls,ms,h=>by simp only [toX,Option.some.injEq,Prod.mk.injEq] at h; obtain ⟨_,rfl,rfl⟩:=h; simp
 | .undef,_,_,_,h=>by simp [toX] at h
 | .rad ..,_,_,_,h=>by simp [toX] at h
 | .cp _,_,_,_,h=>by simp [toX] at h
 | .tup _,_,_,_,h=>by simp [toX] at h
theorem jB (m:Bool):∀ (as:List A) {ys:List X} {ls ms:List Nat},wO m ob as=some (ys,ls,ms)→∀ i ∈ ls++ms,i ∈ zG as
 | [],ys,ls,ms,h=>by simp only [wO,Option.some.injEq,Prod.mk.injEq] at h; obtain ⟨_,rfl,rfl⟩:=h; simp
 | a :: as,ys,ls,ms,h=>by
   simp only [wO] at h
   obtain ⟨⟨y,l,k⟩,h1,h⟩:=bind_some h
   obtain ⟨⟨zs,l',k'⟩,h2,h⟩:=map_some h
   simp only [Prod.mk.injEq] at h
   obtain ⟨_,rfl,rfl⟩:=h
   intro i hi
   simp only [zG,List.mem_append]
   have p:=Sw m a h1 i
   have q:=jB m as h2 i
   simp only [List.mem_append] at hi p q
   rcases hi with (hi | hi) | (hi | hi)
   ·exact .inl (p (.inl hi))
   ·exact .inr (q (.inl hi))
   ·exact .inl (p (.inr hi))
   ·exact .inr (q (.inr hi))
end
mutual
theorem Tz (d:Nat):∀ (y:X) (j:Nat),id ∉ (ofX (upd ob id x) d y j).2.1.map (·.1)→ofX (upd ob id x) d y j=ofX ob d y j
 | .d _,_,_=>rfl
 | .par _,_,_=>rfl
 | .nil,_,_=>rfl
 | .own e s n c cells lk,j,h=>by
   simp only [ofX,List.map_cons,List.map_nil,List.mem_singleton] at h
   simp only [ofX,zp _ _ (Ne.symm h)]
 | .res k z,j,h=>by
   simp only [ofX,List.map_cons,List.map_nil,List.mem_singleton] at h
   simp only [ofX,zp _ _ (Ne.symm h)]
 | .box xs,j,h=>by
   simp only [ofX,List.map_append,List.mem_append,not_or,vr,List.map_cons,List.map_nil,List.mem_singleton] at h
   simp only [ofX,j9 d xs (j+1) h.1,vr,zp _ _ (Ne.symm h.2)]
 | .agg xs,j,h=>by
   simp only [ofX] at h
   simp only [ofX,j9 d xs j h]
 | .tup xs,j,h=>by
   simp only [ofX] at h
   simp only [ofX,j9 d xs j h]
theorem j9 (d:Nat):∀ (ys:List X) (j:Nat),id ∉ (yh (upd ob id x) d ys j).2.1.map (·.1)→yh (upd ob id x) d ys j=yh ob d ys j
 | [],_,_=>rfl
 | y :: ys,j,h=>by
   simp only [yh,List.map_append,List.mem_append,not_or] at h
   have e1:=Tz d y j h.1
   have e2:=j9 d ys (ofX (upd ob id x) d y j).2.2 h.2
   simp only [yh,e1] at e2 ⊢
   rw [e2]
end
mutual
theorem Yb {ms:List Nat} (hm:id ∉ ms):∀ (y:X) (a:A),yi (upd ob id x) ms y a=yi ob ms y a
 | .par k,a=>by
   simp only [yi]
   cases h:ms[k]? with
   | none=>rfl
   | some i=>
     have:i ≠ id:=by rintro rfl; exact hm (List.mem_of_getElem? h)
     simp only [zp _ _ this]
 | .agg xs,.agg as=>by simp only [yi,gm hm xs as]
 | .tup xs,.tup as=>by simp only [yi,gm hm xs as]
 | .d _,a=>by cases a <;> rfl
 | .nil,a=>by cases a <;> rfl
 | .own ..,a=>by cases a <;> rfl
 | .box _,a=>by cases a <;> rfl
 | .res _ _,a=>by cases a <;> rfl
 | .agg xs,.undef=>rfl
 | .agg xs,.d _=>rfl
 | .agg xs,.nil=>rfl
 | .agg xs,.row .. =>rfl
 | .agg xs,.adr .. =>rfl
 | .agg xs,.rad .. =>rfl
 | .agg xs,.vw .. =>rfl
 | .agg xs,.cp _=>rfl
 | .agg xs,.tup _=>rfl
 | .tup xs,.undef=>rfl
 | .tup xs,.d _=>rfl
 | .tup xs,.nil=>rfl
 | .tup xs,.row .. =>rfl
 | .tup xs,.adr .. =>rfl
 | .tup xs,.rad .. =>rfl
 | .tup xs,.vw .. =>rfl
 | .tup xs,.cp _=>rfl
 | .tup xs,.agg _=>rfl
theorem gm {ms:List Nat} (hm:id ∉ ms):∀ (ys:List X) (as:List A),tm (upd ob id x) ms ys as=tm ob ms ys as
 | [],as=>by cases as <;> rfl
 | _ :: _,[]=>rfl
 | y :: ys,a :: as=>by simp only [tm,Yb hm y a,gm hm ys as]
end
theorem gA:∀ {ms:List Nat} {outs:List (List D)},id ∉ ms→yq (upd ob id x) ms outs=yq ob ms outs
 | [],[],_=>rfl
 | [],_ :: _,_=>rfl
 | _ :: _,[],_=>rfl
 | i :: ms,ds :: outs,h=>by
   simp only [List.mem_cons,not_or] at h
   simp only [yq,zp _ _ (Ne.symm h.1),gA h.2]
end
section
variable {ob:Nat→Ob} {id:Nat} {x:Ob}
theorem gJ {d:Nat} {o:O} {out:Out} (h:mk (upd ob id x) d [] o=some out) (hu:id ∉ (pi out).map (·.1)):mk ob d [] o=some out:=by
 have hne:oid d 0 ≠ id:=by
  rintro rfl
  unfold mk at h
  simp only [Option.some.injEq] at h
  subst h
  exact hu (by simp [pi,vr])
 unfold mk vr at h ⊢
 rw [zp _ _ hne] at h
 exact h
theorem eC {Γ:Ctx} {d:Nat} {f:FuncId} {as:List A} {out:Out} (h:sP Γ (upd ob id x) d f as=some out) (hn:id ∉ zG as) (hu:id ∉ (pi out).map (·.1)):sP Γ ob d f as=some out:=by
 unfold sP at h ⊢
 rw [eF _ as hn] at h
 obtain ⟨⟨xs,ls,ms⟩,hx,h⟩:=bind_some h
 have hids:=jB _ as hx
 have hl:id ∉ ls:=fun hm=>hn (hids id (List.mem_append.2 (.inl hm)))
 have hm:id ∉ ms:=fun hm=>hn (hids id (List.mem_append.2 (.inr hm)))
 rw [hx]
 simp only [Option.bind_some] at h ⊢
 split at h
 ·rename_i hc
  rw [if_pos hc]
  obtain ⟨xo,hF,h⟩:=bind_some h
  rw [hF]
  simp only [Option.bind_some]
  cases xo with
  | ret y outs=>
    simp only [gA hm,sU hl] at h ⊢
    obtain ⟨bs,hb,h⟩:=map_some h
    rw [hb]
    subst h
    simp only [pi,List.map_append,List.mem_append,not_or] at hu
    have hbm:id ∉ bs.map (·.1):=by rw [fy hb]; exact hm
    have e:za (upd ob id x) bs=upd (za ob bs) id x:=pz bs ob hbm
    rw [e] at hu ⊢
    simp only [Option.map_some,Tz d y 0 hu.2.2,Yb hm]
  | pan y outs=>
    simp only [gA hm,sU hl] at h ⊢
    exact h
 ·cases h
theorem gy {st:Bool} {sz:Nat} {lo hi:Bool} {as:List A} {out:Out} (h:tv (upd ob id x) st sz lo hi as=some out) (hn:id ∉ zG as):tv ob st sz lo hi as=some out:=by
 have hne:∀ {a:A} {i:Nat},a ∈ as→i ∈ zm a→i ≠ id:=by
  rintro a i ha hi rfl
  exact hn (th ha hi)
 simp only [tv] at h ⊢
 split at h
 ·exact h
 ·exact h
 ·rename_i i v bs
  have e:=hne (a:= .row i v) (i:=i) List.mem_cons_self (by simp [zm])
  rw [wS e,sU (by simpa using Ne.symm e)] at h; exact h
 ·cases h
theorem PF {Γ:Ctx} {d:Nat} {op:SOp} {as:List A} {out:Out} (h:eval Γ (upd ob id x) d op as=some out) (hn:id ∉ zG as) (hu:id ∉ (pi out).map (·.1)):eval Γ ob d op as=some out:=by
 have hne:∀ {a:A} {i:Nat},a ∈ as→i ∈ zm a→i ≠ id:=by
  rintro a i ha hi rfl
  exact hn (th ha hi)
 cases op with
 | mv=>exact h
 | pick=>exact h
 | bld=>exact h
 | bin=>exact h
 | beq=>exact h
 | neg=>exact h
 | not=>exact h
 | cvt=>exact h
 | shr=>exact h
 | s2b=>exact h
 | mkI t=>
   simp only [eval] at h ⊢
   split at h
   ·exact h
   ·rename_i cs
    have e2:id ∉ zG cs:=fun hm=>hn (th (a:= .agg cs) (by simp) (by simpa [zm] using hm))
    rw [nh e2] at h
    obtain ⟨⟨xs,ls⟩,hs,h⟩:=bind_some h
    have hl:id ∉ ls:=fun hm=>e2 (q9 hs id hm)
    rw [hs]
    simp only [Option.bind_some,sU hl] at h ⊢; exact h
   ·cases h
 | mkR k=>
   simp only [eval] at h ⊢
   split at h <;> first | exact gJ h hu | cases h
 | mget t kc n z wo=>
   simp only [eval,nO] at h ⊢
   split at h
   ·rw [nI (hne List.mem_cons_self (by simp [zm]))] at h; exact h
   ·cases h
 | mlen=>
   simp only [eval,pV] at h ⊢
   split at h
   ·rw [nI (hne List.mem_cons_self (by simp [zm]))] at h; exact h
   ·cases h
 | vws s=>
   simp only [eval,kf] at h ⊢
   split at h
   ·rw [wS (hne List.mem_cons_self (by simp [zm]))] at h; exact h
   ·cases h
 | clr z=>
   simp only [eval,kp] at h ⊢
   split at h
   ·rename_i i v lo sz
    have e:=hne (a:= .vw i v lo sz) (i:=i) List.mem_cons_self (by simp [zm])
    rw [wS e,zp _ _ e] at h; exact h
   ·cases h
 | mset t kc n=>
   simp only [eval,nF] at h ⊢
   split at h
   ·rename_i i v k a
    have e:=hne (a:= .row i v) (i:=i) List.mem_cons_self (by simp [zm])
    have e2:id ∉ zG (cellsOf a):=fun hm=>hn (th (a:=a) (by simp) (ox id hm))
    rw [nI e,nh e2] at h
    obtain ⟨q,hq,h⟩:=bind_some h
    rw [hq]
    simp only [Option.bind_some] at h ⊢
    split at h
    ·rename_i hc
     rw [if_pos hc]
     obtain ⟨p,hp,h⟩:=bind_some h
     obtain ⟨⟨xs,ls⟩,hs,h⟩:=bind_some h
     have hl:id ∉ ls:=fun hm=>e2 (q9 hs id hm)
     rw [hp,hs]
     simp only [Option.bind_some,sU hl] at h ⊢; exact h
    ·cases h
   ·cases h
 | mkF=>exact h
 | fld off n=>cases n <;> exact h
 | ixs=>exact h
 | ext=>exact h
 | mm=>exact h
 | pan=>exact h
 | inil=>exact h
 | snil=>exact h
 | seq=>exact h
 | ta=>exact h
 | ixa n sz m=>cases m <;> exact h
 | ld n=>
   cases n with
   | none=>
     simp only [eval,mj] at h ⊢
     split at h
     ·rw [pN (hne (List.mem_singleton.2 rfl) (by simp [zm]))] at h; exact h
     ·rw [wS (hne (List.mem_singleton.2 rfl) (by simp [zm]))] at h; exact h
     ·exact h
     ·cases h
   | some n=>
     simp only [eval,s5] at h ⊢
     split at h
     ·rw [pN (hne (List.mem_singleton.2 rfl) (by simp [zm]))] at h; exact h
     ·rw [wS (hne (List.mem_singleton.2 rfl) (by simp [zm]))] at h; exact h
     ·exact h
     ·cases h
 | nilck=>
   simp only [eval] at h ⊢
   split at h
   ·rw [pN (hne (List.mem_singleton.2 rfl) (by simp [zm]))] at h; exact h
   ·rw [nI (hne (List.mem_singleton.2 rfl) (by simp [zm]))] at h; exact h
   ·cases h
 | fa off=>
   simp only [eval,pk] at h ⊢
   split at h
   ·rw [pN (hne (List.mem_singleton.2 rfl) (by simp [zm]))] at h; exact h
   ·rw [wS (hne (List.mem_singleton.2 rfl) (by simp [zm]))] at h; exact h
   ·exact h
   ·rw [nI (hne (List.mem_singleton.2 rfl) (by simp [zm]))] at h; exact h
   ·cases h
 | ia s=>
   simp only [eval,mi] at h ⊢
   split at h
   ·exact h
   ·rw [wS (hne List.mem_cons_self (by simp [zm]))] at h; exact h
   ·cases h
 | iaa n s=>
   simp only [eval,kl] at h ⊢
   split at h
   ·rw [pN (hne List.mem_cons_self (by simp [zm]))] at h; exact h
   ·rw [wS (hne List.mem_cons_self (by simp [zm]))] at h; exact h
   ·exact h
   ·cases h
 | len s=>
   simp only [eval,n7] at h ⊢
   split at h
   ·exact h
   ·exact h
   ·exact h
   ·rw [wS (hne (List.mem_singleton.2 rfl) (by simp [zm]))] at h; exact h
   ·cases h
 | cap=>
   simp only [eval,kd] at h ⊢
   split at h
   ·exact h
   ·rw [wS (hne (List.mem_singleton.2 rfl) (by simp [zm]))] at h; exact h
   ·cases h
 | slc st sz lo hi=>exact gy h hn
 | b2s=>
   simp only [eval] at h ⊢
   split at h
   ·rename_i a
    rw [j1 (by intro hi; exact hn (by simpa [zG] using hi))] at h; exact h
   ·cases h
 | alloc cells=>
   simp only [eval] at h ⊢
   split at h
   ·split at h
    ·rename_i hc
     rw [if_pos hc]; exact gJ h hu
    ·cases h
   ·cases h
 | box=>
   simp only [eval] at h ⊢
   split at h
   ·split at h
    ·rename_i hc
     rw [if_pos hc]; exact gJ h hu
    ·cases h
   ·cases h
 | mkS e sz b z=>
   simp only [eval] at h ⊢
   split at h
   ·split at h
    ·rename_i hc
     rw [if_pos hc]; exact gJ h hu
    ·cases h
   ·cases h
 | st n=>
   simp only [eval,iP] at h ⊢
   split at h
   ·rename_i i v o a
    have e:=hne (a:= .adr i v o) (i:=i) List.mem_cons_self (by simp [zm])
    rw [pN e,zp _ _ e] at h; exact h
   ·rename_i i v o a
    have e:=hne (a:= .rad i v o) (i:=i) List.mem_cons_self (by simp [zm])
    have e2:id ∉ zG (cellsOf a):=fun hm=>hn (th (a:=a) (by simp) (ox id hm))
    rw [wS e,nh e2,zp _ _ e] at h
    obtain ⟨r,hr,h⟩:=bind_some h
    obtain ⟨⟨xs,ls⟩,hs,h⟩:=bind_some h
    have hl:id ∉ ls:=fun hm=>e2 (q9 hs id hm)
    rw [hr]
    simp only [Option.bind_some]
    rw [hs]
    simp only [Option.bind_some] at h ⊢
    rw [sU hl] at h
    exact h
   ·cases h
 | bldS e size len parts=>
   simp only [eval] at h ⊢
   have e2:id ∉ zG (as.flatMap cellsOf):=fun hm=>hn (nL id hm)
   rw [nh e2] at h
   split at h
   ·rename_i hc
    rw [if_pos hc]
    obtain ⟨⟨xs,ls⟩,hs,h⟩:=bind_some h
    have hl:id ∉ ls:=fun hm=>e2 (q9 hs id hm)
    rw [hs]
    simp only [Option.bind_some] at h ⊢
    unfold mk at h ⊢
    simp only [Option.some.injEq] at h
    subst h
    rw [sU hl]
    simp only [pi,sU hl,vr,List.map_append,List.map_cons,List.map_nil,List.mem_append,List.mem_singleton,not_or] at hu
    simp only [vr,zp _ _ (Ne.symm hu.2)]
   ·cases h
 | app e size b=>
   simp only [eval,nV] at h ⊢
   split at h
   ·rename_i y
    have e2:id ∉ zm y:=fun hm=>hn (th (a:=y) (by simp) hm)
    rw [j1 e2] at h
    obtain ⟨⟨z,ls⟩,hs,h⟩:=bind_some h
    rw [hs]
    simp only [Option.bind_some] at h ⊢
    obtain ⟨⟨m,xs⟩,hq,h⟩:=bind_some h
    rw [hq]
    simp only [Option.bind_some] at h ⊢
    split at h
    ·rename_i hc
     rw [if_pos hc]
     split at h
     ·rename_i hm; rw [if_pos hm]; exact h
     ·rename_i hm; rw [if_neg hm]; exact gJ h hu
    ·cases h
   ·rename_i i v y
    have e1:=hne (a:= .row i v) (i:=i) List.mem_cons_self (by simp [zm])
    have e2:id ∉ zm y:=fun hm=>hn (th (a:=y) (by simp) hm)
    rw [wS e1,j1 e2,zp _ _ e1] at h; exact h
   ·cases h
 | appZ e size b z=>
   simp only [eval,oe] at h ⊢
   split at h
   ·split at h
    ·rename_i hc
     rw [if_pos hc]
     split at h
     ·rename_i hm; rw [if_pos hm]; exact h
     ·rename_i hm; rw [if_neg hm]; exact gJ h hu
    ·cases h
   ·rename_i i v k kk
    have e1:=hne (a:= .row i v) (i:=i) List.mem_cons_self (by simp [zm])
    rw [wS e1,zp _ _ e1] at h; exact h
   ·cases h
 | cut s=>
   simp only [eval,ko] at h ⊢
   split at h
   ·exact h
   ·rename_i i v k kk
    have e1:=hne (a:= .row i v) (i:=i) List.mem_cons_self (by simp [zm])
    rw [zp _ _ e1] at h
    split at h
    ·rename_i hl
     rw [if_pos hl]; exact gy h hn
    ·rename_i hl
     rw [if_neg hl]
     rw [wS e1] at h; exact h
   ·exact gy h hn
 | call f=>exact eC h hn hu
 | dyn=>
   simp only [eval] at h ⊢
   split at h
   ·rename_i f r
    exact eC h (fun hm=>hn (by simp only [zG,zm,List.nil_append]; exact hm)) hu
   ·cases h
end
theorem YI {ob:Nat→Ob} {a:A} {y:D} (h:yk ob a=some (y,[])) (ob':Nat→Ob):yk ob' a=some (y,[]):=by
 cases a with
 | row i v=>
   simp only [yk] at h
   split at h
   ·split at h
    ·simp at h
    ·cases h
   ·cases h
 | _=>exact h
theorem j8 {ob:Nat→Ob}:∀ {as:List A} {ys:List D},zR ob as=some (ys,[])→∀ ob',zR ob' as=some (ys,[])
 | [],ys,h,ob'=>h
 | a :: as,ys,h,ob'=>by
   simp only [zR] at h ⊢
   obtain ⟨⟨y,l⟩,h1,h⟩:=bind_some h
   obtain ⟨⟨zs,l'⟩,h2,h⟩:=map_some h
   simp only [Prod.mk.injEq,List.append_eq_nil_iff] at h
   obtain ⟨rfl,rfl,rfl⟩:=h
   rw [YI h1 ob',j8 h2 ob']
   rfl
theorem iB {Γ:Ctx} {ob ob':Nat→Ob} {d:Nat} {op:SOp} (hm:op.maker=true) {as:List A} {a:A} {i:Nat} {x:Ob} (h:eval Γ ob d op as=some (.val a [(i,x)]))
  (hv:(ob' (oid d 0)).ver=(ob (oid d 0)).ver):eval Γ ob' d op as=some (.val a [(i,x)])∧i=oid d 0∧x.ver=(ob (oid d 0)).ver+1:=by
 have hmk:∀ {o:O},mk ob d [] o=some (.val a [(i,x)])→mk ob' d [] o=some (.val a [(i,x)])∧i=oid d 0∧x.ver=(ob (oid d 0)).ver+1:=by
  intro o h
  unfold mk vr at h ⊢
  simp only [Option.some.injEq,Out.val.injEq,List.nil_append,List.cons.injEq,and_true,Prod.mk.injEq] at h
  obtain ⟨h1,h2,h3⟩:=h
  rw [hv]
  subst h2 h3
  exact ⟨by rw [h1]; rfl,rfl,rfl⟩
 cases op with
 | alloc cells=>
   simp only [eval] at h ⊢
   split at h
   ·split at h
    ·rename_i hc
     rw [if_pos hc]; exact hmk h
    ·cases h
   ·cases h
 | box=>
   simp only [eval] at h ⊢
   split at h
   ·split at h
    ·rename_i hc
     rw [if_pos hc]; exact hmk h
    ·cases h
   ·cases h
 | mkS e sz b z=>
   simp only [eval] at h ⊢
   split at h
   ·split at h
    ·rename_i hc
     rw [if_pos hc]; exact hmk h
    ·cases h
   ·cases h
 | bldS e size len parts=>
   simp only [eval] at h ⊢
   split at h
   ·rename_i hc
    rw [if_pos hc]
    obtain ⟨⟨xs,ls⟩,hs,h⟩:=bind_some h
    have hl:ls=[]:=by
     unfold mk at h
     simp only [Option.some.injEq,Out.val.injEq] at h
     have:=congrArg List.length h.2
     simp only [List.length_append,List.length_cons,List.length_nil,zg,List.length_map] at this
     exact List.eq_nil_of_length_eq_zero (by omega)
    subst hl
    rw [j8 hs ob']
    exact hmk h
   ·cases h
 | _=>cases hm
end Go.Vm
