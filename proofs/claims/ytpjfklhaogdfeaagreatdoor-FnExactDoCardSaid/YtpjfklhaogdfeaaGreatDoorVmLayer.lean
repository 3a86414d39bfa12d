/- One more function's contract, in plain terms, over those below it. -/
import Derived.Test.YtpjfklhaogdfeaaGreatDoorVmRec
import Derived.Test.YtpjfklhaogdfeaaGreatDoorVmKind
set_option linter.unusedVariables false
set_option linter.unusedSectionVars false
set_option linter.unusedSimpArgs false
namespace Go.Vm
variable [Gl]
open Classical in
noncomputable def lay {α β:Type} (enc:α→List X) (C:α→Option β) (xs:List X):Option β:=if h:∃ a,enc a=xs then C h.choose else none
theorem sV {α β:Type} {enc:α→List X} {C:α→Option β} {xs:List X} {y:β} (h:lay enc C xs=some y):∃ a,enc a=xs∧C a=some y:=by
 unfold lay at h
 split at h
 ·rename_i hx; exact ⟨_,hx.choose_spec,h⟩
 ·cases h
theorem JT {α β:Type} {enc:α→List X} {C:α→Option β} {xs:List X} (h:∀ a,enc a ≠ xs):lay enc C xs=none:=by
 unfold lay
 rw [dif_neg]
 rintro ⟨a,ha⟩; exact h a ha
theorem yb {α β:Type} {enc:α→List X} {C:α→Option β} (inj:∀ a b,enc a=enc b→a=b) (a:α):lay enc C (enc a)=C a:=by
 unfold lay
 have h:∃ b,enc b=enc a:=⟨a,rfl⟩
 rw [dif_pos h,inj _ _ h.choose_spec]
open Classical in
noncomputable def yk {β:Type} (p:Prop) (x:β):Option β:=if p then some x else none
theorem zA {β:Type} {p:Prop} {x:β} (h:p):yk p x=some x:=if_pos h
theorem zy {β:Type} {p:Prop} {x y:β} (h:yk p x=some y):p∧x=y:=by
 unfold yk at h
 split at h
 ·injection h with h; exact ⟨‹p›,h⟩
 ·cases h
mutual
theorem RX.nc {S:Nat→Nat} {w:World}:∀ {x:X} {v:Value} {bs:List Nat},RX S w x v bs→RX S w (ncX x) v bs
 | .own e s n cap cells lk,v,bs,⟨xs,h1,h2,h3,h4,h5⟩=>by
   simp only [ncX]
   exact ⟨xs,h1,h2,h3,h4,fun k hk=>by cases hk⟩
 | .box xs,v,bs,⟨b,cs,et,bs',h1,h2,h3,h4,h5,h6⟩=>by
   simp only [ncX]
   exact ⟨b,cs,et,bs',h1,h2,RXs.nc h3,h4,h5,by rw [ZJ]; exact h6⟩
 | .agg xs,v,bs,⟨vs,h1,h2⟩=>by
   simp only [ncX]
   exact ⟨vs,h1,RXs.nc h2⟩
 | .tup xs,v,bs,⟨vs,h1,h2⟩=>by
   simp only [ncX]
   exact ⟨vs,h1,RXs.nc h2⟩
 | .d x,v,bs,h=>by simp only [ncX]; exact h
 | .nil,v,bs,h=>by simp only [ncX]; exact h
 | .par k,v,bs,h=>by simp only [ncX]; exact h
 | .res _ _,v,bs,h=>by simp only [ncX]; exact h
theorem RXs.nc {S:Nat→Nat} {w:World}:∀ {xs:List X} {vs:List Value} {bs:List Nat},RXs S w xs vs bs→RXs S w (vA xs) vs bs
 | [],vs,bs,h=>by simp only [vA]; exact h
 | x :: xs,vs,bs,⟨v,r,b1,b2,e1,e2,h1,h2⟩=>by
   simp only [vA]
   exact ⟨v,r,b1,b2,e1,e2,RX.nc h1,RXs.nc h2⟩
theorem ZJ:∀ {xs:List X},(vA xs).all uv=xs.all uv
 | []=>by simp only [vA]
 | x :: xs=>by
   simp only [vA,List.all_cons,ZJ (xs:=xs)]
   cases x <;> simp only [ncX,uv]
end
mutual
theorem ParOK.nc {ls:List Lent}:∀ {x:X} {v:Value},ParOK ls x v→ParOK ls (ncX x) v
 | .agg xs,v,h=>by
   simp only [ncX,ParOK] at h ⊢
   exact fun vs e=>ParOKs.nc (h vs e)
 | .tup xs,v,h=>by
   simp only [ncX,ParOK] at h ⊢
   exact fun vs e=>ParOKs.nc (h vs e)
 | .par k,v,h=>by simpa only [ncX] using h
 | .d _,v,h=>by simp only [ncX,ParOK]
 | .nil,v,h=>by simp only [ncX,ParOK]
 | .own ..,v,h=>by simp only [ncX,ParOK]
 | .box _,v,h=>by simp only [ncX,ParOK]
 | .res _ _,v,h=>by simp only [ncX,ParOK]
theorem ParOKs.nc {ls:List Lent}:∀ {xs:List X} {vs:List Value},ParOKs ls xs vs→ParOKs ls (vA xs) vs
 | [],vs,h=>by simp only [vA,ParOKs]
 | x :: xs,[],h=>by simp only [vA,ParOKs]
 | x :: xs,v :: vs,h=>by
   simp only [vA,ParOKs] at h ⊢
   exact ⟨ParOK.nc h.1,ParOKs.nc h.2⟩
end
mutual
theorem RX.own {S:Nat→Nat} {w:World}:∀ (m:Md) {x:X} {v:Value} {bs:List Nat},RX S w x v bs→RX S w (zI m x) v bs
 | .k,x,v,bs,h=>by simpa only [zI] using h
 | .own e s,.nil,v,bs,⟨h1,h2⟩=>by
   simp only [zI]
   subst h1 h2
   exact ⟨[],World.ownsRow_nil ..,rfl,rfl,fun b hb=>(by cases hb),fun k hk=>(by cases hk)⟩
 | .dat,.nil,v,bs,⟨h1,h2⟩=>by
   simp only [zI]
   subst h1 h2
   exact ⟨rfl,none,0,rfl,Nat.le_refl _,fun _=>⟨rfl,rfl,rfl⟩,by simp⟩
 | .dat,.d x,v,bs,h=>by simpa only [zI] using h
 | .dat,.own ..,v,bs,h=>by simpa only [zI] using h
 | .dat,.box xs,v,bs,h=>by simpa only [zI] using h
 | .dat,.agg xs,v,bs,h=>by simpa only [zI] using h
 | .dat,.tup xs,v,bs,h=>by simpa only [zI] using h
 | .dat,.par k,v,bs,h=>by simpa only [zI] using h
 | .own e s,.par k,v,bs,h=>by simpa only [zI] using h
 | .node ms,.par k,v,bs,h=>by simpa only [zI] using h
 | .own e s,.d x,v,bs,h=>by simpa only [zI] using h
 | .own e s,.own ..,v,bs,h=>by simpa only [zI] using h
 | .own e s,.box xs,v,bs,h=>by simpa only [zI] using h
 | .own e s,.agg xs,v,bs,h=>by simpa only [zI] using h
 | .own e s,.tup xs,v,bs,h=>by simpa only [zI] using h
 | .node ms,.agg xs,v,bs,⟨vs,h1,h2⟩=>by simp only [zI]; exact ⟨vs,h1,RXs.own ms h2⟩
 | .node ms,.tup xs,v,bs,⟨vs,h1,h2⟩=>by simp only [zI]; exact ⟨vs,h1,RXs.own ms h2⟩
 | .node ms,.nil,v,bs,h=>by simpa only [zI] using h
 | .node ms,.d x,v,bs,h=>by simpa only [zI] using h
 | .node ms,.own ..,v,bs,h=>by simpa only [zI] using h
 | .node ms,.box xs,v,bs,h=>by simpa only [zI] using h
 | .node ms,.res _ _,v,bs,h=>by simpa only [zI] using h
 | .own e s,.res _ _,v,bs,h=>by simpa only [zI] using h
 | .dat,.res _ _,v,bs,h=>by simpa only [zI] using h
theorem RXs.own {S:Nat→Nat} {w:World}:∀ (ms:List Md) {xs:List X} {vs:List Value} {bs:List Nat},RXs S w xs vs bs→RXs S w (wj ms xs) vs bs
 | [],xs,vs,bs,h=>by cases xs <;> simpa only [wj] using h
 | m :: ms,[],vs,bs,h=>by simpa only [wj] using h
 | m :: ms,x :: xs,vs,bs,⟨v,r,b1,b2,e1,e2,h1,h2⟩=>by
   simp only [wj]
   exact ⟨v,r,b1,b2,e1,e2,RX.own m h1,RXs.own ms h2⟩
end
mutual
theorem ParOK.own {ls:List Lent}:∀ (m:Md) {x:X} {v:Value},ParOK ls x v→ParOK ls (zI m x) v
 | .k,x,v,h=>by simpa only [zI] using h
 | .node ms,.agg xs,v,h=>by
   simp only [zI,ParOK] at h ⊢
   exact fun vs e=>ParOKs.own ms (h vs e)
 | .node ms,.tup xs,v,h=>by
   simp only [zI,ParOK] at h ⊢
   exact fun vs e=>ParOKs.own ms (h vs e)
 | .dat,.nil,v,h=>by simp only [zI,ParOK]
 | .own e s,.nil,v,h=>by simp only [zI,ParOK]
 | .node ms,.nil,v,h=>by simpa only [zI] using h
 | .dat,.d x,v,h=>by simpa only [zI] using h
 | .dat,.own ..,v,h=>by simpa only [zI] using h
 | .dat,.box xs,v,h=>by simpa only [zI] using h
 | .dat,.res _ _,v,h=>by simpa only [zI] using h
 | .own e s,.res _ _,v,h=>by simpa only [zI] using h
 | .node ms,.res _ _,v,h=>by simpa only [zI] using h
 | .dat,.agg xs,v,h=>by simpa only [zI] using h
 | .dat,.tup xs,v,h=>by simpa only [zI] using h
 | .dat,.par k,v,h=>by simpa only [zI] using h
 | .own e s,.d x,v,h=>by simpa only [zI] using h
 | .own e s,.own ..,v,h=>by simpa only [zI] using h
 | .own e s,.box xs,v,h=>by simpa only [zI] using h
 | .own e s,.agg xs,v,h=>by simpa only [zI] using h
 | .own e s,.tup xs,v,h=>by simpa only [zI] using h
 | .own e s,.par k,v,h=>by simpa only [zI] using h
 | .node ms,.d x,v,h=>by simpa only [zI] using h
 | .node ms,.own ..,v,h=>by simpa only [zI] using h
 | .node ms,.box xs,v,h=>by simpa only [zI] using h
 | .node ms,.par k,v,h=>by simpa only [zI] using h
theorem ParOKs.own {ls:List Lent}:∀ (ms:List Md) {xs:List X} {vs:List Value},ParOKs ls xs vs→ParOKs ls (wj ms xs) vs
 | [],xs,vs,h=>by cases xs <;> simpa only [wj] using h
 | m :: ms,[],vs,h=>by simpa only [wj] using h
 | m :: ms,x :: xs,[],h=>by simp only [wj,ParOKs]
 | m :: ms,x :: xs,v :: vs,h=>by
   simp only [wj,ParOKs] at h ⊢
   exact ⟨ParOK.own m h.1,ParOKs.own ms h.2⟩
end
structure Same (wk:XOut→XOut):Prop where
 ret:∀ (x:X) (outs:List (List D)),∃ y,wk (.ret x outs)= .ret y outs∧(∀ S w v bs,RX S w x v bs→RX S w y v bs)∧∀ ls v,ParOK ls x v→ParOK ls y v
 pan:∀ (x:D) (outs:List (List D)),wk (.pan x outs)= .pan x outs
theorem Same.nocap:Same Vm.nocap:=⟨fun x outs=>⟨_,rfl,fun _ _ _ _=>RX.nc,fun _ _=>ParOK.nc⟩,fun _ _=>rfl⟩
theorem Same.id:Same (fun y=>y):=⟨fun x outs=>⟨_,rfl,fun _ _ _ _ h=>h,fun _ _ h=>h⟩,fun _ _=>rfl⟩
theorem Same.own (m:Md):Same (pm m):=⟨fun x outs=>⟨_,rfl,fun _ _ _ _=>RX.own m,fun _ _=>ParOK.own m⟩,fun _ _=>rfl⟩
theorem Same.comp {f g:XOut→XOut} (hf:Same f) (hg:Same g):Same (fun y=>f (g y)):=by
 refine ⟨fun x outs=>?_,fun x outs=>by rw [hg.pan,hf.pan]⟩
 obtain ⟨y,e1,h1,k1⟩:=hg.ret x outs
 obtain ⟨z,e2,h2,k2⟩:=hf.ret y outs
 exact ⟨z,by rw [e1,e2],fun S w v bs h=>h2 S w v bs (h1 S w v bs h),fun ls v h=>k2 ls v (k1 ls v h)⟩
theorem Sound.same {P:Program} {f:FuncId} {F:List X→Option XOut} (h:Sound P f F) {wk:XOut→XOut} (hs:Same wk):Sound P f (fun xs=>(F xs).bind fun y=>some (wk y)):=by
 intro S w args xs bs hx hb out ho
 obtain ⟨y,h1,h2⟩:=Option.bind_eq_some_iff.mp ho
 simp only [Option.some.injEq] at h2
 subst h2
 obtain ⟨q1,q2⟩:=h S w args xs bs hx hb y h1
 refine ⟨q1,q2.mono ?_⟩
 rintro e w' ⟨S',a1,a2,a3,a4,a5,a6⟩
 refine ⟨S',a1,a2,a3,a4,a5,?_⟩
 cases y with
 | ret x outs=>
   obtain ⟨y',e1,h1,k1⟩:=hs.ret x outs
   rw [e1]
   obtain ⟨v,b1,ls',r1,r2,r3,r4,r5,r6,r7⟩:=a6
   exact ⟨v,b1,ls',r1,h1 _ _ _ _ r2,r3,r4,r5,k1 _ _ r6,r7⟩
 | pan x outs=>rw [hs.pan]; exact a6
def gq:List Bool→List Lent→Prop
 | true :: bs,l :: ls=>(∃ v e sz,l= .row v e sz)∧gq bs ls
 | false :: bs,_ :: ls=>gq bs ls
 | _,_=>True
theorem fI {S':Nat→Nat} {w w':World}:∀ {bs:List Bool} {outs:List (List D)} {ls ls':List Lent},gq bs ls→qg S' w' outs ls'→Mvs w w' outs ls ls'→qg S' w' (sZ bs outs) ls'∧Mvs w w' (sZ bs outs) ls ls'
 | [],outs,ls,ls',_,h1,h2=>by rw [bA]; exact ⟨h1,h2⟩
 | b :: bs,[],ls,ls',_,h1,h2=>by cases b <;> exact ⟨h1,h2⟩
 | b :: bs,ds :: outs,ls,ls',hr,⟨l,r,e1,h1,h2⟩,⟨l0,r0,l',r',e2,e3,h3,h4⟩=>by
   rw [e1] at e3
   simp only [List.cons.injEq] at e3
   obtain ⟨rfl,rfl⟩:=e3
   subst e1; subst e2
   cases b with
   | false=>
     obtain ⟨q1,q2⟩:=fI (bs:=bs) hr h2 h4
     exact ⟨⟨_,_,rfl,h1,q1⟩,_,_,_,_,rfl,rfl,h3,q2⟩
   | true=>
     obtain ⟨⟨v,e,sz,rfl⟩,hr⟩:=hr
     obtain ⟨q1,q2⟩:=fI (bs:=bs) hr h2 h4
     obtain ⟨v',rfl,hm,hb⟩:=h3
     obtain ⟨n,cells,xs,hd,h5⟩:=h1
     rcases hd with rfl | rfl
     ·have hv:v'=v:=by
       rcases hm with h | ⟨_,_,h⟩
       ·exact h
       ·simp at h
      exact ⟨⟨_,_,rfl,⟨n,cells,xs,.inr rfl,h5⟩,q1⟩,_,_,_,_,rfl,rfl,⟨v',rfl,.inl hv,hb⟩,q2⟩
     ·exact ⟨⟨_,_,rfl,⟨n,cells,xs,.inr rfl,h5⟩,q1⟩,_,_,_,_,rfl,rfl,⟨v',rfl,hm,hb⟩,q2⟩
theorem yK {cuts:List Nat} {P:Program} {Γ:Ctx} (hm:P.follows .mixedOrders=true) (hΓ:SoundAll P Γ) {f:FuncId} {fn:Func} {cd:Cd} {rs:List RV} {k:Nat} (hf:P.funcs[f]? =some fn)
  (hname:(fn.name == "runtime.NumGoroutine")=false) (hb:fn.body.isSome=true) (hc:comp P ⟨fn.ntmps,[],cuts⟩ (fn.body.getD .skip)=some cd.strip)
  (hrs:vG P fn.results.toList=some rs) (h4:decide (fn.results.toList.length ≤ 4)=true) (hk:decide (k ≤ fn.ntmps)=true)
  {α:Type} {enc:α→List X} {C:α→Option XOut} {wk:XOut→XOut} (hw:Same wk) (hC:∀ a out,C a=some out→∃ n,((sK Γ n k cd rs (enc a)).bind fun y=>some (wk y))=some out) {m:Bool}:SoundAll P (Γ.with f (lay enc C) m):=by
 refine hΓ.with ?_
 intro S w args xs bs hx hb' out ho
 unfold lay at ho
 split at ho
 ·rename_i h
  obtain ⟨n,hn⟩:=hC _ _ ho
  rw [h.choose_spec] at hn
  exact (lf hm hΓ hf hname hb hc hrs (of_decide_eq_true h4) (of_decide_eq_true hk) n).same hw S w args xs bs hx hb' out hn
 ·cases ho
theorem Ir {cuts:List Nat} {P:Program} {Γ:Ctx} (hm:P.follows .mixedOrders=true) (hΓ:SoundAll P Γ) {f:FuncId} {fn:Func} {cd:Cd} {rs:List RV} {k:Nat} (hf:P.funcs[f]? =some fn)
  (hname:(fn.name == "runtime.NumGoroutine")=false) (hb:fn.body.isSome=true) (hc:comp P ⟨fn.ntmps,[],cuts⟩ (fn.body.getD .skip)=some cd.strip)
  (hrs:vG P fn.results.toList=some rs) (h4:decide (fn.results.toList.length ≤ 4)=true) (hk:decide (k ≤ fn.ntmps)=true)
  {α:Type} {enc:α→List X} {C:α→Option XOut} {wk:XOut→XOut} (hw:Same wk) {ms:List Bool} (hrow:∀ a vs,gq ms (yF (enc a) vs))
  (hC:∀ a out,C a=some out→∃ n,((sK Γ n k cd rs (enc a)).bind fun y=>some (Yf ms (wk y)))=some out) {m:Bool}:SoundAll P (Γ.with f (lay enc C) m):=by
 refine hΓ.with ?_
 intro S w args xs bs hx hb' out ho
 obtain ⟨a,rfl,ho2⟩:=sV ho
 obtain ⟨n,hn⟩:=hC _ _ ho2
 obtain ⟨y,h1,h2⟩:=Option.bind_eq_some_iff.mp hn
 simp only [Option.some.injEq] at h2
 subst h2
 obtain ⟨q1,q2⟩:=(lf hm hΓ hf hname hb hc hrs (of_decide_eq_true h4) (of_decide_eq_true hk) n).same hw S w args (enc a) bs hx hb' (wk y) (by show (sK Γ n k cd rs (enc a)).bind _=_; rw [h1]; rfl)
 refine ⟨q1,q2.mono ?_⟩
 rintro e w' ⟨S',a1,a2,a3,a4,a5,a6⟩
 refine ⟨S',a1,a2,a3,a4,a5,?_⟩
 cases hy:wk y with
 | ret x outs=>
   rw [hy] at a6
   obtain ⟨v,b1,ls',r1,r2,r3,r4,r5,r6,r7⟩:=a6
   obtain ⟨t1,t2⟩:=fI (hrow a args.toList) r5 r7
   exact ⟨v,b1,ls',r1,r2,r3,r4,t1,r6,t2⟩
 | pan x outs=>rw [hy] at a6; exact a6
theorem K9 {cuts:List Nat} {P:Program} {Γ:Ctx} (hm:P.follows .mixedOrders=true) (hΓ:SoundAll P Γ) {f:FuncId} {fn:Func} {cd:Cd} {rs:List RV} {k:Nat} (hf:P.funcs[f]? =some fn)
  (hname:(fn.name == "runtime.NumGoroutine")=false) (hb:fn.body.isSome=true) (hc:comp P ⟨fn.ntmps,[],cuts⟩ (fn.body.getD .skip)=some cd.strip)
  (hrs:vG P fn.results.toList=some rs) (h4:decide (fn.results.toList.length ≤ 4)=true) (hk:decide (k ≤ fn.ntmps)=true)
  {α:Type} {enc:α→List X} {C:α→Option XOut} {wk:XOut→XOut} (hw:Same wk) (mu:α→Nat) {m:Bool}
  (hC:∀ j a out,C a=some out→mu a < j+1→∃ n,((sK (Γ.with f (lay enc fun a=>if mu a < j then C a else none) m) n k cd rs (enc a)).bind fun y=>some (wk y))=some out):SoundAll P (Γ.with f (lay enc C) m):=by
 have key:∀ j,Sound P f (lay enc fun a=>if mu a < j then C a else none):=by
  intro j
  induction j with
  | zero=>
    intro S w args xs bs hx hb' out ho
    obtain ⟨a,_,h⟩:=sV ho
    rw [if_neg (Nat.not_lt_zero _)] at h; cases h
  | succ j ih=>
    intro S w args xs bs hx hb' out ho
    obtain ⟨a,rfl,h⟩:=sV ho
    split at h
    case isFalse=>cases h
    rename_i hlt
    obtain ⟨n,hn⟩:=hC j a out h hlt
    exact (lf hm (hΓ.with (m:=m) ih) hf hname hb hc hrs (of_decide_eq_true h4) (of_decide_eq_true hk) n).same hw S w args (enc a) bs hx hb' out hn
 refine hΓ.with ?_
 intro S w args xs bs hx hb' out ho
 unfold lay at ho
 split at ho
 case isFalse=>cases ho
 rename_i h
 have h1:=h.choose_spec
 refine key (mu h.choose+1) S w args xs bs hx hb' out ?_
 unfold lay
 rw [dif_pos h]
 show (if mu h.choose < mu h.choose+1 then C h.choose else none)=some out
 rw [if_pos (Nat.lt_succ_self _)]
 exact ho
theorem SoundD.mono {P:Program} {f:FuncId} {FD FD':D→List X→Option (List (List D))} (h:SoundD P f FD) (hle:∀ x xs outs,FD' x xs=some outs→FD x xs=some outs):SoundD P f FD':=
 ⟨h.1,h.2.1,fun S w args xs bs x v h1 h2 h3 outs ho=>h.2.2 S w args xs bs x v h1 h2 h3 outs (hle x xs outs ho)⟩
theorem N8 {cuts:List Nat} {P:Program} {Γ:Ctx} (hm:P.follows .mixedOrders=true) (hΓ:SoundAll P Γ) {f:FuncId} {fn:Func} {cd:Cd} {rest:Code} {k a b:Nat} (hf:P.funcs[f]? =some fn)
  (hname:(fn.name == "runtime.NumGoroutine")=false) (hb:fn.body.isSome=true) (hr:fn.results.toList.isEmpty=true) (hca:up fn.ntmps (fn.body.getD .skip)=some (a,b,rest))
  (hpa:kM P fn.ntmps b rest=true) (hc:comp P ⟨fn.ntmps,[],cuts⟩ rest=some cd.strip) (hk:decide (k ≤ fn.ntmps)=true) (hka:decide (k ≤ a)=true)
  {FD:D→List X→Option (List (List D))} (hFD:∀ x xs outs,FD x xs=some outs→∃ n,jg Γ n k b cd x xs=some outs):SoundD P f FD:=by
 cases hbody:fn.body with
 | none=>rw [hbody] at hb; cases hb
 | some code=>
   rw [hbody] at hca
   have key:=fun n=>bR (n:=n) hΓ (j4 hm hΓ) (qJ hf hname (by rw [hbody]; rfl)) hf hbody (List.isEmpty_iff.mp hr) hca hpa hc (of_decide_eq_true hk) (of_decide_eq_true hka)
   refine ⟨(key 0).1,(key 0).2.1,fun S w args xs bs x v h1 h2 h3 outs ho=>?_⟩
   obtain ⟨n,hn⟩:=hFD x xs outs ho
   exact (key n).2.2 S w args xs bs x v h1 h2 h3 outs hn
theorem Lr {cuts:List Nat} {P:Program} {Γ:Ctx} (hm:P.follows .mixedOrders=true) (hΓ:SoundAll P Γ) {f fd:FuncId} {FD:D→List X→Option (List (List D))} (hSD:SoundD P fd FD) {fn:Func} {A B:Cd} {da keep:List Nat}
  {cs:List Code} {rc:Code} {rs:List RV} {k:Nat} (hf:P.funcs[f]? =some fn)
  (hname:(fn.name == "runtime.NumGoroutine")=false) (hb:fn.body.isSome=true) (hsp:qN (fn.body.getD .skip)=some (cs,(fd,da),rc)) (hcA:comp P ⟨fn.ntmps,[],cuts⟩ (km cs)=some A.strip)
  (hcB:comp P ⟨fn.ntmps,da,cuts⟩ rc=some B.strip)
  (hrs:vG P fn.results.toList=some rs) (h4:decide (fn.results.toList.length ≤ 4)=true) (hk:decide (k ≤ fn.ntmps)=true)
  {α:Type} {enc:α→List X} {C:α→Option XOut} {wk:XOut→XOut} (hw:Same wk) (hC:∀ a out,C a=some out→∃ n,((m4 Γ FD n k A da keep B rs (enc a)).bind fun y=>some (wk y))=some out) {m:Bool}:
  SoundAll P (Γ.with f (lay enc C) m):=by
 refine hΓ.with ?_
 intro S w args xs bs hx hb' out ho
 unfold lay at ho
 split at ho
 ·rename_i h
  obtain ⟨n,hn⟩:=hC _ _ ho
  rw [h.choose_spec] at hn
  cases hbody:fn.body with
  | none=>rw [hbody] at hb; cases hb
  | some code=>
    rw [hbody] at hsp
    exact (bS hΓ (j4 hm hΓ) (qJ hf hname (by rw [hbody]; rfl)) hSD hf hbody hsp hcA hcB hrs (of_decide_eq_true h4) (of_decide_eq_true hk)).same hw S w args xs bs hx hb' out hn
 ·cases ho
theorem Ik {cuts:List Nat} {P:Program} {Γ:Ctx} (hm:P.follows .mixedOrders=true) (hΓ:SoundAll P Γ) {f:FuncId} {fn:Func} {cd:Cd} {k a b:Nat} (hf:P.funcs[f]? =some fn)
  (hname:(fn.name == "runtime.NumGoroutine")=false) (hb:fn.body.isSome=true) (hr:fn.results.toList.isEmpty=true) (hca:((up fn.ntmps (fn.body.getD .skip)).map fun x=>(x.1,x.2.1))=some (a,b))
  (hpa:((up fn.ntmps (fn.body.getD .skip)).map fun x=>kM P fn.ntmps b x.2.2)=some true) (hc:((up fn.ntmps (fn.body.getD .skip)).bind fun x=>comp P ⟨fn.ntmps,[],cuts⟩ x.2.2)=some cd.strip)
  (hk:decide (k ≤ fn.ntmps)=true) (hka:decide (k ≤ a)=true)
  {FD:D→List X→Option (List (List D))} (hFD:∀ x xs outs,FD x xs=some outs→∃ n,jg Γ n k b cd x xs=some outs):SoundD P f FD:=by
 cases h:up fn.ntmps (fn.body.getD .skip) with
 | none=>rw [h] at hca; cases hca
 | some x=>
   obtain ⟨a',b',rest⟩:=x
   rw [h] at hca hpa hc
   simp only [Option.map_some,Option.some.injEq,Prod.mk.injEq] at hca hpa
   obtain ⟨rfl,rfl⟩:=hca
   exact N8 hm hΓ hf hname hb hr h hpa hc hk hka hFD
theorem Ii {cuts:List Nat} {P:Program} {Γ:Ctx} (hm:P.follows .mixedOrders=true) (hΓ:SoundAll P Γ) {f fd:FuncId} {FD:D→List X→Option (List (List D))} (hSD:SoundD P fd FD) {fn:Func} {A B:Cd} {da keep:List Nat}
  {rs:List RV} {k:Nat} (hf:P.funcs[f]? =some fn)
  (hname:(fn.name == "runtime.NumGoroutine")=false) (hb:fn.body.isSome=true) (hsp:((qN (fn.body.getD .skip)).map fun x=>x.2.1)=some (fd,da))
  (hcA:((qN (fn.body.getD .skip)).bind fun x=>comp P ⟨fn.ntmps,[],cuts⟩ (km x.1))=some A.strip)
  (hcB:((qN (fn.body.getD .skip)).bind fun x=>comp P ⟨fn.ntmps,da,cuts⟩ x.2.2)=some B.strip)
  (hrs:vG P fn.results.toList=some rs) (h4:decide (fn.results.toList.length ≤ 4)=true) (hk:decide (k ≤ fn.ntmps)=true)
  {α:Type} {enc:α→List X} {C:α→Option XOut} {wk:XOut→XOut} (hw:Same wk) (hC:∀ a out,C a=some out→∃ n,((m4 Γ FD n k A da keep B rs (enc a)).bind fun y=>some (wk y))=some out) {m:Bool}:
  SoundAll P (Γ.with f (lay enc C) m):=by
 cases h:qN (fn.body.getD .skip) with
 | none=>rw [h] at hsp; cases hsp
 | some x=>
   obtain ⟨cs,⟨fd',da'⟩,rc⟩:=x
   rw [h] at hsp hcA hcB
   simp only [Option.map_some,Option.some.injEq,Prod.mk.injEq] at hsp
   obtain ⟨rfl,rfl⟩:=hsp
   exact Lr hm hΓ hSD hf hname hb h hcA hcB hrs h4 hk hw hC
theorem MG {cuts:List Nat} {P:Program} {Γ:Ctx} (hm:P.follows .mixedOrders=true) (hΓ:SoundAll P Γ) {f:FuncId} {fn:Func} {cd:Cd} {rs:List RV} (hf:P.funcs[f]? =some fn)
  (hname:(fn.name == "runtime.NumGoroutine")=false) (hb:fn.body.isSome=true) (hc:comp P ⟨fn.ntmps,[],cuts⟩ (fn.body.getD .skip)=some cd.strip)
  (hrs:vG P fn.results.toList=some rs) (h4:decide (fn.results.toList.length ≤ 4)=true) (hk:decide (1 ≤ fn.ntmps)=true)
  {α:Type} (c:Enc α) {C:List α→Option XOut} {wk:XOut→XOut} (hw:Same wk)
  (hS:∀ l out,C l=some out→∃ n,((sK Γ n 1 cd rs [.d (lw c l)]).bind fun y=>some (wk y))=some out)
  (hN:∀ out,C []=some out→∃ n,((sK Γ n 1 cd rs [.nil]).bind fun y=>some (wk y))=some out) {m:Bool}:SoundAll P (Γ.with f (lay (fun l=>[.d (zh c l)]) C) m):=by
 refine hΓ.with ?_
 intro S w args xs bs hx hb' out ho
 obtain ⟨l,rfl,ho2⟩:=sV ho
 obtain ⟨v,r,b1,b2,e1,e2,⟨rfl,hv⟩,rfl,rfl⟩:=hx
 simp only [List.append_nil] at e2
 subst e2
 obtain ⟨a,cap,e3,e4,e5,e6⟩:=hv
 have hl:∀ x:X,(∃ y,x= .d y) ∨ x= .nil→yF [x] args.toList=[]:=by
  rintro x (⟨y,rfl⟩ | rfl) <;> rw [e1] <;> simp only [yF,sF,List.append_nil]
 have key:∃ x:X,((∃ y,x= .d y) ∨ x= .nil)∧RX S w x v []∧∃ n,((sK Γ n 1 cd rs [x]).bind fun y=>some (wk y))=some out:=by
  cases a with
  | none=>
    obtain ⟨q1,q2,_⟩:=e5 rfl
    have:l=[]:=List.eq_nil_of_length_eq_zero q1
    subst this
    exact ⟨.nil,.inr rfl,⟨rfl,by rw [e3,q2]; rfl⟩,hN out ho2⟩
  | some q=>
    obtain ⟨w1,w2⟩:=e6 q rfl
    exact ⟨.d (lw c l),.inl ⟨_,rfl⟩,⟨rfl,q,cap,e3,e4,w1,w2⟩,hS l out ho2⟩
 obtain ⟨x,hxx,hrx,n,hn⟩:=key
 have:=(lf hm hΓ hf hname hb hc hrs (of_decide_eq_true h4) (of_decide_eq_true hk) n).same hw S w args [x] [] ⟨v,[],[],[],e1,rfl,hrx,rfl,rfl⟩ hb' out hn
 rw [hl x hxx,← hl (.d (zh c l)) (.inl ⟨_,rfl⟩)] at this
 exact this
theorem zK {α:Type} (c:Enc α) {e:Nat} {cap:Option Nat} {lk:Bool} {l l':List α}:zP c e cap lk l=zP c e cap lk l' ↔ l=l':=by
 constructor
 ·intro h
  unfold zP at h
  injection h with h1 h2 h3 h4 h5
  have:zh c l=zh c l':=by unfold zh; rw [h3,h5]
  have:=congrArg (ec c) this
  rw [mq,mq] at this
  injection this
 ·rintro rfl; rfl
theorem zL {α:Type} (c:Enc α) {l l':List α}:zh c l=zh c l' ↔ l=l':=by
 constructor
 ·intro h
  have:=congrArg (ec c) h
  rw [mq,mq] at this
  injection this
 ·rintro rfl; rfl
end Go.Vm
