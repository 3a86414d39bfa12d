/- A region whose order is drawn: the whole. -/
import Derived.Test.YtpjfklhaogdfeaaGreatDoorVmFrame
set_option linter.unusedVariables false
set_option linter.unusedSectionVars false
set_option linter.unusedSimpArgs false
namespace Go.Vm
variable [Gl]
section
variable {F:Fr} {P:Program} {Γ:Ctx}
theorem iT {x y:SOper} (h:apart x y=true):(∀ d,x.dst=some d→d ∉ y.reads)∧(∀ d,x.dst=some d→y.dst ≠ some d)∧(∀ d,y.dst=some d→d ∉ x.reads):=by
 unfold apart at h
 simp only [Bool.and_eq_true] at h
 obtain ⟨h1,h2⟩:=h
 refine ⟨?_,?_,?_⟩
 ·intro d hd hm
  rw [hd] at h1
  simp only [Bool.and_eq_true,Bool.not_eq_true',List.any_eq_false,beq_iff_eq] at h1
  exact h1.1 d hm rfl
 ·intro d hd hy
  rw [hd] at h1
  simp only [Bool.and_eq_true,Bool.not_eq_true',beq_eq_false_iff_ne,ne_eq] at h1
  exact h1.2 hy
 ·intro d hd hm
  rw [hd] at h2
  simp only [Bool.not_eq_true',List.any_eq_false,beq_iff_eq] at h2
  exact h2 d hm rfl
theorem pP {o:SOper} {st s:St} (h:step Γ o st=some (.normal,s)) {n:Nat} (hn:o.dst ≠ some n):s.slot n=st.slot n:=by
 have put_slot:∀ (t:St) (a:A),(t.put o.dst a).slot n=t.slot n:=by
  intro t a
  have:=jf (st:=t) (d:=o.dst) (a:=a) (x:= .t n) (by rintro m e; cases e; exact hn)
  exact this
 unfold step at h
 have go:∀ x,(eval Γ st.ob (o.dst.getD 0) o.op (o.args.map st.get)).map (fun
       | .val a us=>(Ex.normal,({ st with ob:=za st.ob us }:St).put o.dst a)
       | .pan x us=>(.panic x,{ st with ob:=za st.ob us }))=some x→x=(.normal,s)→s.slot n=st.slot n:=by
  intro x hx e
  obtain ⟨out,_,hx⟩:=map_some hx
  subst e
  cases out with
  | val a us=>
    simp only [Prod.mk.injEq,true_and] at hx
    subst hx
    exact put_slot _ _
  | pan x us=>simp at hx
 cases hg:o.guard with
 | none=>rw [hg] at h; exact go _ h rfl
 | some gw=>
   obtain ⟨g,w⟩:=gw
   rw [hg] at h
   simp only at h
   split at h
   ·exact go _ h rfl
   ·simp only [Option.some.injEq,Prod.mk.injEq,true_and] at h
    subst h
    exact put_slot _ _
   ·cases h
def Closed (ops:Array Oper) (listed:Array Bool):Prop:=∀ k o,listed.getD k false=true→ops[k]? =some o→∀ e ∈ o.after,Region.binds .any e=true→listed.getD e.on false=true
theorem Closed.set {ops:Array Oper} {listed:Array Bool} (h:Closed ops listed) {j:Nat} (hj:j ∈ Region.ready .any ops listed):Closed ops (listed.setIfInBounds j true):=by
 intro k o hk ho e he hb
 by_cases hjk:j=k
 ·subst hjk
  obtain ⟨_,o',ho',hall⟩:=mem_ready.1 hj
  rw [ho] at ho'; cases ho'
  exact getD_set_true (hall e he hb)
 ·rw [getD_set_ne false hjk] at hk
  exact getD_set_true (h k o hk ho e he hb)
theorem Closed.deps {ops:Array Oper} {listed:Array Bool} (h:Closed ops listed) {i:Nat}:∀ (n k:Nat),listed.getD k false=true→Vm.deps ops n k i=true→listed.getD i false=true
 | 0,_,_,hd=>by cases hd
 | n+1,k,hk,hd=>by
   simp only [Vm.deps] at hd
   cases ho:ops[k]? with
   | none=>rw [ho] at hd; cases hd
   | some o=>
     rw [ho] at hd
     obtain ⟨e,he,hb⟩:=Array.any_eq_true'.1 hd
     simp only [Bool.and_eq_true,Bool.or_eq_true,beq_iff_eq] at hb
     have hl:=h k o hk ho e he hb.1
     rcases hb.2 with q | q
     ·rw [← q]; exact hl
     ·exact h.deps n e.on hl q
theorem Closed.ready {ops:Array Oper} {listed:Array Bool} (h:Closed ops listed) {i j n:Nat} (hj:j ∈ Region.ready .any ops listed) (hi:i ∈ Region.ready .any ops listed):Vm.deps ops n j i=false:=by
 cases hd:Vm.deps ops n j i with
 | false=>rfl
 | true=>
   exfalso
   have hl:listed.getD i false=true:=by
    cases n with
    | zero=>cases hd
    | succ n=>
      simp only [Vm.deps] at hd
      obtain ⟨_,o,ho,hall⟩:=mem_ready.1 hj
      rw [ho] at hd
      obtain ⟨e,he,hb⟩:=Array.any_eq_true'.1 hd
      simp only [Bool.and_eq_true,Bool.or_eq_true,beq_iff_eq] at hb
      have hl:=hall e he hb.1
      rcases hb.2 with q | q
      ·rw [← q]; exact hl
      ·exact h.deps n e.on hl q
   have h0:=(mem_ready.1 hi).1
   rcases Nat.lt_or_ge i listed.size with h' | h'
   ·simp [h'] at hl h0; rw [h0] at hl; cases hl
   ·simp [Array.getElem?_eq_none h'] at hl
theorem Ut {st:St} {d:Option Nat} {a:A} {n:Nat} (h:d ≠ some n):(st.put d a).slot n=st.slot n:=
 jf (st:=st) (d:=d) (a:=a) (x:= .t n) (by rintro m e; cases e; exact h)
theorem Away.of {fb:List Nat} {so:SOper} {st st1:St} (h:Away Γ fb so st1) (hr:∀ n ∈ so.reads,st1.slot n=st.slot n) (hob:∀ m ∈ fb,∀ out,eval Γ st.ob (so.dst.getD 0) so.op (so.args.map st.get)=some out→
  fY so st→eval Γ st1.ob (so.dst.getD 0) so.op (so.args.map st.get)=some out):Away Γ fb so st:=by
 have hargs:so.args.map st1.get=so.args.map st.get:=by
  apply List.map_congr_left
  intro x hx
  cases x with
  | k _=>rfl
  | t n=>exact hr n (qq hx)
 refine ⟨fun m hm n hn=>by rw [← hr n hn]; exact h.rd m hm n hn,fun m hm out ho hg=>?_⟩
 refine h.us m hm out (by rw [hargs]; exact hob m hm out ho hg) ?_
 intro g w e
 rw [hr g (pt e)]
 exact hg g w e
theorem Away.put {fb:List Nat} {so:SOper} {st:St} {d:Option Nat} {a:A} (h:Away Γ fb so (st.put d a)) (hd:∀ k,d=some k→k ∉ so.reads):Away Γ fb so st:=
 h.of (fun n hn=>Ut (fun e=>hd n e hn)) (fun m hm out ho _=>by rw [yZ]; exact ho)
theorem YQ {c:Bool} {ops:Array Oper} {N:Nx} {R:Nat→List Nat} {Q:Ex×St→Prop} {i:Nat} {o:SOper} {a:A} (ho:ql P ops N i=some o) (hq:o.op.quiet=true)
  (hflat:∀ a,SA.k a ∈ o.args→xk a=[]) (hQ:∀ x s s',s.ob=s'.ob→Q (.panic x,s)→Q (.panic x,s')):∀ (yz:Nat) (listed:Array Bool) (st:St),
  (∀ j,j ≠ i→listed.getD j true=false→deps ops ops.size j i=false→∀ sj,ql P ops N j=some sj→apart o sj=true∧(o.op.looks=true→sj.op.quiet=false→yT P ops N j=none→∀ n ∈ o.reads,∀ id ∈ xk (st.slot n),id ∈ R j)∧
    (∀ id,yT P ops N j=some id→∀ n ∈ o.reads,id ∉ xk (st.slot n)))→
  (∀ m ∈ wN P ops N i,∀ n ∈ o.reads,m ∉ zu (st.slot n))→
  Closed ops listed→i ∈ Region.ready .any ops listed→Puts Γ o a st→kC P Γ c ops N R Q yz (listed.setIfInBounds i true) (st.put o.dst a)→kC P Γ c ops N R Q (yz+1) listed st:=by
 intro yz
 have self:∀ (K:St→Prop) (st:St),(∀ m ∈ wN P ops N i,∀ n ∈ o.reads,m ∉ zu (st.slot n))→Puts Γ o a st→K (st.put o.dst a)→goS P Γ c ops N R Q i K st:=by
  intro K st hrd hp hK
  refine ⟨o,ho,.normal,_,hp.1,fun _=>⟨hK,fun _=>yZ,fun h=>(by rw [hq] at h; cases h),fun h=>(by rw [hq] at h; cases h)⟩,(fun x e=>by cases e),.inl rfl,⟨hrd,?_⟩,fun _ _=>rfl⟩
  intro m hm out he hg
  rcases hp.2 with h2 | ⟨_,g,w,h3,h4⟩
  ·rw [h2] at he
   simp only [Option.some.injEq] at he
   subst he
   simp [pY]
  ·have:=hg g w h3
   rw [h4] at this; cases this
 induction yz with
 | zero=>
   intro listed st _ hrd hcl hr hy H
   refine ⟨fun h=>(by rw [h] at hr; cases hr),fun j hj=>?_⟩
   by_cases hji:j=i
   ·subst hji; exact self _ st hrd hy H
   ·have:=ready_mono hj hji
    rw [H.1] at this
    cases this
 | succ yz ih=>
   intro listed st hfree hrd hcl hr hy H
   refine ⟨fun h=>(by rw [h] at hr; cases hr),fun j hj=>?_⟩
   by_cases hji:j=i
   ·subst hji; exact self _ st hrd hy H
   ·obtain ⟨sj,hsj,ex,s1,hstep,h1,h2,h3,haw,hnp⟩:=H.2 j (ready_mono hj hji)
    obtain ⟨hjun,oj,hoj,hall⟩:=mem_ready.1 hj
    have hnot:deps ops ops.size j i=false:=hcl.ready hj hr
    obtain ⟨hap,hR,hF⟩:=hfree j hji hjun hnot sj hsj
    obtain ⟨a1,a2,a3⟩:=iT hap
    rw [cK a1 a2] at hstep
    obtain ⟨⟨ex0,s0⟩,hst0,e0⟩:=map_some hstep
    simp only [Prod.mk.injEq] at e0
    obtain ⟨rfl,rfl⟩:=e0
    refine ⟨sj,hsj,ex0,s0,hst0,?_,?_,h3,haw.put a1,hnp⟩
    ·rintro rfl
     obtain ⟨k1,k2,k3,k4⟩:=h1 rfl
     rw [yZ,yZ] at k2
     have k3':sj.op.quiet=false→yT P ops N j=none→iL (R j) st s0:=by
      intro hsq hfl id hid
      have:=k3 hsq hfl id hid
      rwa [yZ,yZ] at this
     have k4':sj.op.quiet=false→∀ id,yT P ops N j=some id→∀ k,k ≠ id→s0.ob k=st.ob k:=by
      intro hsq id hid k hk
      have:=k4 hsq id hid k hk
      rwa [yZ,yZ] at this
     refine ⟨?_,k2,k3',k4'⟩
     have hslots:∀ n ∈ o.reads,s0.slot n=st.slot n:=fun n hn=>pP hst0 (fun e=>a3 n e hn)
     have hy0:Puts Γ o a s0:=by
      refine hy.of hq hslots ?_ hflat
      intro hlk n hn id hid
      cases hsq:sj.op.quiet with
      | true=>rw [k2 hsq]; exact ⟨rfl,rfl⟩
      | false=>
        cases hfl:yT P ops N j with
        | none=>exact k3' hsq hfl id (hR hlk hsq hfl n hn id hid)
        | some f=>
          have hne:id ≠ f:=by rintro rfl; exact hF _ hfl n hn hid
          rw [k4' hsq f hfl id hne]; exact ⟨rfl,rfl⟩
     refine ih (listed.setIfInBounds j true) s0 ?_ (fun m hm n hn=>by rw [hslots n hn]; exact hrd m hm n hn) (hcl.set hj) (ready_mono hr (Ne.symm hji)) hy0 ?_
     ·intro k hki hun hno sk hsk
      have hjk:j ≠ k:=by
       rintro rfl
       rcases Nat.lt_or_ge j listed.size with h' | h'
       ·simp [h'] at hun
       ·simp [h'] at hjun
      rw [getD_set_ne true hjk] at hun
      obtain ⟨q1,q2,q3⟩:=hfree k hki hun hno sk hsk
      exact ⟨q1,fun hlk hkq hkf n hn id hid=>q2 hlk hkq hkf n hn id (by rw [hslots n hn] at hid; exact hid),fun id hid n hn=>by rw [hslots n hn]; exact q3 id hid n hn⟩
     ·rw [Array.setIfInBounds_comm _ _ hji]; exact k1
    ·rintro x rfl
     exact hQ x _ _ yZ (h2 x rfl)
def mkd (o:SOper) (a:A) (i:Nat) (x:Ob) (st:St):St:=({ st with ob:=upd st.ob i x }:St).put o.dst a
structure Makes (Γ:Ctx) (o:SOper) (a:A) (i:Nat) (x:Ob) (st:St):Prop where
 mkr:o.op.maker=true
 gd:o.guard=none
 ev:eval Γ st.ob (o.dst.getD 0) o.op (o.args.map st.get)=some (.val a [(i,x)])
theorem Makes.step {o:SOper} {a:A} {i:Nat} {x:Ob} {st:St} (h:Makes Γ o a i x st):step Γ o st=some (.normal,mkd o a i x st):=by
 unfold Vm.step
 rw [h.gd,h.ev]
 rfl
theorem eY {so:SOper} (h:qi so=true) {st:St} {id:Nat} (hr:∀ n ∈ so.reads,id ∉ zu (st.slot n)):id ∉ zN (so.args.map st.get):=by
 have key:∀ (l:List SA),(∀ a ∈ l,a ∈ so.args)→id ∉ zN (l.map st.get):=by
  intro l
  induction l with
  | nil=>intro _; simp [zN]
  | cons a l ih=>
    intro hl
    simp only [List.map_cons,zN,List.mem_append,not_or]
    refine ⟨?_,ih fun b hb=>hl b (by simp [hb])⟩
    cases a with
    | k c=>
      have:=List.all_eq_true.1 h _ (hl (.k c) (by simp))
      cases c <;> simp [jc] at this <;> simp [St.get,zu]
    | t n=>exact hr n (qq (hl (.t n) (by simp)))
 exact key so.args fun a ha=>ha
theorem NO {fb:List Nat} {so:SOper} {st s1:St} {ex:Ex} {id:Nat} {x:Ob} (hfl:qi so=true) (h:step Γ so { st with ob:=upd st.ob id x }=some (ex,s1))
  (haw:Away Γ fb so { st with ob:=upd st.ob id x }) (hid:id ∈ fb):
  ∃ s0,step Γ so st=some (ex,s0)∧s1={ s0 with ob:=upd s0.ob id x }∧s0.ob id=st.ob id∧Away Γ fb so st:=by
 have hrefs:id ∉ zN (so.args.map st.get):=eY hfl fun n hn=>haw.rd id hid n hn
 have hargs:so.args.map (St.get { st with ob:=upd st.ob id x })=so.args.map st.get:=by
  apply List.map_congr_left
  intro y _
  cases y <;> rfl
 have zM:∀ out,fY so st→eval Γ (upd st.ob id x) (so.dst.getD 0) so.op (so.args.map st.get)=some out→eval Γ st.ob (so.dst.getD 0) so.op (so.args.map st.get)=some out∧id ∉ (pY out).map (·.1):=by
  intro out hg he
  have hu:=haw.us id hid out (by rw [hargs]; exact he) hg
  exact ⟨Ly he hrefs hu,hu⟩
 have hawst:(fY so st→∃ out,eval Γ (upd st.ob id x) (so.dst.getD 0) so.op (so.args.map st.get)=some out)→Away Γ fb so st:=by
  intro hex
  refine ⟨fun m hm n hn=>haw.rd m hm n hn,fun m hm out ho hg=>?_⟩
  obtain ⟨out',ho'⟩:=hex hg
  obtain ⟨q1,_⟩:=zM out' hg ho'
  rw [q1] at ho
  simp only [Option.some.injEq] at ho
  subst ho
  exact haw.us m hm out' (by rw [hargs]; exact ho') hg
 have fin:fY so st→∀ y,(eval Γ (upd st.ob id x) (so.dst.getD 0) so.op (so.args.map st.get)).map (fun
       | .val a us=>(Ex.normal,({ st with ob:=za (upd st.ob id x) us }:St).put so.dst a)
       | .pan z us=>(.panic z,{ st with ob:=za (upd st.ob id x) us }))=some y→y=(ex,s1)→
   ∃ s0,(eval Γ st.ob (so.dst.getD 0) so.op (so.args.map st.get)).map (fun
     | .val a us=>(Ex.normal,({ st with ob:=za st.ob us }:St).put so.dst a)
     | .pan z us=>(.panic z,{ st with ob:=za st.ob us }))=some (ex,s0)∧s1={ s0 with ob:=upd s0.ob id x }∧s0.ob id=st.ob id∧Away Γ fb so st:=by
  rintro hg y hy rfl
  obtain ⟨out,he,hy⟩:=map_some hy
  obtain ⟨q1,q2⟩:=zM out hg he
  rw [q1]
  have hA:=hawst fun _=>⟨out,he⟩
  cases out with
  | val a us=>
    simp only [Prod.mk.injEq] at hy
    obtain ⟨rfl,rfl⟩:=hy
    refine ⟨_,rfl,?_,?_,hA⟩
    ·rw [ot us _ q2,yZ]
     cases so.dst <;> rfl
    ·rw [yZ]; exact xw us _ q2
  | pan z us=>
    simp only [Prod.mk.injEq] at hy
    obtain ⟨rfl,rfl⟩:=hy
    refine ⟨_,rfl,?_,?_,hA⟩
    ·simp only [ot us _ q2]
    ·exact xw us _ q2
 unfold step at h ⊢
 simp only [hargs] at h
 cases hgd:so.guard with
 | none=>
   rw [hgd] at h
   exact fin (fun g w e=>by rw [hgd] at e; cases e) _ h rfl
 | some gw=>
   obtain ⟨g,w⟩:=gw
   rw [hgd] at h
   simp only at h ⊢
   cases hb:yY (st.slot g) w with
   | none=>rw [hb] at h; cases h
   | some c=>
     rw [hb] at h
     cases c with
     | true=>exact fin (fun g' w' e=>by rw [hgd] at e; cases e; exact hb) _ h rfl
     | false=>
       simp only [Option.some.injEq,Prod.mk.injEq] at h
       obtain ⟨rfl,rfl⟩:=h
       refine ⟨_,rfl,?_,?_,hawst fun hg=>?_⟩
       ·rw [yZ]; cases so.dst <;> rfl
       ·rw [yZ]
       ·have:=hg g w hgd
        rw [hb] at this; cases this
theorem nj {ops:Array Oper} {N:Nx} {i id:Nat} {o:SOper} (h:yT P ops N i=some id) (ho:ql P ops N i=some o):o.op.maker=true∧o.guard=none∧∃ d,o.dst=some d∧id=oid d 0:=by
 unfold yT at h
 rw [ho] at h
 simp only [Option.bind_some] at h
 split at h
 ·rename_i hc
  simp only [Bool.and_eq_true,Option.isNone_iff_eq_none] at hc
  obtain ⟨d,hd,e⟩:=map_some h
  exact ⟨hc.1.1,hc.1.2,d,hd,e.symm⟩
 ·cases h
theorem nv {op:SOp} (h:op.maker=true):op.quiet=false:=by
 cases op <;> first | rfl | cases h
theorem WD {op:SOp} (hm:op.maker=true) {ob:Nat→Ob} {d:Nat} {as:List A} {x:D} {us:List (Nat×Ob)} (h:eval Γ ob d op as=some (.pan x us)):False:=by
 have hmk:∀ {vs:List (Nat×Ob)} {o:O},mk ob d vs o=some (.pan x us)→False:=by intro vs o h; cases h
 cases op with
 | alloc cells=>
   simp only [eval] at h
   split at h
   ·split at h
    ·exact hmk h
    ·cases h
   ·cases h
 | box=>
   simp only [eval] at h
   split at h
   ·split at h
    ·exact hmk h
    ·cases h
   ·cases h
 | mkS e sz b z=>
   simp only [eval] at h
   split at h
   ·split at h
    ·exact hmk h
    ·cases h
   ·cases h
 | bldS e size len parts=>
   simp only [eval] at h
   split at h
   ·obtain ⟨_,_,h⟩:=bind_some h
    exact hmk h
   ·cases h
 | _=>cases hm
theorem YI {a:A}:∀ i ∈ xk a,i ∈ zu a:=by
 have h1:∀ (b:A),∀ i ∈ u0 b,i ∈ zu b:=by
  intro b i hi
  cases b <;> first | (simp only [u0] at hi; cases hi; done) | (simpa [u0,zu] using hi)
 have h2:∀ (cs:List A),∀ i ∈ cs.flatMap u0,i ∈ zN cs:=by
  intro cs
  induction cs with
  | nil=>intro i hi; simp at hi
  | cons c cs ih=>
    intro i hi
    rw [List.flatMap_cons] at hi
    simp only [zN,List.mem_append]
    rcases List.mem_append.1 hi with hi | hi
    ·exact .inl (h1 c i hi)
    ·exact .inr (ih i hi)
 intro i hi
 cases a with
 | agg cs=>simp only [zu]; exact h2 cs i (by simpa [xk] using hi)
 | tup cs=>simp only [zu]; exact h2 cs i (by simpa [xk] using hi)
 | _=>exact h1 _ i (by simpa [xk] using hi)
theorem U9 {f g:Nat→Ob} {id:Nat} {x:Ob} (h:upd f id x=upd g id x) (he:f id=g id):f=g:=by
 funext k
 by_cases hk:k=id
 ·subst hk; exact he
 ·have:=congrFun h k
  rwa [zx _ _ hk,zx _ _ hk] at this
theorem ZW {c:Bool} {ops:Array Oper} {N:Nx} {R:Nat→List Nat} {Q:Ex×St→Prop} {i d id:Nat} {o:SOper} {a:A} {x:Ob} (ho:ql P ops N i=some o) (hd:o.dst=some d) (hid:id=oid d 0)
  (hf:yT P ops N i=some id) (hne:∀ m ∈ wN P ops N i,m ≠ id) (hQc:c=true→∀ x s s',Q (.panic x,s)→Q (.panic x,s')):∀ (yz:Nat) (listed:Array Bool) (st:St),
  (∀ j,j ≠ i→listed.getD j true=false→deps ops ops.size j i=false→∀ sj,ql P ops N j=some sj→apart o sj=true∧qi sj=true∧id ∈ wN P ops N j)→
  (∀ m ∈ wN P ops N i,∀ n ∈ o.reads,m ∉ zu (st.slot n))→
  Closed ops listed→i ∈ Region.ready .any ops listed→Makes Γ o a id x st→kC P Γ c ops N R Q yz (listed.setIfInBounds i true) (mkd o a id x st)→kC P Γ c ops N R Q (yz+1) listed st:=by
 have hq:o.op.quiet=false:=nv (nj hf ho).1
 intro yz
 have self:∀ (K:St→Prop) (st:St),(∀ m ∈ wN P ops N i,∀ n ∈ o.reads,m ∉ zu (st.slot n))→Makes Γ o a id x st→K (mkd o a id x st)→goS P Γ c ops N R Q i K st:=by
  intro K st hrd hp hK
  refine ⟨o,ho,.normal,_,hp.step,fun _=>⟨hK,fun h=>(by rw [hq] at h; cases h),fun _ h=>(by rw [hf] at h; cases h),?_⟩,(fun x e=>by cases e),.inl rfl,⟨hrd,?_⟩,fun _ _=>rfl⟩
  ·intro _ id' h' k hk
   rw [hf] at h'
   cases h'
   unfold mkd
   rw [yZ]
   exact zx _ _ hk
  ·intro m hm out he _
   rw [hp.ev] at he
   simp only [Option.some.injEq] at he
   subst he
   simp only [pY,List.map_cons,List.map_nil,List.mem_singleton]
   exact hne m hm
 induction yz with
 | zero=>
   intro listed st _ hrd hcl hr hy H
   refine ⟨fun h=>(by rw [h] at hr; cases hr),fun j hj=>?_⟩
   by_cases hji:j=i
   ·subst hji; exact self _ st hrd hy H
   ·have:=ready_mono hj hji
    rw [H.1] at this
    cases this
 | succ yz ih=>
   intro listed st hfree hrd hcl hr hy H
   refine ⟨fun h=>(by rw [h] at hr; cases hr),fun j hj=>?_⟩
   by_cases hji:j=i
   ·subst hji; exact self _ st hrd hy H
   ·obtain ⟨sj,hsj,ex,s1,hstep,h1,h2,h3,haw,hnp⟩:=H.2 j (ready_mono hj hji)
    obtain ⟨hjun,oj,hoj,hall⟩:=mem_ready.1 hj
    have hnot:deps ops ops.size j i=false:=hcl.ready hj hr
    obtain ⟨hap,haf,hfb⟩:=hfree j hji hjun hnot sj hsj
    obtain ⟨a1,a2,a3⟩:=iT hap
    have hexc:ex= .normal ∨ (∃ x,ex= .panic x)∧c=true:=by
     cases hc:c with
     | false=>exact .inl (hnp hc (fun e=>by rw [e] at hfb; cases hfb))
     | true=>
       rcases h3 with h3 | h3
       ·exact .inl h3
       ·exact .inr ⟨h3,rfl⟩
    unfold mkd at hstep
    rw [cK a1 a2] at hstep
    obtain ⟨⟨ex0,s0'⟩,hst0,e0⟩:=map_some hstep
    simp only [Prod.mk.injEq] at e0
    obtain ⟨rfl,rfl⟩:=e0
    have haw':=haw.put a1
    obtain ⟨s0,hs0,e0,hkeep,hA⟩:=NO haf hst0 haw' hfb
    subst e0
    rcases hexc with rfl | ⟨⟨x0,rfl⟩,hc⟩
    case inr=>exact ⟨sj,hsj,.panic x0,s0,hs0,(fun e=>by cases e),(fun y e=>by cases e; exact hQc hc _ _ _ (h2 x0 rfl)),.inr ⟨x0,rfl⟩,hA,fun h0 _=>(by rw [hc] at h0; cases h0)⟩
    obtain ⟨k1,k2,k3,k4⟩:=h1 rfl
    unfold mkd at k2 k3 k4
    refine ⟨sj,hsj,.normal,s0,hs0,fun _=>⟨?_,?_,?_,?_⟩,(fun y e=>by cases e),.inl rfl,hA,fun _ _=>rfl⟩
    ·have hslots:∀ n ∈ o.reads,s0.slot n=st.slot n:=fun n hn=>pP hs0 (fun e=>a3 n e hn)
     have hargs:o.args.map s0.get=o.args.map st.get:=by
      apply List.map_congr_left
      intro y hy
      cases y with
      | k _=>rfl
      | t n=>exact hslots n (qq hy)
     have hy0:Makes Γ o a id x s0:=by
      refine ⟨hy.mkr,hy.gd,?_⟩
      rw [hargs]
      refine (iS hy.mkr hy.ev ?_).1
      rw [hd]
      simp only [Option.getD_some]
      rw [← hid,hkeep]
     refine ih (listed.setIfInBounds j true) s0 ?_ (fun m hm n hn=>by rw [hslots n hn]; exact hrd m hm n hn) (hcl.set hj) (ready_mono hr (Ne.symm hji)) hy0 ?_
     ·intro k hki hun hno sk hsk
      have hjk:j ≠ k:=by
       rintro rfl
       rcases Nat.lt_or_ge j listed.size with h' | h'
       ·simp [h'] at hun
       ·simp [h'] at hjun
      rw [getD_set_ne true hjk] at hun
      exact hfree k hki hun hno sk hsk
     ·rw [Array.setIfInBounds_comm _ _ hji]; exact k1
    ·intro hsq
     have:=k2 hsq
     rw [yZ,yZ] at this
     exact U9 this hkeep
    ·intro hsq hfl rid hr
     have:=k3 hsq hfl rid hr
     rw [yZ,yZ] at this
     by_cases hk:rid=id
     ·subst hk; rw [hkeep]; exact ⟨rfl,rfl⟩
     ·simp only [zx _ _ hk] at this; exact this
    ·intro hsq id' hfl k hk
     have:=k4 hsq id' hfl k hk
     rw [yZ,yZ] at this
     by_cases hk':k=id
     ·subst hk'; exact hkeep
     ·simp only [zx _ _ hk'] at this; exact this
theorem oM {op:SOp} {ob:Nat→Ob} {id:Nat} {x:Ob}:∀ {us:List (Nat×Ob)},(id,x) ∈ us→id ∉ vd op ob us→op.isSt=false∧x.leak=true∧x.ver=(ob id).ver
 | [],h,_=>by cases h
 | (i,y) :: us,h,hn=>by
   simp only [vd] at hn
   split at hn
   ·rename_i hc
    simp only [Bool.and_eq_true,Bool.not_eq_true',beq_iff_eq] at hc
    rcases List.mem_cons.1 h with e | h
    ·cases e; exact ⟨hc.1.1,hc.1.2,hc.2⟩
    ·exact oM h hn
   ·simp only [List.mem_cons,not_or] at hn
    rcases List.mem_cons.1 h with e | h
    ·cases e; exact absurd rfl hn.1
    ·exact oM h hn.2
theorem cV {fb:List Nat} {us:List (Nat×Ob)} (h:m6 fb us=false):∀ m ∈ fb,m ∉ us.map (·.1):=by
 intro m hm hin
 cases fb with
 | nil=>cases hm
 | cons f fb=>
   obtain ⟨p,hp,rfl⟩:=List.mem_map.1 hin
   have:(us.any fun p=>(f :: fb).any (· == p.1))=true:=List.any_eq_true.2 ⟨p,hp,List.any_eq_true.2 ⟨p.1,hm,by simp⟩⟩
   unfold m6 at h
   simp only at h
   rw [this] at h; cases h
theorem kR {fb:List Nat} {st:St} {ns:List Nat} (h:pu fb st ns=false):∀ m ∈ fb,∀ n ∈ ns,m ∉ zu (st.slot n):=by
 intro m hm n hn hin
 cases fb with
 | nil=>cases hm
 | cons f fb=>
   have:(ns.any fun n=>(zu (st.slot n)).any fun i=>(f :: fb).any (· == i))=true:=
    List.any_eq_true.2 ⟨n,hn,List.any_eq_true.2 ⟨m,hin,List.any_eq_true.2 ⟨m,hm,by simp⟩⟩⟩
   unfold pu at h
   simp only at h
   rw [this] at h; cases h
theorem K5 {o:SOper} {st:St} {ex:Ex} {s:St} (h:step Γ o st=some (ex,s)) (hg:fY o st):∃ out,eval Γ st.ob (o.dst.getD 0) o.op (o.args.map st.get)=some out:=by
 unfold step at h
 cases ho:o.guard with
 | none=>
   rw [ho] at h
   obtain ⟨out,h1,_⟩:=map_some h
   exact ⟨out,h1⟩
 | some gw=>
   obtain ⟨g,w⟩:=gw
   rw [ho] at h
   simp only [hg g w ho] at h
   obtain ⟨out,h1,_⟩:=map_some h
   exact ⟨out,h1⟩
theorem am {wt:List Nat} {st:St} {T:List Nat} (h:ph wt st T=false):∀ n ∈ wt,∀ id ∈ xk (st.slot n),id ∉ T:=by
 intro n hn id hid hT
 have key:(wt.any fun n=>(xk (st.slot n)).any fun id=>T.any (· == id))=true:=
  List.any_eq_true.2 ⟨n,hn,List.any_eq_true.2 ⟨id,hid,List.any_eq_true.2 ⟨id,hT,by simp⟩⟩⟩
 cases wt with
 | nil=>cases hn
 | cons m wt=>
   unfold ph at h
   simp only at h
   rw [key] at h; cases h
theorem eI {c:Bool} {o:SOper} {st s:St} {ex:Ex} (h:pX Γ c o st=some (ex,s)):step Γ o st=some (ex,s)∧(ex= .normal ∨ ∃ x,ex= .panic x)∧Away Γ o.fb o st∧
  (o.op.quiet=true→o.fl=false→∃ a,ex= .normal∧s=st.put o.dst a∧Puts Γ o a st)∧
  (o.op.quiet=false→o.fl=false→∀ R:List Nat,(∀ id ∈ R,∃ n ∈ o.wt,id ∈ xk (st.slot n))→ex= .normal→iL R st s)∧
  (o.fl=true→o.op.maker=true→o.guard=none→ex= .normal→∃ a i x,eval Γ st.ob (o.dst.getD 0) o.op (o.args.map st.get)=some (.val a [(i,x)])∧s=({ st with ob:=za st.ob [(i,x)] }:St).put o.dst a)∧(c=false→o.fb ≠ []→ex= .normal):=by
 have hlead:pu o.fb st o.reads=false:=by
  unfold pX at h
  cases hl:pu o.fb st o.reads with
  | false=>rfl
  | true=>rw [hl] at h; cases h
 have go:∀ y,(eval Γ st.ob (o.dst.getD 0) o.op (o.args.map st.get)).bind (fun
       | .val a us=>if (o.op.quiet&&!us.isEmpty)||m6 o.fb us||(o.fl&&us.length != 1)||(!o.fl&&ph o.wt st (vd o.op st.ob us)) then none else some (Ex.normal,({ st with ob:=za st.ob us }:St).put o.dst a)
       | .pan x us=>if o.fb.isEmpty||(c&&!m6 o.fb us) then some (.panic x,{ st with ob:=za st.ob us }) else none)=some y→y=(ex,s)→
   (eval Γ st.ob (o.dst.getD 0) o.op (o.args.map st.get)).map (fun
     | .val a us=>(Ex.normal,({ st with ob:=za st.ob us }:St).put o.dst a)
     | .pan x us=>(.panic x,{ st with ob:=za st.ob us }))=some (ex,s)∧(ex= .normal ∨ ∃ x,ex= .panic x)∧
   (∀ m ∈ o.fb,∀ out,eval Γ st.ob (o.dst.getD 0) o.op (o.args.map st.get)=some out→m ∉ (pY out).map (·.1))∧
   (o.op.quiet=true→o.fl=false→∃ a,ex= .normal∧s=st.put o.dst a∧eval Γ st.ob (o.dst.getD 0) o.op (o.args.map st.get)=some (.val a []))∧
   (o.op.quiet=false→o.fl=false→∀ R:List Nat,(∀ id ∈ R,∃ n ∈ o.wt,id ∈ xk (st.slot n))→ex= .normal→iL R st s)∧
   (o.fl=true→ex= .normal→∃ a i x,eval Γ st.ob (o.dst.getD 0) o.op (o.args.map st.get)=some (.val a [(i,x)])∧s=({ st with ob:=za st.ob [(i,x)] }:St).put o.dst a)∧(c=false→o.fb ≠ []→ex= .normal):=by
  rintro y hy rfl
  obtain ⟨out,he,hy⟩:=bind_some hy
  rw [he]
  cases out with
  | val a us=>
    simp only at hy
    split at hy
    ·cases hy
    ·rename_i hc
     simp only [Bool.or_eq_true,not_or,Bool.not_eq_true] at hc
     obtain ⟨⟨⟨c1,c2⟩,c3⟩,c4⟩:=hc
     simp only [Option.some.injEq,Prod.mk.injEq] at hy
     obtain ⟨rfl,rfl⟩:=hy
     refine ⟨rfl,.inl rfl,?_,?_,?_,?_,fun _ _=>rfl⟩
     ·intro m hm out ho
      simp only [Option.some.injEq] at ho
      subst ho
      exact cV c2 m hm
     ·intro hq hf
      have:us=[]:=by
       rw [hq] at c1
       simpa using c1
      subst this
      exact ⟨a,rfl,rfl,rfl⟩
     ·intro hq hf R hR _ id hid
      rw [hf] at c4
      simp only [Bool.not_false,Bool.true_and] at c4
      rw [yZ]
      simp only
      rcases kw (id:=id) us st.ob with e | ⟨x,h1,h2⟩
      ·rw [e]; exact ⟨rfl,rfl⟩
      ·obtain ⟨n,hn,hin⟩:=hR id hid
       have hnt:id ∉ vd o.op st.ob us:=am c4 n hn id hin
       obtain ⟨q1,q2,q3⟩:=oM h1 hnt
       rw [h2]
       exact ⟨q3,Vs q1 hq he _ h1 q2 q3⟩
     ·intro hf _
      rw [hf] at c3
      have hl:us.length=1:=by simpa using c3
      obtain ⟨⟨i,x⟩,rfl⟩:=List.length_eq_one_iff.1 hl
      exact ⟨a,i,x,rfl,rfl⟩
  | pan x us=>
    simp only at hy
    split at hy
    ·rename_i hc
     simp only [Bool.or_eq_true,Bool.and_eq_true,Bool.not_eq_true',List.isEmpty_iff] at hc
     simp only [Option.some.injEq,Prod.mk.injEq] at hy
     obtain ⟨rfl,rfl⟩:=hy
     refine ⟨rfl,.inr ⟨x,rfl⟩,?_,?_,?_,?_,fun h0 h=>?_⟩
     ·intro m hm out ho
      simp only [Option.some.injEq] at ho
      subst ho
      rcases hc with hfb | ⟨_,hh⟩
      ·rw [hfb] at hm; cases hm
      ·exact cV hh m hm
     ·intro hq; exact (fH hq he).elim
     ·intro _ _ _ _ e; cases e
     ·intro _ e; cases e
     ·rcases hc with hfb | ⟨hc,_⟩
      ·exact absurd hfb h
      ·rw [h0] at hc; cases hc
    ·cases hy
 unfold pX at h
 rw [hlead] at h
 simp only [Bool.false_eq_true,if_false] at h
 cases hg:o.guard with
 | none=>
   rw [hg] at h
   obtain ⟨h1,h2,h5,h3,h4,h6,h7⟩:=go _ h rfl
   have hs:step Γ o st=some (ex,s):=by unfold step; simp only [hg]; exact h1
   refine ⟨hs,h2,⟨kR hlead,fun m hm out ho _=>h5 m hm out ho⟩,?_,h4,fun hf _ _ he=>h6 hf he,h7⟩
   intro hq hf
   obtain ⟨a,e1,e2,e3⟩:=h3 hq hf
   subst e1; subst e2
   exact ⟨a,rfl,rfl,⟨hs,.inl e3⟩⟩
 | some gw=>
   obtain ⟨g,w⟩:=gw
   rw [hg] at h
   simp only at h
   split at h
   ·rename_i hb
    obtain ⟨h1,h2,h5,h3,h4,h6,h7⟩:=go _ h rfl
    have hs:step Γ o st=some (ex,s):=by unfold step; simp only [hg,hb]; exact h1
    refine ⟨hs,h2,⟨kR hlead,fun m hm out ho _=>h5 m hm out ho⟩,?_,h4,fun _ _ hgn=>(by cases hgn),h7⟩
    intro hq hf
    obtain ⟨a,e1,e2,e3⟩:=h3 hq hf
    subst e1; subst e2
    exact ⟨a,rfl,rfl,⟨hs,.inl e3⟩⟩
   ·rename_i hb
    simp only [Option.some.injEq,Prod.mk.injEq] at h
    obtain ⟨rfl,rfl⟩:=h
    have hs:step Γ o st=some (.normal,st.put o.dst (.tup [])):=by unfold step; simp only [hg,hb]
    refine ⟨hs,.inl rfl,⟨kR hlead,fun m hm out ho hgo=>?_⟩,?_,?_,fun _ _ hgn=>(by cases hgn),fun _ _=>rfl⟩
    ·have:=hgo g w hg
     rw [hb] at this; cases this
    ·intro hq _
     exact ⟨.tup [],rfl,rfl,⟨hs,.inr ⟨rfl,g,w,hg,hb⟩⟩⟩
    ·intro _ _ R _ _ id _
     rw [yZ]; exact ⟨rfl,rfl⟩
   ·cases h
theorem kr {c:Bool}:∀ {l:List SOper} {st st':St} {ex:Ex},vz Γ c l st=some (ex,st')→∀ n,(∀ p ∈ l,p.dst ≠ some n)→st'.slot n=st.slot n
 | [],st,st',ex,h,n,_=>by
   simp only [vz,Option.some.injEq,Prod.mk.injEq] at h
   rw [h.2]
 | o :: l,st,st',ex,h,n,hn=>by
   simp only [vz] at h
   obtain ⟨⟨e1,s1⟩,h1,h⟩:=bind_some h
   obtain ⟨hs,hor,_⟩:=eI h1
   have hd:o.dst ≠ some n:=hn o (by simp)
   rcases hor with rfl | ⟨x,rfl⟩
   ·rw [kr h n fun p hp=>hn p (by simp [hp]),pP hs hd]
   ·simp only [Option.some.injEq,Prod.mk.injEq] at h
    obtain ⟨rfl,rfl⟩:=h
    unfold step at hs
    have go:∀ y,(eval Γ st.ob (o.dst.getD 0) o.op (o.args.map st.get)).map (fun
          | .val a us=>(Ex.normal,({ st with ob:=za st.ob us }:St).put o.dst a)
          | .pan x us=>(.panic x,{ st with ob:=za st.ob us }))=some y→y=(.panic x,s1)→s1.slot n=st.slot n:=by
     intro y hy e
     obtain ⟨out,_,hy⟩:=map_some hy
     subst e
     cases out with
     | val a us=>simp at hy
     | pan z us=>simp only [Prod.mk.injEq] at hy; rw [← hy.2]
    cases hg:o.guard with
    | none=>rw [hg] at hs; exact go _ hs rfl
    | some gw=>
      obtain ⟨g,w⟩:=gw
      rw [hg] at hs
      simp only at hs
      split at hs
      ·exact go _ hs rfl
      ·simp at hs
      ·cases hs
def XY (c:Bool) (ex:Ex) (st':St):Ex×St→Prop
 | (.normal,s)=>ex= .normal∧s=st'
 | (.panic x,s)=>ex= .panic x∧(c=false→s.ob=st'.ob)
 | _=>False
theorem Tm {α:Type} {c:Bool} {x y:α} (h:(if c=true then some x else none)=some y):c=true∧x=y:=by
 cases c
 ·cases h
 ·simp only [if_true,Option.some.injEq] at h; exact ⟨rfl,h⟩
theorem nI {c:Bool} {ops:Array Oper} {N:Nx} {R:Nat→List Nat}:∀ (yz:Nat) (listed:Array Bool) {l:List SOper} {st st':St} {ex:Ex},
  kD P ops N yz listed=some l→Closed ops listed→vz Γ c l st=some (ex,st')→(∀ j id,id ∈ R j ↔ ∃ n ∈ io P ops N j,id ∈ xk (st'.slot n))→
  kC P Γ c ops N R (XY c ex st') yz listed st
 | 0,listed,l,st,st',ex,hp,hcl,hr,hR=>by
   simp only [kD] at hp
   split at hp
   ·rename_i he
    simp only [Option.some.injEq] at hp
    obtain rfl:=hp
    simp only [vz,Option.some.injEq,Prod.mk.injEq] at hr
    obtain ⟨rfl,rfl⟩:=hr
    exact ⟨by simpa using he,rfl,rfl⟩
   ·cases hp
 | yz+1,listed,l,st,st',ex,hp,hcl,hr,hR=>by
   simp only [kD] at hp
   split at hp
   ·split at hp
    ·rename_i he
     simp only [Option.some.injEq] at hp
     obtain rfl:=hp
     simp only [vz,Option.some.injEq,Prod.mk.injEq] at hr
     obtain ⟨rfl,rfl⟩:=hr
     have he':Region.ready .any ops listed=[]:=by simpa using he
     exact ⟨fun _=>⟨rfl,rfl⟩,fun i hi=>by rw [he'] at hi; cases hi⟩
    ·cases hp
   ·rename_i i hpick
    obtain ⟨o,ho,hp⟩:=bind_some hp
    obtain ⟨rest,hrest,hp⟩:=bind_some hp
    obtain ⟨hcond,hp⟩:=Tm hp
    ·obtain rfl:=hp
     simp only [Bool.and_eq_true] at hcond
     obtain ⟨⟨hir,hcond⟩,hfbf⟩:=hcond
     have hir':i ∈ Region.ready .any ops listed:=by
      obtain ⟨k,hk,hke⟩:=List.any_eq_true.1 hir
      rw [← beq_iff_eq.1 hke]; exact hk
     have hilt:i < ops.size:=by
      obtain ⟨oi,hoi,_⟩:=bind_some ho
      exact (Array.getElem?_eq_some_iff.1 hoi).1
     simp only [vz] at hr
     obtain ⟨⟨e1,s1⟩,hex,hr⟩:=bind_some hr
     obtain ⟨hs,hor,haw,hquiet,heff,hfloat,hnpan⟩:=eI hex
     replace hs:step Γ o st=some (e1,s1):=hs
     replace haw:Away Γ (wN P ops N i) o st:=⟨haw.rd,haw.us⟩
     have huntied:∀ j,j ≠ i→listed.getD j true=false→deps ops ops.size j i=false→mX ops i j=true:=by
      intro j hji hun hno
      have h1:deps ops ops.size i j=false:=by
       cases hd:deps ops ops.size i j with
       | false=>rfl
       | true=>
         exfalso
         have:listed.getD j false=true:=by
          cases hsz:ops.size with
          | zero=>rw [hsz] at hd; cases hd
          | succ n=>
            rw [hsz] at hd
            simp only [Vm.deps] at hd
            obtain ⟨_,oi,hoi,hall⟩:=mem_ready.1 hir'
            rw [hoi] at hd
            obtain ⟨e,he,hb⟩:=Array.any_eq_true'.1 hd
            simp only [Bool.and_eq_true,Bool.or_eq_true,beq_iff_eq] at hb
            have hl:=hall e he hb.1
            rcases hb.2 with q | q
            ·rw [← q]; exact hl
            ·exact hcl.deps n e.on hl q
         rcases Nat.lt_or_ge j listed.size with h' | h'
         ·simp [h'] at this hun; rw [hun] at this; cases this
         ·simp [Array.getElem?_eq_none h'] at this
      have h2:(i == j)=false:=by simpa using Ne.symm hji
      unfold mX
      simp [h1,hno,h2]
     have hbeside:∀ j,j ≠ i→listed.getD j true=false→deps ops ops.size j i=false→∀ f,yT P ops N j=some f→f ∈ wN P ops N i:=by
      intro j hji hun hno f hf
      unfold wN
      refine List.mem_filterMap.2 ⟨j,List.mem_range.2 ?_,?_⟩
      ·unfold yT ql at hf
       cases hoj:ops[j]? with
       | none=>rw [hoj] at hf; cases hf
       | some oj=>exact (Array.getElem?_eq_some_iff.1 hoj).1
      ·rw [if_pos]
       ·exact hf
       ·have:=huntied j hji hun hno
        unfold mX at this ⊢
        simp only [Bool.and_eq_true,Bool.not_eq_true',beq_eq_false_iff_ne,ne_eq] at this ⊢
        exact ⟨⟨fun e=>this.1.1 e.symm,this.2⟩,this.1.2⟩
     cases hq:o.op.quiet with
     | true=>
       have hnf:yT P ops N i=none:=by
        cases hf:yT P ops N i with
        | none=>rfl
        | some f=>have:=nv (nj hf ho).1; rw [hq] at this; cases this
       obtain ⟨a,rfl,rfl,hputs⟩:=hquiet hq (by simp only [hnf]; rfl)
       replace hputs:Puts Γ o a st:=hputs
       simp only at hr
       have h2:=hr
       rw [if_pos hq] at hcond
       simp only [Bool.and_eq_true] at hcond
       obtain ⟨⟨hflat,hfree⟩,hwatch⟩:=hcond
       have IH:=nI yz (listed.setIfInBounds i true) hrest (hcl.set hir') h2 hR
       refine YQ ho hq ?_ ?_ yz listed st ?_ haw.rd hcl hir' hputs IH
       ·intro b hb
        have:=List.all_eq_true.1 hflat _ hb
        cases b <;> simp [jc] at this <;> rfl
       ·rintro x s s' he ⟨h1,h2⟩
        exact ⟨h1,fun hc=>by rw [← he]; exact h2 hc⟩
       ·intro j hji hun hno sj hsj
        obtain ⟨oj,hoj,_⟩:=bind_some hsj
        have hjlt:j < ops.size:=(Array.getElem?_eq_some_iff.1 hoj).1
        have q:=List.all_eq_true.1 hfree j (List.mem_range.2 hjlt)
        have hno':deps ops ops.size j i=false:=hno
        have hji':(j == i)=false:=by simpa using hji
        simp only [hun,hji',hno',Bool.false_or,hsj,Option.any_some] at q
        refine ⟨q,?_,?_⟩
        ·intro hlk hsq _ n hn id hid
         have hin:n ∈ ft P ops N listed i o:=by
          unfold ft
          rw [if_pos]
          ·exact hn
          ·rw [hlk,Bool.true_and,List.any_eq_true]
           refine ⟨j,List.mem_range.2 hjlt,?_⟩
           simp only [hun,hji',hno',hsj,Option.any_some,hsq,Bool.not_false,Bool.and_self]
         have q2:=List.all_eq_true.1 hwatch n hin
         simp only [Bool.and_eq_true,Bool.not_eq_true',beq_eq_false_iff_ne,ne_eq,List.all_eq_true] at q2
         refine (hR j id).2 ⟨n,?_,?_⟩
         ·unfold io
          refine List.mem_flatMap.2 ⟨i,List.mem_range.2 hilt,?_⟩
          rw [ho]
          simp only [hq,hlk,huntied j hji hun hno,Bool.and_self,if_true]
          exact hn
         ·have e1:=kr h2 n (fun p hp=>q2.2 p hp)
          have e2:(st.put o.dst a).slot n=st.slot n:=pP hputs.1 q2.1
          rw [e1]
          exact (congrArg xk e2) ▸ hid
        ·intro f hf n hn hm
         exact haw.rd f (hbeside j hji hun hno f hf) n hn (YI f hm)
     | false=>
       rw [if_neg (by rw [hq]; simp)] at hcond
       cases hf:yT P ops N i with
       | some id=>
         rw [hf] at hcond
         simp only [Bool.and_eq_true] at hcond
         obtain ⟨hflat,hfree⟩:=hcond
         obtain ⟨hmk,hgd,d,hd,hid⟩:=nj hf ho
         have hfl:({ o with fb:=wN P ops N i,fl:=(yT P ops N i).isSome,wt:=if o.op.quiet then [] else io P ops N i }:SOper).fl=true:=by simp only [hf]; rfl
         rcases hor with rfl | ⟨x,rfl⟩
         ·obtain ⟨a,i',x,he,rfl,rfl⟩:=hfloat hfl hmk hgd rfl
          replace he:eval Γ st.ob (o.dst.getD 0) o.op (o.args.map st.get)=some (.val a [(i',x)]):=he
          have hi':i'=id:=by
           have:=(iS hmk he rfl).2.1
           rw [hd] at this
           rw [this,hid]; rfl
          subst hi'
          simp only at hr
          have IH:=nI yz (listed.setIfInBounds i true) hrest (hcl.set hir') hr hR
          refine ZW ho hd hid hf ?_ (fun hc x s s' ⟨h1,_⟩=>⟨h1,fun h0=>(by rw [hc] at h0; cases h0)⟩) yz listed st ?_ haw.rd hcl hir' ⟨hmk,hgd,he⟩ IH
          ·intro m hm e
           have:=haw.us m hm _ he (fun g w e=>by rw [hgd] at e; cases e)
           apply this
           rw [e]; simp [pY]
          ·intro j hji hun hno sj hsj
           obtain ⟨oj,hoj,_⟩:=bind_some hsj
           have hjlt:j < ops.size:=(Array.getElem?_eq_some_iff.1 hoj).1
           have q:=List.all_eq_true.1 hfree j (List.mem_range.2 hjlt)
           have hji':(j == i)=false:=by simpa using hji
           simp only [hun,hji',hno,Bool.false_or,hsj,Option.any_some,Bool.and_eq_true,List.any_eq_true,beq_iff_eq] at q
           obtain ⟨⟨q1,q2⟩,k,hk,rfl⟩:=q
           exact ⟨q1,q2,hk⟩
         ·
          exfalso
          unfold step at hs
          rw [hgd] at hs
          obtain ⟨out,he,hs⟩:=map_some hs
          cases out with
          | val a us=>simp at hs
          | pan y us=>exact WD hmk he
       | none=>
         rw [hf] at hcond
         simp only [Bool.and_eq_true] at hcond
         have honly:∀ j ∈ Region.ready .any ops listed,j=i:=fun j hj=>by
          have:=List.all_eq_true.1 hcond.1 j hj
          simpa using this
         have hfl:({ o with fb:=wN P ops N i,fl:=(yT P ops N i).isSome,wt:=if o.op.quiet then [] else io P ops N i }:SOper).fl=false:=by simp only [hf]; rfl
         refine ⟨fun h0=>(by rw [h0] at hir'; cases hir'),fun j hj=>?_⟩
         have:=honly j hj
         subst this
         rcases hor with rfl | ⟨x,rfl⟩
         ·simp only at hr
          have IH:=nI yz (listed.setIfInBounds j true) hrest (hcl.set hir') hr hR
          refine ⟨o,ho,.normal,s1,hs,fun _=>⟨IH,fun h=>(by rw [hq] at h; cases h),fun h _=>heff h hfl (R j) (fun id hid=>?_) rfl,fun _ id h=>(by rw [hf] at h; cases h)⟩,
           (fun x e=>by cases e),.inl rfl,haw,fun _ _=>rfl⟩
          obtain ⟨n,hn,hin⟩:=(hR j id).1 hid
          have q2:=List.all_eq_true.1 hcond.2 n hn
          simp only [Bool.and_eq_true,Bool.not_eq_true',beq_eq_false_iff_ne,ne_eq,List.all_eq_true] at q2
          refine ⟨n,by simp only [hq]; exact hn,?_⟩
          have e1:=kr hr n (fun p hp=>q2.2 p hp)
          have e2:s1.slot n=st.slot n:=pP hs q2.1
          rw [e1] at hin
          exact (congrArg xk e2) ▸ hin
         ·simp only [Option.some.injEq,Prod.mk.injEq] at hr
          obtain ⟨rfl,rfl⟩:=hr
          exact ⟨o,ho,.panic x,s1,hs,(fun e=>by cases e),(fun y e=>by cases e; exact ⟨rfl,fun _=>rfl⟩),.inr ⟨x,rfl⟩,haw,fun h0 h=>hnpan h0 h⟩
theorem Inv.drawn {st:St} {S:Nat→Nat} {hd:Nat→Value} {role:Nat→Option Nat} {act:Act} {w:World} (h:Inv F st S hd role act w) (k:Nat):
  Inv F st S hd role act { w with drawn:=k }:=by
 have hle:Le ⟨S,w,hd,st.ob⟩ ⟨S,{ w with drawn:=k },hd,st.ob⟩:=⟨fun b o v a c=>⟨a,c⟩,fun _=>Nat.le_refl _,fun _ _=>⟨rfl,rfl,rfl⟩⟩
 exact ⟨h.num,h.dfr,h.fix,fun n=>R.mono hle _ _ (h.slots n),fun id=>(h.obs id).keep hle id rfl rfl (fun b hb _=>⟨rfl,rfl,hb⟩),h.os,h.tape,h.output,h.size,h.heap,h.gl,h.roleP,h.role,h.par⟩
theorem j4 (hm:P.follows .mixedOrders=true) (hΓ:SoundAll P Γ):lF P Γ:=by
 intro F ps hps id ops live watch sops n st st' ex S hd role act w hplan hrun hI
 simp only [run] at hrun
 obtain ⟨⟨e1,s1⟩,h1,hrun⟩:=map_some hrun
 have main:kC P Γ ps.isEmpty ops F.N (fun j=>(io P ops F.N j).flatMap fun n=>xk (s1.slot n)) (XY ps.isEmpty e1 s1) ops.size (Array.replicate ops.size false) st:=
  nI ops.size _ hplan (fun k o hk=>by rw [Array.getD_eq_getD_getElem?] at hk; rcases Nat.lt_or_ge k ops.size with h' | h' <;> simp [h'] at hk) h1 (fun j id=>List.mem_flatMap)
 cases e1 with
 | normal=>
   simp only [Prod.mk.injEq] at hrun
   obtain ⟨rfl,rfl⟩:=hrun
   refine wp_region_any hm (pF hΓ ?_ ?_ _ _ _ _ _ main ⟨S,hd,role,hI.drawn _,rfl⟩)
   ·rintro s ⟨_,rfl⟩ a w' ⟨S',hd',role',hI',_⟩
    exact ⟨S',hd',role',hI'.only live,rfl⟩
   ·rintro x s ⟨h,_⟩; cases h
 | panic x=>
   simp only [Prod.mk.injEq] at hrun
   obtain ⟨rfl,rfl⟩:=hrun
   refine wp_region_any hm (pF hΓ ?_ ?_ _ _ _ _ _ main ⟨S,hd,role,hI.drawn _,rfl⟩)
   ·rintro s ⟨h,_⟩; cases h
   ·rintro y s ⟨h,hob⟩ e a w' ⟨S',hd',role',hI',v,he,hv⟩
    cases h
    have hforget:s.forget ps=s1.forget ps:=by
     cases hps0:ps.isEmpty with
     | false=>unfold St.forget; rw [hob hps0]
     | true=>
       obtain rfl:=List.isEmpty_iff.1 hps0
       rfl
    obtain ⟨S2,hI2,hstab⟩:=hI'.forget hps
    rw [hforget] at hI2
    exact ⟨S2,hd',role',hI2,v,he,RD.mono hstab _ _ hv⟩
 | exit i=>
   refine wp_region_any hm (pF hΓ ?_ ?_ _ _ _ _ _ main ⟨S,hd,role,hI.drawn _,rfl⟩)
   ·rintro s ⟨h,_⟩; cases h
   ·rintro x s ⟨h,_⟩; cases h
 | ret=>
   refine wp_region_any hm (pF hΓ ?_ ?_ _ _ _ _ _ main ⟨S,hd,role,hI.drawn _,rfl⟩)
   ·rintro s ⟨h,_⟩; cases h
   ·rintro x s ⟨h,_⟩; cases h
end
end Go.Vm
