/- A region whose order is drawn: every order does what the run in one order tells. Second part: orders. -/
import Derived.Test.YtpjfklhaogdfeaaGreatDoorVmDraw
set_option linter.unusedVariables false
set_option linter.unusedSectionVars false
set_option linter.unusedSimpArgs false
namespace Go.Vm
variable [Gl]
section
variable {F:Fr} {P:Program} {Γ:Ctx}
theorem XR (hΓ:SoundAll P Γ) {ops:Array Oper} {i:Nat} {o:Oper} {so:SOper} (ho:ops[i]? =some o) (hc:sT P ops F.N o=some so) {st s1:St} {ex:Ex}
  (hstep:step Γ so st=some (ex,s1)) {S:Nat→Nat} {hd:Nat→Value} {role:Nat→Option Nat} {act:Act} {w:World} (hI:Inv F st S hd role act w)
  {K:Act→World→Prop} {Q:Exit→Act→World→Prop} (hK:ex= .normal→∀ act' w',Post F .normal s1 .normal act' w'→K act' w')
  (hQ:∀ x,ex= .panic x→∀ e act' w',Post F (.panic x) s1 e act' w'→Q e act' w'):wpOp P ops Q i K act w:=by
 obtain ⟨h1,h2,h3,h4⟩:=lP hc
 have doit:∀ x,(eval Γ st.ob (so.dst.getD 0) so.op (so.args.map st.get)).map (fun
       | .val a us=>(Ex.normal,({ st with ob:=za st.ob us }:St).put so.dst a)
       | .pan x us=>(.panic x,{ st with ob:=za st.ob us }))=some x→x=(ex,s1)→o.wp P act w K Q:=by
  intro x hx e
  obtain ⟨out,he,hx⟩:=map_some hx
  subst e
  rw [h3] at he hx
  refine iW hΓ hI h1 h4 he ?_ ?_
  ·rintro a us rfl act' w' hp
   simp only [Prod.mk.injEq] at hx
   obtain ⟨rfl,rfl⟩:=hx
   exact hK rfl act' w' hp
  ·rintro x us rfl e act' w' hp
   simp only [Prod.mk.injEq] at hx
   obtain ⟨rfl,rfl⟩:=hx
   exact hQ x rfl e act' w' hp
 unfold wpOp
 simp only [ho]
 unfold step at hstep
 cases hg:so.guard with
 | none=>
   rw [hg] at hstep
   have hog:o.guard=none:=by
    rw [hg] at h2
    unfold qv at h2
    split at h2
    ·assumption
    ·obtain ⟨_,_,h2⟩:=bind_some h2
     obtain ⟨_,_,h2⟩:=map_some h2
     cases h2
   rw [if_pos (by simp [Region.wanted,hog])]
   exact .inl (doit _ hstep rfl)
 | some gw=>
   obtain ⟨g,want⟩:=gw
   rw [hg] at hstep h2
   simp only at hstep
   unfold qv at h2
   split at h2
   ·cases h2
   ·rename_i j want' hog
    obtain ⟨oj,hoj,h2⟩:=bind_some h2
    obtain ⟨dj,hdj,h2⟩:=map_some h2
    simp only [Option.some.injEq,Prod.mk.injEq] at h2
    obtain ⟨rfl,rfl⟩:=h2
    split at hstep
    ·rename_i hb
     rw [if_pos (qS hog hoj hdj (hI.slots dj) hb)]
     exact .inl (doit _ hstep rfl)
    ·rename_i hb
     rw [if_neg (by rw [qS hog hoj hdj (hI.slots dj) hb]; simp)]
     simp only [Option.some.injEq,Prod.mk.injEq] at hstep
     obtain ⟨rfl,rfl⟩:=hstep
     rw [h3] at hK
     exact hK rfl _ _ ⟨S,hd,role,hI.put (d:=o.dst) (a:= .tup []) h4 ⟨#[],rfl,rfl⟩,rfl⟩
    ·cases hstep
def iL (R:List Nat) (st st1:St):Prop:=∀ id ∈ R,(st1.ob id).ver=(st.ob id).ver∧(st1.ob id).o=(st.ob id).o
def fY (so:SOper) (st:St):Prop:=∀ g w,so.guard=some (g,w)→yY (st.slot g) w=some true
def pY:Out→List (Nat×Ob)
 | .val _ us=>us
 | .pan _ us=>us
structure Away (Γ:Ctx) (fb:List Nat) (so:SOper) (st:St):Prop where
 rd:∀ m ∈ fb,∀ n ∈ so.reads,m ∉ zu (st.slot n)
 us:∀ m ∈ fb,∀ out,eval Γ st.ob (so.dst.getD 0) so.op (so.args.map st.get)=some out→fY so st→m ∉ (pY out).map (·.1)
def goS (P:Program) (Γ:Ctx) (c:Bool) (ops:Array Oper) (N:Nx) (R:Nat→List Nat) (Q:Ex×St→Prop) (i:Nat) (K:St→Prop) (st:St):Prop:=
 ∃ so,ql P ops N i=some so∧∃ ex s1,step Γ so st=some (ex,s1)∧(ex= .normal→K s1∧(so.op.quiet=true→s1.ob=st.ob)∧(so.op.quiet=false→yT P ops N i=none→iL (R i) st s1)∧
   (so.op.quiet=false→∀ id,yT P ops N i=some id→∀ k,k ≠ id→s1.ob k=st.ob k))∧(∀ x,ex= .panic x→Q (ex,s1))∧(ex= .normal ∨ ∃ x,ex= .panic x)∧Away Γ (wN P ops N i) so st∧(c=false→wN P ops N i ≠ []→ex= .normal)
def kC (P:Program) (Γ:Ctx) (c:Bool) (ops:Array Oper) (N:Nx) (R:Nat→List Nat) (Q:Ex×St→Prop):Nat→Array Bool→St→Prop
 | 0,listed,st=>Region.ready .any ops listed=[]∧Q (.normal,st)
 | yz+1,listed,st=>(Region.ready .any ops listed=[]→Q (.normal,st))∧
    ∀ i ∈ Region.ready .any ops listed,goS P Γ c ops N R Q i (kC P Γ c ops N R Q yz (listed.setIfInBounds i true)) st
theorem pF {c:Bool} (hΓ:SoundAll P Γ) {ops:Array Oper} {R:Nat→List Nat} {Q:Ex×St→Prop} {Q':Exit→Act→World→Prop}
  (hn:∀ s,Q (.normal,s)→∀ a w,Post F .normal s .normal a w→Q' .normal a w) (hp:∀ x s,Q (.panic x,s)→∀ e a w,Post F (.panic x) s e a w→Q' e a w):
  ∀ (yz:Nat) (listed:Array Bool) (st:St) (act:Act) (w:World),kC P Γ c ops F.N R Q yz listed st→Post F .normal st .normal act w→wpAny P .any ops Q' yz listed act w
 | 0,listed,st,act,w,h,hpost=>⟨h.1,hn _ h.2 _ _ hpost⟩
 | yz+1,listed,st,act,w,h,hpost=>by
   refine ⟨fun h0=>hn _ (h.1 h0) _ _ hpost,fun i hi=>?_⟩
   obtain ⟨so,hso,ex,s1,hst,h1,h2,h3,_⟩:=h.2 i hi
   obtain ⟨o,ho,hc⟩:=bind_some hso
   obtain ⟨S,hd,role,hI,_⟩:=hpost
   refine XR hΓ ho hc hst hI ?_ ?_
   ·intro e act' w' hp'
    exact pF hΓ hn hp yz _ s1 act' w' (h1 e).1 hp'
   ·rintro x rfl e act' w' hp'
    exact hp x s1 (h2 x rfl) e act' w' hp'
theorem jf {st:St} {d:Option Nat} {a:A} {x:SA} (h:∀ n,x= .t n→d ≠ some n):(st.put d a).get x=st.get x:=by
 cases d with
 | none=>rfl
 | some k=>
   cases x with
   | k _=>rfl
   | t n=>
     show upd st.slot k a n=st.slot n
     exact zx _ _ (fun e=>h n rfl (by rw [e]))
theorem yZ {st:St} {d:Option Nat} {a:A}:(st.put d a).ob=st.ob:=by cases d <;> rfl
theorem cw {st:St} {d e:Option Nat} {a b:A} (h:∀ k,d=some k→e ≠ some k):(st.put d a).put e b=(st.put e b).put d a:=by
 cases d with
 | none=>rfl
 | some k=>
   cases e with
   | none=>rfl
   | some m=>
     have hne:m ≠ k:=fun x=>h k rfl (by rw [x])
     show ({ slot:=upd (upd st.slot k a) m b,ob:=st.ob }:St)={ slot:=upd (upd st.slot m b) k a,ob:=st.ob }
     congr 1
     funext n
     unfold upd
     by_cases h1:n=m
     ·subst h1; simp [hne]
     ·simp [h1]
theorem iR {st:St} {d:Option Nat} {a:A} {ob:Nat→Ob}:({ (st.put d a) with ob:=ob }:St)=({ st with ob:=ob }:St).put d a:=by cases d <;> rfl
theorem qq {o:SOper} {n:Nat} (h:SA.t n ∈ o.args):n ∈ o.reads:=by
 unfold SOper.reads
 exact List.mem_append.2 (.inl (List.mem_filterMap.2 ⟨.t n,h,rfl⟩))
theorem pt {o:SOper} {g:Nat} {w:Bool} (h:o.guard=some (g,w)):g ∈ o.reads:=by
 unfold SOper.reads
 rw [h]; simp
theorem Sz {o:SOper} {st:St} {d:Option Nat} {a:A} (h:∀ k,d=some k→k ∉ o.reads):o.args.map (st.put d a).get=o.args.map st.get:=by
 apply List.map_congr_left
 intro x hx
 apply jf
 rintro n rfl e
 exact h n e (qq hx)
theorem cK {o:SOper} {st:St} {d:Option Nat} {a:A} (h:∀ k,d=some k→k ∉ o.reads) (h':∀ k,d=some k→o.dst ≠ some k):
  step Γ o (st.put d a)=(step Γ o st).map fun x=>(x.1,x.2.put d a):=by
 unfold step
 simp only [yZ,Sz h]
 have hgo:(eval Γ st.ob (o.dst.getD 0) o.op (o.args.map st.get)).map (fun
   | .val v us=>(Ex.normal,({ (st.put d a) with ob:=za st.ob us }:St).put o.dst v)
   | .pan x us=>(.panic x,{ (st.put d a) with ob:=za st.ob us }))=
   ((eval Γ st.ob (o.dst.getD 0) o.op (o.args.map st.get)).map (fun
   | .val v us=>(Ex.normal,({ st with ob:=za st.ob us }:St).put o.dst v)
   | .pan x us=>(.panic x,{ st with ob:=za st.ob us }))).map fun x=>(x.1,x.2.put d a):=by
  rw [Option.map_map]
  congr 1
  funext out
  cases out with
  | val v us=>simp only [Function.comp,iR]; rw [cw h']
  | pan x us=>simp only [Function.comp,iR]
 cases hg:o.guard with
 | none=>exact hgo
 | some gw=>
   obtain ⟨g,want⟩:=gw
   have hs:(st.put d a).slot g=st.slot g:=by
    have:=jf (st:=st) (d:=d) (a:=a) (x:= .t g) (by rintro n e e'; cases e; exact h g e' (pt hg))
    exact this
   simp only [hs]
   split
   ·exact hgo
   ·simp only [Option.map_some]; rw [cw h']
   ·rfl
def Puts (Γ:Ctx) (o:SOper) (a:A) (st:St):Prop:=step Γ o st=some (.normal,st.put o.dst a)∧
 ((eval Γ st.ob (o.dst.getD 0) o.op (o.args.map st.get)=some (.val a [])) ∨ a= .tup []∧∃ g w,o.guard=some (g,w)∧yY (st.slot g) w=some false)
theorem Puts.of {o:SOper} {a:A} {st st1:St} (h:Puts Γ o a st) (hq:o.op.quiet=true) (hr:∀ n ∈ o.reads,st1.slot n=st.slot n)
  (hob:o.op.looks=true→∀ n ∈ o.reads,∀ id ∈ xk (st.slot n),(st1.ob id).ver=(st.ob id).ver∧(st1.ob id).o=(st.ob id).o)
  (hk:∀ a,SA.k a ∈ o.args→xk a=[]):Puts Γ o a st1:=by
 have hargs:o.args.map st1.get=o.args.map st.get:=by
  apply List.map_congr_left
  intro x hx
  cases x with
  | k _=>rfl
  | t n=>exact hr n (qq hx)
 rcases h with ⟨h1,h2 | ⟨rfl,g,w,hg,hs⟩⟩
 ·have h2':eval Γ st1.ob (o.dst.getD 0) o.op (o.args.map st1.get)=some (.val a []):=by
   rw [hargs]
   refine Y0 hq h2 ?_
   intro hlk x hx id hid
   obtain ⟨y,hy,rfl⟩:=List.mem_map.1 hx
   cases y with
   | k z=>simp only [St.get] at hid; rw [hk z hy] at hid; cases hid
   | t n=>exact hob hlk n (qq hy) id hid
  refine ⟨?_,.inl h2'⟩
  unfold step at h1 ⊢
  cases hg:o.guard with
  | none=>simp only [h2',Option.map_some,za]
  | some gw=>
    obtain ⟨g,want⟩:=gw
    rw [hg] at h1
    simp only at h1 ⊢
    rw [hr g (pt hg)]
    cases hb:yY (st.slot g) want with
    | none=>rw [hb] at h1; cases h1
    | some x=>
      rw [hb] at h1
      cases x with
      | true=>simp only [h2',Option.map_some,za]
      | false=>
        simp only at h1 ⊢
        have:a= .tup [] ∨ o.dst=none:=by
         simp only [Option.some.injEq,Prod.mk.injEq,true_and] at h1
         cases hd:o.dst with
         | none=>exact .inr rfl
         | some k=>
           left
           rw [hd] at h1
           have:=congrFun (congrArg St.slot h1) k
           simp only [St.put,zq] at this
           exact this.symm
        rcases this with rfl | hd
        ·rfl
        ·rw [hd]; rfl
 ·have hs':yY (st1.slot g) w=some false:=by rw [hr g (pt hg)]; exact hs
  refine ⟨?_,.inr ⟨rfl,g,w,hg,hs'⟩⟩
  unfold step
  simp only [hg,hs']
end
end Go.Vm
