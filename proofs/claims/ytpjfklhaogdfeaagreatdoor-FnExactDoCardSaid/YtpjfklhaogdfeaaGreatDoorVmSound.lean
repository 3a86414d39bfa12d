/- A function's contract, from its code. -/
import Derived.Test.YtpjfklhaogdfeaaGreatDoorVmOut
set_option linter.unusedVariables false
set_option linter.unusedSectionVars false
set_option linter.unusedSimpArgs false
namespace Go.Vm
variable [Gl]
def lF (P:Program) (Γ:Ctx):Prop:=∀ (F:Fr) (ps:List Nat),F.par.map (·.1)=ps→fm P Γ F ps
mutual
theorem co (ob:Nat→Ob) (d:Nat):∀ (x:X) (j:Nat),∀ p ∈ (ofX ob d x j).2.1,p.2.o ≠ .dead
 | .d _,_,p,h=>by simp [ofX] at h
 | .nil,_,p,h=>by simp [ofX] at h
 | .own ..,j,p,h=>by simp only [ofX,List.mem_singleton] at h; subst h; simp
 | .res ..,j,p,h=>by simp only [ofX,List.mem_singleton] at h; subst h; simp
 | .par _,_,p,h=>by simp [ofX] at h
 | .box xs,j,p,h=>by
   simp only [ofX,List.mem_append,List.mem_singleton] at h
   rcases h with h | h
   ·exact nS ob d xs _ p h
   ·subst h; simp [wU]
 | .agg xs,j,p,h=>nS ob d xs j p h
 | .tup xs,j,p,h=>nS ob d xs j p h
theorem nS (ob:Nat→Ob) (d:Nat):∀ (xs:List X) (j:Nat),∀ p ∈ (yy ob d xs j).2.1,p.2.o ≠ .dead
 | [],_,p,h=>by simp [yy] at h
 | x :: xs,j,p,h=>by
   simp only [yy,List.mem_append] at h
   rcases h with h | h
   ·exact co ob d x j p h
   ·exact nS ob d xs _ p h
end
theorem lq:∀ (xs:List X) (i:Nat),∀ p ∈ (enter i xs).2,p.2.o ≠ .dead
 | [],_,p,h=>by simp [enter] at h
 | x :: xs,i,p,h=>by
   simp only [enter,List.mem_append] at h
   rcases h with h | h
   ·exact co _ i x 0 p h
   ·exact lq xs (i+1) p h
section
variable {P:Program} {Γ:Ctx}
theorem kj {cuts:List Nat} {fn:Func} {rs:List RV} {k:Nat} (hrs:vG P fn.results.toList=some rs) (hrs4:fn.results.toList.length ≤ 4) (hk:k ≤ fn.ntmps)
  {S:Nat→Nat} {w:World} {args:Array Value} {xs:List X} {bs:List Nat} (hxs:RXs S w xs args.toList bs) (hbs:fK w bs)
  (hin:xs.length=k∧xs.all rU=true∧zF ((enter 0 xs).2.map (·.1))=true):
  ∃ (F:Fr) (hd:Nat→Value) (role:Nat→Option Nat),F.N=⟨fn.ntmps,[],cuts⟩∧F.dfr=[]∧F.par.map (·.1)=(enter 0 xs).2.map (·.1)∧
    Inv F { slot:=zj (enter 0 xs).1,ob:=zt (enter 0 xs).2 } S hd role { tmps:=args++Array.replicate (fn.ntmps - args.size) undef,defers:=[] } w∧
    ∀ (ex:Ex) (st':St) (out:XOut),uO st'.ob (xG (enter 0 xs).2)=true→qD ((enter 0 xs).2.map (·.1)) rs (ex,st')=some out→
      ∀ e act' w',Post F ex st' e act' w'→bodyPost P fn (nZ S w bs (yF xs args.toList) out) e act' w':=by
 obtain ⟨hlen,hargs,hdist⟩:=hin
 obtain ⟨is,i1,i2,i3,i6,i5,i4⟩:=ku S w xs 0 args.toList bs hxs hargs
 have hids:is.map (·.id)=(enter 0 xs).2.map (·.1):=by rw [← i1,List.map_map]; rfl
 have hn1:(is.map (·.id)).Nodup:=by rw [hids]; exact rn hdist
 have hn2:((prs is).flatMap (·.2)).Nodup:=by rw [lb,i2]; exact hbs.1
 have hbs2:(prs is).flatMap (·.2)=bs:=by rw [lb,i2]
 let F:Fr:=⟨⟨fn.ntmps,[],cuts⟩,w,S,xJ (fun _=>none) (prs is),is.map fun i=>(i.id,i.v),[],fun _=> .nilFunc⟩
 have hps:F.par.map (·.1)=(enter 0 xs).2.map (·.1):=by
  show (is.map fun i=>(i.id,i.v)).map (·.1)=_
  rw [List.map_map,← hids]; rfl
 let c0:C:=⟨S,w,qT (fun _=> .nilFunc) is,zt (enter 0 xs).2⟩
 have hobsmem:∀ i ∈ is,zt (enter 0 xs).2 i.id=i.ob:=by
  intro i hi
  rw [← i1]
  have:∀ (l:List Imp),(l.map (·.id)).Nodup→i ∈ l→zt (l.map fun i=>(i.id,i.ob)) i.id=i.ob:=by
   intro l
   induction l with
   | nil=>intro _ h; cases h
   | cons j l ih=>
     intro hn hm
     simp only [List.map_cons,List.nodup_cons] at hn
     simp only [List.map_cons,zt]
     rcases List.mem_cons.1 hm with rfl | hm
     ·rw [if_pos rfl]
     ·rw [if_neg]
      ·exact ih hn.2 hm
      ·intro e; exact hn.1 (by rw [← e]; exact List.mem_map.2 ⟨i,hm,rfl⟩)
  exact this is hn1 hi
 have himp:lB c0 (xJ (fun _=>none) (prs is)) is:=
  ⟨fun i hi=>⟨hobsmem i hi,qt hn1 hi⟩,fun i hi b hb=>sx hn2 (List.mem_map.2 ⟨i,hi,rfl⟩) hb⟩
 obtain ⟨hslots,hobs0⟩:=i4 c0 _ rfl rfl himp
 have hlenargs:args.size=xs.length:=by
  have:∀ (xs:List X) (vs:List Value) (bs:List Nat),RXs S w xs vs bs→vs.length=xs.length:=by
   intro xs
   induction xs with
   | nil=>rintro vs bs ⟨rfl,_⟩; rfl
   | cons x xs ih=>
     rintro vs bs ⟨v,r,b1,b2,rfl,rfl,_,h⟩
     simp [ih _ _ h]
  have:=this _ _ _ hxs
  simpa using this
 have hroleI:∀ b i,F.role0 b=some i→i ∈ F.par.map (·.1):=by
  intro b i h
  have:∀ (l:List (Nat×List Nat)),xJ (fun _=>none) l b=some i→i ∈ l.map (·.1):=by
   intro l
   induction l with
   | nil=>intro h; cases h
   | cons p l ih=>
     intro h
     simp only [xJ] at h
     split at h
     ·simp only [Option.some.injEq] at h; simp [h]
     ·simp [ih h]
  have:=this (prs is) h
  show i ∈ (is.map fun i=>(i.id,i.v)).map (·.1)
  unfold prs at this
  simpa using this
 have hI:Inv F { slot:=zj (enter 0 xs).1,ob:=zt (enter 0 xs).2 } S (qT (fun _=> .nilFunc) is) (xJ (fun _=>none) (prs is))
   { tmps:=args++Array.replicate (fn.ntmps - args.size) undef,defers:=[] } w:=by
  refine ⟨?_,rfl,fun n hn=>(List.not_mem_nil hn).elim,?_,?_,rfl,rfl,rfl,Nat.le_refl _,fun b _ _=>⟨rfl,rfl⟩,⟨hbs.2.1,fun b hb=>⟨(hbs.2.2 b hb).1,uo (by rw [hbs2]; exact (hbs.2.2 b hb).2)⟩⟩,⟨hroleI,fun b i _ h=>h⟩,fun b _ h=>h,?_⟩
  ·show (args++Array.replicate (fn.ntmps - args.size) undef).size=fn.ntmps
   simp only [Array.size_append,Array.size_replicate]; omega
  ·intro m
   by_cases hm:m < xs.length
   ·have hv:args.toList[m]? =some ((args++Array.replicate (fn.ntmps - args.size) undef).getD m undef):=by
     rw [Array.getD_eq_getD_getElem?,Array.getElem?_append_left (by omega)]
     have:m < args.size:=by omega
     simp [this]
    have:=hslots m _ hv
    rwa [Nat.zero_add] at this
   ·show R _ (zj (enter 0 xs).1 m) _
    rw [p9 xs 0 m (by omega)]; trivial
  ·intro id
   by_cases hid:id ∈ is.map (·.id)
   ·obtain ⟨i,hi,rfl⟩:=List.mem_map.1 hid
    exact hobs0 i hi
   ·have:zt (enter 0 xs).2 id={}:=by
     rw [← i1]
     have:∀ (l:List Imp),id ∉ l.map (·.id)→zt (l.map fun i=>(i.id,i.ob)) id={}:=by
      intro l
      induction l with
      | nil=>intro _; rfl
      | cons j l ih=>
        intro hn
        simp only [List.map_cons,List.mem_cons,not_or] at hn
        simp only [List.map_cons,zt]
        rw [if_neg hn.1]
        exact ih hn.2
     exact this is hid
    unfold ObOK
    simp only [this]
  ·intro p hp
   obtain ⟨i,hi,rfl⟩:=List.mem_map.1 hp
   have hv:=i3 i hi
   simp only [hobsmem i hi,hv,qt hn1 hi]
   exact ⟨Nat.le_refl _,fun _=>trivial⟩
 refine ⟨F,_,_,rfl,rfl,hps,hI,?_⟩
 intro ex st' out hkind hleave e act' w' hpost
 obtain ⟨S',hd',role',hI',hx⟩:=hpost
 have kindO:∀ q ∈ is,∀ k x,(st'.ob q.id).o= .res k x→xu w q.ob.o q.v=k.foot w q.v:=by
  intro q hq k x ho
  have hin:(q.id,q.ob) ∈ (enter 0 xs).2:=by rw [← i1]; exact List.mem_map.2 ⟨q,hq,rfl⟩
  cases hqo:q.ob.o with
  | res k' y=>
    obtain ⟨y',ho'⟩:=uk hkind (u3 (k:= .res k') hin ⟨y,hqo⟩)
    rw [ho] at ho'; cases ho'; rfl
  | row e s n c cells=>
    obtain ⟨_,_,_,ho'⟩:=uk hkind (u3 (k:= .row e s) hin ⟨n,c,cells,hqo⟩)
    rw [ho] at ho'; cases ho'
  | box cells=>
    obtain ⟨_,ho'⟩:=uk hkind (u3 (k:= .box) hin ⟨cells,hqo⟩)
    rw [ho] at ho'; cases ho'
  | dead=>exact absurd hqo (lq xs 0 (q.id,q.ob) hin)
 have oldBlk:∀ q ∈ is,∀ b,role' b=some q.id→b < w.heap.size→b ∈ q.bs:=by
  intro p hp b hr hlt
  by_cases hm:b ∈ bs
  ·rw [← i2] at hm
   obtain ⟨q,hq,hqb⟩:=List.mem_flatMap.1 hm
   have hrq:=hI'.roleP.2 b q.id hlt (sx hn2 (List.mem_map.2 ⟨q,hq,rfl⟩) hqb)
   rw [hrq] at hr
   injection hr with hr
   have hqp:q=p:=by
    have:∀ (l:List Imp),(l.map (·.id)).Nodup→q ∈ l→p ∈ l→q=p:=by
     intro l
     induction l with
     | nil=>intro _ h; cases h
     | cons z l ih=>
       intro hn h1 h2
       simp only [List.map_cons,List.nodup_cons] at hn
       rcases List.mem_cons.1 h1 with e1 | h1
       ·rcases List.mem_cons.1 h2 with e2 | h2
        ·rw [e1,e2]
        ·exact absurd (List.mem_map.2 ⟨p,h2,by rw [← hr,e1]⟩) hn.1
       ·rcases List.mem_cons.1 h2 with e2 | h2
        ·exact absurd (List.mem_map.2 ⟨q,h1,by rw [hr,e2]⟩) hn.1
        ·exact ih hn.2 h1 h2
    exact this is hn1 hq hp
   subst hqp
   exact hqb
  ·have:=hI'.role b hlt (show xJ (fun _=>none) (prs is) b=none from uo (by rw [hbs2]; exact hm))
   rw [this] at hr; cases hr
 have hpar1:∀ p ∈ is,(st'.ob p.id).ver=1→hd' p.id=p.v:=fun p hp hv=>(hI'.par (p.id,p.v) (List.mem_map.2 ⟨p,hp,rfl⟩)).2 hv
 have mvOne:(∀ p ∈ is,qM ⟨S',w',hd',st'.ob⟩ p.id)→∀ q ∈ is,∀ ds:List D,((st'.ob q.id).ver=1 ∨ (∃ n cells,ds=[.lst n cells,.bool true])∧∃ e sz n cap cells,(st'.ob q.id).o= .row e sz n cap cells)→
   Mv w w' ds (oy q) (zO ⟨S',w',hd',st'.ob⟩ q.id):=by
  intro hlent q hq ds hds
  have hb:∀ b ∈ blk ⟨S',w',hd',st'.ob⟩ q.id,role' b=some q.id:=pL (c:=⟨S',w',hd',st'.ob⟩) hI'.obs (hlent q hq)
  have hin:(q.id,q.ob) ∈ (enter 0 xs).2:=by rw [← i1]; exact List.mem_map.2 ⟨q,hq,rfl⟩
  have hob0:=hobs0 q hq
  have hqb:=i6 q hq
  unfold oy
  cases ho:q.ob.o with
  | row e s n cp cells=>
    obtain ⟨n',c',cells',ho'⟩:=uk hkind (u3 (k:= .row e s) hin ⟨n,cp,cells,ho⟩)
    obtain ⟨xs0,r1,_⟩:=x9 hob0 (by show (zt (enter 0 xs).2 q.id).o=_; rw [hobsmem q hq]; exact ho)
    obtain ⟨xs1,r2,_⟩:=x9 (hI'.obs q.id) ho'
    replace r1:w.ownsRow 0 e s q.v n xs0:=by rw [← qt hn1 hq]; exact r1
    simp only [zO,ho',Mv]
    refine ⟨_,rfl,?_,?_⟩
    ·rcases hds with hv | ⟨hm,_⟩
     ·exact .inl (hpar1 q hq hv)
     ·exact .inr hm
    ·intro b hob hlt
     have h1:=oldBlk q hq b (hb b (by simp only [blk,xu,ho',xe r2]; rw [hob]; simp)) hlt
     rw [hqb,ho] at h1
     simp only [xu,xe r1,Option.mem_toList] at h1
     exact h1
  | res k y=>
    obtain ⟨y',ho'⟩:=uk hkind (u3 (k:= .res k) hin ⟨y,ho⟩)
    have hv:(st'.ob q.id).ver=1:=by
     rcases hds with hv | ⟨_,e,sz,n,cap,cells,h⟩
     ·exact hv
     ·rw [ho'] at h; cases h
    have hpv:=hpar1 q hq hv
    simp only [zO,ho',Mv,hpv]
    refine ⟨trivial,fun b hbf hlt=>?_⟩
    have h1:=oldBlk q hq b (hb b (by simp only [blk,xu,ho',hpv]; exact hbf)) hlt
    rw [hqb,ho] at h1
    exact h1
  | box cells=>
    obtain ⟨b,cs,et,h1,_⟩:=wQ hob0 (by show (zt (enter 0 xs).2 q.id).o=_; rw [hobsmem q hq]; exact ho)
    have h1':q.v= .pointer (some ⟨b,0,none⟩):=by rw [← qt hn1 hq]; exact h1
    obtain ⟨cells',ho'⟩:=uk hkind (u3 (k:= .box) hin ⟨cells,ho⟩)
    have hv:(st'.ob q.id).ver=1:=by
     rcases hds with hv | ⟨_,e,sz,n,cap,cells,h⟩
     ·exact hv
     ·rw [ho'] at h; cases h
    simp only [zO,ho',Mv,hpar1 q hq hv]
  | dead=>exact absurd ho (lq xs 0 (q.id,q.ob) hin)
 have ends:∀ (outs:List (List D)) (ids:List Nat),ww st'.ob ((enter 0 xs).2.map (·.1))=some (outs,ids)→
   ∃ S2,Ext ⟨S',w',hd',st'.ob⟩ ⟨S2,w',hd',za st'.ob (zl st'.ob ids)⟩ role' role'∧qg S2 w' outs (((enter 0 xs).2.map (·.1)).map (zO ⟨S',w',hd',st'.ob⟩))∧
     Mvs w w' outs (yF xs args.toList) (((enter 0 xs).2.map (·.1)).map (zO ⟨S',w',hd',st'.ob⟩))∧(∀ id ∈ (enter 0 xs).2.map (·.1),id ∉ ids)∧
     ((((enter 0 xs).2.map (·.1)).map (zO ⟨S',w',hd',st'.ob⟩)).flatMap (wW w w')).Nodup∧∀ b ∈ (((enter 0 xs).2.map (·.1)).map (zO ⟨S',w',hd',st'.ob⟩)).flatMap (wW w w'),∃ p ∈ is,role' b=some p.id:=by
  intro outs ids hop
  obtain ⟨hop,hdisj⟩:=fP hop
  obtain ⟨o1,⟨o3,o4⟩,o2⟩:=ek (c:=⟨S',w',hd',st'.ob⟩) hI'.obs hop
  obtain ⟨S2,x1,x2⟩:=w4 ids hI'.obs o1
  have t3:=o2 S2 x1.le.stab x2 (by
   intro id hid b hb
   have hbx:=x1.obs id
   have hsame:za st'.ob (zl st'.ob ids) id=st'.ob id:=xw _ _ (by unfold zl; rw [List.map_map]; simpa using hdisj id hid)
   unfold blk xu at hb
   rcases o3 id hid with ⟨cells,ho⟩ | ⟨hlk,e,sz,n,cap,cells,ho⟩ | ⟨k,x,ho⟩
   ·obtain ⟨b',_,_,h1,_,_,_,h5,_⟩:=wQ hbx (by simp only [hsame]; exact ho)
    simp only at hb h1 h5 ho
    rw [ho,h1] at hb; simp only [yS,Option.toList_some,List.mem_singleton] at hb; subst hb; exact h5
   ·obtain ⟨xs',h1,h2,h3,h4⟩:=x9 hbx (by simp only [hsame]; exact ho)
    simp only at hlk ho
    simp only [hsame,hlk,Bool.false_eq_true,if_false] at h3
    simp only at hb h1
    rw [ho] at hb
    simp only [xe h1,Option.mem_toList] at hb
    exact (h3 b hb).2
   ·obtain ⟨vs,h1,h2,h3⟩:=sX hbx (by simp only [hsame]; exact ho)
    simp only at hb ho
    rw [ho] at hb
    exact (h3 b hb).2)
  have hlent:∀ p ∈ is,qM ⟨S',w',hd',st'.ob⟩ p.id:=fun p hp=>o3 p.id (by rw [← hids]; exact List.mem_map.2 ⟨p,hp,rfl⟩)
  have hone:∀ p ∈ is,(wW w w' (zO ⟨S',w',hd',st'.ob⟩ p.id)).Nodup∧∀ b ∈ wW w w' (zO ⟨S',w',hd',st'.ob⟩ p.id),role' b=some p.id:=by
   intro p hp
   have hb:=pL (c:=⟨S',w',hd',st'.ob⟩) hI'.obs (hlent p hp)
   have hnd:=eA (c:=⟨S',w',hd',st'.ob⟩) hI'.obs (hlent p hp)
   unfold blk xu at hb hnd
   unfold zO
   cases ho:(st'.ob p.id).o with
   | res k x=>
     simp only [ho] at hb hnd
     simp only [wW]
     exact ⟨hnd.filter _,fun b hb'=>hb b (List.mem_filter.1 hb').1⟩
   | dead=>simp [wW]
   | box _=>simp [wW]
   | row e s n cp cells=>
     obtain ⟨xs1,r2,_⟩:=x9 (hI'.obs p.id) ho
     simp only [ho,xe r2] at hb hnd
     simp only [wW]
     exact ⟨hnd.filter _,fun b hb'=>hb b (List.mem_filter.1 hb').1⟩
  refine ⟨S2,x1,t3,?_,hdisj,?_⟩
  ·have:∀ (l:List Imp) (outs:List (List D)),(∀ q ∈ l,q ∈ is)→Mkd ⟨S',w',hd',st'.ob⟩ (l.map (·.id)) outs→Mvs w w' outs (l.map oy) ((l.map (·.id)).map (zO ⟨S',w',hd',st'.ob⟩)):=by
    intro l
    induction l with
    | nil=>intro outs _ h; obtain rfl:outs=[]:=h; exact ⟨rfl,rfl⟩
    | cons q l ih=>
      intro outs hm h
      obtain ⟨ds,r,rfl,h1,h2⟩:=h
      exact ⟨_,_,_,_,rfl,rfl,mvOne hlent q (hm q (by simp)) ds h1,ih r (fun q' h'=>hm q' (by simp [h'])) h2⟩
   rw [i5,← hids]
   rw [← hids] at o4
   exact this is outs (fun _ h=>h) o4
  ·rw [← hids]
   have:∀ (l:List Imp),(l.map (·.id)).Nodup→(∀ p ∈ l,p ∈ is)→(((l.map (·.id)).map (zO ⟨S',w',hd',st'.ob⟩)).flatMap (wW w w')).Nodup∧
     ∀ b ∈ ((l.map (·.id)).map (zO ⟨S',w',hd',st'.ob⟩)).flatMap (wW w w'),∃ p ∈ l,role' b=some p.id:=by
    intro l
    induction l with
    | nil=>intro _ _; simp
    | cons p l ih=>
      intro hn hm
      simp only [List.map_cons,List.nodup_cons] at hn
      obtain ⟨q1,q2⟩:=ih hn.2 fun p hp=>hm p (by simp [hp])
      obtain ⟨r1,r2⟩:=hone p (hm p (by simp))
      simp only [List.map_cons,List.flatMap_cons]
      refine ⟨List.nodup_append.2 ⟨r1,q1,?_⟩,?_⟩
      ·rintro a ha b hb rfl
       obtain ⟨p',hp',e⟩:=q2 a hb
       rw [r2 a ha] at e
       injection e with e
       exact hn.1 (by rw [e]; exact List.mem_map.2 ⟨p',hp',rfl⟩)
      ·intro b hb
       rcases List.mem_append.1 hb with hb | hb
       ·exact ⟨p,by simp,r2 b hb⟩
       ·obtain ⟨p',hp',e⟩:=q2 b hb
        exact ⟨p',by simp [hp'],e⟩
   exact this is hn1 fun _ h=>h
 have frame:∀ (S2:Nat→Nat) (ids:List Nat),Ext ⟨S',w',hd',st'.ob⟩ ⟨S2,w',hd',za st'.ob (zl st'.ob ids)⟩ role' role'→
   ∀ b,b < w.heap.size→b ∉ bs→w'.heap[b]? =w.heap[b]? ∧S2 b=S b:=by
  intro S2 ids x1 b hb hnb
  refine (hI'.ext x1).heap b hb ?_
  show xJ (fun _=>none) (prs is) b=none
  exact uo (by rw [hbs2]; exact hnb)
 have fin:∀ (x:X) (outs:List (List D)),(Vm.results ((enter 0 xs).2.map (·.1)) st' rs).bind (fun x=>(ww st'.ob ((enter 0 xs).2.map (·.1))).bind fun y=>
       if zF x.2&&!(x.2.any fun m=>y.2.any (· == m)||((enter 0 xs).2.map (·.1)).any (· == m)) then some (XOut.ret x.1 y.1) else none)=some out→
   act'.defers=[]∧∃ v,(Go.results fn act'.tmps).run P w'= .ok v w'∧∃ S',w'.os=w.os∧w'.tape=w.tape∧w'.output=w.output∧w.heap.size ≤ w'.heap.size∧
    (∀ b,b < w.heap.size→b ∉ bs→w'.heap[b]? =w.heap[b]? ∧S' b=S b)∧
    Yd w (yF xs args.toList) S' w' (.returned v) out:=by
  intro _ _ h
  obtain ⟨⟨x,xids⟩,hres,h⟩:=bind_some h
  obtain ⟨as,hga,hres⟩:=bind_some hres
  obtain ⟨vs,hvs,hloads⟩:=b9 (P:=P) (c:=⟨S',w',hd',st'.ob⟩) hI'.obs rfl hI'.slots hrs hga
  have hresrun:=jK (P:=P) (fn:=fn) (l:=fn.results.toList) (by simp) hrs4 hloads
  obtain ⟨⟨outs,ids⟩,hop,h⟩:=bind_some h
  simp only at h
  split at h
  case isFalse=>cases h
  rename_i hd2
  cases h
  simp only [Bool.and_eq_true,Bool.not_eq_true',List.any_eq_false,Bool.or_eq_true,not_or] at hd2
  obtain ⟨S2,x1,hro,hmv,hdisj,hnb⟩:=ends outs ids hop
  have hnot:∀ id ∈ xids,id ∉ ids∧id ∉ (enter 0 xs).2.map (·.1):=by
   intro id hid
   obtain ⟨a1,a2⟩:=hd2.2 id hid
   exact ⟨fun hm=>a1 (List.any_eq_true.2 ⟨id,hm,by simp⟩),fun hm=>a2 (List.any_eq_true.2 ⟨id,hm,by simp⟩)⟩
  have hsame:∀ id ∈ xids,za st'.ob (zl st'.ob ids) id=st'.ob id:=by
   intro id hid
   refine xw _ _ ?_
   unfold zl
   rw [List.map_map]
   simpa using (hnot id hid).1
  have hpsame:∀ id ∈ (enter 0 xs).2.map (·.1),za st'.ob (zl st'.ob ids) id=st'.ob id:=by
   intro id hid
   refine xw _ _ ?_
   unfold zl
   rw [List.map_map]
   simpa using hdisj id hid
  obtain ⟨r1,r2,r3⟩:=XO (c:=⟨S2,w',hd',za st'.ob (zl st'.ob ids)⟩) x1.obs (ps:=(enter 0 xs).2.map (·.1)) hpsame (Rl.mono x1.le _ _ hvs) hres hsame
  have hl2:((enter 0 xs).2.map (·.1)).map (zO ⟨S2,w',hd',za st'.ob (zl st'.ob ids)⟩)=((enter 0 xs).2.map (·.1)).map (zO ⟨S',w',hd',st'.ob⟩):=by
   apply List.map_congr_left
   intro id hid
   unfold zO
   simp only [hpsame id hid]
  rw [hl2] at r3
  refine ⟨hI'.dfr,_,hresrun,S2,hI'.os,hI'.tape,hI'.output,hI'.size,frame S2 ids x1,_,_,_,rfl,r1,?_,?_,hro,r3,hmv⟩
  ·rw [List.nodup_append]
   refine ⟨kO (rn hd2.1) r2,hnb.1,?_⟩
   rintro b hb b' hb' rfl
   obtain ⟨id,hid,hbl⟩:=List.mem_flatMap.1 hb
   have hr:=r2.1 id hid b hbl
   obtain ⟨p,hp,hr'⟩:=hnb.2 b hb'
   rw [hr'] at hr; injection hr with hr
   exact (hnot id hid).2 (by rw [← hids,← hr]; exact List.mem_map.2 ⟨p,hp,rfl⟩)
  intro b hb
  obtain ⟨id,hid,hbl⟩:=List.mem_flatMap.1 hb
  have hr:=r2.1 id hid b hbl
  apply Nat.le_of_not_lt
  intro hlt
  by_cases hnb:b ∈ bs
  ·rw [← i2] at hnb
   obtain ⟨p,hp,hpb⟩:=List.mem_flatMap.1 hnb
   have:=hI'.roleP.2 b p.id hlt (sx hn2 (List.mem_map.2 ⟨p,hp,rfl⟩) hpb)
   rw [this] at hr; injection hr with hr
   exact (hnot id hid).2 (by rw [← hids,← hr]; exact List.mem_map.2 ⟨p,hp,rfl⟩)
  ·have:=hI'.role b hlt (show xJ (fun _=>none) (prs is) b=none from uo (by rw [hbs2]; exact hnb))
   rw [this] at hr; cases hr
 cases ex with
 | normal=>
   simp only [ExR] at hx; subst hx
   exact fin (.nil) [] hleave
 | ret=>
   simp only [ExR] at hx; subst hx
   exact fin (.nil) [] hleave
 | exit i=>cases hleave
 | panic x=>
   obtain ⟨v,rfl,hv⟩:=hx
   simp only [qD] at hleave
   obtain ⟨⟨outs,ids⟩,hop,h⟩:=map_some hleave
   subst h
   obtain ⟨S2,x1,hro,hmv,_,hnb⟩:=ends outs ids hop
   exact ⟨hI'.dfr,S2,hI'.os,hI'.tape,hI'.output,hI'.size,frame S2 ids x1,v,_,rfl,RD.mono x1.le.stab _ _ hv,hro,hnb.1,hmv⟩
theorem aU {cuts:List Nat} (hΓ:SoundAll P Γ) (hD:lF P Γ) {f:FuncId} {fn:Func} {code:Code} {cd:Cd} {rs:List RV} {n k:Nat}
  (hcf:∀ args w,(callFunc f args).run P w= .ok (.enter f args) w) (hf:P.funcs[f]? =some fn) (hb:fn.body=some code)
  (hc:comp P ⟨fn.ntmps,[],cuts⟩ code=some cd.strip) (hrs:vG P fn.results.toList=some rs) (hrs4:fn.results.toList.length ≤ 4) (hk:k ≤ fn.ntmps):
  Sound P f (sK Γ n k cd rs):=by
 intro S w args xs bs hxs hbs out ho
 refine ⟨hcf args w,?_⟩
 unfold sK at ho
 split at ho
 case isFalse=>cases ho
 rename_i hin
 obtain ⟨⟨ex,st'⟩,hrun,hleave⟩:=bind_some ho
 simp only at hleave
 split at hleave
 case isFalse=>cases hleave
 rename_i hkind
 obtain ⟨F,hd,role,hN,_,hps,hI,hcore⟩:=kj (cuts:=cuts) (P:=P) hrs hrs4 hk hxs hbs hin
 exact calls_of_wp hf hb (wp_mono (xX hΓ hps (hD F _ hps) n cd (hN ▸ hc) hrun hI) (hcore ex st' out hkind hleave))
end
end Go.Vm
