/- Calls: what a contract says, and that a call does what the abstract machine says. -/
import Derived.Test.YtpjfklhaogdfeaaGreatDoorVmOps12
set_option linter.unusedVariables false
set_option linter.unusedSectionVars false
set_option linter.unusedSimpArgs false
namespace Go.Vm
variable [Gl]
mutual
def RX (S:Nat→Nat) (w:World):X→Value→List Nat→Prop
 | .d x,v,bs=>bs=[]∧RD S w x v
 | .nil,v,bs=>bs=[]∧v= .slice none 0 0
 | .own e sz n cap cells lk,v,bs=>∃ xs,w.ownsRow 0 e sz v n xs∧RDl S w cells xs∧bs=v.ownBlock.toList∧(∀ b,v.ownBlock=some b→S b=if lk then n * sz else 0)∧(∀ k,cap=some k→∃ a,v= .slice a n k)
 | .box xs,v,bs=>∃ b cs et bs',v= .pointer (some ⟨b,0,none⟩)∧w.heap[b]? =some (.cells cs et (0,0))∧RXs S w xs cs.toList bs'∧bs=bs'++[b]∧S b=0∧xs.all uv=true
 | .agg xs,v,bs=>∃ vs,v= .agg vs∧RXs S w xs vs.toList bs
 | .tup xs,v,bs=>∃ vs,v= .tuple vs∧RXs S w xs vs.toList bs
 | .par _,v,bs=>bs=[]
 | .res k x,v,bs=>∃ vs,k.Holds w v vs∧RDl S w (oS x) vs∧bs=k.foot w v∧∀ b ∈ bs,S b=0
def RXs (S:Nat→Nat) (w:World):List X→List Value→List Nat→Prop
 | [],vs,bs=>vs=[]∧bs=[]
 | x :: xs,vs,bs=>∃ v r b1 b2,vs=v :: r∧bs=b1++b2∧RX S w x v b1∧RXs S w xs r b2
end
inductive Lent where
 | box (b:Nat)
 | row (v:Value) (e sz:Nat)
 | res (k:RK) (v:Value)
mutual
def sF:X→Value→List Lent
 | .box _,v=>match v with
   | .pointer (some a)=>[.box a.block]
   | _=>[]
 | .own e sz _ _ _ _,v=>[.row v e sz]
 | .res k _,v=>[.res k v]
 | .agg xs,v=>match v with
   | .agg vs=>yF xs vs.toList
   | _=>[]
 | _,_=>[]
def yF:List X→List Value→List Lent
 | x :: xs,v :: vs=>sF x v++yF xs vs
 | _,_=>[]
end
def Y6 (S:Nat→Nat) (w:World) (ds:List D):Lent→Prop
 | .box b=>∃ cs et,w.heap[b]? =some (.cells cs et (0,0))∧RDl S w ds cs.toList∧S b=0
 | .row v e sz=>∃ n cells xs,(ds=[.lst n cells] ∨ ds=[.lst n cells,.bool true])∧w.ownsRow 0 e sz v n xs∧RDl S w cells xs∧∀ b,v.ownBlock=some b→S b=0
 | .res k v=>∃ y vs,ds=[y]∧k.Holds w v vs∧RDl S w (oS y) vs∧∀ b ∈ k.foot w v,S b=0
def wW (w w':World):Lent→List Nat
 | .res k v=>(k.foot w' v).filter fun b=>decide (w.heap.size ≤ b)
 | .row v _ _=>v.ownBlock.toList.filter fun b=>decide (w.heap.size ≤ b)
 | _=>[]
def Mv (w w':World) (ds:List D):Lent→Lent→Prop
 | .row v e sz,l'=>∃ v',l'= .row v' e sz∧(v'=v ∨ ∃ n cells,ds=[.lst n cells,.bool true])∧∀ b,v'.ownBlock=some b→b < w.heap.size→v.ownBlock=some b
 | .res k v,l'=>l'= .res k v∧∀ b ∈ k.foot w' v,b < w.heap.size→b ∈ k.foot w v
 | .box b,l'=>l'= .box b
def Mvs (w w':World):List (List D)→List Lent→List Lent→Prop
 | [],ls,ls'=>ls=[]∧ls'=[]
 | ds :: outs,ls,ls'=>∃ l r l' r',ls=l :: r∧ls'=l' :: r'∧Mv w w' ds l l'∧Mvs w w' outs r r'
def qg (S:Nat→Nat) (w:World):List (List D)→List Lent→Prop
 | [],ls=>ls=[]
 | ds :: outs,ls=>∃ l r,ls=l :: r∧Y6 S w ds l∧qg S w outs r
mutual
def ParOK (ls:List Lent):X→Value→Prop
 | .par k,v=>∃ e sz,ls[k]? =some (.row v e sz)
 | .agg xs,v=>∀ vs,v= .agg vs→ParOKs ls xs vs.toList
 | .tup xs,v=>∀ vs,v= .tuple vs→ParOKs ls xs vs.toList
 | _,_=>True
def ParOKs (ls:List Lent):List X→List Value→Prop
 | x :: xs,v :: vs=>ParOK ls x v∧ParOKs ls xs vs
 | _,_=>True
end
def Yd (w:World) (ls:List Lent) (S':Nat→Nat) (w':World) (e:Ending):XOut→Prop
 | .ret x outs=>∃ v b1 ls',e= .returned v∧RX S' w' x v b1∧(b1++ls'.flatMap (wW w w')).Nodup∧(∀ b ∈ b1,w.heap.size ≤ b)∧qg S' w' outs ls'∧ParOK ls' x v∧Mvs w w' outs ls ls'
 | .pan x outs=>∃ v ls',e= .panicked [{ v,recovered:=false }]∧RD S' w' x v∧qg S' w' outs ls'∧(ls'.flatMap (wW w w')).Nodup∧Mvs w w' outs ls ls'
def Sound (P:Program) (f:FuncId) (F:List X→Option XOut):Prop:=
 ∀ (S:Nat→Nat) (w:World) (args:Array Value) (xs:List X) (bs:List Nat),RXs S w xs args.toList bs→fK w bs→∀ out,F xs=some out→
   (callFunc f args).run P w= .ok (.enter f args) w∧
   Calls P f args w fun e w'=>∃ S',w'.os=w.os∧w'.tape=w.tape∧w'.output=w.output∧w.heap.size ≤ w'.heap.size∧
    (∀ b,b < w.heap.size→b ∉ bs→w'.heap[b]? =w.heap[b]? ∧S' b=S b)∧
    Yd w (yF xs args.toList) S' w' e out
def nZ (S:Nat→Nat) (w:World) (bs:List Nat) (ls:List Lent) (out:XOut) (e:Ending) (w':World):Prop:=
 ∃ S',w'.os=w.os∧w'.tape=w.tape∧w'.output=w.output∧w.heap.size ≤ w'.heap.size∧
     (∀ b,b < w.heap.size→b ∉ bs→w'.heap[b]? =w.heap[b]? ∧S' b=S b)∧Yd w ls S' w' e out
def SoundAll (P:Program) (Γ:Ctx):Prop:=∀ f,Sound P f (Γ f)
structure Imp where
 id:Nat
 v:Value
 ob:Ob
 bs:List Nat
def yS:Value→Option Nat
 | .pointer (some a)=>some a.block
 | v=>v.ownBlock
def lB (c:C) (role:Nat→Option Nat) (is:List Imp):Prop:=
 (∀ i ∈ is,c.ob i.id=i.ob∧c.hd i.id=i.v)∧∀ i ∈ is,∀ b ∈ i.bs,role b=some i.id
def xu (w:World) (o:O) (v:Value):List Nat:=match o with
 | .res k _=>k.foot w v
 | _=>(yS v).toList
def blk (c:C) (id:Nat):List Nat:=xu c.w (c.ob id).o (c.hd id)
theorem xe {w:World} {e sz n:Nat} {v:Value} {xs:List Value} (h:w.ownsRow 0 e sz v n xs):yS v=v.ownBlock:=by
 obtain ⟨a,k,rfl,_⟩:=xW h; rfl
theorem aA {ob:Nat→Ob} {d:Nat} {x:X} {j:Nat} (h:uv x=true):one (ofX ob d x j).1=true:=by
 cases x <;> simp_all [uv,ofX,one]
theorem ja {ob:Nat→Ob} {d:Nat}:∀ {xs:List X} {j:Nat},xs.all uv=true→(yy ob d xs j).1.all one=true
 | [],_,_=>rfl
 | x :: xs,j,h=>by
   simp only [List.all_cons,Bool.and_eq_true] at h
   simp only [yy,List.all_cons,Bool.and_eq_true]
   exact ⟨aA h.1,ja h.2⟩
theorem SB {x:X} (h:isD x=true):∃ y,x= .d y:=by
 cases x <;> first | exact ⟨_,rfl⟩ | cases h
theorem c9 (ob:Nat→Ob) (d:Nat):∀ (l:List X) (j:Nat),l.all isD=true→(yy ob d l j).2.1=[]
 | [],_,_=>rfl
 | x :: l,j,h=>by
   simp only [List.all_cons,Bool.and_eq_true] at h
   obtain ⟨y,rfl⟩:=SB h.1
   simp only [yy,ofX,List.nil_append]
   exact c9 ob d l _ h.2
def oy (i:Imp):Lent:=match i.ob.o with
 | .row e s _ _ _=> .row i.v e s
 | .res k _=> .res k i.v
 | _=> .box ((yS i.v).getD 0)
theorem V1 {x:X} (h:isP x=true):rU x=true:=by
 cases x <;> first | exact h | cases h | rfl
mutual
theorem m8 (ob:Nat→Ob) (d:Nat) (S:Nat→Nat) (w:World):∀ (x:X) (j:Nat) (v:Value) (bs:List Nat),RX S w x v bs→
  ∃ is:List Imp,is.map (fun i=>(i.id,i.ob))=(ofX ob d x j).2.1∧j ≤ (ofX ob d x j).2.2∧(∀ i ∈ is,∃ k,i.id=oid d k∧j ≤ k∧k < (ofX ob d x j).2.2)∧
    is.flatMap (·.bs)=bs∧(is.map (·.id)).Nodup∧(∀ i ∈ is,i.bs=xu w i.ob.o i.v)∧(rU x=true→sF x v=is.map oy)∧
    ∀ (c:C) (role:Nat→Option Nat),c.S=S→c.w=w→lB c role is→R c (ofX ob d x j).1 v∧∀ i ∈ is,ObOK c role i.id
 | .d x,j,v,bs,⟨e,h⟩=>⟨[],rfl,Nat.le_refl _,by simp,by simp [e],by simp,by simp,fun _=>by simp only [sF,List.map_nil],fun c role hS hw _=>⟨by subst hS; subst hw; exact h,by simp⟩⟩
 | .nil,j,v,bs,⟨e,h⟩=>⟨[],rfl,Nat.le_refl _,by simp,by simp [e],by simp,by simp,fun _=>by simp only [sF,List.map_nil],fun c role hS hw _=>⟨h,by simp⟩⟩
 | .par k,j,v,bs,e=>⟨[],rfl,Nat.le_refl _,by simp,by simp only [RX] at e; simp [e],by simp,by simp,fun _=>by simp only [sF,List.map_nil],fun c role hS hw _=>⟨trivial,by simp⟩⟩
 | .own e sz n cap cells lk,j,v,bs,⟨xs,h1,h2,h3,h4,h5⟩=>by
   refine ⟨[⟨oid d j,v,{ ver:=(ob (oid d j)).ver+1,o:= .row e sz n cap cells,leak:=lk },v.ownBlock.toList⟩],rfl,Nat.le_succ _,?_,?_,by simp,by simp [xu,xe h1],fun _=>by simp only [sF,List.map_cons,List.map_nil,oy],?_⟩
   ·intro i hi
    simp only [List.mem_singleton] at hi
    subst hi
    exact ⟨j,rfl,Nat.le_refl _,Nat.lt_succ_self _⟩
   ·rw [h3]; simp
   ·intro c role hS hw hok
    subst hS; subst hw
    obtain ⟨k1,k2⟩:=hok
    have q:=k1 _ (List.mem_singleton.2 rfl)
    simp only at q
    refine ⟨?_,?_⟩
    ·obtain ⟨a,k,e1,_⟩:=xW h1
     refine ⟨by rw [e1]; rfl,?_,?_⟩
     ·rw [q.1]; exact Nat.le_refl _
     ·intro _ _; exact q.2.symm
    ·intro i hi
     simp only [List.mem_singleton] at hi
     subst hi
     unfold ObOK
     simp only [q.1,q.2]
     refine ⟨xs,h1,h2,?_,h5⟩
     intro b hb
     exact ⟨k2 _ (List.mem_singleton.2 rfl) b (by simp [hb]),h4 b hb⟩
 | .res k x,j,v,bs,⟨vs,h1,h2,h3,h4⟩=>by
   refine ⟨[⟨oid d j,v,{ ver:=(ob (oid d j)).ver+1,o:= .res k x,leak:=false },bs⟩],rfl,Nat.le_succ _,?_,by simp,by simp,by simp [xu,h3],fun _=>by simp only [sF,List.map_cons,List.map_nil,oy],?_⟩
   ·intro i hi
    simp only [List.mem_singleton] at hi
    subst hi
    exact ⟨j,rfl,Nat.le_refl _,Nat.lt_succ_self _⟩
   ·intro c role hS hw hok
    subst hS; subst hw
    obtain ⟨k1,k2⟩:=hok
    have q:=k1 _ (List.mem_singleton.2 rfl)
    simp only at q
    refine ⟨?_,?_⟩
    ·refine ⟨h1.one,?_,?_⟩
     ·rw [q.1]; exact Nat.le_refl _
     ·intro _ _; exact q.2.symm
    ·intro i hi
     simp only [List.mem_singleton] at hi
     subst hi
     unfold ObOK
     simp only [q.1,q.2]
     refine ⟨vs,h1,h2,?_⟩
     rw [← h3]
     exact fun b hb=>⟨k2 _ (List.mem_singleton.2 rfl) b hb,h4 b hb⟩
 | .box xs,j,v,bs,⟨b,cs,et,bs',h1,h2,h3,h4,h5,h6⟩=>by
   obtain ⟨is,i1,i2,i3,i4,i6,i8,i7,i5⟩:=nH ob d S w xs (j+1) cs.toList bs' h3
   refine ⟨is++[⟨oid d j,v,{ ver:=(ob (oid d j)).ver+1,o:= .box (yy ob d xs (j+1)).1,leak:=false },[b]⟩],?_,?_,?_,?_,?_,?_,?_,?_⟩
   ·simp only [ofX,List.map_append,i1,List.map_cons,List.map_nil,wU]
   ·simp only [ofX]; omega
   ·intro i hi
    rcases List.mem_append.1 hi with hi | hi
    ·obtain ⟨k,e1,e2,e3⟩:=i3 i hi
     exact ⟨k,e1,by omega,by simpa [ofX] using e3⟩
    ·simp only [List.mem_singleton] at hi
     subst hi
     exact ⟨j,rfl,Nat.le_refl _,by simp only [ofX]; omega⟩
   ·rw [List.flatMap_append,i4,h4]; simp
   ·rw [List.map_append,List.nodup_append]
    refine ⟨i6,by simp,?_⟩
    intro a ha b hb
    simp only [List.map_cons,List.map_nil,List.mem_singleton] at hb
    subst hb
    obtain ⟨i,hi,rfl⟩:=List.mem_map.1 ha
    obtain ⟨k,e1,e2,e3⟩:=i3 i hi
    rw [e1]; unfold oid; omega
   ·intro i hi
    rcases List.mem_append.1 hi with hi | hi
    ·exact i8 i hi
    ·simp only [List.mem_singleton] at hi
     subst hi
     simp [xu,h1,yS]
   ·intro ha
    have hl:=c9 ob d xs (j+1) ha
    rw [hl] at i1
    have:is=[]:=by simpa using i1
    subst this
    subst h1
    simp only [sF,List.nil_append,List.map_cons,List.map_nil,oy,yS,Option.getD_some]
   ·intro c role hS hw hok
    obtain ⟨k1,k2⟩:=hok
    obtain ⟨q1,q2⟩:=i5 c role hS hw ⟨fun i hi=>k1 i (List.mem_append.2 (.inl hi)),fun i hi=>k2 i (List.mem_append.2 (.inl hi))⟩
    have q:=k1 _ (List.mem_append.2 (.inr (List.mem_singleton.2 rfl)))
    have qr:=k2 _ (List.mem_append.2 (.inr (List.mem_singleton.2 rfl)))
    simp only at q qr
    subst hS; subst hw
    refine ⟨?_,?_⟩
    ·simp only [ofX]
     refine ⟨by rw [h1]; rfl,by rw [q.1]; exact Nat.le_refl _,fun _ _=>⟨b,by rw [q.2,h1],by rw [h1]⟩⟩
    ·intro i hi
     rcases List.mem_append.1 hi with hi | hi
     ·exact q2 i hi
     ·simp only [List.mem_singleton] at hi
      subst hi
      unfold ObOK
      simp only [q.1,q.2]
      exact ⟨b,cs,et,h1,h2,q1,ja h6,h5,qr b (by simp)⟩
 | .agg xs,j,v,bs,⟨vs,h1,h2⟩=>by
   obtain ⟨is,i1,i2,i3,i4,i6,i8,i7,i5⟩:=nH ob d S w xs j vs.toList bs h2
   exact ⟨is,by simpa [ofX] using i1,by simpa [ofX] using i2,by simpa [ofX] using i3,i4,i6,i8,fun ha=>by rw [h1]; exact i7 ha,fun c role hS hw hok=>⟨⟨vs,h1,(i5 c role hS hw hok).1⟩,(i5 c role hS hw hok).2⟩⟩
 | .tup xs,j,v,bs,⟨vs,h1,h2⟩=>by
   obtain ⟨is,i1,i2,i3,i4,i6,i8,i7,i5⟩:=nH ob d S w xs j vs.toList bs h2
   exact ⟨is,by simpa [ofX] using i1,by simpa [ofX] using i2,by simpa [ofX] using i3,i4,i6,i8,fun (ha:rU (X.tup xs)=true)=>by simp [rU] at ha,fun c role hS hw hok=>⟨⟨vs,h1,(i5 c role hS hw hok).1⟩,(i5 c role hS hw hok).2⟩⟩
theorem nH (ob:Nat→Ob) (d:Nat) (S:Nat→Nat) (w:World):∀ (xs:List X) (j:Nat) (vs:List Value) (bs:List Nat),RXs S w xs vs bs→
  ∃ is:List Imp,is.map (fun i=>(i.id,i.ob))=(yy ob d xs j).2.1∧j ≤ (yy ob d xs j).2.2∧(∀ i ∈ is,∃ k,i.id=oid d k∧j ≤ k∧k < (yy ob d xs j).2.2)∧
    is.flatMap (·.bs)=bs∧(is.map (·.id)).Nodup∧(∀ i ∈ is,i.bs=xu w i.ob.o i.v)∧(xs.all isP=true→yF xs vs=is.map oy)∧
    ∀ (c:C) (role:Nat→Option Nat),c.S=S→c.w=w→lB c role is→Rl c (yy ob d xs j).1 vs∧∀ i ∈ is,ObOK c role i.id
 | [],j,vs,bs,⟨e,h⟩=>⟨[],rfl,Nat.le_refl _,by simp,by simp [h],by simp,by simp,fun _=>by simp only [yF,List.map_nil],fun c role hS hw _=>⟨e,by simp⟩⟩
 | x :: xs,j,vs,bs,⟨v,r,b1,b2,e1,e2,h1,h2⟩=>by
   obtain ⟨is,i1,i2,i3,i4,i6,i8,i7,i5⟩:=m8 ob d S w x j v b1 h1
   obtain ⟨is',i1',i2',i3',i4',i6',i8',i7',i5'⟩:=nH ob d S w xs (ofX ob d x j).2.2 r b2 h2
   refine ⟨is++is',?_,?_,?_,?_,?_,?_,?_,?_⟩
   ·simp only [yy,List.map_append,i1,i1']
   ·simp only [yy]; omega
   ·intro i hi
    simp only [yy]
    rcases List.mem_append.1 hi with hi | hi
    ·obtain ⟨k,e1,e2,e3⟩:=i3 i hi; exact ⟨k,e1,e2,by omega⟩
    ·obtain ⟨k,e1,e2,e3⟩:=i3' i hi; exact ⟨k,e1,by omega,e3⟩
   ·rw [List.flatMap_append,i4,i4',e2]
   ·rw [List.map_append,List.nodup_append]
    refine ⟨i6,i6',?_⟩
    intro a ha b hb
    obtain ⟨i,hi,rfl⟩:=List.mem_map.1 ha
    obtain ⟨i',hi',rfl⟩:=List.mem_map.1 hb
    obtain ⟨k,e1,e2,e3⟩:=i3 i hi
    obtain ⟨k',e1',e2',e3'⟩:=i3' i' hi'
    rw [e1,e1']; unfold oid; omega
   ·intro i hi
    rcases List.mem_append.1 hi with hi | hi
    ·exact i8 i hi
    ·exact i8' i hi
   ·intro ha
    simp only [List.all_cons,Bool.and_eq_true] at ha
    subst e1
    simp only [yF,List.map_append,i7 (V1 ha.1),i7' ha.2]
   ·intro c role hS hw hok
    obtain ⟨k1,k2⟩:=hok
    obtain ⟨q1,q2⟩:=i5 c role hS hw ⟨fun i hi=>k1 i (List.mem_append.2 (.inl hi)),fun i hi=>k2 i (List.mem_append.2 (.inl hi))⟩
    obtain ⟨q1',q2'⟩:=i5' c role hS hw ⟨fun i hi=>k1 i (List.mem_append.2 (.inr hi)),fun i hi=>k2 i (List.mem_append.2 (.inr hi))⟩
    refine ⟨⟨v,r,e1,q1,q1'⟩,?_⟩
    intro i hi
    rcases List.mem_append.1 hi with hi | hi
    ·exact q2 i hi
    ·exact q2' i hi
end
end Go.Vm
