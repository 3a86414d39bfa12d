/- From a law's arguments to the abstract machine's data. -/
import Derived.Test.YtpjfklhaogdfeaaGreatDoorVmDraw3
import Derived.Below
import Derived.ChangeShapes
import Derived.ChangeArms
set_option linter.unusedVariables false
set_option linter.unusedSectionVars false
set_option linter.unusedSimpArgs false
namespace Go.Vm
variable [Gl]
def pd (P:Program) (Q:TypeId→List D→Prop):List Field→List D→Prop
 | [],xs=>xs=[]
 | f :: r,xs=>∃ a b,xs=a++b∧a.length=P.cellsOf f.type∧Q f.type a∧pd P Q r b
def te (P:Program):Nat→TypeId→List D→Prop
 | 0,_,_=>False
 | k+1,t,xs=>match P.underlying t with
   | some .bool=>∃ b,xs=[.bool b]
   | some (.int k)=>∃ n,xs=[.int k n]∧(Lit.int k n).wf=true
   | some .string=>∃ s,xs=[.str s]∧s.size ≤ maxLen
   | some (.slice e)=>∃ ys:List (List D),xs=[.lst ys.length ys.flatten]∧ys.length ≤ maxLen∧∀ y ∈ ys,y.length=P.cellsOf e∧te P k e y
   | some (.struct fs)=>pd P (te P k) fs.toList xs
   | _=>False
def nJ (P:Program):List Field→Nat→Nat→Bool
 | [],acc,n=>acc == n
 | f :: r,acc,n=>f.offset == acc&&nJ P r (acc+P.cellsOf f.type) n
def pN (P:Program):Nat→TypeId→Bool
 | 0,_=>false
 | k+1,t=>match P.underlying t with
   | some .bool | some (.int _) | some .string=>true
   | some (.slice e)=>decide (0 < P.cellsOf e)&&pN P k e
   | some (.struct fs)=>nJ P fs.toList 0 (P.cellsOf t)&&fs.toList.all fun f=>pN P k f.type
   | _=>false
def sz (w:World) (b:Nat):Nat:=match w.heap[b]? with
 | some (.cells c _ _)=>c.size
 | _=>0
theorem LZ {w:World} {b o:Nat} {v:Value} (h:w.cell? ⟨b,o,none⟩=some v):o < sz w b:=by
 unfold World.cell? at h
 unfold sz
 cases hh:w.heap[b]? with
 | none=>simp only [hh] at h; cases h
 | some x=>
   cases x with
   | cells c _ _=>
     simp only [hh,Option.isSome_none,Bool.false_eq_true,if_false] at h
     exact (Array.getElem?_eq_some_iff.1 h).1
   | _=>simp only [hh] at h; cases h
theorem cY {S:Nat→Nat} {w:World} {x:D} {v:Value} (h:RD S w x v):RDl S w [x] [v]:=⟨v,[],rfl,h,rfl⟩
theorem Vb {α β:Type} {f:α→Option β}:∀ {l:List α} {ys:List β},l.mapM f=some ys→∀ x ∈ l,∃ y,f x=some y
 | [],_,_,x,hx=>by cases hx
 | a :: l,ys,h,x,hx=>by
   rw [List.mapM_cons] at h
   obtain ⟨b,h1,h⟩:=bind_some h
   obtain ⟨bs,h2,h⟩:=bind_some h
   rcases List.mem_cons.1 hx with rfl | hx
   ·exact ⟨b,h1⟩
   ·exact Vb h2 x hx
theorem jQ {S:Nat→Nat} {w:World} {b:Nat}:∀ {xs ys:List D} {o:Nat},RDat S w xs b o→RDat S w ys b (o+xs.length)→RDat S w (xs++ys) b o
 | [],ys,o,_,h=>by simpa using h
 | x :: xs,ys,o,⟨h1,h2,h3⟩,h=>⟨h1,h2,jQ h3 (by simpa [Nat.add_assoc,Nat.add_comm 1] using h)⟩
section
variable {H:Type} {enc:TypeId×Value→H} {P:Program} {w:World}
theorem jT {b:Nat}:∀ {xs:List D} {cs:List Value} {o:Nat},RDl (sz w) w xs cs→(∀ i v,cs[i]? =some v→w.cell? ⟨b,o+i,none⟩=some v)→RDat (sz w) w xs b o
 | [],_,_,_,_=>trivial
 | x :: xs,_,o,⟨v,r,rfl,h1,h2⟩,h=>by
   have h0:=h 0 v (by simp)
   rw [Nat.add_zero] at h0
   refine ⟨LZ h0,⟨v,h0,h1⟩,jT h2 ?_⟩
   intro i u hu
   have:=h (i+1) u (by simpa using hu)
   rwa [show o+(i+1)=o+1+i by omega] at this
theorem jW {k yz:Nat} (ih:∀ t cs x,pN P k t=true→DataW.trod enc P w 0 (fun _=>true) true yz t cs=some x→∃ xs,RDl (sz w) w xs cs∧te P k t xs) {cs:List Value}:
  ∀ (fs:List Field) (acc:Nat),nJ P fs acc cs.length=true→(∀ f ∈ fs,pN P k f.type=true)→acc ≤ cs.length→
    (∀ f ∈ fs,∃ x,DataW.trod enc P w 0 (fun _=>true) true yz f.type ((cs.drop f.offset).take (P.cellsOf f.type))=some x)→∃ xs,RDl (sz w) w xs (cs.drop acc)∧pd P (te P k) fs xs
 | [],acc,ht,_,_,_=>by
   simp only [nJ,beq_iff_eq] at ht
   subst ht
   exact ⟨[],by simp [RDl],rfl⟩
 | f :: fs,acc,ht,hp,hle,hx=>by
   simp only [nJ,Bool.and_eq_true,beq_iff_eq] at ht
   obtain ⟨hoff,ht⟩:=ht
   obtain ⟨x,hx0⟩:=hx f (by simp)
   obtain ⟨a,ha,hT⟩:=ih _ _ _ (hp f (by simp)) hx0
   have hbound:∀ (fs:List Field) (acc:Nat),nJ P fs acc cs.length=true→acc ≤ cs.length:=by
    intro fs
    induction fs with
    | nil=>intro acc h; simp only [nJ,beq_iff_eq] at h; omega
    | cons g fs ih=>intro acc h; simp only [nJ,Bool.and_eq_true] at h; have:=ih _ h.2; omega
   have hle':=hbound fs _ ht
   obtain ⟨b,hb,hfs⟩:=jW ih fs (acc+P.cellsOf f.type) ht (fun g hg=>hp g (by simp [hg])) hle' (fun g hg=>hx g (by simp [hg]))
   refine ⟨a++b,?_,a,b,rfl,?_,hT,hfs⟩
   ·rw [hoff] at ha
    have:=RDl.append ha hb
    rwa [← List.drop_drop,List.take_append_drop] at this
   ·rw [hoff] at ha
    have:=ha.length
    simp only [List.length_take,List.length_drop] at this
    omega
theorem nk:∀ (k:Nat) (t:TypeId) (yz:Nat) (cs:List Value) (x:DataW H×List MemPlace),pN P k t=true→DataW.trod enc P w 0 (fun _=>true) true yz t cs=some x→
  ∃ xs,RDl (sz w) w xs cs∧te P k t xs
 | 0,_,_,_,_,h,_=>by cases h
 | k+1,t,yz,cs,x,hp,h=>by
   unfold pN at hp
   have hT:∀ xs,te P (k+1) t xs=match P.underlying t with
     | some .bool=>∃ b,xs=[.bool b]
     | some (.int k)=>∃ n,xs=[.int k n]∧(Lit.int k n).wf=true
     | some .string=>∃ s,xs=[.str s]∧s.size ≤ maxLen
     | some (.slice e)=>∃ ys:List (List D),xs=[.lst ys.length ys.flatten]∧ys.length ≤ maxLen∧∀ y ∈ ys,y.length=P.cellsOf e∧te P k e y
     | some (.struct fs)=>pd P (te P k) fs.toList xs
     | _=>False:=fun xs=>rfl
   cases hu:P.underlying t with
   | none=>simp only [hu] at hp; cases hp
   | some u=>
     rw [hu] at hp
     simp only [hT,hu]
     cases u with
     | bool=>
       obtain ⟨b,rfl,_⟩:=DataW.trod_bool hu h
       exact ⟨[.bool b],cY rfl,b,rfl⟩
     | int k'=>
       obtain ⟨n,rfl,_,hw⟩:=DataW.trod_int hu h
       exact ⟨[.int k' n],cY rfl,n,rfl,hw⟩
     | string=>
       obtain ⟨s,rfl,_,hs⟩:=DataW.trod_string hu h
       exact ⟨[.str s],cY rfl,s,rfl,hs⟩
     | struct fs=>
       simp only [Bool.and_eq_true,List.all_eq_true] at hp
       obtain ⟨xs,n,rfl,_,hl,hl2,hget⟩:=DataW.trod_struct hu h
       have each:∀ f ∈ fs.toList,∃ x,DataW.trod enc P w 0 (fun _=>true) true n f.type ((cs.drop f.offset).take (P.cellsOf f.type))=some x:=by
        intro f hf
        obtain ⟨i,hi,e⟩:=List.mem_iff_getElem.1 hf
        have hi':i < fs.size:=by simpa using hi
        have hfi:fs[i]? =some f:=by rw [Array.getElem?_eq_getElem hi',← e]; simp
        rw [hget i f hfi]
        exact ⟨xs[i],List.getElem?_eq_getElem (by omega)⟩
       obtain ⟨ys,h1,h2⟩:=jW (fun t cs x=>nk k t n cs x) fs.toList 0 (by rw [hl]; exact hp.1) hp.2 (Nat.zero_le _) each
       rw [List.drop_zero] at h1
       exact ⟨ys,h1,h2⟩
     | slice e=>
       simp only [Bool.and_eq_true,decide_eq_true_eq] at hp
       rcases DataW.trod_slice hu h with ⟨rfl,_⟩ | ⟨a,len,cap,elems,rest,n,rfl,rfl,_,_,hlc,hcap,hel,hat,hrest,_⟩
       ·exact ⟨[.lst 0 []],cY ⟨none,0,rfl,Nat.le_refl _,fun _=>⟨rfl,rfl,rfl⟩,by simp⟩,[],rfl,Nat.zero_le _,by simp⟩
       ·
        have hspot:a.spot=none ∨ cap=0:=by
         by_cases hc:cap=0
         ·exact .inr hc
         ·left
          have h0:∃ cs',w.cells? 0 (a.add (0 * P.cellsOf e)) (P.cellsOf e)=some cs':=by
           by_cases hl:len=0
           ·obtain ⟨hr,hr2⟩:=hrest rfl
            have:=hr2 0 (by omega)
            rw [List.getElem?_eq_getElem (by omega)] at this
            obtain ⟨cs',h1,_⟩:=bind_some this
            rw [hl] at h1
            exact ⟨cs',h1⟩
           ·have:=hat 0 (by omega)
            rw [List.getElem?_eq_getElem (by omega)] at this
            obtain ⟨cs',h1,_⟩:=bind_some this
            exact ⟨cs',h1⟩
          obtain ⟨cs',h1⟩:=h0
          obtain ⟨_,hlen,hcell⟩:=World.cells?_some h1
          have g0:=hcell 0 hp.1
          rw [List.getElem?_eq_getElem (by omega)] at g0
          simpa [Addr.add] using World.cell?_spot g0
        obtain ⟨b,off,spot⟩:=a
        have each:∀ i,i < len→∃ ys cs',RDl (sz w) w ys cs'∧cs'.length=P.cellsOf e∧te P k e ys∧∀ j v,cs'[j]? =some v→w.cell? ⟨b,off+i * P.cellsOf e+j,none⟩=some v:=by
         intro i hi
         have:=hat i hi
         rw [List.getElem?_eq_getElem (by omega)] at this
         obtain ⟨cs',h1,h2⟩:=bind_some this
         obtain ⟨ys,q1,q2⟩:=nk k e n cs' _ hp.2 h2
         obtain ⟨_,hlen,hcell⟩:=World.cells?_some h1
         refine ⟨ys,cs',q1,hlen,q2,?_⟩
         intro j v hj
         have hjl:j < P.cellsOf e:=by
          have:=(List.getElem?_eq_some_iff.1 hj).1
          omega
         have g:=hcell j hjl
         rw [hj] at g
         have hs:spot=none:=by
          rcases hspot with h | h
          ·exact h
          ·omega
         subst hs
         rw [← g,Addr.add_mk,Addr.add_mk]
        have build:∀ m,m ≤ len→∃ ys:List (List D),ys.length=m∧(∀ y ∈ ys,y.length=P.cellsOf e∧te P k e y)∧RDat (sz w) w ys.flatten b off:=by
         intro m
         induction m with
         | zero=>intro _; exact ⟨[],rfl,by simp,trivial⟩
         | succ m ihm=>
           intro hm
           obtain ⟨ys,y1,y2,y3⟩:=ihm (by omega)
           obtain ⟨zs,cs',z1,z2,z3,z4⟩:=each m (by omega)
           have hzl:zs.length=P.cellsOf e:=by have:=z1.length; omega
           refine ⟨ys++[zs],by simp [y1],?_,?_⟩
           ·intro y hy
            rcases List.mem_append.1 hy with hy | hy
            ·exact y2 y hy
            ·simp only [List.mem_singleton] at hy; subst hy; exact ⟨hzl,z3⟩
           ·rw [List.flatten_append]
            have hfl:ys.flatten.length=m * P.cellsOf e:=by
             have:∀ (l:List (List D)),(∀ y ∈ l,y.length=P.cellsOf e∧te P k e y)→l.flatten.length=l.length * P.cellsOf e:=by
              intro l
              induction l with
              | nil=>intro _; simp
              | cons y l ih=>
                intro h
                rw [List.flatten_cons,List.length_append,ih fun z hz=>h z (by simp [hz]),(h y (by simp)).1,List.length_cons,Nat.succ_mul]; omega
             rw [this ys y2,y1]
            refine jQ y3 ?_
            rw [hfl]
            simp only [List.flatten_cons,List.flatten_nil,List.append_nil]
            exact jT z1 z4
        obtain ⟨ys,y1,y2,y3⟩:=build len (Nat.le_refl _)
        refine ⟨[.lst ys.length ys.flatten],cY ⟨some ⟨b,off,spot⟩,cap,by rw [y1],by omega,by simp,?_⟩,ys,rfl,by omega,y2⟩
        rintro p ⟨rfl⟩
        refine ⟨?_,y3⟩
        rcases hspot with h | h
        ·exact .inl h
        ·right
         refine ⟨h,?_⟩
         have:ys=[]:=List.eq_nil_of_length_eq_zero (by omega)
         rw [this]; rfl
     | _=>simp only at hp; cases hp
def dO (P:Program) (t:TypeId) (xs:List D):X:=match P.underlying t with
 | some (.struct _)=> .agg (xs.map .d)
 | _=> .d (xs.headD .nilp)
theorem Iq {S:Nat→Nat}:∀ {xs:List D} {vs:List Value},RDl S w xs vs→RXs S w (xs.map .d) vs []:=dP
theorem jI {k:Nat} {t:TypeId} {v:Value} {d:DataW H} {ps:List MemPlace} {b0:Nat} (hp:pN P k t=true) (hok:Value.okWide P w .any b0 t v)
  (h:DataW.Trod enc P w 0 (fun _=>true) true t v d ps):∃ xs,te P k t xs∧RX (sz w) w (dO P t xs) v []:=by
 obtain ⟨yz,h⟩:=h
 obtain ⟨xs,h1,h2⟩:=nk k t yz _ _ hp h
 refine ⟨xs,h2,?_⟩
 cases k with
 | zero=>cases hp
 | succ k=>
   have hagg:∀ u,P.underlying t=some u→(∀ fs,u ≠ .struct fs)→(∀ n e,u ≠ .array n e)→∀ x,(xs=[x]→v.cells.toList.length=1→v.oneCell'=true→RX (sz w) w (.d x) v []):=by
    intro u hu _ _ x hx hl ho
    subst hx
    obtain ⟨v',r,e,hv,hr⟩:=h1
    have hc:v.cells=#[v]:=wY ho
    rw [hc] at e
    simp only [List.cons.injEq] at e
    obtain ⟨rfl,rfl⟩:=e
    exact ⟨rfl,hv⟩
   unfold pN at hp
   unfold Value.okWide at hok
   have hT:te P (k+1) t xs=match P.underlying t with
     | some .bool=>∃ b,xs=[.bool b]
     | some (.int k)=>∃ n,xs=[.int k n]∧(Lit.int k n).wf=true
     | some .string=>∃ s,xs=[.str s]∧s.size ≤ maxLen
     | some (.slice e)=>∃ ys:List (List D),xs=[.lst ys.length ys.flatten]∧ys.length ≤ maxLen∧∀ y ∈ ys,y.length=P.cellsOf e∧te P k e y
     | some (.struct fs)=>pd P (te P k) fs.toList xs
     | _=>False:=rfl
   rw [hT] at h2
   cases hu:P.underlying t with
   | none=>simp only [hu] at hp; cases hp
   | some u=>
     rw [hu] at hp h2 hok
     simp only [dO,hu]
     have one:∀ x,xs=[x]→v.cells.toList=[v]→RX (sz w) w (.d x) v []:=by
      intro x hx hc
      subst hx
      rw [hc] at h1
      obtain ⟨v',r,e,hv,hr⟩:=h1
      simp only [List.cons.injEq] at e
      obtain ⟨rfl,rfl⟩:=e
      exact ⟨rfl,hv⟩
     have cellsv:∀ (hc:Cell.okWide P w .any b0 t v),(∀ cs,v ≠ .agg cs)→v.cells.toList=[v]:=by
      intro _ hne
      cases v <;> first | rfl | exact absurd rfl (hne _)
     cases u with
     | bool=>
       obtain ⟨b,rfl⟩:=h2
       refine one _ rfl (cellsv hok ?_)
       rintro cs rfl
       simp [Cell.okWide,Cell.ok,hu] at hok
     | int k'=>
       obtain ⟨n,rfl,_⟩:=h2
       refine one _ rfl (cellsv hok ?_)
       rintro cs rfl
       simp [Cell.okWide,Cell.ok,hu] at hok
     | string=>
       obtain ⟨s,rfl,_⟩:=h2
       refine one _ rfl (cellsv hok ?_)
       rintro cs rfl
       simp [Cell.okWide,Cell.ok,hu] at hok
     | slice e=>
       obtain ⟨ys,rfl,_⟩:=h2
       refine one _ rfl (cellsv hok ?_)
       rintro cs rfl
       simp [Cell.okWide,Cell.ok,hu] at hok
     | struct fs=>
       obtain ⟨cs,rfl,_,_⟩:=hok
       exact ⟨cs,rfl,dP h1⟩
     | _=>simp only at hp; cases hp
end
open Go.RowKit in
theorem TL {P:Program} {f:FuncId} {C:List X→Option XOut} (h:Sound P f C) {W:World} {args:Array Value} {xs:List X} (hb:fK W []) (hx:RXs (sz W) W xs args.toList [])
  (hC:C xs=some (.ret (.d (.bool true)) [])):Calls P f args W fun e W'=>e= .returned (.bool true)∧Below W.heap.size W W':=by
 obtain ⟨_,hc⟩:=h (sz W) W args xs [] hx hb _ hC
 refine hc.mono ?_
 rintro e W' ⟨S',h1,h2,h3,h4,h5,v,b1,_,rfl,hv,_⟩
 obtain ⟨_,hv⟩:=hv
 simp only [RD] at hv
 subst hv
 exact ⟨rfl,h1,h2,h3,h4,fun k hk=>(h5 k hk (by simp)).1⟩
end Go.Vm
