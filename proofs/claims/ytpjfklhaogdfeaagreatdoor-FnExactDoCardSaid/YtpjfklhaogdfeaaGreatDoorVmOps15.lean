/- Each operation of the model does what the abstract machine says: shifts, bytes of a text, maps, the ends of rows. -/
import Derived.Laws.StructEq
import Derived.Test.YtpjfklhaogdfeaaGreatDoorVmOpsD
import Derived.Lib.ConvBytes
import Derived.MapKept
set_option linter.unusedVariables false
set_option linter.unusedSectionVars false
set_option linter.unusedSimpArgs false
namespace Go.Vm
theorem mh {n:Option Nat}:∀ {es:List MapEntry},(∀ e ∈ es,pw n e.val)→(xr n es).length=es.length * (1+msz n)
 | [],_=>by simp [xr]
 | e :: es,h=>by
   have h1:(sy n e.val).length=msz n:=by
    have:=h e (by simp)
    cases n with
    | none=>rfl
    | some m=>obtain ⟨vs,e1,e2⟩:=this; simp [sy,e1,msz,e2]
   have h2:=mh (n:=n) (es:=es) fun e he=>h e (List.mem_cons_of_mem _ he)
   simp only [xr,List.length_cons,List.length_append,h1,h2,Nat.succ_mul]
   omega
theorem mH {n:Option Nat} {v:Value} (h:pw n v):(sy n v).length=msz n:=by
 cases n with
 | none=>rfl
 | some m=>obtain ⟨vs,e1,e2⟩:=h; simp [sy,e1,msz,e2]
def bj (kc:Nat) (u:TypeDesc):Prop:=match kc with
 | 0=>∃ k,u= .int k
 | 1=>u= .string
 | 2=>u= .bool
 | _=>False
theorem X3 {P:Program} {k:TypeId} {kc:Nat} (h:o7 P k=some kc):∃ u,P.underlying k=some u∧bj kc u:=by
 unfold o7 at h
 split at h
 ·rename_i q hq; cases h; exact ⟨_,hq,q,rfl⟩
 ·rename_i hq; cases h; exact ⟨_,hq,rfl⟩
 ·rename_i hq; cases h; exact ⟨_,hq,rfl⟩
 ·cases h
theorem kU (a b:ByteArray):(a == b)=(a.data.toList == b.data.toList):=by
 have:(a == b)=(a.data == b.data):=by cases a; cases b; rfl
 rw [this,Bool.eq_iff_iff]; simp
theorem eE {kc:Nat} {u:TypeDesc} (hu:bj kc u) {k x:D} (hk:xY kc k=true) {b:Bool} (h:wl k x=some b) {S:Nat→Nat} {w:World} {kv xv:Value} (h1:RD S w k kv) (h2:RD S w x xv):
  Instr.sameNow u kv xv=some b:=by
 cases k with
 | int q a=>
   cases x with
   | int q' c=>
     simp only [wl] at h
     split at h
     ·rename_i e; cases h
      simp only [RD] at h1 h2; subst h1; subst h2
      match kc,hk,hu with
      | 0,_,hu=>obtain ⟨z,rfl⟩:=hu; simp [Instr.sameNow,e]
      | 1,hk,_=>cases hk
      | 2,hk,_=>cases hk
     ·cases h
   | _=>cases h
 | str a=>
   cases x with
   | str c=>
     simp only [wl,Option.some.injEq] at h; subst h
     simp only [RD] at h1 h2; subst h1; subst h2
     match kc,hk,hu with
     | 0,hk,_=>cases hk
     | 2,hk,_=>cases hk
     | 1,_,hu=>
       obtain rfl:u= .string:=hu
       simp only [Instr.sameNow,kU]
   | _=>cases h
 | bool a=>
   cases x with
   | bool c=>
     simp only [wl,Option.some.injEq] at h; subst h
     simp only [RD] at h1 h2; subst h1; subst h2
     match kc,hk,hu with
     | 0,hk,_=>cases hk
     | 1,hk,_=>cases hk
     | 2,_,hu=>obtain rfl:u= .bool:=hu; rfl
   | _=>cases h
 | _=>match kc,hk with
   | 0,h=>cases h
   | 1,h=>cases h
   | 2,h=>cases h
   | n+3,h=>cases h
theorem iM {P:Program} {kc:Nat} {t:TypeId} {u:TypeDesc} (ht:P.underlying t=some u) (hu:bj kc u) (b:Bool) (v:Value) (w:World):(Instr.checkKey b 10000 t v).run P w= .ok () w:=by
 have:∀ n,(Instr.checkKey b (n+1) t v).run P w= .ok () w:=by
  intro n
  simp only [Instr.checkKey,Sem.run_bind,zS ht,Result.andThen_ok]
  match kc,hu with
  | 0,hu=>obtain ⟨k,rfl⟩:=hu; rfl
  | 1,hu=>obtain rfl:u= .string:=hu; rfl
  | 2,hu=>obtain rfl:u= .bool:=hu; rfl
 exact this 9999
theorem YZ {k x:D} (h:wl k x=some true) {S:Nat→Nat} {w:World} {kv xv:Value} (h1:RD S w k kv) (h2:RD S w x xv) (n:Nat):Instr.sameBits n xv kv=true:=by
 cases k with
 | int q a=>
   cases x with
   | int q' c=>
     simp only [wl] at h
     split at h
     ·rename_i e; simp only [Option.some.injEq,beq_iff_eq] at h
      simp only [RD] at h1 h2; subst h1; subst h2; subst h; subst e
      simp [Instr.sameBits]
     ·cases h
   | _=>cases h
 | str a=>
   cases x with
   | str c=>
     simp only [wl,Option.some.injEq,beq_iff_eq] at h
     simp only [RD] at h1 h2; subst h1; subst h2
     simp only [Instr.sameBits,kU,beq_iff_eq]; exact h.symm
   | _=>cases h
 | bool a=>
   cases x with
   | bool c=>
     simp only [wl,Option.some.injEq,beq_iff_eq] at h
     simp only [RD] at h1 h2; subst h1; subst h2; subst h
     simp [Instr.sameBits]
   | _=>cases h
 | _=>cases h
theorem take_append {α:Type} {a b:List α} {n:Nat} (h:a.length=n):(a++b).take n=a∧(a++b).drop n=b:=by
 subst h; exact ⟨List.take_left,List.drop_left⟩
theorem RDl.split {S:Nat→Nat} {w:World} {xs:List D} {a b:List Value} (h:RDl S w xs (a++b)) {n:Nat} (hn:a.length=n):RDl S w (xs.take n) a∧RDl S w (xs.drop n) b:=by
 have h1:=RDl.take n h
 have h2:=RDl.drop n h
 obtain ⟨e1,e2⟩:=take_append (b:=b) hn
 rw [e1] at h1; rw [e2] at h2
 exact ⟨h1,h2⟩
theorem XD {kc:Nat} {u:TypeDesc} (hu:bj kc u) {n:Option Nat} {k:D} (hk:xY kc k=true) {S:Nat→Nat} {w:World} {kv:Value} (h1:RD S w k kv):
  ∀ {es:List MapEntry} {cs:List D} {r:Option (List D)} (i:Nat),(∀ e ∈ es,pw n e.val)→RDl S w cs (xr n es)→oC (msz n) k es.length cs=some r→
    (r=none∧Instr.findNow u kv es i=some none) ∨ ∃ j e xs,r=some xs∧es[j]? =some e∧Instr.findNow u kv es i=some (some (i+j,e.val))∧RDl S w xs (sy n e.val)
 | [],cs,r,i,_,_,h=>by
   simp only [List.length_nil,oC,Option.some.injEq] at h
   exact .inl ⟨h.symm,rfl⟩
 | e :: es,cs,r,i,hok,hR,h=>by
   simp only [xr] at hR
   cases cs with
   | nil=>simp [oC] at h
   | cons x cs=>
     obtain ⟨v,q,e1,hx,hR⟩:=hR
     injection e1 with e1 e2
     subst e1; subst e2
     obtain ⟨hA,hB⟩:=hR.split (mH (hok e (by simp)))
     simp only [List.length_cons,oC] at h
     obtain ⟨b,hb,h⟩:=Option.bind_eq_some_iff.1 h
     have hsn:=eE hu hk hb h1 hx
     cases b with
     | true=>
       simp only [if_true,Option.some.injEq] at h
       exact .inr ⟨0,e,_,h.symm,rfl,by simp [Instr.findNow,hsn],hA⟩
     | false=>
       simp only [Bool.false_eq_true,if_false] at h
       rcases XD hu hk h1 (i+1) (fun e he=>hok e (by simp [he])) hB h with ⟨e1,e2⟩ | ⟨j,e',xs,e1,e2,e3,e4⟩
       ·exact .inl ⟨e1,by simp [Instr.findNow,hsn,e2]⟩
       ·exact .inr ⟨j+1,e',xs,e1,by simpa using e2,by simp only [Instr.findNow,hsn,e3]; congr 3; omega,e4⟩
theorem dT {kc:Nat} {u:TypeDesc} (hu:bj kc u) {n:Option Nat} {k:D} (hk:xY kc k=true) {S:Nat→Nat} {w:World} {kv val:Value} (h1:RD S w k kv) {vs:List D} (hv:RDl S w vs (sy n val)) (born:Nat):
  ∀ {es:List MapEntry} {cs z:List D} (i:Nat),(∀ e ∈ es,pw n e.val)→RDl S w cs (xr n es)→oZ (msz n) k vs es.length cs=some z→
    (Instr.findNow u kv es i=some none∧RDl S w z (xr n (es++[⟨kv,val,born⟩]))) ∨
    ∃ j e,es[j]? =some e∧Instr.findNow u kv es i=some (some (i+j,e.val))∧Instr.sameBits 10000 e.key kv=true∧RDl S w z (xr n (es.modify j fun e=>{ e with key:=kv,val:=val }))
 | [],cs,z,i,_,_,h=>by
   simp only [List.length_nil,oZ,Option.some.injEq] at h
   subst h
   refine .inl ⟨rfl,?_⟩
   simp only [List.nil_append,xr]
   exact ⟨kv,_,rfl,h1,by simpa using hv⟩
 | e :: es,cs,z,i,hok,hR,h=>by
   simp only [xr] at hR
   cases cs with
   | nil=>simp [oZ] at h
   | cons x cs=>
     obtain ⟨v,q,e1,hx,hR⟩:=hR
     injection e1 with e1 e2
     subst e1; subst e2
     obtain ⟨hA,hB⟩:=hR.split (mH (hok e (by simp)))
     simp only [List.length_cons,oZ] at h
     obtain ⟨b,hb,h⟩:=Option.bind_eq_some_iff.1 h
     have hsn:=eE hu hk hb h1 hx
     cases b with
     | true=>
       simp only [if_true,Option.some.injEq] at h
       subst h
       refine .inr ⟨0,e,rfl,by simp [Instr.findNow,hsn],YZ hb h1 hx _,?_⟩
       simp only [List.modify_zero_cons,xr]
       exact ⟨kv,_,rfl,h1,hv.append hB⟩
     | false=>
       simp only [Bool.false_eq_true,if_false] at h
       obtain ⟨z',hz,rfl⟩:=Option.map_eq_some_iff.1 h
       rcases dT hu hk h1 hv born (i+1) (fun e he=>hok e (by simp [he])) hB hz with ⟨e1,e2⟩ | ⟨j,e',e2,e3,e4,e5⟩
       ·refine .inl ⟨by simp [Instr.findNow,hsn,e1],?_⟩
        simp only [List.cons_append,xr]
        exact ⟨_,_,rfl,hx,hA.append e2⟩
       ·refine .inr ⟨j+1,e',by simpa using e2,by simp only [Instr.findNow,hsn,e3]; congr 3; omega,e4,?_⟩
        simp only [List.modify_succ_cons,xr]
        exact ⟨_,_,rfl,hx,hA.append e5⟩
section
variable {P:Program} {o:Oper} {act:Act} {c:C} {role:Nat→Option Nat} {st:St}
variable (hs:∀ n,R c (st.slot n) (act.tmps.getD n undef)) (hobs:∀ id,ObOK c role id)
include hs hobs
theorem bc {t yt:TypeId} {k0:IntKind} {x y:Operand} {l:List SA} {out:Out} {Γ:Ctx} {d:Nat} (ho:o.op= .binOp .shr t x y yt) (ht:P.underlying t=some (.int k0))
  (hl:zD [x,y]=some l) (he:eval Γ c.ob d .shr (l.map st.get)=some out):Does P o act c role out:=by
 obtain ⟨a,b,rfl,h1,h2⟩:=uq hs hobs hl
 simp only [List.map_cons,List.map_nil,eval] at he
 split at he
 ·rename_i k a' k' b' heq
  simp only [List.cons.injEq,and_true] at heq
  obtain ⟨e1,e2⟩:=heq
  rw [e1] at h1; rw [e2] at h2
  simp only [R,RD] at h1 h2
  split at he
  ·rename_i h0
   rw [zr he]
   refine Does.pure hobs (v:= .int k (a'.fdiv (2 ^ min b'.toNat k.bits))) ?_ rfl
   have hn:¬ b' < 0:=by omega
   simp [execOp,ho,binOp,h1,h2,Op.shift,hn,eqGuard]
  ·cases he
 ·cases he
omit hs in
theorem Ub {S':Nat→Nat} {w':World} {role':Nat→Option Nat} (h1:∀ b,b < c.w.heap.size→w'.heap[b]? =c.w.heap[b]? ∧S' b=c.S b∧role' b=role b)
  (os:w'.os=c.w.os) (tape:w'.tape=c.w.tape) (output:w'.output=c.w.output) (size:c.w.heap.size ≤ w'.heap.size):Ext c ⟨S',w',c.hd,c.ob⟩ role role':=by
 refine uY hobs 0 (fun b hb _=>(h1 b hb).2.1) (fun b hb _=>(h1 b hb).1) ?_ (fun b hb=>(h1 b hb).2.2) (fun _ _=>⟨rfl,rfl⟩) (.inr ⟨rfl,rfl,rfl,rfl⟩) os tape output size ?_
 ·intro b o v _ ho hv
  have hlt:=World.block_lt_of_cell? c.w ⟨b,o,none⟩ hv
  refine ⟨by show o < S' b; rw [(h1 b hlt).2.1]; exact ho,?_⟩
  show w'.cell? _=_
  rw [World.cell?_of_block (w:=c.w) (h1 b hlt).1]; exact hv
 ·intro hle
  exact (hobs 0).keep hle 0 rfl rfl fun b hb hl=>⟨(h1 b hl).1,(h1 b hl).2.1,((h1 b hl).2.2).trans hb⟩
theorem Up {s t e:TypeId} {x:Operand} {sa:SA} {out:Out} {Γ:Ctx} {d:Nat} (ho:o.op= .convert s t x) (hus:P.underlying s=some .string) (hut:P.underlying t=some (.slice e)) (hE:P.underlying e=some (.int .u8))
  (hx:zQ x=some sa) (he:eval Γ c.ob d (.s2b e) [st.get sa]=some out):Does P o act c role out:=by
 have hr:=yn hs hx
 generalize st.get sa=a at he hr
 simp only [eval] at he
 split at he
 ·rename_i b heq
  simp only [List.cons.injEq,and_true] at heq; subst heq
  rw [zr he]
  simp only [R,RD] at hr
  have hrun:=Lib.run_convert_string_bytes (P:=P) c.w s t e b hus hut hE
  have hx':Ext c ⟨upd c.S c.w.heap.size b.size,Lib.bytesWorld c.w e b,c.hd,za c.ob []⟩ role (upd role c.w.heap.size none):=by
   refine Ub hobs ?_ ?_ ?_ ?_ ?_
   ·exact fun b' hb=>⟨Lib.bytesWorld_at_old c.w e b b' hb,zx _ _ (by omega),zx _ _ (by omega)⟩
   ·unfold Lib.bytesWorld World.freeze; split <;> rfl
   ·unfold Lib.bytesWorld World.freeze; split <;> rfl
   ·unfold Lib.bytesWorld World.freeze; split <;> rfl
   ·rw [Lib.bytesWorld_size]; omega
  refine ⟨.value (.slice (some ⟨c.w.heap.size,0,none⟩) b.size (grownCap c.w b.size 0 e)),_,_,_,c.hd,_,?_,.inl rfl,hx',?_⟩
  ·simp only [execOp,ho,hr,Sem.run_bind,hrun]; rfl
  ·refine ⟨_,_,rfl,grownCap_ge c.w b.size 0 e,by simp,?_⟩
   rintro p ⟨rfl⟩
   refine ⟨.inl rfl,?_⟩
   have:∀ (l:List UInt8) (k:Nat),(∀ j,j < l.length→b.data.toList[k+j]? =l[j]?)→k+l.length ≤ b.size→RDat (upd c.S c.w.heap.size b.size) (Lib.bytesWorld c.w e b) (l.map fun x=>D.int .u8 x.toNat) c.w.heap.size k:=by
    intro l
    induction l with
    | nil=>intro k _ _; trivial
    | cons z l ih=>
      intro k hk hlen
      simp only [List.length_cons] at hlen
      refine ⟨by rw [zq]; omega,⟨.int .u8 z.toNat,?_,rfl⟩,ih (k+1) ?_ (by omega)⟩
      ·rw [Lib.bytesWorld_cell c.w e b k (by omega)]
       have:=hk 0 (by simp)
       simp only [Nat.add_zero,List.getElem?_cons_zero] at this
       simp [List.getD,this]
      ·intro j hj
       have:=hk (j+1) (by simp; omega)
       simpa [Nat.add_assoc,Nat.add_comm 1] using this
   refine this b.data.toList 0 (fun j hj=>by simp) ?_
   have:b.data.toList.length=b.size:=rfl
   omega
 ·cases he
theorem jO {k:RK} {x:D} {ob':Obj} {v:Value} {vs:List Value} {out:Out} {d:Nat} (hrun:(execOp act.eval o).run P c.w= .ok (.value v) (c.w.alloc ob'))
  (hh:k.Holds (c.w.alloc ob') v vs) (hf:k.foot (c.w.alloc ob') v=[c.w.heap.size]) (hx:RDl c.S c.w (oS x) vs) (he:mk c.ob d [] (.res k x)=some out):Does P o act c role out:=by
 simp only [mk,List.nil_append,Option.some.injEq] at he
 subst he
 refine ⟨_,v,upd c.S c.w.heap.size 0,_,upd c.hd (oid d 0) v,upd role c.w.heap.size (some (oid d 0)),hrun,.inl rfl,?_,?_⟩
 ·refine uY hobs (oid d 0) ?_ ?_ ?_ ?_ ?_ ?_ rfl rfl rfl (by simp) ?_
  ·exact fun b hb _=>zx _ _ (by omega)
  ·exact fun b hb _=>heap_alloc_old c.w _ hb
  ·intro b o v _ ho hv
   have hlt:=World.block_lt_of_cell? c.w ⟨b,o,none⟩ hv
   refine ⟨by show o < upd _ _ _ b; rw [zx _ _ (by simp at hlt; omega)]; exact ho,?_⟩
   show (c.w.alloc _).cell? _=_
   rw [World.cell?_alloc_lt c.w _ _ hlt]; exact hv
  ·exact fun b hb=>zx _ _ (by omega)
  ·exact fun j hj=>⟨zx _ _ hj,zx _ _ hj⟩
  ·left; simp [za,wU,zq]
  ·intro hle
   show ObOK _ _ (oid d 0)
   unfold ObOK
   simp only [za,wU,zq]
   refine ⟨vs,hh,RDl.mono hle.stab _ _ hx,?_⟩
   rw [hf]
   intro b hb
   simp only [List.mem_singleton] at hb
   subst hb
   exact ⟨zq _ _ _,zq _ _ _⟩
 ·refine ⟨hh.one,?_,?_⟩
  ·simp [za,wU,zq]
  ·intro _ _; exact (zq _ _ _).symm
theorem TE {t kt e:TypeId} {r:Option Operand} {n:Option Nat} {l:List SA} {out:Out} {Γ:Ctx} {d:Nat} (ho:o.op= .makeMap t r) (ht:P.underlying t=some (.map kt e))
  (hl:zD r.toList=some l) (he:eval Γ c.ob d (.mkR (.map t n)) (l.map st.get)=some out):Does P o act c role out:=by
 have hR:=qm hs hl
 have hnew:∀ v,(execOp act.eval o).run P c.w= .ok (.value v) (c.w.alloc (.map #[] 0))→v= .map (some c.w.heap.size)→mk c.ob d [] (.res (.map t n) (.lst 0 []))=some out→Does P o act c role out:=by
  rintro _ hrun rfl he
  have hh:(RK.map t n).Holds (c.w.alloc (.map #[] 0)) (.map (some c.w.heap.size)) []:=⟨_,#[],0,rfl,heap_alloc_new c.w _,by simp,rfl⟩
  exact jO hs hobs (x:= .lst 0 []) hrun hh rfl rfl he
 cases r with
 | none=>
   simp only [Option.toList_none,zD,Option.some.injEq] at hl
   subst hl
   simp only [List.map_nil,eval] at he
   refine hnew _ ?_ rfl he
   simp [execOp,ho,Instr.makeMap]
 | some r=>
   simp only [Option.toList_some] at hl
   obtain ⟨a,ha,hl⟩:=Option.bind_eq_some_iff.1 hl
   simp only [zD,Option.map_some,Option.some.injEq] at hl
   subst hl
   obtain ⟨v,q,e1,hv,hq⟩:=hR
   simp only [Option.toList_some,List.map_cons,List.map_nil,List.cons.injEq] at e1
   obtain ⟨e1,e2⟩:=e1
   simp only [List.map_cons,List.map_nil,eval] at he
   split at he
   all_goals first
    | (rename_i heq; simp at heq; done)
    | (cases he; done)
    | skip
   rename_i n' k i heq1 heq2
   cases heq1
   simp only [List.cons.injEq,and_true] at heq2
   rw [heq2] at hv
   simp only [R,RD] at hv
   refine hnew _ ?_ rfl he
   simp [execOp,ho,e1,hv,Instr.makeMap,zS ht,asInt,asIntOf]
theorem S7 {t u:TypeId} {out:Out} {Γ:Ctx} {d:Nat} (ho:o.op= .alloc t) (hz:ux P t=some [.d .nilp,.nil])
  (he:eval Γ c.ob d (.mkR (.bld t u)) []=some out):Does P o act c role out:=by
 obtain ⟨i,z,hi,hz',hzc⟩:=pe hs hobs hz
 simp only [eval] at he
 obtain ⟨v0,r,e1,h0,v1,r1,e2,h1,e3⟩:=hzc
 simp only [R,RD] at h0 h1
 subst h0; subst h1
 cases e3
 rw [e2] at e1
 have hcells:z.cells=#[.pointer none,.slice none 0 0]:=by rw [← Array.toList_inj]; exact e1
 have hrun:(execOp act.eval o).run P c.w= .ok (.value (.pointer (some ⟨c.w.heap.size,0,none⟩))) (c.w.alloc (.cells #[.pointer none,.slice none 0 0] t)):=by
  simp [execOp,ho,Instr.alloc,zeroValue,typeInfo,hi,hz',newVar,newRow,hcells]
 have hb:(c.w.alloc (.cells #[.pointer none,.slice none 0 0] t)).heap[c.w.heap.size]? =some (.cells #[.pointer none,.slice none 0 0] t (0,0)):=heap_alloc_new c.w _
 have hI:Lib.IsBuilderF t u 0 c.w.heap.size (Lib.byteCells (⟨#[]⟩:ByteArray).data.toList) (c.w.alloc (.cells #[.pointer none,.slice none 0 0] t)):=
  WY (.inl rfl) hb (World.ownsRowF_nil _ _ _ _) (by simp [Value.ownBlock])
 have hh:(RK.bld t u).Holds (c.w.alloc (.cells #[.pointer none,.slice none 0 0] t)) (.pointer (some ⟨c.w.heap.size,0,none⟩)) [.string ⟨#[]⟩]:=⟨_,_,rfl,rfl,hI⟩
 refine jO hs hobs (x:= .str ⟨#[]⟩) hrun hh ?_ ⟨_,[],rfl,rfl,rfl⟩ he
 simp only [RK.foot,hb,je]; rfl
omit hs hobs in
theorem py {u:TypeDesc} {t:TypeId} (ht:P.underlying t=some u) {kv:Value} {es:List MapEntry} {r:Option (Nat×Value)} (h:Instr.findNow u kv es 0=some r) (w:World):
  (Instr.findKey t kv es).run P w= .ok r w:=by
 simp [Instr.findKey,zS ht,h]
omit hs hobs in
theorem ai {n:Option Nat} {x:D} {p:Nat×List D} (h:v7 n x=some p):x= .lst p.1 p.2∧p.2.length=p.1 * (1+msz n):=by
 unfold v7 at h
 split at h
 ·split at h
  ·rename_i e; cases h; exact ⟨rfl,e⟩
  ·cases h
 ·cases h
omit hs in
theorem dY {id ver:Nat} {t:TypeId} {q:RK×D} {n:Option Nat} {v:Value} {p:Nat×List D} (h:R c (.row id ver) v) (hb:uy c.ob id ver=some q) (hq:q.1= .map t n) (hp:v7 n q.2=some p):
  ∃ b es clock,v= .map (some b)∧c.hd id=v∧c.w.heap[b]? =some (.map es clock)∧(∀ e ∈ es.toList,pw n e.val)∧RDl c.S c.w p.2 (xr n es.toList)∧es.size=p.1∧role b=some id∧c.S b=0:=by
 obtain ⟨h1,h2⟩:=ll hb
 have e1:v=c.hd id:=h.2.2 h2.symm (by rw [h1]; rfl)
 obtain ⟨vs,e2,e3,e4⟩:=sX (hobs id) h1
 rw [hq] at e2 e4
 obtain ⟨b,es,clock,g1,g2,g3,g4⟩:=e2
 obtain ⟨k1,k2⟩:=ai hp
 rw [k1,g4] at e3
 simp only [oS] at e3
 rw [g1] at e4
 have e5:=e4 b (by simp [RK.foot])
 have hl:=e3.length
 rw [mh g3,k2] at hl
 have:es.toList.length=p.1:=Nat.eq_of_mul_eq_mul_right (by omega) hl
 exact ⟨b,es,clock,e1.trans g1,e1.symm,g2,g3,e3,by simpa using this,e5.1,e5.2⟩
omit hs hobs in
theorem Zy {n:Option Nat} {xs:List D} {a:A} (h:qB n xs=some a) {v:Value} (hok:pw n v) (hr:RDl c.S c.w xs (sy n v)):R c a v:=by
 cases n with
 | none=>
   obtain ⟨v',r,e,hx,hr'⟩:∃ v' r,[v]=v' :: r∧∃ x ys,xs=x :: ys∧RD c.S c.w x v'∧RDl c.S c.w ys r:=by
    cases xs with
    | nil=>cases h
    | cons x ys=>
      obtain ⟨v',r,e,h1,h2⟩:=hr
      exact ⟨v',r,e,x,ys,rfl,h1,h2⟩
   obtain ⟨ys,rfl,h1,h2⟩:=hr'
   injection e with e1 e2
   subst e1; subst e2
   have:ys=[]:=by cases ys with | nil=>rfl | cons _ _=>obtain ⟨_,_,e,_⟩:=h2; cases e
   subst this
   simp only [qB,Option.some.injEq] at h; subst h
   exact h1
 | some m=>
   simp only [qB] at h
   split at h
   ·simp only [Option.some.injEq] at h; subst h
    obtain ⟨vs,rfl,_⟩:=hok
    exact ⟨vs,rfl,Rl.map_d hr⟩
   ·cases h
theorem X1 {t kt e:TypeId} {x y:Operand} {wantOk:Bool} {kc:Nat} {n:Option Nat} {z:List A} {zd:List D} {l:List SA} {out:Out} (ho:o.op= .lookup t x y wantOk) (ht:P.underlying t=some (.map kt e))
  (hk:o7 P kt=some kc) (hn:sC P e=some n) (hz:ux P e=some z) (hzd:qd z=some zd) (hzi:cz P e n=true) (hl:zD [x,y]=some l)
  (he:mt c.ob t kc n zd wantOk (l.map st.get)=some out):Does P o act c role out:=by
 obtain ⟨a,b,rfl,h1,h2⟩:=uq hs hobs hl
 simp only [List.map_cons,List.map_nil] at he
 obtain ⟨u,hu1,hu2⟩:=X3 hk
 unfold mt at he
 split at he
 case h_2=>cases he
 rename_i id ver k heq
 simp only [List.cons.injEq,and_true] at heq
 obtain ⟨e1,e2⟩:=heq
 rw [e1] at h1; rw [e2] at h2
 obtain ⟨q,hq,he⟩:=Option.bind_eq_some_iff.1 he
 split at he
 case isFalse=>cases he
 rename_i hc
 obtain ⟨c1,c2⟩:=hc
 obtain ⟨p,hp,he⟩:=Option.bind_eq_some_iff.1 he
 obtain ⟨r,hr,he⟩:=Option.bind_eq_some_iff.1 he
 obtain ⟨av,hav,he⟩:=Option.bind_eq_some_iff.1 he
 rw [zr he]
 obtain ⟨b',es,clock,g1,_,g2,g3,g4,g5,_⟩:=dY hobs h1 hq c1 hp
 rw [← g5] at hr
 have hf:=XD hu2 c2 (show RD c.S c.w k (act.eval y) from h2) 0 g3 g4 (by simpa using hr)
 have hck:=iM hu1 hu2 es.isEmpty (act.eval y) c.w
 have hget:(getObj b').run P c.w= .ok (.map es clock) c.w:=MapKept.run_getObj_map g2
 obtain ⟨i,zv,hi,hz',hzR⟩:=pe hs hobs hz
 have hzrun:(zeroValue e).run P c.w= .ok zv c.w:=by simp [zeroValue,typeInfo,hi,hz']
 have fin:∀ (v:Value) (f:Bool),(Instr.lookup t (act.eval x) (act.eval y) wantOk).run P c.w= .ok (if wantOk then Value.tuple #[v,.bool f] else v) c.w→R c av v→f=r.isSome→
   Does P o act c role (.val (if wantOk=true then .tup [av,.d (.bool r.isSome)] else av) []):=by
  rintro v f hrun hv rfl
  refine Does.pure hobs (v:=if wantOk then Value.tuple #[v,.bool r.isSome] else v) ?_ ?_
  ·simp only [execOp,ho,Sem.run_bind,hrun]; rfl
  ·cases wantOk with
   | true=>exact ⟨_,rfl,v,_,rfl,hv,_,_,rfl,rfl,rfl⟩
   | false=>exact hv
 rcases hf with ⟨rfl,hf⟩ | ⟨j,e',xs,rfl,f1,hf,f3⟩
 ·refine fin zv false ?_ ?_ rfl
  ·simp [Instr.lookup,g1,zS ht,hget,hck,py hu1 hf,hzrun,Result.andThen]
  ·have hzd':=mP hzd hzR
   have hzok:pw n zv∧sy n zv=zv.cells.toList:=by
    simp only [cz,hi,Option.bind_some,hz'] at hzi
    cases n with
    | none=>
      have h1:zv.oneCell'=true:=by cases zv <;> first | exact hzi | cases hzi
      exact ⟨h1,by rw [wY h1]; rfl⟩
    | some m=>
      cases zv with
      | agg vs=>
        refine ⟨⟨vs,rfl,?_⟩,rfl⟩
        simp only [Option.getD_none,qB] at hav
        split at hav
        ·rename_i hlen
         have:=hzd'.length
         simp only [Value.cells,Array.length_toList] at this
         omega
        ·cases hav
      | _=>cases hzi
   exact Zy hav hzok.1 (by rw [hzok.2]; exact hzd')
 ·refine fin e'.val true ?_ ?_ rfl
  ·simp [Instr.lookup,g1,zS ht,hget,hck,py hu1 hf,Result.andThen]
  ·exact Zy hav (g3 e' (List.mem_of_getElem? f1)) f3
omit hs in
theorem ZP {id:Nat} {k:RK} {x0 x:D} (h0:(c.ob id).o= .res k x0) {b:Nat} {o':Obj} {v:Value} {vs:List Value} {ls:List Nat} {w':World} (hhd:c.hd id=v)
  (hw:w'={ c.w with heap:=c.w.heap.setIfInBounds b o' }) (hh:k.Holds w' v vs) (hf:k.foot w' v=[b]) (hf0:k.foot c.w v=[b]) (hr:role b=some id) (hS:c.S b=0)
  (hls:∀ id ∈ ls,∃ e sz n cap cells,(c.ob id).o= .row e sz n cap cells)
  (hx:∀ S',Stab c.S c.w S' c.w→(∀ id ∈ ls,∀ e sz n cap cells,(c.ob id).o= .row e sz n cap cells→∀ b,(c.hd id).ownBlock=some b→S' b=n * sz)→RDl S' c.w (oS x) vs):
  ∃ S',Ext c ⟨S',w',c.hd,za c.ob (zl c.ob ls++[(id,{ ver:=(c.ob id).ver,o:= .res k x,leak:=false })])⟩ role role:=by
 obtain ⟨S1,x1,y1⟩:=w4 ls hobs hls
 have hid:id ∉ ls:=by
  intro h
  obtain ⟨_,_,_,_,_,h⟩:=hls id h
  rw [h0] at h; cases h
 have hsame:za c.ob (zl c.ob ls) id=c.ob id:=by
  have:∀ (l:List Nat) (f:Nat→Ob),id ∉ l→za f (zl c.ob l) id=f id:=by
   intro l
   induction l with
   | nil=>intro f _; rfl
   | cons i l ih=>
     intro f h
     simp only [List.mem_cons,not_or] at h
     simp only [zl,List.map_cons,za]
     rw [show l.map (fun id=>(id,({ c.ob id with leak:=true }:Ob)))=zl c.ob l from rfl,ih _ h.2,zx _ _ h.1]
  exact this ls c.ob hid
 have hS1:S1 b=0:=by
  obtain ⟨vs',q1,q2,q3⟩:=sX (x1.obs id) (by simp only [hsame]; exact h0)
  simp only [hhd,hf0] at q3
  exact (q3 b (by simp)).2
 refine ⟨S1,x1.trans ?_⟩
 have hother:∀ b',b' ≠ b→w'.heap[b']? =c.w.heap[b']? :=by
  intro b' hb
  rw [hw]
  simp only [Array.getElem?_setIfInBounds]
  rw [if_neg (fun e=>hb e.symm)]
 refine uY x1.obs id ?_ ?_ ?_ (fun _ _=>rfl) ?_ ?_ (by rw [hw]) (by rw [hw]) (by rw [hw]) (by rw [hw]; simp) ?_
 ·exact fun _ _ _=>rfl
 ·intro b' _ hb'
  exact hother b' (fun e=>hb' (by rw [e]; exact hr))
 ·intro b' o v' hb' ho hv'
  refine ⟨ho,?_⟩
  have hne:b' ≠ b:=by rintro rfl; simp only at ho; omega
  show w'.cell? _=_
  rw [World.cell?_of_block (w:=c.w) (hother b' hne)]; exact hv'
 ·intro j hj
  refine ⟨?_,rfl⟩
  simp only [yh,za,zx _ _ hj]
 ·right
  simp only [yh,za,zq,hsame,h0]
  refine ⟨?_,?_,?_,?_⟩ <;> first | rfl | trivial
 ·intro hle
  unfold ObOK
  simp only [yh,za,zq]
  refine ⟨vs,by simp only [hhd]; exact hh,RDl.mono hle.stab _ _ (hx S1 x1.le.stab y1),?_⟩
  simp only [hhd,hf]
  intro b' hb'
  simp only [List.mem_singleton] at hb'
  subst hb'
  exact ⟨hr,hS1⟩
omit hs in
theorem M0 {n:Option Nat} {a:A} {v:Value} {xs:List D} {ls:List Nat} (hr:R c a v) (he:oU n a=true) (hsn:zZ c.ob (cellsOf a)=some (xs,ls)) (hl:xs.length=msz n):
  pw n v∧sy n v=v.cells.toList:=by
 cases n with
 | none=>
   have h1:=xM hr he
   exact ⟨h1,by rw [wY h1]; rfl⟩
 | some m=>
   cases a with
   | agg cs=>
     obtain ⟨vs,rfl,H⟩:=hr
     refine ⟨⟨vs,rfl,?_⟩,rfl⟩
     have h1:=(uM hobs hsn H).2 c.S
     have:xs.length=cs.length:=by
      have:∀ (cs:List A) (p:List D×List Nat),zZ c.ob cs=some p→p.1.length=cs.length:=by
       intro cs
       induction cs with
       | nil=>intro p h; simp only [zZ,Option.some.injEq] at h; subst h; rfl
       | cons a cs ih=>
         intro p h
         simp only [zZ,Option.bind_eq_some_iff,Option.map_eq_some_iff] at h
         obtain ⟨⟨x,l⟩,_,⟨ys,l'⟩,h2,rfl⟩:=h
         simp [ih _ h2]
      exact this cs _ hsn
     have h3:=H.length
     simp only [Array.length_toList] at h3
     simp only [msz] at hl
     omega
   | _=>cases he
theorem eB {t kt e:TypeId} {m x y:Operand} {kc:Nat} {n:Option Nat} {l:List SA} {out:Out} (ho:o.op= .mapUpdate t m x y ∨ o.op= .insert t m x y) (ht:P.underlying t=some (.map kt e))
  (hk:o7 P kt=some kc) (hl:zD [m,x,y]=some l) (he:mi c.ob t kc n (l.map st.get)=some out):Does P o act c role out:=by
 obtain ⟨a0,a1,a2,rfl,h0,h1,h2⟩:=Rp hs hobs hl
 simp only [List.map_cons,List.map_nil] at he
 obtain ⟨u,hu1,hu2⟩:=X3 hk
 unfold mi at he
 split at he
 case h_2=>cases he
 rename_i id ver k a heq
 simp only [List.cons.injEq,and_true] at heq
 obtain ⟨e0,e1,e2⟩:=heq
 rw [e0] at h0; rw [e1] at h1; rw [e2] at h2
 obtain ⟨q,hq,he⟩:=Option.bind_eq_some_iff.1 he
 split at he
 case isFalse=>cases he
 rename_i hc
 obtain ⟨c1,c2⟩:=hc
 obtain ⟨p,hp,he⟩:=Option.bind_eq_some_iff.1 he
 obtain ⟨⟨xs,ls⟩,hsn,he⟩:=Option.bind_eq_some_iff.1 he
 simp only at he
 split at he
 case isFalse=>cases he
 rename_i hc'
 obtain ⟨c3,c4⟩:=hc'
 obtain ⟨z,hz,he⟩:=Option.bind_eq_some_iff.1 he
 simp only [Option.some.injEq] at he
 subst he
 obtain ⟨b',es,clock,g1,ghd,g2,g3,g4,g5,g6,g7⟩:=dY hobs h0 hq c1 hp
 rw [← g5] at hz
 have hcell:=qp h2 (nu hsn)
 obtain ⟨r1,r2⟩:=uM hobs hsn hcell
 obtain ⟨k1,k2⟩:=M0 hobs h2 c4 hsn c3
 have hkey:RD c.S c.w k (act.eval x):=h1
 have hck:=iM hu1 hu2 false (act.eval x) c.w
 have hget:(getObj b').run P c.w= .ok (.map es clock) c.w:=MapKept.run_getObj_map g2
 have hset:∀ o',(setObj b' o').run P c.w= .ok () { c.w with heap:=c.w.heap.setIfInBounds b' o' }:=fun o'=>MapKept.run_setObj_map o' g2
 obtain ⟨ho1,ho2⟩:=ll hq
 rw [c1] at ho1
 obtain ⟨S1,x1,y1⟩:=w4 ls hobs r1
 have hz1:=r2 S1 x1.le.stab y1
 rw [← k2] at hz1
 have fin:∀ (es':Array MapEntry) (clock':Nat),(Instr.mapUpdate t (act.eval m) (act.eval x) (act.eval y)).run P c.w= .ok () { c.w with heap:=c.w.heap.setIfInBounds b' (.map es' clock') }→
   (∀ e ∈ es'.toList,pw n e.val)→(∀ S',Stab c.S c.w S' c.w→(∀ id ∈ ls,∀ e sz n cap cells,(c.ob id).o= .row e sz n cap cells→∀ b,(c.hd id).ownBlock=some b→S' b=n * sz)→RDl S' c.w z (xr n es'.toList))→
   Does P o act c role (.val .undef (zl c.ob ls++[(id,{ ver:=ver,o:= .res (.map t n) (.lst (z.length / (1+msz n)) z),leak:=false })])):=by
  intro es' clock' hrun hok hR
  have hlt:=ow g2
  have hb':({ c.w with heap:=c.w.heap.setIfInBounds b' (.map es' clock') }:World).heap[b']? =some (.map es' clock'):=by
   simp [Array.getElem?_setIfInBounds,hlt]
  have hh:(RK.map t n).Holds { c.w with heap:=c.w.heap.setIfInBounds b' (.map es' clock') } (act.eval m) (xr n es'.toList):=⟨b',es',clock',g1,hb',hok,rfl⟩
  obtain ⟨S2,hx⟩:=ZP hobs (x:= .lst (z.length / (1+msz n)) z) ho1 ghd rfl hh (by rw [g1]; rfl) (by rw [g1]; rfl) g6 g7 r1 hR
  refine ⟨.skip,undef,S2,_,c.hd,role,?_,.inr ⟨rfl,rfl⟩,by rw [ho2] at hx; exact hx,trivial⟩
  rcases ho with ho | ho <;> simp only [execOp,ho,Sem.run_bind,hrun] <;> rfl
 rcases dT (w:=c.w) hu2 c2 (RD.mono x1.le.stab _ _ hkey) hz1 clock 0 g3 (RDl.mono x1.le.stab _ _ g4) (by simpa using hz) with ⟨f1,f2⟩ | ⟨j,e',f1,f2,f3,f4⟩
 ·refine fin (es.push ⟨act.eval x,act.eval y,clock⟩) (clock+1) ?_ ?_ ?_
  ·simp [Instr.mapUpdate,g1,zS ht,hget,hck,py hu1 f1,hset,Result.andThen]
  ·intro e he
   simp only [Array.toList_push,List.mem_append,List.mem_singleton] at he
   rcases he with he | rfl
   ·exact g3 e he
   ·exact k1
  ·intro S' hS hS'
   have hv':=r2 S' hS hS'
   rw [← k2] at hv'
   rcases dT (w:=c.w) hu2 c2 (RD.mono hS _ _ hkey) hv' clock 0 g3 (RDl.mono hS _ _ g4) (by simpa using hz) with ⟨_,q2⟩ | ⟨j,e',q1,q2,_,_⟩
   ·simpa using q2
   ·rw [f1] at q2; cases q2
 ·have hes:es[j]? =some e':=by simpa using f1
  refine fin (es.modify j fun e=>{ e with key:=act.eval x,val:=act.eval y }) clock ?_ ?_ ?_
  ·have hst:(Instr.keyThatStays e'.key (act.eval x)).run P c.w= .ok (act.eval x) c.w:=by simp [Instr.keyThatStays,f3]
   simp [Instr.mapUpdate,g1,zS ht,hget,hck,py hu1 f2,hset,hes,hst,Result.andThen]
  ·intro e he
   simp only [Array.toList_modify] at he
   obtain ⟨i,hi⟩:=List.getElem?_of_mem he
   rw [List.getElem?_modify] at hi
   cases hq:es.toList[i]? with
   | none=>rw [hq] at hi; simp at hi
   | some e0=>
     rw [hq] at hi
     have hi':=Option.some.inj (show some _=some e from hi)
     subst hi'
     split
     ·exact k1
     ·exact g3 e0 (List.mem_of_getElem? hq)
  ·intro S' hS hS'
   have hv':=r2 S' hS hS'
   rw [← k2] at hv'
   rcases dT (w:=c.w) hu2 c2 (RD.mono hS _ _ hkey) hv' clock 0 g3 (RDl.mono hS _ _ g4) (by simpa using hz) with ⟨q1,_⟩ | ⟨j',e'',q1,q2,_,q4⟩
   ·rw [f2] at q1; cases q1
   ·rw [f2] at q2
    simp only [Option.some.injEq,Prod.mk.injEq] at q2
    have:j=j':=by omega
    subst this
    simpa using q4
theorem Wp {args:Array Operand} {tys:Array TypeId} {t kt e:TypeId} {x:Operand} {sa:SA} {out:Out} (ho:o.op= .call { callee:= .builtin .len,args:=args,argTypes:=tys })
  (ha:args.toList=[x]) (hty:tys.toList=[t]) (ht:P.underlying t=some (.map kt e)) (hx:zQ x=some sa) (he:oL c.ob [st.get sa]=some out):Does P o act c role out:=by
 have hr:=yn hs hx
 generalize st.get sa=a at he hr
 unfold oL at he
 split at he
 case h_2=>cases he
 rename_i id ver heq
 simp only [List.cons.injEq,and_true] at heq; subst heq
 obtain ⟨q,hq,he⟩:=Option.bind_eq_some_iff.1 he
 cases hq1:q.1 with
 | bld T e=>rw [hq1] at he; cases he
 | ext i x y=>rw [hq1] at he; cases he
 | map t0 n=>
   rw [hq1] at he
   obtain ⟨p,hp,he⟩:=Option.bind_eq_some_iff.1 he
   rw [zr he]
   obtain ⟨b',es,clock,g1,ghd,g2,g3,g4,g5,_⟩:=dY hobs hr hq hq1 hp
   have hget:(getObj b').run P c.w= .ok (.map es clock) c.w:=MapKept.run_getObj_map g2
   have e1:args=#[x]:=by rw [← Array.toList_inj]; exact ha
   have e2:tys=#[t]:=by rw [← Array.toList_inj]; exact hty
   refine Does.pure hobs (v:= .int .i64 p.1) ?_ rfl
   simp [execOp,ho,e1,e2,resolve,invoke,builtin,Builtin.len_,zS ht,g1,hget,g5,goInt]
theorem SI {t e:TypeId} {s:Nat} {x y:Operand} {l:List SA} {out:Out} (ho:o.op= .slice t x (some y) none none) (ht:P.underlying t=some (.slice e)) (hsz:xK P e=some s)
  (hl:zD [x,y]=some l) (he:jj c.ob s (l.map st.get)=some out):Does P o act c role out:=by
 obtain ⟨a,b,rfl,h1,h2⟩:=uq hs hobs hl
 simp only [List.map_cons,List.map_nil] at he
 unfold jj at he
 split at he
 case h_2=>cases he
 rename_i id ver k i heq
 simp only [List.cons.injEq,and_true] at heq
 obtain ⟨e1,e2⟩:=heq
 rw [e1] at h1; rw [e2] at h2
 obtain ⟨⟨ze,zs,zn,zc,cells⟩,hrow,he⟩:=Option.bind_eq_some_iff.1 he
 simp only at he
 split at he
 case isFalse=>cases he
 rename_i hc
 obtain ⟨c1,c3,c4⟩:=hc
 rw [zr he]
 obtain ⟨q1,xs,q2,q3,q4,q5⟩:=pR hs hobs h1 hrow
 obtain ⟨p,cap,r1,r2,_⟩:=xW q2
 simp only [R,RD] at h2
 obtain ⟨hb,_,_⟩:=jp (P:=P) (c:=c) (w:=c.w) (ρ:=act.eval) (n:=zn) (cap:=cap) (lo:=some y) (hi:=none) (bs:=[.d (.int k i)]) (l:=i.toNat) (h:=zn) (sl:=true)
  (by simp [ub,c3,c4]) ⟨_,_,rfl,h2,rfl⟩ r2
 simp only [Option.map_some,Option.map_none] at hb
 refine Does.pure hobs (v:=vwV i.toNat s (c.hd id)) ?_ ?_
 ·simp [execOp,ho,Instr.sliceAt,zS ht,Instr.slice,q1,r1,hb,wv hsz,vwV]
 ·refine ⟨by rw [r1]; rfl,?_,fun _ _=>rfl⟩
  rw [(xQ hrow).2]; exact Nat.le_refl _
theorem V7 {args:Array Operand} {tys:Array TypeId} {t e:TypeId} {z:List A} {zd:List D} {x:Operand} {sa:SA} {out:Out} (ho:o.op= .call { callee:= .builtin .clear,args:=args,argTypes:=tys })
  (ha:args.toList=[x]) (hty:tys.toList=[t]) (ht:P.underlying t=some (.slice e)) (hz:ux P e=some z) (hzd:qd z=some zd) (hx:zQ x=some sa) (he:jr c.ob zd [st.get sa]=some out):Does P o act c role out:=by
 have hr:=yn hs hx
 generalize st.get sa=a at he hr
 have e1:args=#[x]:=by rw [← Array.toList_inj]; exact ha
 have e2:tys=#[t]:=by rw [← Array.toList_inj]; exact hty
 obtain ⟨i,zv,hi,hz',hzR⟩:=pe hs hobs hz
 have hzd':=mP (c:=c) hzd hzR
 unfold jr at he
 split at he
 case h_2=>cases he
 rename_i id ver lo sz heq
 simp only [List.cons.injEq,and_true] at heq; subst heq
 obtain ⟨⟨ze,zs,zn,zc,cells⟩,hrow,he⟩:=Option.bind_eq_some_iff.1 he
 simp only at he
 split at he
 case isFalse=>cases he
 rename_i hc
 obtain ⟨c1,c2,c3,c4,c5⟩:=hc
 subst c1
 simp only [Option.some.injEq] at he
 subst he
 obtain ⟨ho1,ho2⟩:=xQ hrow
 simp only at ho1 ho2
 obtain ⟨_,_,hv⟩:=hr
 have hv:=hv ho2.symm (by rw [ho1]; rfl)
 obtain ⟨xs,q2,q3,q4,q5⟩:=x9 (hobs id) ho1
 simp only [c2,Bool.false_eq_true,if_false] at q4
 have hzl:zv.cells.size=zs:=by have:=hzd'.length; simp at this; omega
 have hzrun:(zeroValue e).run P c.w= .ok zv c.w:=by simp [zeroValue,typeInfo,hi,hz']
 have hone:∀ v ∈ zv.cells.toList,v.oneCell'=true:=pc hzd'
 have hxl:=q2.1
 have hcl:=q3.length
 obtain ⟨pa,cap,r1,r2,r3,r4,r5⟩:=xW q2
 have hx:act.eval x= .slice (if cap=lo then pa else pa.map (·.add (lo * zs))) (zn - lo) (cap - lo):=by rw [hv,r1]; rfl
 by_cases hz0:zn - lo=0
 ·have hcells:cells.take (lo * zs)++(List.replicate (zn - lo) zd).flatten=cells:=by
   have:lo=zn:=by omega
   subst this
   rw [Nat.sub_self,List.replicate_zero,List.flatten_nil,List.append_nil,List.take_of_length_le (by omega)]
  have hob:za c.ob [(id,{ c.ob id with o:= .row ze zs zn zc (cells.take (lo * zs)++(List.replicate (zn - lo) zd).flatten) })]=c.ob:=by
   funext j
   simp only [za]
   by_cases hj:j=id
   ·subst hj; rw [zq,hcells,← ho1]
   ·rw [zx _ _ hj]
  refine ⟨.value (.tuple #[]),_,c.S,c.w,c.hd,role,?_,.inl rfl,by rw [hob]; exact Ext.refl hobs,?_⟩
  ·simp only [execOp,ho,e1,e2,resolve,invoke,builtin,List.map_toArray,List.map_cons,List.map_nil,hx,hz0]
   cases (if cap=lo then pa else Option.map (fun x=>x.add (lo * zs)) pa) <;> simp [Builtin.clear_,zS ht]
  ·exact ⟨#[],rfl,rfl⟩
 ·obtain ⟨g,cap',cur,k1,_,k2,k3,k4,k5,k6⟩:∃ g cap' cur,c.hd id= .slice (some ⟨g,0,none⟩) zn cap'∧0 ≤ g∧c.w.heap[g]? =some (.cells cur ze (0,0))∧zn ≤ cap'∧cap' ≤ maxLen∧cur.size=cap' * zs∧cur.toList.take (zn * zs)=xs:=by
   rcases q2.2 with ⟨_,h0⟩ | h
   ·omega
   ·exact h
  rw [k1] at r1
  injection r1 with a1 a2 a3
  subst a1; subst a3
  have hne:¬ cap'=lo:=by omega
  rw [if_neg hne,Option.map_some,Addr.add_mk,Nat.zero_add] at hx
  have q4g:=q4 g (by rw [k1]; rfl)
  have hzs:=iQ zv.cells zs (zn - lo) hzl c5
  have hlz:(List.replicate (zn - lo) zv.cells.toList).flatten.length=(zn - lo) * zs:=by simp [hzl]
  have hfit:lo * zs+(zn - lo) * zs=zn * zs:=by rw [← Nat.add_mul]; congr 1; omega
  have hcapz:zn * zs ≤ cap' * zs:=Nat.mul_le_mul_right _ k3
  have hst:=run_storeCells_at P g (lo * zs) ze (List.replicate (zn - lo) zv.cells.toList).flatten 0 cur c.w k2 (by rw [hlz,k5]; omega) (d7 hone (zn - lo))
  simp only [Nat.add_zero,hlz] at hst
  refine ⟨.value (.tuple #[]),.tuple #[],c.S,c.w.setRow g (cur.toList.take (lo * zs)++(List.replicate (zn - lo) zv.cells.toList).flatten++cur.toList.drop (lo * zs+(zn - lo) * zs)).toArray,c.hd,role,?_,.inl rfl,?_,⟨#[],rfl,rfl⟩⟩
  ·simp only [execOp,ho,e1,e2,resolve,invoke,builtin,List.map_toArray,List.map_cons,List.map_nil,hx]
   have hn0:∀ m,zn - lo=m+1→True:=fun _ _=>trivial
   obtain ⟨m,hm⟩:∃ m,zn - lo=m+1:=⟨zn - lo - 1,by omega⟩
   rw [hm] at hst hzs ⊢
   simp [Builtin.clear_,zS ht,hzrun,hzs,hst]
  ·refine uY hobs id ?_ ?_ ?_ (fun b hb=>rfl) (fun j hj=>⟨zx _ _ hj,rfl⟩) ?_ rfl rfl rfl (by simp [World.setRow]) ?_
   ·exact fun b hb _=>rfl
   ·intro b hb hr'
    exact setRow_other c.w g b _ (fun h=>hr' (by rw [h]; exact q4g.1))
   ·intro b o v hr' ho' hv'
    refine ⟨ho',?_⟩
    have hne:b ≠ g:=by rintro rfl; rw [q4g.2] at ho'; omega
    show (c.w.setRow g _).cell? _=_
    rw [World.cell?_of_block (w:=c.w) (setRow_other c.w g b _ hne)]; exact hv'
   ·right
    refine ⟨by simp [za,zq],?_,?_,rfl⟩
    ·simp only [za,zq,ho1]; rfl
    ·simp only [za,zq,ho1]; rfl
   ·intro hle
    unfold ObOK
    simp only [za,zq]
    refine ⟨xs.take (lo * zs)++(List.replicate (zn - lo) zv.cells.toList).flatten,?_,?_,?_,?_⟩
    ·refine ⟨?_,.inr ⟨g,cap',_,k1,Nat.zero_le _,setRow_heap c.w g cur _ ze _ k2,k3,k4,?_,?_⟩⟩
     ·rw [List.length_append,hlz,List.length_take]; omega
     ·simp only [List.size_toArray,List.length_append,hlz,List.length_take,List.length_drop,Array.length_toList]; omega
     ·simp only [List.toList_toArray]
      subst k6
      have hA:(cur.toList.take (lo * zs)).length=lo * zs:=by simp; omega
      rw [List.take_append,List.take_of_length_le (by rw [List.length_append,hlz,hA]; omega),List.length_append,hlz,hA,show zn * zs - (lo * zs+(zn - lo) * zs)=0 by omega,List.take_zero,List.append_nil,List.take_take]
      congr 2
      omega
    ·exact (RDl.take _ (RDl.mono hle.stab _ _ q3)).append (o8 (RDl.mono hle.stab _ _ hzd') (zn - lo))
    ·intro b hb'
     rw [k1] at hb'
     simp only [Value.ownBlock,Option.some.injEq] at hb'
     subst hb'
     refine ⟨q4g.1,?_⟩
     simp only [c2,Bool.false_eq_true,if_false]; exact q4g.2
    ·intro k hk
     obtain ⟨a,ha⟩:=q5 k hk
     exact ⟨a,ha⟩
end
theorem Ta {P:Program} {k:Nat} {t:TypeId} (hk:o7 P t=some k) {x y:D} (hx:xY k x=true) (hy:xY k y=true) {b:Bool} (h:wl x y=some b) {S:Nat→Nat} {w:World} {u v:Value}
  (h1:RD S w x u) (h2:RD S w y v) (d:Nat):(Op.equalIn (d+1) t u v).run P w= .ok b w:=by
 unfold o7 at hk
 split at hk
 ·rename_i q hu
  cases hk
  cases x <;> simp only [xY,Bool.false_eq_true] at hx
  cases y <;> simp only [xY,Bool.false_eq_true] at hy
  rename_i k1 a k2 b'
  simp only [wl] at h
  split at h
  ·rename_i e; subst e
   cases h
   simp only [RD] at h1 h2
   subst h1; subst h2
   exact run_equalIn_int w d t k1 q a b' hu
  ·cases h
 ·rename_i hu
  cases hk
  cases x <;> simp only [xY,Bool.false_eq_true] at hx
  cases y <;> simp only [xY,Bool.false_eq_true] at hy
  rename_i a b'
  simp only [wl,Option.some.injEq] at h
  subst h
  simp only [RD] at h1 h2
  subst h1; subst h2
  rw [run_equalIn_string w d t a b' hu,← beq_toListBytes,kU]
 ·rename_i hu
  cases hk
  cases x <;> simp only [xY,Bool.false_eq_true] at hx
  cases y <;> simp only [xY,Bool.false_eq_true] at hy
  rename_i a b'
  simp only [wl,Option.some.injEq] at h
  subst h
  simp only [RD] at h1 h2
  subst h1; subst h2
  exact run_equalIn_bool w d t a b' hu
 ·cases hk
theorem kH {P:Program} {k:Nat} {t:TypeId} (hk:o7 P t=some k) {xs:Array Value} {i:Nat} {v:Value} (hv:xs[i]? =some v) (w:World):(part t xs i).run P w= .ok v w:=by
 unfold o7 at hk
 split at hk <;> first | (rename_i hu; simp [part,isAgg,zS hu,hv]) | cases hk
theorem gQ {P:Program} {c:C} (d:Nat):∀ {fs:List Field} {i:Nat} {ks:List Nat} (_:fW P i fs=some ks) {xs ys:List A} {b:Bool} (_:wc ks xs ys=some b) {vx vy:Array Value}
  (_:Rl c xs (vx.toList.drop i)) (_:Rl c ys (vy.toList.drop i)),(Op.eqFields (d+1) vx vy fs).run P c.w= .ok b c.w
 | [],i,ks,hk,xs,ys,b,he,vx,vy,hx,hy=>by
   simp only [fW] at hk; cases hk
   cases xs with
   | nil=>cases ys with
     | nil=>cases he; simp [Op.eqFields]
     | cons a l=>cases he
   | cons a l=>cases he
 | f :: fs,i,ks,hk,xs,ys,b,he,vx,vy,hx,hy=>by
   simp only [fW] at hk
   split at hk
   ·rename_i hf
    obtain ⟨k,hk1,hk⟩:=Option.bind_eq_some_iff.mp hk
    obtain ⟨ks',hks,e⟩:=Option.map_eq_some_iff.mp hk
    cases e
    unfold wc at he
    split at he
    ·rename_i h; cases h
    ·rename_i x xs' y ys' heq
     cases heq
     split at he
     ·rename_i hok
      obtain ⟨b1,hb1,he⟩:=Option.bind_eq_some_iff.mp he
      obtain ⟨b2,hb2,e⟩:=Option.map_eq_some_iff.mp he
      cases e
      obtain ⟨u,ru,eu,hu,hru⟩:=hx
      obtain ⟨v,rv,ev,hv,hrv⟩:=hy
      have hu1:vx[i]? =some u:=by
       have:=congrArg (·[0]?) eu
       simpa [List.getElem?_drop] using this
      have hv1:vy[i]? =some v:=by
       have:=congrArg (·[0]?) ev
       simpa [List.getElem?_drop] using this
      have hu2:vx.toList.drop (i+1)=ru:=by rw [← List.tail_drop,eu]; rfl
      have hv2:vy.toList.drop (i+1)=rv:=by rw [← List.tail_drop,ev]; rfl
      simp only [Op.eqFields,hf.1,hf.2,ne_eq,not_false_eq_true,if_true,Sem.run_bind,kH hk1 hu1,kH hk1 hv1,Result.andThen_ok]
      simp only [R] at hu hv
      rw [Ta hk1 hok.1 hok.2 hb1 hu hv d]
      simp only [Result.andThen_ok,Sem.run_ite]
      cases b1
      ·simp
      ·simp only [Bool.not_true,Bool.false_eq_true,if_false,Bool.true_and]
       exact gQ d hks hb2 (hu2 ▸ hru) (hv2 ▸ hrv)
     ·cases he
    ·cases he
   ·cases hk
section
variable {P:Program} {o:Oper} {act:Act} {c:C} {role:Nat→Option Nat} {st:St}
variable (hs:∀ n,R c (st.slot n) (act.tmps.getD n undef)) (hobs:∀ id,ObOK c role id)
include hs hobs
theorem Ud {op:BinOp} {neg:Bool} {t yt:TypeId} {fs:Array Field} {ks:List Nat} {x y:Operand} {l:List SA} {out:Out} {Γ:Ctx} {d:Nat} (ho:o.op= .binOp op t x y yt) (ht:P.underlying t=some (.struct fs))
  (hop:(op= .eql∧neg=false) ∨ (op= .neq∧neg=true)) (hp:P.stoodInHeld t=false) (hm:P.eqGuardType P.depth t=false) (hks:fW P 0 fs.toList=some ks)
  (hl:zD [x,y]=some l) (he:eval Γ c.ob d (.seq neg ks) (l.map st.get)=some out):Does P o act c role out:=by
 obtain ⟨a,b,rfl,h1,h2⟩:=uq hs hobs hl
 simp only [eval,ZL,List.map_cons,List.map_nil] at he
 split at he
 ·rename_i p q heq
  simp only [List.cons.injEq,and_true] at heq
  obtain ⟨e1,e2⟩:=heq
  rw [e1] at h1; rw [e2] at h2
  obtain ⟨r,hr,he⟩:=Option.bind_eq_some_iff.mp he
  cases he
  obtain ⟨vx,e3,hx⟩:=h1
  obtain ⟨vy,e4,hy⟩:=h2
  have hfs:P.fieldsOf t=fs:=by simp [Program.fieldsOf,ht]
  have hq:(Op.equalIn 10000 t (.agg vx) (.agg vy)).run P c.w= .ok r c.w:=by
   rw [run_equalIn_struct c.w 9999 t vx vy (by rw [hfs]; exact ht) hp,hfs]
   exact gQ 9998 hks hr (by simpa using hx) (by simpa using hy)
  refine Does.pure hobs (v:= .bool (if neg then !r else r)) ?_ rfl
  rcases hop with ⟨rfl,rfl⟩ | ⟨rfl,rfl⟩ <;> simp only [execOp,ho,Sem.run_bind,e3,e4,run_eqGuard_agg c.w _ t x y vx vy hm,run_eql_struct,run_neq_struct,hq,Result.andThen_ok,Sem.run_pure,Bool.false_eq_true,if_false,if_true]
 ·cases he
end
end Go.Vm
