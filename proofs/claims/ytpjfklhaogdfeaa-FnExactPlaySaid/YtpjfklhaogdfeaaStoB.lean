/- The store: builders by name, under a lock: what it is in memory, and how its parts turn. -/
import Derived.Test.YtpjfklhaogdfeaaStoA
import Derived.Test.YtpjfklhaogdfeaaLckC
import Derived.Conc.MuLone
import Derived.StringKeys
import Derived.Deep.Draws
set_option linter.all false
set_option maxRecDepth 100000
namespace Go.Vm
open Go.Proofs Go.RowKit Go.ChangeMaps Go.MapKept
open Go.Maps (Keyed IsMap Tidy)
structure Pool (base:Nat) (w:World) (b m:Nat) (ps:List (Nat×List UInt8)):Prop where
 bld:∀ p ∈ ps,Bd w p.1 p.2
 ge:∀ p ∈ ps,∀ x ∈ ftB w p.1,base ≤ x∧x ≠ b∧x ≠ m
 apart:∀ p ∈ ps,∀ q ∈ ps,p.1 ≠ q.1→∀ x ∈ ftB w p.1,x ∉ ftB w q.1
 nd:(ps.map (·.1)).Nodup
theorem Pool.nil (base:Nat) (w:World) (b m:Nat):Pool base w b m []:=⟨fun p h=>(by cases h),fun p h=>(by cases h),fun p h=>(by cases h),by simp⟩
theorem Pool.keep {base:Nat} {w w':World} {b m:Nat} {ps:List (Nat×List UInt8)} (h:Pool base w b m ps) (hb:∀ p ∈ ps,∀ x ∈ ftB w p.1,w'.heap[x]? =w.heap[x]?):Pool base w' b m ps:=by
 have hk:=fun p hp=>(h.bld p hp).keep (hb p hp)
 refine ⟨fun p hp=>(hk p hp).1,fun p hp x hx=>?_,fun p hp q hq hpq x hx=>?_,h.nd⟩
 ·rw [(hk p hp).2] at hx; exact h.ge p hp x hx
 ·rw [(hk p hp).2] at hx; rw [(hk q hq).2]; exact h.apart p hp q hq hpq x hx
theorem Pool.sub {base:Nat} {w:World} {b m:Nat} {ps qs:List (Nat×List UInt8)} (h:Pool base w b m ps) (hs:∀ p ∈ qs,p ∈ ps) (nd:(qs.map (·.1)).Nodup):Pool base w b m qs:=
 ⟨fun p hp=>h.bld p (hs p hp),fun p hp=>h.ge p (hs p hp),fun p hp q hq=>h.apart p (hs p hp) q (hs q hq),nd⟩
theorem Pool.only {base:Nat} {w w':World} {b m:Nat} {ps:List (Nat×List UInt8)} (h:Pool base w b m ps) {ks:List Nat} (ho:Only ks w w') (hk:∀ k ∈ ks,k=b ∨ k=m ∨ k < base ∨ w.heap.size ≤ k):Pool base w' b m ps:=
 h.keep fun p hp x hx=>ho.block x ((h.bld p hp).lt x hx) fun hm=>by
   have h1:=h.ge p hp x hx
   have h2:=(h.bld p hp).lt x hx
   rcases hk x hm with e | e | e | e
   ·exact h1.2.1 e
   ·exact h1.2.2 e
   ·omega
   ·omega
theorem Pool.new {base:Nat} {w:World} {b m:Nat} {ps:List (Nat×List UInt8)} (h:Pool base w b m ps) (h0:base ≤ w.heap.size) (h1:b < w.heap.size) (h2:m < w.heap.size):
  Pool base (w.alloc (.cells #[.pointer none,.slice none 0 0] 156)) b m ((w.heap.size,[]) :: ps):=by
 have hk:=h.only ((Only.refl [] w).alloc (.cells #[.pointer none,.slice none 0 0] 156)) (fun k hk=>by cases hk)
 obtain ⟨n1,n2⟩:=Vu w
 have hlt:∀ p ∈ ps,∀ x ∈ ftB (w.alloc (.cells #[.pointer none,.slice none 0 0] 156)) p.1,x < w.heap.size:=fun p hp x hx=>by
  have:=(h.bld p hp).keep (w':=w.alloc (.cells #[.pointer none,.slice none 0 0] 156)) fun x hx=>Lib.alloc_old w _ x ((h.bld p hp).lt x hx)
  rw [this.2] at hx
  exact (h.bld p hp).lt x hx
 refine ⟨fun p hp=>?_,fun p hp x hx=>?_,fun p hp q hq hpq x hx hx'=>?_,?_⟩
 ·rcases List.mem_cons.1 hp with rfl | hp
  ·exact n1
  ·exact hk.bld p hp
 ·rcases List.mem_cons.1 hp with rfl | hp
  ·rw [n2,List.mem_singleton] at hx; subst hx; exact ⟨h0,by omega,by omega⟩
  ·exact hk.ge p hp x hx
 ·rcases List.mem_cons.1 hp with rfl | hp
  ·rw [n2,List.mem_singleton] at hx
   subst hx
   rcases List.mem_cons.1 hq with rfl | hq
   ·exact hpq rfl
   ·have:=hlt q hq _ hx'; omega
  ·rcases List.mem_cons.1 hq with rfl | hq
   ·rw [n2,List.mem_singleton] at hx'
    subst hx'
    have:=hlt p hp _ hx; omega
   ·exact hk.apart p hp q hq hpq x hx hx'
 ·rw [List.map_cons,List.nodup_cons]
  refine ⟨fun hm=>?_,h.nd⟩
  obtain ⟨p,hp,e⟩:=List.mem_map.1 hm
  have:=(h.bld p hp).lt p.1 (OU w p.1)
  simp only at e
  omega
theorem Pool.write {base:Nat} {w w':World} {b m:Nat} {ps:List (Nat×List UInt8)} {k:Nat} {l l':List UInt8} (h:Pool base w b m ((k,l) :: ps)) (hb:Bd w' k l') (ho:Only (ftB w k) w w') (hf:∀ x ∈ ftB w' k,x < w.heap.size→x ∈ ftB w k) (h0:base ≤ w.heap.size) (h1:b < w.heap.size) (h2:m < w.heap.size):
  Pool base w' b m ((k,l') :: ps):=by
 have hnd:=h.nd
 rw [List.map_cons,List.nodup_cons] at hnd
 have hne:∀ p ∈ ps,p.1 ≠ k:=fun p hp e=>hnd.1 (List.mem_map.2 ⟨p,hp,e⟩)
 have hps:Pool base w b m ps:=h.sub (fun p hp=>List.mem_cons_of_mem _ hp) hnd.2
 have hkk:∀ p ∈ ps,∀ x ∈ ftB w p.1,w'.heap[x]? =w.heap[x]? :=fun p hp x hx=>ho.block x ((hps.bld p hp).lt x hx) (h.apart p (by simp [hp]) (k,l) (by simp) (hne p hp) x hx)
 have hk:=hps.keep hkk
 have hfp:∀ p ∈ ps,ftB w' p.1=ftB w p.1:=fun p hp=>((hps.bld p hp).keep (hkk p hp)).2
 have hx0:∀ x ∈ ftB w' k,∀ p ∈ ps,x ∉ ftB w p.1:=fun x hx p hp hx'=>by
  have hlt:=(hps.bld p hp).lt x hx'
  exact h.apart p (by simp [hp]) (k,l) (by simp) (hne p hp) x hx' (hf x hx hlt)
 refine ⟨fun p hp=>?_,fun p hp x hx=>?_,fun p hp q hq hpq x hx hx'=>?_,?_⟩
 ·rcases List.mem_cons.1 hp with rfl | hp
  ·exact hb
  ·exact hk.bld p hp
 ·rcases List.mem_cons.1 hp with rfl | hp
  ·by_cases c:x < w.heap.size
   ·exact h.ge (k,l) (by simp) x (hf x hx c)
   ·exact ⟨by omega,by omega,by omega⟩
  ·exact hk.ge p hp x hx
 ·rcases List.mem_cons.1 hp with rfl | hp
  ·rcases List.mem_cons.1 hq with rfl | hq
   ·exact hpq rfl
   ·rw [hfp q hq] at hx'; exact hx0 x hx q hq hx'
  ·rcases List.mem_cons.1 hq with rfl | hq
   ·rw [hfp p hp] at hx; exact hx0 x hx' p hp hx
   ·exact hk.apart p hp q hq hpq x hx hx'
 ·rw [List.map_cons,List.nodup_cons]; exact hnd
def oJ:Value→Option (DataW Unit×List MemPlace)
 | .pointer (some ⟨k,0,none⟩)=>some (.lit (.int .i64 k),[])
 | .pointer none=>some (.nil,[])
 | _=>none
theorem gi {v:Value} {k:Nat} {ps:List MemPlace} (h:oJ v=some (.lit (.int .i64 k),ps)):v= .pointer (some ⟨k,0,none⟩):=by
 unfold oJ at h
 split at h
 ·simp only [Option.some.injEq,Prod.mk.injEq,DataW.lit.injEq,Lit.int.injEq,true_and] at h
  have:(‹Nat› :Int)=k:=h.1
  congr 3
  omega
 ·simp at h
 ·simp at h
structure Ent where
 name:List UInt8
 k:Nat
 data:List UInt8
def Ent.p (t:Ent):Nat×List UInt8:=(t.k,t.data)
def xB (ts:List Ent) (x:List UInt8):List Ent:=ts.filter fun t=>decide (t.name ≠ x)
structure Sto (base:Nat) (w:World) (b m n:Nat) (s:Int) (D:DataW Unit) (ts:List Ent):Prop where
 cell:w.heap[b]? =some (.cells #[.int .i32 s,.int .u32 0,.map (some m)] 152 (0,0))
 own:w.ownsMap Try.prog 9 oJ m n D
 has:∀ x,Maps.has D (.string x)=ts.any fun t=>decide (t.name=x)
 size:Maps.size D=ts.length
 at_:∀ t ∈ ts,∀ z,D.atKey (.string t.name) z= .lit (.int .i64 t.k)
 gb:base ≤ b
 gm:base ≤ m
 bm:b ≠ m
 pool:Pool base w b m (ts.map Ent.p)
 ndn:(ts.map (·.name)).Nodup
section
variable {base:Nat} {w w':World} {b m n:Nat} {s:Int} {D:DataW Unit} {ts:List Ent}
theorem Sto.ltb (h:Sto base w b m n s D ts):b < w.heap.size:=v7 h.cell
theorem Sto.ltm (h:Sto base w b m n s D ts):m < w.heap.size:=h.own.lt
theorem Sto.only (h:Sto base w b m n s D ts) {ks:List Nat} (ho:Only ks w w') (hk:∀ k ∈ ks,k < base ∨ w.heap.size ≤ k):Sto base w' b m n s D ts:=by
 have hb:∀ x,x < w.heap.size→base ≤ x→w'.heap[x]? =w.heap[x]? :=fun x h1 h2=>ho.block x h1 fun hm=>by rcases hk x hm with e | e <;> omega
 obtain ⟨es,clock,hm,r⟩:=h.own
 exact ⟨(hb b h.ltb h.gb).trans h.cell,⟨es,clock,(hb m h.ltm h.gm).trans hm,r⟩,h.has,h.size,h.at_,h.gb,h.gm,h.bm,h.pool.only ho fun k hm=> .inr (.inr (hk k hm)),h.ndn⟩
theorem Sto.below (h:Sto base w b m n s D ts) (hB:Below w.heap.size w w'):Sto base w' b m n s D ts:=
 h.only (ks:=[]) ⟨hB.os,hB.tape,hB.output,hB.size,fun k hk _=>hB.block k hk⟩ fun k hk=>by cases hk
theorem Sto.lock (h:Sto base w b m n s D ts) (s':Int):Sto base (w.setCell ⟨b,0,none⟩ (.int .i32 s')) b m n s' D ts:=by
 have hc:=h.cell
 have ho:Only [b] w (w.setCell ⟨b,0,none⟩ (.int .i32 s')):=(Only.refl [b] w).setCell (p:=⟨b,0,none⟩) (by simp) _
 refine ⟨?_,h.own.setCell (a:=⟨b,0,none⟩) (fun e=>h.bm e.symm) _,h.has,h.size,h.at_,h.gb,h.gm,h.bm,h.pool.only ho fun k hk=> .inl (by simpa using hk),h.ndn⟩
 simp [World.setCell,Array.getElem?_modify,hc]
theorem Sto.c0 (h:Sto base w b m n s D ts):w.cell? ⟨b,0,none⟩=some (.int .i32 s):=by rw [Lib.cell_of_heap h.cell]; rfl
theorem Sto.c2 (h:Sto base w b m n s D ts):w.cell? ⟨b,2,none⟩=some (.map (some m)):=by rw [Lib.cell_of_heap h.cell]; rfl
theorem Sto.fz (h:Sto base w b m n s D ts) (o:Nat):w.frozen? ⟨b,o,none⟩=false:=Lib.frozen_of_heap h.cell o
theorem Sto.turned (h:Sto base w b m n s D ts) {n':Nat} {D':DataW Unit} {ts':List Ent} (hg:w.grownBy w' (some m)) (hown:w'.ownsMap Try.prog 9 oJ m n' D') (hh:∀ x,Maps.has D' (.string x)=ts'.any fun t=>decide (t.name=x))
  (hs:Maps.size D'=ts'.length) (ha:∀ t ∈ ts',∀ z,D'.atKey (.string t.name) z= .lit (.int .i64 t.k)) (hp:Pool base w b m (ts'.map Ent.p)) (nd:(ts'.map (·.name)).Nodup):Sto base w' b m n' s D' ts':=by
 have ho:Only [m] w w':=⟨hg.os,hg.tape,hg.output,hg.size,fun k hk hn=>hg.block k hk fun e=>hn (by simpa using e)⟩
 exact ⟨(hg.block b h.ltb fun e=>h.bm (by simpa using e)).trans h.cell,hown,hh,hs,ha,h.gb,h.gm,h.bm,hp.only ho fun k hk=> .inr (.inl (by simpa using hk)),nd⟩
theorem less_mem {ts:List Ent} {x:List UInt8} {t:Ent}:t ∈ xB ts x ↔ t ∈ ts∧t.name ≠ x:=by simp [xB]
theorem dK {ts:List Ent} {x:List UInt8} (h:(ts.map (·.name)).Nodup):((xB ts x).map (·.name)).Nodup:=h.sublist (List.Sublist.map _ List.filter_sublist)
theorem mH {ts:List Ent} {x:List UInt8} (h:(ts.map (·.k)).Nodup):((xB ts x).map (·.k)).Nodup:=h.sublist (List.Sublist.map _ List.filter_sublist)
theorem kG:∀ {ts:List Ent} {x:List UInt8},(ts.map (·.name)).Nodup→(xB ts x).length+(if ts.any (fun t=>decide (t.name=x))=true then 1 else 0)=ts.length
 | [],x,_=>by simp [xB]
 | t :: ts,x,h=>by
   rw [List.map_cons,List.nodup_cons] at h
   have ih:=kG (x:=x) h.2
   by_cases c:t.name=x
   ·have hn:ts.any (fun t=>decide (t.name=x))=false:=by
     rw [List.any_eq_false]
     intro u hu e
     have e:u.name=x:=by simpa using e
     exact h.1 (List.mem_map.2 ⟨u,hu,e.trans c.symm⟩)
    rw [hn,if_neg (by simp)] at ih
    have e1:xB (t :: ts) x=xB ts x:=by unfold xB; rw [List.filter_cons_of_neg (by simp [c])]
    rw [e1,if_pos (by simp [c]),List.length_cons]
    omega
   ·have e1:xB (t :: ts) x=t :: xB ts x:=by unfold xB; rw [List.filter_cons_of_pos (by simp [c])]
    rw [e1,List.length_cons,List.length_cons]
    simp only [List.any_cons,c,decide_false,Bool.false_or]
    omega
theorem fm {ts:List Ent} {x y:List UInt8}:(xB ts x).any (fun t=>decide (t.name=y))=(decide (y ≠ x)&&ts.any fun t=>decide (t.name=y)):=by
 rw [Bool.eq_iff_iff]
 simp only [List.any_eq_true,Bool.and_eq_true,decide_eq_true_eq,less_mem]
 constructor
 ·rintro ⟨t,⟨h1,h2⟩,rfl⟩; exact ⟨h2,t,h1,rfl⟩
 ·rintro ⟨h1,t,h2,rfl⟩; exact ⟨t,⟨h2,h1⟩,rfl⟩
theorem fJ {x y:List UInt8} (h:y ≠ x):(Lit.string y) ≠ Lit.string x:=fun e=>h (by injection e)
theorem Sto.put (h:Sto base w b m n s D ts) {x:List UInt8} {k:Nat} {l:List UInt8} (hk:WideAt.IsKeyLit (Lit.string x)) {n':Nat} (hg:w.grownBy w' (some m)) (hown:w'.ownsMap Try.prog 9 oJ m n' (D.put (.string x) (.lit (.int .i64 k))))
  (hp:Pool base w b m ((⟨x,k,l⟩ :: xB ts x:List Ent).map Ent.p)):Sto base w' b m n' s (D.put (.string x) (.lit (.int .i64 k))) (⟨x,k,l⟩ :: xB ts x):=by
 have hT:Tidy D:=h.own.tidy (Maps.string_keyed Try.underlying9)
 refine h.turned hg hown (fun y=>?_) ?_ (fun t ht z=>?_) hp ?_
 ·by_cases c:y=x
  ·subst c
   rw [Maps.has_put_same hT.isMap hk]; simp
  ·rw [Maps.has_put_other (fJ c),h.has y,List.any_cons,fm]
   rw [show decide (x=y)=false from decide_eq_false fun e=>c e.symm]; simp [c]
 ·rw [Maps.size_put hT,h.has x,h.size,List.length_cons]
  have:=kG (x:=x) h.ndn
  split at this <;> rename_i c
  ·rw [if_pos c]; omega
  ·rw [if_neg c]; omega
 ·rcases List.mem_cons.1 ht with rfl | ht
  ·exact Maps.atKey_put_same hT.isMap hk _ _
  ·rw [less_mem] at ht
   rw [Maps.atKey_put_other (fJ ht.2)]
   exact h.at_ t ht.1 z
 ·rw [List.map_cons,List.nodup_cons]
  refine ⟨fun hm=>?_,dK h.ndn⟩
  obtain ⟨t,ht,e⟩:=List.mem_map.1 hm
  exact (less_mem.1 ht).2 e
theorem Sto.del (h:Sto base w b m n s D ts) {x:List UInt8} {n':Nat} (hg:w.grownBy w' (some m)) (hown:w'.ownsMap Try.prog 9 oJ m n' (D.del (.string x))):
  Sto base w' b m n' s (D.del (.string x)) (xB ts x):=by
 have hT:Tidy D:=h.own.tidy (Maps.string_keyed Try.underlying9)
 refine h.turned hg hown (fun y=>?_) ?_ (fun t ht z=>?_) (h.pool.sub (fun p hp=>?_) ?_) (dK h.ndn)
 ·rw [fm]
  by_cases c:y=x
  ·subst c
   rw [Maps.has_del_same]; simp
  ·rw [Maps.has_del_other (fJ c),h.has y]; simp [c]
 ·have h1:=Maps.size_del hT (k:= .string x)
  rw [h.has x,h.size] at h1
  have:=kG (x:=x) h.ndn
  split at this <;> rename_i c
  ·rw [if_pos c] at h1; omega
  ·rw [if_neg c] at h1; omega
 ·rw [less_mem] at ht
  rw [Maps.atKey_del_other (fJ ht.2)]
  exact h.at_ t ht.1 z
 ·obtain ⟨t,ht,rfl⟩:=List.mem_map.1 hp
  exact List.mem_map.2 ⟨t,(less_mem.1 ht).1,rfl⟩
 ·have hnd:=h.pool.nd
  rw [List.map_map] at hnd ⊢
  exact mH hnd
end
section
variable {base:Nat} {W:World} {b m n:Nat} {s:Int} {D:DataW Unit} {ts:List Ent}
theorem fB (h:Sto base W b m n s D ts) (hn:n < maxLen) (nm:ByteArray) (hnm:nm.size ≤ maxLen) (k:Nat) (l:List UInt8) (hp:Pool base W b m ((⟨nm.data.toList,k,l⟩ :: xB ts nm.data.toList:List Ent).map Ent.p)):
  ∃ w9,(Instr.mapUpdate 143 (.map (some m)) (.string nm) (.pointer (some ⟨k,0,none⟩))).run Try.prog W= .ok () w9∧
    Sto base w9 b m (n+1) s (D.put (.string nm.data.toList) (.lit (.int .i64 k))) (⟨nm.data.toList,k,l⟩ :: xB ts nm.data.toList)∧Below base W w9:=by
 obtain ⟨w9,h1,h2,h3⟩:=h.own.update (Maps.string_keyed Try.underlying9) Try.underlying143 hn (WideMaps.keyOf_string_mk Try.underlying9 hnm) (val:= .pointer (some ⟨k,0,none⟩)) (d:= .lit (.int .i64 k)) (ps:=[]) rfl
 refine ⟨w9,h1,h.put (by trivial) h3 h2 hp,⟨h3.os,h3.tape,h3.output,h3.size,fun j hj=>h3.block j (by have:=h.ltm; have:=h.gm; omega) fun e=>?_⟩⟩
 have:=h.gm
 simp only [Option.some.injEq] at e
 omega
theorem aU (h:Sto base W b m n s D ts) (nm:ByteArray) (hnm:nm.size ≤ maxLen) (ty:TypeId):
  ∃ w9,(Builtin.delete_ #[143,9] ty #[.map (some m),.string nm]).run Try.prog W= .ok (.tuple #[]) w9∧Sto base w9 b m n s (D.del (.string nm.data.toList)) (xB ts nm.data.toList)∧Below base W w9∧Only [m] W w9:=by
 obtain ⟨w9,h1,h2,h3⟩:=h.own.drop (Maps.string_keyed Try.underlying9) Try.underlying143 (WideMaps.keyOf_string_mk Try.underlying9 hnm) ty
 have h3:=h3.grown
 refine ⟨w9,h1,h.del h3 h2,⟨h3.os,h3.tape,h3.output,h3.size,fun j hj=>h3.block j (by have:=h.ltm; have:=h.gm; omega) fun e=>?_⟩,h3.os,h3.tape,h3.output,h3.size,fun j hj hn=>h3.block j hj fun e=>hn (by simpa using e)⟩
 have:=h.gm
 simp only [Option.some.injEq] at e
 omega
theorem Sto.sub (h:Sto base W b m n s D ts) {t:Ent} (ht:t ∈ ts) (x:List UInt8):Pool base W b m ((⟨x,t.k,t.data⟩ :: xB (xB ts t.name) x:List Ent).map Ent.p):=by
 have hnd:=h.pool.nd
 rw [List.map_map] at hnd
 refine h.pool.sub (fun p hp=>?_) ?_
 ·rw [List.map_cons] at hp
  rcases List.mem_cons.1 hp with rfl | hp
  ·exact List.mem_map.2 ⟨t,ht,rfl⟩
  ·obtain ⟨u,hu,rfl⟩:=List.mem_map.1 hp
   exact List.mem_map.2 ⟨u,(less_mem.1 (less_mem.1 hu).1).1,rfl⟩
 ·rw [List.map_map,List.map_cons,List.nodup_cons]
  refine ⟨fun hm=>?_,mH (mH hnd)⟩
  obtain ⟨u,hu,e⟩:=List.mem_map.1 hm
  have e:u.k=t.k:=e
  have hu1:=(less_mem.1 (less_mem.1 hu).1)
  have:u=t:=by
   have hp:=List.pairwise_map.1 hnd
   obtain ⟨i,hi,rfl⟩:=List.getElem_of_mem hu1.1
   obtain ⟨j,hj,rfl⟩:=List.getElem_of_mem ht
   by_cases c:i=j
   ·subst c; rfl
   ·exfalso
    rcases Nat.lt_or_gt_of_ne c with c | c
    ·exact List.pairwise_iff_getElem.1 hp i j hi hj c e
    ·exact List.pairwise_iff_getElem.1 hp j i hj hi c e.symm
  exact hu1.2 (by rw [this])
theorem Sto.write {W':World} (h:Sto base W b m n s D ts) {t:Ent} (ht:t ∈ ts) {l:List UInt8} (hb:Bd W' t.k l) (ho:Only (ftB W t.k) W W') (hf:∀ x ∈ ftB W' t.k,x < W.heap.size→x ∈ ftB W t.k):
  Sto base W' b m n s D (⟨t.name,t.k,l⟩ :: xB ts t.name):=by
 have h0:base ≤ W.heap.size:=by have:=h.ltb; have:=h.gb; omega
 have hge:=h.pool.ge (t.k,t.data) (List.mem_map.2 ⟨t,ht,rfl⟩)
 have hp:Pool base W b m ((t.k,t.data) :: (xB ts t.name).map Ent.p):=by
  have hnd:=h.pool.nd
  rw [List.map_map] at hnd
  refine h.pool.sub (fun p hp=>?_) ?_
  ·rcases List.mem_cons.1 hp with rfl | hp
   ·exact List.mem_map.2 ⟨t,ht,rfl⟩
   ·obtain ⟨u,hu,rfl⟩:=List.mem_map.1 hp
    exact List.mem_map.2 ⟨u,(less_mem.1 hu).1,rfl⟩
  ·have:=(h.sub ht t.name).nd
   rw [List.map_map,List.map_cons,List.nodup_cons] at this
   rw [List.map_cons,List.map_map,List.nodup_cons]
   refine ⟨fun hm=>this.1 ?_,mH hnd⟩
   obtain ⟨u,hu,e⟩:=List.mem_map.1 hm
   exact List.mem_map.2 ⟨u,less_mem.2 ⟨hu,(less_mem.1 hu).2⟩,e⟩
 have hp':=hp.write hb ho hf h0 h.ltb h.ltm
 obtain ⟨es,clock,hm,r⟩:=h.own
 have hany:(ts.any fun u=>decide (u.name=t.name))=true:=List.any_eq_true.2 ⟨t,ht,by simp⟩
 refine ⟨(ho.block b h.ltb fun hx=>(hge b hx).2.1 rfl).trans h.cell,⟨es,clock,(ho.block m h.ltm fun hx=>(hge m hx).2.2 rfl).trans hm,r⟩,fun x=>?_,?_,fun u hu z=>?_,h.gb,h.gm,h.bm,hp',?_⟩
 ·rw [h.has x,List.any_cons,fm]
  by_cases c:x=t.name
  ·subst c; rw [hany]; simp
  ·rw [show decide (t.name=x)=false from decide_eq_false fun e=>c e.symm]; simp [c]
 ·rw [h.size,List.length_cons]
  have:=kG (x:=t.name) h.ndn
  rw [hany,if_pos rfl] at this
  omega
 ·rcases List.mem_cons.1 hu with rfl | hu
  ·exact h.at_ t ht z
  ·exact h.at_ u (less_mem.1 hu).1 z
 ·rw [List.map_cons,List.nodup_cons]
  refine ⟨fun hm=>?_,dK h.ndn⟩
  obtain ⟨u,hu,e⟩:=List.mem_map.1 hm
  exact (less_mem.1 hu).2 e
theorem Sto.belowOnly {W':World} (h:Sto base W b m n s D ts) {t:Ent} (ht:t ∈ ts) (ho:Only (ftB W t.k) W W'):Below base W W':=
 ⟨ho.os,ho.tape,ho.output,ho.size,fun j hj=>ho.block j (by have:=h.ltb; have:=h.gb; omega) fun hx=>by
   have:=(h.pool.ge (t.k,t.data) (List.mem_map.2 ⟨t,ht,rfl⟩) j hx).1
   omega⟩
theorem co (h:Sto base W b m n s D ts) (hn:n < maxLen) (nm:ByteArray) (hnm:nm.size ≤ maxLen):
  ∃ w9,(Instr.mapUpdate 143 (.map (some m)) (.string nm) (.pointer (some ⟨W.heap.size,0,none⟩))).run Try.prog (W.alloc (.cells #[.pointer none,.slice none 0 0] 156))= .ok () w9∧
    Sto base w9 b m (n+1) s (D.put (.string nm.data.toList) (.lit (.int .i64 W.heap.size))) (⟨nm.data.toList,W.heap.size,[]⟩ :: xB ts nm.data.toList)∧Below base W w9:=by
 have h0:base ≤ W.heap.size:=by have:=h.ltb; have:=h.gb; omega
 have h9:Sto base (W.alloc (.cells #[.pointer none,.slice none 0 0] 156)) b m n s D ts:=h.only (ks:=[]) ((Only.refl [] W).alloc _) fun k hk=>by cases hk
 have hp:=h.pool.new h0 h.ltb h.ltm
 have hnd:=hp.nd
 obtain ⟨w9,k1,k2,k3⟩:=fB h9 hn nm hnm W.heap.size [] (hp.sub (fun p hp=>by
  rw [List.map_cons] at hp
  rcases List.mem_cons.1 hp with rfl | hp
  ·exact List.mem_cons_self
  ·obtain ⟨u,hu,rfl⟩:=List.mem_map.1 hp
   exact List.mem_cons_of_mem _ (List.mem_map.2 ⟨u,(less_mem.1 hu).1,rfl⟩)) (by
  rw [List.map_cons,List.nodup_cons,List.map_map] at hnd
  rw [List.map_map,List.map_cons,List.nodup_cons]
  refine ⟨fun hm=>hnd.1 ?_,mH hnd.2⟩
  obtain ⟨u,hu,e⟩:=List.mem_map.1 hm
  exact List.mem_map.2 ⟨u,(less_mem.1 hu).1,e⟩))
 exact ⟨w9,k1,k2,((Below.refl base W).alloc h0 _).trans k3⟩
end
theorem mG (W:World) (o:Obj) {k:Nat} (h:k < W.heap.size) (j:Nat):(W.alloc o).cell? ⟨k,j,none⟩=W.cell? ⟨k,j,none⟩:=by simp only [World.cell?,Lib.alloc_old W o k h]
theorem gx {base:Nat} {w W:World} (h:Below base w W) (j:Nat):Below base w (W.drewN j):=⟨h.os,h.tape,h.output,h.size,h.block⟩
end Go.Vm
