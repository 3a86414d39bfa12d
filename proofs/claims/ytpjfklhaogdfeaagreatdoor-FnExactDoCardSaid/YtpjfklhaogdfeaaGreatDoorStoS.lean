import Derived.Test.YtpjfklhaogdfeaaGreatDoorBldE
import Derived.Maps.OwnSet
import Derived.Test.YtpjfklhaogdfeaaGreatDoorLckC
import Derived.Conc.MuLone
import Derived.StringKeys
import Derived.Deep.Draws
set_option linter.all false
set_option maxRecDepth 100000
namespace Go.Vm
open Go.Proofs Go.RowKit
def pB (k:Nat):Value:= .pointer (some ⟨k,0,none⟩)
def Bd (w:World) (k:Nat) (l:List UInt8):Prop:=∃ p v,(p= .pointer none ∨ p= .pointer (some ⟨k,0,none⟩))∧yP 80 k p v w∧w.ownsRowF 0 5 1 v l.length (Lib.byteCells l)∧v.ownBlock ≠ some k
def ftB (w:World) (k:Nat):List Nat:=k :: je w.heap[k]?
theorem sB {w:World} {k:Nat} {p v:Value} (h:yP 80 k p v w):ftB w k=k :: v.ownBlock.toList:=by
 have h':w.heap[k]? =some (.cells #[p,v] 80 (0,0)):=h
 simp only [ftB,h',je]; rfl
theorem Bd.keep {w w':World} {k:Nat} {l:List UInt8} (h:Bd w k l) (hb:∀ x ∈ ftB w k,w'.heap[x]? =w.heap[x]?):Bd w' k l∧ftB w' k=ftB w k:=by
 obtain ⟨p,v,h1,h2,h3,h4⟩:=h
 have hf:=sB h2
 rw [hf] at hb
 have e:w'.heap[k]? =w.heap[k]? :=hb k (by simp)
 have h2':yP 80 k p v w':=e.trans h2
 exact ⟨⟨p,v,h1,h2',tN h3 fun g hg=>hb g (by simp [hg]),h4⟩,(sB h2').trans hf.symm⟩
theorem Bd.lt {w:World} {k:Nat} {l:List UInt8} (h:Bd w k l):∀ x ∈ ftB w k,x < w.heap.size:=by
 obtain ⟨p,v,h1,h2,h3,h4⟩:=h
 rw [sB h2]
 intro x hx
 rcases List.mem_cons.1 hx with rfl | hx
 ·exact vc h2
 ·exact (h3.lt x (by simpa using hx)).2
theorem QI (w:World) (k:Nat):k ∈ ftB w k:=by simp [ftB]
theorem Vv (w:World):Bd (w.alloc (.cells #[.pointer none,.slice none 0 0] 80)) w.heap.size []∧ftB (w.alloc (.cells #[.pointer none,.slice none 0 0] 80)) w.heap.size=[w.heap.size]:=by
 have h:yP 80 w.heap.size (.pointer none) (.slice none 0 0) (w.alloc (.cells #[.pointer none,.slice none 0 0] 80)):=by
  show (w.heap.push _)[w.heap.size]? =_
  simp
 exact ⟨⟨_,_,.inl rfl,h,⟨rfl,.inl ⟨rfl,rfl⟩⟩,by simp [Value.ownBlock]⟩,sB h⟩
theorem bV:oo 80:=⟨by kernel_rfl,by decide⟩
theorem X4 (l:List UInt8) (s:ByteArray):Lib.byteCells l++Lib.strCells s=Lib.byteCells (l++s.data.toList):=by
 simp [Lib.byteCells,Lib.strCells]
theorem bo (w:World) (k:Nat) (l:List UInt8) (s:ByteArray) (h:Bd w k l) (hlen:l.length+s.size ≤ 140737488355328):
  Calls Tryz.prog 36 #[.pointer (some ⟨k,0,none⟩),.string s] w fun e w'=>e= .returned (.tuple #[.int .i64 s.size,.nilIface])∧Bd w' k (l++s.data.toList)∧Only (ftB w k) w w'∧∀ x ∈ ftB w' k,x < w.heap.size→x ∈ ftB w k:=by
 obtain ⟨p,v,h1,h2,h3,h4⟩:=h
 have hl:(Lib.byteCells l).length=l.length:=by simp [Lib.byteCells]
 refine (gA bV k p v (Lib.byteCells l) s w h1 h2 (by rw [hl]; exact h3) h4 (by rw [hl]; exact hlen)).mono ?_
 rintro e w' ⟨rfl,v',k1,k2,k3,k4,k5⟩
 rw [X4] at k2
 refine ⟨rfl,⟨_,v',.inr rfl,k1,by simpa [Lib.byteCells] using k2,k3⟩,by rw [sB h2]; exact k5,fun x hx hlt=>?_⟩
 rw [sB k1] at hx
 rw [sB h2]
 rcases List.mem_cons.1 hx with rfl | hx
 ·simp
 ·have:=k4 x (by simpa using hx) hlt
  simp [this]
theorem Wi (w:World) (k:Nat) (l:List UInt8) (h:Bd w k l):
  Calls Tryz.prog 47 #[.pointer (some ⟨k,0,none⟩)] w fun e w'=>e= .returned (.string ⟨l.toArray⟩)∧Bd w' k l∧ftB w' k=ftB w k∧Only (ftB w k) w w':=by
 obtain ⟨p,v,h1,h2,h3,h4⟩:=h
 refine (Z6 bV k p v l w h2 h3 h4).mono ?_
 rintro e w' ⟨rfl,k1,k2,k3⟩
 exact ⟨rfl,⟨p,v,h1,k1,k2,h4⟩,(sB k1).trans (sB h2).symm,by rw [sB h2]; exact k3⟩
set_option maxHeartbeats 1000000 in
theorem OW (w:World) (k:Nat) (l:List UInt8) (h:Bd w k l):
  Calls Tryz.prog 44 #[.pointer (some ⟨k,0,none⟩)] w fun e w'=>e= .returned (.int .i64 l.length)∧w'=w:=by
 obtain ⟨p,v,h1,h2,h3,h4⟩:=h
 have c1:w.cell? ⟨k,1,none⟩=some v:=by
  have h2':w.heap[k]? =some (.cells #[p,v] 80 (0,0)):=h2
  rw [Lib.cell_of_heap h2']; rfl
 obtain ⟨ao,cap,rfl⟩:∃ ao cap,v= .slice ao l.length cap:=by
  rcases h3.2 with ⟨hv,h0⟩ | ⟨g,cap,cur,fz,hv,_⟩
  ·exact ⟨none,0,by rw [hv,h0]⟩
  ·exact ⟨_,_,hv⟩
 go_enter Tryz.func44,Tryz.ntmps44
 go_wp2
 go_ret
 exact ⟨rfl,rfl⟩
end Go.Vm
set_option linter.all false
set_option maxRecDepth 100000
namespace Go.Vm
open Go.Proofs Go.RowKit Go.ChangeMaps Go.MapKept
open Go.Maps (Keyed IsMap Tidy)
structure Pool (base:Nat) (w:World) (b m:Nat) (ps:List (Nat×List UInt8)):Prop where
 bld:∀ p ∈ ps,Bd w p.1 p.2
 ge:∀ p ∈ ps,∀ x ∈ ftB w p.1,base ≤ x∧x ≠ b∧x ≠ m
 apart:∀ p ∈ ps,∀ q ∈ ps,p.1 ≠ q.1→∀ x ∈ ftB w p.1,x ∉ ftB w q.1
 nd:(ps.map (·.1)).Nodup
theorem Pool.nil (base:Nat) (w:World) (b m:Nat):Pool base w b m []:=⟨fun p h=>(by cases h),fun p h=>(by cases h),fun p h=>(by cases h),by simp⟩
theorem Pool.keep {base:Nat} {w w':World} {b m:Nat} {ps:List (Nat×List UInt8)} (h:Pool base w b m ps) (hb:∀ p ∈ ps,∀ x ∈ ftB w p.1,w'.heap[x]? =w.heap[x]?):Pool base w' b m ps:=by
 have hk:=fun p hp=>(h.bld p hp).keep (hb p hp)
 refine ⟨fun p hp=>(hk p hp).1,fun p hp x hx=>?_,fun p hp q hq hpq x hx=>?_,h.nd⟩
 ·rw [(hk p hp).2] at hx; exact h.ge p hp x hx
 ·rw [(hk p hp).2] at hx; rw [(hk q hq).2]; exact h.apart p hp q hq hpq x hx
theorem Pool.sub {base:Nat} {w:World} {b m:Nat} {ps qs:List (Nat×List UInt8)} (h:Pool base w b m ps) (hs:∀ p ∈ qs,p ∈ ps) (nd:(qs.map (·.1)).Nodup):Pool base w b m qs:=
 ⟨fun p hp=>h.bld p (hs p hp),fun p hp=>h.ge p (hs p hp),fun p hp q hq=>h.apart p (hs p hp) q (hs q hq),nd⟩
theorem Pool.only {base:Nat} {w w':World} {b m:Nat} {ps:List (Nat×List UInt8)} (h:Pool base w b m ps) {ks:List Nat} (ho:Only ks w w') (hk:∀ k ∈ ks,k=b ∨ k=m ∨ k < base ∨ w.heap.size ≤ k):Pool base w' b m ps:=
 h.keep fun p hp x hx=>ho.block x ((h.bld p hp).lt x hx) fun hm=>by
   have h1:=h.ge p hp x hx
   have h2:=(h.bld p hp).lt x hx
   rcases hk x hm with e | e | e | e
   ·exact h1.2.1 e
   ·exact h1.2.2 e
   ·omega
   ·omega
theorem Pool.new {base:Nat} {w:World} {b m:Nat} {ps:List (Nat×List UInt8)} (h:Pool base w b m ps) (h0:base ≤ w.heap.size) (h1:b < w.heap.size) (h2:m < w.heap.size):
  Pool base (w.alloc (.cells #[.pointer none,.slice none 0 0] 80)) b m ((w.heap.size,[]) :: ps):=by
 have hk:=h.only ((Only.refl [] w).alloc (.cells #[.pointer none,.slice none 0 0] 80)) (fun k hk=>by cases hk)
 obtain ⟨n1,n2⟩:=Vv w
 have hlt:∀ p ∈ ps,∀ x ∈ ftB (w.alloc (.cells #[.pointer none,.slice none 0 0] 80)) p.1,x < w.heap.size:=fun p hp x hx=>by
  have:=(h.bld p hp).keep (w':=w.alloc (.cells #[.pointer none,.slice none 0 0] 80)) fun x hx=>Lib.alloc_old w _ x ((h.bld p hp).lt x hx)
  rw [this.2] at hx
  exact (h.bld p hp).lt x hx
 refine ⟨fun p hp=>?_,fun p hp x hx=>?_,fun p hp q hq hpq x hx hx'=>?_,?_⟩
 ·rcases List.mem_cons.1 hp with rfl | hp
  ·exact n1
  ·exact hk.bld p hp
 ·rcases List.mem_cons.1 hp with rfl | hp
  ·rw [n2,List.mem_singleton] at hx; subst hx; exact ⟨h0,by omega,by omega⟩
  ·exact hk.ge p hp x hx
 ·rcases List.mem_cons.1 hp with rfl | hp
  ·rw [n2,List.mem_singleton] at hx
   subst hx
   rcases List.mem_cons.1 hq with rfl | hq
   ·exact hpq rfl
   ·have:=hlt q hq _ hx'; omega
  ·rcases List.mem_cons.1 hq with rfl | hq
   ·rw [n2,List.mem_singleton] at hx'
    subst hx'
    have:=hlt p hp _ hx; omega
   ·exact hk.apart p hp q hq hpq x hx hx'
 ·rw [List.map_cons,List.nodup_cons]
  refine ⟨fun hm=>?_,h.nd⟩
  obtain ⟨p,hp,e⟩:=List.mem_map.1 hm
  have:=(h.bld p hp).lt p.1 (QI w p.1)
  simp only at e
  omega
theorem Pool.write {base:Nat} {w w':World} {b m:Nat} {ps:List (Nat×List UInt8)} {k:Nat} {l l':List UInt8} (h:Pool base w b m ((k,l) :: ps)) (hb:Bd w' k l') (ho:Only (ftB w k) w w') (hf:∀ x ∈ ftB w' k,x < w.heap.size→x ∈ ftB w k) (h0:base ≤ w.heap.size) (h1:b < w.heap.size) (h2:m < w.heap.size):
  Pool base w' b m ((k,l') :: ps):=by
 have hnd:=h.nd
 rw [List.map_cons,List.nodup_cons] at hnd
 have hne:∀ p ∈ ps,p.1 ≠ k:=fun p hp e=>hnd.1 (List.mem_map.2 ⟨p,hp,e⟩)
 have hps:Pool base w b m ps:=h.sub (fun p hp=>List.mem_cons_of_mem _ hp) hnd.2
 have hkk:∀ p ∈ ps,∀ x ∈ ftB w p.1,w'.heap[x]? =w.heap[x]? :=fun p hp x hx=>ho.block x ((hps.bld p hp).lt x hx) (h.apart p (by simp [hp]) (k,l) (by simp) (hne p hp) x hx)
 have hk:=hps.keep hkk
 have hfp:∀ p ∈ ps,ftB w' p.1=ftB w p.1:=fun p hp=>((hps.bld p hp).keep (hkk p hp)).2
 have hx0:∀ x ∈ ftB w' k,∀ p ∈ ps,x ∉ ftB w p.1:=fun x hx p hp hx'=>by
  have hlt:=(hps.bld p hp).lt x hx'
  exact h.apart p (by simp [hp]) (k,l) (by simp) (hne p hp) x hx' (hf x hx hlt)
 refine ⟨fun p hp=>?_,fun p hp x hx=>?_,fun p hp q hq hpq x hx hx'=>?_,?_⟩
 ·rcases List.mem_cons.1 hp with rfl | hp
  ·exact hb
  ·exact hk.bld p hp
 ·rcases List.mem_cons.1 hp with rfl | hp
  ·by_cases c:x < w.heap.size
   ·exact h.ge (k,l) (by simp) x (hf x hx c)
   ·exact ⟨by omega,by omega,by omega⟩
  ·exact hk.ge p hp x hx
 ·rcases List.mem_cons.1 hp with rfl | hp
  ·rcases List.mem_cons.1 hq with rfl | hq
   ·exact hpq rfl
   ·rw [hfp q hq] at hx'; exact hx0 x hx q hq hx'
  ·rcases List.mem_cons.1 hq with rfl | hq
   ·rw [hfp p hp] at hx; exact hx0 x hx' p hp hx
   ·exact hk.apart p hp q hq hpq x hx hx'
 ·rw [List.map_cons,List.nodup_cons]; exact hnd
def pi:Value→Option (DataW Unit×List MemPlace)
 | .pointer (some ⟨k,0,none⟩)=>some (.lit (.int .i64 k),[])
 | .pointer none=>some (.nil,[])
 | _=>none
theorem jG {v:Value} {k:Nat} {ps:List MemPlace} (h:pi v=some (.lit (.int .i64 k),ps)):v= .pointer (some ⟨k,0,none⟩):=by
 unfold pi at h
 split at h
 ·simp only [Option.some.injEq,Prod.mk.injEq,DataW.lit.injEq,Lit.int.injEq,true_and] at h
  have:(‹Nat› :Int)=k:=h.1
  congr 3
  omega
 ·simp at h
 ·simp at h
structure Ent where
 name:List UInt8
 k:Nat
 data:List UInt8
def Ent.p (t:Ent):Nat×List UInt8:=(t.k,t.data)
def xd (ts:List Ent) (x:List UInt8):List Ent:=ts.filter fun t=>decide (t.name ≠ x)
structure Sto (base:Nat) (w:World) (b m n:Nat) (s:Int) (D:DataW Unit) (ts:List Ent):Prop where
 cell:w.heap[b]? =some (.cells #[.int .i32 s,.int .u32 0,.map (some m)] 76 (0,0))
 own:w.ownsMap Tryz.prog 9 pi m n D
 has:∀ x,Maps.has D (.string x)=ts.any fun t=>decide (t.name=x)
 size:Maps.size D=ts.length
 at_:∀ t ∈ ts,∀ z,D.atKey (.string t.name) z= .lit (.int .i64 t.k)
 gb:base ≤ b
 gm:base ≤ m
 bm:b ≠ m
 pool:Pool base w b m (ts.map Ent.p)
 ndn:(ts.map (·.name)).Nodup
section
variable {base:Nat} {w w':World} {b m n:Nat} {s:Int} {D:DataW Unit} {ts:List Ent}
theorem Sto.ltb (h:Sto base w b m n s D ts):b < w.heap.size:=vc h.cell
theorem Sto.ltm (h:Sto base w b m n s D ts):m < w.heap.size:=h.own.lt
theorem Sto.only (h:Sto base w b m n s D ts) {ks:List Nat} (ho:Only ks w w') (hk:∀ k ∈ ks,k < base ∨ w.heap.size ≤ k):Sto base w' b m n s D ts:=by
 have hb:∀ x,x < w.heap.size→base ≤ x→w'.heap[x]? =w.heap[x]? :=fun x h1 h2=>ho.block x h1 fun hm=>by rcases hk x hm with e | e <;> omega
 obtain ⟨es,clock,hm,r⟩:=h.own
 exact ⟨(hb b h.ltb h.gb).trans h.cell,⟨es,clock,(hb m h.ltm h.gm).trans hm,r⟩,h.has,h.size,h.at_,h.gb,h.gm,h.bm,h.pool.only ho fun k hm=> .inr (.inr (hk k hm)),h.ndn⟩
theorem Sto.below (h:Sto base w b m n s D ts) (hB:Below w.heap.size w w'):Sto base w' b m n s D ts:=
 h.only (ks:=[]) ⟨hB.os,hB.tape,hB.output,hB.size,fun k hk _=>hB.block k hk⟩ fun k hk=>by cases hk
theorem Sto.lock (h:Sto base w b m n s D ts) (s':Int):Sto base (w.setCell ⟨b,0,none⟩ (.int .i32 s')) b m n s' D ts:=by
 have hc:=h.cell
 have ho:Only [b] w (w.setCell ⟨b,0,none⟩ (.int .i32 s')):=(Only.refl [b] w).setCell (p:=⟨b,0,none⟩) (by simp) _
 refine ⟨?_,h.own.setCell (a:=⟨b,0,none⟩) (fun e=>h.bm e.symm) _,h.has,h.size,h.at_,h.gb,h.gm,h.bm,h.pool.only ho fun k hk=> .inl (by simpa using hk),h.ndn⟩
 simp [World.setCell,Array.getElem?_modify,hc]
theorem Sto.c0 (h:Sto base w b m n s D ts):w.cell? ⟨b,0,none⟩=some (.int .i32 s):=by rw [Lib.cell_of_heap h.cell]; rfl
theorem Sto.c2 (h:Sto base w b m n s D ts):w.cell? ⟨b,2,none⟩=some (.map (some m)):=by rw [Lib.cell_of_heap h.cell]; rfl
theorem Sto.fz (h:Sto base w b m n s D ts) (o:Nat):w.frozen? ⟨b,o,none⟩=false:=Lib.frozen_of_heap h.cell o
theorem Sto.turned (h:Sto base w b m n s D ts) {n':Nat} {D':DataW Unit} {ts':List Ent} (hg:w.grownBy w' (some m)) (hown:w'.ownsMap Tryz.prog 9 pi m n' D') (hh:∀ x,Maps.has D' (.string x)=ts'.any fun t=>decide (t.name=x))
  (hs:Maps.size D'=ts'.length) (ha:∀ t ∈ ts',∀ z,D'.atKey (.string t.name) z= .lit (.int .i64 t.k)) (hp:Pool base w b m (ts'.map Ent.p)) (nd:(ts'.map (·.name)).Nodup):Sto base w' b m n' s D' ts':=by
 have ho:Only [m] w w':=⟨hg.os,hg.tape,hg.output,hg.size,fun k hk hn=>hg.block k hk fun e=>hn (by simpa using e)⟩
 exact ⟨(hg.block b h.ltb fun e=>h.bm (by simpa using e)).trans h.cell,hown,hh,hs,ha,h.gb,h.gm,h.bm,hp.only ho fun k hk=> .inr (.inl (by simpa using hk)),nd⟩
theorem less_mem {ts:List Ent} {x:List UInt8} {t:Ent}:t ∈ xd ts x ↔ t ∈ ts∧t.name ≠ x:=by simp [xd]
theorem fq {ts:List Ent} {x:List UInt8} (h:(ts.map (·.name)).Nodup):((xd ts x).map (·.name)).Nodup:=h.sublist (List.Sublist.map _ List.filter_sublist)
theorem oK {ts:List Ent} {x:List UInt8} (h:(ts.map (·.k)).Nodup):((xd ts x).map (·.k)).Nodup:=h.sublist (List.Sublist.map _ List.filter_sublist)
theorem la:∀ {ts:List Ent} {x:List UInt8},(ts.map (·.name)).Nodup→(xd ts x).length+(if ts.any (fun t=>decide (t.name=x))=true then 1 else 0)=ts.length
 | [],x,_=>by simp [xd]
 | t :: ts,x,h=>by
   rw [List.map_cons,List.nodup_cons] at h
   have ih:=la (x:=x) h.2
   by_cases c:t.name=x
   ·have hn:ts.any (fun t=>decide (t.name=x))=false:=by
     rw [List.any_eq_false]
     intro u hu e
     have e:u.name=x:=by simpa using e
     exact h.1 (List.mem_map.2 ⟨u,hu,e.trans c.symm⟩)
    rw [hn,if_neg (by simp)] at ih
    have e1:xd (t :: ts) x=xd ts x:=by unfold xd; rw [List.filter_cons_of_neg (by simp [c])]
    rw [e1,if_pos (by simp [c]),List.length_cons]
    omega
   ·have e1:xd (t :: ts) x=t :: xd ts x:=by unfold xd; rw [List.filter_cons_of_pos (by simp [c])]
    rw [e1,List.length_cons,List.length_cons]
    simp only [List.any_cons,c,decide_false,Bool.false_or]
    omega
theorem ic {ts:List Ent} {x y:List UInt8}:(xd ts x).any (fun t=>decide (t.name=y))=(decide (y ≠ x)&&ts.any fun t=>decide (t.name=y)):=by
 rw [Bool.eq_iff_iff]
 simp only [List.any_eq_true,Bool.and_eq_true,decide_eq_true_eq,less_mem]
 constructor
 ·rintro ⟨t,⟨h1,h2⟩,rfl⟩; exact ⟨h2,t,h1,rfl⟩
 ·rintro ⟨h1,t,h2,rfl⟩; exact ⟨t,⟨h2,h1⟩,rfl⟩
theorem iU {x y:List UInt8} (h:y ≠ x):(Lit.string y) ≠ Lit.string x:=fun e=>h (by injection e)
theorem Sto.put (h:Sto base w b m n s D ts) {x:List UInt8} {k:Nat} {l:List UInt8} (hk:WideAt.IsKeyLit (Lit.string x)) {n':Nat} (hg:w.grownBy w' (some m)) (hown:w'.ownsMap Tryz.prog 9 pi m n' (D.put (.string x) (.lit (.int .i64 k))))
  (hp:Pool base w b m ((⟨x,k,l⟩ :: xd ts x:List Ent).map Ent.p)):Sto base w' b m n' s (D.put (.string x) (.lit (.int .i64 k))) (⟨x,k,l⟩ :: xd ts x):=by
 have hT:Tidy D:=h.own.tidy (Maps.string_keyed Tryz.underlying9)
 refine h.turned hg hown (fun y=>?_) ?_ (fun t ht z=>?_) hp ?_
 ·by_cases c:y=x
  ·subst c
   rw [Maps.has_put_same hT.isMap hk]; simp
  ·rw [Maps.has_put_other (iU c),h.has y,List.any_cons,ic]
   rw [show decide (x=y)=false from decide_eq_false fun e=>c e.symm]; simp [c]
 ·rw [Maps.size_put hT,h.has x,h.size,List.length_cons]
  have:=la (x:=x) h.ndn
  split at this <;> rename_i c
  ·rw [if_pos c]; omega
  ·rw [if_neg c]; omega
 ·rcases List.mem_cons.1 ht with rfl | ht
  ·exact Maps.atKey_put_same hT.isMap hk _ _
  ·rw [less_mem] at ht
   rw [Maps.atKey_put_other (iU ht.2)]
   exact h.at_ t ht.1 z
 ·rw [List.map_cons,List.nodup_cons]
  refine ⟨fun hm=>?_,fq h.ndn⟩
  obtain ⟨t,ht,e⟩:=List.mem_map.1 hm
  exact (less_mem.1 ht).2 e
theorem Sto.del (h:Sto base w b m n s D ts) {x:List UInt8} {n':Nat} (hg:w.grownBy w' (some m)) (hown:w'.ownsMap Tryz.prog 9 pi m n' (D.del (.string x))):
  Sto base w' b m n' s (D.del (.string x)) (xd ts x):=by
 have hT:Tidy D:=h.own.tidy (Maps.string_keyed Tryz.underlying9)
 refine h.turned hg hown (fun y=>?_) ?_ (fun t ht z=>?_) (h.pool.sub (fun p hp=>?_) ?_) (fq h.ndn)
 ·rw [ic]
  by_cases c:y=x
  ·subst c
   rw [Maps.has_del_same]; simp
  ·rw [Maps.has_del_other (iU c),h.has y]; simp [c]
 ·have h1:=Maps.size_del hT (k:= .string x)
  rw [h.has x,h.size] at h1
  have:=la (x:=x) h.ndn
  split at this <;> rename_i c
  ·rw [if_pos c] at h1; omega
  ·rw [if_neg c] at h1; omega
 ·rw [less_mem] at ht
  rw [Maps.atKey_del_other (iU ht.2)]
  exact h.at_ t ht.1 z
 ·obtain ⟨t,ht,rfl⟩:=List.mem_map.1 hp
  exact List.mem_map.2 ⟨t,(less_mem.1 ht).1,rfl⟩
 ·have hnd:=h.pool.nd
  rw [List.map_map] at hnd ⊢
  exact oK hnd
end
section
variable {base:Nat} {W:World} {b m n:Nat} {s:Int} {D:DataW Unit} {ts:List Ent}
theorem iE (h:Sto base W b m n s D ts) (hn:n < maxLen) (nm:ByteArray) (hnm:nm.size ≤ maxLen) (k:Nat) (l:List UInt8) (hp:Pool base W b m ((⟨nm.data.toList,k,l⟩ :: xd ts nm.data.toList:List Ent).map Ent.p)):
  ∃ w9,(Instr.mapUpdate 67 (.map (some m)) (.string nm) (.pointer (some ⟨k,0,none⟩))).run Tryz.prog W= .ok () w9∧
    Sto base w9 b m (n+1) s (D.put (.string nm.data.toList) (.lit (.int .i64 k))) (⟨nm.data.toList,k,l⟩ :: xd ts nm.data.toList)∧Below base W w9:=by
 obtain ⟨w9,h1,h2,h3⟩:=h.own.update (Maps.string_keyed Tryz.underlying9) Tryz.underlying67 hn (WideMaps.keyOf_string_mk Tryz.underlying9 hnm) (val:= .pointer (some ⟨k,0,none⟩)) (d:= .lit (.int .i64 k)) (ps:=[]) rfl
 refine ⟨w9,h1,h.put (by trivial) h3 h2 hp,⟨h3.os,h3.tape,h3.output,h3.size,fun j hj=>h3.block j (by have:=h.ltm; have:=h.gm; omega) fun e=>?_⟩⟩
 have:=h.gm
 simp only [Option.some.injEq] at e
 omega
theorem bT (h:Sto base W b m n s D ts) (nm:ByteArray) (hnm:nm.size ≤ maxLen) (ty:TypeId):
  ∃ w9,(Builtin.delete_ #[67,9] ty #[.map (some m),.string nm]).run Tryz.prog W= .ok (.tuple #[]) w9∧Sto base w9 b m n s (D.del (.string nm.data.toList)) (xd ts nm.data.toList)∧Below base W w9∧Only [m] W w9:=by
 obtain ⟨w9,h1,h2,h3⟩:=h.own.drop (Maps.string_keyed Tryz.underlying9) Tryz.underlying67 (WideMaps.keyOf_string_mk Tryz.underlying9 hnm) ty
 have h3:=h3.grown
 refine ⟨w9,h1,h.del h3 h2,⟨h3.os,h3.tape,h3.output,h3.size,fun j hj=>h3.block j (by have:=h.ltm; have:=h.gm; omega) fun e=>?_⟩,h3.os,h3.tape,h3.output,h3.size,fun j hj hn=>h3.block j hj fun e=>hn (by simpa using e)⟩
 have:=h.gm
 simp only [Option.some.injEq] at e
 omega
theorem Sto.sub (h:Sto base W b m n s D ts) {t:Ent} (ht:t ∈ ts) (x:List UInt8):Pool base W b m ((⟨x,t.k,t.data⟩ :: xd (xd ts t.name) x:List Ent).map Ent.p):=by
 have hnd:=h.pool.nd
 rw [List.map_map] at hnd
 refine h.pool.sub (fun p hp=>?_) ?_
 ·rw [List.map_cons] at hp
  rcases List.mem_cons.1 hp with rfl | hp
  ·exact List.mem_map.2 ⟨t,ht,rfl⟩
  ·obtain ⟨u,hu,rfl⟩:=List.mem_map.1 hp
   exact List.mem_map.2 ⟨u,(less_mem.1 (less_mem.1 hu).1).1,rfl⟩
 ·rw [List.map_map,List.map_cons,List.nodup_cons]
  refine ⟨fun hm=>?_,oK (oK hnd)⟩
  obtain ⟨u,hu,e⟩:=List.mem_map.1 hm
  have e:u.k=t.k:=e
  have hu1:=(less_mem.1 (less_mem.1 hu).1)
  have:u=t:=by
   have hp:=List.pairwise_map.1 hnd
   obtain ⟨i,hi,rfl⟩:=List.getElem_of_mem hu1.1
   obtain ⟨j,hj,rfl⟩:=List.getElem_of_mem ht
   by_cases c:i=j
   ·subst c; rfl
   ·exfalso
    rcases Nat.lt_or_gt_of_ne c with c | c
    ·exact List.pairwise_iff_getElem.1 hp i j hi hj c e
    ·exact List.pairwise_iff_getElem.1 hp j i hj hi c e.symm
  exact hu1.2 (by rw [this])
theorem Sto.write {W':World} (h:Sto base W b m n s D ts) {t:Ent} (ht:t ∈ ts) {l:List UInt8} (hb:Bd W' t.k l) (ho:Only (ftB W t.k) W W') (hf:∀ x ∈ ftB W' t.k,x < W.heap.size→x ∈ ftB W t.k):
  Sto base W' b m n s D (⟨t.name,t.k,l⟩ :: xd ts t.name):=by
 have h0:base ≤ W.heap.size:=by have:=h.ltb; have:=h.gb; omega
 have hge:=h.pool.ge (t.k,t.data) (List.mem_map.2 ⟨t,ht,rfl⟩)
 have hp:Pool base W b m ((t.k,t.data) :: (xd ts t.name).map Ent.p):=by
  have hnd:=h.pool.nd
  rw [List.map_map] at hnd
  refine h.pool.sub (fun p hp=>?_) ?_
  ·rcases List.mem_cons.1 hp with rfl | hp
   ·exact List.mem_map.2 ⟨t,ht,rfl⟩
   ·obtain ⟨u,hu,rfl⟩:=List.mem_map.1 hp
    exact List.mem_map.2 ⟨u,(less_mem.1 hu).1,rfl⟩
  ·have:=(h.sub ht t.name).nd
   rw [List.map_map,List.map_cons,List.nodup_cons] at this
   rw [List.map_cons,List.map_map,List.nodup_cons]
   refine ⟨fun hm=>this.1 ?_,oK hnd⟩
   obtain ⟨u,hu,e⟩:=List.mem_map.1 hm
   exact List.mem_map.2 ⟨u,less_mem.2 ⟨hu,(less_mem.1 hu).2⟩,e⟩
 have hp':=hp.write hb ho hf h0 h.ltb h.ltm
 obtain ⟨es,clock,hm,r⟩:=h.own
 have hany:(ts.any fun u=>decide (u.name=t.name))=true:=List.any_eq_true.2 ⟨t,ht,by simp⟩
 refine ⟨(ho.block b h.ltb fun hx=>(hge b hx).2.1 rfl).trans h.cell,⟨es,clock,(ho.block m h.ltm fun hx=>(hge m hx).2.2 rfl).trans hm,r⟩,fun x=>?_,?_,fun u hu z=>?_,h.gb,h.gm,h.bm,hp',?_⟩
 ·rw [h.has x,List.any_cons,ic]
  by_cases c:x=t.name
  ·subst c; rw [hany]; simp
  ·rw [show decide (t.name=x)=false from decide_eq_false fun e=>c e.symm]; simp [c]
 ·rw [h.size,List.length_cons]
  have:=la (x:=t.name) h.ndn
  rw [hany,if_pos rfl] at this
  omega
 ·rcases List.mem_cons.1 hu with rfl | hu
  ·exact h.at_ t ht z
  ·exact h.at_ u (less_mem.1 hu).1 z
 ·rw [List.map_cons,List.nodup_cons]
  refine ⟨fun hm=>?_,fq h.ndn⟩
  obtain ⟨u,hu,e⟩:=List.mem_map.1 hm
  exact (less_mem.1 hu).2 e
theorem Sto.belowOnly {W':World} (h:Sto base W b m n s D ts) {t:Ent} (ht:t ∈ ts) (ho:Only (ftB W t.k) W W'):Below base W W':=
 ⟨ho.os,ho.tape,ho.output,ho.size,fun j hj=>ho.block j (by have:=h.ltb; have:=h.gb; omega) fun hx=>by
   have:=(h.pool.ge (t.k,t.data) (List.mem_map.2 ⟨t,ht,rfl⟩) j hx).1
   omega⟩
theorem eH (h:Sto base W b m n s D ts) (hn:n < maxLen) (nm:ByteArray) (hnm:nm.size ≤ maxLen):
  ∃ w9,(Instr.mapUpdate 67 (.map (some m)) (.string nm) (.pointer (some ⟨W.heap.size,0,none⟩))).run Tryz.prog (W.alloc (.cells #[.pointer none,.slice none 0 0] 80))= .ok () w9∧
    Sto base w9 b m (n+1) s (D.put (.string nm.data.toList) (.lit (.int .i64 W.heap.size))) (⟨nm.data.toList,W.heap.size,[]⟩ :: xd ts nm.data.toList)∧Below base W w9:=by
 have h0:base ≤ W.heap.size:=by have:=h.ltb; have:=h.gb; omega
 have h9:Sto base (W.alloc (.cells #[.pointer none,.slice none 0 0] 80)) b m n s D ts:=h.only (ks:=[]) ((Only.refl [] W).alloc _) fun k hk=>by cases hk
 have hp:=h.pool.new h0 h.ltb h.ltm
 have hnd:=hp.nd
 obtain ⟨w9,k1,k2,k3⟩:=iE h9 hn nm hnm W.heap.size [] (hp.sub (fun p hp=>by
  rw [List.map_cons] at hp
  rcases List.mem_cons.1 hp with rfl | hp
  ·exact List.mem_cons_self
  ·obtain ⟨u,hu,rfl⟩:=List.mem_map.1 hp
   exact List.mem_cons_of_mem _ (List.mem_map.2 ⟨u,(less_mem.1 hu).1,rfl⟩)) (by
  rw [List.map_cons,List.nodup_cons,List.map_map] at hnd
  rw [List.map_map,List.map_cons,List.nodup_cons]
  refine ⟨fun hm=>hnd.1 ?_,oK hnd.2⟩
  obtain ⟨u,hu,e⟩:=List.mem_map.1 hm
  exact List.mem_map.2 ⟨u,(less_mem.1 hu).1,e⟩))
 exact ⟨w9,k1,k2,((Below.refl base W).alloc h0 _).trans k3⟩
end
theorem oR (W:World) (o:Obj) {k:Nat} (h:k < W.heap.size) (j:Nat):(W.alloc o).cell? ⟨k,j,none⟩=W.cell? ⟨k,j,none⟩:=by simp only [World.cell?,Lib.alloc_old W o k h]
theorem jU {base:Nat} {w W:World} (h:Below base w W) (j:Nat):Below base w (W.drewN j):=⟨h.os,h.tape,h.output,h.size,h.block⟩
end Go.Vm
