/- A row of rows grows. -/
import Derived.Test.YtpjfklhaogdfeaaDoorNsC
set_option linter.all false
namespace Go.Vm
open Go.Proofs Go.RowKit Go.Lib
variable [Gl]
theorem rF {w:World} {b b':Nat} {e:TypeId} {sz n:Nat} {v:Value} {xs:List Value} (h:w.ownsRow b e sz v n xs) (hb:b' ≤ b):w.ownsRow b' e sz v n xs:=by
 refine ⟨h.1,?_⟩
 rcases h.2 with hn | ⟨g,cap,cur,rfl,h1,rest⟩
 ·exact .inl hn
 ·exact .inr ⟨g,cap,cur,rfl,Nat.le_trans hb h1,rest⟩
def u0 (us:List Value):List Nat:=us.flatMap fun u=>u.ownBlock.toList
theorem mem_ownsOf {us:List Value} {b:Nat}:b ∈ u0 us ↔ ∃ u ∈ us,u.ownBlock=some b:=by simp [u0,List.mem_flatMap]
theorem Rx {T e:TypeId} {b0:Nat} {wr W w5:World} {v v':Value} {m:Nat} {us ns:List Value} {ls ks:List (List Int)}
  (hrows:∀ (r:Nat) (u:Value) (l:List Int),us[r]? =some u→ls[r]? =some l→wr.ownsRow b0 e 1 u l.length (zZ l)) (hus:ls.length=us.length)
  (hown:wr.ownsRow b0 T 4 v m us) (hnd:(v.ownBlock.toList++u0 us).Nodup) (hb:Below wr.heap.size wr W)
  (hnew:∀ (r:Nat) (u:Value) (l:List Int),ns[r]? =some u→ks[r]? =some l→W.ownsRow wr.heap.size e 1 u l.length (zZ l)) (hks:ks.length=ns.length) (hn4:(u0 ns).Nodup) (h0:b0 ≤ wr.heap.size)
  (hg:W.grownBy w5 v.ownBlock) (hat:v'.ownBlock=v.ownBlock ∨ v'.ownBlock=some W.heap.size):
  (∀ (r:Nat) (u:Value) (l:List Int),(us++ns)[r]? =some u→(ls++ks)[r]? =some l→w5.ownsRow b0 e 1 u l.length (zZ l))∧(v'.ownBlock.toList++u0 (us++ns)).Nodup:=by
 have hvb:∀ b,v.ownBlock=some b→b < wr.heap.size:=fun b h=>(hown.lt b h).2
 have hub:∀ u ∈ us,∀ b,u.ownBlock=some b→b < wr.heap.size∧v.ownBlock ≠ some b:=fun u hu b h=>by
  obtain ⟨r,hr,rfl⟩:=List.getElem_of_mem hu
  have h2:=hrows r _ ls[r] (List.getElem?_eq_getElem hr) (List.getElem?_eq_getElem (by omega))
  refine ⟨(h2.lt b h).2,fun hv=>?_⟩
  exact (List.nodup_append.1 hnd).2.2 b (by simp [hv]) b (mem_ownsOf.2 ⟨_,hu,h⟩) rfl
 have hnb:∀ u ∈ ns,∀ b,u.ownBlock=some b→wr.heap.size ≤ b∧b < W.heap.size:=fun u hu b h=>by
  obtain ⟨r,hr,rfl⟩:=List.getElem_of_mem hu
  have h2:=hnew r _ ks[r] (List.getElem?_eq_getElem hr) (List.getElem?_eq_getElem (by omega))
  exact h2.lt b h
 refine ⟨fun r u l hu hl=>?_,?_⟩
 ·by_cases c:r < us.length
  ·rw [List.getElem?_append_left c] at hu
   rw [List.getElem?_append_left (by omega)] at hl
   refine td (hrows r u l hu hl) fun b hbk=>?_
   obtain ⟨q1,q2⟩:=hub u (List.mem_of_getElem? hu) b hbk
   rw [hg.block b (Nat.lt_of_lt_of_le q1 hb.size) (fun h=>q2 h.symm),hb.block b q1]
  ·rw [List.getElem?_append_right (by omega)] at hu
   rw [List.getElem?_append_right (by omega),hus] at hl
   refine rF (td (hnew _ u l hu hl) fun b hbk=>?_) h0
   obtain ⟨q1,q2⟩:=hnb u (List.mem_of_getElem? hu) b hbk
   exact hg.block b q2 (fun h=>by have:=hvb b h.symm; omega)
 ·obtain ⟨n1,n2,n3⟩:=List.nodup_append.1 hnd
  have e1:u0 (us++ns)=u0 us++u0 ns:=by simp [u0]
  rw [e1,List.nodup_append]
  refine ⟨by cases v'.ownBlock <;> simp,List.nodup_append.2 ⟨n2,hn4,fun a ha b hb' hab=>?_⟩,fun a ha b hb' hab=>?_⟩
  ·subst hab
   obtain ⟨u,hu,h1⟩:=mem_ownsOf.1 ha
   obtain ⟨u',hu',h2⟩:=mem_ownsOf.1 hb'
   have:=(hub u hu a h1).1
   have:=(hnb u' hu' a h2).1
   omega
  ·subst hab
   have ha':v'.ownBlock=some a:=by simpa using ha
   rcases List.mem_append.1 hb' with hm | hm
   ·obtain ⟨u,hu,h1⟩:=mem_ownsOf.1 hm
    obtain ⟨q1,q2⟩:=hub u hu a h1
    rcases hat with h | h
    ·exact q2 (h ▸ ha')
    ·rw [h] at ha'; injection ha' with ha'; have:=hb.size; omega
   ·obtain ⟨u,hu,h1⟩:=mem_ownsOf.1 hm
    obtain ⟨q1,q2⟩:=hnb u hu a h1
    rcases hat with h | h
    ·have:=hvb a (h ▸ ha'); omega
    ·rw [h] at ha'; injection ha' with ha'; omega
theorem Zv {u1 u2 u3 u4:Value} {k:Nat} (h1:(u1.ownBlock.toList++u2.ownBlock.toList).Nodup) (h2:(u3.ownBlock.toList++u4.ownBlock.toList).Nodup) (ha:∀ b,u1.ownBlock=some b ∨ u2.ownBlock=some b→b < k) (hb:∀ b,u3.ownBlock=some b ∨ u4.ownBlock=some b→k ≤ b):
  (u0 [u1,u2,u3,u4]).Nodup:=by
 have e:u0 [u1,u2,u3,u4]=(u1.ownBlock.toList++u2.ownBlock.toList)++(u3.ownBlock.toList++u4.ownBlock.toList):=by simp [u0]
 rw [e,List.nodup_append]
 refine ⟨h1,h2,fun a ha' b hb' hab=>?_⟩
 subst hab
 have q1:=ha a (by simpa [List.mem_append] using ha')
 have q2:=hb a (by simpa [List.mem_append] using hb')
 omega
theorem WI {P:Value→List Int→Prop} {u1 u2 u3 u4:Value} {l1 l2 l3 l4:List Int} (h1:P u1 l1) (h2:P u2 l2) (h3:P u3 l3) (h4:P u4 l4):∀ (r:Nat) (u:Value) (l:List Int),[u1,u2,u3,u4][r]? =some u→[l1,l2,l3,l4][r]? =some l→P u l
 | 0,u,l,hu,hl=>by simp at hu hl; subst hu hl; exact h1
 | 1,u,l,hu,hl=>by simp at hu hl; subst hu hl; exact h2
 | 2,u,l,hu,hl=>by simp at hu hl; subst hu hl; exact h3
 | 3,u,l,hu,hl=>by simp at hu hl; subst hu hl; exact h4
 | r+4,u,l,hu,_=>by simp at hu
end Go.Vm
