/- The places of a list's numbers in their order, as plain lists; the library's stable sort finds them. -/
import Derived.Test.YtpjfklhaogdfeaaStPlain
set_option linter.all false
namespace Go.Vm
open Go.Stb Go.Sort
def pE (X:Nat→Int) (out:List Nat) (i:Nat):List Nat:=out.takeWhile (fun p=>decide (X p ≤ X i))++i :: out.dropWhile (fun p=>decide (X p ≤ X i))
def sZ (X:Nat→Int):Nat→List Nat
 | 0=>[]
 | n+1=>pE X (sZ X n) n
def pW (data:List Int):List Int:=(sZ (fun t=>data.getD t 0) data.length).map Int.ofNat
def vl (X:Nat→Int) (i j:Nat):Prop:=X i < X j ∨ (X i=X j∧i < j)
theorem YB (X:Nat→Int) (i j k:Nat) (h:vl X i j) (h':vl X j k):vl X i k:=by unfold vl at *; omega
theorem gN (X:Nat→Int) (i j:Nat) (h:vl X i j):¬ vl X j i:=by unfold vl at *; omega
theorem ZC (X:Nat→Int) (out:List Nat) (i:Nat):(pE X out i).Perm (i :: out):=by
 unfold pE
 refine List.perm_middle.trans (List.Perm.cons _ ?_)
 rw [List.takeWhile_append_dropWhile]
theorem gq {X:Nat→Int} {i:Nat}:∀ {out:List Nat},out.Pairwise (vl X)→∀ r ∈ out.dropWhile (fun p=>decide (X p ≤ X i)),X i < X r
 | [],_,r,h=>by simp at h
 | q :: out,hp,r,h=>by
   rw [List.dropWhile_cons] at h
   split at h
   ·exact gq (List.Pairwise.of_cons hp) r h
   ·rename_i hq
    simp only [decide_eq_true_eq,Int.not_le] at hq
    rcases List.mem_cons.1 h with rfl | h
    ·exact hq
    ·have:=List.rel_of_pairwise_cons hp h
     unfold vl at this; omega
theorem gR {X:Nat→Int} {i:Nat}:∀ {out:List Nat},∀ r ∈ out.takeWhile (fun p=>decide (X p ≤ X i)),X r ≤ X i
 | [],r,h=>by simp at h
 | q :: out,r,h=>by
   rw [List.takeWhile_cons] at h
   split at h
   ·rename_i hq
    rcases List.mem_cons.1 h with rfl | h
    ·simpa using hq
    ·exact gR r h
   ·simp at h
theorem cY {X:Nat→Int} {out:List Nat} {i:Nat} (hp:out.Pairwise (vl X)) (hi:∀ p ∈ out,p < i):(pE X out i).Pairwise (vl X):=by
 unfold pE
 have hs:=hp
 rw [← List.takeWhile_append_dropWhile (p:=fun p=>decide (X p ≤ X i)) (l:=out),List.pairwise_append] at hs
 obtain ⟨h1,h2,h3⟩:=hs
 refine List.pairwise_append.2 ⟨h1,List.pairwise_cons.2 ⟨fun r hr=>Or.inl (gq hp r hr),h2⟩,fun a ha b hb=>?_⟩
 rcases List.mem_cons.1 hb with rfl | hb
 ·have:=gR a ha
  have:=hi a ((List.takeWhile_sublist _).subset ha)
  unfold vl; omega
 ·exact h3 a ha b hb
theorem mj (X:Nat→Int):∀ n,(sZ X n).Perm (List.range n)∧(sZ X n).Pairwise (vl X)
 | 0=>⟨by simp [sZ],by simp [sZ]⟩
 | n+1=>by
   obtain ⟨h1,h2⟩:=mj X n
   refine ⟨?_,cY h2 fun p hp=>List.mem_range.1 (h1.mem_iff.1 hp)⟩
   refine (ZC X _ n).trans ?_
   rw [List.range_succ]
   exact (List.Perm.cons _ h1).trans (List.perm_append_singleton n _).symm
theorem Xq (X:Nat→Int) (n:Nat) (l:List Nat) (hp:l.Perm (List.range n)) (hs:l.Pairwise (vl X)):l=sZ X n:=by
 obtain ⟨h1,h2⟩:=mj X n
 exact List.Perm.eq_of_pairwise (le:=vl X) (fun a b _ _ h h'=>absurd h' (gN X a b h)) hs h2 (hp.trans h1.symm)
theorem lI (data:List Int):(pW data).length=data.length:=by
 unfold pW
 rw [List.length_map,(mj _ _).1.length_eq,List.length_range]
theorem YM (X:Nat→Int) (n:Nat) (hn:0 < n):letI:Inhabited (Fin n):=⟨⟨0,hn⟩⟩
  ∀ d:Array (Fin n),d.size=n→(∀ t,t < n→d[t]!.val=t)→((ql (fun x y:Fin n=>decide (X x.val < X y.val)) n d).toList.map (·.val))=sZ X n∧(ql (fun x y:Fin n=>decide (X x.val < X y.val)) n d).size=n:=by
 letI:Inhabited (Fin n):=⟨⟨0,hn⟩⟩
 intro d hs hd
 have sp:=X9 (lt:=fun x y:Fin n=>decide (X x.val < X y.val)) (T:=fun x y=>vl X x.val y.val) (fun x y z=>YB X _ _ _) (fun x y=>gN X _ _) n d (by
  intro i j hij hj
  have hi':=hd i (by omega)
  have hj':=hd j hj
  constructor
  ·intro h
   simp only [decide_eq_true_eq] at h
   exact Or.inl h
  ·intro h
   simp only [decide_eq_false_iff_not] at h
   show vl X (d[i]!).val (d[j]!).val
   rw [hi',hj'] at *
   unfold vl; omega) (by omega)
 generalize ql (fun x y:Fin n=>decide (X x.val < X y.val)) n d=e at sp
 obtain ⟨⟨p1,p2,p3⟩,sT⟩:=sp
 have he:e.size=n:=p1.trans hs
 refine ⟨?_,he⟩
 have w:∀ a:Array (Fin n),a.size=n→a.extract 0 n=a:=fun a ha=>by
  have h:=Array.extract_size (xs:=a)
  rwa [ha] at h
 rw [w e he,w d hs] at p3
 apply Xq
 ·refine (p3.map _).trans ?_
  have:d.toList.map (·.val)=List.range n:=by
   apply List.ext_getElem
   ·simp [hs]
   ·intro i h1 h2
    simp only [List.length_map,Array.length_toList] at h1
    have:=hd i (by omega)
    rw [getElem!_pos d i h1] at this
    simpa using this
  rw [this]
 ·rw [List.pairwise_map,List.pairwise_iff_getElem]
  intro i j hi hj hij
  simp only [Array.length_toList] at hi hj
  have:=sT i j (Nat.zero_le _) hij (by omega)
  rw [getElem!_pos e i hi,getElem!_pos e j hj] at this
  simpa using this
end Go.Vm
