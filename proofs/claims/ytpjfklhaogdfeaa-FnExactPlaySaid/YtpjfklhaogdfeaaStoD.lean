/- storeOf, walked: a store out of files. -/
import Derived.Test.YtpjfklhaogdfeaaStoB
import Derived.Sort.WalkA
import Derived.Deep.QuietTactic
import Derived.BigQuiet
import Derived.Carry
set_option linter.all false
set_option maxRecDepth 100000
namespace Go.Vm
open Go.Proofs Go.RowKit Go.ChangeMaps Go.MapKept
open Go.Maps (Keyed IsMap Tidy)
structure Put2 (p:Prop):Prop where
 out:p
theorem ow {w w':World} {g:Nat} (h:w'.heap[g]? =w.heap[g]?) (q:Nat):w'.cell? ⟨g,q,none⟩=w.cell? ⟨g,q,none⟩:=by simp [World.cell?,h]
set_option maxHeartbeats 4000000 in
theorem aj (w:World) (fs:List (ByteArray×ByteArray)) (a:Option Addr) (pb po cap:Nat) (ha:∀ x ∈ fs,a=some ⟨pb,po,none⟩) (hp:∀ x ∈ fs,pb < w.heap.size) (hcell:∀ i f,fs[i]? =some f→w.cell? ⟨pb,po+i * 2,none⟩=some (.string f.1)∧w.cell? ⟨pb,po+i * 2+1,none⟩=some (.string f.2)) (hn:fs.length ≤ 400) (hnm:∀ f ∈ fs,f.1.size ≤ maxLen∧f.2.size ≤ 1048576) (hnd:(fs.map fun f=>f.1.data.toList).Nodup):
  Calls Try.prog 61 #[.agg #[.slice a fs.length cap]] w fun e w'=>Below w.heap.size w w'∧∃ b m D ts,Sto w.heap.size w' b m fs.length 0 D ts∧e= .returned (.pointer (some ⟨b,0,none⟩))∧ts.map (fun t=>(t.name,t.data))=(fs.map fun f=>(f.1.data.toList,f.2.data.toList)).reverse:=by
 have hmm:= @run_makeMap Try.prog
 go_enter Try.func61,Try.ntmps61
 go_wp2
 go_loopw [13] (fun vi wr=>∃ (i:Nat) (D:DataW Unit) (ts:List Ent),vi= .int .i64 i∧i ≤ fs.length∧Sto w.heap.size wr (w.heap.size+1+1) (w.heap.size+1) i 0 D ts∧Below w.heap.size w wr∧ts.map (fun t=>(t.name,t.data))=((fs.take i).map fun f=>(f.1.data.toList,f.2.data.toList)).reverse)
  (fun vi _=>fs.length - (Proofs.intOf vi).toNat)
 case atStart=>
  have g1:=((Below.refl w.heap.size w).alloc (Nat.le_refl _) (.cells #[.slice a fs.length cap] 41)).alloc (Below.alloc (Below.refl w.heap.size w) (Nat.le_refl _) _).size (.map #[] 0)
  refine ⟨0,.map [],[],rfl,Nat.zero_le _,?_,g1.alloc g1.size _,rfl⟩
  have ho:=World.ownsMap_made (w.alloc (.cells #[.slice a fs.length cap] 41)) Try.prog 9 oJ
  have e1:(w.alloc (.cells #[.slice a fs.length cap] 41)).heap.size=w.heap.size+1:=by simp
  rw [e1] at ho
  refine ⟨?_,ho.alloc _,fun x=>rfl,rfl,fun t ht=>absurd ht (by simp),by omega,by omega,by omega,Pool.nil _ _ _ _,by simp⟩
  have e2:((w.alloc (.cells #[.slice a fs.length cap] 41)).alloc (.map #[] 0)).heap.size=w.heap.size+1+1:=by simp
  rw [← e2]
  exact heap_alloc_new _ _
 case round=>
  obtain ⟨i,D,ts,rfl,hi,hS,hB,hts⟩:=hrel
  by_cases hlt:i < fs.length
  ·have hfi:=List.getElem?_eq_getElem hlt
   obtain ⟨x0,x1⟩:=hcell i _ hfi
   have hfm:=hnm _ (List.getElem_mem hlt)
   obtain rfl:=ha _ (List.getElem_mem hlt)
   have hp:=hp _ (List.getElem_mem hlt)
   clear ha
   have y0:wr.cell? ⟨pb,po+i * 2,none⟩=some (.string fs[i].1):=(ow (hB.block pb hp) _).trans x0
   have y1:wr.cell? ⟨pb,po+i * 2+1,none⟩=some (.string fs[i].2):=(ow (hB.block pb hp) _).trans x1
   have hnew:∀ t ∈ ts,t.name ≠ fs[i].1.data.toList:=by
    intro t ht e
    have h1:(t.name,t.data) ∈ ((fs.take i).map fun f=>(f.1.data.toList,f.2.data.toList)).reverse:=by rw [← hts]; exact List.mem_map.2 ⟨t,ht,rfl⟩
    rw [List.mem_reverse] at h1
    obtain ⟨g,hg,h2⟩:=List.mem_map.1 h1
    obtain ⟨j,hj,rfl⟩:=List.getElem_of_mem hg
    rw [List.length_take] at hj
    have h3:fs[j].1.data.toList=fs[i].1.data.toList:=by
     have:=congrArg Prod.fst h2
     simp only [List.getElem_take] at this
     rw [this]; exact e
    have hp:=List.pairwise_map.1 hnd
    exact List.pairwise_iff_getElem.1 hp j i (by omega) hlt (by omega) h3
   have htk:(fs.take (i+1)).map (fun f=>(f.1.data.toList,f.2.data.toList))=(fs.take i).map (fun f=>(f.1.data.toList,f.2.data.toList))++[(fs[i].1.data.toList,fs[i].2.data.toList)]:=by
    rw [List.take_add_one,hfi,Option.toList_some,List.map_append]; rfl
   generalize fs[i]=f at y0 y1 hfm hnew htk
   clear x0 x1 hfi
   have Q1:Put2 _:=⟨hS⟩
   have Q2:Put2 _:=⟨hB⟩
   have Q3:Put2 _:=⟨hts⟩
   have Q4:Put2 _:=⟨hnew⟩
   have Q5:Put2 _:=⟨htk⟩
   have Q6:Put2 _:=⟨hcell⟩
   have Q7:Put2 _:=⟨hnm⟩
   have Q8:Put2 _:=⟨hnd⟩
   have S1:Sto w.heap.size (wr.alloc (.cells #[.string f.1,.string f.2] 136)) (w.heap.size+1+1) (w.heap.size+1) i 0 D ts:=hS.only (ks:=[]) ((Only.refl [] wr).alloc _) fun k hk=>absurd hk (by simp)
   clear hS hB hts hnew htk hcell hnm hnd
   have hsz1:(wr.alloc (.cells #[.string f.1,.string f.2] 136)).heap.size=wr.heap.size+1:=by simp
   have P2:=S1.pool.new (by have:=S1.ltb; have:=S1.gb; omega) S1.ltb S1.ltm
   obtain ⟨nb,nf⟩:=Vu (wr.alloc (.cells #[.string f.1,.string f.2] 136))
   rw [hsz1] at P2 nb nf
   have hwr:=ZF ((wr.alloc (.cells #[.string f.1,.string f.2] 136)).alloc (.cells #[.pointer none,.slice none 0 0] 156)) (wr.heap.size+1) [] f.2 nb (by have:=hfm.2; simp; omega)
   rw [nf] at hwr
   have Q9:Put2 _:=⟨S1⟩
   have Q10:Put2 _:=⟨P2⟩
   have z0:((wr.alloc (.cells #[.string f.1,.string f.2] 136)).alloc (.cells #[.pointer none,.slice none 0 0] 156)).cell? ⟨wr.heap.size,1,none⟩=some (.string f.2):=by
    rw [mG _ _ (by omega),Lib.cell_of_heap (heap_alloc_new wr _)]; rfl
   have Q11:Put2 _:=⟨nf⟩
   clear S1 P2 nb nf
   go_wp2_with (go_at_call 103; refine hwr.mono ?_; rintro e w5 ⟨rfl,hbd5,ho5,hf5⟩)
   have ho1:Only [wr.heap.size+1] (wr.alloc (.cells #[.string f.1,.string f.2] 136)) w5:=((Only.refl _ _).alloc _).trans ho5
   have S5:=Q9.out.only ho1 fun k hk=> .inr (by rw [hsz1]; simp at hk; omega)
   have P5:=Q10.out.write hbd5 (by rw [Q11.out]; exact ho5) (by rw [Q11.out]; exact hf5) (by have:=Q9.out.ltb; have:=Q9.out.gb; simp at this ⊢; omega) (by have:=Q9.out.ltb; simp at this ⊢; omega) (by have:=Q9.out.ltm; simp at this ⊢; omega)
   have hls:xB ts f.1.data.toList=ts:=List.filter_eq_self.2 fun t ht=>by simpa using Q4.out t ht
   have z1:w5.cell? ⟨wr.heap.size,0,none⟩=some (.string f.1):=by
    rw [ow (ho1.block wr.heap.size (by rw [hsz1]; omega) (by simp)),Lib.cell_of_heap (heap_alloc_new wr _)]; rfl
   have c2:=S5.c2
   obtain ⟨w9,hup,hs9,hb9⟩:=fB (W:=w5.drew) (S5.only (ks:=[]) (Only.refl [] w5).drew fun k hk=>absurd hk (by simp)) (by unfold maxLen; omega) f.1 hfm.1 (wr.heap.size+1) f.2.data.toList (by rw [hls]; exact P5.only (ks:=[]) (Only.refl [] w5).drew fun k hk=>absurd hk (by simp))
   have Q12:Put2 _:=⟨S5⟩
   have Q13:Put2 _:=⟨hs9⟩
   have Q14:Put2 _:=⟨hb9⟩
   have Q15:Put2 _:=⟨ho1⟩
   clear S5 P5 hs9 hb9 ho1 ho5 hbd5 hf5
   have mixed:Try.prog.follows .mixedOrders=true:=by kernel_rfl
   go_region
   go_wp2
   have hb5:Below w.heap.size w w5:=by
    have g:=Q2.out.alloc Q2.out.size (.cells #[.string f.1,.string f.2] 136)
    have hz:=Q2.out.size
    exact g.trans ⟨Q15.out.os,Q15.out.tape,Q15.out.output,Q15.out.size,fun j hj=>Q15.out.block j (by rw [hsz1]; omega) (by simp; omega)⟩
   refine ⟨⟨i+1,_,_,by go_num,by omega,Q13.out,hb5.drew.trans Q14.out,?_⟩,by simp [Proofs.intOf]; omega⟩
   rw [hls,List.map_cons,Q3.out,Q5.out,List.reverse_append]; rfl
  ·obtain rfl:i=fs.length:=by omega
   go_wp2
   go_ret
   exact ⟨hB,_,_,D,ts,hS,rfl,by rw [hts,List.take_length]⟩
end Go.Vm
