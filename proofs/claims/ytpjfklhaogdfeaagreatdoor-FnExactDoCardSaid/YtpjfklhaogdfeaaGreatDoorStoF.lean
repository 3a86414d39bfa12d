import Derived.Test.YtpjfklhaogdfeaaGreatDoorStoS
import Derived.Sort.WalkA
import Derived.Deep.QuietTactic
import Derived.BigQuiet
import Derived.Carry
import Derived.Test.YtpjfklhaogdfeaaGreatDoorLayK
import Derived.Maps.AppendAt
import Derived.Deep.RegionLaw
import Derived.Laws.Rows
import Derived.Deep.AppendLies
set_option linter.all false
set_option maxRecDepth 100000
namespace Go.Vm
open Go.Proofs Go.RowKit Go.ChangeMaps Go.MapKept
open Go.Maps (Keyed IsMap Tidy)
structure Put2 (p:Prop):Prop where
 out:p
theorem rC {w w':World} {g:Nat} (h:w'.heap[g]? =w.heap[g]?) (q:Nat):w'.cell? ⟨g,q,none⟩=w.cell? ⟨g,q,none⟩:=by simp [World.cell?,h]
set_option maxHeartbeats 4000000 in
theorem bL (w:World) (fs:List (ByteArray×ByteArray)) (a:Option Addr) (pb po cap:Nat) (ha:∀ x ∈ fs,a=some ⟨pb,po,none⟩) (hp:∀ x ∈ fs,pb < w.heap.size) (hcell:∀ i f,fs[i]? =some f→w.cell? ⟨pb,po+i * 2,none⟩=some (.string f.1)∧w.cell? ⟨pb,po+i * 2+1,none⟩=some (.string f.2)) (hn:fs.length ≤ 400) (hnm:∀ f ∈ fs,f.1.size ≤ maxLen∧f.2.size ≤ 1048576) (hnd:(fs.map fun f=>f.1.data.toList).Nodup):
  Calls Tryz.prog 20 #[.agg #[.slice a fs.length cap]] w fun e w'=>Below w.heap.size w w'∧∃ b m D ts,Sto w.heap.size w' b m fs.length 0 D ts∧e= .returned (.pointer (some ⟨b,0,none⟩))∧ts.map (fun t=>(t.name,t.data))=(fs.map fun f=>(f.1.data.toList,f.2.data.toList)).reverse:=by
 have hmm:= @run_makeMap Tryz.prog
 go_enter Tryz.func20,Tryz.ntmps20
 go_wp2
 go_loopw [13] (fun vi wr=>∃ (i:Nat) (D:DataW Unit) (ts:List Ent),vi= .int .i64 i∧i ≤ fs.length∧Sto w.heap.size wr (w.heap.size+1+1) (w.heap.size+1) i 0 D ts∧Below w.heap.size w wr∧ts.map (fun t=>(t.name,t.data))=((fs.take i).map fun f=>(f.1.data.toList,f.2.data.toList)).reverse)
  (fun vi _=>fs.length - (Proofs.intOf vi).toNat)
 case atStart=>
  have g1:=((Below.refl w.heap.size w).alloc (Nat.le_refl _) (.cells #[.slice a fs.length cap] 31)).alloc (Below.alloc (Below.refl w.heap.size w) (Nat.le_refl _) _).size (.map #[] 0)
  refine ⟨0,.map [],[],rfl,Nat.zero_le _,?_,g1.alloc g1.size _,rfl⟩
  have ho:=World.ownsMap_made (w.alloc (.cells #[.slice a fs.length cap] 31)) Tryz.prog 9 pi
  have e1:(w.alloc (.cells #[.slice a fs.length cap] 31)).heap.size=w.heap.size+1:=by simp
  rw [e1] at ho
  refine ⟨?_,ho.alloc _,fun x=>rfl,rfl,fun t ht=>absurd ht (by simp),by omega,by omega,by omega,Pool.nil _ _ _ _,by simp⟩
  have e2:((w.alloc (.cells #[.slice a fs.length cap] 31)).alloc (.map #[] 0)).heap.size=w.heap.size+1+1:=by simp
  rw [← e2]
  exact heap_alloc_new _ _
 case round=>
  obtain ⟨i,D,ts,rfl,hi,hS,hB,hts⟩:=hrel
  by_cases hlt:i < fs.length
  ·have hfi:=List.getElem?_eq_getElem hlt
   obtain ⟨x0,x1⟩:=hcell i _ hfi
   have hfm:=hnm _ (List.getElem_mem hlt)
   obtain rfl:=ha _ (List.getElem_mem hlt)
   have hp:=hp _ (List.getElem_mem hlt)
   clear ha
   have y0:wr.cell? ⟨pb,po+i * 2,none⟩=some (.string fs[i].1):=(rC (hB.block pb hp) _).trans x0
   have y1:wr.cell? ⟨pb,po+i * 2+1,none⟩=some (.string fs[i].2):=(rC (hB.block pb hp) _).trans x1
   have hnew:∀ t ∈ ts,t.name ≠ fs[i].1.data.toList:=by
    intro t ht e
    have h1:(t.name,t.data) ∈ ((fs.take i).map fun f=>(f.1.data.toList,f.2.data.toList)).reverse:=by rw [← hts]; exact List.mem_map.2 ⟨t,ht,rfl⟩
    rw [List.mem_reverse] at h1
    obtain ⟨g,hg,h2⟩:=List.mem_map.1 h1
    obtain ⟨j,hj,rfl⟩:=List.getElem_of_mem hg
    rw [List.length_take] at hj
    have h3:fs[j].1.data.toList=fs[i].1.data.toList:=by
     have:=congrArg Prod.fst h2
     simp only [List.getElem_take] at this
     rw [this]; exact e
    have hp:=List.pairwise_map.1 hnd
    exact List.pairwise_iff_getElem.1 hp j i (by omega) hlt (by omega) h3
   have htk:(fs.take (i+1)).map (fun f=>(f.1.data.toList,f.2.data.toList))=(fs.take i).map (fun f=>(f.1.data.toList,f.2.data.toList))++[(fs[i].1.data.toList,fs[i].2.data.toList)]:=by
    rw [List.take_add_one,hfi,Option.toList_some,List.map_append]; rfl
   generalize fs[i]=f at y0 y1 hfm hnew htk
   clear x0 x1 hfi
   have Q1:Put2 _:=⟨hS⟩
   have Q2:Put2 _:=⟨hB⟩
   have Q3:Put2 _:=⟨hts⟩
   have Q4:Put2 _:=⟨hnew⟩
   have Q5:Put2 _:=⟨htk⟩
   have Q6:Put2 _:=⟨hcell⟩
   have Q7:Put2 _:=⟨hnm⟩
   have Q8:Put2 _:=⟨hnd⟩
   have S1:Sto w.heap.size (wr.alloc (.cells #[.string f.1,.string f.2] 59)) (w.heap.size+1+1) (w.heap.size+1) i 0 D ts:=hS.only (ks:=[]) ((Only.refl [] wr).alloc _) fun k hk=>absurd hk (by simp)
   clear hS hB hts hnew htk hcell hnm hnd
   have hsz1:(wr.alloc (.cells #[.string f.1,.string f.2] 59)).heap.size=wr.heap.size+1:=by simp
   have P2:=S1.pool.new (by have:=S1.ltb; have:=S1.gb; omega) S1.ltb S1.ltm
   obtain ⟨nb,nf⟩:=Vv (wr.alloc (.cells #[.string f.1,.string f.2] 59))
   rw [hsz1] at P2 nb nf
   have hwr:=bo ((wr.alloc (.cells #[.string f.1,.string f.2] 59)).alloc (.cells #[.pointer none,.slice none 0 0] 80)) (wr.heap.size+1) [] f.2 nb (by have:=hfm.2; simp; omega)
   rw [nf] at hwr
   have Q9:Put2 _:=⟨S1⟩
   have Q10:Put2 _:=⟨P2⟩
   have z0:((wr.alloc (.cells #[.string f.1,.string f.2] 59)).alloc (.cells #[.pointer none,.slice none 0 0] 80)).cell? ⟨wr.heap.size,1,none⟩=some (.string f.2):=by
    rw [oR _ _ (by omega),Lib.cell_of_heap (heap_alloc_new wr _)]; rfl
   have Q11:Put2 _:=⟨nf⟩
   clear S1 P2 nb nf
   go_wp2_with (go_at_call 36; refine hwr.mono ?_; rintro e w5 ⟨rfl,hbd5,ho5,hf5⟩)
   have ho1:Only [wr.heap.size+1] (wr.alloc (.cells #[.string f.1,.string f.2] 59)) w5:=((Only.refl _ _).alloc _).trans ho5
   have S5:=Q9.out.only ho1 fun k hk=> .inr (by rw [hsz1]; simp at hk; omega)
   have P5:=Q10.out.write hbd5 (by rw [Q11.out]; exact ho5) (by rw [Q11.out]; exact hf5) (by have:=Q9.out.ltb; have:=Q9.out.gb; simp at this ⊢; omega) (by have:=Q9.out.ltb; simp at this ⊢; omega) (by have:=Q9.out.ltm; simp at this ⊢; omega)
   have hls:xd ts f.1.data.toList=ts:=List.filter_eq_self.2 fun t ht=>by simpa using Q4.out t ht
   have z1:w5.cell? ⟨wr.heap.size,0,none⟩=some (.string f.1):=by
    rw [rC (ho1.block wr.heap.size (by rw [hsz1]; omega) (by simp)),Lib.cell_of_heap (heap_alloc_new wr _)]; rfl
   have c2:=S5.c2
   obtain ⟨w9,hup,hs9,hb9⟩:=iE (W:=w5.drew) (S5.only (ks:=[]) (Only.refl [] w5).drew fun k hk=>absurd hk (by simp)) (by unfold maxLen; omega) f.1 hfm.1 (wr.heap.size+1) f.2.data.toList (by rw [hls]; exact P5.only (ks:=[]) (Only.refl [] w5).drew fun k hk=>absurd hk (by simp))
   have Q12:Put2 _:=⟨S5⟩
   have Q13:Put2 _:=⟨hs9⟩
   have Q14:Put2 _:=⟨hb9⟩
   have Q15:Put2 _:=⟨ho1⟩
   clear S5 P5 hs9 hb9 ho1 ho5 hbd5 hf5
   have mixed:Tryz.prog.follows .mixedOrders=true:=by kernel_rfl
   go_region
   go_wp2
   have hb5:Below w.heap.size w w5:=by
    have g:=Q2.out.alloc Q2.out.size (.cells #[.string f.1,.string f.2] 59)
    have hz:=Q2.out.size
    exact g.trans ⟨Q15.out.os,Q15.out.tape,Q15.out.output,Q15.out.size,fun j hj=>Q15.out.block j (by rw [hsz1]; omega) (by simp; omega)⟩
   refine ⟨⟨i+1,_,_,by go_num,by omega,Q13.out,hb5.drew.trans Q14.out,?_⟩,by simp [Proofs.intOf]; omega⟩
   rw [hls,List.map_cons,Q3.out,Q5.out,List.reverse_append]; rfl
  ·obtain rfl:i=fs.length:=by omega
   go_wp2
   go_ret
   exact ⟨hB,_,_,D,ts,hS,rfl,by rw [hts,List.take_length]⟩
end Go.Vm
set_option linter.all false
set_option maxRecDepth 100000
namespace Go.Vm
open Go.Proofs Go.RowKit Go.ChangeMaps Go.MapKept
open Go.Maps (Keyed IsMap Tidy)
structure Put3 (p:Prop):Prop where
 out:p
theorem TH (m:Nat):AnyZ.SortsIn Tryz.prog Tryz.sortedA_ren Fence.wide m:=
 ⟨fun blk off cap ss W hH hblk hsz=>callsIn_wide.2 (AnyM.slices_Sort_string Tryz.sortA blk off cap ss W hH hblk hsz),
  fun p cap W=>callsIn_wide.2 (AnyM.slices_Sort_string_none Tryz.sortA p cap W)⟩
theorem PN (m:Nat) (w:World):Calls Tryz.prog 46 #[.map (some m)] w fun e w'=>e= .returned (.func (.func 62) #[] #[.pointer (some ⟨w.heap.size,0,none⟩)])∧w'=w.alloc (.cells #[.map (some m)] 67):=
 (callsIn_wide (n:=5)).1 (AnyZ.keys_in Tryz.keysA Fence.wide 5 trivial rfl (some m) w)
theorem bM {base:Nat} {w:World} {b m n:Nat} {s:Int} {D:DataW Unit} {ts:List Ent} (h:Sto base w b m n s D ts):(ts.map (·.name)).Perm (strKeys D):=by
 obtain ⟨es,hD,hk⟩:=h.own.keysOf
 obtain ⟨es',hD',hp⟩:=h.own.tidy (Maps.string_keyed Tryz.underlying9)
 have hh:=h.has
 subst hD
 injection hD' with e
 subst e
 refine perm_strKeys hp (fun p hp=>?_) h.ndn fun x=>?_
 ·obtain ⟨v,hv⟩:=hk p hp
  obtain ⟨x,_,hx,_⟩:=Maps.keyOf_str Tryz.underlying9 hv
  exact ⟨x,hx⟩
 ·rw [hh x,List.any_eq_true,List.mem_map]
  constructor
  ·rintro ⟨t,ht,rfl⟩; exact ⟨t,ht,by simp⟩
  ·rintro ⟨t,ht,e⟩; exact ⟨t,ht,by simpa using e⟩
theorem Wd {w:World} {base:Nat} {e:TypeId} {v:Value} {N:List (List UInt8)} (h:w.ownsRow base e 1 v N.length (N.map encStr)):∃ a cap g,v= .slice a N.length cap∧(∀ x ∈ N,a=some ⟨g,0,none⟩∧base ≤ g∧g < w.heap.size)∧∀ i x,N[i]? =some x→w.cell? ⟨g,i,none⟩=some (.string ⟨x.toArray⟩):=by
 rcases h.2 with ⟨rfl,h0⟩ | ⟨g,cap,cur,rfl,h1,h2,h3,h4,h5,h6⟩
 ·have:N=[]:=List.eq_nil_of_length_eq_zero h0
  subst this
  exact ⟨none,0,0,rfl,fun x hx=>absurd hx (by simp),fun i x hx=>by simp at hx⟩
 ·refine ⟨_,cap,g,rfl,fun x _=>⟨rfl,h1,vc h2⟩,fun i x hx=>?_⟩
  rw [Lib.cell_of_heap h2,← Array.getElem?_toList]
  have hl:=(List.getElem?_eq_some_iff.1 hx).1
  rw [← List.getElem?_take_of_lt (j:=N.length * 1) (by omega),h6]
  simp [hx,encStr]
theorem Wv {base:Nat} {w:World} {b m n:Nat} {s:Int} {D:DataW Unit} {ts:List Ent} (h:Sto base w b m n s D ts) (hmax:ts.length ≤ 1000000):
  Calls Tryz.prog 45 #[.func (.func 62) #[] #[.pointer (some ⟨w.heap.size,0,none⟩)]] (w.alloc (.cells #[.map (some m)] 67)) fun e w'=>∃ v,e= .returned v∧
   w'.ownsRow (w.heap.size+1) 9 1 v ((ts.map (·.name)).mergeSort leB).length (((ts.map (·.name)).mergeSort leB).map encStr)∧Below (w.heap.size+1) (w.alloc (.cells #[.map (some m)] 67)) w':=by
 have e1:(w.alloc (.cells #[.map (some m)] 67)).heap.size=w.heap.size+1:=by simp
 have hseq:SeqGives Fence.wide 2 Tryz.prog 62 #[.pointer (some ⟨w.heap.size,0,none⟩)] encStr (fun ss=>ss.Perm (strKeys D)) (Maps.size D) (w.alloc (.cells #[.map (some m)] 67)):=
  AnyZ.keys_gives (ρ:=Tryz.keysA_ren) { Tryz.keysA with } Fence.wide _ trivial rfl (by omega) w.heap.size m n D _ (by rw [e1]; omega) (by rw [Lib.cell_of_heap (heap_alloc_new w _)]; rfl) (h.own.alloc _)
 have hs:=h.size
 have hs1:Maps.size D ≤ maxLen:=by unfold maxLen; omega
 have hs2:Maps.size D * 16 ≤ 140737488355328:=by omega
 have cS:=AnyZ.sorted_in Tryz.sortedA Fence.wide 5 trivial trivial trivial trivial rfl (by omega) (TH _) (enters_of Tryz.func61 (by kernel_rfl) rfl) 62 #[.pointer (some ⟨w.heap.size,0,none⟩)] trivial (enters_of Tryz.func62 (by kernel_rfl) rfl) _ (Maps.size D) hs1 hs2 _ hseq
 rw [e1] at cS
 refine ((callsIn_wide (n:=5)).1 cS).mono ?_
 rintro e w' ⟨v,ss,rfl,hp,hrow,_,hB⟩
 have hms:ss.mergeSort (fun x y=>decide (x ≤ y))=(ts.map (·.name)).mergeSort leB:=mergeSort_of_perm (hp.trans (bM h).symm)
 have hl:ss.length=((ts.map (·.name)).mergeSort leB).length:=by rw [← hms,List.length_mergeSort]
 rw [hms,hl] at hrow
 exact ⟨v,rfl,hrow,hB⟩
theorem Xd {w w':World} {g:Nat} (h:w'.heap[g]? =w.heap[g]?) {q:Nat}:w'.cell? ⟨g,q,none⟩=w.cell? ⟨g,q,none⟩:=by simp [World.cell?,h]
theorem gz {w:World} {bs:Nat} {e:TypeId} {sz:Nat} {v:Value} {n:Nat} {xs:List Value} (h:w.ownsRow bs e sz v n xs):∃ p k,v= .slice p n k:=by
 rcases h.2 with ⟨h1,h2⟩ | ⟨g,cap,cur,h1,_⟩
 ·subst h2; exact ⟨_,_,h1⟩
 ·exact ⟨_,_,h1⟩
theorem ky {w w':World} {bs:Nat} {e:TypeId} {sz n:Nat} {v:Value} {xs:List Value} (h:w.ownsRow bs e sz v n xs) (hb:∀ b,v.ownBlock=some b→w'.heap[b]? =w.heap[b]?):w'.ownsRow bs e sz v n xs:=by
 refine ⟨h.1,?_⟩
 rcases h.2 with hn | ⟨g,cap,cur,rfl,h1,h2,rest⟩
 ·exact .inl hn
 ·exact .inr ⟨g,cap,cur,rfl,h1,by rw [hb g rfl]; exact h2,rest⟩
theorem aa (W:World) (a b:Value) (t:TypeId):∀ j u,[a,b][j]? =some u→(W.alloc (.cells #[a,b] t)).cell? ((⟨W.heap.size,0,none⟩:Addr).add j)=some u:=by
 intro j u h
 have hadd:(⟨W.heap.size,0,none⟩:Addr).add j=⟨W.heap.size,j,none⟩:=by unfold Addr.add; split <;> simp_all
 rw [hadd,Lib.cell_of_heap (heap_alloc_new W _),← Array.getElem?_toList]
 exact h
def tS (ts:List Ent) (x:List UInt8):List UInt8:=match ts.find? fun t=>decide (t.name=x) with
 | some t=>t.data
 | none=>[]
theorem Za {ts:List Ent} (h:(ts.map (·.name)).Nodup) {t:Ent} (ht:t ∈ ts):tS ts t.name=t.data:=by
 have hs:(ts.find? fun u=>decide (u.name=t.name)).isSome=true:=List.find?_isSome.2 ⟨t,ht,by simp⟩
 obtain ⟨u,hu⟩:=Option.isSome_iff_exists.1 hs
 unfold tS
 rw [hu]
 have h1:=List.mem_of_find?_eq_some hu
 have h2:u.name=t.name:=by simpa using List.find?_some hu
 obtain ⟨i,hi,rfl⟩:=List.getElem_of_mem h1
 obtain ⟨j,hj,rfl⟩:=List.getElem_of_mem ht
 have hp:=List.pairwise_map.1 h
 by_cases c:i=j
 ·subst c; rfl
 ·exfalso
  rcases Nat.lt_or_gt_of_ne c with c | c
  ·exact List.pairwise_iff_getElem.1 hp i j hi hj c h2
  ·exact List.pairwise_iff_getElem.1 hp j i hj hi c h2.symm
def q9 (xs:List (List UInt8×List UInt8)):List Value:=xs.flatMap fun f=>[.string ⟨f.1.toArray⟩,.string ⟨f.2.toArray⟩]
noncomputable def fileInfo:TypeInfo:=(Tryz.prog.info? 59).get (by kernel_rfl)
theorem aM:Tryz.prog.info? 59=some fileInfo:=by kernel_rfl
theorem dJ:fileInfo.zero=some (.agg #[.string ⟨#[]⟩,.string ⟨#[]⟩]):=by kernel_rfl
theorem dy:fileInfo.size=2:=by kernel_rfl
theorem fZ:fileInfo.bytes=32:=by kernel_rfl
structure DkSt (base:Nat) (w w2:World) (b m n:Nat) (D:DataW Unit) (ts:List Ent) (N:List (List UInt8)) (i:Nat) (vs:Value) (wr:World):Prop where
 sto:Sto base wr b m n 0 D ts
 below:Below base w wr
 feet:∀ t ∈ ts,∀ x ∈ ftB wr t.k,x < w.heap.size
 size:w2.heap.size ≤ wr.heap.size
 out:wr.heap[w.heap.size+1+1]? =some (.cells #[vs] 31 (0,0))
 own:wr.ownsRow w.heap.size 59 2 vs i (q9 ((N.take i).map fun x=>(x,tS ts x)))
 vb:∀ g,vs.ownBlock=some g→g=w.heap.size+1 ∨ w2.heap.size ≤ g
 keep:∀ j,w.heap.size ≤ j→j < w2.heap.size→j ≠ w.heap.size+1→j ≠ w.heap.size+1+1→wr.heap[j]? =w2.heap[j]?
section
variable {base:Nat} {w w2:World} {b m n:Nat} {D:DataW Unit} {ts:List Ent} {N:List (List UInt8)} {i:Nat} {vs:Value} {wr w3:World}
theorem DkSt.only (h:DkSt base w w2 b m n D ts N i vs wr) {ks:List Nat} (ho:Only ks wr w3) (hk:∀ k ∈ ks,k < w.heap.size) (hs:Sto base w3 b m n 0 D ts) (hb:Below base w w3) (hf:∀ t ∈ ts,∀ x ∈ ftB w3 t.k,x < w.heap.size) (hw:w.heap.size+1+1 < wr.heap.size):DkSt base w w2 b m n D ts N i vs w3:=by
 have hkeep:∀ j,j < wr.heap.size→w.heap.size ≤ j→w3.heap[j]? =wr.heap[j]? :=fun j h1 h2=>ho.block j h1 fun hm=>by have:=hk j hm; omega
 have hown:=h.own
 refine ⟨hs,hb,hf,Nat.le_trans h.size ho.size,(hkeep _ hw (by omega)).trans h.out,ky hown fun k hk'=>hkeep k (hown.lt k hk').2 (hown.lt k hk').1,h.vb,fun j h1 h2 h3 h4=>?_⟩
 rw [hkeep j (by have:=h.size; omega) h1]
 exact h.keep j h1 h2 h3 h4
theorem DkSt.alloc (h:DkSt base w w2 b m n D ts N i vs wr) (o:Obj) (hw:w.heap.size+1+1 < wr.heap.size):DkSt base w w2 b m n D ts N i vs (wr.alloc o):=by
 have hlt:∀ t ∈ ts,∀ x ∈ ftB wr t.k,x < wr.heap.size:=fun t ht=>(h.sto.pool.bld (t.k,t.data) (List.mem_map.2 ⟨t,ht,rfl⟩)).lt
 refine h.only (ks:=[]) ((Only.refl [] wr).alloc o) (fun k hk=>absurd hk (by simp)) (h.sto.only (ks:=[]) ((Only.refl [] wr).alloc o) fun k hk=>absurd hk (by simp)) ?_ (fun t ht x hx=>?_) hw
 ·exact h.below.alloc (by have:=h.sto.ltb; have:=h.sto.gb; omega) o
 ·rw [((h.sto.pool.bld (t.k,t.data) (List.mem_map.2 ⟨t,ht,rfl⟩)).keep fun x hx=>Lib.alloc_old wr o x (hlt t ht x hx)).2] at hx
  exact h.feet t ht x hx
theorem DkSt.drew (h:DkSt base w w2 b m n D ts N i vs wr):DkSt base w w2 b m n D ts N i vs wr.drew:=by
 exact ⟨h.sto.only (ks:=[]) (Only.refl [] wr).drew fun k hk=>absurd hk (by simp),h.below.drew,h.feet,h.size,h.out,ky h.own fun _ _=>rfl,h.vb,h.keep⟩
theorem DkSt.str (h:DkSt base w w2 b m n D ts N i vs wr) {t:Ent} (ht:t ∈ ts) (hb:Bd w3 t.k t.data) (hf:ftB w3 t.k=ftB wr t.k) (ho:Only (ftB wr t.k) wr w3) (hw:w.heap.size+1+1 < wr.heap.size):DkSt base w w2 b m n D ts N i vs w3:=by
 have hm:∀ u ∈ ts,u.p ∈ ts.map Ent.p:=fun u hu=>List.mem_map.2 ⟨u,hu,rfl⟩
 have hx:∀ x ∈ ftB wr t.k,x ≠ b∧x ≠ m∧base ≤ x:=fun x hx=>by have:=h.sto.pool.ge _ (hm t ht) x hx; exact ⟨this.2.1,this.2.2,this.1⟩
 have hft:∀ u ∈ ts,ftB w3 u.k=ftB wr u.k:=fun u hu=>by
  by_cases c:u.k=t.k
  ·rw [c]; exact hf
  ·exact ((h.sto.pool.bld _ (hm u hu)).keep fun x hx'=>ho.block x ((h.sto.pool.bld _ (hm u hu)).lt x hx') (h.sto.pool.apart _ (hm u hu) _ (hm t ht) c x hx')).2
 have hw':=h.sto.write ht hb ho (fun x hx' _=>by rw [hf] at hx'; exact hx')
 have hs:Sto base w3 b m n 0 D ts:=by
  refine ⟨hw'.cell,hw'.own,h.sto.has,h.sto.size,h.sto.at_,h.sto.gb,h.sto.gm,h.sto.bm,⟨fun p hp=>?_,fun p hp x hx'=>?_,fun p hp q hq hpq x hx'=>?_,h.sto.pool.nd⟩,h.sto.ndn⟩
  ·obtain ⟨u,hu,rfl⟩:=List.mem_map.1 hp
   by_cases c:u.k=t.k
   ·have he:u=t:=by
     have hnd:=h.sto.pool.nd
     rw [List.map_map] at hnd
     have hp':=List.pairwise_map.1 hnd
     obtain ⟨i,hi,rfl⟩:=List.getElem_of_mem hu
     obtain ⟨j,hj,rfl⟩:=List.getElem_of_mem ht
     by_cases c':i=j
     ·subst c'; rfl
     ·exfalso
      rcases Nat.lt_or_gt_of_ne c' with c' | c'
      ·exact List.pairwise_iff_getElem.1 hp' i j hi hj c' c
      ·exact List.pairwise_iff_getElem.1 hp' j i hj hi c' c.symm
    subst he
    exact hb
   ·exact ((h.sto.pool.bld _ hp).keep fun x hx'=>ho.block x ((h.sto.pool.bld _ hp).lt x hx') (h.sto.pool.apart _ hp _ (hm t ht) c x hx')).1
  ·obtain ⟨u,hu,rfl⟩:=List.mem_map.1 hp
   rw [show (Ent.p u).1=u.k from rfl,hft u hu] at hx'
   exact h.sto.pool.ge _ hp x hx'
  ·obtain ⟨u,hu,rfl⟩:=List.mem_map.1 hp
   obtain ⟨v,hv,rfl⟩:=List.mem_map.1 hq
   rw [show (Ent.p u).1=u.k from rfl,hft u hu] at hx'
   rw [show (Ent.p v).1=v.k from rfl,hft v hv]
   exact h.sto.pool.apart _ hp _ hq hpq x hx'
 refine h.only ho (fun k hk=>h.feet t ht k hk) hs (h.below.trans (h.sto.belowOnly ht ho)) (fun u hu x hx'=>?_) hw
 rw [hft u hu] at hx'
 exact h.feet u hu x hx'
theorem Sto.low {W W':World} {s:Int} (h:Sto base W b m n s D ts) {L:Nat} (hb:b < L) (hm:m < L) (hf:∀ t ∈ ts,∀ x ∈ ftB W t.k,x < L) (hk:∀ j,j < L→W'.heap[j]? =W.heap[j]?):Sto base W' b m n s D ts∧∀ t ∈ ts,ftB W' t.k=ftB W t.k:=by
 obtain ⟨es,clock,h1,r⟩:=h.own
 have hp:∀ p ∈ ts.map Ent.p,∀ x ∈ ftB W p.1,W'.heap[x]? =W.heap[x]? :=fun p hp x hx=>by
  obtain ⟨t,ht,rfl⟩:=List.mem_map.1 hp
  exact hk x (hf t ht x hx)
 exact ⟨⟨(hk b hb).trans h.cell,⟨es,clock,(hk m hm).trans h1,r⟩,h.has,h.size,h.at_,h.gb,h.gm,h.bm,h.pool.keep hp,h.ndn⟩,fun t ht=>((h.pool.bld _ (List.mem_map.2 ⟨t,ht,rfl⟩)).keep (hp _ (List.mem_map.2 ⟨t,ht,rfl⟩))).2⟩
theorem DkSt.put (h:DkSt base w w2 b m n D ts N i vs wr) (hgb:base ≤ w.heap.size) (hb:b < w.heap.size) (hm:m < w.heap.size) {g cap:Nat} {news:List Value} (hown:w3.ownsRow w.heap.size 59 2 (.slice (some ⟨g,0,none⟩) (i+1) cap) (i+1) (q9 ((N.take i).map fun x=>(x,tS ts x))++news)) (hg:wr.grownBy w3 vs.ownBlock) (hat:vs.ownBlock=some g ∨ g=wr.heap.size)
  (hN:q9 ((N.take (i+1)).map fun x=>(x,tS ts x))=q9 ((N.take i).map fun x=>(x,tS ts x))++news) (hw:w.heap.size+1+1 < wr.heap.size) (hw2:w.heap.size+1+1 < w2.heap.size):
  DkSt base w w2 b m n D ts N (i+1) (.slice (some ⟨g,0,none⟩) (i+1) cap) (w3.setCell ⟨w.heap.size+1+1,0,none⟩ (.slice (some ⟨g,0,none⟩) (i+1) cap)):=by
 have hvo:∀ k,vs.ownBlock=some k→k ≠ w.heap.size+1+1:=fun k hk=>by rcases h.vb k hk with e | e <;> omega
 have hgo:g ≠ w.heap.size+1+1:=by
  rcases hat with e | e
  ·exact hvo g e
  ·omega
 have hk3:∀ j,j < wr.heap.size→(∀ k,vs.ownBlock=some k→j ≠ k)→w3.heap[j]? =wr.heap[j]? :=fun j h1 h2=>hg.block j h1 fun e=>h2 j e.symm rfl
 have hset:∀ j,j ≠ w.heap.size+1+1→(w3.setCell ⟨w.heap.size+1+1,0,none⟩ (.slice (some ⟨g,0,none⟩) (i+1) cap)).heap[j]? =w3.heap[j]? :=fun j hj=>Below.heap_setCell _ _ _ _ hj
 have hlow:∀ j,j < w.heap.size→(w3.setCell ⟨w.heap.size+1+1,0,none⟩ (.slice (some ⟨g,0,none⟩) (i+1) cap)).heap[j]? =wr.heap[j]? :=fun j hj=>by
  rw [hset j (by omega)]
  exact hk3 j (by omega) fun k hk=>by have:=(h.own.lt k hk).1; omega
 obtain ⟨s1,s2⟩:=h.sto.low hb hm h.feet hlow
 have hO:w3.heap[w.heap.size+1+1]? =some (.cells #[vs] 31 (0,0)):=(hk3 _ hw fun k hk=>(hvo k hk).symm).trans h.out
 have hsz:(w3.setCell ⟨w.heap.size+1+1,0,none⟩ (.slice (some ⟨g,0,none⟩) (i+1) cap)).heap.size=w3.heap.size:=by simp [World.setCell]
 refine ⟨s1,?_,fun t ht x hx=>?_,?_,?_,?_,fun k hk=>?_,fun j h1 h2 h3 h4=>?_⟩
 ·have hg':Below base wr w3:=⟨hg.os,hg.tape,hg.output,hg.size,fun j hj=>hk3 j (by omega) fun k hk=>by have:=(h.own.lt k hk).1; omega⟩
  exact (h.below.trans hg').setCell (p:=⟨w.heap.size+1+1,0,none⟩) (by show base ≤ w.heap.size+1+1; omega) _
 ·rw [s2 t ht] at hx; exact h.feet t ht x hx
 ·rw [hsz]; exact Nat.le_trans h.size hg.size
 ·simp [World.setCell,Array.getElem?_modify,hO]
 ·rw [hN]
  exact ky hown fun k hk=>hset k (by
   have:g=k:=by simpa [Value.ownBlock] using hk
   omega)
 ·have:g=k:=by simpa [Value.ownBlock] using hk
  subst this
  rcases hat with e | e
  ·exact h.vb g e
  ·right; rw [e]; exact h.size
 ·rw [hset j h4,hk3 j (by have:=h.size; omega) fun k hk=>by rcases h.vb k hk with e | e <;> omega]
  exact h.keep j h1 h2 h3 h4
theorem DkSt.outCell (h:DkSt base w w2 b m n D ts N i vs wr) (hg:wr.grownBy w3 vs.ownBlock) (hw:w.heap.size+1+1 < wr.heap.size) (hw2:w.heap.size+1+1 < w2.heap.size):w3.cell? ⟨w.heap.size+1+1,0,none⟩=some vs∧w3.frozen? ⟨w.heap.size+1+1,0,none⟩=false:=by
 have hO:w3.heap[w.heap.size+1+1]? =some (.cells #[vs] 31 (0,0)):=(hg.block _ hw fun e=>by rcases h.vb _ e.symm with e | e <;> omega).trans h.out
 exact ⟨by rw [Lib.cell_of_heap hO]; rfl,Lib.frozen_of_heap hO 0⟩
end
set_option maxHeartbeats 4000000 in
theorem Va {base:Nat} {w:World} {b m n:Nat} {D:DataW Unit} {ts:List Ent} (h:Sto base w b m n 0 D ts) (hmax:ts.length ≤ 1000000):
  Calls Tryz.prog 23 #[.pointer (some ⟨b,0,none⟩)] w fun e w'=>Below base w w'∧∃ (v:Value) (xs:List (List UInt8×List UInt8)),e= .returned (.agg #[v])∧w'.ownsRow w.heap.size 59 2 v xs.length (xs.flatMap fun (f:List UInt8×List UInt8)=>[.string ⟨f.1.toArray⟩,.string ⟨f.2.toArray⟩])∧(xs.map (·.1)).Pairwise (· ≤ ·)∧xs.Perm (ts.map fun t=>(t.name,t.data)):=by
 have h1:Sto base (((w.alloc (.cells #[.slice none 0 0] 31)).alloc (.cells #[] 59)).alloc (.cells #[.slice (some ⟨w.heap.size+1,0,none⟩) 0 0] 31)) b m n 0 D ts:=h.only (ks:=[]) ((((Only.refl [] w).alloc _).alloc _).alloc _) fun k hk=>absurd hk (by simp)
 have c2:=h1.c2
 have z1:(((w.alloc (.cells #[.slice none 0 0] 31)).alloc (.cells #[] 59)).alloc (.cells #[.slice (some ⟨w.heap.size+1,0,none⟩) 0 0] 31)).heap.size=w.heap.size+1+1+1:=by simp
 have hk:=PN m (((w.alloc (.cells #[.slice none 0 0] 31)).alloc (.cells #[] 59)).alloc (.cells #[.slice (some ⟨w.heap.size+1,0,none⟩) 0 0] 31))
 have hsr:=Wv h1 (by omega)
 rw [z1] at hk hsr
 have R1:Put3 _:=⟨h⟩
 have R2:Put3 _:=⟨h1⟩
 clear h h1
 go_enter Tryz.func23,Tryz.ntmps23
 go_wp2_with (first
  | (go_at_call 46; refine hk.mono ?_; rintro e w' ⟨rfl,rfl⟩)
  | (go_at_call 45; refine hsr.mono ?_; rintro e w2 ⟨v,rfl,hrow,hb2⟩; obtain ⟨a,cap,g,rfl,hrg,hrc⟩:=Wd hrow))
 have hlN:((ts.map (·.name)).mergeSort leB).length=ts.length:=by rw [List.length_mergeSort,List.length_map]
 have hz2:w.heap.size+1+1+1+1 ≤ w2.heap.size:=by have:=hb2.size; simp at this; omega
 have k2:∀ j,j < w.heap.size+1+1+1→w2.heap[j]? =(((w.alloc (.cells #[.slice none 0 0] 31)).alloc (.cells #[] 59)).alloc (.cells #[.slice (some ⟨w.heap.size+1,0,none⟩) 0 0] 31)).heap[j]? :=fun j hj=>by
  rw [hb2.block j (by omega),Lib.alloc_old _ _ j (by rw [z1]; exact hj)]
 have start:DkSt base w w2 b m n D ts ((ts.map (·.name)).mergeSort leB) 0 (.slice (some ⟨w.heap.size+1,0,none⟩) 0 0) w2:=by
  have hs2:Sto base w2 b m n 0 D ts:=R2.out.only (ks:=[]) ⟨hb2.os,hb2.tape,hb2.output,by rw [z1]; omega,fun j hj _=>k2 j (by rw [z1] at hj; exact hj)⟩ fun k hk=>absurd hk (by simp)
  have h0:base ≤ w.heap.size:=by have:=R1.out.ltb; have:=R1.out.gb; omega
  have e1:((w.alloc (.cells #[.slice none 0 0] 31)).alloc (.cells #[] 59)).heap.size=w.heap.size+1+1:=by simp
  have e2:(w.alloc (.cells #[.slice none 0 0] 31)).heap.size=w.heap.size+1:=by simp
  have old:∀ j,j < w.heap.size→w2.heap[j]? =w.heap[j]? :=fun j hj=>by
   rw [k2 j (by omega),Lib.alloc_old _ _ j (by rw [e1]; omega),Lib.alloc_old _ _ j (by rw [e2]; omega),Lib.alloc_old _ _ j hj]
  refine ⟨hs2,⟨hb2.os,hb2.tape,hb2.output,by omega,fun j hj=>old j (by omega)⟩,fun t ht x hx=>?_,Nat.le_refl _,?_,?_,fun g hg=> .inl ?_,fun j _ _ _ _=>rfl⟩
  ·have hk:=(R1.out.pool.bld (t.k,t.data) (List.mem_map.2 ⟨t,ht,rfl⟩)).keep (w':=w2) fun x hx=>old x ((R1.out.pool.bld (t.k,t.data) (List.mem_map.2 ⟨t,ht,rfl⟩)).lt x hx)
   rw [hk.2] at hx
   exact (R1.out.pool.bld (t.k,t.data) (List.mem_map.2 ⟨t,ht,rfl⟩)).lt x hx
  ·rw [k2 _ (by omega),← e1]
   exact heap_alloc_new _ _
  ·refine ⟨rfl,.inr ⟨w.heap.size+1,0,#[],rfl,by omega,?_,by decide,by decide,rfl,rfl⟩⟩
   rw [k2 _ (by omega),Lib.alloc_old _ _ _ (by rw [e1]; omega),← e2]
   exact heap_alloc_new _ _
  ·simpa [Value.ownBlock] using hg.symm
 have mixed:Tryz.prog.follows .mixedOrders=true:=by kernel_rfl
 have R3:Put3 _:=⟨start⟩
 have R4:Put3 _:=⟨hrg⟩
 have R5:Put3 _:=⟨hrc⟩
 have R6:Put3 _:=⟨k2⟩
 have R7:Put3 _:=⟨hrow⟩
 clear start hrg hrc hb2 hrow k2 hk hsr
 go_loopw [15] (fun vi wr=>∃ (i:Nat) (vs:Value),vi= .int .i64 i∧i ≤ ts.length∧DkSt base w w2 b m n D ts ((ts.map (·.name)).mergeSort leB) i vs wr) (fun vi _=>ts.length - (Proofs.intOf vi).toNat)
 case atStart=>exact ⟨0,_,rfl,Nat.zero_le _,R3.out⟩
 case round=>
  obtain ⟨i,vs,rfl,hi,hS⟩:=hrel
  obtain ⟨p0,k0,rfl⟩:=gz hS.own
  by_cases hlt:i < ts.length
  ·have hlx:i < ((ts.map (·.name)).mergeSort leB).length:=by omega
   have hxi:=List.getElem?_eq_getElem hlx
   have hxm:=List.getElem_mem hlx
   obtain ⟨rfl,hg1,hg2⟩:=R4.out _ hxm
   have yx:=R5.out i _ hxi
   rw [← Xd (hS.keep g (by omega) hg2 (by omega) (by omega))] at yx
   have htk:((ts.map (·.name)).mergeSort leB).take (i+1)=((ts.map (·.name)).mergeSort leB).take i++[((ts.map (·.name)).mergeSort leB)[i]]:=by
    rw [List.take_add_one,hxi,Option.toList_some]
   generalize ((ts.map (·.name)).mergeSort leB)[i]=x at hxi hxm yx htk
   have hxn:x ∈ ts.map (·.name):=(List.mergeSort_perm _ leB).mem_iff.1 hxm
   obtain ⟨t,ht,rfl⟩:=List.mem_map.1 hxn
   have hxl:t.name.length ≤ maxLen:=strKeys_le R1.out.own Tryz.underlying9 _ ((bM R1.out).mem_iff.1 hxn)
   have hdt:tS ts t.name=t.data:=Za R1.out.ndn ht
   have hkey:keyOf Tryz.prog 9 (.string ⟨t.name.toArray⟩)=some (.string t.name):=by
    have:=WideMaps.keyOf_string_mk Tryz.underlying9 (s:=⟨t.name.toArray⟩) (by simpa [ByteArray.size] using hxl)
    simpa using this
   have hsd:Sto base wr.drew b m n 0 D ts:=hS.sto.only (ks:=[]) (Only.refl [] wr).drew fun k hk=>absurd hk (by simp)
   obtain ⟨v,ps,hlk,hv⟩:=hsd.own.lookup (Maps.string_keyed Tryz.underlying9) Tryz.underlying67 (Tryz.zeroValue77 wr.drew) (zd:= .nil) (zp:=[]) rfl hkey
   rw [hsd.at_ t ht] at hv
   obtain rfl:=jG hv
   have hstr:=Wi wr.drew t.k t.data (hsd.pool.bld (t.k,t.data) (List.mem_map.2 ⟨t,ht,rfl⟩))
   have y0:wr.cell? ⟨w.heap.size+1+1,0,none⟩=some (.slice p0 i k0):=by rw [Lib.cell_of_heap hS.out]; rfl
   have c2:=hS.sto.c2
   have R8:Put3 _:=⟨hS⟩
   have R9:Put3 _:=⟨hsd⟩
   have R10:Put3 _:=⟨ht⟩
   have R11:Put3 _:=⟨hdt⟩
   have R12:Put3 _:=⟨htk⟩
   have R13:Put3 _:=⟨hxi⟩
   have hN5:q9 ((((ts.map (·.name)).mergeSort leB).take (i+1)).map fun x=>(x,tS ts x))=q9 ((((ts.map (·.name)).mergeSort leB).take i).map fun x=>(x,tS ts x))++[.string ⟨t.name.toArray⟩,.string ⟨t.data.toArray⟩]:=by
    rw [htk,List.map_append]
    unfold q9
    rw [List.flatMap_append,List.map_cons,List.map_nil,hdt]; rfl
   have hwr0:w.heap.size+1+1 < wr.heap.size:=by have:=hS.size; omega
   have hgb0:base ≤ w.heap.size:=by have:=R1.out.ltb; have:=R1.out.gb; omega
   have hbw:=R1.out.ltb
   have hmw:=R1.out.ltm
   clear hS hsd ht hdt htk hxi hxm hxn hxl hkey hv
   go_wp2
   go_region_law (first
    | (refine step_append_lies _ rfl _ _ 29 rfl w.heap.size 59 fileInfo (.agg #[.string ⟨#[]⟩,.string ⟨#[]⟩]) 2 32 Tryz.underlying29 aM dJ dy fZ rfl (by decide) _ i _ rfl S4.out.own ⟨w3.heap.size,0,none⟩ 1 1 [.string ⟨t.name.toArray⟩,.string ⟨t.data.toArray⟩] rfl rfl (aa w3 _ _ _) (fun u hu=>by simp at hu; rcases hu with rfl | rfl <;> rfl) (by decide) (by unfold maxLen; omega) (by omega) hbw4 _ rfl ?_
       intro g5 cap5 w5 hown5 hgrow5 hat5 hlt5
       have S5:Put3 _:=⟨S4.out.put (g:=g5) hgb0 hbw hmw hown5 hgrow5 hat5 hN5 hw4 (by omega)⟩
       have y5:=S4.out.outCell hgrow5 hw4 (by omega)
       have y6:=y5.2
       have y5:=y5.1
       clear hown5 hgrow5 hat5 hlt5)
    | (go_simp
       go_at_call 47
       refine hstr.mono ?_
       rintro e w3 ⟨rfl,hb3,hf3,ho3⟩
       have S3:=R8.out.drew.str R10.out hb3 hf3 ho3 hwr0
       have hw3:w.heap.size+1+1 < w3.heap.size:=Nat.lt_of_lt_of_le hwr0 ho3.size
       have S4:Put3 _:=⟨S3.alloc (.cells #[.string ⟨t.name.toArray⟩,.string ⟨t.data.toArray⟩] 59) hw3⟩
       have y3:w3.cell? ⟨w.heap.size+1+1,0,none⟩=some (.slice p0 i k0):=by rw [Lib.cell_of_heap S3.out]; rfl
       have hw4:w.heap.size+1+1 < (w3.alloc (.cells #[.string ⟨t.name.toArray⟩,.string ⟨t.data.toArray⟩] 59)).heap.size:=by simp; omega
       have hbw4:w.heap.size ≤ (w3.alloc (.cells #[.string ⟨t.name.toArray⟩,.string ⟨t.data.toArray⟩] 59)).heap.size:=by omega
       clear S3 hb3 hf3 ho3))
   all_goals
    go_wp2
    exact ⟨⟨i+1,_,by go_num,by omega,S5.out⟩,by simp [Proofs.intOf]; omega⟩
  ·obtain rfl:i=ts.length:=by omega
   have y0:wr.cell? ⟨w.heap.size+1+1,0,none⟩=some (.slice p0 ts.length k0):=by rw [Lib.cell_of_heap hS.out]; rfl
   have hbx:wr.heap[w.heap.size]? =some (.cells #[.slice none 0 0] 31 (0,0)):=by
    rw [hS.keep _ (Nat.le_refl _) (by omega) (by omega) (by omega),R6.out _ (by omega),Lib.alloc_old _ _ _ (by simp; omega),Lib.alloc_old _ _ _ (by simp)]
    exact heap_alloc_new _ _
   have y1:wr.cell? ⟨w.heap.size,0,none⟩=some (.slice none 0 0):=by rw [Lib.cell_of_heap hbx]; rfl
   have y2:wr.frozen? ⟨w.heap.size,0,none⟩=false:=Lib.frozen_of_heap hbx 0
   have R8:Put3 _:=⟨hS⟩
   have R9:Put3 _:=⟨hbx⟩
   clear hS hbx
   go_wp2
   have hbx2:(wr.setCell ⟨w.heap.size,0,none⟩ (.slice p0 ts.length k0)).heap[w.heap.size]? =some (.cells #[.slice p0 ts.length k0] 31 (0,0)):=by
    have:=R9.out
    simp [World.setCell,Array.getElem?_modify,this]
   refine bodyPost_ret (results_cell_row (P:=Tryz.prog) rfl _ _ w.heap.size 31 #[.slice p0 ts.length k0] (0,0) _ rfl hbx2 Tryz.underlying31 rfl (by kernel_rfl)) rfl ?_
   have hgb:base ≤ w.heap.size:=by have:=R1.out.ltb; have:=R1.out.gb; omega
   have hN:(((ts.map (·.name)).mergeSort leB).take ts.length)=(ts.map (·.name)).mergeSort leB:=List.take_of_length_le (by omega)
   have hown:=R8.out.own
   rw [hN] at hown
   refine ⟨R8.out.below.setCell (p:=⟨w.heap.size,0,none⟩) hgb _,_,((ts.map (·.name)).mergeSort leB).map fun x=>(x,tS ts x),rfl,?_,?_,?_⟩
   ·rw [List.length_map,hlN]
    exact ky hown fun k hk=>Below.heap_setCell _ _ _ _ (by rcases R8.out.vb k hk with e | e <;> (show k ≠ w.heap.size) <;> omega)
   ·rw [List.map_map]
    have:=List.pairwise_mergeSort (le:=leB) (fun a b c h1 h2=>by simp only [leB,decide_eq_true_eq] at *; exact List.le_trans h1 h2) (fun a b=>by simp only [leB,Bool.or_eq_true,decide_eq_true_eq]; exact List.le_total a b) (ts.map (·.name))
    rw [show ((fun (x:List UInt8×List UInt8)=>x.1) ∘ fun x=>(x,tS ts x))=id from rfl,List.map_id]
    exact this.imp fun h=>by simpa [leB] using h
   ·refine ((List.mergeSort_perm _ leB).map _).trans ?_
    rw [List.map_map]
    refine List.Perm.of_eq (List.map_congr_left fun t ht=>?_)
    show (t.name,tS ts t.name)=(t.name,t.data)
    rw [Za R1.out.ndn ht]
end Go.Vm
