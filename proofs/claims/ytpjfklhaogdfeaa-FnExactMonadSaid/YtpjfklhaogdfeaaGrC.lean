/- impl.graded, walked: it hands back the places of a row's numbers in their order. -/
import Derived.Test.YtpjfklhaogdfeaaStTop
import Derived.Test.YtpjfklhaogdfeaaLaySt
import Derived.Test.YtpjfklhaogdfeaaGrPlain
import Derived.Below
import Derived.WalkSmall
set_option linter.all false
set_option maxRecDepth 100000
namespace Go.Vm
open Go.Proofs Go.Shelf Go.RowKit Go.Lib Go.Sort Go.Stb
set_option maxHeartbeats 4000000 in
theorem Xw (Ba Bo db doff blk n c1:Nat) (W:World) (X:Nat→Int) (G:Nat→Nat) (ha:W.cell? ⟨Ba,1,none⟩=some (.slice (some ⟨db,doff,none⟩) n c1)) (ho:W.cell? ⟨Bo,0,none⟩=some (.slice (some ⟨blk,0,none⟩) n n))
  (hd:∀ t,t < n→W.cell? ⟨db,doff+t,none⟩=some (.int .i64 (X t))) (hr:∀ t,t < n→W.cell? ⟨blk,t,none⟩=some (.int .i64 (G t))) (hG:∀ t,t < n→G t < n) (i j:Nat) (hi:i < n) (hj:j < n) (hsz:n < 4611686018427387904):
  Calls Try.prog 92 #[.int .i64 i,.int .i64 j,.pointer (some ⟨Ba,0,none⟩),.pointer (some ⟨Bo,0,none⟩)] W fun e w'=>e= .returned (.bool (decide (X (G i) < X (G j))))∧∃ q,w'=W.drewN q:=by
 have ci:=hr i hi
 have cj:=hr j hj
 have gi:=hG i hi
 have gj:=hG j hj
 have di:=hd (G i) gi
 have dj:=hd (G j) gj
 go_enter Try.func92,Try.ntmps92
 go_wp2
 go_quiet (fail)
 go_wp2
 go_ret
 exact ⟨rfl,nq,rfl⟩
structure GW (w:World) (sv dv:Value) (n:Nat) (W:World):Prop where
 below:Below w.heap.size w W
 size:W.heap.size=w.heap.size+1+1+1+1
 a0:W.cell? ⟨w.heap.size,0,none⟩=some sv
 a1:W.cell? ⟨w.heap.size,1,none⟩=some dv
 res:W.heap[w.heap.size+1]? =some (.cells #[.slice none 0 0,.slice none 0 0] 26 (0,0))
 row:Holds (Value.int .i64) W (w.heap.size+1+1) 0 (Array.replicate n (0:Int))
 ord:W.cell? ⟨w.heap.size+1+1+1,0,none⟩=some (.slice (some ⟨w.heap.size+1+1,0,none⟩) n n)
set_option maxHeartbeats 4000000 in
theorem U5 (w:World) (sv dv:Value) (n0:Nat) (sa:Option Addr) (c0:Nat) (hs:sv= .slice sa n0 c0) (hn:n0 ≠ 1):
  Calls Try.prog 44 #[.agg #[sv,dv]] w fun e w'=>e= .panicked [{ v:= .iface 123 (.agg #[.int .i64 2]),recovered:=false }]∧Below w.heap.size w w':=by
 subst hs
 have h0:((n0:Int) == 1)=false:=by simp; omega
 go_enter Try.func44,Try.ntmps44
 go_wp2
 exact ⟨rfl,rfl,((Below.refl _ w).alloc (Nat.le_refl _) _).trans (((Below.refl _ _).alloc (Nat.le_refl _) _).mono (by simp))⟩
noncomputable def intInfo:TypeInfo:=(Try.prog.info? 3).get (by kernel_rfl)
theorem XA:intInfo.hasPointers=false:=by kernel_rfl
theorem iG:intInfo.bytes=8:=by kernel_rfl
theorem fh:intInfo.size=1:=by kernel_rfl
theorem jN:Try.prog.info? 3=some intInfo:=by kernel_rfl
theorem ZU:intInfo.zero=some (.int .i64 0):=by kernel_rfl
theorem iota_holds (W:World) (n:Nat):Holds (Value.int .i64) (W.alloc (.cells (madeCells #[.int .i64 0] n) 3)) W.heap.size 0 (Array.replicate n (0:Int)):=by
 intro j hj
 simp only [Array.size_replicate] at hj
 have h:(W.alloc (.cells (madeCells #[.int .i64 0] n) 3)).heap[W.heap.size]? =some (.cells (madeCells #[.int .i64 0] n) 3 (0,0)):=by simp [World.alloc,-World.alloc_eq]
 refine ⟨?_,?_⟩
 ·simp only [World.cell?,h,Nat.zero_add]
  simp [madeCells,hj,Nat.mod_one]
 ·simp only [World.frozen?,h]
  simp
theorem dI (W:World) (o:Obj):(W.alloc o).heap[W.heap.size]? =some o:=by simp [World.alloc,-World.alloc_eq]
theorem nY (W:World) (o:Obj) {b:Nat} (h:b < W.heap.size):(W.alloc o).heap[b]? =W.heap[b]? :=by
 have h2:b ≠ W.heap.size:=by omega
 simp [World.alloc,-World.alloc_eq,Array.getElem?_push,h2]
theorem py {W:World} {b:Nat} {cs:Array Value} {t:TypeId} {fr:Nat×Nat} (h:W.heap[b]? =some (.cells cs t fr)) (k:Nat):W.cell? ⟨b,k,none⟩=cs[k]? :=by simp [World.cell?,h]
theorem jc {W:World} {b:Nat} {cs:Array Value} {t:TypeId} (h:W.heap[b]? =some (.cells cs t (0,0))) (k:Nat):W.frozen? ⟨b,k,none⟩=false:=by simp [World.frozen?,h]
theorem Ya (w:World) (sv dv:Value) (n:Nat):GW w sv dv n ((((w.alloc (.cells #[sv,dv] 26)).alloc (.cells #[.slice none 0 0,.slice none 0 0] 26)).alloc (.cells (madeCells #[.int .i64 0] n) 3)).alloc
  (.cells #[.slice (some ⟨w.heap.size+1+1,0,none⟩) n n] 22)):=by
 have z1:(w.alloc (.cells #[sv,dv] 26)).heap.size=w.heap.size+1:=by simp
 have b1:=dI w (.cells #[sv,dv] 26)
 have e1:Below w.heap.size w (w.alloc (.cells #[sv,dv] 26)):=(Below.refl _ w).alloc (Nat.le_refl _) _
 generalize w.alloc (.cells #[sv,dv] 26)=W1 at z1 b1 e1
 have z2:(W1.alloc (.cells #[.slice none 0 0,.slice none 0 0] 26)).heap.size=w.heap.size+1+1:=by simp [z1]
 have b2:=dI W1 (.cells #[.slice none 0 0,.slice none 0 0] 26)
 have b1':=(nY W1 (.cells #[.slice none 0 0,.slice none 0 0] 26) (b:=w.heap.size) (by omega)).trans b1
 have e2:Below W1.heap.size W1 (W1.alloc (.cells #[.slice none 0 0,.slice none 0 0] 26)):=(Below.refl _ W1).alloc (Nat.le_refl _) _
 rw [z1] at b2
 generalize W1.alloc (.cells #[.slice none 0 0,.slice none 0 0] 26)=W2 at z2 b2 b1' e2
 have z3:(W2.alloc (.cells (madeCells #[.int .i64 0] n) 3)).heap.size=w.heap.size+1+1+1:=by simp [z2]
 have b1'':=(nY W2 (.cells (madeCells #[.int .i64 0] n) 3) (b:=w.heap.size) (by omega)).trans b1'
 have b2':=(nY W2 (.cells (madeCells #[.int .i64 0] n) 3) (b:=w.heap.size+1) (by omega)).trans b2
 have h3:=iota_holds W2 n
 have e3:Below W2.heap.size W2 (W2.alloc (.cells (madeCells #[.int .i64 0] n) 3)):=(Below.refl _ W2).alloc (Nat.le_refl _) _
 rw [z2] at h3
 generalize W2.alloc (.cells (madeCells #[.int .i64 0] n) 3)=W3 at z3 b1'' b2' h3 e3
 have b4:=dI W3 (.cells #[.slice (some ⟨w.heap.size+1+1,0,none⟩) n n] 22)
 have e4:Below W3.heap.size W3 (W3.alloc (.cells #[.slice (some ⟨w.heap.size+1+1,0,none⟩) n n] 22)):=(Below.refl _ W3).alloc (Nat.le_refl _) _
 rw [z3] at b4
 refine ⟨((e1.trans (e2.mono (by omega))).trans (e3.mono (by omega))).trans (e4.mono (by omega)),by simp [z3],?_,?_,?_,?_,?_⟩
 ·exact (py ((nY W3 _ (by omega)).trans b1'') 0).trans rfl
 ·exact (py ((nY W3 _ (by omega)).trans b1'') 1).trans rfl
 ·exact (nY W3 _ (by omega)).trans b2'
 ·rw [alloc_eq_grow W3]
  exact holds_grow _ _ _ _ _ _ (by omega) h3
 ·exact (py b4 0).trans rfl
set_option maxHeartbeats 8000000 in
theorem Vb (w:World) (sv dv:Value) (n:Nat) (sa da:Option Addr) (c0 c1:Nat) (hs:sv= .slice sa 1 c0) (hd:dv= .slice da n c1) (hn:n ≤ 1000) {R:Ending→World→Prop}
  (hsort:∀ W dk,GW w sv dv n W→dk.size=n→(∀ t,t < n→dk[t]! =(t:Int))→Calls Try.prog 91 #[.iface 22 (.slice (some ⟨w.heap.size+1+1,0,none⟩) n n),.func (.func 92) #[] #[.pointer (some ⟨w.heap.size,0,none⟩),.pointer (some ⟨w.heap.size+1+1+1,0,none⟩)]] (putRow (Value.int .i64) W (w.heap.size+1+1) 0 dk) fun e W'=>e= .returned (.tuple #[])∧W'.cell? ⟨w.heap.size+1+1+1,0,none⟩=some (.slice (some ⟨w.heap.size+1+1,0,none⟩) n n)∧
    Calls Try.prog 40 #[.slice (some ⟨w.heap.size+1+1,0,none⟩) n n] W' fun e W''=>∃ p0 m0 k0 p1 m1 k1,e= .returned (.agg #[.slice p0 m0 k0,.slice p1 m1 k1])∧W''.heap[w.heap.size+1]? =some (.cells #[.slice none 0 0,.slice none 0 0] 26 (0,0))∧
     R (.returned (.agg #[.slice p0 m0 k0,.slice p1 m1 k1])) (((W''.setCell ⟨w.heap.size+1,0,none⟩ (.slice p0 m0 k0)).setCell ⟨w.heap.size+1,1,none⟩ (.slice p1 m1 k1)))):
  Calls Try.prog 44 #[.agg #[sv,dv]] w R:=by
 have hmk:∀ u:World,(Instr.makeSlice 22 (.int .i64 (n:Int)) (.int .i64 (n:Int))).run Try.prog u= .ok (.slice (some ⟨u.heap.size,0,none⟩) n n) (u.alloc (.cells (madeCells #[.int .i64 0] n) 3)):=fun u=>by
  have:=run_make (P:=Try.prog) u 22 3 intInfo (.int .i64 0) Try.underlying22 jN ZU .i64 .i64 n n (by omega) (Int.le_refl _) (by rw [iG]; omega) (by omega)
  rw [fh] at this
  simpa [Value.cells] using this
 subst hs hd
 have A:Aside _:=hsort
 clear hsort
 go_enter Try.func44,Try.ntmps44
 go_wp2
 go_loopw [17] (fun vk wr=>∃ (k:Nat) (dk:Array Int) (W:World),vk= .int .i64 k∧k ≤ n∧dk.size=n∧GW w (.slice sa 1 c0) (.slice da n c1) n W∧wr=putRow (Value.int .i64) W (w.heap.size+1+1) 0 dk∧Hid (∀ t,t < k→dk[t]! =(t:Int))) (fun vk _=>n - (Proofs.intOf vk).toNat)
 case atStart=>exact ⟨0,Array.replicate n 0,_,by go_num,by omega,by simp,Ya w _ _ n,(putRow_self _ _ _ _ _ (Ya w _ _ n).row).symm,fun t ht=>by omega⟩
 case round=>
  obtain ⟨k,dk,W,rfl,hk,hsk,hW,hwr,hO⟩:=hrel
  have hord:wr.cell? ⟨w.heap.size+1+1+1,0,none⟩=some (.slice (some ⟨w.heap.size+1+1,0,none⟩) n n):=by
   rw [hwr,cell?_putRow_other _ _ _ _ _ _ (Or.inl (by simp))]; exact hW.ord
  have hHr:Holds (Value.int .i64) wr (w.heap.size+1+1) 0 dk:=by rw [hwr]; exact holds_putRow _ _ _ _ _ dk hW.row (by simpa using hsk)
  by_cases hkn:k < n
  ·have hc:=hHr k (by omega)
   rw [Nat.zero_add] at hc
   have hset:wr.setCell ⟨w.heap.size+1+1,k,none⟩ (.int .i64 k)=putRow (Value.int .i64) W (w.heap.size+1+1) 0 (dk.setIfInBounds k (k:Int)):=by
    rw [hwr]
    have:=putRow_set (Value.int .i64) W (w.heap.size+1+1) 0 dk k (k:Int) (by omega)
    rwa [Nat.zero_add] at this
   have hc1:=hc.1
   have hc2:=hc.2
   have AW:Aside _:=hW
   have AE:Aside _:=hwr
   have ASet:Aside _:=hset
   clear hwr hW hHr hset hc
   go_wp2
   go_roundw
   case rel=>exact ⟨k+1,dk.setIfInBounds k (k:Int),W,by go_num,by omega,by simpa using hsk,AW.out,ASet.out,fun t ht=>by
    by_cases h:t=k
    ·subst h; exact getElem!_set_same _ _ _ (by omega)
    ·rw [getElem!_set_other _ _ _ _ h]; exact hO.out t (by omega)⟩
   case measure=>simp [Proofs.intOf]; omega
  ·have hkn':k=n:=by omega
   subst hkn'
   have hc:=A.out W dk hW hsk hO.out
   rw [← hwr] at hc
   have AW:Aside _:=hW
   clear hW hwr hHr
   go_wp2_with (go_at_call 91; refine hc.mono ?_; rintro e W1 ⟨rfl,hcell,hv⟩)
   go_wp2_with (go_at_call 40; refine hv.mono ?_; rintro e W2 ⟨p0,m0,k0,p1,m1,k1,rfl,hb,hR⟩; have q0:W2.cell? ⟨w.heap.size+1,0,none⟩=some (.slice none 0 0):=(py hb 0).trans rfl; have q1:W2.cell? ⟨w.heap.size+1,1,none⟩=some (.slice none 0 0):=(py hb 1).trans rfl; have f0:=jc hb 0; have f1:=jc hb 1)
   have hh:((W2.setCell ⟨w.heap.size+1,0,none⟩ (.slice p0 m0 k0)).setCell ⟨w.heap.size+1,1,none⟩ (.slice p1 m1 k1)).heap[w.heap.size+1]? =some (.cells #[.slice p0 m0 k0,.slice p1 m1 k1] 26 (0,0)):=by
    rw [setCell_eq,setCell_eq,mapBlock_mapBlock]
    simp only [mapBlock,Array.getElem?_modify,if_true,hb,Option.map_some,onCells]
    rfl
   (try simp only [Exit.inBlock,Exit.then])
   refine bodyPost_ret (v:= .agg #[.slice p0 m0 k0,.slice p1 m1 k1]) ?_ rfl hR
   exact results_cell_row (P:=Try.prog) (fn:=Try.f44) (p:=2) (ty:=26) rfl _ _ (w.heap.size+1) 26 _ (0,0) _ rfl hh Try.underlying26 rfl (by kernel_rfl)
theorem O1 {α:Type} [Inhabited α] {enc:α→Value} {w0 w1:World} {blk off:Nat} {d1:Array α} (h:SW enc w0 blk off d1 w1):w1.os=w0.os∧w1.tape=w0.tape∧w1.output=w0.output∧w0.heap.size ≤ w1.heap.size∧∀ b,b < w0.heap.size→b ≠ blk→w1.heap[b]? =w0.heap[b]? :=by
 obtain ⟨m,os,rfl⟩:=h
 refine ⟨rfl,rfl,rfl,?_,fun b hb hne=>?_⟩
 ·unfold sortWorld; rw [Go.Sort.size_grow]; rw [Go.Sort.size_putRow]; show _ ≤ _+_; simp [Sort.ahead]
 ·unfold sortWorld
  rw [Go.Sort.heap_grow_old _ _ (by rw [Go.Sort.size_putRow]; exact hb)]
  unfold putRow mapBlock
  simp only [Array.getElem?_modify,Ne.symm hne,if_false]
  rfl
theorem Lg {w:World} {b o:Nat} {v:Value} (h:w.cell? ⟨b,o,none⟩=some v):b < w.heap.size:=by
 rcases Nat.lt_or_ge b w.heap.size with h' | h'
 ·exact h'
 ·have:w.heap[b]? =none:=Array.getElem?_eq_none h'
  simp [World.cell?,this] at h
structure Sorted (w W:World) (l:List Int) (W1:World):Prop where
 os:W1.os=W.os
 tape:W1.tape=W.tape
 output:W1.output=W.output
 size:W.heap.size ≤ W1.heap.size
 heap:∀ b,b < W.heap.size→b ≠ w.heap.size+1+1→W1.heap[b]? =W.heap[b]?
 row:∀ t,t < l.length→W1.cell? ⟨w.heap.size+1+1,t,none⟩=some (.int .i64 (l.getD t 0))
noncomputable def eT:TypeInfo:=(Try.prog.info? 22).get (by kernel_rfl)
theorem ey:Try.prog.info? 22=some eT:=by kernel_rfl
theorem HA:Try.prog.funcs.findIdx? (·.name == "internal/reflectlite"++ ".Swapper$"++toString 5)=some 162:=by kernel_rfl
theorem Hl:∃ f,Try.prog.funcs.findIdx? (·.name == "internal/reflectlite"++ ".Swapper$"++toString (swapperK 0 intInfo 2))=some f:=⟨158,by kernel_rfl⟩
theorem Hg:∃ f,Try.prog.funcs.findIdx? (·.name == "internal/reflectlite"++ ".Swapper$"++toString (swapperK 1 intInfo 2))=some f:=⟨159,by kernel_rfl⟩
theorem iY {α:Type} [Inhabited α] {enc:α→Value} {w W W1:World} {dk d1:Array α} (hW:W.heap.size=w.heap.size+1+1+1+1) (hH:Holds enc W (w.heap.size+1+1) 0 dk) (h:SW enc W (w.heap.size+1+1) 0 d1 W1) (hs:d1.size=dk.size) {l:List Int} (hl:l.length=d1.size)
  (he:∀ t,t < d1.size→enc d1[t]! = .int .i64 (l.getD t 0)):Sorted w W l W1:=by
 obtain ⟨h1,h2,h3,h4,h5⟩:=O1 h
 refine ⟨h1,h2,h3,h4,h5,fun t ht=>?_⟩
 have:=(h.holds (by omega) hH hs t (by omega)).1
 rw [Nat.zero_add] at this
 rw [this,he t (by omega)]
set_option maxHeartbeats 4000000 in
theorem X3 (w:World) (sv dv:Value) (data:List Int) (da:Option Addr) (c1:Nat) (hd:dv= .slice da data.length c1) (hn:data.length ≤ 1000)
  (hdat:∀ t,t < data.length→∃ p,da=some p∧p.spot=none∧w.cell? ⟨p.block,p.off+t,none⟩=some (.int .i64 (data.getD t 0)))
  (W:World) (dk:Array Int) (gw:GW w sv dv data.length W) (hs:dk.size=data.length) (hk:∀ t,t < data.length→dk[t]! =(t:Int)):
  Calls Try.prog 91 #[.iface 22 (.slice (some ⟨w.heap.size+1+1,0,none⟩) data.length data.length),.func (.func 92) #[] #[.pointer (some ⟨w.heap.size,0,none⟩),.pointer (some ⟨w.heap.size+1+1+1,0,none⟩)]]
   (putRow (Value.int .i64) W (w.heap.size+1+1) 0 dk) fun e W'=>e= .returned (.tuple #[])∧Sorted w (putRow (Value.int .i64) W (w.heap.size+1+1) 0 dk) (pW data) W':=by
 have hsz:(putRow (Value.int .i64) W (w.heap.size+1+1) 0 dk).heap.size=w.heap.size+1+1+1+1:=by rw [Go.Sort.size_putRow,gw.size]
 have hH:Holds (Value.int .i64) (putRow (Value.int .i64) W (w.heap.size+1+1) 0 dk) (w.heap.size+1+1) 0 dk:=holds_putRow _ _ _ _ _ dk gw.row (by simpa using hs)
 have hold:∀ b k,b < w.heap.size+1+1+1+1→b ≠ w.heap.size+1+1→(putRow (Value.int .i64) W (w.heap.size+1+1) 0 dk).cell? ⟨b,k,none⟩=W.cell? ⟨b,k,none⟩:=fun b k h1 h2=>cell?_putRow_other _ _ _ _ _ _ (Or.inl h2)
 have ha:=(hold w.heap.size 1 (by omega) (by omega)).trans gw.a1
 have ho:=(hold (w.heap.size+1+1+1) 0 (by omega) (by omega)).trans gw.ord
 have hda:∀ t,t < data.length→∃ p,da=some p∧p.spot=none∧p.block < w.heap.size∧(putRow (Value.int .i64) W (w.heap.size+1+1) 0 dk).cell? ⟨p.block,p.off+t,none⟩=some (.int .i64 (data.getD t 0)):=by
  intro t ht
  obtain ⟨p,h1,h2,h3⟩:=hdat t ht
  have hlt:=Lg h3
  refine ⟨p,h1,h2,hlt,(hold _ _ (by omega) (by omega)).trans ?_⟩
  rw [gw.below.cell (p:=⟨p.block,p.off+t,none⟩) hlt]; exact h3
 generalize putRow (Value.int .i64) W (w.heap.size+1+1) 0 dk=W0 at *
 by_cases h2:2 ≤ data.length
 ·have h0:0 < data.length:=by omega
  letI:Inhabited (Fin data.length):=⟨⟨0,h0⟩⟩
  let enc:Fin data.length→Value:=fun x=> .int .i64 (x.val:Int)
  let d0:Array (Fin data.length):=Array.ofFn fun i:Fin data.length=>i
  have hd0:d0.size=data.length:=by simp [d0]
  have hv0:∀ t,t < data.length→d0[t]!.val=t:=by
   intro t ht
   rw [getElem!_pos d0 t (by omega)]
   simp [d0]
  have hH0:Holds enc W0 (w.heap.size+1+1) 0 d0:=by
   intro j hj
   rw [hd0] at hj
   obtain ⟨q1,q2⟩:=hH j (by omega)
   refine ⟨?_,q2⟩
   rw [q1,hk j hj]
   show some (Value.int .i64 (j:Int))=some (Value.int .i64 ((d0[j]!).val:Int))
   rw [hv0 j hj]
  obtain ⟨p,hp,hsp,hpb,_⟩:=hda 0 h0
  obtain ⟨pb,po,ps⟩:=p
  simp only at hsp hpb
  subst hsp hp
  have hda':∀ t,t < data.length→W0.cell? ⟨pb,po+t,none⟩=some (.int .i64 (data.getD t 0)):=by
   intro t ht
   obtain ⟨p',e1,_,_,e4⟩:=hda t ht
   injection e1 with e1
   subst e1
   exact e4
  have hX:=YM (fun t=>data.getD t 0) data.length h0 d0 hd0 hv0
  have eg:∀ args w,(callFunc 92 args).run Try.prog w= .ok (.enter 92 args) w:=enters_of Try.func92 (by kernel_rfl) rfl
  have hless:LessReads Try.prog 92 #[.pointer (some ⟨w.heap.size,0,none⟩),.pointer (some ⟨w.heap.size+1+1+1,0,none⟩)] enc (fun x y:Fin data.length=>decide (data.getD x.val 0 < data.getD y.val 0)) (w.heap.size+1+1) 0 d0.size W0:=by
   intro m os d' hs' i j hi hj
   rw [hd0] at hs' hi hj
   have hSW:SW enc W0 (w.heap.size+1+1) 0 d' (sortWorld enc W0 (w.heap.size+1+1) 0 m d' os):=⟨m,os,rfl⟩
   have keep:∀ b k,b < w.heap.size+1+1+1+1→b ≠ w.heap.size+1+1→(sortWorld enc W0 (w.heap.size+1+1) 0 m d' os).cell? ⟨b,k,none⟩=W0.cell? ⟨b,k,none⟩:=fun b k h1 h2=>wj hSW (by omega) h2
   have hr:∀ t,t < data.length→(sortWorld enc W0 (w.heap.size+1+1) 0 m d' os).cell? ⟨w.heap.size+1+1,t,none⟩=some (.int .i64 ((d'[t]!).val:Nat)):=by
    intro t ht
    have:=(hSW.holds (by omega) hH0 (by omega) t (by omega)).1
    rw [Nat.zero_add] at this
    exact this
   exact Xw w.heap.size (w.heap.size+1+1+1) pb po (w.heap.size+1+1) data.length c1 _ (fun t=>data.getD t 0) (fun t=>(d'[t]!).val)
    ((keep _ _ (by omega) (by omega)).trans (by rw [ha,hd])) ((keep _ _ (by omega) (by omega)).trans ho) (fun t ht=>(keep _ _ (by omega) (by omega)).trans (hda' t ht)) hr (fun t _=>(d'[t]!).isLt) i j hi hj (by omega)
  have hf:Try.prog.funcs.findIdx? (·.name == "internal/reflectlite"++ ".Swapper$"++toString (swapperK d0.size intInfo 2))=some 162:=by
   have:swapperK d0.size intInfo 2=5:=by
    have a:=XA
    have b:=iG
    have c:(d0.size == 0)=false:=by rw [hd0]; exact beq_false_of_ne (by omega)
    have d:(d0.size == 1)=false:=by rw [hd0]; exact beq_false_of_ne (by omega)
    simp [Lib.swapperK,a,b,c,d]
   rw [this]; exact HA
  have hS:=eB Go.Proofs.Try.laysGt8 22 3 eT intInfo ey (by kernel_rfl) (by kernel_rfl) jN 2 (fun _=>by kernel_rfl) fh (fun _=>by kernel_rfl) enc (fun _=>rfl)
   (fun x y:Fin data.length=>decide (data.getD x.val 0 < data.getD y.val 0)) 92 #[.pointer (some ⟨w.heap.size,0,none⟩),.pointer (some ⟨w.heap.size+1+1+1,0,none⟩)] eg (w.heap.size+1+1) 0 data.length d0 (by omega) (by omega) 162 hf true
   (fun args W=>run_callFunc_extern Try.func162 (by kernel_rfl) (by kernel_rfl) (by kernel_rfl) (e:=Extern.ReflectliteSwapper.swap true) (by kernel_rfl) args W) W0 hless hH0 (by omega)
  rw [hd0] at hS
  refine hS.mono ?_
  rintro e W' ⟨rfl,h3,h4⟩
  obtain ⟨hX1,hX2⟩:=hX
  generalize ql (fun x y:Fin data.length=>decide (data.getD x.val 0 < data.getD y.val 0)) data.length d0=arr at h3 h4 hX1 hX2
  refine ⟨rfl,iY hsz hH0 h3 (by omega) ?_ ?_⟩
  ·rw [lI,h4]
  ·intro t ht
   have e1:(pW data).getD t 0=((arr[t]!).val:Int):=by
    unfold pW
    rw [← hX1,getElem!_pos arr t ht]
    simp only [List.map_map,List.getD_eq_getElem?_getD,List.getElem?_map,Array.getElem?_toList]
    rw [Array.getElem?_eq_getElem ht]
    rfl
   rw [e1]
 ·have hf:∃ f,Try.prog.funcs.findIdx? (·.name == "internal/reflectlite"++ ".Swapper$"++toString (swapperK data.length intInfo 2))=some f:=by
   rcases (by omega:data.length=0 ∨ data.length=1) with h | h <;> rw [h]
   ·exact Hl
   ·exact Hg
  obtain ⟨f,hf⟩:=hf
  have hS:=Any.sort_SliceStable_tiny Go.Proofs.Try.laysGt8 22 3 eT intInfo ey (by kernel_rfl) (by kernel_rfl) jN 2 (fun _=>by kernel_rfl) (some ⟨w.heap.size+1+1,0,none⟩) data.length data.length (by omega) f hf (.func 92) #[] #[.pointer (some ⟨w.heap.size,0,none⟩),.pointer (some ⟨w.heap.size+1+1+1,0,none⟩)] W0
  refine hS.mono ?_
  rintro e W' ⟨rfl,os,rfl⟩
  have hS1:SW (Value.int .i64) W0 (w.heap.size+1+1) 0 dk (Go.Sort.grow W0 os):=⟨0,os,by unfold sortWorld; rw [show Sort.ahead W0 0=W0 from rfl,putRow_self _ _ _ _ _ hH]⟩
  refine ⟨rfl,iY hsz hH hS1 rfl ?_ ?_⟩
  ·rw [lI,hs]
  ·intro t ht
   rw [hs] at ht
   rw [hk t ht]
   obtain rfl:t=0:=by omega
   have:data.length=1:=by omega
   obtain ⟨x,rfl⟩:=List.length_eq_one_iff.1 this
   rfl
theorem kO (x:Int) (l:List Int):zm cI (x :: l)= .int .i64 x :: zm cI l:=rfl
theorem Zb {S:Nat→Nat} {w:World}:∀ (l:List Int) (b o:Nat),RDat S w (zm cI l) b o→∀ t,t < l.length→w.cell? ⟨b,o+t,none⟩=some (.int .i64 (l.getD t 0))
 | [],_,_,_,t,h=>by simp at h
 | x :: l,b,o,h,t,ht=>by
   rw [kO] at h
   obtain ⟨_,⟨v,hv,hx⟩,hr⟩:=h
   cases t with
   | zero=>
     simp only [RD] at hx
     subst hx
     exact hv
   | succ t=>
     have:=Zb l b (o+1) hr t (by simpa using ht)
     rw [show o+(t+1)=o+1+t by omega]
     simpa using this
theorem WB {S:Nat→Nat} {w:World}:∀ (l:List Int) (b o:Nat),(∀ t,t < l.length→o+t < S b∧w.cell? ⟨b,o+t,none⟩=some (.int .i64 (l.getD t 0)))→RDat S w (zm cI l) b o
 | [],_,_,_=>trivial
 | x :: l,b,o,h=>by
   rw [kO]
   have h0:=h 0 (by simp)
   refine ⟨h0.1,⟨_,h0.2,by simp only [RD]; rfl⟩,WB l b (o+1) fun t ht=>?_⟩
   have:=h (t+1) (by simpa using ht)
   rw [show o+1+t=o+(t+1) by omega]
   simpa using this
theorem dE {S S':Nat→Nat} {w w':World}:∀ (l:List Int) (vs:List Value),RDl S w (zm cI l) vs→RDl S' w' (zm cI l) vs
 | [],_,h=>h
 | x :: l,vs,h=>by
   rw [kO] at h ⊢
   obtain ⟨v,r,e,hx,hr⟩:=h
   exact ⟨v,r,e,by simpa only [RD] using hx,dE l r hr⟩
theorem d4 {w:World} {e:TypeId} {sz:Nat} {v:Value} {n:Nat} {xs:List Value} (h:w.ownsRow 0 e sz v n xs):∃ p m k,v= .slice p m k:=by
 rcases h.2 with ⟨h,_⟩ | ⟨g,cap,cur,h,_⟩ <;> exact ⟨_,_,_,h⟩
theorem cg {w w':World} {e:TypeId} {sz:Nat} {v:Value} {n:Nat} {xs:List Value} (h:w.ownsRow 0 e sz v n xs) (hb:∀ b,v.ownBlock=some b→w'.heap[b]? =w.heap[b]?):w'.ownsRow 0 e sz v n xs:=by
 refine ⟨h.1,?_⟩
 rcases h.2 with h | ⟨g,cap,cur,h1,h2,h3,h4⟩
 ·exact Or.inl h
 ·exact Or.inr ⟨g,cap,cur,h1,h2,by rw [hb g (by rw [h1]; rfl)]; exact h3,h4⟩
theorem gM (w:World) (B:Nat) (u v:Value) {b:Nat} (h:b ≠ B):((w.setCell ⟨B,0,none⟩ u).setCell ⟨B,1,none⟩ v).heap[b]? =w.heap[b]? :=by
 rw [setCell_eq,setCell_eq,mapBlock_mapBlock]
 simp only [mapBlock,Array.getElem?_modify,Ne.symm h,if_false]
theorem TS (w:World) (B:Nat) (u v:Value):((w.setCell ⟨B,0,none⟩ u).setCell ⟨B,1,none⟩ v).heap.size=w.heap.size:=by
 rw [setCell_eq,setCell_eq,mapBlock_mapBlock]
 simp only [mapBlock,Array.size_modify]
theorem gO (w:World) (B:Nat) (u v:Value):((w.setCell ⟨B,0,none⟩ u).setCell ⟨B,1,none⟩ v).os=w.os∧((w.setCell ⟨B,0,none⟩ u).setCell ⟨B,1,none⟩ v).tape=w.tape∧((w.setCell ⟨B,0,none⟩ u).setCell ⟨B,1,none⟩ v).output=w.output:=by
 rw [setCell_eq,setCell_eq,mapBlock_mapBlock]
 exact ⟨rfl,rfl,rfl⟩
variable [Gl]
set_option maxHeartbeats 4000000 in
theorem hJ {Cv:List X→Option XOut} (hv:Sound Try.prog 40 Cv)
  (hCv:∀ l:List Int,l.length ≤ 1000→Cv [.d (zf cI l)]=some (.ret (.agg [zj cI 3 none false [(l.length:Int)],zj cI 3 none false l]) []))
  {enc:List Int×List Int→List X} (henc:∀ a,enc a=[.agg [.d (zf cI a.1),.d (zf cI a.2)]]) {C:List Int×List Int→Option XOut}
  (hC:∀ a out,C a=some out→a.2.length ≤ 1000∧out=(if a.1.length=1 then .ret (.agg [zj cI 3 none false [(a.2.length:Int)],zj cI 3 none false (pW a.2)]) [] else .pan (.ifaceS 123 [.int .i64 2]) [])):
  Sound Try.prog 44 (lay enc C):=by
 intro S w args xs bs hx hb out ho
 obtain ⟨⟨shape,data⟩,rfl,ho2⟩:=o8 ho
 obtain ⟨hn,rfl⟩:=hC _ _ ho2
 simp only at hn
 rw [henc] at hx
 obtain ⟨v,r0,b1,b2,hargs,rfl,⟨vs,rfl,v1,r1,b3,b4,hvs,rfl,⟨rfl,hd1⟩,v2,r2,b5,b6,rfl,rfl,⟨rfl,hd2⟩,rfl,rfl⟩,rfl,rfl⟩:=hx
 obtain rfl:args=#[.agg vs]:=by cases args; simp_all
 obtain rfl:vs=#[v1,v2]:=by cases vs; simp_all
 refine ⟨nT Try.func44 (by kernel_rfl) (by kernel_rfl) _ _,?_⟩
 obtain ⟨sa,c0,rfl,_,_,_⟩:=hd1
 obtain ⟨da,c1,rfl,hcap,hnil,hp⟩:=hd2
 have hl:yW (enc (shape,data)) (#[.agg #[.slice sa shape.length c0,.slice da data.length c1]]:Array Value).toList=[]:=by
  rw [henc]; rfl
 rw [hl]
 dsimp only at hcap hnil hp ⊢
 by_cases h1:shape.length=1
 ·rw [if_pos h1]
  have hdat:∀ t,t < data.length→∃ p,da=some p∧p.spot=none∧w.cell? ⟨p.block,p.off+t,none⟩=some (.int .i64 (data.getD t 0)):=by
   intro t ht
   cases da with
   | none=>have:=(hnil rfl).1; omega
   | some p=>
     obtain ⟨q1,q2⟩:=hp p rfl
     refine ⟨p,rfl,?_,Zb data _ _ q2 t ht⟩
     rcases q1 with q1 | ⟨q1,q3⟩
     ·exact q1
     ·omega
  refine Vb w _ _ data.length sa da c0 c1 (by rw [h1]) rfl hn ?_
  intro W dk gw hs hk
  refine (X3 w _ _ data da c1 rfl hn hdat W dk gw hs hk).mono ?_
  rintro e W1 ⟨rfl,hS⟩
  have hszW:(putRow (Value.int .i64) W (w.heap.size+1+1) 0 dk).heap.size=w.heap.size+1+1+1+1:=by rw [Go.Sort.size_putRow,gw.size]
  have hhW:∀ b,b ≠ w.heap.size+1+1→(putRow (Value.int .i64) W (w.heap.size+1+1) 0 dk).heap[b]? =W.heap[b]? :=by
   intro b hne
   unfold putRow mapBlock
   simp only [Array.getElem?_modify,Ne.symm hne,if_false]
  have hh1:∀ b,b < w.heap.size+1+1+1+1→b ≠ w.heap.size+1+1→W1.heap[b]? =W.heap[b]? :=fun b q1 q2=>(hS.heap b (by omega) q2).trans (hhW b q2)
  have hold:∀ b,b < w.heap.size→W1.heap[b]? =w.heap[b]? :=fun b q=>(hh1 b (by omega) (by omega)).trans (gw.below.block b q)
  have hz1:w.heap.size+1+1+1+1 ≤ W1.heap.size:=by have:=hS.size; omega
  refine ⟨rfl,?_,?_⟩
  ·have:=gw.ord
   rw [World.cell?_of_block (w:=W) (a:=⟨w.heap.size+1+1+1,0,none⟩) (hh1 (w.heap.size+1+1+1) (by omega) (by omega))]
   exact this
  ·have hgl:(pW data).length=data.length:=lI data
   have hrx:RXs (fun b=>if b=w.heap.size+1+1 then data.length else S b) W1 [.d (zf cI (pW data))] [.slice (some ⟨w.heap.size+1+1,0,none⟩) data.length data.length] []:=by
    refine ⟨_,_,[],[],rfl,rfl,⟨rfl,⟨_,_,by rw [hgl],by omega,fun h=>(by cases h),fun p hp'=>?_⟩⟩,rfl,rfl⟩
    injection hp' with hp'
    subst hp'
    refine ⟨Or.inl rfl,WB _ _ _ fun t ht=>⟨?_,?_⟩⟩
    ·simp only [if_true]; omega
    ·show W1.cell? ⟨w.heap.size+1+1,0+t,none⟩=_
     rw [Nat.zero_add]; exact hS.row t ht
   have hbs:Yw W1 []:=⟨List.nodup_nil,by have:=hb.2.1; omega,fun b hlt=>⟨by
    rw [hold b (by have:=hb.2.1; omega)]; exact (hb.2.2 b hlt).1,by simp⟩⟩
   have hCv':=hCv (pW data) (by omega)
   rw [hgl] at hCv'
   have hcall:=hv (fun b=>if b=w.heap.size+1+1 then data.length else S b) W1 #[.slice (some ⟨w.heap.size+1+1,0,none⟩) data.length data.length] _ [] hrx hbs _ hCv'
   refine hcall.2.mono ?_
   rintro e W2 ⟨S2,o1,o2,o3,o4,o5,v,bb,ls',rfl,hRX,hnd,hge,hro,hpar,hmv⟩
   obtain ⟨vs,rfl,u0,r0,b1,b2,hvs,rfl,⟨xs0,w0,d0,rfl,s0,k0⟩,u1,r1,b3,b4,rfl,rfl,⟨xs1,w1,d1,rfl,s1,k1⟩,rfl,rfl⟩:=hRX
   obtain rfl:vs=#[u0,u1]:=by cases vs; simp_all
   obtain ⟨p0,m0,c0',rfl⟩:=d4 w0
   obtain ⟨p1,m1,c1',rfl⟩:=d4 w1
   have hne:∀ b,w.heap.size+1+1 ≤ b→b ≠ w.heap.size+1:=fun b h=>by omega
   have hge0:∀ b,(Value.slice p0 m0 c0').ownBlock=some b→w.heap.size+1+1 ≤ b:=fun b hb'=>by
    have:=hge b (by simp [hb']); omega
   have hge1:∀ b,(Value.slice p1 m1 c1').ownBlock=some b→w.heap.size+1+1 ≤ b:=fun b hb'=>by
    have:=hge b (by simp [hb']); omega
   refine ⟨p0,m0,c0',p1,m1,c1',rfl,?_,S2,?_,?_,?_,?_,?_,?_⟩
   ·rw [(o5 (w.heap.size+1) (by omega) (by simp)).1,hh1 _ (by omega) (by omega)]; exact gw.res
   ·rw [(gO ..).1,o1,hS.os]; exact gw.below.os
   ·rw [(gO ..).2.1,o2,hS.tape]; exact gw.below.tape
   ·rw [(gO ..).2.2,o3,hS.output]; exact gw.below.output
   ·rw [TS]; omega
   ·intro b hlt _
    refine ⟨?_,?_⟩
    ·rw [gM _ _ _ _ (by omega),(o5 b (by omega) (by simp)).1]; exact hold b hlt
    ·rw [(o5 b (by omega) (by simp)).2,if_neg (by omega)]
   ·have hl':ls'=[]:=by
     simp only [Mvs] at hmv
     exact hmv.2
    subst hl'
    refine ⟨_,(Value.slice p0 m0 c0').ownBlock.toList++((Value.slice p1 m1 c1').ownBlock.toList++[]),[],rfl,⟨_,rfl,_,_,_,_,rfl,rfl,⟨xs0,cg w0 fun b hb'=>gM _ _ _ _ (hne b (hge0 b hb')),dE _ _ d0,rfl,s0,k0⟩,_,_,_,_,rfl,rfl,⟨xs1,cg w1 fun b hb'=>gM _ _ _ _ (hne b (hge1 b hb')),?_,rfl,s1,k1⟩,rfl,rfl⟩,hnd,fun b hb'=>by have:=hge b hb'; omega,rfl,hpar,rfl,rfl⟩
    exact dE _ _ d1
 ·rw [if_neg h1]
  refine (U5 w _ (.slice da data.length c1) shape.length sa c0 rfl h1).mono ?_
  rintro e W' ⟨rfl,hB⟩
  refine ⟨S,hB.os,hB.tape,hB.output,hB.size,fun b hlt _=>⟨hB.block b hlt,rfl⟩,_,[],rfl,⟨_,rfl,_,_,rfl,by simp only [RD],rfl⟩,rfl,List.nodup_nil,rfl,rfl⟩
#print axioms hJ
end Go.Vm
