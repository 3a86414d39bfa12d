/- The library's stable sort of any number of elements: sort.SliceStable leaves the row as 'stable' says. -/
import Derived.Test.YtpjfklhaogdfeaaStWalk
set_option linter.unusedVariables false
set_option linter.unusedSectionVars false
set_option linter.unusedSimpArgs false
namespace Go.Stb
open Go.Proofs Go.Shelf Go.RowKit Go.Lib Go.Sort
variable {P:Program} {ρ:Ren} {α:Type} [Inhabited α]
theorem ix {lt:α→α→Bool} (a:Nat):∀ (j:Nat) (d:Array α),(insInner lt a j d).size=d.size
 | 0,d=>rfl
 | j+1,d=>by
   rw [insInner]
   split
   ·rw [ix a j,swp_size]
   ·rfl
theorem io {lt:α→α→Bool} (a b:Nat):∀ (n i:Nat) (d:Array α),b - i=n→(insOuter lt a b i d).size=d.size
 | 0,i,d,h=>by rw [insOuter,if_neg (by omega)]
 | n+1,i,d,h=>by rw [insOuter,if_pos (by omega),io a b n (i+1) _ (by omega),ix]
theorem tC {lt:α→α→Bool} (d:Array α) (a b:Nat):(insertionSort lt d a b).size=d.size:=io a b _ _ d rfl
theorem Sy {lt:α→α→Bool} (n a:Nat) (d:Array α) (h:a+20 ≤ n):uJ lt n a d=uJ lt n (a+20) (insertionSort lt d a (a+20)):=by rw [uJ,if_pos h]
theorem VL {lt:α→α→Bool} (n a:Nat) (d:Array α) (h:¬ a+20 ≤ n):uJ lt n a d=insertionSort lt d a n:=by rw [uJ,if_neg h]
theorem Jp {lt:α→α→Bool} (k n a:Nat) (d:Array α) (hk:0 < k) (h:a+2 * k ≤ n):mrg lt k n a d=mrg lt k n (a+2 * k) (sym lt n a (a+k) (a+2 * k) d):=by rw [mrg,dif_pos ⟨hk,h⟩]
theorem RE {lt:α→α→Bool} (k n a:Nat) (d:Array α) (h:¬ a+2 * k ≤ n) (h2:a+k < n):mrg lt k n a d=sym lt n a (a+k) n d:=by rw [mrg,dif_neg (by omega),if_pos h2]
theorem MG {lt:α→α→Bool} (k n a:Nat) (d:Array α) (h:¬ a+2 * k ≤ n) (h2:¬ a+k < n):mrg lt k n a d=d:=by rw [mrg,dif_neg (by omega),if_neg h2]
theorem aF {lt:α→α→Bool} (n k:Nat) (d:Array α) (hk:0 < k) (h:k < n):pw lt n k d=pw lt n (2 * k) (mrg lt k n 0 d):=by rw [pw,dif_pos ⟨hk,h⟩]
theorem Uq {lt:α→α→Bool} (n k:Nat) (d:Array α) (h:¬ k < n):pw lt n k d=d:=by rw [pw,dif_neg (by omega)]
set_option maxHeartbeats 8000000 in
set_option maxRecDepth 100000 in
theorem V7 (L:LaysGt.n15 P ρ) (enc:α→Value) (lt:α→α→Bool) (g:Nat) (lb:Array Value) (sf:Nat) (sb:Array Value) (blk off n:Nat) (d:Array α) (w:World)
  (eg:∀ args w,(callFunc g args).run P w= .ok (.enter g args) w) (pre:Pre P enc lt g lb sf sb blk off d w) (hn:n ≤ d.size):
  Calls P (ρ.f 15) #[.agg #[.func (.func g) #[] lb,.func (.func sf) #[] sb],.int .i64 n] w fun e w'=>e= .returned (.tuple #[])∧SW enc w blk off (ql lt n d) w'∧(ql lt n d).size=d.size:=by
 have mixed:=L.mixed; have t0:=L.t0; have a0:=L.a0; have z0:=L.z0; have v0:=L.v0; have t3:=L.t3; have a3:=L.a3; have z3:=L.z3; have v3:=L.v3; have t4:=L.t4; have a4:=L.a4; have z4:=L.z4; have v4:=L.v4; have t26:=L.t26; have a26:=L.a26; have z26:=L.z26; have v26:=L.v26; have t38:=L.t38; have a38:=L.a38; have z38:=L.z38; have v38:=L.v38; have t42:=L.t42; have a42:=L.a42; have z42:=L.z42; have v42:=L.v42; have t47:=L.t47; have a47:=L.a47; have z47:=L.z47; have v47:=L.v47
 have u42:=run_underlying L.t42
 have e29:∀ args w,(callFunc (ρ.f 29) args).run P w= .ok (.enter (ρ.f 29) args) w:=enters_of L.f29 (by kernel_rfl) rfl
 have e30:∀ args w,(callFunc (ρ.f 30) args).run P w= .ok (.enter (ρ.f 30) args) w:=enters_of L.f30 (by kernel_rfl) rfl
 have LI:LaysGg.n26 P ρ.viaGt:=({ L with }:LaysGt.n29 P ρ).elder
 have s0:SW enc w blk off d (w.alloc (.cells #[.func (.func g) #[] lb,.func (.func sf) #[] sb] (ρ.t 42))):=(SW.start pre.holds).alloc _
 have pre1:=pre.sw s0 rfl
 have s1:=SW.start pre1.holds
 have A0:Aside (SW enc w blk off d (w.alloc (.cells #[.func (.func g) #[] lb,.func (.func sf) #[] sb] (ρ.t 42)))):=s0
 have hblk:=pre.blk
 have hb1:=pre1.blk
 have hsz:n < 4611686018427387904:=Nat.lt_of_le_of_lt hn pre1.small
 have cB0:(w.alloc (.cells #[.func (.func g) #[] lb,.func (.func sf) #[] sb] (ρ.t 42))).cell? ⟨w.heap.size,0,none⟩=some (.func (.func g) #[] lb):=by simp
 have cB1:(w.alloc (.cells #[.func (.func g) #[] lb,.func (.func sf) #[] sb] (ρ.t 42))).cell? ⟨w.heap.size,1,none⟩=some (.func (.func sf) #[] sb):=by simp
 have zB:w.heap.size < (w.alloc (.cells #[.func (.func g) #[] lb,.func (.func sf) #[] sb] (ρ.t 42))).heap.size:=by simp
 have hIns:∀ (x y:Nat) (dk:Array α) (w1:World),SW enc (w.alloc (.cells #[.func (.func g) #[] lb,.func (.func sf) #[] sb] (ρ.t 42))) blk off dk w1→dk.size=d.size→x ≤ y→y ≤ n→
   Calls P (ρ.f 29) #[.agg #[.func (.func g) #[] lb,.func (.func sf) #[] sb],.int .i64 x,.int .i64 y] w1 fun e w'=>e= .returned (.tuple #[])∧SW enc w1 blk off (insertionSort lt dk x y) w':=fun x y dk w1 hS hs h1 h2=>
  (Any.insertionSort_func_w LI enc lt g lb sf sb blk off x y dk w1 eg (pre1.sw hS hs).less (pre1.sw hS hs).swap (pre1.sw hS hs).holds (pre1.sw hS hs).blk h1 (by omega) (pre1.sw hS hs).small)
 have hSym:∀ (x m y:Nat) (dk:Array α) (w1:World),SW enc (w.alloc (.cells #[.func (.func g) #[] lb,.func (.func sf) #[] sb] (ρ.t 42))) blk off dk w1→dk.size=d.size→x < m→m < y→y ≤ n→
   Calls P (ρ.f 30) #[.agg #[.func (.func g) #[] lb,.func (.func sf) #[] sb],.int .i64 x,.int .i64 m,.int .i64 y] w1 fun e w'=>e= .returned (.tuple #[])∧SW enc w1 blk off (sym lt n x m y dk) w':=fun x m y dk w1 hS hs h1 h2 h3=>
  eY { L with } enc lt g lb sf sb blk off eg n x m y dk w1 (pre1.sw hS hs) h1 h2 (by omega) (by omega)
 have cells:∀ d1 w1,SW enc (w.alloc (.cells #[.func (.func g) #[] lb,.func (.func sf) #[] sb] (ρ.t 42))) blk off d1 w1→w1.cell? ⟨w.heap.size,0,none⟩=some (.func (.func g) #[] lb)∧w1.cell? ⟨w.heap.size,1,none⟩=some (.func (.func sf) #[] sb):=
  fun d1 w1 h=>⟨(wj h zB (by omega)).trans cB0,(wj h zB (by omega)).trans cB1⟩
 have AI:Aside _:=hIns
 have AY:Aside _:=hSym
 have AC:Aside _:=cells
 clear s0 pre pre1 hIns hSym cells
 go_enter L.f15,BodyGt.n15_ntmps ρ
 go_wp2
 go_loopw [5,6] (fun va vb wr=>∃ (x:Nat) (dk:Array α),va= .int .i64 x∧vb= .int .i64 ((x+20:Nat))∧x ≤ n∧dk.size=d.size∧SW enc (w.alloc (.cells #[.func (.func g) #[] lb,.func (.func sf) #[] sb] (ρ.t 42))) blk off dk wr∧Hid (uJ lt n x dk=uJ lt n 0 d)) (fun va _ _=>n - (Proofs.intOf va).toNat)
 case atStart=>exact ⟨0,d,by go_num,by go_num,by omega,rfl,s1,rfl⟩
 case round=>
  obtain ⟨x,dk,rfl,rfl,hx,hsk,hS,hO⟩:=hrel
  obtain ⟨c0,c1⟩:=AC.out _ _ hS
  have AS:Aside (SW enc (w.alloc (.cells #[.func (.func g) #[] lb,.func (.func sf) #[] sb] (ρ.t 42))) blk off dk wr):=hS
  clear hS s1
  by_cases h20:x+20 ≤ n
  ·have hc:=AI.out x (x+20) dk wr AS.out hsk (by omega) h20
   rw [show (((x+20:Nat):Int))=(x:Int)+20 by omega] at hc ⊢
   go_wp2_with (go_at_fn (ρ.f 29); refine hc.mono ?_; rintro e w1 ⟨rfl,hS1⟩)
   go_roundw
   case rel=>exact ⟨x+20,_,by go_num,by congr 1,h20,by rw [tC]; exact hsk,zJ hb1 AS.out hS1 (tC _ _ _),by rw [← hO.out,Sy n x dk h20]; rfl⟩
   case measure=>simp [Proofs.intOf]; omega
  ·have hc:=AI.out x n dk wr AS.out hsk hx (Nat.le_refl _)
   rw [show (((x+20:Nat):Int))=(x:Int)+20 by omega]
   go_wp2_with (go_at_fn (ρ.f 29); refine hc.mono ?_; rintro e w1 ⟨rfl,hS1⟩)
   have hT:=zJ hb1 AS.out hS1 (tC _ _ _)
   have hD:uJ lt n 0 d=insertionSort lt dk x n:=by rw [← hO.out,VL n x dk h20]
   rw [← hD] at hT
   have hDs:(uJ lt n 0 d).size=d.size:=by rw [hD,tC,hsk]
   have AT:Aside (SW enc (w.alloc (.cells #[.func (.func g) #[] lb,.func (.func sf) #[] sb] (ρ.t 42))) blk off (uJ lt n 0 d) w1):=hT
   clear hS1 hT hc hD c0 c1
   go_loopw [4] (fun vk wr=>∃ (k:Nat) (dk:Array α),vk= .int .i64 k∧0 < k∧k < 9223372036854775808∧dk.size=d.size∧SW enc (w.alloc (.cells #[.func (.func g) #[] lb,.func (.func sf) #[] sb] (ρ.t 42))) blk off dk wr∧Hid (pw lt n k dk=ql lt n d)) (fun vk _=>n - (Proofs.intOf vk).toNat)
   case atStart=>exact ⟨20,_,by go_num,by omega,by omega,hDs,AT.out,rfl⟩
   case round=>
    obtain ⟨k,dk1,rfl,hk0,hkb,hsk1,hS1,hO1⟩:=hrel
    obtain ⟨c0,c1⟩:=AC.out _ _ hS1
    have AS1:Aside (SW enc (w.alloc (.cells #[.func (.func g) #[] lb,.func (.func sf) #[] sb] (ρ.t 42))) blk off dk1 wr):=hS1
    clear hS1
    by_cases hkn:k < n
    ·go_wp2
     go_loopw [5,6] (fun va vb wr=>∃ (x:Nat) (dk:Array α),va= .int .i64 x∧vb= .int .i64 ((x+2 * k:Nat))∧x ≤ n∧dk.size=d.size∧SW enc (w.alloc (.cells #[.func (.func g) #[] lb,.func (.func sf) #[] sb] (ρ.t 42))) blk off dk wr∧Hid (mrg lt k n x dk=mrg lt k n 0 dk1)) (fun va _ _=>n - (Proofs.intOf va).toNat)
     case atStart=>exact ⟨0,dk1,by go_num,by congr 1; omega,by omega,hsk1,AS1.out,rfl⟩
     case round=>
      obtain ⟨y,dk2,rfl,rfl,hy,hsk2,hS2,hO2⟩:=hrel
      obtain ⟨c0,c1⟩:=AC.out _ _ hS2
      have AS2:Aside (SW enc (w.alloc (.cells #[.func (.func g) #[] lb,.func (.func sf) #[] sb] (ρ.t 42))) blk off dk2 wr):=hS2
      clear hS2
      rw [show (((y+2 * k:Nat):Int))=(y:Int)+2 * k by omega]
      by_cases h2k:y+2 * k ≤ n
      ·have hc:=AY.out y (y+k) (y+2 * k) dk2 wr AS2.out hsk2 (by omega) (by omega) h2k
       rw [show (((y+k:Nat):Int))=(y:Int)+k by omega,show (((y+2 * k:Nat):Int))=(y:Int)+2 * k by omega] at hc
       go_wp2_with (go_at_fn (ρ.f 30); refine hc.mono ?_; rintro e w1 ⟨rfl,hS1⟩)
       go_roundw
       case rel=>exact ⟨y+2 * k,_,by congr 1,by congr 1,h2k,by rw [yf]; exact hsk2,zJ hb1 AS2.out hS1 (yf ..),by rw [← hO2.out,Jp k n y dk2 hk0 h2k]; rfl⟩
       case measure=>simp [Proofs.intOf]; omega
      ·by_cases hkl:y+k < n
       ·have hc:=AY.out y (y+k) n dk2 wr AS2.out hsk2 (by omega) hkl (Nat.le_refl _)
        rw [show (((y+k:Nat):Int))=(y:Int)+k by omega] at hc
        go_wp2_with (go_at_fn (ρ.f 30); refine hc.mono ?_; rintro e w1 ⟨rfl,hS1⟩)
        go_roundw
        case rel=>exact ⟨2 * k,_,by congr 1; omega,by omega,by omega,by rw [yf]; exact hsk2,zJ hb1 AS2.out hS1 (yf ..),by rw [← hO1.out,aF n k dk1 hk0 hkn,← hO2.out,RE k n y dk2 h2k hkl]; rfl⟩
        case measure=>simp [Proofs.intOf]; omega
       ·go_wp2
        go_roundw
        case rel=>exact ⟨2 * k,_,by congr 1; omega,by omega,by omega,hsk2,AS2.out,by rw [← hO1.out,aF n k dk1 hk0 hkn,← hO2.out,MG k n y dk2 h2k hkl]; rfl⟩
        case measure=>simp [Proofs.intOf]; omega
    ·go_wp2
     go_end0
     have e1:ql lt n d=dk1:=by rw [← hO1.out,Uq n k dk1 hkn]
     refine ⟨rfl,?_,by rw [e1]; exact hsk1⟩
     rw [e1]
     exact zJ hblk A0.out AS1.out hsk1
theorem eB (L:LaysGt.n8 P ρ) (t e:TypeId) (i ie:TypeInfo) (hi:P.info? t=some i) (hd:i.desc= .slice e) (hpk:P.packed t=false) (hie:P.info? e=some ie) (ke:Nat) (hke:∀ w,(Extern.Rtype.kind e).run P w= .ok ke w)
  (hs1:ie.size=1) (hagg:∀ w,(isAgg e).run P w= .ok false w) (enc:α→Value) (h1:∀ x,(enc x).oneCell'=true) (lt:α→α→Bool) (g:Nat) (lb:Array Value)
  (eg:∀ args w,(callFunc g args).run P w= .ok (.enter g args) w) (blk off c:Nat) (d:Array α) (h2:2 ≤ d.size) (hsz:d.size < 4611686018427387904)
  (f:Nat) (hf:P.funcs.findIdx? (·.name == "internal/reflectlite"++ ".Swapper$"++toString (swapperK d.size ie ke))=some f)
  (gS:Bool) (hx:∀ args W,(callFunc f args).run P W=((Extern.ReflectliteSwapper.swap gS args).run P W).andThen fun v w'=> .ok (.value v) w')
  (w:World) (hless:LessReads P g lb enc lt blk off d.size w) (hH:Holds enc w blk off d) (hblk:blk < w.heap.size):
  Calls P (ρ.f 8) #[.iface t (.slice (some ⟨blk,off,none⟩) d.size c),.func (.func g) #[] lb] w fun e w'=>
   e= .returned (.tuple #[])∧SW enc w blk off (ql lt d.size d) w'∧(ql lt d.size d).size=d.size:=by
 refine Any.sort_SliceStable_of_stable L t e i ie hi hd hpk hie ke hke _ d.size c hsz f hf (.func g) #[] lb w _ ?_
 have hB:sliceBound P e ie ke (some ⟨blk,off,none⟩) d.size c=#[.slice (some ⟨blk,off,none⟩) d.size c,typeHandle P e]:=by
  unfold sliceBound; rw [if_neg (swapperK_gt _ _ _ h2)]
 have hS:SW enc w blk off d (stableWorld P ρ t (some ⟨blk,off,none⟩) d.size c w):=((SW.start hH).alloc _).alloc _
 rw [hB]
 refine (V7 (P:=P) (ρ:=ρ) { L with } enc lt g lb f _ blk off d.size d _ eg ⟨hS.lessReads hless hblk rfl,swapSwaps_of_literal gS f hx e ie hie hs1 hagg enc h1 blk off d.size c,hS.holds hblk hH rfl,hS.lt hblk,hsz⟩ (Nat.le_refl _)).mono ?_
 rintro e w' ⟨rfl,h3,h4⟩
 exact ⟨rfl,zJ hblk hS h3 h4,h4⟩
#print axioms eB
end Go.Stb
