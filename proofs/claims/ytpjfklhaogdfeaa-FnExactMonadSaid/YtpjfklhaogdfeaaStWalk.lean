/- The library's stable sort, walked: stretches exchanged, rotated, merged. -/
import Derived.Shelf.GgSortMore.Stable
import Derived.Test.YtpjfklhaogdfeaaStPlain
set_option linter.unusedVariables false
set_option linter.unusedSectionVars false
set_option linter.unusedSimpArgs false
namespace Go.Stb
open Go.Proofs Go.Shelf Go.RowKit Go.Lib Go.Sort
variable {P:Program} {ρ:Ren} {α:Type} [Inhabited α]
theorem zJ {enc:α→Value} {w0 w1 w2:World} {blk off:Nat} {d1 d2:Array α} (hblk:blk < w0.heap.size) (h1:SW enc w0 blk off d1 w1) (h2:SW enc w1 blk off d2 w2) (hs:d2.size=d1.size):SW enc w0 blk off d2 w2:=by
 obtain ⟨m,os,rfl⟩:=h2
 exact h1.on hblk m d2 os hs
theorem wj {enc:α→Value} {w0 w1:World} {blk off:Nat} {d1:Array α} (h:SW enc w0 blk off d1 w1) {b k:Nat} (hb:b < w0.heap.size) (hne:b ≠ blk):w1.cell? ⟨b,k,none⟩=w0.cell? ⟨b,k,none⟩:=by
 obtain ⟨m,os,rfl⟩:=h
 unfold sortWorld
 rw [cell?_grow _ _ _ (by rw [Go.Sort.size_putRow]; exact hb),cell?_putRow_other enc _ blk off _ _ (Or.inl hne)]
 rfl
theorem Jz (a b n i:Nat) (d:Array α) (h:i < n):swr a b n i d=swr a b n (i+1) (swp d (a+i) (b+i)):=by rw [swr,if_pos h]
theorem R2 (a b n i:Nat) (d:Array α) (h:¬ i < n):swr a b n i d=d:=by rw [swr,if_neg h]
set_option maxHeartbeats 2000000 in
set_option maxRecDepth 100000 in
theorem Rq (L:LaysGt.n49 P ρ) (enc:α→Value) (lf:Fn) (la lb:Array Value) (sf:Nat) (sb:Array Value) (blk off a b n:Nat) (d:Array α) (w:World)
  (hswap:SwapSwaps P sf sb enc blk off d.size) (hH:Holds enc w blk off d) (hblk:blk < w.heap.size) (ha:a+n ≤ d.size) (hb:b+n ≤ d.size) (hsz:d.size < 4611686018427387904):
  Calls P (ρ.f 49) #[.agg #[.func lf la lb,.func (.func sf) #[] sb],.int .i64 a,.int .i64 b,.int .i64 n] w fun e w'=>e= .returned (.tuple #[])∧SW enc w blk off (swr a b n 0 d) w':=by
 have mixed:=L.mixed; have t0:=L.t0; have a0:=L.a0; have z0:=L.z0; have v0:=L.v0; have t3:=L.t3; have a3:=L.a3; have z3:=L.z3; have v3:=L.v3; have t4:=L.t4; have a4:=L.a4; have z4:=L.z4; have v4:=L.v4; have t38:=L.t38; have a38:=L.a38; have z38:=L.z38; have v38:=L.v38; have t42:=L.t42; have a42:=L.a42; have z42:=L.z42; have v42:=L.v42
 have u42:=run_underlying L.t42
 have s0:SW enc w blk off d (w.alloc (.cells #[.func lf la lb,.func (.func sf) #[] sb] (ρ.t 42))):=(SW.start hH).alloc _
 have s1:SW enc (w.alloc (.cells #[.func lf la lb,.func (.func sf) #[] sb] (ρ.t 42))) blk off d (w.alloc (.cells #[.func lf la lb,.func (.func sf) #[] sb] (ρ.t 42))):=SW.start (s0.holds hblk hH rfl)
 have hb1:blk < (w.alloc (.cells #[.func lf la lb,.func (.func sf) #[] sb] (ρ.t 42))).heap.size:=s0.lt hblk
 have hH1:=s0.holds hblk hH rfl
 have A0:Aside (SW enc w blk off d (w.alloc (.cells #[.func lf la lb,.func (.func sf) #[] sb] (ρ.t 42)))):=s0
 have cB:(w.alloc (.cells #[.func lf la lb,.func (.func sf) #[] sb] (ρ.t 42))).cell? ⟨w.heap.size,1,none⟩=some (.func (.func sf) #[] sb):=by simp
 have zB:w.heap.size < (w.alloc (.cells #[.func lf la lb,.func (.func sf) #[] sb] (ρ.t 42))).heap.size:=by simp
 clear s0
 go_enter L.f49,BodyGt.n49_ntmps ρ
 go_wp2
 go_loopw [8] (fun vi wr=>∃ (i:Nat) (dk:Array α),vi= .int .i64 i∧i ≤ n∧dk.size=d.size∧SW enc (w.alloc (.cells #[.func lf la lb,.func (.func sf) #[] sb] (ρ.t 42))) blk off dk wr∧Hid (swr a b n i dk=swr a b n 0 d)) (fun vi _=>n - (Proofs.intOf vi).toNat)
 case atStart=>exact ⟨0,d,by go_num,Nat.zero_le _,rfl,s1,rfl⟩
 case round=>
  obtain ⟨i,dk,rfl,hi,hsk,hS,hO⟩:=hrel
  have c1:wr.cell? ⟨w.heap.size,1,none⟩=some (.func (.func sf) #[] sb):=(wj hS zB (by omega)).trans cB
  by_cases hlt:i < n
  ·have hs:=hswap wr dk (hS.holds hb1 hH1 hsk) hsk (a+i) (b+i) (by omega) (by omega)
   have hS2:=hS.swap hb1 (a+i) (b+i) (by omega) (by omega)
   have A1:Aside (SW enc (w.alloc (.cells #[.func lf la lb,.func (.func sf) #[] sb] (ρ.t 42))) blk off dk wr):=hS
   have A2:Aside (SW enc (w.alloc (.cells #[.func lf la lb,.func (.func sf) #[] sb] (ρ.t 42))) blk off _ _):=hS2
   clear hS hS2 s1
   go_wp2
   rw [show (((a+i:Nat):Int))=(a:Int)+i by omega,show (((b+i:Nat):Int))=(b:Int)+i by omega] at hs
   rw [hs,Oper.upon_value]
   go_wp2
   go_roundw
   case rel=>exact ⟨i+1,swp dk (a+i) (b+i),by go_num,by omega,by rw [size_swp]; exact hsk,A2.out,by rw [← hO.out,Jz _ _ _ i dk hlt]; rfl⟩
   case measure=>simp [Proofs.intOf]; omega
  ·go_wp2
   go_end0
   refine ⟨rfl,?_⟩
   rw [← hO.out,R2 _ _ _ _ _ hlt]
   exact zJ hblk A0.out hS hsk
theorem Ih (m i j:Nat) (d:Array α) (h:i=j):rot m i j d=swr (m - i) m i 0 d:=by rw [rot,if_pos h]
theorem KL (m i j:Nat) (d:Array α) (h:j < i) (h0:0 < j):rot m i j d=rot m (i - j) j (swr (m - i) m j 0 d):=by rw [rot,if_neg (by omega),dif_pos (by omega),if_pos h]
theorem Jm (m i j:Nat) (d:Array α) (h:i < j) (h0:0 < i):rot m i j d=rot m i (j - i) (swr (m - i) (m+j - i) i 0 d):=by rw [rot,if_neg (by omega),dif_pos (by omega),if_neg (by omega)]
set_option maxHeartbeats 2000000 in
set_option maxRecDepth 100000 in
theorem U6 (L:LaysGt.n42 P ρ) (enc:α→Value) (lf:Fn) (la lb:Array Value) (sf:Nat) (sb:Array Value) (blk off a m b:Nat) (d:Array α) (w:World)
  (hswap:SwapSwaps P sf sb enc blk off d.size) (hH:Holds enc w blk off d) (hblk:blk < w.heap.size) (ha:a < m) (hm:m < b) (hb:b ≤ d.size) (hsz:d.size < 4611686018427387904):
  Calls P (ρ.f 42) #[.agg #[.func lf la lb,.func (.func sf) #[] sb],.int .i64 a,.int .i64 m,.int .i64 b] w fun e w'=>e= .returned (.tuple #[])∧SW enc w blk off (rot m (m - a) (b - m) d) w':=by
 have mixed:=L.mixed; have t0:=L.t0; have a0:=L.a0; have z0:=L.z0; have v0:=L.v0; have t3:=L.t3; have a3:=L.a3; have z3:=L.z3; have v3:=L.v3; have t4:=L.t4; have a4:=L.a4; have z4:=L.z4; have v4:=L.v4; have t38:=L.t38; have a38:=L.a38; have z38:=L.z38; have v38:=L.v38; have t42:=L.t42; have a42:=L.a42; have z42:=L.z42; have v42:=L.v42
 have u42:=run_underlying L.t42
 have e49:∀ args w,(callFunc (ρ.f 49) args).run P w= .ok (.enter (ρ.f 49) args) w:=enters_of L.f49 (by kernel_rfl) rfl
 have s0:SW enc w blk off d (w.alloc (.cells #[.func lf la lb,.func (.func sf) #[] sb] (ρ.t 42))):=(SW.start hH).alloc _
 have s1:SW enc (w.alloc (.cells #[.func lf la lb,.func (.func sf) #[] sb] (ρ.t 42))) blk off d (w.alloc (.cells #[.func lf la lb,.func (.func sf) #[] sb] (ρ.t 42))):=SW.start (s0.holds hblk hH rfl)
 have hb1:blk < (w.alloc (.cells #[.func lf la lb,.func (.func sf) #[] sb] (ρ.t 42))).heap.size:=s0.lt hblk
 have hH1:=s0.holds hblk hH rfl
 have A0:Aside (SW enc w blk off d (w.alloc (.cells #[.func lf la lb,.func (.func sf) #[] sb] (ρ.t 42)))):=s0
 have cB0:(w.alloc (.cells #[.func lf la lb,.func (.func sf) #[] sb] (ρ.t 42))).cell? ⟨w.heap.size,0,none⟩=some (.func lf la lb):=by simp
 have cB1:(w.alloc (.cells #[.func lf la lb,.func (.func sf) #[] sb] (ρ.t 42))).cell? ⟨w.heap.size,1,none⟩=some (.func (.func sf) #[] sb):=by simp
 have zB:w.heap.size < (w.alloc (.cells #[.func lf la lb,.func (.func sf) #[] sb] (ρ.t 42))).heap.size:=by simp
 clear s0
 go_enter L.f42,BodyGt.n42_ntmps ρ
 go_wp2
 go_loopw [8,9] (fun vi vj wr=>∃ (i j:Nat) (dk:Array α),vi= .int .i64 i∧vj= .int .i64 j∧0 < i∧0 < j∧i ≤ m∧m+j ≤ d.size∧dk.size=d.size∧SW enc (w.alloc (.cells #[.func lf la lb,.func (.func sf) #[] sb] (ρ.t 42))) blk off dk wr∧Hid (rot m i j dk=rot m (m - a) (b - m) d))
  (fun vi vj _=>(Proofs.intOf vi).toNat+(Proofs.intOf vj).toNat)
 case atStart=>exact ⟨m - a,b - m,d,by congr 1; omega,by congr 1; omega,by omega,by omega,by omega,by omega,rfl,s1,rfl⟩
 case round=>
  obtain ⟨i,j,dk,rfl,rfl,hi,hj,him,hmj,hsk,hS,hO⟩:=hrel
  have c0:wr.cell? ⟨w.heap.size,0,none⟩=some (.func lf la lb):=(wj hS zB (by omega)).trans cB0
  have c1:wr.cell? ⟨w.heap.size,1,none⟩=some (.func (.func sf) #[] sb):=(wj hS zB (by omega)).trans cB1
  have hHr:=hS.holds hb1 hH1 hsk
  have hc:∀ x y n:Nat,x+n ≤ d.size→y+n ≤ d.size→Calls P (ρ.f 49) #[.agg #[.func lf la lb,.func (.func sf) #[] sb],.int .i64 x,.int .i64 y,.int .i64 n] wr fun e w'=>e= .returned (.tuple #[])∧SW enc wr blk off (swr x y n 0 dk) w':=
   fun x y n h1 h2=>Rq { L with } enc lf la lb sf sb blk off x y n dk wr (by rw [hsk]; exact hswap) hHr (hS.lt hb1) (by omega) (by omega) (by omega)
  have AS:Aside (SW enc (w.alloc (.cells #[.func lf la lb,.func (.func sf) #[] sb] (ρ.t 42))) blk off dk wr):=hS
  have hbr:blk < (w.alloc (.cells #[.func lf la lb,.func (.func sf) #[] sb] (ρ.t 42))).heap.size:=hb1
  clear hS s1 hHr
  by_cases he:i=j
  ·subst he
   have hc1:=hc (m - i) m i (by omega) (by omega)
   rw [show (((m - i:Nat):Int))=(m:Int) - i by omega] at hc1
   go_wp2_with (go_at_fn (ρ.f 49); refine hc1.mono ?_; rintro e w1 ⟨rfl,hS1⟩)
   go_end0
   refine ⟨rfl,?_⟩
   rw [← hO.out,Ih _ _ _ _ rfl]
   exact zJ hblk A0.out (zJ hb1 AS.out hS1 (by rw [w6])) (by rw [w6]; exact hsk)
  ·by_cases hlt:j < i
   ·have hc1:=hc (m - i) m j (by omega) (by omega)
    rw [show (((m - i:Nat):Int))=(m:Int) - i by omega] at hc1
    go_wp2_with (go_at_fn (ρ.f 49); refine hc1.mono ?_; rintro e w1 ⟨rfl,hS1⟩)
    go_roundw
    case rel=>exact ⟨i - j,j,swr (m - i) m j 0 dk,by congr 1; omega,rfl,by omega,hj,by omega,hmj,by rw [w6]; exact hsk,zJ hbr AS.out hS1 (by rw [w6]),by rw [← hO.out,KL _ _ _ _ hlt hj]; rfl⟩
    case measure=>simp [Proofs.intOf]; omega
   ·have hc1:=hc (m - i) (m+j - i) i (by omega) (by omega)
    rw [show (((m - i:Nat):Int))=(m:Int) - i by omega,show (((m+j - i:Nat):Int))=(m:Int)+j - i by omega] at hc1
    go_wp2_with (go_at_fn (ρ.f 49); refine hc1.mono ?_; rintro e w1 ⟨rfl,hS1⟩)
    go_roundw
    case rel=>exact ⟨i,j - i,swr (m - i) (m+j - i) i 0 dk,rfl,by congr 1; omega,hi,by omega,him,by omega,by rw [w6]; exact hsk,zJ hbr AS.out hS1 (by rw [w6]),by rw [← hO.out,Jm m i j dk (by omega) hi]; rfl⟩
    case measure=>simp [Proofs.intOf]; omega
theorem cO (p:Nat→Bool) (i j:Nat) (h:i < j) (hp:p ((i+j) / 2)=true):bs p i j=bs p ((i+j) / 2+1) j:=by rw [bs,if_pos h,if_pos hp]
theorem fF (p:Nat→Bool) (i j:Nat) (h:i < j) (hp:p ((i+j) / 2)=false):bs p i j=bs p i ((i+j) / 2):=by rw [bs,if_pos h,if_neg (by rw [hp]; simp)]
theorem cN (p:Nat→Bool) (i j:Nat) (h:¬ i < j):bs p i j=i:=by rw [bs,if_neg h]
theorem I3 (hi k:Nat) (d:Array α) (h:k+1 < hi):up hi k d=up hi (k+1) (swp d k (k+1)):=by rw [up,if_pos h]
theorem KQ (hi k:Nat) (d:Array α) (h:¬ k+1 < hi):up hi k d=d:=by rw [up,if_neg h]
theorem Nj (lo k:Nat) (d:Array α) (h:lo < k):pL lo k d=pL lo (k - 1) (swp d k (k - 1)):=by rw [pL,if_pos h]
theorem Of (lo k:Nat) (d:Array α) (h:¬ lo < k):pL lo k d=d:=by rw [pL,if_neg h]
structure Pre (P:Program) (enc:α→Value) (lt:α→α→Bool) (g:Nat) (lb:Array Value) (sf:Nat) (sb:Array Value) (blk off:Nat) (d:Array α) (w:World):Prop where
 less:LessReads P g lb enc lt blk off d.size w
 swap:SwapSwaps P sf sb enc blk off d.size
 holds:Holds enc w blk off d
 blk:blk < w.heap.size
 small:d.size < 4611686018427387904
theorem Pre.sw {P:Program} {enc:α→Value} {lt:α→α→Bool} {g:Nat} {lb:Array Value} {sf:Nat} {sb:Array Value} {blk off:Nat} {d:Array α} {w:World} (h:Pre P enc lt g lb sf sb blk off d w) {d':Array α} {w':World} (hS:SW enc w blk off d' w') (hs:d'.size=d.size):Pre P enc lt g lb sf sb blk off d' w':=
 ⟨by rw [hs]; exact hS.lessReads h.less h.blk hs,by rw [hs]; exact h.swap,hS.holds h.blk h.holds hs,hS.lt h.blk,by rw [hs]; exact h.small⟩
set_option maxHeartbeats 4000000 in
set_option maxRecDepth 100000 in
theorem Fv (L:LaysGt.n30 P ρ) (enc:α→Value) (lt:α→α→Bool) (g:Nat) (lb:Array Value) (sf:Nat) (sb:Array Value) (blk off a m b:Nat) (d:Array α) (w:World)
  (eg:∀ args w,(callFunc g args).run P w= .ok (.enter g args) w) (pre:Pre P enc lt g lb sf sb blk off d w) (hma:a < m∧m ≤ a+1) (hm:m < b) (hb:b ≤ d.size):
  Calls P (ρ.f 30) #[.agg #[.func (.func g) #[] lb,.func (.func sf) #[] sb],.int .i64 a,.int .i64 m,.int .i64 b] w fun e w'=>e= .returned (.tuple #[])∧SW enc w blk off (up (bs (fun h=>lt d[h]! d[a]!) m b) a d) w':=by
 have mixed:=L.mixed; have t0:=L.t0; have a0:=L.a0; have z0:=L.z0; have v0:=L.v0; have t3:=L.t3; have a3:=L.a3; have z3:=L.z3; have v3:=L.v3; have t4:=L.t4; have a4:=L.a4; have z4:=L.z4; have v4:=L.v4; have t26:=L.t26; have a26:=L.a26; have z26:=L.z26; have v26:=L.v26; have t38:=L.t38; have a38:=L.a38; have z38:=L.z38; have v38:=L.v38; have t42:=L.t42; have a42:=L.a42; have z42:=L.z42; have v42:=L.v42; have t47:=L.t47; have a47:=L.a47; have z47:=L.z47; have v47:=L.v47
 have u42:=run_underlying L.t42
 have s0:SW enc w blk off d (w.alloc (.cells #[.func (.func g) #[] lb,.func (.func sf) #[] sb] (ρ.t 42))):=(SW.start pre.holds).alloc _
 have pre1:=pre.sw s0 rfl
 have s1:=SW.start pre1.holds
 have A0:Aside (SW enc w blk off d (w.alloc (.cells #[.func (.func g) #[] lb,.func (.func sf) #[] sb] (ρ.t 42)))):=s0
 have hblk:=pre.blk
 have hb1:=pre1.blk
 have hsz:=pre1.small
 have cB0:(w.alloc (.cells #[.func (.func g) #[] lb,.func (.func sf) #[] sb] (ρ.t 42))).cell? ⟨w.heap.size,0,none⟩=some (.func (.func g) #[] lb):=by simp
 have cB1:(w.alloc (.cells #[.func (.func g) #[] lb,.func (.func sf) #[] sb] (ρ.t 42))).cell? ⟨w.heap.size,1,none⟩=some (.func (.func sf) #[] sb):=by simp
 have zB:w.heap.size < (w.alloc (.cells #[.func (.func g) #[] lb,.func (.func sf) #[] sb] (ρ.t 42))).heap.size:=by simp
 have AP:Aside (Pre P enc lt g lb sf sb blk off d (w.alloc (.cells #[.func (.func g) #[] lb,.func (.func sf) #[] sb] (ρ.t 42)))):=pre1
 have hd:((m:Int) - (a:Int) == 1)=true:=by simp; omega
 clear s0 pre pre1
 go_enter L.f30,BodyGt.n30_ntmps ρ
 go_wp2
 go_loopw [8,9] (fun vi vj wr=>∃ (i j:Nat),vi= .int .i64 i∧vj= .int .i64 j∧m ≤ i∧i ≤ j∧j ≤ b∧SW enc (w.alloc (.cells #[.func (.func g) #[] lb,.func (.func sf) #[] sb] (ρ.t 42))) blk off d wr∧Hid (bs (fun h=>lt d[h]! d[a]!) i j=bs (fun h=>lt d[h]! d[a]!) m b))
  (fun vi vj _=>(Proofs.intOf vj).toNat - (Proofs.intOf vi).toNat)
 case atStart=>exact ⟨m,b,rfl,rfl,by omega,by omega,by omega,s1,rfl⟩
 case round=>
  obtain ⟨i,j,rfl,rfl,hi,hij,hj,hS,hO⟩:=hrel
  have c0:wr.cell? ⟨w.heap.size,0,none⟩=some (.func (.func g) #[] lb):=(wj hS zB (by omega)).trans cB0
  by_cases hlt:i < j
  ·have hl:=hS.less AP.out.less rfl ((i+j) / 2) a (by omega) (by omega)
   rw [show ((((i+j) / 2:Nat):Int))=((i:Int)+j) / 2 by omega] at hl
   have AS:Aside (SW enc (w.alloc (.cells #[.func (.func g) #[] lb,.func (.func sf) #[] sb] (ρ.t 42))) blk off d wr):=hS
   clear hS s1
   cases hlv:lt d[(i+j) / 2]! d[a]! with
   | true=>
     rw [hlv] at hl
     go_wp2_with (go_at_fn g; refine hl.mono ?_; rintro e w' ⟨rfl,q,rfl⟩)
     go_roundw
     case rel=>exact ⟨(i+j) / 2+1,j,by congr 1,rfl,by omega,by omega,hj,AS.out.drewN q,by rw [← hO.out,cO _ i j hlt hlv]; rfl⟩
     case measure=>simp [Proofs.intOf]; omega
   | false=>
     rw [hlv] at hl
     go_wp2_with (go_at_fn g; refine hl.mono ?_; rintro e w' ⟨rfl,q,rfl⟩)
     go_roundw
     case rel=>exact ⟨i,(i+j) / 2,rfl,by congr 1,by omega,by omega,by omega,AS.out.drewN q,by rw [← hO.out,fF _ i j hlt hlv]; rfl⟩
     case measure=>simp [Proofs.intOf]; omega
  ·have hbi:bs (fun h=>lt d[h]! d[a]!) m b=i:=by rw [← hO.out,cN _ _ _ hlt]
   have AS:Aside (SW enc (w.alloc (.cells #[.func (.func g) #[] lb,.func (.func sf) #[] sb] (ρ.t 42))) blk off d wr):=hS
   go_wp2
   go_loopw [11] (fun vk w2=>∃ (k:Nat) (dk:Array α),vk= .int .i64 k∧a ≤ k∧k < i∧dk.size=d.size∧SW enc (w.alloc (.cells #[.func (.func g) #[] lb,.func (.func sf) #[] sb] (ρ.t 42))) blk off dk w2∧Hid (up i k dk=up i a d)) (fun vk _=>i - (Proofs.intOf vk).toNat)
   case atStart=>exact ⟨a,d,rfl,Nat.le_refl _,by omega,rfl,AS.out,rfl⟩
   case round=>
    obtain ⟨k,dk,rfl,hk,hki,hsk,hS2,hO2⟩:=hrel
    have c1:wr.cell? ⟨w.heap.size,1,none⟩=some (.func (.func sf) #[] sb):=(wj hS2 zB (by omega)).trans cB1
    by_cases hk1:k+1 < i
    ·have hs:=AP.out.swap wr dk (hS2.holds hb1 AP.out.holds hsk) hsk k (k+1) (by omega) (by omega)
     have hS3:=hS2.swap hb1 k (k+1) (by omega) (by omega)
     have A2:Aside (SW enc (w.alloc (.cells #[.func (.func g) #[] lb,.func (.func sf) #[] sb] (ρ.t 42))) blk off _ _):=hS3
     rw [show (((k+1:Nat):Int))=(k:Int)+1 by omega] at hs
     clear hS hS2 hS3 s1
     go_wp2
     go_roundw
     case rel=>exact ⟨k+1,swp dk k (k+1),by go_num,by omega,hk1,by rw [size_swp]; exact hsk,A2.out,by rw [← hO2.out,I3 _ _ _ hk1]; rfl⟩
     case measure=>simp [Proofs.intOf]; omega
    ·clear hS s1
     go_wp2
     (try simp only [Exit.inBlock,Exit.then])
     refine bodyPost_ret (results_none rfl _ _ _) rfl ?_
     refine ⟨rfl,?_⟩
     rw [hbi,← hO2.out,KQ _ _ _ hk1]
     exact zJ hblk A0.out hS2 hsk
set_option maxHeartbeats 4000000 in
set_option maxRecDepth 100000 in
theorem Fk (L:LaysGt.n30 P ρ) (enc:α→Value) (lt:α→α→Bool) (g:Nat) (lb:Array Value) (sf:Nat) (sb:Array Value) (blk off a m b:Nat) (d:Array α) (w:World)
  (eg:∀ args w,(callFunc g args).run P w= .ok (.enter g args) w) (pre:Pre P enc lt g lb sf sb blk off d w) (hma:a+1 < m) (hm:m < b∧b ≤ m+1) (hb:b ≤ d.size):
  Calls P (ρ.f 30) #[.agg #[.func (.func g) #[] lb,.func (.func sf) #[] sb],.int .i64 a,.int .i64 m,.int .i64 b] w fun e w'=>e= .returned (.tuple #[])∧SW enc w blk off (pL (bs (fun h=>!lt d[m]! d[h]!) a m) m d) w':=by
 have mixed:=L.mixed; have t0:=L.t0; have a0:=L.a0; have z0:=L.z0; have v0:=L.v0; have t3:=L.t3; have a3:=L.a3; have z3:=L.z3; have v3:=L.v3; have t4:=L.t4; have a4:=L.a4; have z4:=L.z4; have v4:=L.v4; have t26:=L.t26; have a26:=L.a26; have z26:=L.z26; have v26:=L.v26; have t38:=L.t38; have a38:=L.a38; have z38:=L.z38; have v38:=L.v38; have t42:=L.t42; have a42:=L.a42; have z42:=L.z42; have v42:=L.v42; have t47:=L.t47; have a47:=L.a47; have z47:=L.z47; have v47:=L.v47
 have u42:=run_underlying L.t42
 have s0:SW enc w blk off d (w.alloc (.cells #[.func (.func g) #[] lb,.func (.func sf) #[] sb] (ρ.t 42))):=(SW.start pre.holds).alloc _
 have pre1:=pre.sw s0 rfl
 have s1:=SW.start pre1.holds
 have A0:Aside (SW enc w blk off d (w.alloc (.cells #[.func (.func g) #[] lb,.func (.func sf) #[] sb] (ρ.t 42)))):=s0
 have hblk:=pre.blk
 have hb1:=pre1.blk
 have hsz:=pre1.small
 have cB0:(w.alloc (.cells #[.func (.func g) #[] lb,.func (.func sf) #[] sb] (ρ.t 42))).cell? ⟨w.heap.size,0,none⟩=some (.func (.func g) #[] lb):=by simp
 have cB1:(w.alloc (.cells #[.func (.func g) #[] lb,.func (.func sf) #[] sb] (ρ.t 42))).cell? ⟨w.heap.size,1,none⟩=some (.func (.func sf) #[] sb):=by simp
 have zB:w.heap.size < (w.alloc (.cells #[.func (.func g) #[] lb,.func (.func sf) #[] sb] (ρ.t 42))).heap.size:=by simp
 have AP:Aside (Pre P enc lt g lb sf sb blk off d (w.alloc (.cells #[.func (.func g) #[] lb,.func (.func sf) #[] sb] (ρ.t 42)))):=pre1
 have hd:((m:Int) - (a:Int) == 1)=false:=by simp; omega
 have hd2:((b:Int) - (m:Int) == 1)=true:=by simp; omega
 clear s0 pre pre1
 go_enter L.f30,BodyGt.n30_ntmps ρ
 go_wp2
 go_loopw [12,13] (fun vi vj wr=>∃ (i j:Nat),vi= .int .i64 i∧vj= .int .i64 j∧a ≤ i∧i ≤ j∧j ≤ m∧SW enc (w.alloc (.cells #[.func (.func g) #[] lb,.func (.func sf) #[] sb] (ρ.t 42))) blk off d wr∧Hid (bs (fun h=>!lt d[m]! d[h]!) i j=bs (fun h=>!lt d[m]! d[h]!) a m))
  (fun vi vj _=>(Proofs.intOf vj).toNat - (Proofs.intOf vi).toNat)
 case atStart=>exact ⟨a,m,rfl,rfl,by omega,by omega,by omega,s1,rfl⟩
 case round=>
  obtain ⟨i,j,rfl,rfl,hi,hij,hj,hS,hO⟩:=hrel
  have c0:wr.cell? ⟨w.heap.size,0,none⟩=some (.func (.func g) #[] lb):=(wj hS zB (by omega)).trans cB0
  by_cases hlt:i < j
  ·have hl:=hS.less AP.out.less rfl m ((i+j) / 2) (by omega) (by omega)
   rw [show ((((i+j) / 2:Nat):Int))=((i:Int)+j) / 2 by omega] at hl
   have AS:Aside (SW enc (w.alloc (.cells #[.func (.func g) #[] lb,.func (.func sf) #[] sb] (ρ.t 42))) blk off d wr):=hS
   clear hS s1
   cases hlv:lt d[m]! d[(i+j) / 2]! with
   | false=>
     rw [hlv] at hl
     go_wp2_with (go_at_fn g; refine hl.mono ?_; rintro e w' ⟨rfl,q,rfl⟩)
     go_roundw
     case rel=>exact ⟨(i+j) / 2+1,j,by congr 1,rfl,by omega,by omega,hj,AS.out.drewN q,by rw [← hO.out,cO _ i j hlt (by simp only [hlv]; rfl)]; rfl⟩
     case measure=>simp [Proofs.intOf]; omega
   | true=>
     rw [hlv] at hl
     go_wp2_with (go_at_fn g; refine hl.mono ?_; rintro e w' ⟨rfl,q,rfl⟩)
     go_roundw
     case rel=>exact ⟨i,(i+j) / 2,rfl,by congr 1,by omega,by omega,by omega,AS.out.drewN q,by rw [← hO.out,fF _ i j hlt (by simp only [hlv]; rfl)]; rfl⟩
     case measure=>simp [Proofs.intOf]; omega
  ·have hbi:bs (fun h=>!lt d[m]! d[h]!) a m=i:=by rw [← hO.out,cN _ _ _ hlt]
   have AS:Aside (SW enc (w.alloc (.cells #[.func (.func g) #[] lb,.func (.func sf) #[] sb] (ρ.t 42))) blk off d wr):=hS
   go_wp2
   go_loopw [15] (fun vk w2=>∃ (k:Nat) (dk:Array α),vk= .int .i64 k∧i ≤ k∧k ≤ m∧dk.size=d.size∧SW enc (w.alloc (.cells #[.func (.func g) #[] lb,.func (.func sf) #[] sb] (ρ.t 42))) blk off dk w2∧Hid (pL i k dk=pL i m d)) (fun vk _=>(Proofs.intOf vk).toNat)
   case atStart=>exact ⟨m,d,rfl,by omega,Nat.le_refl _,rfl,AS.out,rfl⟩
   case round=>
    obtain ⟨k,dk,rfl,hk,hki,hsk,hS2,hO2⟩:=hrel
    have c1:wr.cell? ⟨w.heap.size,1,none⟩=some (.func (.func sf) #[] sb):=(wj hS2 zB (by omega)).trans cB1
    by_cases hk1:i < k
    ·have hs:=AP.out.swap wr dk (hS2.holds hb1 AP.out.holds hsk) hsk k (k - 1) (by omega) (by omega)
     have hS3:=hS2.swap hb1 k (k - 1) (by omega) (by omega)
     have A2:Aside (SW enc (w.alloc (.cells #[.func (.func g) #[] lb,.func (.func sf) #[] sb] (ρ.t 42))) blk off _ _):=hS3
     rw [show (((k - 1:Nat):Int))=(k:Int) - 1 by omega] at hs
     clear hS hS2 hS3 s1
     go_wp2
     go_roundw
     case rel=>exact ⟨k - 1,swp dk k (k - 1),by congr 1; omega,by omega,by omega,by rw [size_swp]; exact hsk,A2.out,by rw [← hO2.out,Nj _ _ _ hk1]; rfl⟩
     case measure=>simp [Proofs.intOf]; omega
    ·clear hS s1
     go_wp2
     (try simp only [Exit.inBlock,Exit.then])
     refine bodyPost_ret (results_none rfl _ _ _) rfl ?_
     refine ⟨rfl,?_⟩
     rw [hbi,← hO2.out,Of _ _ _ hk1]
     exact zJ hblk A0.out hS2 hsk
theorem tY {lt:α→α→Bool} (f a m b:Nat) (d:Array α) (n1:¬ m - a=1) (n2:¬ b - m=1) (s:Nat) (hs:start lt a m b d=s):sym lt (f+1) a m b d=
  (if (a+b) / 2 < (a+b) / 2+m - s∧(a+b) / 2+m - s < b then sym lt f ((a+b) / 2) ((a+b) / 2+m - s) b
    (if a < s∧s < (a+b) / 2 then sym lt f a s ((a+b) / 2) (if s < m∧m < (a+b) / 2+m - s then rot m (m - s) ((a+b) / 2+m - s - m) d else d) else (if s < m∧m < (a+b) / 2+m - s then rot m (m - s) ((a+b) / 2+m - s - m) d else d))
  else (if a < s∧s < (a+b) / 2 then sym lt f a s ((a+b) / 2) (if s < m∧m < (a+b) / 2+m - s then rot m (m - s) ((a+b) / 2+m - s - m) d else d) else (if s < m∧m < (a+b) / 2+m - s then rot m (m - s) ((a+b) / 2+m - s - m) d else d))):=by
 rw [sym,if_neg n1,if_neg n2,hs]
theorem yf {lt:α→α→Bool}:∀ (f a m b:Nat) (d:Array α),(sym lt f a m b d).size=d.size:=by
 have u:∀ (hi:Nat) (n k:Nat) (d:Array α),hi - k=n→(up hi k d).size=d.size:=by
  intro hi n
  induction n with
  | zero=>intro k d h; rw [up,if_neg (by omega)]
  | succ n ih=>
    intro k d h
    rw [up]
    split
    ·rw [ih _ _ (by omega),swp_size]
    ·rfl
 have dn:∀ (lo:Nat) (n k:Nat) (d:Array α),k - lo=n→(pL lo k d).size=d.size:=by
  intro lo n
  induction n with
  | zero=>intro k d h; rw [pL,if_neg (by omega)]
  | succ n ih=>
    intro k d h
    rw [pL]
    split
    ·rw [ih _ _ (by omega),swp_size]
    ·rfl
 intro f
 induction f with
 | zero=>intro a m b d; rfl
 | succ f ih=>
   intro a m b d
   rw [sym]
   repeat' split
   all_goals simp only [u _ _ _ _ rfl,dn _ _ _ _ rfl,ih,yL _ _ _ _ _ (Nat.le_refl _)]
   all_goals (repeat' split)
   all_goals simp only [u _ _ _ _ rfl,dn _ _ _ _ rfl,ih,yL _ _ _ _ _ (Nat.le_refl _)]
set_option maxHeartbeats 8000000 in
set_option maxRecDepth 100000 in
theorem Hb (L:LaysGt.n30 P ρ) (enc:α→Value) (lt:α→α→Bool) (g:Nat) (lb:Array Value) (sf:Nat) (sb:Array Value) (blk off f a m b:Nat) (d:Array α) (w:World)
  (eg:∀ args w,(callFunc g args).run P w= .ok (.enter g args) w) (pre:Pre P enc lt g lb sf sb blk off d w) (hma:a+1 < m) (hm:m+1 < b) (hb:b ≤ d.size) (hside:(a+b) / 2 < m)
  (rec:∀ (a' m' b':Nat) (d':Array α) (w':World),Pre P enc lt g lb sf sb blk off d' w'→a' < m'→m' < b'→b' ≤ d'.size→b' - a' < b - a→
    Calls P (ρ.f 30) #[.agg #[.func (.func g) #[] lb,.func (.func sf) #[] sb],.int .i64 a',.int .i64 m',.int .i64 b'] w' fun e w''=>e= .returned (.tuple #[])∧SW enc w' blk off (sym lt f a' m' b' d') w''):
  Calls P (ρ.f 30) #[.agg #[.func (.func g) #[] lb,.func (.func sf) #[] sb],.int .i64 a,.int .i64 m,.int .i64 b] w fun e w'=>e= .returned (.tuple #[])∧SW enc w blk off (sym lt (f+1) a m b d) w':=by
 have mixed:=L.mixed; have t0:=L.t0; have a0:=L.a0; have z0:=L.z0; have v0:=L.v0; have t3:=L.t3; have a3:=L.a3; have z3:=L.z3; have v3:=L.v3; have t4:=L.t4; have a4:=L.a4; have z4:=L.z4; have v4:=L.v4; have t26:=L.t26; have a26:=L.a26; have z26:=L.z26; have v26:=L.v26; have t38:=L.t38; have a38:=L.a38; have z38:=L.z38; have v38:=L.v38; have t42:=L.t42; have a42:=L.a42; have z42:=L.z42; have v42:=L.v42; have t47:=L.t47; have a47:=L.a47; have z47:=L.z47; have v47:=L.v47
 have u42:=run_underlying L.t42
 have e30:∀ args w,(callFunc (ρ.f 30) args).run P w= .ok (.enter (ρ.f 30) args) w:=enters_of L.f30 (by kernel_rfl) rfl
 have e42:∀ args w,(callFunc (ρ.f 42) args).run P w= .ok (.enter (ρ.f 42) args) w:=enters_of L.f42 (by kernel_rfl) rfl
 have s0:SW enc w blk off d (w.alloc (.cells #[.func (.func g) #[] lb,.func (.func sf) #[] sb] (ρ.t 42))):=(SW.start pre.holds).alloc _
 have pre1:=pre.sw s0 rfl
 have s1:=SW.start pre1.holds
 have A0:Aside (SW enc w blk off d (w.alloc (.cells #[.func (.func g) #[] lb,.func (.func sf) #[] sb] (ρ.t 42)))):=s0
 have hblk:=pre.blk
 have hb1:=pre1.blk
 have hsz:=pre1.small
 have cB0:(w.alloc (.cells #[.func (.func g) #[] lb,.func (.func sf) #[] sb] (ρ.t 42))).cell? ⟨w.heap.size,0,none⟩=some (.func (.func g) #[] lb):=by simp
 have cB1:(w.alloc (.cells #[.func (.func g) #[] lb,.func (.func sf) #[] sb] (ρ.t 42))).cell? ⟨w.heap.size,1,none⟩=some (.func (.func sf) #[] sb):=by simp
 have zB:w.heap.size < (w.alloc (.cells #[.func (.func g) #[] lb,.func (.func sf) #[] sb] (ρ.t 42))).heap.size:=by simp
 have AP:Aside (Pre P enc lt g lb sf sb blk off d (w.alloc (.cells #[.func (.func g) #[] lb,.func (.func sf) #[] sb] (ρ.t 42)))):=pre1
 have hd:((m:Int) - (a:Int) == 1)=false:=by simp; omega
 have hside':decide (((a:Int)+b) / 2 < m)=true:=by simp; omega
 have hd2:((b:Int) - (m:Int) == 1)=false:=by simp; omega
 have AR:Aside (∀ (a' m' b':Nat) (d':Array α) (w':World),Pre P enc lt g lb sf sb blk off d' w'→a' < m'→m' < b'→b' ≤ d'.size→b' - a' < b - a→
   Calls P (ρ.f 30) #[.agg #[.func (.func g) #[] lb,.func (.func sf) #[] sb],.int .i64 a',.int .i64 m',.int .i64 b'] w' fun e w''=>e= .returned (.tuple #[])∧SW enc w' blk off (sym lt f a' m' b' d') w''):=rec
 clear s0 pre pre1 rec
 go_enter L.f30,BodyGt.n30_ntmps ρ
 go_wp2
 go_loopw [18,19] (fun vi vj wr=>∃ (i j:Nat),vi= .int .i64 i∧vj= .int .i64 j∧((a+b) / 2+m - b) ≤ i∧i ≤ j∧j ≤ ((a+b) / 2)∧SW enc (w.alloc (.cells #[.func (.func g) #[] lb,.func (.func sf) #[] sb] (ρ.t 42))) blk off d wr∧Hid (bs (fun c=>!lt d[(a+b) / 2+m - 1 - c]! d[c]!) i j=bs (fun c=>!lt d[(a+b) / 2+m - 1 - c]! d[c]!) ((a+b) / 2+m - b) ((a+b) / 2)))
  (fun vi vj _=>(Proofs.intOf vj).toNat - (Proofs.intOf vi).toNat)
 case atStart=>exact ⟨((a+b) / 2+m - b),((a+b) / 2),by congr 1 <;> omega,by congr 1 <;> omega,by omega,by omega,by omega,s1,rfl⟩
 case round=>
  obtain ⟨i,j,rfl,rfl,hi,hij,hj,hS,hO⟩:=hrel
  have c0:wr.cell? ⟨w.heap.size,0,none⟩=some (.func (.func g) #[] lb):=(wj hS zB (by omega)).trans cB0
  by_cases hlt:i < j
  ·have hl:=hS.less AP.out.less rfl ((a+b) / 2+m - 1 - (i+j) / 2) ((i+j) / 2) (by omega) (by omega)
   rw [show ((((i+j) / 2:Nat):Int))=((i:Int)+j) / 2 by omega,show ((((a+b) / 2+m - 1 - (i+j) / 2:Nat):Int))=((a:Int)+b) / 2+m - 1 - ((i:Int)+j) / 2 by omega] at hl
   have AS:Aside (SW enc (w.alloc (.cells #[.func (.func g) #[] lb,.func (.func sf) #[] sb] (ρ.t 42))) blk off d wr):=hS
   clear hS s1
   cases hlv:lt d[(a+b) / 2+m - 1 - (i+j) / 2]! d[(i+j) / 2]! with
   | false=>
     rw [hlv] at hl
     go_wp2_with (go_at_fn g; refine hl.mono ?_; rintro e w' ⟨rfl,q,rfl⟩)
     go_roundw
     case rel=>exact ⟨(i+j) / 2+1,j,by congr 1,rfl,by omega,by omega,hj,AS.out.drewN q,by rw [← hO.out,cO _ i j hlt (by simp only [hlv]; rfl)]; rfl⟩
     case measure=>simp [Proofs.intOf]; omega
   | true=>
     rw [hlv] at hl
     go_wp2_with (go_at_fn g; refine hl.mono ?_; rintro e w' ⟨rfl,q,rfl⟩)
     go_roundw
     case rel=>exact ⟨i,(i+j) / 2,rfl,by congr 1,by omega,by omega,by omega,AS.out.drewN q,by rw [← hO.out,fF _ i j hlt (by simp only [hlv]; rfl)]; rfl⟩
     case measure=>simp [Proofs.intOf]; omega
  ·have hst:start lt a m b d=i:=by
    rw [start,if_pos hside,← cN (fun c=>!lt d[(a+b) / 2+m - 1 - c]! d[c]!) i j hlt,← hO.out]
   have hi2:i ≤ ((a+b) / 2):=by omega
   have c1:wr.cell? ⟨w.heap.size,1,none⟩=some (.func (.func sf) #[] sb):=(wj hS zB (by omega)).trans cB1
   have AS:Aside (SW enc (w.alloc (.cells #[.func (.func g) #[] lb,.func (.func sf) #[] sb] (ρ.t 42))) blk off d wr):=hS
   have ASt:Aside (start lt a m b d=i):=hst
   have hRot:i < m→m < (a+b) / 2+m - i→Calls P (ρ.f 42) #[.agg #[.func (.func g) #[] lb,.func (.func sf) #[] sb],.int .i64 i,.int .i64 m,.int .i64 (((a:Int)+b) / 2+m - i)] wr fun e w'=>e= .returned (.tuple #[])∧SW enc wr blk off (rot m (m - i) ((a+b) / 2+m - i - m) d) w':=by
    intro h1 h2
    have:=U6 { L with } enc (.func g) #[] lb sf sb blk off i m ((a+b) / 2+m - i) d wr (AP.out.sw AS.out rfl).swap (AP.out.sw AS.out rfl).holds (AP.out.sw AS.out rfl).blk h1 h2 (by omega) hsz
    rwa [show ((((a+b) / 2+m - i:Nat):Int))=((a:Int)+b) / 2+m - i by omega] at this
   have hLeft:∀ d1 w1,SW enc (w.alloc (.cells #[.func (.func g) #[] lb,.func (.func sf) #[] sb] (ρ.t 42))) blk off d1 w1→d1.size=d.size→a < i→i < (a+b) / 2→Calls P (ρ.f 30) #[.agg #[.func (.func g) #[] lb,.func (.func sf) #[] sb],.int .i64 a,.int .i64 i,.int .i64 (((a:Int)+b) / 2)] w1 fun e w'=>e= .returned (.tuple #[])∧SW enc w1 blk off (sym lt f a i ((a+b) / 2) d1) w':=by
    intro d1 w1 h0 hs h1 h2
    have:=AR.out a i ((a+b) / 2) d1 w1 (AP.out.sw h0 hs) h1 h2 (by omega) (by omega)
    rwa [show ((((a+b) / 2:Nat):Int))=((a:Int)+b) / 2 by omega] at this
   have hRight:∀ d1 w1,SW enc (w.alloc (.cells #[.func (.func g) #[] lb,.func (.func sf) #[] sb] (ρ.t 42))) blk off d1 w1→d1.size=d.size→(a+b) / 2 < (a+b) / 2+m - i→(a+b) / 2+m - i < b→Calls P (ρ.f 30) #[.agg #[.func (.func g) #[] lb,.func (.func sf) #[] sb],.int .i64 (((a:Int)+b) / 2),.int .i64 (((a:Int)+b) / 2+m - i),.int .i64 b] w1 fun e w'=>e= .returned (.tuple #[])∧SW enc w1 blk off (sym lt f ((a+b) / 2) ((a+b) / 2+m - i) b d1) w':=by
    intro d1 w1 h0 hs h1 h2
    have:=AR.out ((a+b) / 2) ((a+b) / 2+m - i) b d1 w1 (AP.out.sw h0 hs) h1 h2 (by omega) (by omega)
    rwa [show ((((a+b) / 2:Nat):Int))=((a:Int)+b) / 2 by omega,show ((((a+b) / 2+m - i:Nat):Int))=((a:Int)+b) / 2+m - i by omega] at this
   have cells:∀ d1 w1,SW enc (w.alloc (.cells #[.func (.func g) #[] lb,.func (.func sf) #[] sb] (ρ.t 42))) blk off d1 w1→w1.cell? ⟨w.heap.size,0,none⟩=some (.func (.func g) #[] lb)∧w1.cell? ⟨w.heap.size,1,none⟩=some (.func (.func sf) #[] sb):=
    fun d1 w1 h=>⟨(wj h zB (by omega)).trans cB0,(wj h zB (by omega)).trans cB1⟩
   have AC:Aside (∀ d1 w1,SW enc (w.alloc (.cells #[.func (.func g) #[] lb,.func (.func sf) #[] sb] (ρ.t 42))) blk off d1 w1→w1.cell? ⟨w.heap.size,0,none⟩=some (.func (.func g) #[] lb)∧w1.cell? ⟨w.heap.size,1,none⟩=some (.func (.func sf) #[] sb)):=cells
   have AL:Aside _:=hLeft
   have ARr:Aside _:=hRight
   have ARo:Aside _:=hRot
   have s2:i ≤ m∧i ≤ (a+b) / 2∧(a+b) / 2+m - i ≤ b∧a ≤ i:=by omega
   clear hS s1 hst cells hLeft hRight hRot
   by_cases h1:i < m∧m < (a+b) / 2+m - i
   ·by_cases h2:a < i∧i < (a+b) / 2
    ·by_cases h3:(a+b) / 2 < (a+b) / 2+m - i∧(a+b) / 2+m - i < b
     ·have hc1:=ARo.out h1.1 h1.2
      go_wp2_with (go_at_fn (ρ.f 42); refine hc1.mono ?_; rintro e w1 ⟨rfl,hS1⟩; have hT1:=zJ hb1 AS.out hS1 (by rw [yL _ _ _ _ _ (Nat.le_refl _)]); obtain ⟨c0,c1⟩:=AC.out _ _ hT1; have hS1:Aside _:=hT1; clear hT1 hc1)
      all_goals (have hc2:=AL.out _ _ hS1.out (by rw [yL _ _ _ _ _ (Nat.le_refl _)]) h2.1 h2.2; go_wp2_with (go_at_fn (ρ.f 30); refine hc2.mono ?_; rintro e w2 ⟨rfl,hS2⟩; have hT2:=zJ hb1 hS1.out hS2 (by rw [yf]); obtain ⟨c0,c1⟩:=AC.out _ _ hT2; have hS2:Aside _:=hT2; clear hT2 hc2))
      all_goals (have hc3:=ARr.out _ _ hS2.out (by rw [yf,yL _ _ _ _ _ (Nat.le_refl _)]) h3.1 h3.2; go_wp2_with (go_at_fn (ρ.f 30); refine hc3.mono ?_; rintro e w3 ⟨rfl,hS3⟩; have hT3:=zJ hb1 hS2.out hS3 (by rw [yf]); obtain ⟨c0,c1⟩:=AC.out _ _ hT3; have hS3:Aside _:=hT3; clear hT3 hc3))
      all_goals (go_end0; refine ⟨rfl,?_⟩; rw [tY f a m b d (by omega) (by omega) i ASt.out,if_pos h3,if_pos h2,if_pos h1]; exact zJ hblk A0.out hS3.out (by rw [yf,yf,yL _ _ _ _ _ (Nat.le_refl _)]))
     ·have hc1:=ARo.out h1.1 h1.2
      go_wp2_with (go_at_fn (ρ.f 42); refine hc1.mono ?_; rintro e w1 ⟨rfl,hS1⟩; have hT1:=zJ hb1 AS.out hS1 (by rw [yL _ _ _ _ _ (Nat.le_refl _)]); obtain ⟨c0,c1⟩:=AC.out _ _ hT1; have hS1:Aside _:=hT1; clear hT1 hc1)
      all_goals (have hc2:=AL.out _ _ hS1.out (by rw [yL _ _ _ _ _ (Nat.le_refl _)]) h2.1 h2.2; go_wp2_with (go_at_fn (ρ.f 30); refine hc2.mono ?_; rintro e w2 ⟨rfl,hS2⟩; have hT2:=zJ hb1 hS1.out hS2 (by rw [yf]); obtain ⟨c0,c1⟩:=AC.out _ _ hT2; have hS2:Aside _:=hT2; clear hT2 hc2))
      all_goals (go_end0; refine ⟨rfl,?_⟩; rw [tY f a m b d (by omega) (by omega) i ASt.out,if_neg h3,if_pos h2,if_pos h1]; exact zJ hblk A0.out hS2.out (by rw [yf,yL _ _ _ _ _ (Nat.le_refl _)]))
    ·by_cases h3:(a+b) / 2 < (a+b) / 2+m - i∧(a+b) / 2+m - i < b
     ·have hc1:=ARo.out h1.1 h1.2
      go_wp2_with (go_at_fn (ρ.f 42); refine hc1.mono ?_; rintro e w1 ⟨rfl,hS1⟩; have hT1:=zJ hb1 AS.out hS1 (by rw [yL _ _ _ _ _ (Nat.le_refl _)]); obtain ⟨c0,c1⟩:=AC.out _ _ hT1; have hS1:Aside _:=hT1; clear hT1 hc1)
      all_goals (have hc3:=ARr.out _ _ hS1.out (by rw [yL _ _ _ _ _ (Nat.le_refl _)]) h3.1 h3.2; go_wp2_with (go_at_fn (ρ.f 30); refine hc3.mono ?_; rintro e w3 ⟨rfl,hS3⟩; have hT3:=zJ hb1 hS1.out hS3 (by rw [yf]); obtain ⟨c0,c1⟩:=AC.out _ _ hT3; have hS3:Aside _:=hT3; clear hT3 hc3))
      all_goals (go_end0; refine ⟨rfl,?_⟩; rw [tY f a m b d (by omega) (by omega) i ASt.out,if_pos h3,if_neg h2,if_pos h1]; exact zJ hblk A0.out hS3.out (by rw [yf,yL _ _ _ _ _ (Nat.le_refl _)]))
     ·have hc1:=ARo.out h1.1 h1.2
      go_wp2_with (go_at_fn (ρ.f 42); refine hc1.mono ?_; rintro e w1 ⟨rfl,hS1⟩; have hT1:=zJ hb1 AS.out hS1 (by rw [yL _ _ _ _ _ (Nat.le_refl _)]); obtain ⟨c0,c1⟩:=AC.out _ _ hT1; have hS1:Aside _:=hT1; clear hT1 hc1)
      all_goals (go_end0; refine ⟨rfl,?_⟩; rw [tY f a m b d (by omega) (by omega) i ASt.out,if_neg h3,if_neg h2,if_pos h1]; exact zJ hblk A0.out hS1.out (by rw [yL _ _ _ _ _ (Nat.le_refl _)]))
   ·by_cases h2:a < i∧i < (a+b) / 2
    ·by_cases h3:(a+b) / 2 < (a+b) / 2+m - i∧(a+b) / 2+m - i < b
     ·have hc2:=AL.out _ _ AS.out rfl h2.1 h2.2
      go_wp2_with (go_at_fn (ρ.f 30); refine hc2.mono ?_; rintro e w2 ⟨rfl,hS2⟩; have hT2:=zJ hb1 AS.out hS2 (by rw [yf]); obtain ⟨c0,c1⟩:=AC.out _ _ hT2; have hS2:Aside _:=hT2; clear hT2 hc2)
      all_goals (have hc3:=ARr.out _ _ hS2.out (by rw [yf]) h3.1 h3.2; go_wp2_with (go_at_fn (ρ.f 30); refine hc3.mono ?_; rintro e w3 ⟨rfl,hS3⟩; have hT3:=zJ hb1 hS2.out hS3 (by rw [yf]); obtain ⟨c0,c1⟩:=AC.out _ _ hT3; have hS3:Aside _:=hT3; clear hT3 hc3))
      all_goals (go_end0; refine ⟨rfl,?_⟩; rw [tY f a m b d (by omega) (by omega) i ASt.out,if_pos h3,if_pos h2,if_neg h1]; exact zJ hblk A0.out hS3.out (by rw [yf,yf]))
     ·have hc2:=AL.out _ _ AS.out rfl h2.1 h2.2
      go_wp2_with (go_at_fn (ρ.f 30); refine hc2.mono ?_; rintro e w2 ⟨rfl,hS2⟩; have hT2:=zJ hb1 AS.out hS2 (by rw [yf]); obtain ⟨c0,c1⟩:=AC.out _ _ hT2; have hS2:Aside _:=hT2; clear hT2 hc2)
      all_goals (go_end0; refine ⟨rfl,?_⟩; rw [tY f a m b d (by omega) (by omega) i ASt.out,if_neg h3,if_pos h2,if_neg h1]; exact zJ hblk A0.out hS2.out (by rw [yf]))
    ·by_cases h3:(a+b) / 2 < (a+b) / 2+m - i∧(a+b) / 2+m - i < b
     ·have hc3:=ARr.out _ _ AS.out rfl h3.1 h3.2
      go_wp2_with (go_at_fn (ρ.f 30); refine hc3.mono ?_; rintro e w3 ⟨rfl,hS3⟩; have hT3:=zJ hb1 AS.out hS3 (by rw [yf]); obtain ⟨c0,c1⟩:=AC.out _ _ hT3; have hS3:Aside _:=hT3; clear hT3 hc3)
      all_goals (go_end0; refine ⟨rfl,?_⟩; rw [tY f a m b d (by omega) (by omega) i ASt.out,if_pos h3,if_neg h2,if_neg h1]; exact zJ hblk A0.out hS3.out (by rw [yf]))
     ·go_wp2
      all_goals (go_end0; refine ⟨rfl,?_⟩; rw [tY f a m b d (by omega) (by omega) i ASt.out,if_neg h3,if_neg h2,if_neg h1]; exact zJ hblk A0.out AS.out rfl)
set_option maxHeartbeats 8000000 in
set_option maxRecDepth 100000 in
theorem Hj (L:LaysGt.n30 P ρ) (enc:α→Value) (lt:α→α→Bool) (g:Nat) (lb:Array Value) (sf:Nat) (sb:Array Value) (blk off f a m b:Nat) (d:Array α) (w:World)
  (eg:∀ args w,(callFunc g args).run P w= .ok (.enter g args) w) (pre:Pre P enc lt g lb sf sb blk off d w) (hma:a+1 < m) (hm:m+1 < b) (hb:b ≤ d.size) (hside:m ≤ (a+b) / 2)
  (rec:∀ (a' m' b':Nat) (d':Array α) (w':World),Pre P enc lt g lb sf sb blk off d' w'→a' < m'→m' < b'→b' ≤ d'.size→b' - a' < b - a→
    Calls P (ρ.f 30) #[.agg #[.func (.func g) #[] lb,.func (.func sf) #[] sb],.int .i64 a',.int .i64 m',.int .i64 b'] w' fun e w''=>e= .returned (.tuple #[])∧SW enc w' blk off (sym lt f a' m' b' d') w''):
  Calls P (ρ.f 30) #[.agg #[.func (.func g) #[] lb,.func (.func sf) #[] sb],.int .i64 a,.int .i64 m,.int .i64 b] w fun e w'=>e= .returned (.tuple #[])∧SW enc w blk off (sym lt (f+1) a m b d) w':=by
 have mixed:=L.mixed; have t0:=L.t0; have a0:=L.a0; have z0:=L.z0; have v0:=L.v0; have t3:=L.t3; have a3:=L.a3; have z3:=L.z3; have v3:=L.v3; have t4:=L.t4; have a4:=L.a4; have z4:=L.z4; have v4:=L.v4; have t26:=L.t26; have a26:=L.a26; have z26:=L.z26; have v26:=L.v26; have t38:=L.t38; have a38:=L.a38; have z38:=L.z38; have v38:=L.v38; have t42:=L.t42; have a42:=L.a42; have z42:=L.z42; have v42:=L.v42; have t47:=L.t47; have a47:=L.a47; have z47:=L.z47; have v47:=L.v47
 have u42:=run_underlying L.t42
 have e30:∀ args w,(callFunc (ρ.f 30) args).run P w= .ok (.enter (ρ.f 30) args) w:=enters_of L.f30 (by kernel_rfl) rfl
 have e42:∀ args w,(callFunc (ρ.f 42) args).run P w= .ok (.enter (ρ.f 42) args) w:=enters_of L.f42 (by kernel_rfl) rfl
 have s0:SW enc w blk off d (w.alloc (.cells #[.func (.func g) #[] lb,.func (.func sf) #[] sb] (ρ.t 42))):=(SW.start pre.holds).alloc _
 have pre1:=pre.sw s0 rfl
 have s1:=SW.start pre1.holds
 have A0:Aside (SW enc w blk off d (w.alloc (.cells #[.func (.func g) #[] lb,.func (.func sf) #[] sb] (ρ.t 42)))):=s0
 have hblk:=pre.blk
 have hb1:=pre1.blk
 have hsz:=pre1.small
 have cB0:(w.alloc (.cells #[.func (.func g) #[] lb,.func (.func sf) #[] sb] (ρ.t 42))).cell? ⟨w.heap.size,0,none⟩=some (.func (.func g) #[] lb):=by simp
 have cB1:(w.alloc (.cells #[.func (.func g) #[] lb,.func (.func sf) #[] sb] (ρ.t 42))).cell? ⟨w.heap.size,1,none⟩=some (.func (.func sf) #[] sb):=by simp
 have zB:w.heap.size < (w.alloc (.cells #[.func (.func g) #[] lb,.func (.func sf) #[] sb] (ρ.t 42))).heap.size:=by simp
 have AP:Aside (Pre P enc lt g lb sf sb blk off d (w.alloc (.cells #[.func (.func g) #[] lb,.func (.func sf) #[] sb] (ρ.t 42)))):=pre1
 have hd:((m:Int) - (a:Int) == 1)=false:=by simp; omega
 have hside':decide (((a:Int)+b) / 2 < m)=false:=by simp; omega
 have hd2:((b:Int) - (m:Int) == 1)=false:=by simp; omega
 have AR:Aside (∀ (a' m' b':Nat) (d':Array α) (w':World),Pre P enc lt g lb sf sb blk off d' w'→a' < m'→m' < b'→b' ≤ d'.size→b' - a' < b - a→
   Calls P (ρ.f 30) #[.agg #[.func (.func g) #[] lb,.func (.func sf) #[] sb],.int .i64 a',.int .i64 m',.int .i64 b'] w' fun e w''=>e= .returned (.tuple #[])∧SW enc w' blk off (sym lt f a' m' b' d') w''):=rec
 clear s0 pre pre1 rec
 go_enter L.f30,BodyGt.n30_ntmps ρ
 go_wp2
 go_loopw [18,19] (fun vi vj wr=>∃ (i j:Nat),vi= .int .i64 i∧vj= .int .i64 j∧a ≤ i∧i ≤ j∧j ≤ m∧SW enc (w.alloc (.cells #[.func (.func g) #[] lb,.func (.func sf) #[] sb] (ρ.t 42))) blk off d wr∧Hid (bs (fun c=>!lt d[(a+b) / 2+m - 1 - c]! d[c]!) i j=bs (fun c=>!lt d[(a+b) / 2+m - 1 - c]! d[c]!) a m))
  (fun vi vj _=>(Proofs.intOf vj).toNat - (Proofs.intOf vi).toNat)
 case atStart=>exact ⟨a,m,by congr 1 <;> omega,by congr 1 <;> omega,by omega,by omega,by omega,s1,rfl⟩
 case round=>
  obtain ⟨i,j,rfl,rfl,hi,hij,hj,hS,hO⟩:=hrel
  have c0:wr.cell? ⟨w.heap.size,0,none⟩=some (.func (.func g) #[] lb):=(wj hS zB (by omega)).trans cB0
  by_cases hlt:i < j
  ·have hl:=hS.less AP.out.less rfl ((a+b) / 2+m - 1 - (i+j) / 2) ((i+j) / 2) (by omega) (by omega)
   rw [show ((((i+j) / 2:Nat):Int))=((i:Int)+j) / 2 by omega,show ((((a+b) / 2+m - 1 - (i+j) / 2:Nat):Int))=((a:Int)+b) / 2+m - 1 - ((i:Int)+j) / 2 by omega] at hl
   have AS:Aside (SW enc (w.alloc (.cells #[.func (.func g) #[] lb,.func (.func sf) #[] sb] (ρ.t 42))) blk off d wr):=hS
   clear hS s1
   cases hlv:lt d[(a+b) / 2+m - 1 - (i+j) / 2]! d[(i+j) / 2]! with
   | false=>
     rw [hlv] at hl
     go_wp2_with (go_at_fn g; refine hl.mono ?_; rintro e w' ⟨rfl,q,rfl⟩)
     go_roundw
     case rel=>exact ⟨(i+j) / 2+1,j,by congr 1,rfl,by omega,by omega,hj,AS.out.drewN q,by rw [← hO.out,cO _ i j hlt (by simp only [hlv]; rfl)]; rfl⟩
     case measure=>simp [Proofs.intOf]; omega
   | true=>
     rw [hlv] at hl
     go_wp2_with (go_at_fn g; refine hl.mono ?_; rintro e w' ⟨rfl,q,rfl⟩)
     go_roundw
     case rel=>exact ⟨i,(i+j) / 2,rfl,by congr 1,by omega,by omega,by omega,AS.out.drewN q,by rw [← hO.out,fF _ i j hlt (by simp only [hlv]; rfl)]; rfl⟩
     case measure=>simp [Proofs.intOf]; omega
  ·have hst:start lt a m b d=i:=by
    rw [start,if_neg (by omega),← cN (fun c=>!lt d[(a+b) / 2+m - 1 - c]! d[c]!) i j hlt,← hO.out]
   have hi2:i ≤ m:=by omega
   have c1:wr.cell? ⟨w.heap.size,1,none⟩=some (.func (.func sf) #[] sb):=(wj hS zB (by omega)).trans cB1
   have AS:Aside (SW enc (w.alloc (.cells #[.func (.func g) #[] lb,.func (.func sf) #[] sb] (ρ.t 42))) blk off d wr):=hS
   have ASt:Aside (start lt a m b d=i):=hst
   have hRot:i < m→m < (a+b) / 2+m - i→Calls P (ρ.f 42) #[.agg #[.func (.func g) #[] lb,.func (.func sf) #[] sb],.int .i64 i,.int .i64 m,.int .i64 (((a:Int)+b) / 2+m - i)] wr fun e w'=>e= .returned (.tuple #[])∧SW enc wr blk off (rot m (m - i) ((a+b) / 2+m - i - m) d) w':=by
    intro h1 h2
    have:=U6 { L with } enc (.func g) #[] lb sf sb blk off i m ((a+b) / 2+m - i) d wr (AP.out.sw AS.out rfl).swap (AP.out.sw AS.out rfl).holds (AP.out.sw AS.out rfl).blk h1 h2 (by omega) hsz
    rwa [show ((((a+b) / 2+m - i:Nat):Int))=((a:Int)+b) / 2+m - i by omega] at this
   have hLeft:∀ d1 w1,SW enc (w.alloc (.cells #[.func (.func g) #[] lb,.func (.func sf) #[] sb] (ρ.t 42))) blk off d1 w1→d1.size=d.size→a < i→i < (a+b) / 2→Calls P (ρ.f 30) #[.agg #[.func (.func g) #[] lb,.func (.func sf) #[] sb],.int .i64 a,.int .i64 i,.int .i64 (((a:Int)+b) / 2)] w1 fun e w'=>e= .returned (.tuple #[])∧SW enc w1 blk off (sym lt f a i ((a+b) / 2) d1) w':=by
    intro d1 w1 h0 hs h1 h2
    have:=AR.out a i ((a+b) / 2) d1 w1 (AP.out.sw h0 hs) h1 h2 (by omega) (by omega)
    rwa [show ((((a+b) / 2:Nat):Int))=((a:Int)+b) / 2 by omega] at this
   have hRight:∀ d1 w1,SW enc (w.alloc (.cells #[.func (.func g) #[] lb,.func (.func sf) #[] sb] (ρ.t 42))) blk off d1 w1→d1.size=d.size→(a+b) / 2 < (a+b) / 2+m - i→(a+b) / 2+m - i < b→Calls P (ρ.f 30) #[.agg #[.func (.func g) #[] lb,.func (.func sf) #[] sb],.int .i64 (((a:Int)+b) / 2),.int .i64 (((a:Int)+b) / 2+m - i),.int .i64 b] w1 fun e w'=>e= .returned (.tuple #[])∧SW enc w1 blk off (sym lt f ((a+b) / 2) ((a+b) / 2+m - i) b d1) w':=by
    intro d1 w1 h0 hs h1 h2
    have:=AR.out ((a+b) / 2) ((a+b) / 2+m - i) b d1 w1 (AP.out.sw h0 hs) h1 h2 (by omega) (by omega)
    rwa [show ((((a+b) / 2:Nat):Int))=((a:Int)+b) / 2 by omega,show ((((a+b) / 2+m - i:Nat):Int))=((a:Int)+b) / 2+m - i by omega] at this
   have cells:∀ d1 w1,SW enc (w.alloc (.cells #[.func (.func g) #[] lb,.func (.func sf) #[] sb] (ρ.t 42))) blk off d1 w1→w1.cell? ⟨w.heap.size,0,none⟩=some (.func (.func g) #[] lb)∧w1.cell? ⟨w.heap.size,1,none⟩=some (.func (.func sf) #[] sb):=
    fun d1 w1 h=>⟨(wj h zB (by omega)).trans cB0,(wj h zB (by omega)).trans cB1⟩
   have AC:Aside (∀ d1 w1,SW enc (w.alloc (.cells #[.func (.func g) #[] lb,.func (.func sf) #[] sb] (ρ.t 42))) blk off d1 w1→w1.cell? ⟨w.heap.size,0,none⟩=some (.func (.func g) #[] lb)∧w1.cell? ⟨w.heap.size,1,none⟩=some (.func (.func sf) #[] sb)):=cells
   have AL:Aside _:=hLeft
   have ARr:Aside _:=hRight
   have ARo:Aside _:=hRot
   have s2:i ≤ m∧i ≤ (a+b) / 2∧(a+b) / 2+m - i ≤ b∧a ≤ i:=by omega
   clear hS s1 hst cells hLeft hRight hRot
   by_cases h1:i < m∧m < (a+b) / 2+m - i
   ·by_cases h2:a < i∧i < (a+b) / 2
    ·by_cases h3:(a+b) / 2 < (a+b) / 2+m - i∧(a+b) / 2+m - i < b
     ·have hc1:=ARo.out h1.1 h1.2
      go_wp2_with (go_at_fn (ρ.f 42); refine hc1.mono ?_; rintro e w1 ⟨rfl,hS1⟩; have hT1:=zJ hb1 AS.out hS1 (by rw [yL _ _ _ _ _ (Nat.le_refl _)]); obtain ⟨c0,c1⟩:=AC.out _ _ hT1; have hS1:Aside _:=hT1; clear hT1 hc1)
      all_goals (have hc2:=AL.out _ _ hS1.out (by rw [yL _ _ _ _ _ (Nat.le_refl _)]) h2.1 h2.2; go_wp2_with (go_at_fn (ρ.f 30); refine hc2.mono ?_; rintro e w2 ⟨rfl,hS2⟩; have hT2:=zJ hb1 hS1.out hS2 (by rw [yf]); obtain ⟨c0,c1⟩:=AC.out _ _ hT2; have hS2:Aside _:=hT2; clear hT2 hc2))
      all_goals (have hc3:=ARr.out _ _ hS2.out (by rw [yf,yL _ _ _ _ _ (Nat.le_refl _)]) h3.1 h3.2; go_wp2_with (go_at_fn (ρ.f 30); refine hc3.mono ?_; rintro e w3 ⟨rfl,hS3⟩; have hT3:=zJ hb1 hS2.out hS3 (by rw [yf]); obtain ⟨c0,c1⟩:=AC.out _ _ hT3; have hS3:Aside _:=hT3; clear hT3 hc3))
      all_goals (go_end0; refine ⟨rfl,?_⟩; rw [tY f a m b d (by omega) (by omega) i ASt.out,if_pos h3,if_pos h2,if_pos h1]; exact zJ hblk A0.out hS3.out (by rw [yf,yf,yL _ _ _ _ _ (Nat.le_refl _)]))
     ·have hc1:=ARo.out h1.1 h1.2
      go_wp2_with (go_at_fn (ρ.f 42); refine hc1.mono ?_; rintro e w1 ⟨rfl,hS1⟩; have hT1:=zJ hb1 AS.out hS1 (by rw [yL _ _ _ _ _ (Nat.le_refl _)]); obtain ⟨c0,c1⟩:=AC.out _ _ hT1; have hS1:Aside _:=hT1; clear hT1 hc1)
      all_goals (have hc2:=AL.out _ _ hS1.out (by rw [yL _ _ _ _ _ (Nat.le_refl _)]) h2.1 h2.2; go_wp2_with (go_at_fn (ρ.f 30); refine hc2.mono ?_; rintro e w2 ⟨rfl,hS2⟩; have hT2:=zJ hb1 hS1.out hS2 (by rw [yf]); obtain ⟨c0,c1⟩:=AC.out _ _ hT2; have hS2:Aside _:=hT2; clear hT2 hc2))
      all_goals (go_end0; refine ⟨rfl,?_⟩; rw [tY f a m b d (by omega) (by omega) i ASt.out,if_neg h3,if_pos h2,if_pos h1]; exact zJ hblk A0.out hS2.out (by rw [yf,yL _ _ _ _ _ (Nat.le_refl _)]))
    ·by_cases h3:(a+b) / 2 < (a+b) / 2+m - i∧(a+b) / 2+m - i < b
     ·have hc1:=ARo.out h1.1 h1.2
      go_wp2_with (go_at_fn (ρ.f 42); refine hc1.mono ?_; rintro e w1 ⟨rfl,hS1⟩; have hT1:=zJ hb1 AS.out hS1 (by rw [yL _ _ _ _ _ (Nat.le_refl _)]); obtain ⟨c0,c1⟩:=AC.out _ _ hT1; have hS1:Aside _:=hT1; clear hT1 hc1)
      all_goals (have hc3:=ARr.out _ _ hS1.out (by rw [yL _ _ _ _ _ (Nat.le_refl _)]) h3.1 h3.2; go_wp2_with (go_at_fn (ρ.f 30); refine hc3.mono ?_; rintro e w3 ⟨rfl,hS3⟩; have hT3:=zJ hb1 hS1.out hS3 (by rw [yf]); obtain ⟨c0,c1⟩:=AC.out _ _ hT3; have hS3:Aside _:=hT3; clear hT3 hc3))
      all_goals (go_end0; refine ⟨rfl,?_⟩; rw [tY f a m b d (by omega) (by omega) i ASt.out,if_pos h3,if_neg h2,if_pos h1]; exact zJ hblk A0.out hS3.out (by rw [yf,yL _ _ _ _ _ (Nat.le_refl _)]))
     ·have hc1:=ARo.out h1.1 h1.2
      go_wp2_with (go_at_fn (ρ.f 42); refine hc1.mono ?_; rintro e w1 ⟨rfl,hS1⟩; have hT1:=zJ hb1 AS.out hS1 (by rw [yL _ _ _ _ _ (Nat.le_refl _)]); obtain ⟨c0,c1⟩:=AC.out _ _ hT1; have hS1:Aside _:=hT1; clear hT1 hc1)
      all_goals (go_end0; refine ⟨rfl,?_⟩; rw [tY f a m b d (by omega) (by omega) i ASt.out,if_neg h3,if_neg h2,if_pos h1]; exact zJ hblk A0.out hS1.out (by rw [yL _ _ _ _ _ (Nat.le_refl _)]))
   ·by_cases h2:a < i∧i < (a+b) / 2
    ·by_cases h3:(a+b) / 2 < (a+b) / 2+m - i∧(a+b) / 2+m - i < b
     ·have hc2:=AL.out _ _ AS.out rfl h2.1 h2.2
      go_wp2_with (go_at_fn (ρ.f 30); refine hc2.mono ?_; rintro e w2 ⟨rfl,hS2⟩; have hT2:=zJ hb1 AS.out hS2 (by rw [yf]); obtain ⟨c0,c1⟩:=AC.out _ _ hT2; have hS2:Aside _:=hT2; clear hT2 hc2)
      all_goals (have hc3:=ARr.out _ _ hS2.out (by rw [yf]) h3.1 h3.2; go_wp2_with (go_at_fn (ρ.f 30); refine hc3.mono ?_; rintro e w3 ⟨rfl,hS3⟩; have hT3:=zJ hb1 hS2.out hS3 (by rw [yf]); obtain ⟨c0,c1⟩:=AC.out _ _ hT3; have hS3:Aside _:=hT3; clear hT3 hc3))
      all_goals (go_end0; refine ⟨rfl,?_⟩; rw [tY f a m b d (by omega) (by omega) i ASt.out,if_pos h3,if_pos h2,if_neg h1]; exact zJ hblk A0.out hS3.out (by rw [yf,yf]))
     ·have hc2:=AL.out _ _ AS.out rfl h2.1 h2.2
      go_wp2_with (go_at_fn (ρ.f 30); refine hc2.mono ?_; rintro e w2 ⟨rfl,hS2⟩; have hT2:=zJ hb1 AS.out hS2 (by rw [yf]); obtain ⟨c0,c1⟩:=AC.out _ _ hT2; have hS2:Aside _:=hT2; clear hT2 hc2)
      all_goals (go_end0; refine ⟨rfl,?_⟩; rw [tY f a m b d (by omega) (by omega) i ASt.out,if_neg h3,if_pos h2,if_neg h1]; exact zJ hblk A0.out hS2.out (by rw [yf]))
    ·by_cases h3:(a+b) / 2 < (a+b) / 2+m - i∧(a+b) / 2+m - i < b
     ·have hc3:=ARr.out _ _ AS.out rfl h3.1 h3.2
      go_wp2_with (go_at_fn (ρ.f 30); refine hc3.mono ?_; rintro e w3 ⟨rfl,hS3⟩; have hT3:=zJ hb1 AS.out hS3 (by rw [yf]); obtain ⟨c0,c1⟩:=AC.out _ _ hT3; have hS3:Aside _:=hT3; clear hT3 hc3)
      all_goals (go_end0; refine ⟨rfl,?_⟩; rw [tY f a m b d (by omega) (by omega) i ASt.out,if_pos h3,if_neg h2,if_neg h1]; exact zJ hblk A0.out hS3.out (by rw [yf]))
     ·go_wp2
      all_goals (go_end0; refine ⟨rfl,?_⟩; rw [tY f a m b d (by omega) (by omega) i ASt.out,if_neg h3,if_neg h2,if_neg h1]; exact zJ hblk A0.out AS.out rfl)
theorem eY (L:LaysGt.n30 P ρ) (enc:α→Value) (lt:α→α→Bool) (g:Nat) (lb:Array Value) (sf:Nat) (sb:Array Value) (blk off:Nat)
  (eg:∀ args w,(callFunc g args).run P w= .ok (.enter g args) w):∀ (f a m b:Nat) (d:Array α) (w:World),Pre P enc lt g lb sf sb blk off d w→a < m→m < b→b ≤ d.size→b - a ≤ f→
  Calls P (ρ.f 30) #[.agg #[.func (.func g) #[] lb,.func (.func sf) #[] sb],.int .i64 a,.int .i64 m,.int .i64 b] w fun e w'=>e= .returned (.tuple #[])∧SW enc w blk off (sym lt f a m b d) w'
 | 0,a,m,b,d,w,pre,h1,h2,h3,h4=>by omega
 | f+1,a,m,b,d,w,pre,h1,h2,h3,h4=>by
   by_cases n1:m - a=1
   ·have h:=Fv L enc lt g lb sf sb blk off a m b d w eg pre (by omega) h2 h3
    rw [sym,if_pos n1]; exact h
   ·by_cases n2:b - m=1
    ·have h:=Fk L enc lt g lb sf sb blk off a m b d w eg pre (by omega) (by omega) h3
     rw [sym,if_neg n1,if_pos n2]; exact h
    ·by_cases hs:(a+b) / 2 < m
     ·exact Hb L enc lt g lb sf sb blk off f a m b d w eg pre (by omega) (by omega) h3 hs fun a' m' b' d' w' p q1 q2 q3 q4=>eY L enc lt g lb sf sb blk off eg f a' m' b' d' w' p q1 q2 q3 (by omega)
     ·exact Hj L enc lt g lb sf sb blk off f a m b d w eg pre (by omega) (by omega) h3 (by omega) fun a' m' b' d' w' p q1 q2 q3 q4=>eY L enc lt g lb sf sb blk off eg f a' m' b' d' w' p q1 q2 q3 (by omega)
end Go.Stb
