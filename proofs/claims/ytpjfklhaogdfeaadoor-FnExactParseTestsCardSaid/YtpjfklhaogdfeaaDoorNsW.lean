/- impl.ParseTests, walked: a row of rows of its own. -/
import Derived.Test.YtpjfklhaogdfeaaDoorNsG
import Derived.Maps.AppendAt
set_option linter.all false
set_option maxRecDepth 100000
namespace Go.Vm
open Go.Proofs Go.RowKit Go.Lib
variable [Gl]
structure PtLine where
 l:ByteArray
 r:ByteArray
 ok:Bool
 a:List Int×List Int×Int
 b:List Int×List Int×Int
def t8 (F:ByteArray→PtLine):List ByteArray→Nat→List (List Int)→List (List Int)×Int×Int
 | [],_,acc=>(acc,0,0)
 | x :: r,i,acc=>if x.toList.isEmpty=true then t8 F r (i+1) acc
   else if (F x).ok=false ∨ (F x).a.2.2 ≠ 0 ∨ (F x).b.2.2 ≠ 0 then ([],2,(i:Int)+1)
   else if acc.length=80 then ([],3,(i:Int)+1)
   else t8 F r (i+1) (acc++[(F x).a.1,(F x).a.2.1,(F x).b.1,(F x).b.2.1])
structure PtSt (w0:World) (v:Value) (m:Nat) (ls:List (List Int)) (w:World):Prop where
 below:Below w0.heap.size w0 w
 own:∃ us,w.ownsRow w0.heap.size 34 4 v m us∧ls.length=us.length∧(∀ (r:Nat) (u:Value) (l:List Int),us[r]? =some u→ls[r]? =some l→w.ownsRow w0.heap.size 3 1 u l.length (zZ l))∧
  (v.ownBlock.toList++us.flatMap fun u=>u.ownBlock.toList).Nodup
noncomputable def testInfo:TypeInfo:=(Tryd.prog.info? 34).get (by kernel_rfl)
theorem cK:Tryd.prog.info? 34=some testInfo:=by kernel_rfl
theorem fX:testInfo.zero=some (.agg #[.slice none 0 0,.slice none 0 0,.slice none 0 0,.slice none 0 0]):=by kernel_rfl
theorem fD:testInfo.size=4:=by kernel_rfl
theorem iR:testInfo.bytes=96:=by kernel_rfl
theorem fL (W:World) (a b c d:Value) (t:TypeId):∀ j u,[a,b,c,d][j]? =some u→(W.alloc (.cells #[a,b,c,d] t)).cell? ((⟨W.heap.size,0,none⟩:Addr).add j)=some u:=by
 intro j u h
 have hadd:(⟨W.heap.size,0,none⟩:Addr).add j=⟨W.heap.size,j,none⟩:=by unfold Addr.add; split <;> simp_all
 rw [hadd,wT (heap_alloc_new W _),← Array.getElem?_toList]
 exact h
theorem jL {F:ByteArray→PtLine} {x:ByteArray} {r:List ByteArray} {i:Nat} {acc:List (List Int)} (he:x.toList.isEmpty=false) (h:(F x).ok=false ∨ (F x).a.2.2 ≠ 0 ∨ (F x).b.2.2 ≠ 0):t8 F (x :: r) i acc=([],2,(i:Int)+1):=by
 rw [t8,if_neg (by simp [he]),if_pos h]
theorem Xz {F:ByteArray→PtLine} {x:ByteArray} {r:List ByteArray} {i:Nat} {acc:List (List Int)} (he:x.toList.isEmpty=false) (h1:(F x).ok=true) (h2:(F x).a.2.2=0) (h3:(F x).b.2.2=0) (h4:acc.length=80):t8 F (x :: r) i acc=([],3,(i:Int)+1):=by
 rw [t8,if_neg (by simp [he]),if_neg (by simp [h1,h2,h3]),if_pos h4]
theorem lP {w0 w:World} (h:Below w0.heap.size w0 w):PtSt w0 (.slice none 0 0) 0 [] w:=⟨h,[],World.ownsRow_nil _ _ _ _,rfl,fun r u l hu=>by simp at hu,by simp [Value.ownBlock]⟩
set_option maxHeartbeats 4000000 in
theorem Zu (w0:World) (text:ByteArray) (lines:List ByteArray) (F:ByteArray→PtLine) (hlaid:Gl.G ≤ w0.heap.size∧∀ b,b < Gl.G→w0.heap[b]? =Gl.g b)
  (hsplit:∀ w,Below w0.heap.size w0 w→Calls Tryd.prog 11 #[.string text,.string ⟨#[10]⟩] w fun e w'=>∃ pb po cap,e= .returned (.slice (some ⟨pb,po,none⟩) lines.length cap)∧Below w.heap.size w w'∧w.heap.size ≤ pb∧∀ t x,lines[t]? =some x→w'.cell? ⟨pb,po+t,none⟩=some (.string x))
  (hcut:∀ w x,Below w0.heap.size w0 w→x ∈ lines→Calls Tryd.prog 12 #[.string x,.string ⟨#[32,61,62,32]⟩] w fun e w'=>e= .returned (.tuple #[.string (F x).l,.string (F x).r,.bool (F x).ok])∧Below w.heap.size w w')
  (hparse:∀ w s (a:List Int×List Int×Int),Below w0.heap.size w0 w→(∃ x ∈ lines,(s=(F x).l∧a=(F x).a) ∨ (s=(F x).r∧a=(F x).b))→Calls Tryd.prog 13 #[.string s] w fun e w'=>∃ u1 u2,e= .returned (.tuple #[.agg #[u1,u2],.int .i64 a.2.2])∧Below w.heap.size w w'∧
    w'.ownsRow w.heap.size 3 1 u1 a.1.length (zZ a.1)∧w'.ownsRow w.heap.size 3 1 u2 a.2.1.length (zZ a.2.1)∧(u1.ownBlock.toList++u2.ownBlock.toList).Nodup) (ht:text.size ≤ 50000) (hln:lines.length ≤ 50001):
  Calls Tryd.prog 5 #[.string text] w0 fun e w'=>∃ v m,e= .returned (.tuple #[v,.int .i64 (t8 F lines 0 []).2.1,.int .i64 (t8 F lines 0 []).2.2])∧PtSt w0 v m (t8 F lines 0 []).1 w':=by
 go_enter Tryd.func5,Tryd.ntmps5
 have P0:Put _:=⟨hlaid⟩
 have P1:Put _:=⟨hcut⟩
 have P2:Put _:=⟨hparse⟩
 clear hlaid hcut hparse
 have hs:=hsplit (w0.alloc (.cells #[] 34)) ((Below.refl _ w0).alloc (Nat.le_refl _) _)
 clear hsplit
 go_wp2_with (go_at_call 11; refine hs.mono ?_; rintro e W1 ⟨pb,po,cap,rfl,hB,hpb,hL⟩; clear hs)
 go_loopw [5,22] (fun vo vi wr=>∃ (i m:Nat) (ls:List (List Int)),vi= .int .i64 i∧i ≤ lines.length∧m ≤ 20∧ls.length=4 * m∧PtSt w0 vo m ls wr∧vo.ownBlock ≠ some pb∧(∀ t x,lines[t]? =some x→wr.cell? ⟨pb,po+t,none⟩=some (.string x))∧
  Put (t8 F (lines.drop i) i ls=t8 F lines 0 [])) (fun _ vi _=>lines.length - (Proofs.intOf vi).toNat)
 case atStart=>
  have z0:(w0.alloc (.cells #[] 34)).heap.size=w0.heap.size+1:=by simp
  have m0:=World.ownsRow_made w0 (e:=34) (size:=4) (base:=w0.heap.size) #[] 0 (Nat.le_refl _) (Nat.zero_le _) rfl
  refine ⟨0,0,[],by go_num,Nat.zero_le _,by omega,rfl,⟨((Below.refl _ w0).alloc (Nat.le_refl _) _).trans (hB.mono (by omega)),[],td m0 fun b hb=>hB.block b (m0.lt b hb).2,rfl,fun r u l hu=>by simp at hu,by simp [Value.ownBlock]⟩,?_,hL,⟨rfl⟩⟩
  intro h
  injection h with h
  have h':w0.heap.size=pb:=h
  omega
 case round=>
  obtain ⟨i,m,ls,rfl,hi,hm,hlm,hS,hvp,hLr,hG⟩:=hrel
  by_cases hlt:i < lines.length
  ·have hx:=hLr i lines[i] (List.getElem?_eq_getElem hlt)
   by_cases he:lines[i].toList.isEmpty=true
   ·have Q1:Put _:=⟨hS⟩
    have Q2:Put _:=⟨hLr⟩
    have hst:=hG.out
    rw [List.drop_eq_getElem_cons hlt] at hst
    clear hG
    have hG:Put _:=⟨hst⟩
    clear hS hLr hL hB hst
    generalize lines[i]=x at hx he hG
    go_wp2
    case roundEnd=>
     refine ⟨⟨i+1,m,ls,by go_num,by omega,hm,hlm,Q1.out,hvp,Q2.out,⟨?_⟩⟩,by simp [Proofs.intOf]; omega⟩
     rw [← hG.out,t8,if_pos he]
   ·have Q1:Put _:=⟨hS⟩
    have Q2:Put _:=⟨hLr⟩
    have hb:=hS.below
    obtain ⟨us,hown,hus,hrows,hnd⟩:=hS.own
    have Q3:Put _:=⟨hown⟩
    have Q4:Put _:=⟨hrows⟩
    have Q5:Put _:=⟨hnd⟩
    clear hrows hnd
    obtain ⟨p0,k0,rfl⟩:=kV hown
    clear hown
    have hc:=P1.out wr lines[i] hb (List.getElem_mem hlt)
    have hpp:=P2.out
    have hin:∀ x,x=lines[i]→x ∈ lines:=fun x hx=>by rw [hx]; exact List.getElem_mem hlt
    clear hS hLr hL hB
    have hdr:Put (lines.drop i=lines[i] :: lines.drop (i+1)):=⟨List.drop_eq_getElem_cons hlt⟩
    generalize lines[i]=x at hx he hc hin hdr
    rw [Bool.not_eq_true] at he
    go_wp2_with (go_at_call 12; refine hc.mono ?_; rintro e W2 ⟨rfl,hB2⟩; clear hc; have hb2:=hb.trans (hB2.mono hb.size); have hp2:=hpp W2 (F x).l (F x).a hb2 ⟨x,hin x rfl,.inl ⟨rfl,rfl⟩⟩)
    go_wp2_with (go_at_call 13; refine hp2.mono ?_; rintro e W3 ⟨u1,u2,rfl,hB3,o1,o2,hn1⟩; clear hp2; have hb3:=hb2.trans (hB3.mono hb2.size); have R1:Put _:=⟨o1⟩; have R2:Put _:=⟨o2⟩; obtain ⟨p1,m1,k1,rfl⟩:=oU o1; obtain ⟨p2,m2,k2,rfl⟩:=oU o2; clear o1 o2)
    refine (hpp _ (F x).r (F x).b ?_ ⟨x,hin x rfl,.inr ⟨rfl,rfl⟩⟩).mono ?_
    ·exact hb3.trans (((Below.refl _ W3).alloc (Nat.le_refl _) _).mono hb3.size)
    rintro e W4 ⟨u3',u4',rfl,hB4,o3,o4,hn2⟩
    have R3:Put _:=⟨o3⟩
    have R4:Put _:=⟨o4⟩
    obtain ⟨p3,m3,k3,rfl⟩:=oU o3
    obtain ⟨p4,m4,k4,rfl⟩:=oU o4
    clear o3 o4
    have z4:W3.heap.size < W4.heap.size:=Nat.lt_of_lt_of_le (by simp) hB4.size
    have q0:(W4.alloc (.cells #[.slice p3 m3 k3,.slice p4 m4 k4] 32)).cell? ⟨W3.heap.size,0,none⟩=some (.slice p1 m1 k1):=(sC (heap_alloc_old W4 _ z4) 0).trans ((sC (hB4.block W3.heap.size (by simp)) 0).trans ((wT (heap_alloc_new W3 _) 0).trans rfl))
    have q1:(W4.alloc (.cells #[.slice p3 m3 k3,.slice p4 m4 k4] 32)).cell? ⟨W3.heap.size,1,none⟩=some (.slice p2 m2 k2):=(sC (heap_alloc_old W4 _ z4) 1).trans ((sC (hB4.block W3.heap.size (by simp)) 1).trans ((wT (heap_alloc_new W3 _) 1).trans rfl))
    have hb4:Below wr.heap.size wr ((W4.alloc (.cells #[.slice p3 m3 k3,.slice p4 m4 k4] 32)).alloc (.cells #[.slice p1 m1 k1,.slice p2 m2 k2,.slice p3 m3 k3,.slice p4 m4 k4] 34)):=by
     have h3:=hB2.trans (hB3.mono hB2.size)
     have h3a:=h3.alloc h3.size (.cells #[.slice p1 m1 k1,.slice p2 m2 k2] 32)
     have h4:=h3a.trans (hB4.mono h3a.size)
     have h5:=h4.alloc h4.size (.cells #[.slice p3 m3 k3,.slice p4 m4 k4] 32)
     exact h5.alloc h5.size _
    have hown4:=td Q3.out fun b hb'=>hb4.block b (Q3.out.lt b hb').2
    have hnews:∀ j u,[Value.slice p1 m1 k1,.slice p2 m2 k2,.slice p3 m3 k3,.slice p4 m4 k4][j]? =some u→((W4.alloc (.cells #[.slice p3 m3 k3,.slice p4 m4 k4] 32)).alloc (.cells #[.slice p1 m1 k1,.slice p2 m2 k2,.slice p3 m3 k3,.slice p4 m4 k4] 34)).cell? ((⟨W4.heap.size+1,0,none⟩:Addr).add j)=some u:=by
     have:=fL (W4.alloc (.cells #[.slice p3 m3 k3,.slice p4 m4 k4] 32)) (.slice p1 m1 k1) (.slice p2 m2 k2) (.slice p3 m3 k3) (.slice p4 m4 k4) 34
     rwa [show (W4.alloc (.cells #[.slice p3 m3 k3,.slice p4 m4 k4] 32)).heap.size=W4.heap.size+1 by simp] at this
    go_wp2_with (at_builtin; go_loud (refine wpList_append_own_at _ rfl _ _ 22 rfl w0.heap.size 34 testInfo (.agg #[.slice none 0 0,.slice none 0 0,.slice none 0 0,.slice none 0 0]) 4 96 Tryd.underlying22 cK fX fD iR rfl (by decide) _ _ _ rfl hown4 ⟨W4.heap.size+1,0,none⟩ 1 1 [.slice p1 m1 k1,.slice p2 m2 k2,.slice p3 m3 k3,.slice p4 m4 k4] rfl rfl hnews (fun x hx=>by simp at hx; rcases hx with rfl | rfl | rfl | rfl <;> rfl) (by unfold maxLen; omega) (by omega) ?_ ?_); rotate_left; intro v' w5 hown5 hgrow5 hnil5 hat5)
    case refine_1=>exact Nat.le_trans hb.size hb4.size
    case roundEnd=>
     rename_i hok ha0 hb0 hm20
     have z3:(W3.alloc (.cells #[.slice p1 m1 k1,.slice p2 m2 k2] 32)).heap.size=W3.heap.size+1:=by simp
     have g4:=(Below.refl W4.heap.size W4).alloc (Nat.le_refl _) (.cells #[.slice p3 m3 k3,.slice p4 m4 k4] 32)
     have hW4:=g4.alloc g4.size (.cells #[.slice p1 m1 k1,.slice p2 m2 k2,.slice p3 m3 k3,.slice p4 m4 k4] 34)
     have g3:=(Below.refl W3.heap.size W3).alloc (Nat.le_refl _) (.cells #[.slice p1 m1 k1,.slice p2 m2 k2] 32)
     have g3':=g3.trans (hB4.mono g3.size)
     have hW3:=g3'.trans (hW4.mono g3'.size)
     have hs2:=hB2.size
     have hs3:=hB3.size
     have hg:=Rx (ns:=[.slice p1 m1 k1,.slice p2 m2 k2,.slice p3 m3 k3,.slice p4 m4 k4]) (ks:=[(F x).a.1,(F x).a.2.1,(F x).b.1,(F x).b.2.1]) Q4.out hus Q3.out Q5.out hb4
      (WI (rF (td R1.out fun b hb'=>hW3.block b (R1.out.lt b hb').2) hs2) (rF (td R2.out fun b hb'=>hW3.block b (R2.out.lt b hb').2) hs2)
        (rF (td R3.out fun b hb'=>hW4.block b (R3.out.lt b hb').2) (by omega)) (rF (td R4.out fun b hb'=>hW4.block b (R4.out.lt b hb').2) (by omega))) rfl
      (Zv hn1 hn2 (fun b h=>h.elim (fun h=>(R1.out.lt b h).2) (fun h=>(R2.out.lt b h).2)) (fun b h=>h.elim (fun h=>by have:=(R3.out.lt b h).1; omega) (fun h=>by have:=(R4.out.lt b h).1; omega)))
      hb.size hgrow5 hat5
     have hpw:pb < wr.heap.size:=World.block_lt_of_cell? wr ⟨pb,po+i,none⟩ hx
     refine ⟨⟨i+1,m+1,ls++[(F x).a.1,(F x).a.2.1,(F x).b.1,(F x).b.2.1],by go_num,by omega,by have:(m:Int) ≠ 20:=by simpa using hm20
                                                                                              omega,by simp; omega,⟨?_,us++([Value.slice p1 m1 k1,Value.slice p2 m2 k2,Value.slice p3 m3 k3,Value.slice p4 m4 k4]:List Value),hown5,by simp [hus],hg.1,by have h:=hg.2; unfold u0 at h; exact h⟩,?_,?_,⟨?_⟩⟩,by simp [Proofs.intOf]; omega⟩
     ·exact Below.grown (hb.trans (hb4.mono hb.size)) hgrow5 (Nat.le_trans hb.size hb4.size) (fun j hj=>(Q3.out.lt j hj).1)
     ·rcases hat5 with h | h
      ·rw [h]; exact hvp
      ·rw [h]; intro h'; injection h' with h'; have:=hb4.size; simp at this h'; omega
     ·intro t y hy
      refine (sC (hgrow5.block pb (Nat.lt_of_lt_of_le hpw hb4.size) fun h=>hvp h.symm) _).trans ((sC (hb4.block pb hpw) _).trans (Q2.out t y hy))
     ·have hst:=hG.out
      rw [hdr.out] at hst
      rw [← hst]
      have h20:ls.length ≠ 80:=by have:(m:Int) ≠ 20:=by simpa using hm20
                                  omega
      have hb0':(F x).b.2.2=0:=by simpa using hb0
      simp [t8,he,hok,ha0,hb0',h20]
    all_goals
     have hst:=hG.out
     rw [hdr.out] at hst
     have hbx:Below w0.heap.size w0 (W4.alloc (.cells #[.slice p3 m3 k3,.slice p4 m4 k4] 32)):=by
      have h3:=hb.trans ((hB2.trans (hB3.mono hB2.size)).mono hb.size)
      have h3a:=h3.alloc h3.size (.cells #[.slice p1 m1 k1,.slice p2 m2 k2] 32)
      have h4:=h3a.trans (hB4.mono h3a.size)
      exact h4.alloc h4.size _
     refine bodyPost_ret (results_tmp3 rfl _ _ _) rfl ?_
     rw [← hst]
    ·rename_i hok ha0 hb0
     rw [jL he (.inr (.inr (by simpa using hb0)))]
     exact ⟨.slice none 0 0,0,rfl,lP hbx⟩
    ·rename_i hm20
     rw [Xz he ‹(F x).ok=true› ‹(F x).a.2.2=0› (by simpa using ‹((F x).b.2.2 != 0)=false›) (by have h20:(m:Int)=20:=(by simpa using hm20); omega)]
     exact ⟨.slice none 0 0,0,rfl,lP hbx⟩
    ·rename_i hok ha0
     rw [jL he (.inr (.inl ha0))]
     exact ⟨.slice none 0 0,0,rfl,lP hbx⟩
    ·rename_i hok
     rw [jL he (.inl (by simpa using hok))]
     exact ⟨.slice none 0 0,0,rfl,lP hbx⟩
  ·obtain rfl:i=lines.length:=by omega
   have hst:=hG.out
   rw [List.drop_length,t8] at hst
   obtain ⟨us,hown,_⟩:=hS.own
   obtain ⟨p0,k0,rfl⟩:=kV hown
   clear hown
   have Q1:Put _:=⟨hS⟩
   have Q2:Put _:=⟨hst⟩
   clear hS hLr hL hB hG hst
   go_wp2
   refine bodyPost_ret (results_tmp3 rfl _ _ _) rfl ?_
   rw [← Q2.out]
   exact ⟨_,_,rfl,Q1.out⟩
end Go.Vm
