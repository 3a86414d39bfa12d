/- The stable sort of the library, as plain functions on an array; what they come to: the one list that is in strict order. -/
import Derived.Sort.LotA
set_option linter.unusedVariables false
set_option linter.unusedSectionVars false
set_option linter.unusedSimpArgs false
namespace Go.Stb
open Go.Sort
variable {α:Type} [Inhabited α]
def swr (a b n i:Nat) (d:Array α):Array α:=if i < n then swr a b n (i+1) (swp d (a+i) (b+i)) else d
termination_by n - i
def rot (m i j:Nat) (d:Array α):Array α:=
 if i=j then swr (m - i) m i 0 d
 else if h:0 < i∧0 < j then (if j < i then rot m (i - j) j (swr (m - i) m j 0 d) else rot m i (j - i) (swr (m - i) (m+j - i) i 0 d)) else d
termination_by i+j
def bs (p:Nat→Bool) (i j:Nat):Nat:=if i < j then (if p ((i+j) / 2) then bs p ((i+j) / 2+1) j else bs p i ((i+j) / 2)) else i
termination_by j - i
def up (hi k:Nat) (d:Array α):Array α:=if k+1 < hi then up hi (k+1) (swp d k (k+1)) else d
termination_by hi - k
def pL (lo k:Nat) (d:Array α):Array α:=if lo < k then pL lo (k - 1) (swp d k (k - 1)) else d
termination_by k
section
variable (lt:α→α→Bool)
def start (a m b:Nat) (d:Array α):Nat:=
 if (a+b) / 2 < m then bs (fun c=>!lt d[(a+b) / 2+m - 1 - c]! d[c]!) ((a+b) / 2+m - b) ((a+b) / 2)
 else bs (fun c=>!lt d[(a+b) / 2+m - 1 - c]! d[c]!) a m
def sym:Nat→Nat→Nat→Nat→Array α→Array α
 | 0,_,_,_,d=>d
 | f+1,a,m,b,d=>
   if m - a=1 then up (bs (fun h=>lt d[h]! d[a]!) m b) a d
   else if b - m=1 then pL (bs (fun h=>!lt d[m]! d[h]!) a m) m d
   else
    let s:=start lt a m b d
    let e:=(a+b) / 2+m - s
    let d1:=if s < m∧m < e then rot m (m - s) (e - m) d else d
    let d2:=if a < s∧s < (a+b) / 2 then sym f a s ((a+b) / 2) d1 else d1
    if (a+b) / 2 < e∧e < b then sym f ((a+b) / 2) e b d2 else d2
def uJ (n a:Nat) (d:Array α):Array α:=if a+20 ≤ n then uJ n (a+20) (insertionSort lt d a (a+20)) else insertionSort lt d a n
termination_by n - a
def mrg (k n a:Nat) (d:Array α):Array α:=
 if h:0 < k∧a+2 * k ≤ n then mrg k n (a+2 * k) (sym lt n a (a+k) (a+2 * k) d)
 else if a+k < n then sym lt n a (a+k) n d else d
termination_by n - a
def pw (n k:Nat) (d:Array α):Array α:=if h:0 < k∧k < n then pw n (2 * k) (mrg lt k n 0 d) else d
termination_by n - k
def ql (n:Nat) (d:Array α):Array α:=pw lt n 20 (uJ lt n 0 d)
end
theorem w6 (a b n:Nat):∀ (i:Nat) (d:Array α),(swr a b n i d).size=d.size:=by
 intro i
 generalize hk:n - i=k
 induction k generalizing i with
 | zero=>intro d; rw [swr,if_neg (by omega)]
 | succ k ih=>
   intro d
   rw [swr]
   split
   ·rw [ih (i+1) (by omega),swp_size]
   ·rfl
theorem yL (m:Nat):∀ (k i j:Nat) (d:Array α),i+j ≤ k→(rot m i j d).size=d.size
 | 0,i,j,d,h=>by
   rw [rot,if_pos (by omega)]; exact w6 ..
 | k+1,i,j,d,h=>by
   rw [rot]
   split
   ·exact w6 ..
   ·split
    ·split
     ·rw [yL m k _ _ _ (by omega),w6]
     ·rw [yL m k _ _ _ (by omega),w6]
    ·rfl
theorem fR (a b n:Nat) (hab:a+n ≤ b):∀ (k i:Nat) (d:Array α),n - i=k→i ≤ n→b+n ≤ d.size→∀ q,(swr a b n i d)[q]! =
  if a+i ≤ q∧q < a+n then d[q - a+b]! else if b+i ≤ q∧q < b+n then d[q - b+a]! else d[q]!
 | 0,i,d,hk,hi,hb,q=>by
   rw [swr,if_neg (by omega),if_neg (by omega),if_neg (by omega)]
 | k+1,i,d,hk,hi,hb,q=>by
   rw [swr,if_pos (by omega),fR a b n hab k (i+1) _ (by omega) (by omega) (by rw [swp_size]; exact hb)]
   have g:=swp_get d (i:=a+i) (j:=b+i) (by omega) (by omega)
   rw [g,g,g]
   by_cases h1:q=a+i
   ·subst h1
    rw [if_neg (by omega),if_neg (by omega),if_neg (by omega),if_pos rfl,if_pos (by omega)]
    congr 1; omega
   ·by_cases h2:q=b+i
    ·subst h2
     rw [if_neg (by omega),if_neg (by omega),if_pos rfl,if_neg (by omega),if_pos (by omega)]
     congr 1; omega
    ·by_cases h3:a+i ≤ q∧q < a+n
     ·rw [if_pos (by omega),if_neg (by omega),if_neg (by omega),if_pos h3]
     ·rw [if_neg (by omega)]
      by_cases h4:b+i ≤ q∧q < b+n
      ·rw [if_pos (by omega),if_neg (by omega),if_neg (by omega),if_neg h3,if_pos h4]
      ·rw [if_neg (by omega),if_neg h2,if_neg h1,if_neg h3,if_neg h4]
theorem bn (m:Nat):∀ (k i j:Nat) (d:Array α),i+j ≤ k→0 < i→0 < j→i ≤ m→m+j ≤ d.size→∀ q,(rot m i j d)[q]! =
  if m - i ≤ q∧q < m - i+j then d[q+i]! else if m - i+j ≤ q∧q < m+j then d[q - j]! else d[q]!
 | 0,i,j,d,h,hi,hj,him,hs,q=>by omega
 | k+1,i,j,d,h,hi,hj,him,hs,q=>by
   rw [rot]
   split
   ·rename_i e
    subst e
    rw [fR (m - i) m i (by omega) i 0 d (by omega) (by omega) (by omega)]
    repeat' split
    all_goals first | rfl | (exfalso; omega) | (congr 1; omega)
   ·rename_i hne
    rw [dif_pos ⟨hi,hj⟩]
    split
    ·rename_i hlt
     have g:=fR (m - i) m j (by omega) j 0 d (by omega) (by omega) (by omega)
     rw [bn m k (i - j) j _ (by omega) (by omega) hj (by omega) (by rw [w6]; omega),g,g,g]
     repeat' split
     all_goals first | rfl | (exfalso; omega) | (congr 1; omega)
    ·rename_i hlt
     have g:=fR (m - i) (m+j - i) i (by omega) i 0 d (by omega) (by omega) (by omega)
     rw [bn m k i (j - i) _ (by omega) hi (by omega) him (by rw [w6]; omega),g,g,g]
     repeat' split
     all_goals first | rfl | (exfalso; omega) | (congr 1; omega)
theorem bO (p:Nat→Bool):∀ (k i j:Nat),j - i=k→i ≤ j→(∀ c c',i ≤ c→c ≤ c'→c' < j→p c'=true→p c=true)→
  i ≤ bs p i j∧bs p i j ≤ j∧(∀ c,i ≤ c→c < bs p i j→p c=true)∧(∀ c,bs p i j ≤ c→c < j→p c=false):=by
 intro k
 induction k using Nat.strongRecOn with
 | ind k ih=>
   intro i j hk hij hm
   rw [bs]
   split
   ·rename_i hlt
    by_cases hp:p ((i+j) / 2)=true
    ·rw [if_pos hp]
     obtain ⟨h1,h2,h3,h4⟩:=ih (j - ((i+j) / 2+1)) (by omega) ((i+j) / 2+1) j rfl (by omega) (fun c c' h1 h2 h3=>hm c c' (by omega) h2 h3)
     refine ⟨by omega,h2,fun c hc1 hc2=>?_,h4⟩
     by_cases hc:c ≤ (i+j) / 2
     ·exact hm c ((i+j) / 2) hc1 hc (by omega) hp
     ·exact h3 c (by omega) hc2
    ·rw [if_neg hp]
     obtain ⟨h1,h2,h3,h4⟩:=ih ((i+j) / 2 - i) (by omega) i ((i+j) / 2) rfl (by omega) (fun c c' h1 h2 h3=>hm c c' h1 h2 (by omega))
     refine ⟨h1,by omega,h3,fun c hc1 hc2=>?_⟩
     by_cases hc:c < (i+j) / 2
     ·exact h4 c hc1 hc
     ·cases hpc:p c with
      | false=>rfl
      | true=>exact absurd (hm ((i+j) / 2) c (by omega) (by omega) hc2 hpc) hp
   ·exact ⟨Nat.le_refl _,hij,fun c h1 h2=>by omega,fun c h1 h2=>by omega⟩
theorem FW (p:Nat→Bool):∀ (k i j:Nat),j - i=k→i ≤ j→i ≤ bs p i j∧bs p i j ≤ j:=by
 intro k
 induction k using Nat.strongRecOn with
 | ind k ih=>
   intro i j hk hij
   rw [bs]
   split
   ·split
    ·obtain ⟨h1,h2⟩:=ih (j - ((i+j) / 2+1)) (by omega) ((i+j) / 2+1) j rfl (by omega)
     exact ⟨by omega,h2⟩
    ·obtain ⟨h1,h2⟩:=ih ((i+j) / 2 - i) (by omega) i ((i+j) / 2) rfl (by omega)
     exact ⟨h1,by omega⟩
   ·exact ⟨Nat.le_refl _,hij⟩
theorem WE (hi:Nat):∀ (n k:Nat) (d:Array α),hi - k=n→k < hi→hi ≤ d.size→PermIn k hi d (up hi k d)∧
  ∀ q,(up hi k d)[q]! =if k ≤ q∧q+1 < hi then d[q+1]! else if q+1=hi then d[k]! else d[q]!
 | 0,k,d,hn,hk,hs=>by omega
 | n+1,k,d,hn,hk,hs=>by
   rw [up]
   split
   ·rename_i h
    obtain ⟨h1,h2⟩:=WE hi n (k+1) (swp d k (k+1)) (by omega) h (by rw [swp_size]; exact hs)
    refine ⟨permIn_trans _ _ _ _ _ (swp_permIn d k hi k (k+1) (Nat.le_refl _) hk (by omega) h hs) (permIn_mono _ _ _ _ k hi (by omega) (Nat.le_refl _) (by rw [swp_size]; exact hs) h1),fun q=>?_⟩
    have g:=swp_get d (i:=k) (j:=k+1) (by omega) (by omega)
    rw [h2,g,g,g]
    repeat' split
    all_goals first | rfl | (exfalso; omega) | (congr 1; omega)
   ·refine ⟨permIn_refl _ _ _,fun q=>?_⟩
    repeat' split
    all_goals first | rfl | (exfalso; omega) | (congr 1; omega)
theorem a7 (lo:Nat):∀ (n k:Nat) (d:Array α),k - lo=n→lo ≤ k→k < d.size→PermIn lo (k+1) d (pL lo k d)∧
  ∀ q,(pL lo k d)[q]! =if q=lo then d[k]! else if lo < q∧q ≤ k then d[q - 1]! else d[q]!
 | 0,k,d,hn,hk,hs=>by
   rw [pL,if_neg (by omega)]
   refine ⟨permIn_refl _ _ _,fun q=>?_⟩
   repeat' split
   all_goals first | rfl | (exfalso; omega) | (congr 1; omega)
 | n+1,k,d,hn,hk,hs=>by
   rw [pL,if_pos (by omega)]
   obtain ⟨h1,h2⟩:=a7 lo n (k - 1) (swp d k (k - 1)) (by omega) (by omega) (by rw [swp_size]; omega)
   refine ⟨permIn_trans _ _ _ _ _ (swp_permIn d lo (k+1) k (k - 1) hk (by omega) (by omega) (by omega) (by omega)) (permIn_mono _ _ _ _ lo (k+1) (Nat.le_refl _) (by omega) (by rw [swp_size]; omega) h1),fun q=>?_⟩
   have g:=swp_get d (i:=k) (j:=k - 1) (by omega) (by omega)
   rw [h2,g,g,g]
   repeat' split
   all_goals first | rfl | (exfalso; omega) | (congr 1; omega)
theorem lw (lo hi a b n:Nat) (h1:lo ≤ a) (h2:a+n ≤ hi) (h3:lo ≤ b) (h4:b+n ≤ hi):∀ (k i:Nat) (d:Array α),n - i=k→hi ≤ d.size→PermIn lo hi d (swr a b n i d)
 | 0,i,d,hk,hs=>by rw [swr,if_neg (by omega)]; exact permIn_refl _ _ _
 | k+1,i,d,hk,hs=>by
   rw [swr,if_pos (by omega)]
   exact permIn_trans _ _ _ _ _ (swp_permIn d lo hi (a+i) (b+i) (by omega) (by omega) (by omega) (by omega) hs) (lw lo hi a b n h1 h2 h3 h4 k (i+1) _ (by omega) (by rw [swp_size]; exact hs))
theorem eP (lo hi m:Nat):∀ (k i j:Nat) (d:Array α),i+j ≤ k→lo+i ≤ m→m+j ≤ hi→hi ≤ d.size→PermIn lo hi d (rot m i j d)
 | 0,i,j,d,h,h1,h2,hs=>by
   rw [rot,if_pos (by omega)]
   exact lw lo hi (m - i) m i (by omega) (by omega) (by omega) (by omega) _ 0 d rfl hs
 | k+1,i,j,d,h,h1,h2,hs=>by
   rw [rot]
   split
   ·exact lw lo hi (m - i) m i (by omega) (by omega) (by omega) (by omega) _ 0 d rfl hs
   ·split
    ·split
     ·exact permIn_trans _ _ _ _ _ (lw lo hi (m - i) m j (by omega) (by omega) (by omega) (by omega) _ 0 d rfl hs) (eP lo hi m k (i - j) j _ (by omega) (by omega) h2 (by rw [w6]; exact hs))
     ·exact permIn_trans _ _ _ _ _ (lw lo hi (m - i) (m+j - i) i (by omega) (by omega) (by omega) (by omega) _ 0 d rfl hs) (eP lo hi m k i (j - i) _ (by omega) h1 (by omega) (by rw [w6]; exact hs))
    ·exact permIn_refl _ _ _
def Ag (lt:α→α→Bool) (T:α→α→Prop) (x y:α):Prop:=(lt x y=true→T x y)∧(lt x y=false→T y x)
def p5 (T:α→α→Prop) (a b:Nat) (d:Array α):Prop:=∀ i j,a ≤ i→i < j→j < b→T d[i]! d[j]!
def OA (lt:α→α→Bool) (T:α→α→Prop) (a m b:Nat) (d:Array α):Prop:=∀ i j,a ≤ i→i < m→m ≤ j→j < b→Ag lt T d[j]! d[i]!
theorem VK {R:α→α→Prop} {a m b:Nat} {d d1 d2:Array α} (hm:m ≤ b) (hb:b ≤ d.size) (p1:PermIn a m d d1) (p2:PermIn m b d1 d2) (h:∀ i j,a ≤ i→i < m→m ≤ j→j < b→R d[i]! d[j]!):
  ∀ i j,a ≤ i→i < m→m ≤ j→j < b→R d2[i]! d2[j]! :=by
 intro i j h1 h2 h3 h4
 rw [p2.2.1 i (by omega)]
 refine permIn_all d d1 a m (fun x=>R x d2[j]!) (by omega) p1 (fun i' h1' h2'=>?_) i h1 h2
 refine permIn_all d1 d2 m b (fun y=>R d[i']! y) (by rw [p1.1]; exact hb) p2 (fun j' h3' h4'=>?_) j h3 h4
 rw [p1.2.1 j' (by omega)]
 exact h i' j' h1' h2' h3' h4'
variable {lt:α→α→Bool} {T:α→α→Prop}
theorem dF (tr:∀ x y z,T x y→T y z→T x z) (as:∀ x y,T x y→¬ T y x):∀ (f a m b:Nat) (d:Array α),b - a ≤ f→a < m→m < b→b ≤ d.size→p5 T a m d→p5 T m b d→OA lt T a m b d→
  PermIn a b d (sym lt f a m b d)∧p5 T a b (sym lt f a m b d)
 | 0,a,m,b,d,hf,ham,hmb,hs,hL,hR,hC=>by omega
 | f+1,a,m,b,d,hf,ham,hmb,hs,hL,hR,hC=>by
   have lt_T:∀ i j,a ≤ i→i < m→m ≤ j→j < b→(lt d[j]! d[i]! =true ↔ T d[j]! d[i]!):=fun i j h1 h2 h3 h4=>
    ⟨(hC i j h1 h2 h3 h4).1,fun h=>by
      cases hl:lt d[j]! d[i]! with
      | true=>rfl
      | false=>exact absurd h (as _ _ ((hC i j h1 h2 h3 h4).2 hl))⟩
   rw [sym]
   split
   ·rename_i h1
    obtain ⟨b1,b2,b3,b4⟩:=bO (fun h=>lt d[h]! d[a]!) (b - m) m b rfl (by omega) (fun c c' h1 h2 h3 hp=>by
     rw [lt_T a c (by omega) ham h1 (by omega)]
     rw [lt_T a c' (by omega) ham (by omega) h3] at hp
     by_cases he:c=c'
     ·subst he; exact hp
     ·exact tr _ _ _ (hR c c' h1 (by omega) h3) hp)
    generalize bs (fun h=>lt d[h]! d[a]!) m b=t at b1 b2 b3 b4
    obtain ⟨u1,u2⟩:=WE t (t - a) a d rfl (by omega) (by omega)
    refine ⟨permIn_mono _ _ _ _ a b (Nat.le_refl _) b2 hs u1,fun i j hi hij hj=>?_⟩
    rw [u2,u2]
    repeat' split
    all_goals first
     | (exfalso; omega)
     | exact hR _ _ (by omega) (by omega) (by omega)
     | exact (lt_T a _ (by omega) ham (by omega) (by omega)).1 (b3 _ (by omega) (by omega))
     | exact (hC a _ (by omega) ham (by omega) (by omega)).2 (b4 _ (by omega) (by omega))
   ·split
    ·rename_i _ h1
     obtain ⟨b1,b2,b3,b4⟩:=bO (fun h=>!lt d[m]! d[h]!) (m - a) a m rfl (by omega) (fun c c' h1 h2 h3 hp=>by
      simp only [Bool.not_eq_true'] at hp ⊢
      have h5:=(hC c' m (by omega) h3 (Nat.le_refl _) hmb).2 hp
      cases hl:lt d[m]! d[c]! with
      | false=>rfl
      | true=>
        have h6:=(hC c m (by omega) (by omega) (Nat.le_refl _) hmb).1 hl
        by_cases he:c=c'
        ·subst he; exact absurd h5 (as _ _ h6)
        ·exact absurd (tr _ _ _ (hL c c' h1 (by omega) h3) h5) (as _ _ h6))
     generalize bs (fun h=>!lt d[m]! d[h]!) a m=t at b1 b2 b3 b4
     obtain ⟨u1,u2⟩:=a7 t (m - t) m d rfl b2 (by omega)
     refine ⟨permIn_mono _ _ _ _ a b b1 (by omega) hs u1,fun i j hi hij hj=>?_⟩
     rw [u2,u2]
     repeat' split
     all_goals first
      | (exfalso; omega)
      | exact hL _ _ (by omega) (by omega) (by omega)
      | exact (hC _ m (by omega) (by omega) (Nat.le_refl _) hmb).1 (by simpa using b4 _ (by omega) (by omega))
      | exact (hC _ m (by omega) (by omega) (Nat.le_refl _) hmb).2 (by simpa using b3 _ (by omega) (by omega))
    ·rename_i n1 n2
     have hst:∃ s,start lt a m b d=s∧a ≤ s∧s ≤ m∧s ≤ (a+b) / 2∧(a+b) / 2+m - s ≤ b∧
       (∀ x y,a ≤ x→x < s→(a+b) / 2+m - s ≤ y→y < b→T d[x]! d[y]!)∧(∀ x y,s ≤ x→x < m→m ≤ y→y < (a+b) / 2+m - s→T d[y]! d[x]!):=by
      refine ⟨_,rfl,?_⟩
      have mono:∀ lo hi,a ≤ lo→hi ≤ m→hi ≤ (a+b) / 2→(a+b) / 2+m ≤ b+lo→∀ c c',lo ≤ c→c ≤ c'→c' < hi→(!lt d[(a+b) / 2+m - 1 - c']! d[c']!)=true→(!lt d[(a+b) / 2+m - 1 - c]! d[c]!)=true:=by
       intro lo hi l1 l2 l3 l4 c c' h1 h2 h3 hp
       simp only [Bool.not_eq_true'] at hp ⊢
       have h5:=(hC c' ((a+b) / 2+m - 1 - c') (by omega) (by omega) (by omega) (by omega)).2 hp
       cases hl:lt d[(a+b) / 2+m - 1 - c]! d[c]! with
       | false=>rfl
       | true=>
         have h6:=(hC c ((a+b) / 2+m - 1 - c) (by omega) (by omega) (by omega) (by omega)).1 hl
         by_cases he:c=c'
         ·subst he; exact absurd h5 (as _ _ h6)
         ·have h7:=tr _ _ _ (hL c c' (by omega) (by omega) (by omega)) h5
          have h8:=tr _ _ _ h7 (hR ((a+b) / 2+m - 1 - c') ((a+b) / 2+m - 1 - c) (by omega) (by omega) (by omega))
          exact absurd h8 (as _ _ h6)
      have fin:∀ lo hi,a ≤ lo→lo ≤ hi→hi ≤ m→hi ≤ (a+b) / 2→(a+b) / 2+m ≤ b+lo→(lo=a ∨ lo+b=(a+b) / 2+m)→(hi=m ∨ hi=(a+b) / 2)→
        ∀ s,bs (fun c=>!lt d[(a+b) / 2+m - 1 - c]! d[c]!) lo hi=s→a ≤ s∧s ≤ m∧s ≤ (a+b) / 2∧(a+b) / 2+m - s ≤ b∧
        (∀ x y,a ≤ x→x < s→(a+b) / 2+m - s ≤ y→y < b→T d[x]! d[y]!)∧(∀ x y,s ≤ x→x < m→m ≤ y→y < (a+b) / 2+m - s→T d[y]! d[x]!):=by
       rintro lo hi l1 l2 l3 l4 l5 l6 l7 s rfl
       obtain ⟨b1,b2,b3,b4⟩:=bO (fun c=>!lt d[(a+b) / 2+m - 1 - c]! d[c]!) (hi - lo) lo hi rfl l2 (mono lo hi l1 l3 l4 l5)
       generalize bs (fun c=>!lt d[(a+b) / 2+m - 1 - c]! d[c]!) lo hi=s at b1 b2 b3 b4
       refine ⟨by omega,by omega,by omega,by omega,fun x y h1 h2 h3 h4=>?_,fun x y h1 h2 h3 h4=>?_⟩
       ·have h5:=b3 (s - 1) (by omega) (by omega)
        simp only [Bool.not_eq_true'] at h5
        have h6:=(hC (s - 1) ((a+b) / 2+m - 1 - (s - 1)) (by omega) (by omega) (by omega) (by omega)).2 h5
        have h7:T d[x]! d[(a+b) / 2+m - 1 - (s - 1)]! :=by
         by_cases hx:x=s - 1
         ·subst hx; exact h6
         ·exact tr _ _ _ (hL x (s - 1) h1 (by omega) (by omega)) h6
        by_cases hy:y=(a+b) / 2+m - 1 - (s - 1)
        ·subst hy; exact h7
        ·exact tr _ _ _ h7 (hR _ y (by omega) (by omega) h4)
       ·have h5:=b4 s (Nat.le_refl _) (by omega)
        simp only [Bool.not_eq_false'] at h5
        have h6:=(hC s ((a+b) / 2+m - 1 - s) (by omega) (by omega) (by omega) (by omega)).1 h5
        have h7:T d[y]! d[s]! :=by
         by_cases hy:y=(a+b) / 2+m - 1 - s
         ·subst hy; exact h6
         ·exact tr _ _ _ (hR y _ h3 (by omega) (by omega)) h6
        by_cases hx:x=s
        ·subst hx; exact h7
        ·exact tr _ _ _ h7 (hL s x (by omega) (by omega) h2)
      unfold start
      split
      ·exact fin _ _ (by omega) (by omega) (by omega) (by omega) (by omega) (Or.inr (by omega)) (Or.inr rfl) _ rfl
      ·exact fin _ _ (by omega) (by omega) (by omega) (by omega) (by omega) (Or.inl rfl) (Or.inl rfl) _ rfl
     obtain ⟨s,hs0,s1,s2,s3,s4,s5,s6⟩:=hst
     rw [hs0]
     generalize hmid:(a+b) / 2=mid at *
     have hm1:a < mid∧mid < b:=by omega
     have hrot:∃ d1,(if s < m∧m < mid+m - s then rot m (m - s) (mid+m - s - m) d else d)=d1∧PermIn a b d d1∧
       ∀ q,d1[q]! =if s ≤ q∧q < mid then d[q+(m - s)]! else if mid ≤ q∧q < mid+m - s then d[q - (mid - s)]! else d[q]! :=by
      refine ⟨_,rfl,?_,fun q=>?_⟩
      ·split
       ·exact eP a b m _ _ _ d (Nat.le_refl _) (by omega) (by omega) hs
       ·exact permIn_refl _ _ _
      ·split
       ·rw [bn m _ _ _ d (Nat.le_refl _) (by omega) (by omega) (by omega) (by omega)]
        repeat' split
        all_goals first | rfl | (exfalso; omega) | (congr 1; omega)
       ·repeat' split
        all_goals first | rfl | (exfalso; omega) | (congr 1; omega)
     obtain ⟨d1,hd1,p1,g1⟩:=hrot
     simp only [hd1]
     have z1:b ≤ d1.size:=by rw [p1.1]; exact hs
     have cross1:∀ i j,a ≤ i→i < mid→mid ≤ j→j < b→T d1[i]! d1[j]! :=by
      intro i j h1 h2 h3 h4
      rw [g1,g1]
      repeat' split
      all_goals first
       | (exfalso; omega)
       | exact s6 _ _ (by omega) (by omega) (by omega) (by omega)
       | exact s5 _ _ (by omega) (by omega) (by omega) (by omega)
       | exact hL _ _ (by omega) (by omega) (by omega)
       | exact hR _ _ (by omega) (by omega) (by omega)
     have hl:∃ d2,(if a < s∧s < mid then sym lt f a s mid d1 else d1)=d2∧PermIn a mid d1 d2∧p5 T a mid d2:=by
      refine ⟨_,rfl,?_⟩
      split
      ·rename_i h
       refine dF tr as f a s mid d1 (by omega) h.1 h.2 (by omega) ?_ ?_ ?_
       ·intro i j h1 h2 h3
        rw [g1,g1]
        repeat' split
        all_goals first | (exfalso; omega) | exact hL _ _ (by omega) (by omega) (by omega)
       ·intro i j h1 h2 h3
        rw [g1,g1]
        repeat' split
        all_goals first | (exfalso; omega) | exact hR _ _ (by omega) (by omega) (by omega)
       ·intro i j h1 h2 h3 h4
        rw [g1,g1]
        repeat' split
        all_goals first | (exfalso; omega) | exact hC _ _ (by omega) (by omega) (by omega) (by omega)
      ·rename_i h
       refine ⟨permIn_refl _ _ _,fun i j h1 h2 h3=>?_⟩
       rw [g1,g1]
       repeat' split
       all_goals first | (exfalso; omega) | exact hR _ _ (by omega) (by omega) (by omega) | exact hL _ _ (by omega) (by omega) (by omega)
     obtain ⟨d2,hd2,p2,t2⟩:=hl
     simp only [hd2]
     have z2:b ≤ d2.size:=by rw [p2.1]; exact z1
     have g2:∀ q,mid ≤ q→d2[q]! =d1[q]! :=fun q hq=>p2.2.1 q (Or.inr hq)
     have hr:∃ d3,(if mid < mid+m - s∧mid+m - s < b then sym lt f mid (mid+m - s) b d2 else d2)=d3∧PermIn mid b d2 d3∧p5 T mid b d3:=by
      refine ⟨_,rfl,?_⟩
      split
      ·rename_i h
       refine dF tr as f mid (mid+m - s) b d2 (by omega) h.1 h.2 z2 ?_ ?_ ?_
       ·intro i j h1 h2 h3
        rw [g2 i h1,g2 j (by omega),g1,g1]
        repeat' split
        all_goals first | (exfalso; omega) | exact hL _ _ (by omega) (by omega) (by omega)
       ·intro i j h1 h2 h3
        rw [g2 i (by omega),g2 j (by omega),g1,g1]
        repeat' split
        all_goals first | (exfalso; omega) | exact hR _ _ (by omega) (by omega) (by omega)
       ·intro i j h1 h2 h3 h4
        rw [g2 i (by omega),g2 j (by omega),g1,g1]
        repeat' split
        all_goals first | (exfalso; omega) | exact hC _ _ (by omega) (by omega) (by omega) (by omega)
      ·rename_i h
       refine ⟨permIn_refl _ _ _,fun i j h1 h2 h3=>?_⟩
       rw [g2 i h1,g2 j (by omega),g1,g1]
       repeat' split
       all_goals first | (exfalso; omega) | exact hR _ _ (by omega) (by omega) (by omega) | exact hL _ _ (by omega) (by omega) (by omega)
     obtain ⟨d3,hd3,p3,t3⟩:=hr
     simp only [hd3]
     have c3:=VK (R:=T) (a:=a) (m:=mid) (b:=b) (d:=d1) (d1:=d2) (d2:=d3) (by omega) z1 p2 p3 cross1
     refine ⟨permIn_trans _ _ _ _ _ p1 (permIn_trans _ _ _ _ _ (permIn_mono _ _ _ _ a b (Nat.le_refl _) (by omega) z1 p2) (permIn_mono _ _ _ _ a b (by omega) (Nat.le_refl _) z2 p3)),fun i j h1 h2 h3=>?_⟩
     by_cases hi:i < mid
     ·by_cases hj:j < mid
      ·rw [p3.2.1 i (Or.inl hi),p3.2.1 j (Or.inl hj)]
       exact t2 i j h1 h2 hj
      ·exact c3 i j h1 hi (by omega) h3
     ·exact t3 i j (by omega) h2 h3
structure InsT (lt:α→α→Bool) (T:α→α→Prop) (a j i:Nat) (d:Array α):Prop where
 rest:∀ p q,a ≤ p→p < q→q ≤ i→p ≠ j→q ≠ j→T d[p]! d[q]!
 right:∀ q,j < q→q ≤ i→T d[j]! d[q]!
 ag:∀ p,a ≤ p→p < j→Ag lt T d[j]! d[p]!
theorem InsT.stop (tr:∀ x y z,T x y→T y z→T x z) {a j i:Nat} {d:Array α} (h:InsT lt T a j i d) (hs:j ≤ a ∨ lt d[j]! d[j - 1]! =false):p5 T a (i+1) d:=by
 intro p q hap hpq hqi
 by_cases hq:q=j
 ·subst hq
  rcases hs with hs | hs
  ·omega
  ·have h1:=(h.ag (q - 1) (by omega) (by omega)).2 hs
   by_cases hp:p=q - 1
   ·subst hp; exact h1
   ·exact tr _ _ _ (h.rest p (q - 1) hap (by omega) (by omega) (by omega) (by omega)) h1
 ·by_cases hp:p=j
  ·subst hp; exact h.right q hpq (by omega)
  ·exact h.rest p q hap hpq (by omega) hp hq
theorem InsT.step {a j i:Nat} {d:Array α} (h:InsT lt T a (j+1) i d) (hl:lt d[j+1]! d[j]! =true) (haj:a ≤ j) (hsz:j+1 < d.size):InsT lt T a j i (swp d (j+1) j):=by
 have g:=swp_get d hsz (show j < d.size by omega)
 have h0:=(h.ag j haj (by omega)).1 hl
 refine ⟨fun p q hap hpq hqi hp hq=>?_,fun q hjq hqi=>?_,fun p hap hpj=>?_⟩
 ·rw [g,g]
  repeat' split
  all_goals first
   | (exfalso; omega)
   | exact h.rest _ _ (by omega) (by omega) (by omega) (by omega) (by omega)
 ·rw [g,g]
  repeat' split
  all_goals first
   | (exfalso; omega)
   | exact h0
   | exact h.right _ (by omega) (by omega)
 ·rw [g,g]
  repeat' split
  all_goals first
   | (exfalso; omega)
   | exact h.ag _ (by omega) (by omega)
theorem cE (tr:∀ x y z,T x y→T y z→T x z) (a b i:Nat) (hib:i < b):
  ∀ (j:Nat) (d:Array α),a ≤ j→j ≤ i→b ≤ d.size→InsT lt T a j i d→PermIn a (i+1) d (insInner lt a j d)∧p5 T a (i+1) (insInner lt a j d)
 | 0,d,_,_,_,hI=>by
   unfold insInner
   exact ⟨permIn_refl _ _ _,hI.stop tr (Or.inl (Nat.zero_le _))⟩
 | j+1,d,haj,hji,hb,hI=>by
   unfold insInner
   split
   ·rename_i hc
    simp only [Bool.and_eq_true,decide_eq_true_eq] at hc
    have ih:=cE tr a b i hib j (swp d (j+1) j) (by omega) (by omega) (by rw [swp_size]; exact hb) (hI.step hc.2 (by omega) (by omega))
    exact ⟨permIn_trans _ _ _ _ _ (swp_permIn d a (i+1) (j+1) j haj (by omega) (by omega) (by omega) (by omega)) ih.1,ih.2⟩
   ·rename_i hc
    simp only [Bool.and_eq_true,decide_eq_true_eq,not_and,Bool.not_eq_true] at hc
    refine ⟨permIn_refl _ _ _,hI.stop tr ?_⟩
    by_cases h:j+1 > a
    ·exact Or.inr (by simpa using hc h)
    ·exact Or.inl (by omega)
theorem d5 (tr:∀ x y z,T x y→T y z→T x z) (a b:Nat) (d0:Array α) (hA:∀ i j,a ≤ i→i < j→j < b→Ag lt T d0[j]! d0[i]!):
  ∀ (n i:Nat) (d:Array α),b - i=n→a < i→i ≤ b→b ≤ d0.size→PermIn a i d0 d→p5 T a i d→PermIn a b d0 (insOuter lt a b i d)∧p5 T a b (insOuter lt a b i d)
 | 0,i,d,hn,_,hib,_,hp,hs=>by
   obtain rfl:i=b:=by omega
   rw [insOuter,if_neg (by omega)]
   exact ⟨hp,hs⟩
 | n+1,i,d,hn,hai,hib,hb,hp,hs=>by
   have hlt:i < b:=by omega
   rw [insOuter,if_pos hlt]
   have h1:=cE (lt:=lt) tr a b i hlt i d (by omega) (Nat.le_refl _) (by rw [hp.1]; exact hb) ⟨fun p q hap hpq hqi _ hq=>hs p q hap hpq (by omega),fun q h1 h2=>by omega,fun p h1 h2=>by
    rw [hp.2.1 i (Or.inr (Nat.le_refl _))]
    exact permIn_all d0 d a i (fun x=>Ag lt T d0[i]! x) (by omega) hp (fun p' h1' h2'=>hA p' i h1' h2' hlt) p h1 h2⟩
   exact d5 tr a b d0 hA n (i+1) _ (by omega) (by omega) (by omega) hb
    (permIn_trans _ _ _ _ _ (permIn_mono _ _ _ _ a (i+1) (Nat.le_refl _) (by omega) (by omega) hp) h1.1) h1.2
theorem lX (tr:∀ x y z,T x y→T y z→T x z) (a b:Nat) (d:Array α) (hA:∀ i j,a ≤ i→i < j→j < b→Ag lt T d[j]! d[i]!) (hab:a ≤ b) (hb:b ≤ d.size):
  PermIn a b d (insertionSort lt d a b)∧p5 T a b (insertionSort lt d a b):=by
 unfold insertionSort
 by_cases h:a=b
 ·subst h
  rw [insOuter,if_neg (by omega)]
  exact ⟨permIn_refl _ _ _,fun i j h1 h2 h3=>by omega⟩
 ·exact d5 tr a b d hA (b - (a+1)) (a+1) d rfl (by omega) (by omega) hb (permIn_refl _ _ _) (fun i j h1 h2 h3=>by omega)
def Good (T:α→α→Prop) (d0:Array α) (c e:Nat) (d:Array α):Prop:=p5 T c e d∧∀ i,c ≤ i→i < e→∃ i',c ≤ i'∧i' < e∧d[i]! =d0[i']!
theorem Good.congr {d0 d d':Array α} {c e:Nat} (h:Good T d0 c e d) (hd:∀ i,c ≤ i→i < e→d'[i]! =d[i]!):Good T d0 c e d':=
 ⟨fun i j h1 h2 h3=>by rw [hd i h1 (by omega),hd j (by omega) h3]; exact h.1 i j h1 h2 h3,fun i h1 h2=>by rw [hd i h1 h2]; exact h.2 i h1 h2⟩
theorem gU {d0 d d':Array α} {c e:Nat} (hs:e ≤ d.size) (hp:PermIn c e d d') (h:∀ i,c ≤ i→i < e→∃ i',c ≤ i'∧i' < e∧d[i]! =d0[i']!):∀ i,c ≤ i→i < e→∃ i',c ≤ i'∧i' < e∧d'[i]! =d0[i']! :=
 permIn_all d d' c e (fun x=>∃ i',c ≤ i'∧i' < e∧x=d0[i']!) hs hp h
theorem js {k x y:Nat} (hx:k ∣ x) (hy:k ∣ y) (h:x < y):x+k ≤ y:=by
 obtain ⟨u,rfl⟩:=hx
 obtain ⟨v,rfl⟩:=hy
 have h1:u < v:=Nat.lt_of_mul_lt_mul_left h
 calc k * u+k=k * (u+1):=by rw [Nat.mul_succ]
  _ ≤ k * v:=Nat.mul_le_mul_left _ h1
theorem X2 (tr:∀ x y z,T x y→T y z→T x z) (n:Nat) (d0:Array α) (hA:∀ i j,i < j→j < n→Ag lt T d0[j]! d0[i]!) (hn:n ≤ d0.size):
  ∀ (k a:Nat) (d:Array α),n - a=k→20 ∣ a→a ≤ n→PermIn 0 n d0 d→(∀ q,a ≤ q→d[q]! =d0[q]!)→(∀ c,20 ∣ c→c+20 ≤ a→Good T d0 c (c+20) d)→
    PermIn 0 n d0 (uJ lt n a d)∧∀ c,20 ∣ c→c < n→Good T d0 c (min (c+20) n) (uJ lt n a d):=by
 intro k
 induction k using Nat.strongRecOn with
 | ind k ih=>
   intro a d hk ha han hp hq hg
   have hz:d.size=d0.size:=hp.1
   rw [uJ]
   split
   ·rename_i h
    obtain ⟨i1,i2⟩:=lX (lt:=lt) tr a (a+20) d (fun i j h1 h2 h3=>by rw [hq i h1,hq j (by omega)]; exact hA i j h2 (by omega)) (by omega) (by omega)
    refine ih (n - (a+20)) (by omega) (a+20) _ rfl (Nat.dvd_add ha (Nat.dvd_refl _)) h (permIn_trans _ _ _ _ _ hp (permIn_mono _ _ _ _ 0 n (by omega) h (by omega) i1)) (fun q h1=>?_) (fun c hc h1=>?_)
    ·rw [i1.2.1 q (Or.inr h1)]; exact hq q (by omega)
    ·by_cases he:c=a
     ·subst he
      exact ⟨i2,gU (d:=d) (by omega) i1 fun i h1 h2=>⟨i,h1,h2,hq i h1⟩⟩
     ·have hlt:=js hc ha (by omega)
      exact (hg c hc hlt).congr fun i h2 h3=>i1.2.1 i (Or.inl (by omega))
   ·rename_i h
    obtain ⟨i1,i2⟩:=lX (lt:=lt) tr a n d (fun i j h1 h2 h3=>by rw [hq i h1,hq j (by omega)]; exact hA i j h2 h3) han (by omega)
    refine ⟨permIn_trans _ _ _ _ _ hp (permIn_mono _ _ _ _ 0 n (by omega) (Nat.le_refl _) (by omega) i1),fun c hc h1=>?_⟩
    by_cases he:c=a
    ·subst he
     rw [show min (c+20) n=n by omega]
     exact ⟨i2,gU (d:=d) (by omega) i1 fun i h1 h2=>⟨i,h1,h2,hq i h1⟩⟩
    ·have hlt:c < a:=by
      rcases Nat.lt_or_ge c a with h2 | h2
      ·exact h2
      ·exact absurd (js ha hc (by omega)) (by omega)
     have hle:=js hc ha hlt
     rw [show min (c+20) n=c+20 by omega]
     exact (hg c hc hle).congr fun i h2 h3=>i1.2.1 i (Or.inl (by omega))
theorem Uw {n:Nat} {d0 d:Array α} (hA:∀ i j,i < j→j < n→Ag lt T d0[j]! d0[i]!) {a m b:Nat} (hb:b ≤ n) (h1:Good T d0 a m d) (h2:Good T d0 m b d):OA lt T a m b d:=by
 intro i j hi him hj hjb
 obtain ⟨i',a1,a2,a3⟩:=h1.2 i hi him
 obtain ⟨j',b1,b2,b3⟩:=h2.2 j hj hjb
 rw [a3,b3]
 exact hA i' j' (by omega) (by omega)
theorem Y5 (tr:∀ x y z,T x y→T y z→T x z) (as:∀ x y,T x y→¬ T y x) {n:Nat} {d0 d:Array α} (hA:∀ i j,i < j→j < n→Ag lt T d0[j]! d0[i]!) {a m b f:Nat} (hf:b - a ≤ f) (ham:a < m) (hmb:m < b) (hb:b ≤ n) (hs:n ≤ d.size)
  (h1:Good T d0 a m d) (h2:Good T d0 m b d):PermIn a b d (sym lt f a m b d)∧Good T d0 a b (sym lt f a m b d):=by
 obtain ⟨s1,s2⟩:=dF tr as f a m b d hf ham hmb (by omega) h1.1 h2.1 (Uw hA hb h1 h2)
 refine ⟨s1,s2,gU (by omega) s1 fun i hi hib=>?_⟩
 by_cases h:i < m
 ·obtain ⟨i',a1,a2,a3⟩:=h1.2 i hi h
  exact ⟨i',a1,by omega,a3⟩
 ·obtain ⟨i',a1,a2,a3⟩:=h2.2 i (by omega) hib
  exact ⟨i',by omega,a2,a3⟩
theorem PX (tr:∀ x y z,T x y→T y z→T x z) (as:∀ x y,T x y→¬ T y x) (n k:Nat) (hk0:0 < k) (d0:Array α) (hA:∀ i j,i < j→j < n→Ag lt T d0[j]! d0[i]!) (hn:n ≤ d0.size):
  ∀ (r a:Nat) (d:Array α),n - a=r→2 * k ∣ a→a ≤ n→PermIn 0 n d0 d→(∀ c,2 * k ∣ c→c+2 * k ≤ a→Good T d0 c (c+2 * k) d)→(∀ c,k ∣ c→a ≤ c→c < n→Good T d0 c (min (c+k) n) d)→
    PermIn 0 n d0 (mrg lt k n a d)∧∀ c,2 * k ∣ c→c < n→Good T d0 c (min (c+2 * k) n) (mrg lt k n a d):=by
 intro r
 induction r using Nat.strongRecOn with
 | ind r ih=>
   intro a d hr ha han hp hg ht
   have hz:d.size=d0.size:=hp.1
   have hka:k ∣ a:=Nat.dvd_trans (Nat.dvd_mul_left k 2) ha
   have hka':k ∣ a+k:=Nat.dvd_add hka (Nat.dvd_refl _)
   have below:∀ c,2 * k ∣ c→c < a→c+2 * k ≤ a:=fun c hc h=>js hc ha h
   have above:∀ c,2 * k ∣ c→c ≠ a→¬ c < a→a+2 * k ≤ c:=fun c hc h1 h2=>js ha hc (by omega)
   rw [mrg]
   split
   ·rename_i h
    have g1:=ht a hka (Nat.le_refl _) (by omega)
    have g2:=ht (a+k) hka' (by omega) (by omega)
    rw [show min (a+k) n=a+k by omega] at g1
    rw [show min (a+k+k) n=a+2 * k by omega] at g2
    obtain ⟨i1,i2⟩:=Y5 tr as hA (f:=n) (by omega) (by omega) (by omega) h.2 (by omega) g1 g2
    refine ih (n - (a+2 * k)) (by omega) (a+2 * k) _ rfl (Nat.dvd_add ha (Nat.dvd_refl _)) h.2 (permIn_trans _ _ _ _ _ hp (permIn_mono _ _ _ _ 0 n (by omega) h.2 (by omega) i1)) (fun c hc h1=>?_) (fun c hc h1 h2=>?_)
    ·by_cases he:c=a
     ·subst he; exact i2
     ·have hle:=below c hc (by omega)
      exact (hg c hc hle).congr fun i h2 h3=>i1.2.1 i (Or.inl (by omega))
    ·exact (ht c hc (by omega) h2).congr fun i h3 h4=>i1.2.1 i (Or.inr (by omega))
   ·rename_i h
    split
    ·rename_i h'
     have g1:=ht a hka (Nat.le_refl _) (by omega)
     have g2:=ht (a+k) hka' (by omega) h'
     rw [show min (a+k) n=a+k by omega] at g1
     rw [show min (a+k+k) n=n by omega] at g2
     obtain ⟨i1,i2⟩:=Y5 tr as hA (f:=n) (by omega) (by omega) h' (Nat.le_refl _) (by omega) g1 g2
     refine ⟨permIn_trans _ _ _ _ _ hp (permIn_mono _ _ _ _ 0 n (by omega) (Nat.le_refl _) (by omega) i1),fun c hc h1=>?_⟩
     by_cases he:c=a
     ·subst he
      rw [show min (c+2 * k) n=n by omega]
      exact i2
     ·by_cases hlt:c < a
      ·have hle:=below c hc hlt
       rw [show min (c+2 * k) n=c+2 * k by omega]
       exact (hg c hc hle).congr fun i h2 h3=>i1.2.1 i (Or.inl (by omega))
      ·have:=above c hc he hlt; omega
    ·rename_i h'
     refine ⟨hp,fun c hc h1=>?_⟩
     by_cases he:c=a
     ·subst he
      have g1:=ht c hka (Nat.le_refl _) h1
      rw [show min (c+k) n=n by omega] at g1
      rw [show min (c+2 * k) n=n by omega]
      exact g1
     ·by_cases hlt:c < a
      ·have hle:=below c hc hlt
       rw [show min (c+2 * k) n=c+2 * k by omega]
       exact hg c hc hle
      ·have:=above c hc he hlt; omega
theorem XN (tr:∀ x y z,T x y→T y z→T x z) (as:∀ x y,T x y→¬ T y x) (n:Nat) (d0:Array α) (hA:∀ i j,i < j→j < n→Ag lt T d0[j]! d0[i]!) (hn:n ≤ d0.size):
  ∀ (r k:Nat) (d:Array α),n - k=r→0 < k→PermIn 0 n d0 d→(∀ c,k ∣ c→c < n→Good T d0 c (min (c+k) n) d)→PermIn 0 n d0 (pw lt n k d)∧p5 T 0 n (pw lt n k d):=by
 intro r
 induction r using Nat.strongRecOn with
 | ind r ih=>
   intro k d hr hk hp hg
   rw [pw]
   split
   ·rename_i h
    obtain ⟨m1,m2⟩:=PX tr as n k hk d0 hA hn (n - 0) 0 d rfl (Nat.dvd_zero _) (Nat.zero_le _) hp (fun c hc h=>by omega) (fun c hc _ h=>hg c hc h)
    exact ih (n - 2 * k) (by omega) (2 * k) _ rfl (by omega) m1 m2
   ·rename_i h
    refine ⟨hp,?_⟩
    by_cases h0:n=0
    ·subst h0; intro i j h1 h2 h3; omega
    ·have:=(hg 0 (Nat.dvd_zero _) (by omega)).1
     rwa [show min (0+k) n=n by omega] at this
theorem X9 (tr:∀ x y z,T x y→T y z→T x z) (as:∀ x y,T x y→¬ T y x) (n:Nat) (d:Array α) (hA:∀ i j,i < j→j < n→Ag lt T d[j]! d[i]!) (hn:n ≤ d.size):
  PermIn 0 n d (ql lt n d)∧p5 T 0 n (ql lt n d):=by
 obtain ⟨b1,b2⟩:=X2 (lt:=lt) tr n d hA hn (n - 0) 0 d rfl (Nat.dvd_zero _) (Nat.zero_le _) (permIn_refl _ _ _) (fun _ _=>rfl) (fun c hc h=>by omega)
 exact XN tr as n d hA hn (n - 20) 20 _ rfl (by omega) b1 b2
end Go.Stb
