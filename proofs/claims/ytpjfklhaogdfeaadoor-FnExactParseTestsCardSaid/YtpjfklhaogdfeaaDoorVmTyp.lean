/- Lists of a kind, as the abstract machine's cells; rows of a kind; the machine's operations on them. -/
import Derived.Test.YtpjfklhaogdfeaaDoorVmCps
import Derived.KernelRfl
import Derived.Laws.Strings
set_option linter.unusedSectionVars false
set_option linter.unusedSimpArgs false
set_option linter.unusedVariables false
namespace Go.Vm
structure Enc (α:Type) where
 sz:Nat
 enc:α→List D
 dec:List D→Option α
 len:∀ x,(enc x).length=sz
 pos:0 < sz
 dcd:∀ xs x,dec xs=some x→xs=enc x
 edc:∀ x,dec (enc x)=some x
def UN:List D→Option Int
 | [.int .i64 n]=>some n
 | _=>none
theorem SH:∀ xs x,UN xs=some x→xs=[D.int .i64 x]:=by
 intro xs x h
 unfold UN at h
 split at h
 ·cases h; rfl
 ·cases h
def cI:Enc Int:=⟨1,fun n=>[.int .i64 n],UN,fun _=>rfl,by decide,SH,fun _=>rfl⟩
def VM:List D→Option (List UInt8)
 | [.str s]=>some s.data.toList
 | _=>none
theorem R0:∀ xs x,VM xs=some x→xs=[sD x]:=by
 intro xs x h
 unfold VM at h
 split at h
 ·cases h; rfl
 ·cases h
def cS:Enc (List UInt8):=⟨1,fun s=>[sD s],VM,fun _=>rfl,by decide,R0,fun _=>rfl⟩
def VS:List D→Option Bool
 | [.bool b]=>some b
 | _=>none
theorem R9:∀ xs x,VS xs=some x→xs=[D.bool x]:=by
 intro xs x h
 unfold VS at h
 split at h
 ·cases h; rfl
 ·cases h
def cB:Enc Bool:=⟨1,fun b=>[.bool b],VS,fun _=>rfl,by decide,R9,fun _=>rfl⟩
def UV:List D→Option Int
 | [.int .u8 n]=>some n
 | _=>none
theorem T3:∀ xs x,UV xs=some x→xs=[D.int .u8 x]:=by
 intro xs x h
 unfold UV at h
 split at h
 ·cases h; rfl
 ·cases h
def c8:Enc Int:=⟨1,fun n=>[.int .u8 n],UV,fun _=>rfl,by decide,T3,fun _=>rfl⟩
def zf {α:Type} (c:Enc α) (l:List α):List D:=l.flatMap c.enc
def zb {α:Type} (c:Enc α) (l:List α):D:= .lst l.length (zf c l)
def zP {α:Type} (c:Enc α) (e:Nat) (cap:Option Nat) (l:List α):O:= .row e c.sz l.length cap (zf c l)
def zx {α:Type} (c:Enc α) (e:Nat) (cap:Option Nat) (lk:Bool) (l:List α):X:= .own e c.sz l.length cap (zf c l) lk
def idx {α:Type} (l:List α) (i:Int):Option α:=if 0 ≤ i then l[i.toNat]? else none
def qx (l:List UInt8) (i:Int):Option Int:=(idx l i).map fun b=>(b.toNat:Int)
def LY {α:Type} (l:List α) (i:Int) (x:α):List α:=l.set i.toNat x
def cut {α:Type} (l:List α) (lo hi:Int):Option (List α):=if 0 ≤ lo∧lo ≤ hi∧hi ≤ l.length then some ((l.drop lo.toNat).take (hi - lo).toNat) else none
section
variable {α:Type} (c:Enc α)
theorem yI (l:List α):(zf c l).length=l.length * c.sz:=by
 induction l with
 | nil=>simp [zf]
 | cons x l ih=>
   have:zf c (x :: l)=c.enc x++zf c l:=by simp [zf]
   rw [this,List.length_append,ih,c.len,List.length_cons,Nat.succ_mul,Nat.add_comm]
theorem qe (l l':List α):zf c (l++l')=zf c l++zf c l':=by simp [zf]
theorem rf:∀ (l:List α) (n:Nat),(zf c l).drop (n * c.sz)=zf c (l.drop n)
 | [],n=>by simp [zf]
 | x :: l,0=>by simp
 | x :: l,n+1=>by
   have:zf c (x :: l)=c.enc x++zf c l:=by simp [zf]
   rw [this,List.drop_append,List.drop_eq_nil_of_le (by rw [c.len,Nat.succ_mul]; omega),c.len,List.nil_append,Nat.succ_mul,Nat.add_sub_cancel,List.drop_succ_cons,rf l n]
theorem rh:∀ (l:List α) (n:Nat),(zf c l).take (n * c.sz)=zf c (l.take n)
 | [],n=>by simp [zf]
 | x :: l,0=>by simp [zf]
 | x :: l,n+1=>by
   have h1:zf c (x :: l)=c.enc x++zf c l:=by simp [zf]
   have h2:zf c (x :: l.take n)=c.enc x++zf c (l.take n):=by simp [zf]
   rw [h1,List.take_append,List.take_of_length_le (by rw [c.len,Nat.succ_mul]; omega),c.len,Nat.succ_mul,Nat.add_sub_cancel,List.take_succ_cons,h2,rh l n]
theorem pA {l:List α} {n:Nat} {x:α} (h:l[n]? =some x):(zf c l).drop (n * c.sz)=c.enc x++zf c (l.drop (n+1)):=by
 rw [rf]
 have hn:n < l.length:=by
  apply Classical.byContradiction
  intro hn
  rw [List.getElem?_eq_none (by omega)] at h; cases h
 have:l.drop n=x :: l.drop (n+1):=by
  rw [List.drop_eq_getElem_cons hn]
  rw [List.getElem?_eq_getElem hn] at h
  injection h with h; rw [h]
 rw [this]; simp [zf]
theorem Yp (l:List α) (lo hi:Int) (h:0 ≤ lo∧lo ≤ hi∧hi ≤ l.length):
  ((zf c l).drop (lo.toNat * c.sz)).take ((hi.toNat - lo.toNat) * c.sz)=zf c ((l.drop lo.toNat).take (hi - lo).toNat):=by
 rw [rf,rh,show hi.toNat - lo.toNat=(hi - lo).toNat by omega]
theorem bv (l:List α) (lo hi:Int) (h:0 ≤ lo∧lo ≤ hi∧hi ≤ l.length):((l.drop lo.toNat).take (hi - lo).toNat).length=hi.toNat - lo.toNat:=by
 simp only [List.length_take,List.length_drop]; omega
end
theorem dq (n:Nat) (k k':IntKind) (lo hi:Int):uc n true true [.d (.int k lo),.d (.int k' hi)]=if 0 ≤ lo∧lo ≤ hi∧hi ≤ n then some (lo.toNat,hi.toNat) else none:=by
 simp [uc]
theorem ep (n:Nat) (k:IntKind) (lo:Int):uc n true false [.d (.int k lo)]=if 0 ≤ lo∧lo ≤ (n:Int)∧(n:Int) ≤ n then some (lo.toNat,(n:Int).toNat) else none:=by
 simp [uc]
theorem dU (n:Nat) (k:IntKind) (hi:Int):uc n false true [.d (.int k hi)]=if (0:Int) ≤ 0∧0 ≤ hi∧hi ≤ (n:Int) then some ((0:Int).toNat,hi.toNat) else none:=by
 simp [uc]
theorem Vv {α:Type} (c:Enc α) (l:List α) (lo hi:Int):((if 0 ≤ lo∧lo ≤ hi∧hi ≤ (l.length:Int) then some (lo.toNat,hi.toNat) else none).bind fun (p:Nat×Nat)=>
   if p.1 * c.sz ≤ (zf c l).length then ok (.d (.lst (p.2 - p.1) (((zf c l).drop (p.1 * c.sz)).take ((p.2 - p.1) * c.sz)))) else none)=(cut l lo hi).bind fun l'=>some (.val (.d (zb c l')) []):=by
 unfold cut
 by_cases h:0 ≤ lo∧lo ≤ hi∧hi ≤ l.length
 ·rw [if_pos h,if_pos h]
  simp only [Option.bind_some,zb,ok]
  rw [if_pos (by rw [yI]; exact Nat.mul_le_mul_right _ (by omega)),Yp c l lo hi h,bv l lo hi h]
 ·rw [if_neg h,if_neg h]; rfl
theorem XO (l:List UInt8) (a b:Nat) (h:a ≤ b) (h':b ≤ l.length):(D.str ((ByteArray.mk l.toArray).extract a b))=sD ((l.drop a).take (b - a)):=by
 unfold sD
 congr 1
 apply ByteArray.ext
 apply Array.ext'
 rw [ByteArray.data_extract]
 simp [List.take_drop]
theorem Wv (l:List UInt8) (lo hi:Int):((if 0 ≤ lo∧lo ≤ hi∧hi ≤ (l.length:Int) then some (lo.toNat,hi.toNat) else none).bind fun (p:Nat×Nat)=>
   ok (.d (.str ((ByteArray.mk l.toArray).extract p.1 p.2))))=(cut l lo hi).bind fun l'=>some (.val (.d (sD l')) []):=by
 unfold cut
 by_cases h:0 ≤ lo∧lo ≤ hi∧hi ≤ l.length
 ·rw [if_pos h,if_pos h]
  simp only [Option.bind_some,ok]
  rw [XO l lo.toNat hi.toNat (by omega) (by omega),show hi.toNat - lo.toNat=(hi - lo).toNat by omega]
 ·rw [if_neg h,if_neg h]; rfl
section
variable {Γ:Ctx} {ob:Nat→Ob} {d:Nat} {α:Type} (c:Enc α)
theorem N2 (l:List α) (s:Nat) (k:IntKind) (i:Int) (hs:s=c.sz):eval Γ ob d (.ia s) [.d (zb c l),.d (.int k i)]=
  (idx l i).bind fun x=>some (.val (.cp (c.enc x++zf c (l.drop (i.toNat+1)))) []):=by
 subst hs
 simp only [eval,mi,zb,idx,ok]
 by_cases h0:0 ≤ i
 ·rw [if_pos h0]
  cases h1:l[i.toNat]? with
  | none=>
    have:l.length ≤ i.toNat:=List.getElem?_eq_none_iff.mp h1
    rw [if_neg (by omega)]; rfl
  | some x=>
    have hn:i.toNat < l.length:=by
     apply Classical.byContradiction
     intro hn
     rw [List.getElem?_eq_none (by omega)] at h1; cases h1
    rw [if_pos ⟨h0,by omega,by rw [yI]; exact Nat.mul_le_mul_right _ (by omega)⟩]
    simp only [Option.bind_some,pA c h1]
 ·rw [if_neg h0,if_neg (by omega)]; rfl
theorem Oy (l:List α):eval Γ ob d (.len false) [.d (zb c l)]=some (.val (.d (.int .i64 l.length)) []):=rfl
theorem Rv (l:List α) (s:Nat) (k k':IntKind) (lo hi:Int) (hs:s=c.sz):eval Γ ob d (.slc false s true true) [.d (zb c l),.d (.int k lo),.d (.int k' hi)]=
  (cut l lo hi).bind fun l'=>some (.val (.d (zb c l')) []):=by
 subst hs
 rw [← Vv c l lo hi,← dq l.length k k' lo hi]; rfl
theorem RW (l:List α) (s:Nat) (k:IntKind) (lo:Int) (hs:s=c.sz):eval Γ ob d (.slc false s true false) [.d (zb c l),.d (.int k lo)]=
  (cut l lo l.length).bind fun l'=>some (.val (.d (zb c l')) []):=by
 subst hs
 rw [← Vv c l lo l.length,← ep l.length k lo]; rfl
theorem SR (l:List α) (s:Nat) (k:IntKind) (hi:Int) (hs:s=c.sz):eval Γ ob d (.slc false s false true) [.d (zb c l),.d (.int k hi)]=
  (cut l 0 hi).bind fun l'=>some (.val (.d (zb c l')) []):=by
 subst hs
 rw [← Vv c l 0 hi,← dU l.length k hi]; rfl
theorem PV (l:List UInt8) (k:IntKind) (i:Int):eval Γ ob d .ixs [.d (sD l),.d (.int k i)]=(qx l i).bind fun b=>some (.val (.d (.int .u8 b)) []):=by
 simp only [eval,sD,qx,idx,ok]
 have hs:(ByteArray.mk l.toArray).size=l.length:=rfl
 rw [hs]
 by_cases h0:0 ≤ i
 ·rw [if_pos h0]
  cases h1:l[i.toNat]? with
  | none=>
    have:l.length ≤ i.toNat:=List.getElem?_eq_none_iff.mp h1
    rw [if_neg (by omega)]; rfl
  | some x=>
    have hn:i.toNat < l.length:=by
     apply Classical.byContradiction
     intro hn
     rw [List.getElem?_eq_none (by omega)] at h1; cases h1
    rw [if_pos ⟨h0,by omega⟩]
    simp [h1]
 ·rw [if_neg h0,if_neg (by omega)]; rfl
def qR (l:List Int):List UInt8:=l.map fun n=>UInt8.ofNat n.toNat
theorem lO:∀ (l:List Int),sX (zf c8 l)=some (qR l)
 | []=>rfl
 | x :: l=>by
   have h:zf c8 (x :: l)= .int .u8 x :: zf c8 l:=rfl
   rw [h]
   simp only [sX,lO l,Option.map_some,qR,List.map_cons]
theorem Oi (l:List Int):eval Γ ob d .b2s [.d (zb c8 l)]=some (.val (.d (sD (qR l))) []):=by
 have h:(zf c8 l).length=l.length:=by rw [yI]; exact Nat.mul_one _
 simp only [eval,yk,zb,Option.bind_some,h,if_true,lO,ok,sD]
theorem Sq (l:List UInt8):eval Γ ob d (.len true) [.d (sD l)]=some (.val (.d (.int .i64 l.length)) []):=rfl
theorem Ue (l:List UInt8) (s:Nat) (k k':IntKind) (lo hi:Int):eval Γ ob d (.slc true s true true) [.d (sD l),.d (.int k lo),.d (.int k' hi)]=
  (cut l lo hi).bind fun l'=>some (.val (.d (sD l')) []):=by
 rw [← Wv l lo hi,← dq l.length k k' lo hi]; rfl
theorem Uw (l:List UInt8) (s:Nat) (k:IntKind) (lo:Int):eval Γ ob d (.slc true s true false) [.d (sD l),.d (.int k lo)]=
  (cut l lo l.length).bind fun l'=>some (.val (.d (sD l')) []):=by
 rw [← Wv l lo l.length,← ep l.length k lo]; rfl
theorem WV (l:List UInt8) (s:Nat) (k:IntKind) (hi:Int):eval Γ ob d (.slc true s false true) [.d (sD l),.d (.int k hi)]=
  (cut l 0 hi).bind fun l'=>some (.val (.d (sD l')) []):=by
 rw [← Wv l 0 hi,← dU l.length k hi]; rfl
theorem ya {a b:List UInt8}:sD a=sD b ↔ a=b:=by
 constructor
 ·intro h; unfold sD at h; injection h with h; injection h with h
  have:=congrArg Array.toList h
  simpa using this
 ·rintro rfl; rfl
theorem mB (l:List UInt8):(ByteArray.mk l.toArray).toList=l:=by
 rw [ByteArray.toList_eq]
end
end Go.Vm
