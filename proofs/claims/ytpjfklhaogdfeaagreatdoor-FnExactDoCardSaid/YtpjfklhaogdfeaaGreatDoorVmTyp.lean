/- Lists of a kind, as the abstract machine's cells; rows of a kind; the machine's operations on them. -/
import Derived.Test.YtpjfklhaogdfeaaGreatDoorVmCps
import Derived.KernelRfl
import Derived.Laws.Strings
set_option linter.unusedSectionVars false
set_option linter.unusedSimpArgs false
set_option linter.unusedVariables false
namespace Go.Vm
structure Enc (α:Type) where
 sz:Nat
 enc:α→List D
 dec:List D→Option α
 len:∀ x,(enc x).length=sz
 pos:0 < sz
 dcd:∀ xs x,dec xs=some x→xs=enc x
 edc:∀ x,dec (enc x)=some x
def UN:List D→Option Int
 | [.int .i64 n]=>some n
 | _=>none
theorem Om:∀ xs x,UN xs=some x→xs=[D.int .i64 x]:=by
 intro xs x h
 unfold UN at h
 split at h
 ·cases h; rfl
 ·cases h
def cI:Enc Int:=⟨1,fun n=>[.int .i64 n],UN,fun _=>rfl,by decide,Om,fun _=>rfl⟩
def Sf:List D→Option (List UInt8)
 | [.str s]=>some s.data.toList
 | _=>none
theorem PW:∀ xs x,Sf xs=some x→xs=[sD x]:=by
 intro xs x h
 unfold Sf at h
 split at h
 ·cases h; rfl
 ·cases h
def cS:Enc (List UInt8):=⟨1,fun s=>[sD s],Sf,fun _=>rfl,by decide,PW,fun _=>rfl⟩
def Sx:List D→Option Bool
 | [.bool b]=>some b
 | _=>none
theorem Qp:∀ xs x,Sx xs=some x→xs=[D.bool x]:=by
 intro xs x h
 unfold Sx at h
 split at h
 ·cases h; rfl
 ·cases h
def cB:Enc Bool:=⟨1,fun b=>[.bool b],Sx,fun _=>rfl,by decide,Qp,fun _=>rfl⟩
def SD:List D→Option Int
 | [.int .u8 n]=>some n
 | _=>none
theorem QB:∀ xs x,SD xs=some x→xs=[D.int .u8 x]:=by
 intro xs x h
 unfold SD at h
 split at h
 ·cases h; rfl
 ·cases h
def c8:Enc Int:=⟨1,fun n=>[.int .u8 n],SD,fun _=>rfl,by decide,QB,fun _=>rfl⟩
def zb {α:Type} (c:Enc α) (l:List α):List D:=l.flatMap c.enc
def zh {α:Type} (c:Enc α) (l:List α):D:= .lst l.length (zb c l)
def zY {α:Type} (c:Enc α) (e:Nat) (cap:Option Nat) (l:List α):O:= .row e c.sz l.length cap (zb c l)
def zP {α:Type} (c:Enc α) (e:Nat) (cap:Option Nat) (lk:Bool) (l:List α):X:= .own e c.sz l.length cap (zb c l) lk
def idx {α:Type} (l:List α) (i:Int):Option α:=if 0 ≤ i then l[i.toNat]? else none
def pZ (l:List UInt8) (i:Int):Option Int:=(idx l i).map fun b=>(b.toNat:Int)
def IE {α:Type} (l:List α) (i:Int) (x:α):List α:=l.set i.toNat x
def cut {α:Type} (l:List α) (lo hi:Int):Option (List α):=if 0 ≤ lo∧lo ≤ hi∧hi ≤ l.length then some ((l.drop lo.toNat).take (hi - lo).toNat) else none
section
variable {α:Type} (c:Enc α)
theorem yM (l:List α):(zb c l).length=l.length * c.sz:=by
 induction l with
 | nil=>simp [zb]
 | cons x l ih=>
   have:zb c (x :: l)=c.enc x++zb c l:=by simp [zb]
   rw [this,List.length_append,ih,c.len,List.length_cons,Nat.succ_mul,Nat.add_comm]
theorem qE (l l':List α):zb c (l++l')=zb c l++zb c l':=by simp [zb]
theorem rL:∀ (l:List α) (n:Nat),(zb c l).drop (n * c.sz)=zb c (l.drop n)
 | [],n=>by simp [zb]
 | x :: l,0=>by simp
 | x :: l,n+1=>by
   have:zb c (x :: l)=c.enc x++zb c l:=by simp [zb]
   rw [this,List.drop_append,List.drop_eq_nil_of_le (by rw [c.len,Nat.succ_mul]; omega),c.len,List.nil_append,Nat.succ_mul,Nat.add_sub_cancel,List.drop_succ_cons,rL l n]
theorem rN:∀ (l:List α) (n:Nat),(zb c l).take (n * c.sz)=zb c (l.take n)
 | [],n=>by simp [zb]
 | x :: l,0=>by simp [zb]
 | x :: l,n+1=>by
   have h1:zb c (x :: l)=c.enc x++zb c l:=by simp [zb]
   have h2:zb c (x :: l.take n)=c.enc x++zb c (l.take n):=by simp [zb]
   rw [h1,List.take_append,List.take_of_length_le (by rw [c.len,Nat.succ_mul]; omega),c.len,Nat.succ_mul,Nat.add_sub_cancel,List.take_succ_cons,h2,rN l n]
theorem oA {l:List α} {n:Nat} {x:α} (h:l[n]? =some x):(zb c l).drop (n * c.sz)=c.enc x++zb c (l.drop (n+1)):=by
 rw [rL]
 have hn:n < l.length:=by
  apply Classical.byContradiction
  intro hn
  rw [List.getElem?_eq_none (by omega)] at h; cases h
 have:l.drop n=x :: l.drop (n+1):=by
  rw [List.drop_eq_getElem_cons hn]
  rw [List.getElem?_eq_getElem hn] at h
  injection h with h; rw [h]
 rw [this]; simp [zb]
theorem VP (l:List α) (lo hi:Int) (h:0 ≤ lo∧lo ≤ hi∧hi ≤ l.length):
  ((zb c l).drop (lo.toNat * c.sz)).take ((hi.toNat - lo.toNat) * c.sz)=zb c ((l.drop lo.toNat).take (hi - lo).toNat):=by
 rw [rL,rN,show hi.toNat - lo.toNat=(hi - lo).toNat by omega]
theorem Zq (l:List α) (lo hi:Int) (h:0 ≤ lo∧lo ≤ hi∧hi ≤ l.length):((l.drop lo.toNat).take (hi - lo).toNat).length=hi.toNat - lo.toNat:=by
 simp only [List.length_take,List.length_drop]; omega
end
theorem cU (n:Nat) (k k':IntKind) (lo hi:Int):ub n true true [.d (.int k lo),.d (.int k' hi)]=if 0 ≤ lo∧lo ≤ hi∧hi ≤ n then some (lo.toNat,hi.toNat) else none:=by
 simp [ub]
theorem bC (n:Nat) (k:IntKind) (lo:Int):ub n true false [.d (.int k lo)]=if 0 ≤ lo∧lo ≤ (n:Int)∧(n:Int) ≤ n then some (lo.toNat,(n:Int).toNat) else none:=by
 simp [ub]
theorem bf (n:Nat) (k:IntKind) (hi:Int):ub n false true [.d (.int k hi)]=if (0:Int) ≤ 0∧0 ≤ hi∧hi ≤ (n:Int) then some ((0:Int).toNat,hi.toNat) else none:=by
 simp [ub]
theorem Sj {α:Type} (c:Enc α) (l:List α) (lo hi:Int):((if 0 ≤ lo∧lo ≤ hi∧hi ≤ (l.length:Int) then some (lo.toNat,hi.toNat) else none).bind fun (p:Nat×Nat)=>
   if p.1 * c.sz ≤ (zb c l).length then ok (.d (.lst (p.2 - p.1) (((zb c l).drop (p.1 * c.sz)).take ((p.2 - p.1) * c.sz)))) else none)=(cut l lo hi).bind fun l'=>some (.val (.d (zh c l')) []):=by
 unfold cut
 by_cases h:0 ≤ lo∧lo ≤ hi∧hi ≤ l.length
 ·rw [if_pos h,if_pos h]
  simp only [Option.bind_some,zh,ok]
  rw [if_pos (by rw [yM]; exact Nat.mul_le_mul_right _ (by omega)),VP c l lo hi h,Zq l lo hi h]
 ·rw [if_neg h,if_neg h]; rfl
theorem WA (l:List UInt8) (a b:Nat) (h:a ≤ b) (h':b ≤ l.length):(D.str ((ByteArray.mk l.toArray).extract a b))=sD ((l.drop a).take (b - a)):=by
 unfold sD
 congr 1
 apply ByteArray.ext
 apply Array.ext'
 rw [ByteArray.data_extract]
 simp [List.take_drop]
theorem SF (l:List UInt8) (lo hi:Int):((if 0 ≤ lo∧lo ≤ hi∧hi ≤ (l.length:Int) then some (lo.toNat,hi.toNat) else none).bind fun (p:Nat×Nat)=>
   ok (.d (.str ((ByteArray.mk l.toArray).extract p.1 p.2))))=(cut l lo hi).bind fun l'=>some (.val (.d (sD l')) []):=by
 unfold cut
 by_cases h:0 ≤ lo∧lo ≤ hi∧hi ≤ l.length
 ·rw [if_pos h,if_pos h]
  simp only [Option.bind_some,ok]
  rw [WA l lo.toNat hi.toNat (by omega) (by omega),show hi.toNat - lo.toNat=(hi - lo).toNat by omega]
 ·rw [if_neg h,if_neg h]; rfl
section
variable {Γ:Ctx} {ob:Nat→Ob} {d:Nat} {α:Type} (c:Enc α)
theorem Kg (l:List α) (s:Nat) (k:IntKind) (i:Int) (hs:s=c.sz):eval Γ ob d (.ia s) [.d (zh c l),.d (.int k i)]=
  (idx l i).bind fun x=>some (.val (.cp (c.enc x++zb c (l.drop (i.toNat+1)))) []):=by
 subst hs
 simp only [eval,lA,zh,idx,ok]
 by_cases h0:0 ≤ i
 ·rw [if_pos h0]
  cases h1:l[i.toNat]? with
  | none=>
    have:l.length ≤ i.toNat:=List.getElem?_eq_none_iff.mp h1
    rw [if_neg (by omega)]; rfl
  | some x=>
    have hn:i.toNat < l.length:=by
     apply Classical.byContradiction
     intro hn
     rw [List.getElem?_eq_none (by omega)] at h1; cases h1
    rw [if_pos ⟨h0,by omega,by rw [yM]; exact Nat.mul_le_mul_right _ (by omega)⟩]
    simp only [Option.bind_some,oA c h1]
 ·rw [if_neg h0,if_neg (by omega)]; rfl
theorem Mq (l:List α):eval Γ ob d (.len false) [.d (zh c l)]=some (.val (.d (.int .i64 l.length)) []):=rfl
theorem Ry (l:List α) (s:Nat) (k k':IntKind) (lo hi:Int) (hs:s=c.sz):eval Γ ob d (.slc false s true true) [.d (zh c l),.d (.int k lo),.d (.int k' hi)]=
  (cut l lo hi).bind fun l'=>some (.val (.d (zh c l')) []):=by
 subst hs
 rw [← Sj c l lo hi,← cU l.length k k' lo hi]; rfl
theorem P4 (l:List α) (s:Nat) (k:IntKind) (lo:Int) (hs:s=c.sz):eval Γ ob d (.slc false s true false) [.d (zh c l),.d (.int k lo)]=
  (cut l lo l.length).bind fun l'=>some (.val (.d (zh c l')) []):=by
 subst hs
 rw [← Sj c l lo l.length,← bC l.length k lo]; rfl
theorem Pd (l:List α) (s:Nat) (k:IntKind) (hi:Int) (hs:s=c.sz):eval Γ ob d (.slc false s false true) [.d (zh c l),.d (.int k hi)]=
  (cut l 0 hi).bind fun l'=>some (.val (.d (zh c l')) []):=by
 subst hs
 rw [← Sj c l 0 hi,← bf l.length k hi]; rfl
theorem MY (l:List UInt8) (k:IntKind) (i:Int):eval Γ ob d .ixs [.d (sD l),.d (.int k i)]=(pZ l i).bind fun b=>some (.val (.d (.int .u8 b)) []):=by
 simp only [eval,sD,pZ,idx,ok]
 have hs:(ByteArray.mk l.toArray).size=l.length:=rfl
 rw [hs]
 by_cases h0:0 ≤ i
 ·rw [if_pos h0]
  cases h1:l[i.toNat]? with
  | none=>
    have:l.length ≤ i.toNat:=List.getElem?_eq_none_iff.mp h1
    rw [if_neg (by omega)]; rfl
  | some x=>
    have hn:i.toNat < l.length:=by
     apply Classical.byContradiction
     intro hn
     rw [List.getElem?_eq_none (by omega)] at h1; cases h1
    rw [if_pos ⟨h0,by omega⟩]
    simp [h1]
 ·rw [if_neg h0,if_neg (by omega)]; rfl
def qx (l:List Int):List UInt8:=l.map fun n=>UInt8.ofNat n.toNat
theorem ko:∀ (l:List Int),rk (zb c8 l)=some (qx l)
 | []=>rfl
 | x :: l=>by
   have h:zb c8 (x :: l)= .int .u8 x :: zb c8 l:=rfl
   rw [h]
   simp only [rk,ko l,Option.map_some,qx,List.map_cons]
theorem OB (l:List Int):eval Γ ob d .b2s [.d (zh c8 l)]=some (.val (.d (sD (qx l))) []):=by
 have h:(zb c8 l).length=l.length:=by rw [yM]; exact Nat.mul_one _
 simp only [eval,yC,zh,Option.bind_some,h,if_true,ko,ok,sD]
theorem Qt (l:List UInt8):eval Γ ob d (.len true) [.d (sD l)]=some (.val (.d (.int .i64 l.length)) []):=rfl
theorem UO (l:List UInt8) (s:Nat) (k k':IntKind) (lo hi:Int):eval Γ ob d (.slc true s true true) [.d (sD l),.d (.int k lo),.d (.int k' hi)]=
  (cut l lo hi).bind fun l'=>some (.val (.d (sD l')) []):=by
 rw [← SF l lo hi,← cU l.length k k' lo hi]; rfl
theorem Uf (l:List UInt8) (s:Nat) (k:IntKind) (lo:Int):eval Γ ob d (.slc true s true false) [.d (sD l),.d (.int k lo)]=
  (cut l lo l.length).bind fun l'=>some (.val (.d (sD l')) []):=by
 rw [← SF l lo l.length,← bC l.length k lo]; rfl
theorem UJ (l:List UInt8) (s:Nat) (k:IntKind) (hi:Int):eval Γ ob d (.slc true s false true) [.d (sD l),.d (.int k hi)]=
  (cut l 0 hi).bind fun l'=>some (.val (.d (sD l')) []):=by
 rw [← SF l 0 hi,← bf l.length k hi]; rfl
theorem ye {a b:List UInt8}:sD a=sD b ↔ a=b:=by
 constructor
 ·intro h; unfold sD at h; injection h with h; injection h with h
  have:=congrArg Array.toList h
  simpa using this
 ·rintro rfl; rfl
theorem nn (l:List UInt8):(ByteArray.mk l.toArray).toList=l:=by
 rw [ByteArray.toList_eq]
end
end Go.Vm
