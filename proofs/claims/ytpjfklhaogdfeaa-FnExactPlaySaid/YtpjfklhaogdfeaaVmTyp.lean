/- Lists of a kind, as the abstract machine's cells; rows of a kind; the machine's operations on them. -/
import Derived.Test.YtpjfklhaogdfeaaVmCps
import Derived.KernelRfl
import Derived.Laws.Strings
set_option linter.unusedSectionVars false
set_option linter.unusedSimpArgs false
set_option linter.unusedVariables false
namespace Go.Vm
structure Enc (α:Type) where
 sz:Nat
 enc:α→List D
 dec:List D→Option α
 len:∀ x,(enc x).length=sz
 pos:0 < sz
 dcd:∀ xs x,dec xs=some x→xs=enc x
 edc:∀ x,dec (enc x)=some x
def Ra:List D→Option Int
 | [.int .i64 n]=>some n
 | _=>none
theorem OA:∀ xs x,Ra xs=some x→xs=[D.int .i64 x]:=by
 intro xs x h
 unfold Ra at h
 split at h
 ·cases h; rfl
 ·cases h
def cI:Enc Int:=⟨1,fun n=>[.int .i64 n],Ra,fun _=>rfl,by decide,OA,fun _=>rfl⟩
def Qm:List D→Option (List UInt8)
 | [.str s]=>some s.data.toList
 | _=>none
theorem OC:∀ xs x,Qm xs=some x→xs=[sD x]:=by
 intro xs x h
 unfold Qm at h
 split at h
 ·cases h; rfl
 ·cases h
def cS:Enc (List UInt8):=⟨1,fun s=>[sD s],Qm,fun _=>rfl,by decide,OC,fun _=>rfl⟩
def TR:List D→Option Bool
 | [.bool b]=>some b
 | _=>none
theorem Nr:∀ xs x,TR xs=some x→xs=[D.bool x]:=by
 intro xs x h
 unfold TR at h
 split at h
 ·cases h; rfl
 ·cases h
def cB:Enc Bool:=⟨1,fun b=>[.bool b],TR,fun _=>rfl,by decide,Nr,fun _=>rfl⟩
def QG:List D→Option Int
 | [.int .u8 n]=>some n
 | _=>none
theorem Nv:∀ xs x,QG xs=some x→xs=[D.int .u8 x]:=by
 intro xs x h
 unfold QG at h
 split at h
 ·cases h; rfl
 ·cases h
def c8:Enc Int:=⟨1,fun n=>[.int .u8 n],QG,fun _=>rfl,by decide,Nv,fun _=>rfl⟩
def zh {α:Type} (c:Enc α) (l:List α):List D:=l.flatMap c.enc
def zb {α:Type} (c:Enc α) (l:List α):D:= .lst l.length (zh c l)
def yl {α:Type} (c:Enc α) (e:Nat) (cap:Option Nat) (l:List α):O:= .row e c.sz l.length cap (zh c l)
def ye {α:Type} (c:Enc α) (e:Nat) (cap:Option Nat) (lk:Bool) (l:List α):X:= .own e c.sz l.length cap (zh c l) lk
def idx {α:Type} (l:List α) (i:Int):Option α:=if 0 ≤ i then l[i.toNat]? else none
def nB (l:List UInt8) (i:Int):Option Int:=(idx l i).map fun b=>(b.toNat:Int)
def H6 {α:Type} (l:List α) (i:Int) (x:α):List α:=l.set i.toNat x
def cut {α:Type} (l:List α) (lo hi:Int):Option (List α):=if 0 ≤ lo∧lo ≤ hi∧hi ≤ l.length then some ((l.drop lo.toNat).take (hi - lo).toNat) else none
section
variable {α:Type} (c:Enc α)
theorem xd (l:List α):(zh c l).length=l.length * c.sz:=by
 induction l with
 | nil=>simp [zh]
 | cons x l ih=>
   have:zh c (x :: l)=c.enc x++zh c l:=by simp [zh]
   rw [this,List.length_append,ih,c.len,List.length_cons,Nat.succ_mul,Nat.add_comm]
theorem p8 (l l':List α):zh c (l++l')=zh c l++zh c l':=by simp [zh]
theorem ph:∀ (l:List α) (n:Nat),(zh c l).drop (n * c.sz)=zh c (l.drop n)
 | [],n=>by simp [zh]
 | x :: l,0=>by simp
 | x :: l,n+1=>by
   have:zh c (x :: l)=c.enc x++zh c l:=by simp [zh]
   rw [this,List.drop_append,List.drop_eq_nil_of_le (by rw [c.len,Nat.succ_mul]; omega),c.len,List.nil_append,Nat.succ_mul,Nat.add_sub_cancel,List.drop_succ_cons,ph l n]
theorem pp:∀ (l:List α) (n:Nat),(zh c l).take (n * c.sz)=zh c (l.take n)
 | [],n=>by simp [zh]
 | x :: l,0=>by simp [zh]
 | x :: l,n+1=>by
   have h1:zh c (x :: l)=c.enc x++zh c l:=by simp [zh]
   have h2:zh c (x :: l.take n)=c.enc x++zh c (l.take n):=by simp [zh]
   rw [h1,List.take_append,List.take_of_length_le (by rw [c.len,Nat.succ_mul]; omega),c.len,Nat.succ_mul,Nat.add_sub_cancel,List.take_succ_cons,h2,pp l n]
theorem nQ {l:List α} {n:Nat} {x:α} (h:l[n]? =some x):(zh c l).drop (n * c.sz)=c.enc x++zh c (l.drop (n+1)):=by
 rw [ph]
 have hn:n < l.length:=by
  apply Classical.byContradiction
  intro hn
  rw [List.getElem?_eq_none (by omega)] at h; cases h
 have:l.drop n=x :: l.drop (n+1):=by
  rw [List.drop_eq_getElem_cons hn]
  rw [List.getElem?_eq_getElem hn] at h
  injection h with h; rw [h]
 rw [this]; simp [zh]
theorem Ti (l:List α) (lo hi:Int) (h:0 ≤ lo∧lo ≤ hi∧hi ≤ l.length):
  ((zh c l).drop (lo.toNat * c.sz)).take ((hi.toNat - lo.toNat) * c.sz)=zh c ((l.drop lo.toNat).take (hi - lo).toNat):=by
 rw [ph,pp,show hi.toNat - lo.toNat=(hi - lo).toNat by omega]
theorem Xb (l:List α) (lo hi:Int) (h:0 ≤ lo∧lo ≤ hi∧hi ≤ l.length):((l.drop lo.toNat).take (hi - lo).toNat).length=hi.toNat - lo.toNat:=by
 simp only [List.length_take,List.length_drop]; omega
end
theorem Zd (n:Nat) (k k':IntKind) (lo hi:Int):uS n true true [.d (.int k lo),.d (.int k' hi)]=if 0 ≤ lo∧lo ≤ hi∧hi ≤ n then some (lo.toNat,hi.toNat) else none:=by
 simp [uS]
theorem ZJ (n:Nat) (k:IntKind) (lo:Int):uS n true false [.d (.int k lo)]=if 0 ≤ lo∧lo ≤ (n:Int)∧(n:Int) ≤ n then some (lo.toNat,(n:Int).toNat) else none:=by
 simp [uS]
theorem Zh (n:Nat) (k:IntKind) (hi:Int):uS n false true [.d (.int k hi)]=if (0:Int) ≤ 0∧0 ≤ hi∧hi ≤ (n:Int) then some ((0:Int).toNat,hi.toNat) else none:=by
 simp [uS]
theorem Qf {α:Type} (c:Enc α) (l:List α) (lo hi:Int):((if 0 ≤ lo∧lo ≤ hi∧hi ≤ (l.length:Int) then some (lo.toNat,hi.toNat) else none).bind fun (p:Nat×Nat)=>
   if p.1 * c.sz ≤ (zh c l).length then ok (.d (.lst (p.2 - p.1) (((zh c l).drop (p.1 * c.sz)).take ((p.2 - p.1) * c.sz)))) else none)=(cut l lo hi).bind fun l'=>some (.val (.d (zb c l')) []):=by
 unfold cut
 by_cases h:0 ≤ lo∧lo ≤ hi∧hi ≤ l.length
 ·rw [if_pos h,if_pos h]
  simp only [Option.bind_some,zb,ok]
  rw [if_pos (by rw [xd]; exact Nat.mul_le_mul_right _ (by omega)),Ti c l lo hi h,Xb l lo hi h]
 ·rw [if_neg h,if_neg h]; rfl
theorem VC (l:List UInt8) (a b:Nat) (h:a ≤ b) (h':b ≤ l.length):(D.str ((ByteArray.mk l.toArray).extract a b))=sD ((l.drop a).take (b - a)):=by
 unfold sD
 congr 1
 apply ByteArray.ext
 apply Array.ext'
 rw [ByteArray.data_extract]
 simp [List.take_drop]
theorem SW (l:List UInt8) (lo hi:Int):((if 0 ≤ lo∧lo ≤ hi∧hi ≤ (l.length:Int) then some (lo.toNat,hi.toNat) else none).bind fun (p:Nat×Nat)=>
   ok (.d (.str ((ByteArray.mk l.toArray).extract p.1 p.2))))=(cut l lo hi).bind fun l'=>some (.val (.d (sD l')) []):=by
 unfold cut
 by_cases h:0 ≤ lo∧lo ≤ hi∧hi ≤ l.length
 ·rw [if_pos h,if_pos h]
  simp only [Option.bind_some,ok]
  rw [VC l lo.toNat hi.toNat (by omega) (by omega),show hi.toNat - lo.toNat=(hi - lo).toNat by omega]
 ·rw [if_neg h,if_neg h]; rfl
section
variable {Γ:Ctx} {ob:Nat→Ob} {d:Nat} {α:Type} (c:Enc α)
theorem JV (l:List α) (s:Nat) (k:IntKind) (i:Int) (hs:s=c.sz):eval Γ ob d (.ia s) [.d (zb c l),.d (.int k i)]=
  (idx l i).bind fun x=>some (.val (.cp (c.enc x++zh c (l.drop (i.toNat+1)))) []):=by
 subst hs
 simp only [eval,kO,zb,idx,ok]
 by_cases h0:0 ≤ i
 ·rw [if_pos h0]
  cases h1:l[i.toNat]? with
  | none=>
    have:l.length ≤ i.toNat:=List.getElem?_eq_none_iff.mp h1
    rw [if_neg (by omega)]; rfl
  | some x=>
    have hn:i.toNat < l.length:=by
     apply Classical.byContradiction
     intro hn
     rw [List.getElem?_eq_none (by omega)] at h1; cases h1
    rw [if_pos ⟨h0,by omega,by rw [xd]; exact Nat.mul_le_mul_right _ (by omega)⟩]
    simp only [Option.bind_some,nQ c h1]
 ·rw [if_neg h0,if_neg (by omega)]; rfl
theorem Ku (l:List α):eval Γ ob d (.len false) [.d (zb c l)]=some (.val (.d (.int .i64 l.length)) []):=rfl
theorem PM (l:List α) (s:Nat) (k k':IntKind) (lo hi:Int) (hs:s=c.sz):eval Γ ob d (.slc false s true true) [.d (zb c l),.d (.int k lo),.d (.int k' hi)]=
  (cut l lo hi).bind fun l'=>some (.val (.d (zb c l')) []):=by
 subst hs
 rw [← Qf c l lo hi,← Zd l.length k k' lo hi]; rfl
theorem OO (l:List α) (s:Nat) (k:IntKind) (lo:Int) (hs:s=c.sz):eval Γ ob d (.slc false s true false) [.d (zb c l),.d (.int k lo)]=
  (cut l lo l.length).bind fun l'=>some (.val (.d (zb c l')) []):=by
 subst hs
 rw [← Qf c l lo l.length,← ZJ l.length k lo]; rfl
theorem ND (l:List α) (s:Nat) (k:IntKind) (hi:Int) (hs:s=c.sz):eval Γ ob d (.slc false s false true) [.d (zb c l),.d (.int k hi)]=
  (cut l 0 hi).bind fun l'=>some (.val (.d (zb c l')) []):=by
 subst hs
 rw [← Qf c l 0 hi,← Zh l.length k hi]; rfl
theorem Lv (l:List UInt8) (k:IntKind) (i:Int):eval Γ ob d .ixs [.d (sD l),.d (.int k i)]=(nB l i).bind fun b=>some (.val (.d (.int .u8 b)) []):=by
 simp only [eval,sD,nB,idx,ok]
 have hs:(ByteArray.mk l.toArray).size=l.length:=rfl
 rw [hs]
 by_cases h0:0 ≤ i
 ·rw [if_pos h0]
  cases h1:l[i.toNat]? with
  | none=>
    have:l.length ≤ i.toNat:=List.getElem?_eq_none_iff.mp h1
    rw [if_neg (by omega)]; rfl
  | some x=>
    have hn:i.toNat < l.length:=by
     apply Classical.byContradiction
     intro hn
     rw [List.getElem?_eq_none (by omega)] at h1; cases h1
    rw [if_pos ⟨h0,by omega⟩]
    simp [h1]
 ·rw [if_neg h0,if_neg (by omega)]; rfl
def oq (l:List Int):List UInt8:=l.map fun n=>UInt8.ofNat n.toNat
theorem j4:∀ (l:List Int),qO (zh c8 l)=some (oq l)
 | []=>rfl
 | x :: l=>by
   have h:zh c8 (x :: l)= .int .u8 x :: zh c8 l:=rfl
   rw [h]
   simp only [qO,j4 l,Option.map_some,oq,List.map_cons]
theorem Li (l:List Int):eval Γ ob d .b2s [.d (zb c8 l)]=some (.val (.d (sD (oq l))) []):=by
 have h:(zh c8 l).length=l.length:=by rw [xd]; exact Nat.mul_one _
 simp only [eval,yT,zb,Option.bind_some,h,if_true,j4,ok,sD]
theorem OF (l:List UInt8):eval Γ ob d (.len true) [.d (sD l)]=some (.val (.d (.int .i64 l.length)) []):=rfl
theorem Rm (l:List UInt8) (s:Nat) (k k':IntKind) (lo hi:Int):eval Γ ob d (.slc true s true true) [.d (sD l),.d (.int k lo),.d (.int k' hi)]=
  (cut l lo hi).bind fun l'=>some (.val (.d (sD l')) []):=by
 rw [← SW l lo hi,← Zd l.length k k' lo hi]; rfl
theorem Qx (l:List UInt8) (s:Nat) (k:IntKind) (lo:Int):eval Γ ob d (.slc true s true false) [.d (sD l),.d (.int k lo)]=
  (cut l lo l.length).bind fun l'=>some (.val (.d (sD l')) []):=by
 rw [← SW l lo l.length,← ZJ l.length k lo]; rfl
theorem Ss (l:List UInt8) (s:Nat) (k:IntKind) (hi:Int):eval Γ ob d (.slc true s false true) [.d (sD l),.d (.int k hi)]=
  (cut l 0 hi).bind fun l'=>some (.val (.d (sD l')) []):=by
 rw [← SW l 0 hi,← Zh l.length k hi]; rfl
theorem yo {a b:List UInt8}:sD a=sD b ↔ a=b:=by
 constructor
 ·intro h; unfold sD at h; injection h with h; injection h with h
  have:=congrArg Array.toList h
  simpa using this
 ·rintro rfl; rfl
theorem mh (l:List UInt8):(ByteArray.mk l.toArray).toList=l:=by
 rw [ByteArray.toList_eq]
end
end Go.Vm
