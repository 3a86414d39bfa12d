/- The abstract machine's operations on data, as equations. -/
import Derived.Test.YtpjfklhaogdfeaaVmDef
set_option linter.unusedSectionVars false
set_option linter.unusedSimpArgs false
set_option linter.unusedVariables false
namespace Go.Vm
def Uo:A→Option Bool
 | .d (.bool b)=>some b
 | _=>none
theorem OZ (b:Bool):Uo (.d (.bool b))=some b:=rfl
def VY (Γ:Ctx) (ps:List Nat) (n:Nat) (keep:List Nat) (b:Cd) (m:Nat) (st:St):Option (Ex×St):=
 bv (fun st=>(canon ps keep st).bind (run Γ ps n b)) m st
section
variable {Γ:Ctx} {ob:Nat→Ob} {d:Nat}
theorem I8 (s:Nat→A) (ob:Nat→Ob) (n:Nat):St.get ⟨s,ob⟩ (t n)=s n:=rfl
theorem IV (st:St) (n:Int):st.get (i n)= .d (.int .i64 n):=rfl
theorem HJ (st:St) (v:Bool):st.get (b v)= .d (.bool v):=rfl
theorem I0 (st:St) (l:List UInt8):st.get (s l)= .d (sD l):=rfl
theorem Hf (st:St):st.get n= .nil:=rfl
theorem I9 (st:St) (a:A):st.get (.k a)=a:=rfl
theorem NF {α:Type} (f:Nat→α) (n m:Nat) (v:α):upd f n v m=if m=n then v else f m:=rfl
theorem Y6 (i:Nat) (a:A) (r:List (Nat×A)) (n:Nat):zo ((i,a) :: r) n=if n=i then a else zo r n:=rfl
theorem Ua (i:Nat) (o:Ob) (r:List (Nat×Ob)) (n:Nat):zw ((i,o) :: r) n=if n=i then o else zw r n:=rfl
theorem ST (n:Nat):zw [] n={}:=rfl
theorem UC (f:Nat→Ob):zh f []=f:=rfl
theorem Wg (f:Nat→Ob) (i:Nat) (o:Ob) (r:List (Nat×Ob)):zh f ((i,o) :: r)=zh (upd f i o) r:=rfl
theorem IU (a:A):eval Γ ob d .mv [a]=some (.val a []):=rfl
theorem Lf (c:Bool) (x y:A):eval Γ ob d .pick [.d (.bool c),x,y]=some (.val (if c then x else y) []):=rfl
theorem Hd (n:Nat) (cs:List D):eval Γ ob d (.len false) [.d (.lst n cs)]=some (.val (.d (.int .i64 n)) []):=rfl
theorem HS (s:ByteArray):eval Γ ob d (.len true) [.d (.str s)]=some (.val (.d (.int .i64 s.size)) []):=rfl
theorem UF:eval Γ ob d (.len false) [.nil]=some (.val (.d (.int .i64 0)) []):=rfl
theorem KH (k:IntKind) (a b:Int):eval Γ ob d (.bin .add) [.d (.int k a),.d (.int k b)]=some (.val (.d (.int k (k.wrap (a+b)))) []):=by simp [eval,vg,ui,ok]
theorem J1 (k:IntKind) (a b:Int):eval Γ ob d (.bin .sub) [.d (.int k a),.d (.int k b)]=some (.val (.d (.int k (k.wrap (a - b)))) []):=by simp [eval,vg,ui,ok]
theorem ID (k:IntKind) (a b:Int):eval Γ ob d (.bin .mul) [.d (.int k a),.d (.int k b)]=some (.val (.d (.int k (k.wrap (a * b)))) []):=by simp [eval,vg,ui,ok]
theorem FS (k:IntKind) (a b:Int) (h:b ≠ 0):eval Γ ob d (.bin .quo) [.d (.int k a),.d (.int k b)]=some (.val (.d (.int k (k.wrap (a.tdiv b)))) []):=by simp [eval,vg,ui,ok,h]
theorem FQ (k:IntKind) (a b:Int) (h:b ≠ 0):eval Γ ob d (.bin .rem) [.d (.int k a),.d (.int k b)]=some (.val (.d (.int k (a.tmod b))) []):=by simp [eval,vg,ui,ok,h]
theorem Lx (k:IntKind) (a b:Int):eval Γ ob d (.bin .eql) [.d (.int k a),.d (.int k b)]=some (.val (.d (.bool (decide (a=b)))) []):=by simp [eval,vg,ui,ok,intCmp]; rfl
theorem LL (k:IntKind) (a b:Int):eval Γ ob d (.bin .neq) [.d (.int k a),.d (.int k b)]=some (.val (.d (.bool (!decide (a=b)))) []):=by simp [eval,vg,ui,ok,intCmp]; rfl
theorem Kg (k:IntKind) (a b:Int):eval Γ ob d (.bin .lss) [.d (.int k a),.d (.int k b)]=some (.val (.d (.bool (decide (a < b)))) []):=by simp [eval,vg,ui,ok,intCmp]
theorem Ks (k:IntKind) (a b:Int):eval Γ ob d (.bin .leq) [.d (.int k a),.d (.int k b)]=some (.val (.d (.bool (decide (a ≤ b)))) []):=by simp [eval,vg,ui,ok,intCmp]
theorem Kw (k:IntKind) (a b:Int):eval Γ ob d (.bin .gtr) [.d (.int k a),.d (.int k b)]=some (.val (.d (.bool (decide (b < a)))) []):=by simp [eval,vg,ui,ok,intCmp]
theorem JR (k:IntKind) (a b:Int):eval Γ ob d (.bin .geq) [.d (.int k a),.d (.int k b)]=some (.val (.d (.bool (decide (b ≤ a)))) []):=by simp [eval,vg,ui,ok,intCmp]
theorem J6 (neg:Bool) (a b:Bool):eval Γ ob d (.beq neg) [.d (.bool a),.d (.bool b)]=some (.val (.d (.bool (if neg then !(a == b) else a == b))) []):=rfl
theorem JS (b:Bool):eval Γ ob d .not [.d (.bool b)]=some (.val (.d (.bool !b)) []):=rfl
theorem IF (k:IntKind) (a:Int):eval Γ ob d .neg [.d (.int k a)]=some (.val (.d (.int k (k.wrap (0 - a)))) []):=rfl
theorem H3 (sz n:Nat) (cs:List D) (k:IntKind) (i:Int) (h0:0 ≤ i) (h1:i < n) (h2:i.toNat * sz ≤ cs.length):
  eval Γ ob d (.ia sz) [.d (.lst n cs),.d (.int k i)]=some (.val (.cp (cs.drop (i.toNat * sz))) []):=by simp [eval,jR,ok,h0,h1,h2]
theorem PP (x:D) (r:List D):eval Γ ob d (.ld none) [.cp (x :: r)]=some (.val (.d x) []):=rfl
theorem FR (a:A):eval Γ ob d .box [a]=if (cellsOf a).all one then mk ob d [] (.box (cellsOf a)) else none:=rfl
theorem GP (cells:List A):eval Γ ob d (.alloc cells) []=if cells.all one then mk ob d [] (.box cells) else none:=rfl
theorem FJ (us:List (Nat×Ob)) (cells:List A):mk ob d us (.box cells)=some (.val (.adr (oid d 0) ((ob (oid d 0)).ver+1) 0) (us++[(oid d 0,⟨(ob (oid d 0)).ver+1,.box cells,false⟩)])):=rfl
theorem H0 (id ver off:Nat):eval Γ ob d (.ld none) [.adr id ver off]=(wa ob id ver).bind fun cells=>(cells[off]?).bind ok:=rfl
theorem I4 (n id ver off:Nat):eval Γ ob d (.ld (some n)) [.adr id ver off]=(wa ob id ver).bind fun cells=>if off+n ≤ cells.length then ok (.agg ((cells.drop off).take n)) else none:=rfl
theorem HV (off id ver o:Nat):eval Γ ob d (.fa off) [.adr id ver o]=(wa ob id ver).bind fun _=>ok (.adr id ver (o+off)):=rfl
theorem HZ (n id ver off:Nat) (a:A):eval Γ ob d (.st n) [.adr id ver off,a]=(wa ob id ver).bind fun cells=>
   if off+n ≤ cells.length∧(cellsOf a).length=n∧(cellsOf a).all one then
    some (.val .undef [(id,{ ob id with o:= .box (cells.take off++cellsOf a++cells.drop (off+n)) })])
   else none:=rfl
theorem Gn {id ver:Nat} {cells:List A} {lk:Bool} (h:ob id=⟨ver,.box cells,lk⟩):wa ob id ver=some cells:=by
 unfold wa; rw [h]; simp
theorem FA (f:FuncId) (as:List A):eval Γ ob d (.call f) as=pq Γ ob d f as:=rfl
theorem F0 (a:A):ok a=some (.val a []):=rfl
theorem j3 {id ver e sz n:Nat} {c:Option Nat} {cells:List D} {lk:Bool} (h:ob id=⟨ver,.row e sz n c cells,lk⟩):xL ob id ver=some (e,sz,n,c,cells):=by
 unfold xL; rw [h]; simp
theorem HW {id ver e sz n:Nat} {c:Option Nat} {cells:List D} {lk:Bool} (h:ob id=⟨ver,.row e sz n c cells,lk⟩) (size:Nat) (k:IntKind) (i:Int) (h0:0 ≤ i) (h1:i < n):
  eval Γ ob d (.ia size) [.row id ver,.d (.int k i)]=some (.val (.rad id ver (i.toNat * size)) []):=by
 simp only [eval,jR,j3 h,Option.bind_some,h0,h1,and_self,if_true,ok]
theorem H6 {id ver e sz n:Nat} {c:Option Nat} {cells:List D} {lk:Bool} (h:ob id=⟨ver,.row e sz n c cells,lk⟩) {off:Nat} {x:D} (hx:cells[off]? =some x):
  eval Γ ob d (.ld none) [.rad id ver off]=some (.val (.d x) []):=by
 simp only [eval,jZ,j3 h,Option.bind_some,hx,ok]
theorem Gd {id ver e sz n:Nat} {c:Option Nat} {cells:List D} (h:ob id=⟨ver,.row e sz n c cells,false⟩) {off:Nat} (x:D) (hlen:off+1 ≤ cells.length):
  eval Γ ob d (.st 1) [.rad id ver off,.d x]=some (.val .undef [(id,⟨ver,.row e sz n c (cells.take off++[x]++cells.drop (off+1)),false⟩)]):=by
 simp only [eval,ab,j3 h,Option.bind_some,cellsOf,yH,yX,Option.map_some,List.append_nil,h,hlen,List.length_cons,List.length_nil,and_self,if_true]
 exact if_pos ⟨trivial,trivial,trivial,rfl⟩
theorem Hq {id ver e sz n:Nat} {c:Option Nat} {cells:List D} {lk:Bool} (h:ob id=⟨ver,.row e sz n c cells,lk⟩):eval Γ ob d (.len false) [.row id ver]=some (.val (.d (.int .i64 n)) []):=by
 simp [eval,ic,j3 h,ok]
theorem FP (e size bytes:Nat) (zero:List D) (k k':IntKind) (l c:Int) (h:0 ≤ l∧l ≤ c∧(bytes:Int) * c ≤ uQ∧c ≤ 9223372036854775807∧zero.length=size∧0 < size):
  eval Γ ob d (.mkS e size bytes zero) [.d (.int k l),.d (.int k' c)]=mk ob d [] (.row e size l.toNat (some c.toNat) (List.replicate l.toNat zero).flatten):=by
 simp only [eval]; rw [if_pos h]
theorem FT (us:List (Nat×Ob)) (e sz n:Nat) (c:Option Nat) (cells:List D):mk ob d us (.row e sz n c cells)=
  some (.val (.row (oid d 0) ((ob (oid d 0)).ver+1)) (us++[(oid d 0,⟨(ob (oid d 0)).ver+1,.row e sz n c cells,false⟩)])):=rfl
theorem SJ (x:D):cellsOf (.d x)=[.d x]:=rfl
theorem XY (cs:List A):cellsOf (.agg cs)=cs:=rfl
theorem Hm (x:D):one (.d x)=true:=rfl
theorem Mm:one .nil=true:=rfl
theorem Nu (i v:Nat):one (.row i v)=true:=rfl
theorem Ny (i v o:Nat):one (.adr i v o)=true:=rfl
theorem map_nil {α β:Type} (f:α→β):List.map f []=[]:=rfl
theorem map_cons {α β:Type} (f:α→β) (a:α) (l:List α):List.map f (a :: l)=f a :: List.map f l:=rfl
theorem OW {α:Type} (f:α→Bool):List.all [] f=true:=rfl
theorem all_cons {α:Type} (f:α→Bool) (a:α) (l:List α):List.all (a :: l) f=(f a&&List.all l f):=rfl
theorem length_nil {α:Type}:([]:List α).length=0:=rfl
theorem length_cons {α:Type} (a:α) (l:List α):(a :: l).length=l.length+1:=rfl
theorem take_zero {α:Type} (l:List α):l.take 0=[]:=rfl
theorem Oy {α:Type} (a:α) (l:List α) (n:Nat):(a :: l).take (n+1)=a :: l.take n:=rfl
end
end Go.Vm
