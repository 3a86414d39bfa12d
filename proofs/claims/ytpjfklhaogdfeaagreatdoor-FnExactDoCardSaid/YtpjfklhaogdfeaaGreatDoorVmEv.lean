/- The abstract machine's operations on data, as equations. -/
import Derived.Test.YtpjfklhaogdfeaaGreatDoorVmDef
set_option linter.unusedSectionVars false
set_option linter.unusedSimpArgs false
set_option linter.unusedVariables false
namespace Go.Vm
def Yi:A→Option Bool
 | .d (.bool b)=>some b
 | _=>none
theorem Q0 (b:Bool):Yi (.d (.bool b))=some b:=rfl
def Yo (Γ:Ctx) (ps:List Nat) (n:Nat) (keep:List Nat) (b:Cd) (m:Nat) (st:St):Option (Ex×St):=
 g9 (fun st=>(canon ps keep st).bind (run Γ ps n b)) m st
section
variable {Γ:Ctx} {ob:Nat→Ob} {d:Nat}
theorem Kx (s:Nat→A) (ob:Nat→Ob) (n:Nat):St.get ⟨s,ob⟩ (t n)=s n:=rfl
theorem KG (st:St) (n:Int):st.get (i n)= .d (.int .i64 n):=rfl
theorem Kq (st:St) (v:Bool):st.get (b v)= .d (.bool v):=rfl
theorem LU (st:St) (l:List UInt8):st.get (s l)= .d (sD l):=rfl
theorem LI (st:St):st.get n= .nil:=rfl
theorem Kz (st:St) (a:A):st.get (.k a)=a:=rfl
theorem QO {α:Type} (f:Nat→α) (n m:Nat) (v:α):upd f n v m=if m=n then v else f m:=rfl
theorem bQ (i:Nat) (a:A) (r:List (Nat×A)) (n:Nat):zj ((i,a) :: r) n=if n=i then a else zj r n:=rfl
theorem Y8 (i:Nat) (o:Ob) (r:List (Nat×Ob)) (n:Nat):zt ((i,o) :: r) n=if n=i then o else zt r n:=rfl
theorem X7 (n:Nat):zt [] n={}:=rfl
theorem Xc (f:Nat→Ob):za f []=f:=rfl
theorem aG (f:Nat→Ob) (i:Nat) (o:Ob) (r:List (Nat×Ob)):za f ((i,o) :: r)=za (upd f i o) r:=rfl
theorem KF (a:A):eval Γ ob d .mv [a]=some (.val a []):=rfl
theorem PH (c:Bool) (x y:A):eval Γ ob d .pick [.d (.bool c),x,y]=some (.val (if c then x else y) []):=rfl
theorem LX (n:Nat) (cs:List D):eval Γ ob d (.len false) [.d (.lst n cs)]=some (.val (.d (.int .i64 n)) []):=rfl
theorem LN (s:ByteArray):eval Γ ob d (.len true) [.d (.str s)]=some (.val (.d (.int .i64 s.size)) []):=rfl
theorem Yn:eval Γ ob d (.len false) [.nil]=some (.val (.d (.int .i64 0)) []):=rfl
theorem NW (k:IntKind) (a b:Int):eval Γ ob d (.bin .add) [.d (.int k a),.d (.int k b)]=some (.val (.d (.int k (k.wrap (a+b)))) []):=by simp [eval,xV,wR,ok]
theorem N6 (k:IntKind) (a b:Int):eval Γ ob d (.bin .sub) [.d (.int k a),.d (.int k b)]=some (.val (.d (.int k (k.wrap (a - b)))) []):=by simp [eval,xV,wR,ok]
theorem Lb (k:IntKind) (a b:Int):eval Γ ob d (.bin .mul) [.d (.int k a),.d (.int k b)]=some (.val (.d (.int k (k.wrap (a * b)))) []):=by simp [eval,xV,wR,ok]
theorem In (k:IntKind) (a b:Int) (h:b ≠ 0):eval Γ ob d (.bin .quo) [.d (.int k a),.d (.int k b)]=some (.val (.d (.int k (k.wrap (a.tdiv b)))) []):=by simp [eval,xV,wR,ok,h]
theorem Iu (k:IntKind) (a b:Int) (h:b ≠ 0):eval Γ ob d (.bin .rem) [.d (.int k a),.d (.int k b)]=some (.val (.d (.int k (a.tmod b))) []):=by simp [eval,xV,wR,ok,h]
theorem Mp (k:IntKind) (a b:Int):eval Γ ob d (.bin .eql) [.d (.int k a),.d (.int k b)]=some (.val (.d (.bool (decide (a=b)))) []):=by simp [eval,xV,wR,ok,intCmp]; rfl
theorem M5 (k:IntKind) (a b:Int):eval Γ ob d (.bin .neq) [.d (.int k a),.d (.int k b)]=some (.val (.d (.bool (!decide (a=b)))) []):=by simp [eval,xV,wR,ok,intCmp]; rfl
theorem OY (k:IntKind) (a b:Int):eval Γ ob d (.bin .lss) [.d (.int k a),.d (.int k b)]=some (.val (.d (.bool (decide (a < b)))) []):=by simp [eval,xV,wR,ok,intCmp]
theorem Lv (k:IntKind) (a b:Int):eval Γ ob d (.bin .leq) [.d (.int k a),.d (.int k b)]=some (.val (.d (.bool (decide (a ≤ b)))) []):=by simp [eval,xV,wR,ok,intCmp]
theorem NX (k:IntKind) (a b:Int):eval Γ ob d (.bin .gtr) [.d (.int k a),.d (.int k b)]=some (.val (.d (.bool (decide (b < a)))) []):=by simp [eval,xV,wR,ok,intCmp]
theorem MN (k:IntKind) (a b:Int):eval Γ ob d (.bin .geq) [.d (.int k a),.d (.int k b)]=some (.val (.d (.bool (decide (b ≤ a)))) []):=by simp [eval,xV,wR,ok,intCmp]
theorem Mh (neg:Bool) (a b:Bool):eval Γ ob d (.beq neg) [.d (.bool a),.d (.bool b)]=some (.val (.d (.bool (if neg then !(a == b) else a == b))) []):=rfl
theorem O9 (b:Bool):eval Γ ob d .not [.d (.bool b)]=some (.val (.d (.bool !b)) []):=rfl
theorem Nb (k:IntKind) (a:Int):eval Γ ob d .neg [.d (.int k a)]=some (.val (.d (.int k (k.wrap (0 - a)))) []):=rfl
theorem KR (sz n:Nat) (cs:List D) (k:IntKind) (i:Int) (h0:0 ≤ i) (h1:i < n) (h2:i.toNat * sz ≤ cs.length):
  eval Γ ob d (.ia sz) [.d (.lst n cs),.d (.int k i)]=some (.val (.cp (cs.drop (i.toNat * sz))) []):=by simp [eval,lA,ok,h0,h1,h2]
theorem SC (x:D) (r:List D):eval Γ ob d (.ld none) [.cp (x :: r)]=some (.val (.d x) []):=rfl
theorem Ip (a:A):eval Γ ob d .box [a]=if (cellsOf a).all one then mk ob d [] (.box (cellsOf a)) else none:=rfl
theorem JS (cells:List A):eval Γ ob d (.alloc cells) []=if cells.all one then mk ob d [] (.box cells) else none:=rfl
theorem It (us:List (Nat×Ob)) (cells:List A):mk ob d us (.box cells)=some (.val (.adr (oid d 0) ((ob (oid d 0)).ver+1) 0) (us++[(oid d 0,⟨(ob (oid d 0)).ver+1,.box cells,false⟩)])):=rfl
theorem KS (id ver off:Nat):eval Γ ob d (.ld none) [.adr id ver off]=(xg ob id ver).bind fun cells=>(cells[off]?).bind ok:=rfl
theorem LM (n id ver off:Nat):eval Γ ob d (.ld (some n)) [.adr id ver off]=(xg ob id ver).bind fun cells=>if off+n ≤ cells.length then ok (.agg ((cells.drop off).take n)) else none:=rfl
theorem KX (off id ver o:Nat):eval Γ ob d (.fa off) [.adr id ver o]=(xg ob id ver).bind fun _=>ok (.adr id ver (o+off)):=rfl
theorem KV (n id ver off:Nat) (a:A):eval Γ ob d (.st n) [.adr id ver off,a]=(xg ob id ver).bind fun cells=>
   if off+n ≤ cells.length∧(cellsOf a).length=n∧(cellsOf a).all one then
    some (.val .undef [(id,{ ob id with o:= .box (cells.take off++cellsOf a++cells.drop (off+n)) })])
   else none:=rfl
theorem JD {id ver:Nat} {cells:List A} {lk:Bool} (h:ob id=⟨ver,.box cells,lk⟩):xg ob id ver=some cells:=by
 unfold xg; rw [h]; simp
theorem Ih (f:FuncId) (as:List A):eval Γ ob d (.call f) as=sY Γ ob d f as:=rfl
theorem Ix (a:A):ok a=some (.val a []):=rfl
theorem lC {id ver e sz n:Nat} {c:Option Nat} {cells:List D} {lk:Bool} (h:ob id=⟨ver,.row e sz n c cells,lk⟩):yW ob id ver=some (e,sz,n,c,cells):=by
 unfold yW; rw [h]; simp
theorem KW {id ver e sz n:Nat} {c:Option Nat} {cells:List D} {lk:Bool} (h:ob id=⟨ver,.row e sz n c cells,lk⟩) (size:Nat) (k:IntKind) (i:Int) (h0:0 ≤ i) (h1:i < n):
  eval Γ ob d (.ia size) [.row id ver,.d (.int k i)]=some (.val (.rad id ver (i.toNat * size)) []):=by
 simp only [eval,lA,lC h,Option.bind_some,h0,h1,and_self,if_true,ok]
theorem K7 {id ver e sz n:Nat} {c:Option Nat} {cells:List D} {lk:Bool} (h:ob id=⟨ver,.row e sz n c cells,lk⟩) {off:Nat} {x:D} (hx:cells[off]? =some x):
  eval Γ ob d (.ld none) [.rad id ver off]=some (.val (.d x) []):=by
 simp only [eval,lg,lC h,Option.bind_some,hx,ok]
theorem K6 {id ver e sz n:Nat} {c:Option Nat} {cells:List D} (h:ob id=⟨ver,.row e sz n c cells,false⟩) {off:Nat} (x:D) (hlen:off+1 ≤ cells.length):
  eval Γ ob d (.st 1) [.rad id ver off,.d x]=some (.val .undef [(id,⟨ver,.row e sz n c (cells.take off++[x]++cells.drop (off+1)),false⟩)]):=by
 simp only [eval,fx,lC h,Option.bind_some,cellsOf,zZ,yC,Option.map_some,List.append_nil,h,hlen,List.length_cons,List.length_nil,and_self,if_true]
 exact if_pos ⟨trivial,trivial,trivial,rfl⟩
theorem LY {id ver e sz n:Nat} {c:Option Nat} {cells:List D} {lk:Bool} (h:ob id=⟨ver,.row e sz n c cells,lk⟩):eval Γ ob d (.len false) [.row id ver]=some (.val (.d (.int .i64 n)) []):=by
 simp [eval,lc,lC h,ok]
theorem Il (e size bytes:Nat) (zero:List D) (k k':IntKind) (l c:Int) (h:0 ≤ l∧l ≤ c∧(bytes:Int) * c ≤ wF∧c ≤ 9223372036854775807∧zero.length=size∧0 < size):
  eval Γ ob d (.mkS e size bytes zero) [.d (.int k l),.d (.int k' c)]=mk ob d [] (.row e size l.toNat (some c.toNat) (List.replicate l.toNat zero).flatten):=by
 simp only [eval]; rw [if_pos h]
theorem Io (us:List (Nat×Ob)) (e sz n:Nat) (c:Option Nat) (cells:List D):mk ob d us (.row e sz n c cells)=
  some (.val (.row (oid d 0) ((ob (oid d 0)).ver+1)) (us++[(oid d 0,⟨(ob (oid d 0)).ver+1,.row e sz n c cells,false⟩)])):=rfl
theorem XE (x:D):cellsOf (.d x)=[.d x]:=rfl
theorem aD (cs:List A):cellsOf (.agg cs)=cs:=rfl
theorem Kv (x:D):one (.d x)=true:=rfl
theorem PI:one .nil=true:=rfl
theorem QS (i v:Nat):one (.row i v)=true:=rfl
theorem P8 (i v o:Nat):one (.adr i v o)=true:=rfl
theorem map_nil {α β:Type} (f:α→β):List.map f []=[]:=rfl
theorem map_cons {α β:Type} (f:α→β) (a:α) (l:List α):List.map f (a :: l)=f a :: List.map f l:=rfl
theorem Qm {α:Type} (f:α→Bool):List.all [] f=true:=rfl
theorem all_cons {α:Type} (f:α→Bool) (a:α) (l:List α):List.all (a :: l) f=(f a&&List.all l f):=rfl
theorem length_nil {α:Type}:([]:List α).length=0:=rfl
theorem length_cons {α:Type} (a:α) (l:List α):(a :: l).length=l.length+1:=rfl
theorem take_zero {α:Type} (l:List α):l.take 0=[]:=rfl
theorem S8 {α:Type} (a:α) (l:List α) (n:Nat):(a :: l).take (n+1)=a :: l.take n:=rfl
end
end Go.Vm
