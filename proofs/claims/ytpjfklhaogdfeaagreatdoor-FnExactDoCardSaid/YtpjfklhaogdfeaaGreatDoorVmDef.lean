/- The abstract machine: its values, states and runs. Plain definitions; nothing is proved here. -/
import Derived.Laws.OwnMore
import Derived.Defers
set_option linter.unusedVariables false
set_option linter.unusedSectionVars false
set_option linter.unusedSimpArgs false
namespace Go.Vm
inductive D where
 | int (k:IntKind) (n:Int)
 | bool (b:Bool)
 | str (s:ByteArray)
 | lst (n:Nat) (cells:List D)
 | fn (f:FuncId)
 | iface (t:TypeId) (x:D)
 | ifaceS (t:TypeId) (cells:List D)
 | nilp
 | nilf
 | nili
 | nils
 | lstS (n:Nat) (cells:List D)
 | opq
 deriving Inhabited
inductive A where
 | undef
 | d (x:D)
 | nil
 | row (id ver:Nat)
 | adr (id ver off:Nat)
 | rad (id ver off:Nat)
 | vw (id ver lo size:Nat)
 | cp (cells:List D)
 | agg (cs:List A)
 | tup (cs:List A)
 deriving Inhabited
inductive RK where
 | map (t:TypeId) (n:Option Nat)
 | bld (T e:TypeId)
 | ext (i:Nat) (a b:TypeId)
 deriving Inhabited,DecidableEq
inductive O where
 | dead
 | box (cells:List A)
 | row (e size:Nat) (n:Nat) (cap:Option Nat) (cells:List D)
 | res (k:RK) (x:D)
 deriving Inhabited
structure Ob where
 ver:Nat:=0
 o:O:= .dead
 leak:Bool:=false
 deriving Inhabited
structure St where
 slot:Nat→A
 ob:Nat→Ob
inductive X where
 | d (x:D)
 | nil
 | box (cells:List X)
 | own (e size:Nat) (n:Nat) (cap:Option Nat) (cells:List D) (leak:Bool)
 | agg (cs:List X)
 | tup (cs:List X)
 | res (k:RK) (x:D)
 | par (k:Nat)
 deriving Inhabited
inductive XOut where
 | ret (x:X) (outs:List (List D))
 | pan (x:D) (outs:List (List D))
structure Ctx where
 fn:FuncId→List X→Option XOut
 mu:FuncId→Bool
 fl:TypeId→Bool
instance:CoeFun Ctx (fun _=>FuncId→List X→Option XOut):=⟨Ctx.fn⟩
inductive SA where
 | t (n:Nat)
 | k (a:A)
inductive SOp where
 | mv
 | pick
 | alloc (cells:List A)
 | box
 | bld (zero:List A) (parts:List (Nat×Nat))
 | bldS (e size len:Nat) (parts:List (Nat×Nat))
 | ld (n:Option Nat)
 | st (n:Nat)
 | nilck
 | bin (op:BinOp)
 | beq (neg:Bool)
 | neg
 | not
 | cvt (k:IntKind)
 | mkI (t:TypeId)
 | mkF (f:FuncId)
 | mkS (e size bytes:Nat) (zero:List D)
 | slc (str:Bool) (size:Nat) (lo hi:Bool)
 | fa (off:Nat)
 | fld (off:Nat) (n:Option Nat)
 | ia (size:Nat)
 | ixs
 | ext (i:Nat)
 | call (f:FuncId)
 | dyn
 | len (str:Bool)
 | cap
 | app (e size bytes:Nat)
 | mm (max:Bool)
 | pan
 | b2s
 | inil (neg:Bool)
 | snil (neg:Bool)
 | appZ (e size bytes:Nat) (zero:List D)
 | cut (size:Nat)
 | ta (t:TypeId)
 | iaa (n size:Nat)
 | ixa (n size:Nat) (m:Option Nat)
 | shr
 | s2b (e:Nat)
 | mkR (k:RK)
 | mget (t:TypeId) (kc:Nat) (n:Option Nat) (zero:List D) (ok:Bool)
 | mset (t:TypeId) (kc:Nat) (n:Option Nat)
 | mlen
 | vws (size:Nat)
 | clr (zero:List D)
 | seq (neg:Bool) (ks:List Nat)
 deriving Inhabited
structure SOper where
 dst:Option Nat
 op:SOp
 args:List SA
 guard:Option (Nat×Bool)
 fb:List Nat:=[]
 fl:Bool:=false
 wt:List Nat:=[]
inductive Cd where
 | skip
 | region (draw:Option (List Nat)) (live:List Nat) (ops:List SOper)
 | seq (a b:Cd)
 | cond (c:SA) (t e:Cd)
 | block (id:Nat) (b:Cd)
 | scope (b:Cd)
 | frz (n:Nat) (b:Cd)
 | loop (keep:List Nat) (b:Cd)
 | exit (id:Nat)
 | ret
inductive Ex where
 | normal
 | exit (id:Nat)
 | ret
 | panic (x:D)
inductive Out where
 | val (a:A) (us:List (Nat×Ob))
 | pan (x:D) (us:List (Nat×Ob))
def upd {α:Type} (f:Nat→α) (n:Nat) (v:α):Nat→α:=fun m=>if m=n then v else f m
def za (f:Nat→Ob):List (Nat×Ob)→Nat→Ob
 | []=>f
 | (i,o) :: r=>za (upd f i o) r
def St.get (st:St):SA→A
 | .t n=>st.slot n
 | .k a=>a
def oid (d j:Nat):Nat:=d * 64+j
def wU (ob:Nat→Ob) (id:Nat) (o:O):Nat×Ob:=(id,{ ver:=(ob id).ver+1,o:=o,leak:=false })
def yC (ob:Nat→Ob):A→Option (D×List Nat)
 | .d x=>some (x,[])
 | .nil=>some (.lst 0 [],[])
 | .row id ver=>match (ob id).o with
   | .row _ _ n _ cells=>if (ob id).ver=ver then some (.lst n cells,[id]) else none
   | _=>none
 | _=>none
def zZ (ob:Nat→Ob):List A→Option (List D×List Nat)
 | []=>some ([],[])
 | a :: r=>(yC ob a).bind fun (x,l)=>(zZ ob r).map fun (xs,ls)=>(x :: xs,l++ls)
def one:A→Bool
 | .undef | .agg _ | .tup _=>false
 | _=>true
def cellsOf:A→List A
 | .agg cs=>cs
 | a=>[a]
def m9 (id:Nat):List Nat→Bool
 | []=>true
 | i :: r=>if i=id then false else m9 id r
theorem bO {id:Nat}:∀ {l:List Nat},m9 id l=true→id ∉ l
 | [],_=>by simp
 | i :: r,h=>by
   unfold m9 at h
   split at h
   ·cases h
   ·rename_i hi
    have:=bO h
    simp only [List.mem_cons,not_or]
    exact ⟨fun e=>hi e.symm,this⟩
def zl (ob:Nat→Ob) (ids:List Nat):List (Nat×Ob):=ids.map fun id=>(id,{ ob id with leak:=true })
def om (zero:List A):List (Nat×Nat)→List A→Option (List A)
 | [],[]=>some zero
 | (off,size) :: ps,a :: r=>
   if (cellsOf a).length=size∧off+size ≤ zero.length∧(cellsOf a).all one then om (zero.take off++cellsOf a++zero.drop (off+size)) ps r else none
 | _,_=>none
def D.scalar:D→Bool
 | .lst .. | .iface .. | .ifaceS .. | .lstS .. =>false
 | _=>true
def xE:List A→Option (List D)
 | []=>some []
 | .d x :: r=>(xE r).map (x :: ·)
 | _=>none
mutual
def toX (m:Bool) (ob:Nat→Ob):A→Option (X×List Nat×List Nat)
 | .d x=>some (.d x,[],[])
 | .nil=>some (if m then .nil else .d (.lst 0 []),[],[])
 | .row id ver=>match (ob id).o with
   | .row e s n cap cells=>if (ob id).ver=ver then
       (if m then (if (ob id).leak=false then some (.own e s n none cells false,[],[id]) else none) else some (.d (.lst n cells),[id],[])) else none
   | .res k x=>if (ob id).ver=ver then some (.res k x,[],[id]) else none
   | _=>none
 | .adr id ver off=>match (ob id).o with
   | .box cells=>if (ob id).ver=ver∧off=0 then (xE cells).map fun xs=>(.box (xs.map .d),[],[id]) else none
   | _=>none
 | .agg cs=>(wq m ob cs).map fun (xs,l,m)=>(.agg xs,l,m)
 | _=>none
def wq (m:Bool) (ob:Nat→Ob):List A→Option (List X×List Nat×List Nat)
 | []=>some ([],[],[])
 | a :: r=>(toX m ob a).bind fun (x,l,k)=>(wq m ob r).map fun (xs,ls,ms)=>(x :: xs,l++ls,k++ms)
end
mutual
def ofX (ob:Nat→Ob) (d:Nat):X→Nat→A×List (Nat×Ob)×Nat
 | .d x,j=>(.d x,[],j)
 | .nil,j=>(.nil,[],j)
 | .par _,j=>(.undef,[],j)
 | .res k x,j=>(.row (oid d j) ((ob (oid d j)).ver+1),[(oid d j,{ ver:=(ob (oid d j)).ver+1,o:= .res k x,leak:=false })],j+1)
 | .own e s n c cells lk,j=>(.row (oid d j) ((ob (oid d j)).ver+1),[(oid d j,{ ver:=(ob (oid d j)).ver+1,o:= .row e s n c cells,leak:=lk })],j+1)
 | .box xs,j=>(.adr (oid d j) ((ob (oid d j)).ver+1) 0,(yy ob d xs (j+1)).2.1++[wU ob (oid d j) (.box (yy ob d xs (j+1)).1)],(yy ob d xs (j+1)).2.2)
 | .agg xs,j=>(.agg (yy ob d xs j).1,(yy ob d xs j).2.1,(yy ob d xs j).2.2)
 | .tup xs,j=>(.tup (yy ob d xs j).1,(yy ob d xs j).2.1,(yy ob d xs j).2.2)
def yy (ob:Nat→Ob) (d:Nat):List X→Nat→List A×List (Nat×Ob)×Nat
 | [],j=>([],[],j)
 | x :: r,j=>((ofX ob d x j).1 :: (yy ob d r (ofX ob d x j).2.2).1,(ofX ob d x j).2.1++(yy ob d r (ofX ob d x j).2.2).2.1,(yy ob d r (ofX ob d x j).2.2).2.2)
end
mutual
def yB (ob:Nat→Ob) (ms:List Nat):X→A→A
 | .par k,_=>match ms[k]? with
   | some id=> .row id (ob id).ver
   | none=> .undef
 | .agg xs,.agg as=> .agg (ti ob ms xs as)
 | .tup xs,.tup as=> .tup (ti ob ms xs as)
 | _,a=>a
def ti (ob:Nat→Ob) (ms:List Nat):List X→List A→List A
 | x :: xs,a :: as=>yB ob ms x a :: ti ob ms xs as
 | _,as=>as
end
def dA:D→A
 | .nils=> .nil
 | x=> .d x
def ro (x:Ob) (ds:List D):Option Ob:=match x.o with
 | .row e s _ c _=>match ds with
   | [.lst n cells]=>some { ver:=x.ver,o:= .row e s n c cells,leak:=false }
   | [.lst n cells,.bool true]=>some { ver:=x.ver+1,o:= .row e s n none cells,leak:=false }
   | _=>none
 | .res k _=>match ds with
   | [y]=>some { ver:=x.ver,o:= .res k y,leak:=false }
   | _=>none
 | _=>some { ver:=x.ver,o:= .box (ds.map dA),leak:=false }
def yG (ob:Nat→Ob):List Nat→List (List D)→Option (List (Nat×Ob))
 | [],[]=>some []
 | id :: r,ds :: xs=>(ro (ob id) ds).bind fun x=>(yG ob r xs).map ((id,x) :: ·)
 | _,_=>none
def D.flat:D→Bool
 | .lst .. | .iface .. | .ifaceS .. | .lstS .. =>false
 | _=>true
def D.asLst:D→Option (Nat×List D)
 | .lst n cs | .lstS n cs=>some (n,cs)
 | _=>none
mutual
def yq (fl:TypeId→Bool):X→Bool
 | .d x=>x.flat
 | .nil=>true
 | .own e _ _ _ cells _=>fl e&&cells.all D.flat
 | .box xs | .agg xs | .tup xs=>vF fl xs
 | .res _ _=>false
 | .par _=>true
def vF (fl:TypeId→Bool):List X→Bool
 | []=>true
 | x :: xs=>yq fl x&&vF fl xs
end
def sv (ds:List D):Bool:=ds.all D.flat
def zF:List Nat→Bool
 | []=>true
 | x :: r=>!(r.any (· == x))&&zF r
def sY (Γ:Ctx) (ob:Nat→Ob) (d:Nat) (f:FuncId) (args:List A):Option Out:=
 (wq (Γ.mu f) ob args).bind fun (xs,ls,ms)=>if zF ms&&!(ms.any fun m=>ls.any (· == m)) then (Γ f xs).bind fun
   | .ret x outs=>(yG ob ms outs).map fun bs=> .val (yB (za ob bs) ms x (ofX (za ob bs) d x 0).1) ((if yq Γ.fl x&&outs.all sv then [] else zl ob ls)++(bs++(ofX (za ob bs) d x 0).2.1))
   | .pan x outs=>(yG ob ms outs).map fun bs=> .pan x (zl ob ls++bs)
   else none
def intCmp (op:BinOp) (a b:Int):Option Bool:=
 match op with
 | .eql=>some (a == b) | .neq=>some (a != b)
 | .lss=>some (decide (a < b)) | .leq=>some (decide (a ≤ b)) | .gtr=>some (decide (a > b)) | .geq=>some (decide (a ≥ b))
 | _=>none
def wR (op:BinOp) (k:IntKind) (a b:Int):Option D:=
 match op with
 | .add=>some (.int k (k.wrap (a+b))) | .sub=>some (.int k (k.wrap (a - b))) | .mul=>some (.int k (k.wrap (a * b)))
 | .quo=>if b=0 then none else some (.int k (k.wrap (a.tdiv b)))
 | .rem=>if b=0 then none else some (.int k (a.tmod b))
 | op=>(intCmp op a b).map .bool
def qA (op:BinOp) (a b:ByteArray):Option D:=
 match op with
 | .add=>if a.size+b.size ≤ 9223372036854775807 then some (.str (a++b)) else none
 | .eql=>some (.bool (a.toList == b.toList)) | .neq=>some (.bool !(a.toList == b.toList))
 | .lss=>some (.bool (Op.bytesLess a.toList b.toList))
 | .leq=>some (.bool (Op.bytesLess a.toList b.toList||a.toList == b.toList))
 | .gtr=>some (.bool !(Op.bytesLess a.toList b.toList||a.toList == b.toList))
 | .geq=>some (.bool !(Op.bytesLess a.toList b.toList))
 | _=>none
def ub (n:Nat) (lo hi:Bool):List A→Option (Nat×Nat)
 | [.d (.int _ l),.d (.int _ h)]=>if lo∧hi∧0 ≤ l∧l ≤ h∧h ≤ n then some (l.toNat,h.toNat) else none
 | [.d (.int _ i)]=>
   if lo∧!hi then (if 0 ≤ i∧i ≤ n then some (i.toNat,n) else none)
   else if !lo∧hi then (if 0 ≤ i∧i ≤ n then some (0,i.toNat) else none) else none
 | []=>if !lo∧!hi then some (0,n) else none
 | _=>none
def wF:Nat:=140737488355328
def rk:List D→Option (List UInt8)
 | []=>some []
 | .int .u8 n :: r=>(rk r).map (UInt8.ofNat n.toNat :: ·)
 | _=>none
def yW (ob:Nat→Ob) (id ver:Nat):Option (Nat×Nat×Nat×Option Nat×List D):=match (ob id).o with
 | .row e s n c cells=>if (ob id).ver=ver then some (e,s,n,c,cells) else none
 | _=>none
def xg (ob:Nat→Ob) (id ver:Nat):Option (List A):=match (ob id).o with
 | .box cells=>if (ob id).ver=ver then some cells else none
 | _=>none
def uy (ob:Nat→Ob) (id ver:Nat):Option (RK×D):=match (ob id).o with
 | .res k x=>if (ob id).ver=ver then some (k,x) else none
 | _=>none
def ok (a:A):Option Out:=some (.val a [])
def mk (ob:Nat→Ob) (d:Nat) (us:List (Nat×Ob)) (o:O):Option Out:=
 some (.val (match o with | .box _=> .adr (oid d 0) ((ob (oid d 0)).ver+1) 0 | _=> .row (oid d 0) ((ob (oid d 0)).ver+1)) (us++[wU ob (oid d 0) o]))
def lg (ob:Nat→Ob):List A→Option Out
 | [.adr id ver off]=>(xg ob id ver).bind fun cells=>(cells[off]?).bind ok
 | [.rad id ver off]=>(yW ob id ver).bind fun (_,_,_,_,cells)=>(cells[off]?).bind fun x=>ok (.d x)
 | [.cp (x :: _)]=>ok (.d x)
 | _=>none
def rz (ob:Nat→Ob) (n:Nat):List A→Option Out
 | [.adr id ver off]=>(xg ob id ver).bind fun cells=>if off+n ≤ cells.length then ok (.agg ((cells.drop off).take n)) else none
 | [.rad id ver off]=>(yW ob id ver).bind fun (_,_,_,_,cells)=>if off+n ≤ cells.length then ok (.agg (((cells.drop off).take n).map .d)) else none
 | [.cp cells]=>if n ≤ cells.length then ok (.agg ((cells.take n).map .d)) else none
 | _=>none
def fx (ob:Nat→Ob) (n:Nat):List A→Option Out
 | [.adr id ver off,a]=>(xg ob id ver).bind fun cells=>
     if off+n ≤ cells.length∧(cellsOf a).length=n∧(cellsOf a).all one then
      some (.val .undef [(id,{ ob id with o:= .box (cells.take off++cellsOf a++cells.drop (off+n)) })])
     else none
 | [.rad id ver off,a]=>(yW ob id ver).bind fun (e,s,m,c,cells)=>(zZ ob (cellsOf a)).bind fun (xs,ls)=>
     if (ob id).leak=false∧off+n ≤ cells.length∧xs.length=n∧m9 id ls=true then
      some (.val .undef (zl ob ls++[(id,{ ob id with o:= .row e s m c (cells.take off++xs++cells.drop (off+n)) })]))
     else none
 | _=>none
def xV (op:BinOp):List A→Option Out
 | [.d (.int k a),.d (.int k' b)]=>if k=k' then (wR op k a b).bind fun x=>ok (.d x) else none
 | [.d (.str a),.d (.str b)]=>(qA op a b).bind fun x=>ok (.d x)
 | _=>none
def tk (ob:Nat→Ob) (str:Bool) (size:Nat) (lo hi:Bool):List A→Option Out
 | .d (.str s) :: bs=>if str then (ub s.size lo hi bs).bind fun (l,h)=>ok (.d (.str (s.extract l h))) else none
 | .d (.lst n cells) :: bs=>if str then none else (ub n lo hi bs).bind fun (l,h)=>
     if l * size ≤ cells.length then ok (.d (.lst (h - l) ((cells.drop (l * size)).take ((h - l) * size)))) else none
 | .row id ver :: bs=>if str then none else (yW ob id ver).bind fun (_,s,n,_,cells)=>if s=size then
     (ub n lo hi bs).bind fun (l,h)=>some (.val (.d (.lst (h - l) ((cells.drop (l * size)).take ((h - l) * size)))) (zl ob [id])) else none
 | _=>none
def pT (ob:Nat→Ob) (off:Nat):List A→Option Out
 | [.adr id ver o]=>(xg ob id ver).bind fun _=>ok (.adr id ver (o+off))
 | [.rad id ver o]=>(yW ob id ver).bind fun _=>ok (.rad id ver (o+off))
 | [.cp cells]=>if off ≤ cells.length then ok (.cp (cells.drop off)) else none
 | [.row id ver]=>(uy ob id ver).bind fun q=>match q.1 with
     | .bld _ _=>if off=0 then ok (.row id ver) else none
     | _=>none
 | _=>none
def wl:D→D→Option Bool
 | .int k a,.int k' b=>if k=k' then some (a == b) else none
 | .str a,.str b=>some (a.data.toList == b.data.toList)
 | .bool a,.bool b=>some (a == b)
 | _,_=>none
def oC (n:Nat) (k:D):Nat→List D→Option (Option (List D))
 | 0,_=>some none
 | _+1,[]=>none
 | m+1,x :: r=>(wl k x).bind fun b=>if b=true then some (some (r.take n)) else oC n k m (r.drop n)
def oZ (n:Nat) (k:D) (v:List D):Nat→List D→Option (List D)
 | 0,_=>some (k :: v)
 | _+1,[]=>none
 | m+1,x :: r=>(wl k x).bind fun b=>if b=true then some (k :: v++r.drop n) else (oZ n k v m (r.drop n)).map fun z=>x :: r.take n++z
def xY:Nat→D→Bool
 | 0,.int .. | 1,.str _ | 2,.bool _=>true
 | _,_=>false
def wc:List Nat→List A→List A→Option Bool
 | [],[],[]=>some true
 | k :: ks,.d x :: xs,.d y :: ys=>if xY k x=true∧xY k y=true then (wl x y).bind fun b=>(wc ks xs ys).map fun r=>b&&r else none
 | _,_,_=>none
def ZL (neg:Bool) (ks:List Nat):List A→Option Out
 | [.agg xs,.agg ys]=>(wc ks xs ys).bind fun b=>some (.val (.d (.bool (if neg then !b else b))) [])
 | _=>none
def msz:Option Nat→Nat
 | none=>1
 | some n=>n
def oU:Option Nat→A→Bool
 | none,a=>one a
 | some _,.agg _=>true
 | _,_=>false
def qB:Option Nat→List D→Option A
 | none,[x]=>some (.d x)
 | none,_=>none
 | some n,xs=>if xs.length=n then some (.agg (xs.map .d)) else none
def v7 (n:Option Nat):D→Option (Nat×List D)
 | .lst m cs=>if cs.length=m * (1+msz n) then some (m,cs) else none
 | _=>none
def mt (ob:Nat→Ob) (t:TypeId) (kc:Nat) (n:Option Nat) (zero:List D) (wantOk:Bool):List A→Option Out
 | [.row id ver,.d k]=>(uy ob id ver).bind fun q=>if q.1= .map t n∧xY kc k=true then (v7 n q.2).bind fun p=>(oC (msz n) k p.1 p.2).bind fun r=>
     (qB n (r.getD zero)).bind fun a=>ok (if wantOk then .tup [a,.d (.bool r.isSome)] else a) else none
 | _=>none
def mi (ob:Nat→Ob) (t:TypeId) (kc:Nat) (n:Option Nat):List A→Option Out
 | [.row id ver,.d k,a]=>(uy ob id ver).bind fun q=>if q.1= .map t n∧xY kc k=true then (v7 n q.2).bind fun p=>(zZ ob (cellsOf a)).bind fun s=>
     if s.1.length=msz n∧oU n a=true then (oZ (msz n) k s.1 p.1 p.2).bind fun z=>
      some (.val .undef (zl ob s.2++[(id,{ ver:=ver,o:= .res (.map t n) (.lst (z.length / (1+msz n)) z),leak:=false })])) else none else none
 | _=>none
def oL (ob:Nat→Ob):List A→Option Out
 | [.row id ver]=>(uy ob id ver).bind fun q=>match q.1 with
     | .map _ n=>(v7 n q.2).bind fun p=>ok (.d (.int .i64 p.1))
     | _=>none
 | _=>none
def jj (ob:Nat→Ob) (size:Nat):List A→Option Out
 | [.row id ver,.d (.int _ l)]=>(yW ob id ver).bind fun (_,s,n,_,_)=>if s=size∧0 ≤ l∧l ≤ n then ok (.vw id ver l.toNat size) else none
 | _=>none
def jr (ob:Nat→Ob) (zero:List D):List A→Option Out
 | [.vw id ver lo size]=>(yW ob id ver).bind fun (e,s,n,c,cells)=>if s=size∧(ob id).leak=false∧lo ≤ n∧zero.length=size∧0 < size then
     some (.val (.tup []) [(id,{ ob id with o:= .row e s n c (cells.take (lo * size)++(List.replicate (n - lo) zero).flatten) })]) else none
 | _=>none
def lA (ob:Nat→Ob) (size:Nat):List A→Option Out
 | [.d (.lst n cells),.d (.int _ i)]=>if 0 ≤ i∧i < n∧i.toNat * size ≤ cells.length then ok (.cp (cells.drop (i.toNat * size))) else none
 | [.row id ver,.d (.int _ i)]=>(yW ob id ver).bind fun (_,_,n,_,_)=>if 0 ≤ i∧i < n then ok (.rad id ver (i.toNat * size)) else none
 | _=>none
def jd (ob:Nat→Ob) (n size:Nat):List A→Option Out
 | [.adr id ver o,.d (.int _ i)]=>(xg ob id ver).bind fun _=>if 0 ≤ i∧i < n then ok (.adr id ver (o+i.toNat * size)) else none
 | [.rad id ver o,.d (.int _ i)]=>(yW ob id ver).bind fun _=>if 0 ≤ i∧i < n then ok (.rad id ver (o+i.toNat * size)) else none
 | [.cp cells,.d (.int _ i)]=>if 0 ≤ i∧i < n∧i.toNat * size ≤ cells.length then ok (.cp (cells.drop (i.toNat * size))) else none
 | _=>none
def lc (ob:Nat→Ob) (str:Bool):List A→Option Out
 | [.d (.str s)]=>if str then ok (.d (.int .i64 s.size)) else none
 | [.d (.lst n _)]=>if str then none else ok (.d (.int .i64 n))
 | [.nil]=>if str then none else ok (.d (.int .i64 0))
 | [.row id ver]=>if str then none else (yW ob id ver).bind fun (_,_,n,_,_)=>ok (.d (.int .i64 n))
 | _=>none
def jl (ob:Nat→Ob):List A→Option Out
 | [.nil]=>ok (.d (.int .i64 0))
 | [.row id ver]=>(yW ob id ver).bind fun (_,_,_,c,_)=>c.bind fun k=>ok (.d (.int .i64 k))
 | _=>none
def lL (ob:Nat→Ob) (d e size bytes:Nat):List A→Option Out
 | [.nil,x]=>(yC ob x).bind fun p=>p.1.asLst.bind fun (m,xs)=>
     if xs.length=m * size∧0 < size∧m * bytes ≤ wF∧m ≤ 9223372036854775807 then (if m=0 then ok .nil else mk ob d [] (.row e size m none xs)) else none
 | [.row id ver,x]=>(yW ob id ver).bind fun (e',s,n,_,cells)=>(yC ob x).bind fun p=>p.1.asLst.bind fun (m,xs)=>
      if s=size∧e'=e∧0 < size∧xs.length=m * size∧(n+m) * bytes ≤ wF∧n+m ≤ 9223372036854775807 then
       some (.val (.row id (ver+1)) [(id,{ ver:=ver+1,o:= .row e s (n+m) none (cells++xs),leak:=(ob id).leak })])
      else none
 | _=>none
def ng (ob:Nat→Ob) (d e size bytes:Nat) (zero:List D):List A→Option Out
 | [.nil,.d (.int _ k)]=>
     if 0 ≤ k∧zero.length=size∧0 < size∧k.toNat * bytes ≤ wF∧k ≤ 9223372036854775807 then
      (if k=0 then ok .nil else mk ob d [] (.row e size k.toNat none (List.replicate k.toNat zero).flatten)) else none
 | [.row id ver,.d (.int _ k)]=>(yW ob id ver).bind fun (e',s,n,_,cells)=>
      if s=size∧e'=e∧0 ≤ k∧zero.length=size∧0 < size∧(n+k.toNat) * bytes ≤ wF∧n+k.toNat ≤ 9223372036854775807 then
       some (.val (.row id (ver+1)) [(id,{ ver:=ver+1,o:= .row e s (n+k.toNat) none (cells++(List.replicate k.toNat zero).flatten),leak:=(ob id).leak })])
      else none
 | _=>none
def ji (ob:Nat→Ob) (size:Nat):List A→Option Out
 | [.nil,.d (.int _ h)]=>if h=0 then ok .nil else none
 | [.row id ver,.d (.int q h)]=>if (ob id).leak=true then tk ob false size false true [.row id ver,.d (.int q h)] else (yW ob id ver).bind fun (e,s,n,c,cells)=>
      if s=size∧0 ≤ h∧h ≤ n then
       some (.val (.row id (ver+1)) [(id,{ ver:=ver+1,o:= .row e s h.toNat c (cells.take (h.toNat * s)),leak:=false })])
      else none
 | as=>tk ob false size false true as
def hJ (neg:Bool):List A→Option Out
 | [.nil]=>ok (.d (.bool !neg))
 | [.d .nils]=>ok (.d (.bool !neg))
 | [.d (.lstS _ _)]=>ok (.d (.bool neg))
 | [.d (.lst n _)]=>if 0 < n then ok (.d (.bool neg)) else none
 | _=>none
def eval (Γ:Ctx) (ob:Nat→Ob) (d:Nat) (op:SOp) (as:List A):Option Out:=match op with
 | .mv=>(match as with | [a]=>ok a | _=>none)
 | .nilck=>(match as with
   | [.adr i v o]=>(xg ob i v).bind fun _=>ok (.adr i v o)
   | [.row i v]=>(uy ob i v).bind fun q=>match q.1 with
     | .bld _ _=>ok (.row i v)
     | _=>none
   | _=>none)
 | .pick=>(match as with | [.d (.bool c),a,b]=>ok (if c then a else b) | _=>none)
 | .alloc cells=>(match as with | []=>if cells.all one then mk ob d [] (.box cells) else none | _=>none)
 | .box=>(match as with | [a]=>if (cellsOf a).all one then mk ob d [] (.box (cellsOf a)) else none | _=>none)
 | .bld zero parts=>(om zero parts as).bind fun cs=>ok (.agg cs)
 | .bldS e size len parts=>
   if parts=(List.range len).map (fun i=>(i * size,size))∧as.length=len∧(as.all fun a=>(cellsOf a).length=size) then
    (zZ ob (as.flatMap cellsOf)).bind fun (xs,ls)=>mk ob d (zl ob ls) (.row e size len (some len) xs)
   else none
 | .ld none=>lg ob as
 | .ld (some n)=>rz ob n as
 | .st n=>fx ob n as
 | .bin op=>xV op as
 | .beq neg=>(match as with | [.d (.bool a),.d (.bool b)]=>ok (.d (.bool (if neg then !(a == b) else a == b))) | _=>none)
 | .neg=>(match as with | [.d (.int k n)]=>ok (.d (.int k (k.wrap (0 - n)))) | _=>none)
 | .not=>(match as with | [.d (.bool b)]=>ok (.d (.bool !b)) | _=>none)
 | .cvt k=>(match as with | [.d (.int _ n)]=>ok (.d (.int k (k.wrap n))) | _=>none)
 | .mkI t=>(match as with
   | [.d x]=>ok (.d (.iface t x))
   | [.agg cs]=>(zZ ob cs).bind fun p=>some (.val (.d (.ifaceS t p.1)) (zl ob p.2))
   | _=>none)
 | .mkF f=>(match as with | []=>ok (.d (.fn f)) | _=>none)
 | .mkS e size bytes zero=>(match as with
   | [.d (.int _ l),.d (.int _ c)]=>
     if 0 ≤ l∧l ≤ c∧(bytes:Int) * c ≤ wF∧c ≤ 9223372036854775807∧zero.length=size∧0 < size then
      mk ob d [] (.row e size l.toNat (some c.toNat) (List.replicate l.toNat zero).flatten)
     else none
   | _=>none)
 | .slc str size lo hi=>tk ob str size lo hi as
 | .fa off=>pT ob off as
 | .fld off none=>(match as with | [.agg cs]=>(cs[off]?).bind ok | _=>none)
 | .fld off (some n)=>(match as with | [.agg cs]=>if off+n ≤ cs.length then ok (.agg ((cs.drop off).take n)) else none | _=>none)
 | .ia size=>lA ob size as
 | .ixs=>(match as with | [.d (.str s),.d (.int _ i)]=>if 0 ≤ i∧i < s.size then ok (.d (.int .u8 (s.data.getD i.toNat 0).toNat)) else none | _=>none)
 | .ext i=>(match as with | [.tup cs]=>(cs[i]?).bind ok | _=>none)
 | .call f=>sY Γ ob d f as
 | .dyn=>(match as with | .d (.fn f) :: r=>sY Γ ob d f r | _=>none)
 | .len str=>lc ob str as
 | .cap=>jl ob as
 | .app e size bytes=>lL ob d e size bytes as
 | .mm max=>(match as with
   | [.d (.int k a),.d (.int k' b)]=>if k=k' then ok (.d (.int k (if max then (if a < b then b else a) else (if b < a then b else a)))) else none
   | _=>none)
 | .pan=>(match as with
   | [.d (.iface t x)]=>some (.pan (.iface t x) [])
   | [.d (.ifaceS t xs)]=>some (.pan (.ifaceS t xs) [])
   | _=>none)
 | .b2s=>(match as with
   | [x]=>(yC ob x).bind fun
     | (.lst n xs,_)=>if n=xs.length then (rk xs).bind fun bs=>ok (.d (.str ⟨bs.toArray⟩)) else none
     | _=>none
   | _=>none)
 | .inil neg=>(match as with
   | [.d .nili]=>ok (.d (.bool !neg))
   | [.d (.iface _ _)]=>ok (.d (.bool neg))
   | [.d (.ifaceS _ _)]=>ok (.d (.bool neg))
   | _=>none)
 | .ta t=>(match as with
   | [.d (.iface u x)]=>if u=t then ok (.tup [.d x,.d (.bool true)]) else none
   | [.d (.ifaceS u xs)]=>if u=t then ok (.tup [.agg (xs.map .d),.d (.bool true)]) else none
   | _=>none)
 | .shr=>(match as with
   | [.d (.int k a),.d (.int _ b)]=>if 0 ≤ b then ok (.d (.int k (a.fdiv (2 ^ min b.toNat k.bits)))) else none
   | _=>none)
 | .s2b _=>(match as with
   | [.d (.str s)]=>ok (.d (.lst s.size (s.data.toList.map fun b=> .int .u8 b.toNat)))
   | _=>none)
 | .mkR k=>(match k,as with
   | .map t n,[]=>mk ob d [] (.res (.map t n) (.lst 0 []))
   | .map t n,[.d (.int _ _)]=>mk ob d [] (.res (.map t n) (.lst 0 []))
   | .bld T e,[]=>mk ob d [] (.res (.bld T e) (.str ⟨#[]⟩))
   | _,_=>none)
 | .mget t kc n zero wantOk=>mt ob t kc n zero wantOk as
 | .mset t kc n=>mi ob t kc n as
 | .mlen=>oL ob as
 | .vws size=>jj ob size as
 | .clr zero=>jr ob zero as
 | .seq neg ks=>ZL neg ks as
 | .snil neg=>hJ neg as
 | .appZ e size bytes zero=>ng ob d e size bytes zero as
 | .cut size=>ji ob size as
 | .iaa n size=>jd ob n size as
 | .ixa n size none=>(match as with
   | [.agg cs,.d (.int _ i)]=>if 0 ≤ i∧i < n then (cs[i.toNat * size]?).bind ok else none
   | _=>none)
 | .ixa n size (some m)=>(match as with
   | [.agg cs,.d (.int _ i)]=>if 0 ≤ i∧i < n∧i.toNat * size+m ≤ cs.length then ok (.agg ((cs.drop (i.toNat * size)).take m)) else none
   | _=>none)
def St.put (st:St) (d:Option Nat) (a:A):St:=match d with
 | some d=>{ st with slot:=upd st.slot d a }
 | none=>st
def yY (a:A) (want:Bool):Option Bool:=match a with
 | .d (.bool b)=>some (b == want)
 | .tup []=>some false
 | _=>none
def step (Γ:Ctx) (o:SOper) (st:St):Option (Ex×St):=
 let go:Option (Ex×St):=(eval Γ st.ob (o.dst.getD 0) o.op (o.args.map st.get)).map fun
  | .val a us=>(.normal,({ st with ob:=za st.ob us }:St).put o.dst a)
  | .pan x us=>(.panic x,{ st with ob:=za st.ob us })
 match o.guard with
 | none=>go
 | some (g,want)=>match yY (st.slot g) want with
   | some true=>go
   | some false=>some (.normal,st.put o.dst (.tup []))
   | none=>none
def tD (Γ:Ctx):List SOper→St→Option (Ex×St)
 | [],st=>some (.normal,st)
 | o :: r,st=>(step Γ o st).bind fun
   | (.normal,st')=>tD Γ r st'
   | e=>some e
def SOp.quiet:SOp→Bool
 | .alloc _ | .box | .bldS .. | .st _ | .mkS .. | .call _ | .dyn | .app .. | .pan | .appZ .. | .cut _ | .s2b _ | .mkR _ | .mset .. | .clr _=>false
 | _=>true
def SOp.looks:SOp→Bool
 | .ld _ | .nilck | .fa _ | .ia _ | .len _ | .cap | .slc .. | .b2s | .iaa .. | .mget .. | .mlen | .vws _ | .mkI _=>true
 | _=>false
def SOp.isSt:SOp→Bool
 | .st _=>true
 | _=>false
def vd (op:SOp) (ob:Nat→Ob):List (Nat×Ob)→List Nat
 | []=>[]
 | (i,x) :: r=>if !op.isSt&&x.leak&&x.ver == (ob i).ver then vd op ob r else i :: vd op ob r
def SOper.reads (o:SOper):List Nat:=(o.args.filterMap fun | .t n=>some n | .k _=>none)++(match o.guard with | some (g,_)=>[g] | none=>[])
mutual
def zu:A→List Nat
 | .row id _ | .adr id _ _ | .rad id _ _ | .vw id _ _ _=>[id]
 | .agg cs | .tup cs=>zN cs
 | _=>[]
def zN:List A→List Nat
 | []=>[]
 | a :: r=>zu a++zN r
end
def SOp.maker:SOp→Bool
 | .alloc _ | .box | .bldS .. | .mkS .. =>true
 | _=>false
def m6 (fb:List Nat) (us:List (Nat×Ob)):Bool:=match fb with
 | []=>false
 | _=>us.any fun p=>fb.any (· == p.1)
def pu (fb:List Nat) (st:St) (ns:List Nat):Bool:=match fb with
 | []=>false
 | _=>ns.any fun n=>(zu (st.slot n)).any fun i=>fb.any (· == i)
def u0:A→List Nat
 | .row id _ | .adr id _ _ | .rad id _ _ | .vw id _ _ _=>[id]
 | _=>[]
def xk:A→List Nat
 | .agg cs | .tup cs=>cs.flatMap u0
 | a=>u0 a
def ph (wt:List Nat) (st:St) (T:List Nat):Bool:=match wt with
 | []=>false
 | _=>wt.any fun n=>(xk (st.slot n)).any fun id=>T.any (· == id)
def pX (Γ:Ctx) (c:Bool) (o:SOper) (st:St):Option (Ex×St):=
 let go:Option (Ex×St):=(eval Γ st.ob (o.dst.getD 0) o.op (o.args.map st.get)).bind fun
  | .val a us=>if (o.op.quiet&&!us.isEmpty)||m6 o.fb us||(o.fl&&us.length != 1)||(!o.fl&&ph o.wt st (vd o.op st.ob us)) then none else some (.normal,({ st with ob:=za st.ob us }:St).put o.dst a)
  | .pan x us=>if o.fb.isEmpty||(c&&!m6 o.fb us) then some (.panic x,{ st with ob:=za st.ob us }) else none
 if pu o.fb st o.reads then none else match o.guard with
 | none=>go
 | some (g,want)=>match yY (st.slot g) want with
   | some true=>go
   | some false=>some (.normal,st.put o.dst (.tup []))
   | none=>none
def vz (Γ:Ctx) (c:Bool):List SOper→St→Option (Ex×St)
 | [],st=>some (.normal,st)
 | o :: r,st=>(pX Γ c o st).bind fun
   | (.normal,st')=>vz Γ c r st'
   | e=>some e
def g9 (f:St→Option (Ex×St)):Nat→St→Option (Ex×St)
 | 0,_=>none
 | n+1,st=>(f st).bind fun
   | (.normal,st')=>g9 f n st'
   | e=>some e
def o (d:Nat) (s:SOp) (a:List SA):SOper:=⟨some d,s,a,none,[],false,[]⟩
def g (c:Nat) (w:Bool) (d:Nat) (s:SOp) (a:List SA):SOper:=⟨some d,s,a,some (c,w),[],false,[]⟩
def e (s:SOp) (a:List SA):SOper:=⟨none,s,a,none,[],false,[]⟩
def ap (fb:List Nat) (fl:Bool) (wt:List Nat) (x:SOper):SOper:={ x with fb:=fb,fl:=fl,wt:=wt }
def t (n:Nat):SA:= .t n
def iD (n:Int):D:= .int .i64 n
def i (n:Int):SA:= .k (.d (.int .i64 n))
def b (v:Bool):SA:= .k (.d (.bool v))
def sD (l:List UInt8):D:= .str ⟨l.toArray⟩
def s (l:List UInt8):SA:= .k (.d (sD l))
def n:SA:= .k .nil
def r (v:List Nat) (l:List SOper):Cd:= .region none v l
def rd (c v:List Nat) (l:List SOper):Cd:= .region (some c) v l
def lit (e s l:Nat):SOp:= .bldS e s l ((List.range l).map fun i=>(i * s,s))
def sq (a b:Cd):Cd:= .seq a b
def zj:List (Nat×A)→Nat→A
 | [],_=> .undef
 | (i,a) :: r,n=>if n=i then a else zj r n
def zt:List (Nat×Ob)→Nat→Ob
 | [],_=>{}
 | (i,o) :: r,n=>if n=i then o else zt r n
def oJ (ob:Nat→Ob) (base:Nat):A→List (Nat×Nat)
 | .row id ver=>if (ob id).ver=ver then [(id,base)] else []
 | _=>[]
def tc (ob:Nat→Ob):Nat→List A→List (Nat×Nat)
 | _,[]=>[]
 | base,a :: r=>oJ ob base a++tc ob (base+1) r
def p5 (ob:Nat→Ob) (base:Nat):A→List (Nat×Nat)
 | .adr id ver _=>match (ob id).o with
   | .box cells=>if (ob id).ver=ver then (id,base) :: tc ob (base+1) cells else []
   | _=>[]
 | .agg cs=>tc ob (base+1) cs
 | a=>oJ ob base a
def mR:List (Nat×Nat)→List (Nat×Nat)→List (Nat×Nat)
 | acc,[]=>acc
 | acc,(i,j) :: r=>mR (if acc.any (fun p=>p.1 == i) then acc else acc++[(i,j)]) r
def vS:List (Nat×Nat)→Nat→Option Nat
 | [],_=>none
 | (i,j) :: r,n=>if n=i then some j else vS r n
mutual
def uH (m:List (Nat×Nat)) (ob:Nat→Ob):A→A
 | .row id ver=>if (ob id).ver=ver then (match vS m id with | some j=> .row j 1 | none=> .undef) else .undef
 | .adr id ver off=>if (ob id).ver=ver then (match vS m id with | some j=> .adr j 1 off | none=> .undef) else .undef
 | .rad .. => .undef
 | .vw .. => .undef
 | .agg cs=> .agg (rt m ob cs)
 | .tup cs=> .tup (rt m ob cs)
 | a=>a
def rt (m:List (Nat×Nat)) (ob:Nat→Ob):List A→List A
 | []=>[]
 | a :: r=>uH m ob a :: rt m ob r
end
def rD (m:List (Nat×Nat)) (ob:Nat→Ob):O→O
 | .box cells=> .box (rt m ob cells)
 | .row e s n _ cells=> .row e s n none cells
 | .res k x=> .res k x
 | .dead=> .dead
def oB (m:List (Nat×Nat)) (ob:Nat→Ob):O→Bool
 | .box cells=>(rt m ob cells).all one
 | _=>true
def sG (keep:List Nat) (st:St):List (Nat×Nat):=mR [] (keep.flatMap fun n=>p5 st.ob (oid n 0) (st.slot n))
def canon (ps keep:List Nat) (st:St):Option St:=
 if zF ((sG keep st).map (·.1))&&zF ((sG keep st).map (·.2))&&(sG keep st).all (fun p=>oB (sG keep st) st.ob (st.ob p.1).o)&&
     ps.all (fun p=>vS (sG keep st) p == some p&&(st.ob p).ver == 1) then
  some { slot:=zj (keep.map fun n=>(n,uH (sG keep st) st.ob (st.slot n))),
         ob:=zt ((sG keep st).map fun p=>(p.2,{ ver:=1,o:=rD (sG keep st) st.ob (st.ob p.1).o,leak:=(st.ob p.1).leak })) }
 else none
def St.only (st:St) (live:List Nat):St:={ st with slot:=zj (live.map fun n=>(n,st.slot n)) }
def tr (ob:Nat→Ob):O→O
 | .box cells=>match zZ ob cells with
   | some (xs,_)=> .box (xs.map dA)
   | none=> .dead
 | .res k x=> .res k x
 | _=> .dead
def St.forget (st:St) (ps:List Nat):St:=
 { slot:=fun _=> .undef,ob:=fun id=>if ps.any (· == id) then { ver:=(st.ob id).ver,o:=tr st.ob (st.ob id).o,leak:=false } else {} }
def St.frz (st:St) (n:Nat):Option St:=match st.slot n with
 | .adr id ver _=>(xg st.ob id ver).bind fun cells=>(zZ st.ob cells).bind fun p=>
     some { slot:=st.slot,ob:=za st.ob (zl st.ob p.2++[(id,{ st.ob id with o:= .box (p.1.map dA) })]) }
 | _=>some st
def run (Γ:Ctx) (ps:List Nat) (n:Nat):Cd→St→Option (Ex×St)
 | .skip,st=>some (.normal,st)
 | .region none live ops,st=>(tD Γ ops st).map fun
   | (.normal,st')=>(.normal,st'.only live)
   | e=>e
 | .region (some _) live ops,st=>(vz Γ ps.isEmpty ops st).map fun
   | (.normal,st')=>(.normal,st'.only live)
   | (e,st')=>(e,st'.forget ps)
 | .seq a b,st=>(run Γ ps n a st).bind fun
   | (.normal,st')=>run Γ ps n b st'
   | e=>some e
 | .cond c t e,st=>match st.get c with
   | .d (.bool b)=>if b then run Γ ps n t st else run Γ ps n e st
   | _=>none
 | .block id b,st=>(run Γ ps n b st).map fun
   | (.exit i,st')=>if i=id then (.normal,st') else (.exit i,st')
   | e=>e
 | .scope b,st=>run Γ ps n b st
 | .frz m b,st=>(st.frz m).bind (run Γ ps n b)
 | .loop keep b,st=>g9 (fun st=>(canon ps keep st).bind (run Γ ps n b)) n st
 | .exit id,st=>some (.exit id,st)
 | .ret,st=>some (.ret,st)
inductive RV where
 | tmp (t:Nat)
 | cell (t:Nat) (n:Option Nat)
def RV.get (st:St):RV→Option A
 | .tmp t=>some (st.slot t)
 | .cell t n=>match st.slot t with
   | .adr id ver 0=>(xg st.ob id ver).bind fun cells=>match n with
     | none=>cells[0]?
     | some n=>if n ≤ cells.length then some (.agg (cells.take n)) else none
   | _=>none
def ra (st:St):List RV→Option (List A)
 | []=>some []
 | r :: rs=>(r.get st).bind fun a=>(ra st rs).map (a :: ·)
def r9:List Nat→Nat→Option Nat
 | [],_=>none
 | p :: ps,i=>if i=p then some 0 else (r9 ps i).map (· +1)
mutual
def vB (ps:List Nat) (ob:Nat→Ob):A→Option (X×List Nat)
 | .d x=>some (.d x,[])
 | .nil=>some (.nil,[])
 | .row id ver=>match (ob id).o with
   | .row e s n c cells=>if (ob id).ver=ver then (match r9 ps id with
       | some k=>some (.par k,[])
       | none=>some (.own e s n c cells (ob id).leak,[id])) else none
   | .res k x=>if (ob id).ver=ver then (match r9 ps id with
       | some _=>none
       | none=>some (.res k x,[id])) else none
   | _=>none
 | .agg cs=>(xL ps ob cs).map fun x=>(.agg x.1,x.2)
 | .tup cs=>(xL ps ob cs).map fun x=>(.tup x.1,x.2)
 | _=>none
def xL (ps:List Nat) (ob:Nat→Ob):List A→Option (List X×List Nat)
 | []=>some ([],[])
 | a :: r=>(vB ps ob a).bind fun x=>(xL ps ob r).map fun y=>(x.1 :: y.1,x.2++y.2)
end
def uv:X→Bool
 | .agg _ | .tup _ | .par _=>false
 | _=>true
def qQ (ps:List Nat) (ob:Nat→Ob):A→Option (X×List Nat)
 | .adr id ver off=>match (ob id).o with
   | .box cells=>if (ob id).ver=ver∧off=0 then (xL ps ob cells).bind fun x=>if x.1.all uv then some (.box x.1,x.2++[id]) else none else none
   | _=>none
 | a=>vB ps ob a
def oE (ob:Nat→Ob):A→Option (D×List Nat)
 | .nil=>some (.nils,[])
 | a=>yC ob a
def s8 (ob:Nat→Ob):List A→Option (List D×List Nat)
 | []=>some ([],[])
 | a :: r=>(oE ob a).bind fun (x,l)=>(s8 ob r).map fun (xs,ls)=>(x :: xs,l++ls)
def pC (ob:Nat→Ob) (x:Ob):Option (List D×List Nat):=match x.o with
 | .box cells=>if x.ver=1 then s8 ob cells else none
 | .row _ _ n _ cells=>if x.leak=false then (if x.ver=1 then some ([.lst n cells],[]) else some ([.lst n cells,.bool true],[])) else none
 | .res _ y=>if x.ver=1 then some ([y],[]) else none
 | _=>none
def vE (ob:Nat→Ob):List Nat→Option (List (List D)×List Nat)
 | []=>some ([],[])
 | id :: r=>(pC ob (ob id)).bind fun x=>(vE ob r).map fun y=>(x.1 :: y.1,x.2++y.2)
def ww (ob:Nat→Ob) (ps:List Nat):Option (List (List D)×List Nat):=
 (vE ob ps).bind fun y=>if y.2.any (fun m=>ps.any (· == m))=true then none else some y
inductive KO where
 | box
 | row (e s:Nat)
 | res (k:RK)
def xG:List (Nat×Ob)→List (Nat×KO)
 | []=>[]
 | (id,x) :: r=>match x.o with
   | .row e s _ _ _=>(id,.row e s) :: xG r
   | .res k _=>(id,.res k) :: xG r
   | .box _=>(id,.box) :: xG r
   | _=>xG r
def pK (x:Ob):KO→Bool
 | .box=>match x.o with
   | .box _=>true
   | _=>false
 | .row e s=>match x.o with
   | .row e' s' _ _ _=>e' == e&&s' == s
   | _=>false
 | .res k=>match x.o with
   | .res k' _=>decide (k'=k)
   | _=>false
def uO (ob:Nat→Ob):List (Nat×KO)→Bool
 | []=>true
 | (id,k) :: r=>pK (ob id) k&&uO ob r
def enter:Nat→List X→List (Nat×A)×List (Nat×Ob)
 | _,[]=>([],[])
 | i,x :: r=>((i,(ofX (fun _=>{}) i x 0).1) :: (enter (i+1) r).1,(ofX (fun _=>{}) i x 0).2.1++(enter (i+1) r).2)
def mL (ps:List Nat) (ob:Nat→Ob):List A→Option (X×List Nat)
 | [a]=>qQ ps ob a
 | as=>(xL ps ob as).map fun x=>(.tup x.1,x.2)
def results (ps:List Nat) (st:St) (rs:List RV):Option (X×List Nat):=(ra st rs).bind (mL ps st.ob)
def qD (ps:List Nat) (rs:List RV):Ex×St→Option XOut
 | (.panic x,st)=>(ww st.ob ps).map fun y=> .pan x y.1
 | (.exit _,_)=>none
 | (_,st)=>(results ps st rs).bind fun x=>(ww st.ob ps).bind fun y=>
     if zF x.2&&!(x.2.any fun m=>y.2.any (· == m)||ps.any (· == m)) then some (.ret x.1 y.1) else none
def isD:X→Bool
 | .d _=>true
 | _=>false
def isP:X→Bool
 | .d _=>true
 | .nil=>true
 | .own _ _ _ _ _ lk=>!lk
 | _=>false
def rU:X→Bool
 | .d _=>true
 | .nil=>true
 | .own _ _ _ _ _ lk=>!lk
 | .res _ _=>true
 | .box xs=>xs.all isD
 | .agg xs=>xs.all isP
 | _=>false
def sK (Γ:Ctx) (n k:Nat) (c:Cd) (rs:List RV) (xs:List X):Option XOut:=
 if xs.length=k∧xs.all rU=true∧zF ((enter 0 xs).2.map (·.1))=true then
  (run Γ ((enter 0 xs).2.map (·.1)) n c { slot:=zj (enter 0 xs).1,ob:=zt (enter 0 xs).2 }).bind fun p=>
    if uO p.2.ob (xG (enter 0 xs).2) then qD ((enter 0 xs).2.map (·.1)) rs p else none
 else none
def oT (Γ:Ctx) (ob:Nat→Ob) (d:Nat) (ls ms:List Nat):XOut→Option Out
 | .ret x outs=>(yG ob ms outs).map fun bs=> .val (yB (za ob bs) ms x (ofX (za ob bs) d x 0).1) ((if yq Γ.fl x&&outs.all sv then [] else zl ob ls)++(bs++(ofX (za ob bs) d x 0).2.1))
 | .pan x outs=>(yG ob ms outs).map fun bs=> .pan x (zl ob ls++bs)
def O.isRow:O→Bool | .row .. =>true | .res .. =>true | _=>false
def O.isBox:O→Bool | .box .. =>true | _=>false
def sQ (ob:Nat→Ob):List A→Option (List Nat)
 | []=>some []
 | .adr id 1 0 :: r=>if (ob id).ver=1∧(ob id).o.isBox=true then (sQ ob r).map (id :: ·) else none
 | _=>none
def um:List Nat→List Nat→List (Nat×A)
 | t :: ts,id :: ids=>(t,.adr id 1 0) :: um ts ids
 | _,_=>[]
def gV (Γ:Ctx) (FD:D→List X→Option (List (List D))) (ps ids da:List Nat) (x:D) (st:St):Option St:=
 (wq false (st.forget ps).ob (ids.map fun id=> .adr id 1 0)).bind fun (xs,ls,ms)=>if zF ms&&!(ms.any fun m=>ls.any (· == m)) then
    (FD x xs).bind fun outs=>(oT Γ (st.forget ps).ob 0 ls ms (.ret (.tup []) outs)).bind fun
      | .val _ us=>some { slot:=zj (um da ids),ob:=za (st.forget ps).ob us }
      | .pan .. =>none
   else none
def rG (ps:List Nat) (ck:List (Nat×KO)) (rs:List RV) (p:Ex×St):Option XOut:=if uO p.2.ob ck=true then qD ps rs p else none
def ea (Γ:Ctx) (FD:D→List X→Option (List (List D))) (ps ids da:List Nat) (ck:List (Nat×KO)) (rs:List RV):Ex×St→Option XOut
 | (.panic x,st)=>(gV Γ FD (ps++ids) ids da x st).bind fun st'=>rG ps ck rs (.ret,st')
 | p=>rG ps ck rs p
def m4 (Γ:Ctx) (FD:D→List X→Option (List (List D))) (n k:Nat) (a:Cd) (da keep:List Nat) (b:Cd) (rs:List RV) (xs:List X):Option XOut:=
 if xs.length=k∧xs.all rU=true∧zF ((enter 0 xs).2.map (·.1))=true then
  (run Γ ((enter 0 xs).2.map (·.1)) n a { slot:=zj (enter 0 xs).1,ob:=zt (enter 0 xs).2 }).bind fun
    | (.normal,st)=>(sQ st.ob (da.map st.slot)).bind fun ids=>
      (canon ((enter 0 xs).2.map (·.1)++ids) keep st).bind fun st=>
      (run Γ ((enter 0 xs).2.map (·.1)++ids) n b st).bind (ea Γ FD ((enter 0 xs).2.map (·.1)) ids da (xG (enter 0 xs).2) rs)
    | p=>rG ((enter 0 xs).2.map (·.1)) (xG (enter 0 xs).2) rs p
 else none
def jg (Γ:Ctx) (n k b:Nat) (c:Cd) (x:D) (xs:List X):Option (List (List D)):=
 if xs.length=k∧xs.all rU=true∧zF ((enter 0 xs).2.map (·.1))=true then
  ((run Γ ((enter 0 xs).2.map (·.1)) n c { slot:=zj ((b,.d x) :: (enter 0 xs).1),ob:=zt (enter 0 xs).2 }).bind (rG ((enter 0 xs).2.map (·.1)) (xG (enter 0 xs).2) [])).bind fun
    | .ret (.tup []) outs=>some outs
    | _=>none
 else none
structure Nx where
 n:Nat
 fix:List Nat
 cuts:List Nat:=[]
def Nx.ok (N:Nx) (k:Nat):Prop:=k < N.n∧k ∉ N.fix
end Go.Vm
