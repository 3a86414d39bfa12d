/- From the model's code to the abstract machine's. -/
import Derived.Test.YtpjfklhaogdfeaaGreatDoorVmDef
import Derived.Orders
set_option linter.unusedVariables false
set_option linter.unusedSectionVars false
set_option linter.unusedSimpArgs false
namespace Go.Vm
def gO:Value→Option A
 | .int k n=>some (.d (.int k n))
 | .bool b=>some (.d (.bool b))
 | .string s=>some (.d (.str s))
 | .slice none 0 0=>some .nil
 | .pointer none=>some (.d .nilp)
 | .func (.func f) first caps=>if first.size=0∧caps.size=0 then some (.d (.fn f)) else none
 | .nilFunc=>some (.d .nilf)
 | .nilIface=>some (.d .nili)
 | _=>none
def mF:List Value→Option (List A)
 | []=>some []
 | v :: r=>(gO v).bind fun a=>(mF r).map (a :: ·)
def zQ:Operand→Option SA
 | .tmp t=>some (.t t)
 | .const v=>(gO v).map .k
 | .func f=>some (.k (.d (.fn f)))
 | .global _=>none
def zD:List Operand→Option (List SA)
 | []=>some []
 | v :: r=>(zQ v).bind fun a=>(zD r).map (a :: ·)
def xK (P:Program) (t:TypeId):Option Nat:=(P.info? t).map (·.size)
def sC (P:Program) (t:TypeId):Option (Option Nat):=(P.underlying t).bind fun
 | .struct _ | .array _ _=>(xK P t).map some
 | _=>some none
def ux (P:Program) (t:TypeId):Option (List A):=((P.info? t).bind (·.zero)).bind fun z=>mF z.cells.toList
def NM:A→Option D
 | .d x=>some x
 | .nil=>some (.lst 0 [])
 | _=>none
def qd:List A→Option (List D)
 | []=>some []
 | a :: r=>(NM a).bind fun x=>(qd r).map (x :: ·)
def gX (P:Program) (t:TypeId):Option (List (Nat×Nat)):=(P.underlying t).bind fun
 | .struct fs=>fs.toList.mapM fun f=>(xK P f.type).map fun s=>(f.offset,s)
 | .array n e=>(xK P e).map fun s=>(List.range n).map fun i=>(i * s,s)
 | _=>none
def NV (P:Program) (t:TypeId):Option TypeId:=match P.underlying t with
 | some (.struct fs)=>match fs.toList with
   | [a,b]=>match P.underlying a.type,P.underlying b.type with
     | some (.pointer p),some (.slice e)=>match P.underlying e with
       | some (.int .u8)=>if p=t then some e else none
       | _=>none
     | _,_=>none
   | _=>none
 | _=>none
def JW (P:Program) (t:TypeId):Option TypeId:=match P.underlying t with
 | some (.struct fs)=>match fs.toList with
   | [a]=>NV P a.type
   | _=>NV P t
 | _=>none
def o7 (P:Program) (k:TypeId):Option Nat:=match P.underlying k with
 | some (.int _)=>some 0
 | some .string=>some 1
 | some .bool=>some 2
 | _=>none
def cz (P:Program) (e:TypeId) (n:Option Nat):Bool:=match (P.info? e).bind (·.zero),n with
 | some v,none=>v.oneCell'
 | some (.agg _),some _=>true
 | _,_=>false
def fW (P:Program):Nat→List Field→Option (List Nat)
 | _,[]=>some []
 | i,f :: fs=>if f.name ≠ "_"∧f.offset=i then (o7 P f.type).bind fun k=>(fW P (i+1) fs).map (k :: ·) else none
def mM (P:Program) (o:Oper):Option (SOp×List SA):=
 match o.op with
 | .move x | .assign x=>(zQ x).map fun a=>(.mv,[a])
 | .pick c a b=>(zD [c,a,b]).map fun l=>(.pick,l)
 | .alloc e=>match JW P e with
   | some u=>(ux P e).bind fun z=>match z with
     | [.d .nilp,.nil]=>some (.mkR (.bld e u),[])
     | _=>none
   | none=>(ux P e).map fun z=>(.alloc z,[])
 | .box _ x=>(zQ x).map fun a=>(.box,[a])
 | .build t parts=>(ux P t).bind fun z=>(gX P t).bind fun ps=>
     (parts.toList.mapM fun p=>ps[p.1]?).bind fun qs=>(zD (parts.toList.map (·.2))).map fun l=>(.bld z qs,l)
 | .buildSlice t len parts=>(P.underlying t).bind fun
   | .slice e=>(P.info? e).bind fun ie=>let s:=ie.size
     if parts.toList.map (·.1)=List.range len∧len * s ≤ 2 ^ 24∧0 < s∧ie.zero.isSome then
      (zD (parts.toList.map (·.2))).map fun l=>(.bldS e s len ((List.range len).map fun i=>(i * s,s)),l)
     else none
   | _=>none
 | .load t a=>(sC P t).bind fun n=>(zQ a).map fun a=>(.ld n,[a])
 | .store t a x=>(xK P t).bind fun n=>(zD [a,x]).map fun l=>(.st n,l)
 | .nilCheck x=>(zQ x).map fun a=>(.nilck,[a])
 | .binOp op t x y _=>(P.underlying t).bind fun
   | .int _ | .string=>if op= .shl ∨ op= .shr then (match op,P.underlying t with
       | .shr,some (.int _)=>(zD [x,y]).map fun l=>(.shr,l)
       | _,_=>none) else (zD [x,y]).map fun l=>(.bin op,l)
   | .bool=>(match op with | .eql=>some false | .neq=>some true | _=>none).bind fun n=>(zD [x,y]).map fun l=>(.beq n,l)
   | .interface _=>(match y with | .const .nilIface=>some () | _=>none).bind fun _=>(match op with | .eql=>some false | .neq=>some true | _=>none).bind fun n=>(zQ x).map fun a=>(.inil n,[a])
   | .slice _=>(match y with | .const (.slice none 0 0)=>some () | _=>none).bind fun _=>(match op with | .eql=>some false | .neq=>some true | _=>none).bind fun n=>(zQ x).map fun a=>(.snil n,[a])
   | .struct fs=>(match op with | .eql=>some false | .neq=>some true | _=>none).bind fun n=>if P.stoodInHeld t=false∧P.eqGuardType P.depth t=false then (fW P 0 fs.toList).bind fun ks=>(zD [x,y]).map fun l=>(.seq n ks,l) else none
   | _=>none
 | .unOp .neg _ x=>(zQ x).map fun a=>(.neg,[a])
 | .unOp .not _ x=>(zQ x).map fun a=>(.not,[a])
 | .convert s t x=>(P.underlying s).bind fun us=>(P.underlying t).bind fun ut=>match us,ut with
   | .int _,.int k=>(zQ x).map fun a=>(.cvt k,[a])
   | .slice e,.string=>(P.underlying e).bind fun
     | .int .u8=>(zQ x).map fun a=>(.b2s,[a])
     | _=>none
   | .string,.slice e=>(P.underlying e).bind fun
     | .int .u8=>(zQ x).map fun a=>(.s2b e,[a])
     | _=>none
   | _,_=>none
 | .makeInterface t x=>(P.underlying t).bind fun
   | .interface _=>none
   | _=>(zQ x).map fun a=>(.mkI t,[a])
 | .makeFunc (.func f) first caps=>if first.size=0∧caps.size=0 then some (.mkF f,[]) else none
 | .makeSlice t l c=>(P.underlying t).bind fun
   | .slice e=>(P.info? e).bind fun i=>((ux P e).bind qd).bind fun z=>(zD [l,c]).map fun as=>(.mkS e i.size i.bytes z,as)
   | _=>none
 | .slice t x lo hi none=>(P.underlying t).bind fun
   | .string=>(zD ([x]++lo.toList++hi.toList)).map fun l=>(.slc true 1 lo.isSome hi.isSome,l)
   | .slice e=>(xK P e).bind fun s=>(zD ([x]++lo.toList++hi.toList)).map fun l=>(.slc false s lo.isSome hi.isSome,l)
   | _=>none
 | .fieldAddr t x f=>(P.underlying t).bind fun
   | .struct fs=>(fs[f]?).bind fun fd=>(xK P fd.type).bind fun s=>if s=0 then none else (zQ x).map fun a=>(.fa fd.offset,[a])
   | _=>none
 | .field t x f=>(P.underlying t).bind fun
   | .struct fs=>(fs[f]?).bind fun fd=>(sC P fd.type).bind fun n=>(zQ x).map fun a=>(.fld fd.offset n,[a])
   | _=>none
 | .indexAddr t x i=>(P.underlying t).bind fun
   | .slice e=>(xK P e).bind fun s=>(zD [x,i]).map fun l=>(.ia s,l)
   | .array n e=>(xK P e).bind fun s=>(zD [x,i]).map fun l=>(.iaa n s,l)
   | _=>none
 | .index t x i=>(P.underlying t).bind fun
   | .string=>(zD [x,i]).map fun l=>(.ixs,l)
   | .array n e=>(xK P e).bind fun s=>(sC P e).bind fun m=>(zD [x,i]).map fun l=>(.ixa n s m,l)
   | _=>none
 | .makeMap t r=>(P.underlying t).bind fun
   | .map _ e=>(sC P e).bind fun n=>(zD r.toList).map fun l=>(.mkR (.map t n),l)
   | _=>none
 | .lookup t x i ok=>(P.underlying t).bind fun
   | .map k e=>(o7 P k).bind fun kc=>(sC P e).bind fun n=>((ux P e).bind qd).bind fun z=>if cz P e n=true then (zD [x,i]).map fun l=>(.mget t kc n z ok,l) else none
   | _=>none
 | .mapUpdate t m k x | .insert t m k x=>(P.underlying t).bind fun
   | .map kt e=>(o7 P kt).bind fun kc=>(sC P e).bind fun n=>(zD [m,k,x]).map fun l=>(.mset t kc n,l)
   | _=>none
 | .extract x i=>(zQ x).map fun a=>(.ext i,[a])
 | .call { callee:= .value (.func f),args,.. }=>(zD args.toList).map fun l=>(.call f,l)
 | .call { callee:= .value (.tmp t),args,.. }=>(zD args.toList).map fun l=>(.dyn,.t t :: l)
 | .call { callee:= .builtin .len,args,argTypes }=>(match args.toList,argTypes.toList with
   | [x],[t]=>(P.underlying t).bind fun
     | .string=>(zQ x).map fun a=>(.len true,[a])
     | .slice _=>(zQ x).map fun a=>(.len false,[a])
     | .map _ _=>(zQ x).map fun a=>(.mlen,[a])
     | _=>none
   | _,_=>none)
 | .call { callee:= .builtin .clear,args,argTypes }=>(match args.toList,argTypes.toList with
   | [x],[t]=>(P.underlying t).bind fun
     | .slice e=>((ux P e).bind qd).bind fun z=>(zQ x).map fun a=>(.clr z,[a])
     | _=>none
   | _,_=>none)
 | .call { callee:= .builtin .cap,args,argTypes }=>(match args.toList,argTypes.toList with
   | [x],[t]=>(P.underlying t).bind fun
     | .slice _=>(zQ x).map fun a=>(.cap,[a])
     | _=>none
   | _,_=>none)
 | .call { callee:= .builtin .append,args,argTypes }=>(match args.toList,argTypes.toList with
   | [x,y],[t,u]=>if t=u then (P.underlying t).bind fun
     | .slice e=>(P.info? e).bind fun i=>i.zero.bind fun z=>if z.cells.size=i.size then (zD [x,y]).map fun l=>(.app e i.size i.bytes,l) else none
     | _=>none
     else (P.underlying t).bind fun
     | .slice e=>(P.underlying u).bind fun
       | .int _=>(P.info? e).bind fun i=>((ux P e).bind qd).bind fun z=>(zD [x,y]).map fun as=>(.appZ e i.size i.bytes z,as)
       | _=>none
     | _=>none
   | _,_=>none)
 | .call { callee:= .builtin .min,args,.. }=>(match args.toList with | [x,y]=>(zD [x,y]).map fun l=>(.mm false,l) | _=>none)
 | .call { callee:= .builtin .max,args,.. }=>(match args.toList with | [x,y]=>(zD [x,y]).map fun l=>(.mm true,l) | _=>none)
 | .panic x=>(zQ x).map fun a=>(.pan,[a])
 | .typeAssert x _ t true=>(P.underlying t).bind fun
   | .interface _=>none
   | _=>(zQ x).map fun a=>(.ta t,[a])
 | _=>none
def my (P:Program) (N:Nx) (o:Oper):Option (SOp×List SA):=match o.op with
 | .slice t x none (some y) none=>if o.dst.any (fun d=>N.cuts.any (· == d))=true then (P.underlying t).bind fun
     | .slice e=>(xK P e).bind fun s=>(zD [x,y]).map fun l=>(.cut s,l)
     | _=>none
   else none
 | .slice t x (some y) none none=>if o.dst.any (fun d=>N.cuts.any (· == d))=true then (P.underlying t).bind fun
     | .slice e=>(xK P e).bind fun s=>(zD [x,y]).map fun l=>(.vws s,l)
     | _=>none
   else none
 | _=>none
def oI (P:Program) (N:Nx) (o:Oper):Option (SOp×List SA):=match my P N o with
 | some x=>some x
 | none=>mM P o
def qv (ops:Array Oper):Option (Nat×Bool)→Option (Option (Nat×Bool))
 | none=>some none
 | some (j,want)=>(ops[j]?).bind fun o=>o.dst.map fun d=>some (d,want)
def Rk (N:Nx):Option Nat→Bool
 | some d=>decide (d < N.n)&&!(N.fix.any (· == d))
 | none=>true
def sT (P:Program) (ops:Array Oper) (N:Nx) (o:Oper):Option SOper:=
 (oI P N o).bind fun x=>(qv ops o.guard).bind fun g=>if Rk N o.dst=true then some { dst:=o.dst,op:=x.1,args:=x.2,guard:=g } else none
def pA (P:Program) (ops:Array Oper) (N:Nx):List Oper→Option (List SOper)
 | []=>some []
 | o :: r=>(sT P ops N o).bind fun a=>(pA P ops N r).map (a :: ·)
def Ij (l:List Bool) (i:Nat):Bool:=l.getD i true
def ql (P:Program) (ops:Array Oper) (N:Nx) (i:Nat):Option SOper:=(ops[i]?).bind (sT P ops N)
def apart (x y:SOper):Bool:=
 (match x.dst with
  | some d=>!(y.reads.any (· == d))&&!(y.dst == some d)
  | none=>true)&&
 (match y.dst with
  | some d=>!(x.reads.any (· == d))
  | none=>true)
def deps (ops:Array Oper):Nat→Nat→Nat→Bool
 | 0,_,_=>false
 | n+1,j,i=>(ops[j]?).any fun o=>o.after.any fun e=>Region.binds .any e&&(e.on == i||deps ops n e.on i)
def mX (ops:Array Oper) (i j:Nat):Bool:=!(i == j)&&!(deps ops ops.size i j)&&!(deps ops ops.size j i)
def yT (P:Program) (ops:Array Oper) (N:Nx) (i:Nat):Option Nat:=(ql P ops N i).bind fun o=>
 if o.op.maker&&o.guard.isNone&&(List.range ops.size).any (fun k=>mX ops i k&&(ql P ops N k).any (fun p=>!p.op.quiet)) then o.dst.map (oid · 0) else none
def wN (P:Program) (ops:Array Oper) (N:Nx) (j:Nat):List Nat:=(List.range ops.size).filterMap fun i=>if mX ops i j then yT P ops N i else none
def T0 (P:Program) (ops:Array Oper) (N:Nx) (ready:List Nat):Option Nat:=
 match ready.find? (fun i=>(ql P ops N i).any (·.op.quiet)) with
 | some i=>some i
 | none=>match ready.find? (fun i=>(yT P ops N i).isSome) with
   | some i=>some i
   | none=>ready.head?
def ft (P:Program) (ops:Array Oper) (N:Nx) (listed:Array Bool) (i:Nat) (o:SOper):List Nat:=
 if o.op.looks&&(List.range ops.size).any (fun j=>!listed.getD j true&&!(j == i)&&(ql P ops N j).any (fun p=>!p.op.quiet)&&!(deps ops ops.size j i)) then o.reads else []
def io (P:Program) (ops:Array Oper) (N:Nx) (j:Nat):List Nat:=(List.range ops.size).flatMap fun i=>
 match ql P ops N i with
 | some o=>if o.op.quiet&&o.op.looks&&mX ops i j then o.reads else []
 | none=>[]
def jc:A→Bool
 | .d _ | .nil=>true
 | _=>false
def qi (o:SOper):Bool:=o.args.all fun | .k a=>jc a | .t _=>true
def kD (P:Program) (ops:Array Oper) (N:Nx):Nat→Array Bool→Option (List SOper)
 | 0,listed=>if (Region.ready .any ops listed).isEmpty then some [] else none
 | yz+1,listed=>match T0 P ops N (Region.ready .any ops listed) with
   | none=>if (Region.ready .any ops listed).isEmpty then some [] else none
   | some i=>(ql P ops N i).bind fun o=>
     (kD P ops N yz (listed.setIfInBounds i true)).bind fun rest=>
       if (Region.ready .any ops listed).any (· == i)&&
           (if o.op.quiet then
             qi o&&
             (List.range ops.size).all (fun j=>listed.getD j true||j == i||deps ops ops.size j i||(ql P ops N j).any (apart o))&&
             (ft P ops N listed i o).all (fun n=>!(o.dst == some n)&&rest.all (fun p=>!(p.dst == some n)))
           else match yT P ops N i with
            | some id=>qi o&&(List.range ops.size).all (fun j=>listed.getD j true||j == i||deps ops ops.size j i||((ql P ops N j).any (fun p=>apart o p&&qi p)&&(wN P ops N j).any (· == id)))
            | none=>(Region.ready .any ops listed).all (· == i)&&(io P ops N i).all (fun n=>!(o.dst == some n)&&rest.all (fun p=>!(p.dst == some n))))&&((wN P ops N i).isEmpty||qi o) then
        some ({ o with fb:=wN P ops N i,fl:=(yT P ops N i).isSome,wt:=if o.op.quiet then [] else io P ops N i } :: rest)
       else none
def NN (P:Program) (ops:Array Oper) (N:Nx):Option (List SOper):=kD P ops N ops.size (Array.replicate ops.size false)
def comp (P:Program) (N:Nx):Code→Option Cd
 | .skip=>some .skip
 | .region _ ops false=>(pA P ops N ops.toList).map fun l=> .region none [] l
 | .region _ ops true=>(NN P ops N).map fun x=> .region (some []) [] x
 | .seq a b=>(comp P N a).bind fun x=>(comp P N b).map fun y=> .seq x y
 | .cond c t e=>(zQ c).bind fun c=>(comp P N t).bind fun x=>(comp P N e).map fun y=> .cond c x y
 | .block id b=>(comp P N b).map (.block id)
 | .loop b=>(comp P N b).map (.loop [])
 | .scope b=>(comp P N b).map .scope
 | .label _=>some .skip
 | .exit id=>some (.exit id)
 | .ret=>some .ret
 | _=>none
def Cd.strip:Cd→Cd
 | .loop _ b=> .loop [] b.strip
 | .region d _ l=> .region d [] l
 | .seq a b=> .seq a.strip b.strip
 | .cond c t e=> .cond c t.strip e.strip
 | .block id b=> .block id b.strip
 | .scope b=> .scope b.strip
 | .frz _ b=>b.strip
 | c=>c
def M2 (P:Program):ResultVar→Option RV
 | .tmp t=>some (.tmp t)
 | .cell t ty=>(sC P ty).map fun n=> .cell t n
def vG (P:Program):List ResultVar→Option (List RV)
 | []=>some []
 | r :: rs=>(M2 P r).bind fun x=>(vG P rs).map (x :: ·)
def bG:List Operand→Option (List Nat)
 | []=>some []
 | .tmp t :: r=>(bG r).map (t :: ·)
 | _=>none
def fw:Code→Option (FuncId×List Nat)
 | .region _ ops false=>match ops.toList with
   | [o]=>match o.op with
     | .defer { callee:= .value (.func f),args,.. }=>if o.guard.isNone∧o.dst.isNone then (bG args.toList).map fun l=>(f,l) else none
     | _=>none
   | _=>none
 | _=>none
def qN:Code→Option (List Code×(FuncId×List Nat)×Code)
 | .seq a b=>match fw a with
   | some d=>some ([],d,b)
   | none=>(qN b).map fun x=>(a :: x.1,x.2)
 | _=>none
def km:List Code→Code
 | []=> .skip
 | c :: cs=> .seq c (km cs)
def up (N:Nat):Code→Option (Nat×Nat×Code)
 | .seq (.region _ ops false) rest=>match ops.toList with
   | [o1,o2]=>match o1.op,o1.dst,o2.op,o2.dst with
     | .call { callee:= .builtin .recover,.. },some a,.assign (.tmp t),some b=>
       if o1.guard.isNone=true∧o2.guard.isNone=true∧t=a∧a < N∧b < N then some (a,b,rest) else none
     | _,_,_,_=>none
   | _=>none
 | _=>none
end Go.Vm
