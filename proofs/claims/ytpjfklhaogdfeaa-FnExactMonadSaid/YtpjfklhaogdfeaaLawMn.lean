/- The law FnExactMonad answers true, for all arguments. No condition. -/
import Derived.Test.YtpjfklhaogdfeaaRows
import Derived.Test.YtpjfklhaogdfeaaTowMn
import Derived.Test.YtpjfklhaogdfeaaVmShape
import Derived.WalkKit
import Derived.ProofKit
import Derived.OpenShut
import Derived.ShutString
import Derived.ChangeOld
import Derived.Below
import Derived.Carry
import Derived.SizedLaws
set_option linter.all false
namespace Go.Proofs.Ytpjfklhaogdfeaa.TowMn
open Go.ChangeShapes Go.WideShapes Go.ChangeAt Go.RowKit
open Go.Vm
theorem own:ownKnob Try.prog.godebug=none:=by kernel_rfl
theorem Wt:laidOutB Try.prog=true:=by kernel_rfl
theorem JX (xs:List D) (h:rG Try.prog 2 3 xs):∃ (a0:Int),xs=[.int .i64 a0]∧((Lit.int .i64 a0).wf=true):=by
 simp only [rG,Try.underlying3,Try.underlying22,Try.underlying24,n4] at h
 obtain ⟨n1,rfl,w2⟩:=h
 refine ⟨n1,?_,w2⟩
 rfl
theorem KE (xs:List D) (h:rG Try.prog 4 24 xs):∃ (a1_Shape:List Int) (a1_Data:List Int),xs=[zf cI a1_Shape,zf cI a1_Data]∧(a1_Shape.length ≤ maxLen∧∀ x ∈ a1_Shape,(Lit.int .i64 x).wf=true)∧(a1_Data.length ≤ maxLen∧∀ x ∈ a1_Data,(Lit.int .i64 x).wf=true):=by
 simp only [rG,Try.underlying3,Try.underlying22,Try.underlying24,n4] at h
 obtain ⟨x1,z2,rfl,l3,⟨y4,rfl,w5,q6⟩,x7,z8,rfl,l9,⟨y10,rfl,w11,q12⟩,rfl⟩:=h
 obtain ⟨Ly4,ey4,ny4,gy4⟩:=eQ cI (fun x=>(Lit.int .i64 x).wf=true) y4 (fun y hy=>by
  have hq:=(q6 y hy).2
  obtain ⟨n13,rfl,w14⟩:=hq
  exact ⟨n13,rfl,w14⟩)
 obtain ⟨Ly10,ey10,ny10,gy10⟩:=eQ cI (fun x=>(Lit.int .i64 x).wf=true) y10 (fun y hy=>by
  have hq:=(q12 y hy).2
  obtain ⟨n15,rfl,w16⟩:=hq
  exact ⟨n15,rfl,w16⟩)
 refine ⟨Ly4,Ly10,?_,⟨ny4 ▸ w5,gy4⟩,⟨ny10 ▸ w11,gy10⟩⟩
 simp only [List.cons_append,List.nil_append,List.append_nil,ey4,ey10]; try rfl
theorem Kx (a0:Int) (a1_Shape:List Int) (a1_Data:List Int) (h:wF a0 a1_Shape a1_Data):uP [.d (.int .i64 a0),.agg [.d (zf cI a1_Shape),.d (zf cI a1_Data)]]=some (.ret (.d (.bool true)) []):=by
 rw [kQ]
 unfold qR
 rw [zx h]; rfl
theorem GL (W:World) (args:Array Value) (a0:Int) (a1_Shape:List Int) (a1_Data:List Int) (h:wF a0 a1_Shape a1_Data) (hx:RXs (sz W) W [.d (.int .i64 a0),.agg [.d (zf cI a1_Shape),.d (zf cI a1_Data)]] args.toList []):
  Calls Try.prog 3 args W fun e W'=>e= .returned (.bool true)∧Below W.heap.size W W':=
 Ry law ⟨List.nodup_nil,Nat.zero_le _,fun b hb=>absurd hb (Nat.not_lt_zero b)⟩ hx (Kx a0 a1_Shape a1_Data h)
set_option maxRecDepth 100000 in
theorem Lt (os:Os) (started:os.Started) (H:Type) (enc:TypeId×Value→H):
  ReturnsInHanded {} Try.checked os 3 .any (Rows.fnExactMonadSpec.pre6 enc Try.prog Try.f3 Rows.fnExactMonadRow.domain false) (Rows.fnExactMonadSpec.post enc Try.prog Try.f3 false true false false):=by
 refine returnsInHanded_of_change_sized (C:=Try.checked) own started (by kernel_rfl) Try.func3
  (ChangeSpec.witness6 (enc:=enc) (C:=Try.checked) false ⟨#[],#[.int .i64 0,.agg #[.slice none 0 0,.slice none 0 0]],[]⟩ 8 (by kernel_rfl) (by kernel_rfl) (by kernel_rfl) (by kernel_rfl)) ?_
 intro W base args ds gs before hval0 hW hcnd hsz0 _
 have hval:∀ (j:Nat) t v,Try.f3.params[j]? =some t→args[j]? =some v→Value.okWide Try.prog W .any base t v:=hval0
 have hW':=hW
 obtain ⟨p,q,hA0,hV,rfl,hfz,hnd⟩:=hW
 have hA:DataW.TrodAll enc Try.prog W 0 (fun _=>true) true Try.f3.params.toList args.toList ds p:=hA0
 rw [Try.params3] at hA hval
 obtain ⟨v0,v1,d0,d1,p0,p1,rfl,rfl,rfl,h0,h1⟩:=trodAll_two hA
 obtain ⟨rfl,rfl⟩:=trodVars_none hV
 have lt0:∀ x ∈ p0,x.block < W.heap.size:=by obtain ⟨m,hm⟩:=h0; exact DataW.trod_lt m _ _ _ hm
 have lt1:∀ x ∈ p1,x.block < W.heap.size:=by obtain ⟨m,hm⟩:=h1; exact DataW.trod_lt m _ _ _ hm
 obtain ⟨xs0,hT0,hR0⟩:=eE (k:=2) (by kernel_rfl) (hval 0 3 v0 rfl rfl) h0
 obtain ⟨a0,rfl,c0_0⟩:=JX xs0 hT0
 simp only [ZS,Try.underlying3,List.map_cons,List.map_nil,List.headD_cons] at hR0
 obtain ⟨xs1,hT1,hR1⟩:=eE (k:=4) (by kernel_rfl) (hval 1 24 v1 rfl rfl) h1
 obtain ⟨a1_Shape,a1_Data,rfl,c1_0,c1_1⟩:=KE xs1 hT1
 simp only [ZS,Try.underlying24,List.map_cons,List.map_nil,List.headD_cons] at hR1
 have hx:RXs (sz W) W [.d (.int .i64 a0),.agg [.d (zf cI a1_Shape),.d (zf cI a1_Data)]] (#[v0,v1]:Array Value).toList []:=⟨_,_,[],[],rfl,rfl,hR0,⟨_,_,[],[],rfl,rfl,hR1,⟨rfl,rfl⟩⟩⟩
 clear hA0 hval0 hsz0
 refine (GL W #[v0,v1] a0 a1_Shape a1_Data (lN c0_0 c1_0 c1_1) hx).mono fun e W' ⟨he,bel⟩=>?_
 subst he
 exact ⟨_,rfl,_,_,_,[],_,[],hW',trodAll_mk1 (shut_bool Try.underlying4 _),trodAll_mk2 (Below.trod Wt (by kernel_rfl) (of_decide_eq_true (by kernel_rfl)) h0 bel lt0) (Below.trod Wt (by kernel_rfl) (of_decide_eq_true (by kernel_rfl)) h1 bel lt1),rfl,bel.frame _,fun h=>by cases h⟩
theorem Fa:Rows.fnExactMonadRow.holds Try.pinned (OpenSpec.ofChange Rows.fnExactMonadSpec):=
 OpenClaim.holds_of_wide 3 Try.f3 rfl rfl rfl rfl rfl rfl rfl ⟨rfl,rfl,rfl,rfl,rfl⟩ rfl rfl rfl rfl rfl (by kernel_rfl) Try.func3 (by kernel_rfl)
  (of_decide_eq_true (by kernel_rfl)) (by unfold Func.isWrapper; first | (rw [if_pos (by decide+kernel)]; kernel_rfl) | (rw [if_neg (by decide+kernel)]; exact ⟨rfl,rfl⟩))
  (fun os started H enc _=>Lt os started H enc)
theorem proved:Rows.FnExactMonadSaid:=Fa
#print axioms proved
end Go.Proofs.Ytpjfklhaogdfeaa.TowMn
namespace Go.Proofs.Ytpjfklhaogdfeaa
theorem fnExactMonad_holds:Rows.FnExactMonadSaid:=TowMn.proved
end Go.Proofs.Ytpjfklhaogdfeaa
