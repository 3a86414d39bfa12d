/- The law FnSums answers true, for all arguments. No condition. -/
import Derived.Test.YtafjdofgafppgaaGreatRows
import Derived.Test.YtafjdofgafppgaaGreatTowSm
import Derived.Test.YtafjdofgafppgaaGreatVmShape
import Derived.WalkKit
import Derived.ProofKit
import Derived.OpenShut
import Derived.ShutString
import Derived.ChangeOld
import Derived.Below
import Derived.Carry
import Derived.SizedLaws
set_option linter.all false
namespace Go.Proofs.YtafjdofgafppgaaGreat.TowSm
open Go.ChangeShapes Go.WideShapes Go.ChangeAt Go.RowKit
open Go.Vm
theorem own:ownKnob Tryz.prog.godebug=none:=by kernel_rfl
theorem Gb:laidOutB Tryz.prog=true:=by kernel_rfl
theorem ED (xs:List D) (h:kU Tryz.prog 3 22 xs):∃ (a0:List Int),xs=[zf c8 a0]∧(a0.length ≤ maxLen∧∀ x ∈ a0,(Lit.int .u8 x).wf=true):=by
 simp only [kU,Tryz.underlying5,Tryz.underlying22,eW] at h
 obtain ⟨y1,rfl,w2,q3⟩:=h
 obtain ⟨Ly1,ey1,ny1,gy1⟩:=Se c8 (fun x=>(Lit.int .u8 x).wf=true) y1 (fun y hy=>by
  have hq:=(q3 y hy).2
  obtain ⟨n4,rfl,w5⟩:=hq
  exact ⟨n4,rfl,w5⟩)
 refine ⟨Ly1,?_,⟨ny1 ▸ w2,gy1⟩⟩
 simp only [List.cons_append,List.nil_append,List.append_nil,ey1]; try rfl
theorem CR (a0:List Int) (h:pR a0):iw [.d (zf c8 a0)]=some (.ret (.d (.bool true)) []):=by
 rw [XG]
 unfold eb
 rw [zk h]; rfl
theorem zah (W:World) (args:Array Value) (a0:List Int) (h:pR a0) (hx:RXs (sz W) W [.d (zf c8 a0)] args.toList []):
  Calls Tryz.prog 3 args W fun e W'=>e= .returned (.bool true)∧Below W.heap.size W W':=
 J2 law ⟨List.nodup_nil,Nat.zero_le _,fun b hb=>absurd hb (Nat.not_lt_zero b)⟩ hx (CR a0 h)
set_option maxRecDepth 100000 in
theorem E0 (os:Os) (started:os.Started) (H:Type) (enc:TypeId×Value→H):
  ReturnsInHanded {} Tryz.checked os 3 .any (Rows.fnSumsSpec.pre6 enc Tryz.prog Tryz.f3 Rows.fnSumsRow.domain false) (Rows.fnSumsSpec.post enc Tryz.prog Tryz.f3 false true false false):=by
 refine returnsInHanded_of_change_sized (C:=Tryz.checked) own started (by kernel_rfl) Tryz.func3
  (ChangeSpec.witness6 (enc:=enc) (C:=Tryz.checked) false ⟨#[],#[.slice none 0 0],[]⟩ 8 (by kernel_rfl) (by kernel_rfl) (by kernel_rfl) (by kernel_rfl)) ?_
 intro W base args ds gs before hval0 hW hcnd hsz0 _
 have hval:∀ (j:Nat) t v,Tryz.f3.params[j]? =some t→args[j]? =some v→Value.okWide Tryz.prog W .any base t v:=hval0
 have hW':=hW
 obtain ⟨p,q,hA0,hV,rfl,hfz,hnd⟩:=hW
 have hA:DataW.TrodAll enc Tryz.prog W 0 (fun _=>true) true Tryz.f3.params.toList args.toList ds p:=hA0
 rw [Tryz.params3] at hA hval
 obtain ⟨v0,d0,rfl,rfl,h0⟩:=trodAll_one hA
 obtain ⟨rfl,rfl⟩:=trodVars_none hV
 have lt0:∀ x ∈ p,x.block < W.heap.size:=by obtain ⟨m,hm⟩:=h0; exact DataW.trod_lt m _ _ _ hm
 obtain ⟨xs0,hT0,hR0⟩:=Qq (k:=3) (by kernel_rfl) (hval 0 22 v0 rfl rfl) h0
 obtain ⟨a0,rfl,c0_0⟩:=ED xs0 hT0
 simp only [PZ,Tryz.underlying22,List.map_cons,List.map_nil,List.headD_cons] at hR0
 have hx:RXs (sz W) W [.d (zf c8 a0)] (#[v0]:Array Value).toList []:=⟨_,_,[],[],rfl,rfl,hR0,⟨rfl,rfl⟩⟩
 clear hA0 hval0 hsz0
 refine (zah W #[v0] a0 (Ze c0_0) hx).mono fun e W' ⟨he,bel⟩=>?_
 subst he
 exact ⟨_,rfl,_,_,_,[],_,[],hW',trodAll_mk1 (shut_bool Tryz.underlying4 _),trodAll_mk1 (Below.trod Gb (by kernel_rfl) (of_decide_eq_true (by kernel_rfl)) h0 bel lt0),rfl,bel.frame _,fun h=>by cases h⟩
theorem zaj:Rows.fnSumsRow.holds Tryz.pinned (OpenSpec.ofChange Rows.fnSumsSpec):=
 OpenClaim.holds_of_wide 3 Tryz.f3 rfl rfl rfl rfl rfl rfl rfl ⟨rfl,rfl,rfl,rfl,rfl⟩ rfl rfl rfl rfl rfl (by kernel_rfl) Tryz.func3 (by kernel_rfl)
  (of_decide_eq_true (by kernel_rfl)) (by unfold Func.isWrapper; first | (rw [if_pos (by decide+kernel)]; kernel_rfl) | (rw [if_neg (by decide+kernel)]; exact ⟨rfl,rfl⟩))
  (fun os started H enc _=>E0 os started H enc)
theorem proved:Rows.FnSumsSaid:=zaj
#print axioms proved
end Go.Proofs.YtafjdofgafppgaaGreat.TowSm
namespace Go.Proofs.YtafjdofgafppgaaGreat
theorem fnSums_holds:Rows.FnSumsSaid:=TowSm.proved
end Go.Proofs.YtafjdofgafppgaaGreat
