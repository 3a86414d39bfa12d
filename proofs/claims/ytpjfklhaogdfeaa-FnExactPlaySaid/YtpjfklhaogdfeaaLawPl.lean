/- The law FnExactPlay answers true, for all arguments. No condition. -/
import Derived.Test.YtpjfklhaogdfeaaRows
import Derived.Test.YtpjfklhaogdfeaaTowPl
import Derived.Test.YtpjfklhaogdfeaaVmShape
import Derived.WalkKit
import Derived.ProofKit
import Derived.OpenShut
import Derived.ShutString
import Derived.ChangeOld
import Derived.Below
import Derived.Carry
import Derived.SizedLaws
set_option linter.all false
namespace Go.Proofs.Ytpjfklhaogdfeaa.TowPl
open Go.ChangeShapes Go.WideShapes Go.ChangeAt Go.RowKit
open Go.Vm
theorem own:ownKnob Try.prog.godebug=none:=by kernel_rfl
theorem dg:laidOutB Try.prog=true:=by kernel_rfl
theorem LL (xs:List D) (h:th Try.prog 5 35 xs):∃ (a0_Files:List TFile),xs=[zb cFile a0_Files]∧(a0_Files.length ≤ maxLen∧∀ x ∈ a0_Files,x.Name.length ≤ maxLen∧x.Data.length ≤ maxLen):=by
 simp only [th,Try.underlying3,Try.underlying9,Try.underlying33,Try.underlying35,Try.underlying36,Try.underlying74,Try.underlying135,pU] at h
 obtain ⟨x1,z2,rfl,l3,⟨y4,rfl,w5,q6⟩,rfl⟩:=h
 obtain ⟨Ly4,ey4,ny4,gy4⟩:=fe cFile (fun x=>x.Name.length ≤ maxLen∧x.Data.length ≤ maxLen) y4 (fun y hy=>by
  have hq:=(q6 y hy).2
  obtain ⟨x7,z8,rfl,l9,⟨s10,rfl,w11⟩,x12,z13,rfl,l14,⟨s15,rfl,w16⟩,rfl⟩:=hq
  exact ⟨⟨s10.data.toList,s15.data.toList⟩,rfl,⟨w11,w16⟩⟩)
 refine ⟨Ly4,?_,⟨ny4 ▸ w5,gy4⟩⟩
 simp only [List.cons_append,List.nil_append,List.append_nil,ey4]; try rfl
theorem KM (xs:List D) (h:th Try.prog 4 36 xs):∃ (a1:List TAct),xs=[zb cAct a1]∧(a1.length ≤ maxLen∧∀ x ∈ a1,(Lit.int .i64 x.Kind).wf=true∧x.Name.length ≤ maxLen∧x.To.length ≤ maxLen∧x.Data.length ≤ maxLen):=by
 simp only [th,Try.underlying3,Try.underlying9,Try.underlying33,Try.underlying35,Try.underlying36,Try.underlying74,Try.underlying135,pU] at h
 obtain ⟨y1,rfl,w2,q3⟩:=h
 obtain ⟨Ly1,ey1,ny1,gy1⟩:=fe cAct (fun x=>(Lit.int .i64 x.Kind).wf=true∧x.Name.length ≤ maxLen∧x.To.length ≤ maxLen∧x.Data.length ≤ maxLen) y1 (fun y hy=>by
  have hq:=(q3 y hy).2
  obtain ⟨x4,z5,rfl,l6,⟨n7,rfl,w8⟩,x9,z10,rfl,l11,⟨s12,rfl,w13⟩,x14,z15,rfl,l16,⟨s17,rfl,w18⟩,x19,z20,rfl,l21,⟨s22,rfl,w23⟩,rfl⟩:=hq
  exact ⟨⟨n7,s12.data.toList,s17.data.toList,s22.data.toList⟩,rfl,⟨w8,w13,w18,w23⟩⟩)
 refine ⟨Ly1,?_,⟨ny1 ▸ w2,gy1⟩⟩
 simp only [List.cons_append,List.nil_append,List.append_nil,ey1]; try rfl
theorem Kh (xs:List D) (h:th Try.prog 2 3 xs):∃ (a2:Int),xs=[.int .i64 a2]∧((Lit.int .i64 a2).wf=true):=by
 simp only [th,Try.underlying3,Try.underlying9,Try.underlying33,Try.underlying35,Try.underlying36,Try.underlying74,Try.underlying135,pU] at h
 obtain ⟨n1,rfl,w2⟩:=h
 refine ⟨n1,?_,w2⟩
 rfl
theorem Lq (a0_Files:List TFile) (a1:List TAct) (a2:Int) (h:wx a0_Files a1 a2):u5 [.agg [.d (zb cFile a0_Files)],.d (zb cAct a1),.d (.int .i64 a2)]=some (.ret (.d (.bool true)) []):=by
 rw [lA]
 unfold rZ
 rw [zz h]; rfl
theorem I8 (W:World) (args:Array Value) (a0_Files:List TFile) (a1:List TAct) (a2:Int) (h:wx a0_Files a1 a2) (hx:RXs (sz W) W [.agg [.d (zb cFile a0_Files)],.d (zb cAct a1),.d (.int .i64 a2)] args.toList []):
  Calls Try.prog 4 args W fun e W'=>e= .returned (.bool true)∧Below W.heap.size W W':=
 QX law ⟨List.nodup_nil,Nat.zero_le _,fun b hb=>absurd hb (Nat.not_lt_zero b)⟩ hx (Lq a0_Files a1 a2 h)
set_option maxRecDepth 100000 in
theorem Ld (os:Os) (started:os.Started) (H:Type) (enc:TypeId×Value→H):
  ReturnsInHanded {} Try.checked os 4 .any (Rows.fnExactPlaySpec.pre6 enc Try.prog Try.f4 Rows.fnExactPlayRow.domain false) (Rows.fnExactPlaySpec.post enc Try.prog Try.f4 false true false false):=by
 refine returnsInHanded_of_change_sized (C:=Try.checked) own started (by kernel_rfl) Try.func4
  (ChangeSpec.witness6 (enc:=enc) (C:=Try.checked) false ⟨#[],#[.agg #[.slice none 0 0],.slice none 0 0,.int .i64 0],[]⟩ 8 (by kernel_rfl) (by kernel_rfl) (by kernel_rfl) (by kernel_rfl)) ?_
 intro W base args ds gs before hval0 hW hcnd hsz0 _
 have hval:∀ (j:Nat) t v,Try.f4.params[j]? =some t→args[j]? =some v→Value.okWide Try.prog W .any base t v:=hval0
 have hW':=hW
 obtain ⟨p,q,hA0,hV,rfl,hfz,hnd⟩:=hW
 have hA:DataW.TrodAll enc Try.prog W 0 (fun _=>true) true Try.f4.params.toList args.toList ds p:=hA0
 rw [Try.params4] at hA hval
 obtain ⟨v0,v1,v2,d0,d1,d2,p0,p1,p2,rfl,rfl,rfl,h0,h1,h2⟩:=trodAll_three hA
 obtain ⟨rfl,rfl⟩:=trodVars_none hV
 have lt0:∀ x ∈ p0,x.block < W.heap.size:=by obtain ⟨m,hm⟩:=h0; exact DataW.trod_lt m _ _ _ hm
 have lt1:∀ x ∈ p1,x.block < W.heap.size:=by obtain ⟨m,hm⟩:=h1; exact DataW.trod_lt m _ _ _ hm
 have lt2:∀ x ∈ p2,x.block < W.heap.size:=by obtain ⟨m,hm⟩:=h2; exact DataW.trod_lt m _ _ _ hm
 obtain ⟨xs0,hT0,hR0⟩:=lz (k:=5) (by kernel_rfl) (hval 0 35 v0 rfl rfl) h0
 obtain ⟨a0_Files,rfl,c0_0⟩:=LL xs0 hT0
 simp only [ec,Try.underlying35,List.map_cons,List.map_nil,List.headD_cons] at hR0
 obtain ⟨xs1,hT1,hR1⟩:=lz (k:=4) (by kernel_rfl) (hval 1 36 v1 rfl rfl) h1
 obtain ⟨a1,rfl,c1_0⟩:=KM xs1 hT1
 simp only [ec,Try.underlying36,List.map_cons,List.map_nil,List.headD_cons] at hR1
 obtain ⟨xs2,hT2,hR2⟩:=lz (k:=2) (by kernel_rfl) (hval 2 3 v2 rfl rfl) h2
 obtain ⟨a2,rfl,c2_0⟩:=Kh xs2 hT2
 simp only [ec,Try.underlying3,List.map_cons,List.map_nil,List.headD_cons] at hR2
 have hx:RXs (sz W) W [.agg [.d (zb cFile a0_Files)],.d (zb cAct a1),.d (.int .i64 a2)] (#[v0,v1,v2]:Array Value).toList []:=⟨_,_,[],[],rfl,rfl,hR0,⟨_,_,[],[],rfl,rfl,hR1,⟨_,_,[],[],rfl,rfl,hR2,⟨rfl,rfl⟩⟩⟩⟩
 clear hA0 hval0 hsz0
 refine (I8 W #[v0,v1,v2] a0_Files a1 a2 (mO c0_0 c1_0 c2_0) hx).mono fun e W' ⟨he,bel⟩=>?_
 subst he
 exact ⟨_,rfl,_,_,_,[],_,[],hW',trodAll_mk1 (shut_bool Try.underlying4 _),trodAll_mk3 (Below.trod dg (by kernel_rfl) (of_decide_eq_true (by kernel_rfl)) h0 bel lt0) (Below.trod dg (by kernel_rfl) (of_decide_eq_true (by kernel_rfl)) h1 bel lt1) (Below.trod dg (by kernel_rfl) (of_decide_eq_true (by kernel_rfl)) h2 bel lt2),rfl,bel.frame _,fun h=>by cases h⟩
theorem IR:Rows.fnExactPlayRow.holds Try.pinned (OpenSpec.ofChange Rows.fnExactPlaySpec):=
 OpenClaim.holds_of_wide 4 Try.f4 rfl rfl rfl rfl rfl rfl rfl ⟨rfl,rfl,rfl,rfl,rfl⟩ rfl rfl rfl rfl rfl (by kernel_rfl) Try.func4 (by kernel_rfl)
  (of_decide_eq_true (by kernel_rfl)) (by unfold Func.isWrapper; first | (rw [if_pos (by decide+kernel)]; kernel_rfl) | (rw [if_neg (by decide+kernel)]; exact ⟨rfl,rfl⟩))
  (fun os started H enc _=>Ld os started H enc)
theorem proved:Rows.FnExactPlaySaid:=IR
#print axioms proved
end Go.Proofs.Ytpjfklhaogdfeaa.TowPl
namespace Go.Proofs.Ytpjfklhaogdfeaa
theorem fnExactPlay_holds:Rows.FnExactPlaySaid:=TowPl.proved
end Go.Proofs.Ytpjfklhaogdfeaa
