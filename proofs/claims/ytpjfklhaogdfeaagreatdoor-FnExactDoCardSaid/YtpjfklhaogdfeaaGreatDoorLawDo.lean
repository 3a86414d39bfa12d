/- The law FnExactDo answers true, for all arguments. No condition. -/
import Derived.Test.YtpjfklhaogdfeaaGreatDoorRows
import Derived.Test.YtpjfklhaogdfeaaGreatDoorTowDo
import Derived.Test.YtpjfklhaogdfeaaGreatDoorVmShape
import Derived.Test.YtpjfklhaogdfeaaGreatDoorCards
import Derived.Test.YtpjfklhaogdfeaaGreatDoorTie
import Derived.WalkKit
import Derived.ChangeSame
import Derived.ChangeVars
import Derived.JoinedOf
import Derived.RowKit
import Derived.RowKitTokens
import Derived.LaidLaws
import Derived.LaidHandle
import Derived.SevenTiedAt
import Derived.Stop.Joined
import Derived.Handed
import Derived.ProofKit
import Derived.OpenShut
import Derived.ShutString
import Derived.ChangeOld
import Derived.Below
import Derived.Carry
import Derived.SizedLaws
set_option linter.all false
namespace Go.Proofs.YtpjfklhaogdfeaaGreatDoor.TowDo
open Go.ChangeShapes Go.WideShapes Go.ChangeAt Go.RowKit
open Go.Vm
theorem own:ownKnob Tryz.prog.godebug=none:=by kernel_rfl
theorem Zb:laidOutB Tryz.prog=true:=by kernel_rfl
theorem Nq (xs:List D) (h:te Tryz.prog 5 24 xs):∃ (a0_Files:List TFile),xs=[zh cFile a0_Files]∧(a0_Files.length ≤ maxLen∧∀ x ∈ a0_Files,x.Name.length ≤ maxLen∧x.Data.length ≤ maxLen):=by
 simp only [te,Tryz.underlying3,Tryz.underlying9,Tryz.underlying22,Tryz.underlying24,Tryz.underlying26,Tryz.underlying58,pd] at h
 obtain ⟨x1,z2,rfl,l3,⟨y4,rfl,w5,q6⟩,rfl⟩:=h
 obtain ⟨Ly4,ey4,ny4,gy4⟩:=bK cFile (fun x=>x.Name.length ≤ maxLen∧x.Data.length ≤ maxLen) y4 (fun y hy=>by
  have hq:=(q6 y hy).2
  obtain ⟨x7,z8,rfl,l9,⟨s10,rfl,w11⟩,x12,z13,rfl,l14,⟨s15,rfl,w16⟩,rfl⟩:=hq
  exact ⟨⟨s10.data.toList,s15.data.toList⟩,rfl,⟨w11,w16⟩⟩)
 refine ⟨Ly4,?_,⟨ny4 ▸ w5,gy4⟩⟩
 simp only [List.cons_append,List.nil_append,List.append_nil,ey4]; try rfl
theorem Ns (xs:List D) (h:te Tryz.prog 3 26 xs):∃ (zk:Int) (a1_Name:List UInt8) (a1_To:List UInt8) (a1_Data:List UInt8),xs=[.int .i64 zk,sD a1_Name,sD a1_To,sD a1_Data]∧((Lit.int .i64 zk).wf=true)∧(a1_Name.length ≤ maxLen)∧(a1_To.length ≤ maxLen)∧(a1_Data.length ≤ maxLen):=by
 simp only [te,Tryz.underlying3,Tryz.underlying9,Tryz.underlying22,Tryz.underlying24,Tryz.underlying26,Tryz.underlying58,pd] at h
 obtain ⟨x1,z2,rfl,l3,⟨n4,rfl,w5⟩,x6,z7,rfl,l8,⟨s9,rfl,w10⟩,x11,z12,rfl,l13,⟨s14,rfl,w15⟩,x16,z17,rfl,l18,⟨s19,rfl,w20⟩,rfl⟩:=h
 refine ⟨n4,s9.data.toList,s14.data.toList,s19.data.toList,?_,w5,w10,w15,w20⟩
 rfl
theorem gE:Tryz.prog.globalNamed "errors.errorType"=some 0:=by kernel_rfl
theorem rtE:(Tryz.prog.cutTypes.find? (·.1 == "internal/reflectlite.rtype")).map (·.2)=some 108:=by kernel_rfl
theorem Px:((List.range 187).filter fun t=>Tryz.prog.rowNamed t [101,114,114,111,114])=[50]:=by kernel_rfl
theorem Kw:Tryz.prog.types.size=187:=by kernel_rfl
theorem YK {W:World} (h:laidMetH Tryz.prog Rows.fnExactDoRow.laid W):W.cell? ⟨0,0,none⟩=some etV:=by
 have h':laidMet Tryz.prog [] W∧handlesMet Tryz.prog Rows.fnExactDoRow.laid W:=h
 obtain ⟨name,u,ty,e1,e2,e3,e4,e5⟩:=h'.2 _ (List.mem_singleton.2 rfl)
 have en:name=[101,114,114,111,114]:=(Option.some.inj e1).symm
 subst en
 obtain rfl:=Option.some.inj (rtE.symm.trans e2)
 have hm:ty ∈ (List.range 187).filter fun t=>Tryz.prog.rowNamed t [101,114,114,111,114]:=List.mem_filter.2 ⟨List.mem_range.2 (by rw [← Kw]; exact e3),e4⟩
 rw [Px] at hm
 obtain rfl:=List.mem_singleton.1 hm
 have hh:typeHandle Tryz.prog 50= .pointer (some ⟨1,50,none⟩):=by kernel_rfl
 rw [hh] at e5
 simpa [etV] using World.var?_cell gE e5 0
theorem Sr {W w:World} (h:W.cell? ⟨0,0,none⟩=some etV) (hw:∀ b,b < W.heap.size→w.heap[b]? =W.heap[b]?):w.cell? ⟨0,0,none⟩=some etV:=
 (World.cell?_of_block (w:=W) (hw 0 (World.block_lt_of_cell? W _ h))).trans h
noncomputable def ee (os:Os):World:=
 let w0:=World.holding Tryz.prog os ⟨#[],#[],[]⟩
 { w0 with heap:=w0.heap.modify 0 fun
    | .cells _ t frozen=> .cells #[.iface 108 (.agg #[.pointer (some ⟨1,50,none⟩)])] t frozen
    | o=>o }
theorem dH (os:Os) (args:Array Value):laidMetH Tryz.prog Rows.fnExactDoRow.laid ((ee os).forCall (fun _ _=>0) ⟨#[],args,[]⟩).memory:=
 laidMetH_of_parts (laidMet_nil _ _) (by kernel_rfl)
theorem My [Gl] [GlTab] (a0_Files:List TFile) (zk:Int) (a1_Name:List UInt8) (a1_To:List UInt8) (a1_Data:List UInt8) (h:wx a0_Files zk a1_Name a1_To a1_Data):u6 [.agg [.d (zh cFile a0_Files)],.agg [.d (.int .i64 zk),.d (sD a1_Name),.d (sD a1_To),.d (sD a1_Data)]]=some (.ret (.d (.bool true)) []):=by
 rw [kf]
 unfold qj
 rw [zA h]; rfl
theorem J7 (W:World) (hT_et:W.cell? ⟨0,0,none⟩=some etV) (args:Array Value) (a0_Files:List TFile) (zk:Int) (a1_Name:List UInt8) (a1_To:List UInt8) (a1_Data:List UInt8) (h:wx a0_Files zk a1_Name a1_To a1_Data) (hx:RXs (sz W) W [.agg [.d (zh cFile a0_Files)],.agg [.d (.int .i64 zk),.d (sD a1_Name),.d (sD a1_To),.d (sD a1_Data)]] args.toList []):
  Calls Tryz.prog 3 args W fun e W'=>e= .returned (.bool true)∧Below W.heap.size W W':=by
 letI gl:Gl:=⟨W.heap.size,fun b=>W.heap[b]?⟩
 haveI tb:GlTab:=⟨fun w hw=>Sr (W:=W) (w:=w) hT_et hw⟩
 have hct:=My a0_Files zk a1_Name a1_To a1_Data h
 have hb:fK W ([]:List Nat):=⟨List.nodup_nil,Nat.le_refl _,fun b hb=>⟨rfl,by simp⟩⟩
 have hl:=law
 exact TL hl hb hx hct
set_option maxRecDepth 100000 in
theorem Na (os:Os) (started:os.Started) (H:Type) (enc:TypeId×Value→H):
  ReturnsInHanded {} Tryz.checked os 3 .any (fun w args=>(Rows.fnExactDoSpec.pre enc Tryz.prog Tryz.f3 Rows.fnExactDoRow.domain false w args∧laidMetH Tryz.prog Rows.fnExactDoRow.laid w)∧sizedMet enc Tryz.prog Tryz.f3 (OpenSpec.ofChange Rows.fnExactDoSpec) false w args) (Rows.fnExactDoSpec.post enc Tryz.prog Tryz.f3 false true false false):=by
 refine returnsInHanded_of_change_and (C:=Tryz.checked) (X:=fun w _=>laidMetH Tryz.prog Rows.fnExactDoRow.laid w) (fun _ _ _ hh h=>h.of_heap hh) own started (by kernel_rfl) Tryz.func3
  (ChangeSpec.witness_at (enc:=enc) (C:=Tryz.checked) (os:=os) (X:=fun w _=>laidMetH Tryz.prog Rows.fnExactDoRow.laid w) false (ee os) #[.agg #[.slice none 0 0],.agg #[.int .i64 0,.string ⟨#[]⟩,.string ⟨#[]⟩,.string ⟨#[]⟩]] 8 rfl (by kernel_rfl) (by kernel_rfl) (by kernel_rfl) (by kernel_rfl) (by kernel_rfl) (dH os _)) ?_
 intro W base args ds gs before hval0 hW hcnd hsz0 hL _
 have hval:∀ (j:Nat) t v,Tryz.f3.params[j]? =some t→args[j]? =some v→Value.okWide Tryz.prog W .any base t v:=hval0
 have hW':=hW
 obtain ⟨p,q,hA0,hV,rfl,hfz,hnd⟩:=hW
 have hA:DataW.TrodAll enc Tryz.prog W 0 (fun _=>true) true Tryz.f3.params.toList args.toList ds p:=hA0
 rw [Tryz.params3] at hA hval
 obtain ⟨v0,v1,d0,d1,p0,p1,rfl,rfl,rfl,h0,h1⟩:=trodAll_two hA
 obtain ⟨rfl,rfl⟩:=trodVars_none hV
 have lt0:∀ x ∈ p0,x.block < W.heap.size:=by obtain ⟨m,hm⟩:=h0; exact DataW.trod_lt m _ _ _ hm
 have lt1:∀ x ∈ p1,x.block < W.heap.size:=by obtain ⟨m,hm⟩:=h1; exact DataW.trod_lt m _ _ _ hm
 haveI gl:Gl:=⟨0,fun _=>none⟩
 obtain ⟨xs0,hT0,hR0⟩:=jI (k:=5) (by kernel_rfl) (hval 0 24 v0 rfl rfl) h0
 obtain ⟨a0_Files,rfl,c0_0⟩:=Nq xs0 hT0
 simp only [dO,Tryz.underlying24,List.map_cons,List.map_nil,List.headD_cons] at hR0
 obtain ⟨xs1,hT1,hR1⟩:=jI (k:=3) (by kernel_rfl) (hval 1 26 v1 rfl rfl) h1
 obtain ⟨zk,a1_Name,a1_To,a1_Data,rfl,c1_0,c1_1,c1_2,c1_3⟩:=Ns xs1 hT1
 simp only [dO,Tryz.underlying26,List.map_cons,List.map_nil,List.headD_cons] at hR1
 have hx:RXs (sz W) W [.agg [.d (zh cFile a0_Files)],.agg [.d (.int .i64 zk),.d (sD a1_Name),.d (sD a1_To),.d (sD a1_Data)]] (#[v0,v1]:Array Value).toList []:=⟨_,_,[],[],rfl,rfl,hR0,⟨_,_,[],[],rfl,rfl,hR1,⟨rfl,rfl⟩⟩⟩
 clear hA0 hval0 hsz0
 refine (J7 W (YK hL) #[v0,v1] a0_Files zk a1_Name a1_To a1_Data (mC c0_0 c1_0 c1_1 c1_2 c1_3) hx).mono fun e W' ⟨he,bel⟩=>?_
 subst he
 exact ⟨_,rfl,_,_,_,[],_,[],hW',trodAll_mk1 (shut_bool Tryz.underlying4 _),trodAll_mk2 (Below.trod Zb (by kernel_rfl) (of_decide_eq_true (by kernel_rfl)) h0 bel lt0) (Below.trod Zb (by kernel_rfl) (of_decide_eq_true (by kernel_rfl)) h1 bel lt1),rfl,bel.frame _,fun h=>by cases h⟩
theorem JV:Rows.fnExactDoRow.holds Tryz.pinned (OpenSpec.ofChange Rows.fnExactDoSpec):=
 OpenClaim.holds_of_wide 3 Tryz.f3 rfl rfl rfl rfl rfl rfl rfl ⟨rfl,rfl,rfl,rfl,rfl⟩ rfl rfl rfl rfl rfl (by kernel_rfl) Tryz.func3 (by kernel_rfl)
  (of_decide_eq_true (by kernel_rfl)) (by unfold Func.isWrapper; first | (rw [if_pos (by decide+kernel)]; kernel_rfl) | (rw [if_neg (by decide+kernel)]; exact ⟨rfl,rfl⟩))
  (fun os started H enc _=>Na os started H enc)
theorem J0:Rows.FnExactDoCardSaid:=
 Claim7.holds_tied_plain_at .later [] [.handle] true Rows.fnExactDoCard.stood.harness true
  JV (fun _ h=>by cases h) (by kernel_rfl) (fun _ h=>by cases h) fnExactDo_row_tie rfl ⟨rfl,rfl⟩ (by kernel_rfl) rfl
  (fun f fn hf hfn=>by
    obtain rfl:f=3:=Option.some.inj ((show Tryz.prog.funcNamed "loop.example/s02135/laws.FnExactDo"=some 3 by kernel_rfl).symm.trans hf) |>.symm
    obtain rfl:fn=Tryz.f3:=(Option.some.inj (Tryz.func3.symm.trans hfn)).symm
    exact ⟨by kernel_rfl,fun j t ht=>by
     rw [Tryz.params3] at ht
     have hm:t ∈ ([24,26]:List TypeId):=List.mem_of_getElem? (by simpa using ht)
     have hall:(([24,26]:List TypeId).all fun u=>!Tryz.prog.wantsStandIn u)=true:=by kernel_rfl
     exact (show Tryz.prog.wantsStandIn t=false by simpa using List.all_eq_true.1 hall t hm)⟩)
  (by kernel_rfl)
theorem proved:Rows.FnExactDoCardSaid:=J0
#print axioms proved
end Go.Proofs.YtpjfklhaogdfeaaGreatDoor.TowDo
namespace Go.Proofs.YtpjfklhaogdfeaaGreatDoor
theorem fnExactDo_holds:Rows.FnExactDoCardSaid:=TowDo.proved
end Go.Proofs.YtpjfklhaogdfeaaGreatDoor
