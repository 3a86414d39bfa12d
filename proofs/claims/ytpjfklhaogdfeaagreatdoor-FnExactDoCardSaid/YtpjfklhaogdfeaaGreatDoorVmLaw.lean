/- Layers of contracts. -/
import Derived.Test.YtpjfklhaogdfeaaGreatDoorVmData
import Derived.ProofKit
set_option linter.unusedSectionVars false
set_option linter.unusedSimpArgs false
set_option linter.unusedVariables false
namespace Go.Vm
variable [Gl]
def Γ0 (fl:TypeId→Bool):Ctx:=⟨fun _ _=>none,fun _=>false,fl⟩
theorem Γ0_sound (P:Program) (fl:TypeId→Bool):SoundAll P (Γ0 fl):=by
 intro f S w args xs bs _ _ out h
 cases h
def Ctx.with (Γ:Ctx) (f:FuncId) (C:List X→Option XOut) (m:Bool:=false):Ctx:=⟨fun g xs=>if g=f then C xs else Γ g xs,fun g=>if g=f then m else Γ.mu g,Γ.fl⟩
theorem SoundAll.with {P:Program} {Γ:Ctx} (h:SoundAll P Γ) {f:FuncId} {C:List X→Option XOut} {m:Bool} (hC:Sound P f C):SoundAll P (Γ.with f C m):=by
 intro g S w args xs bs hx hb out ho
 change (if g=f then C xs else Γ g xs)=some out at ho
 by_cases e:g=f
 ·subst e
  rw [if_pos rfl] at ho
  exact hC S w args xs bs hx hb out ho
 ·rw [if_neg e] at ho
  exact h g S w args xs bs hx hb out ho
theorem Sound.of {P:Program} {f:FuncId} {Γ:Ctx} {k:Nat} {cd:Cd} {rs:List RV} (h:∀ n,Sound P f (sK Γ n k cd rs)) {C:List X→Option XOut}
  (hC:∀ xs out,C xs=some out→∃ n,sK Γ n k cd rs xs=some out):Sound P f C:=by
 intro S w args xs bs hx hb out ho
 obtain ⟨n,hn⟩:=hC xs out ho
 exact h n S w args xs bs hx hb out hn
theorem qJ {P:Program} {f:FuncId} {fn:Func} (hf:P.funcs[f]? =some fn) (hname:(fn.name == "runtime.NumGoroutine")=false) (hb:fn.body.isNone=false) (args:Array Value) (w:World):
  (callFunc f args).run P w= .ok (.enter f args) w:=by
 have h1:¬ fn.name= "runtime.NumGoroutine":=by simpa using hname
 have h2:¬ fn.body=none:=by intro e; rw [e] at hb; cases hb
 simp [callFunc,hf,h1,h2]
theorem lf {cuts:List Nat} {P:Program} {Γ:Ctx} (hm:P.follows .mixedOrders=true) (hΓ:SoundAll P Γ) {f:FuncId} {fn:Func} {cd:Cd} {rs:List RV} {k:Nat} (hf:P.funcs[f]? =some fn)
  (hname:(fn.name == "runtime.NumGoroutine")=false) (hb:fn.body.isSome=true) (hc:comp P ⟨fn.ntmps,[],cuts⟩ (fn.body.getD .skip)=some cd.strip)
  (hrs:vG P fn.results.toList=some rs) (h4:fn.results.toList.length ≤ 4) (hk:k ≤ fn.ntmps) (n:Nat):Sound P f (sK Γ n k cd rs):=by
 cases hbody:fn.body with
 | none=>rw [hbody] at hb; cases hb
 | some code=>
   rw [hbody] at hc
   exact aU hΓ (j4 hm hΓ) (qJ hf hname (by rw [hbody]; rfl)) hf hbody hc hrs h4 hk
end Go.Vm
