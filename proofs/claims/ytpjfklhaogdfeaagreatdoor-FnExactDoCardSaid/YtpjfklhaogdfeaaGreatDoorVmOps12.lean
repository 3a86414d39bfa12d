/- All operations without a call in one statement. -/
import Derived.Test.YtpjfklhaogdfeaaGreatDoorVmOps15
set_option linter.unusedVariables false
set_option linter.unusedSectionVars false
set_option linter.unusedSimpArgs false
namespace Go.Vm
def SOp.calls:SOp→Bool
 | .call _ | .dyn=>true
 | _=>false
theorem bind_some {α β:Type} {x:Option α} {f:α→Option β} {b:β} (h:x.bind f=some b):∃ a,x=some a∧f a=some b:=Option.bind_eq_some_iff.1 h
theorem map_some {α β:Type} {x:Option α} {f:α→β} {b:β} (h:x.map f=some b):∃ a,x=some a∧f a=b:=Option.map_eq_some_iff.1 h
section
variable {P:Program} {o:Oper} {act:Act} {c:C} {role:Nat→Option Nat} {st:St}
theorem Od (hs:∀ n,R c (st.slot n) (act.tmps.getD n undef)) (hobs:∀ id,ObOK c role id) {op:SOp} {sas:List SA} {Γ:Ctx} {d:Nat} {out:Out}
  (hc:mM P o=some (op,sas)) (hn:op.calls=false) (he:eval Γ c.ob d op (sas.map st.get)=some out):Does P o act c role out:=by
 unfold mM at hc
 split at hc
 ·
  rename_i x ho
  obtain ⟨a,ha,e⟩:=map_some hc
  cases e
  exact Zw hs hobs (.inl ho) ha he
 ·rename_i x ho
  obtain ⟨a,ha,e⟩:=map_some hc
  cases e
  exact Zw hs hobs (.inr ho) ha he
 ·rename_i x y z ho
  obtain ⟨l,hl,e⟩:=map_some hc
  cases e
  exact Vr hs hobs ho hl he
 ·rename_i t ho
  split at hc
  ·obtain ⟨z,hz,hc⟩:=bind_some hc
   split at hc
   ·cases hc
    exact S7 hs hobs ho hz he
   ·cases hc
  ·obtain ⟨z,hz,e⟩:=map_some hc
   cases e
   exact Z4 hs hobs ho hz he
 ·rename_i t x ho
  obtain ⟨a,ha,e⟩:=map_some hc
  cases e
  exact U4 hs hobs ho ha he
 ·rename_i t parts ho
  obtain ⟨z,hz,hc⟩:=bind_some hc
  obtain ⟨ps,hps,hc⟩:=bind_some hc
  obtain ⟨qs,hqs,hc⟩:=bind_some hc
  obtain ⟨l,hl,e⟩:=map_some hc
  cases e
  exact T9 hs hobs ho hz hps hqs hl he
 ·rename_i t len parts ho
  obtain ⟨u,hu,hc⟩:=bind_some hc
  split at hc
  ·obtain ⟨ie,hie,hc⟩:=bind_some hc
   simp only at hc
   split at hc
   ·rename_i hcond
    obtain ⟨l,hl,e⟩:=map_some hc
    cases e
    exact XT hs hobs ho hu hie hcond.1 hcond.2.1 hcond.2.2.1 hcond.2.2.2 hl he
   ·cases hc
  ·cases hc
 ·rename_i t x ho
  obtain ⟨n,hn',hc⟩:=bind_some hc
  obtain ⟨a,ha,e⟩:=map_some hc
  cases e
  cases n with
  | none=>exact T5 hs hobs ho ha hn' he
  | some n=>exact Uw hs hobs ho ha hn' he
 ·rename_i t x y ho
  obtain ⟨n,hn',hc⟩:=bind_some hc
  obtain ⟨l,hl,e⟩:=map_some hc
  cases e
  exact RM hs hobs ho hn' hl he
 ·rename_i x ho
  obtain ⟨a,ha,e⟩:=map_some hc
  cases e
  exact Z8 hs hobs ho ha he
 ·rename_i bop t x y yt ho
  obtain ⟨u,hu,hc⟩:=bind_some hc
  split at hc
  ·split at hc
   ·split at hc
    ·obtain ⟨l,hl,e⟩:=map_some hc
     cases e
     first | exact bc hs hobs ho hu hl he | (simp_all; done)
    ·cases hc
   ·obtain ⟨l,hl,e⟩:=map_some hc
    cases e
    exact bI hs hobs ho hl he
  ·split at hc
   ·split at hc
    ·obtain ⟨l,hl,e⟩:=map_some hc
     cases e
     first | exact bc hs hobs ho hu hl he | (simp_all; done)
    ·cases hc
   ·obtain ⟨l,hl,e⟩:=map_some hc
    cases e
    exact bI hs hobs ho hl he
  ·obtain ⟨n,hn',hc⟩:=bind_some hc
   obtain ⟨l,hl,e⟩:=map_some hc
   cases e
   refine Uj hs hobs ho hu ?_ hl he
   cases bop <;> simp_all
  ·obtain ⟨_,hy,hc⟩:=bind_some hc
   obtain ⟨n,hn',hc⟩:=bind_some hc
   obtain ⟨a,ha,e⟩:=map_some hc
   cases e
   split at hy
   ·refine Wn hs hobs ho hu ?_ ha he
    cases bop <;> simp_all
   ·cases hy
  ·obtain ⟨_,hy,hc⟩:=bind_some hc
   obtain ⟨n,hn',hc⟩:=bind_some hc
   obtain ⟨a,ha,e⟩:=map_some hc
   cases e
   split at hy
   ·refine X6 hs hobs ho hu ?_ ha he
    cases bop <;> simp_all
   ·cases hy
  ·obtain ⟨n,hn',hc⟩:=bind_some hc
   split at hc
   ·rename_i hg
    obtain ⟨ks,hks,hc⟩:=bind_some hc
    obtain ⟨l,hl,e⟩:=map_some hc
    cases e
    refine Ud hs hobs ho hu ?_ hg.1 hg.2 hks hl he
    cases bop <;> simp_all
   ·cases hc
  ·cases hc
 ·rename_i t x ho
  obtain ⟨a,ha,e⟩:=map_some hc
  cases e
  exact UD hs hobs ho ha he
 ·rename_i t x ho
  obtain ⟨a,ha,e⟩:=map_some hc
  cases e
  exact TR hs hobs ho ha he
 ·rename_i s t x ho
  obtain ⟨us,hus,hc⟩:=bind_some hc
  obtain ⟨ut,hut,hc⟩:=bind_some hc
  split at hc
  ·obtain ⟨a,ha,e⟩:=map_some hc
   cases e
   exact UU hs hobs ho hus hut ha he
  ·obtain ⟨ue,hue,hc⟩:=bind_some hc
   split at hc
   ·obtain ⟨a,ha,e⟩:=map_some hc
    cases e
    exact SG hs hobs ho hus hut hue ha he
   ·cases hc
  ·obtain ⟨ue,hue,hc⟩:=bind_some hc
   split at hc
   ·obtain ⟨a,ha,e⟩:=map_some hc
    cases e
    exact Up hs hobs ho hus hut hue ha he
   ·cases hc
  ·cases hc
 ·rename_i t x ho
  obtain ⟨u,hu,hc⟩:=bind_some hc
  split at hc
  ·cases hc
  ·rename_i hni
   obtain ⟨a,ha,e⟩:=map_some hc
   cases e
   exact Tt hs hobs ho hu (fun ms h=>hni ms h) ha he
 ·rename_i f first caps ho
  split at hc
  ·rename_i hz
   cases hc
   exact SO hs hobs ho hz.1 hz.2 he
  ·cases hc
 ·rename_i t x y ho
  obtain ⟨u,hu,hc⟩:=bind_some hc
  split at hc
  ·obtain ⟨i,hi,hc⟩:=bind_some hc
   obtain ⟨zd,hzd,hc⟩:=bind_some hc
   obtain ⟨z,hz,hzd⟩:=bind_some hzd
   obtain ⟨l,hl,e⟩:=map_some hc
   cases e
   exact Ug hs hobs ho hu hi hz hzd hl he
  ·cases hc
 ·rename_i t x lo hi ho
  obtain ⟨u,hu,hc⟩:=bind_some hc
  split at hc
  ·obtain ⟨l,hl,e⟩:=map_some hc
   cases e
   exact j7 hs hobs ho hu (.inl ⟨rfl,rfl⟩) hl he
  ·obtain ⟨s,hsz,hc⟩:=bind_some hc
   obtain ⟨l,hl,e⟩:=map_some hc
   cases e
   exact j7 hs hobs ho hu (.inr ⟨⟨_,rfl,hsz⟩,rfl⟩) hl he
  ·cases hc
 ·rename_i t x f ho
  obtain ⟨u,hu,hc⟩:=bind_some hc
  split at hc
  ·obtain ⟨fd,hf,hc⟩:=bind_some hc
   obtain ⟨s,hsz,hc⟩:=bind_some hc
   split at hc
   ·cases hc
   ·rename_i hs0
    obtain ⟨a,ha,e⟩:=map_some hc
    cases e
    exact RT hs hobs ho hu hf hsz hs0 ha he
  ·cases hc
 ·rename_i t x f ho
  obtain ⟨u,hu,hc⟩:=bind_some hc
  split at hc
  ·obtain ⟨fd,hf,hc⟩:=bind_some hc
   obtain ⟨n,hn',hc⟩:=bind_some hc
   obtain ⟨a,ha,e⟩:=map_some hc
   cases e
   exact T8 hs hobs ho hu hf hn' ha he
  ·cases hc
 ·rename_i t x i ho
  obtain ⟨u,hu,hc⟩:=bind_some hc
  split at hc
  ·obtain ⟨s,hsz,hc⟩:=bind_some hc
   obtain ⟨l,hl,e⟩:=map_some hc
   cases e
   exact Qd hs hobs ho hu hsz hl he
  ·obtain ⟨s,hsz,hc⟩:=bind_some hc
   obtain ⟨l,hl,e⟩:=map_some hc
   cases e
   exact Uc hs hobs ho hu hsz hl he
  ·cases hc
 ·rename_i t x i ho
  obtain ⟨u,hu,hc⟩:=bind_some hc
  split at hc
  ·obtain ⟨l,hl,e⟩:=map_some hc
   cases e
   exact SH hs hobs ho hu hl he
  ·obtain ⟨s,hsz,hc⟩:=bind_some hc
   obtain ⟨m,hm,hc⟩:=bind_some hc
   obtain ⟨l,hl,e⟩:=map_some hc
   cases e
   exact SL hs hobs ho hu hsz hm hl he
  ·cases hc
 ·rename_i t r ho
  obtain ⟨u,hu,hc⟩:=bind_some hc
  split at hc
  ·obtain ⟨n,hn',hc⟩:=bind_some hc
   obtain ⟨l,hl,e⟩:=map_some hc
   cases e
   exact TE hs hobs ho hu hl he
  ·cases hc
 ·rename_i t x i ok ho
  obtain ⟨u,hu,hc⟩:=bind_some hc
  split at hc
  ·obtain ⟨kc,hk,hc⟩:=bind_some hc
   obtain ⟨n,hn',hc⟩:=bind_some hc
   obtain ⟨zd,hzd,hc⟩:=bind_some hc
   obtain ⟨z,hz,hzd⟩:=bind_some hzd
   split at hc
   ·rename_i hzi
    obtain ⟨l,hl,e⟩:=map_some hc
    cases e
    exact X1 hs hobs ho hu hk hn' hz hzd hzi hl he
   ·cases hc
  ·cases hc
 ·rename_i t m k x ho
  obtain ⟨u,hu,hc⟩:=bind_some hc
  split at hc
  ·obtain ⟨kc,hk,hc⟩:=bind_some hc
   obtain ⟨n,hn',hc⟩:=bind_some hc
   obtain ⟨l,hl,e⟩:=map_some hc
   cases e
   exact eB hs hobs (.inl ho) hu hk hl he
  ·cases hc
 ·rename_i t m k x ho
  obtain ⟨u,hu,hc⟩:=bind_some hc
  split at hc
  ·obtain ⟨kc,hk,hc⟩:=bind_some hc
   obtain ⟨n,hn',hc⟩:=bind_some hc
   obtain ⟨l,hl,e⟩:=map_some hc
   cases e
   exact eB hs hobs (.inr ho) hu hk hl he
  ·cases hc
 ·rename_i x i ho
  obtain ⟨a,ha,e⟩:=map_some hc
  cases e
  exact Se hs hobs ho ha he
 ·obtain ⟨l,hl,e⟩:=map_some hc
  cases e
  simp [SOp.calls] at hn
 ·obtain ⟨l,hl,e⟩:=map_some hc
  cases e
  simp [SOp.calls] at hn
 ·rename_i args tys ho
  split at hc
  ·rename_i x t h1 h2
   obtain ⟨u,hu,hc⟩:=bind_some hc
   split at hc
   ·obtain ⟨a,ha,e⟩:=map_some hc
    cases e
    exact bk hs hobs ho h1 h2 hu (.inl ⟨rfl,rfl⟩) ha he
   ·obtain ⟨a,ha,e⟩:=map_some hc
    cases e
    exact bk hs hobs ho h1 h2 hu (.inr ⟨⟨_,rfl⟩,rfl⟩) ha he
   ·obtain ⟨a,ha,e⟩:=map_some hc
    cases e
    exact Wp hs hobs ho h1 h2 hu ha he
   ·cases hc
  ·cases hc
 ·rename_i args tys ho
  split at hc
  ·rename_i x t h1 h2
   obtain ⟨u,hu,hc⟩:=bind_some hc
   split at hc
   ·obtain ⟨zd,hzd,hc⟩:=bind_some hc
    obtain ⟨z,hz,hzd⟩:=bind_some hzd
    obtain ⟨a,ha,e⟩:=map_some hc
    cases e
    exact V7 hs hobs ho h1 h2 hu hz hzd ha he
   ·cases hc
  ·cases hc
 ·rename_i args tys ho
  split at hc
  ·rename_i x t h1 h2
   obtain ⟨u,hu,hc⟩:=bind_some hc
   split at hc
   ·obtain ⟨a,ha,e⟩:=map_some hc
    cases e
    exact TN hs hobs ho h1 h2 hu ha he
   ·cases hc
  ·cases hc
 ·rename_i args tys ho
  split at hc
  ·rename_i x y t u h1 h2
   split at hc
   ·rename_i htu
    subst htu
    obtain ⟨ud,hu,hc⟩:=bind_some hc
    split at hc
    ·obtain ⟨i,hi,hc⟩:=bind_some hc
     obtain ⟨z,hz,hc⟩:=bind_some hc
     split at hc
     ·rename_i hzs
      obtain ⟨l,hl,e⟩:=map_some hc
      cases e
      exact TB hs hobs ho h1 h2 hu hi hz hzs hl he
     ·cases hc
    ·cases hc
   ·obtain ⟨ud,hu,hc⟩:=bind_some hc
    split at hc
    ·obtain ⟨un,hun,hc⟩:=bind_some hc
     split at hc
     ·obtain ⟨i,hi,hc⟩:=bind_some hc
      obtain ⟨zd,hzd,hc⟩:=bind_some hc
      obtain ⟨z,hz,hzd⟩:=bind_some hzd
      obtain ⟨l,hl,e⟩:=map_some hc
      cases e
      exact XM hs hobs ho h1 h2 hu hun hi hz hzd hl he
     ·cases hc
    ·cases hc
  ·cases hc
 ·rename_i args tys ho
  split at hc
  ·rename_i x y h1
   obtain ⟨l,hl,e⟩:=map_some hc
   cases e
   exact Zd hs hobs ho (.inr ⟨rfl,rfl⟩) h1 hl he
  ·cases hc
 ·rename_i args tys ho
  split at hc
  ·rename_i x y h1
   obtain ⟨l,hl,e⟩:=map_some hc
   cases e
   exact Zd hs hobs ho (.inl ⟨rfl,rfl⟩) h1 hl he
  ·cases hc
 ·rename_i x ho
  obtain ⟨a,ha,e⟩:=map_some hc
  cases e
  exact Ue hs hobs ho ha he
 ·rename_i x xt t ho
  obtain ⟨u,hu,hc⟩:=bind_some hc
  split at hc
  ·cases hc
  ·rename_i hni
   obtain ⟨a,ha,e⟩:=map_some hc
   cases e
   exact QA hs hobs ho hu (fun ms h=>hni ms h) ha he
 ·cases hc
theorem Sp (hs:∀ n,R c (st.slot n) (act.tmps.getD n undef)) (hobs:∀ id,ObOK c role id) {N:Nx} {op:SOp} {sas:List SA} {Γ:Ctx} {d:Nat} {out:Out}
  (hc:oI P N o=some (op,sas)) (hn:op.calls=false) (he:eval Γ c.ob d op (sas.map st.get)=some out):Does P o act c role out:=by
 unfold oI at hc
 cases h:my P N o with
 | none=>rw [h] at hc; exact Od hs hobs hc hn he
 | some x=>
   rw [h] at hc
   simp only [Option.some.injEq] at hc
   subst hc
   unfold my at h
   split at h
   ·rename_i t x y ho
    split at h
    ·obtain ⟨u,hu,h⟩:=bind_some h
     split at h
     ·obtain ⟨s,hsz,h⟩:=bind_some h
      obtain ⟨l,hl,e⟩:=map_some h
      cases e
      exact TV hs hobs ho hu hsz hl he
     ·cases h
    ·cases h
   ·rename_i t x y ho
    split at h
    ·obtain ⟨u,hu,h⟩:=bind_some h
     split at h
     ·obtain ⟨s,hsz,h⟩:=bind_some h
      obtain ⟨l,hl,e⟩:=map_some h
      cases e
      exact SI hs hobs ho hu hsz hl he
     ·cases h
    ·cases h
   ·cases h
end
end Go.Vm
