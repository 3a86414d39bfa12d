/- Regions in a given order, and the code around them. -/
import Derived.Test.YtpjfklhaogdfeaaGreatDoorVmStep
set_option linter.unusedVariables false
set_option linter.unusedSectionVars false
set_option linter.unusedSimpArgs false
namespace Go.Vm
variable [Gl]
section
variable {F:Fr} {P:Program} {Γ:Ctx}
theorem lP {ops:Array Oper} {N:Nx} {o:Oper} {so:SOper} (h:sT P ops N o=some so):
  oI P N o=some (so.op,so.args)∧qv ops o.guard=some so.guard∧so.dst=o.dst∧∀ k,o.dst=some k→N.ok k:=by
 unfold sT at h
 obtain ⟨⟨op,as⟩,h1,h⟩:=bind_some h
 obtain ⟨g,h2,h⟩:=bind_some h
 split at h
 ·rename_i hd
  cases h
  refine ⟨h1,h2,rfl,?_⟩
  intro k hk
  rw [hk] at hd
  simp only [Rk,Bool.and_eq_true,decide_eq_true_eq,Bool.not_eq_true',List.any_eq_false,beq_iff_eq] at hd
  exact ⟨hd.1,fun hm=>hd.2 k hm rfl⟩
 ·cases h
theorem Xe {a:A} {w:Bool} (h:yY a w=some true):a= .d (.bool w):=by
 unfold yY at h
 split at h
 ·rename_i b
  cases b <;> cases w <;> first | rfl | (simp at h)
 ·cases h
 ·cases h
theorem aZ {a:A} {w:Bool} (h:yY a w=some false):(∃ b,a= .d (.bool b)∧b ≠ w) ∨ a= .tup []:=by
 unfold yY at h
 split at h
 ·rename_i b
  left
  refine ⟨b,rfl,?_⟩
  rintro rfl
  simp at h
 ·exact .inr rfl
 ·cases h
theorem qS {c:C} {a:A} {tmps:Array Value} {ops:Array Oper} {o oj:Oper} {j dj:Nat} {want x:Bool} (hog:o.guard=some (j,want)) (hoj:ops[j]? =some oj) (hdj:oj.dst=some dj)
  (hv:R c a (tmps.getD dj undef)) (hw:yY a want=some x):Region.wanted o (yielded ops tmps)=x:=by
 have key:∀ b:Bool,R c (.d (.bool b)) (tmps.getD dj undef)→yielded ops tmps j=some b:=by
  intro b hv
  simp only [R,RD] at hv
  unfold yielded
  rw [hoj]
  simp only [Option.bind_some,hdj]
  have:tmps[dj]? =some (.bool b):=by
   rw [Array.getD_eq_getD_getElem?] at hv
   cases h:tmps[dj]? with
   | none=>rw [h] at hv; simp [undef] at hv
   | some v=>rw [h] at hv; simp at hv; rw [hv]
  rw [this]
 cases x with
 | true=>
   obtain rfl:=Xe hw
   have hy:=key want hv
   simp only [Region.wanted,hog,hy]
   cases want <;> rfl
 | false=>
   rcases aZ hw with ⟨b,rfl,hne⟩ | rfl
   ·have hy:=key b hv
    simp only [Region.wanted,hog,hy]
    cases b <;> cases want <;> first | rfl | (exact absurd rfl hne)
   ·have hy:yielded ops tmps j=none:=by
     obtain ⟨vs,hv,hl⟩:=hv
     unfold yielded
     rw [hoj]
     simp only [Option.bind_some,hdj]
     rw [Array.getD_eq_getD_getElem?] at hv
     cases h:tmps[dj]? with
     | none=>rfl
     | some v=>rw [h] at hv; simp at hv; rw [hv]
    simp only [Region.wanted,hog,hy]
    rfl
theorem kZ (hΓ:SoundAll P Γ) {ops:Array Oper}:∀ (is:List Nat) (sops:List SOper) {st st':St} {ex:Ex} {S:Nat→Nat} {hd:Nat→Value} {role:Nat→Option Nat} {act:Act} {w:World},
  is.map (fun i=>(ops[i]?).bind (sT P ops F.N))=sops.map some→tD Γ sops st=some (ex,st')→Inv F st S hd role act w→
  wpOps P ops (Post F ex st') is act w
 | [],sops,st,st',ex,S,hd,role,act,w,hc,hr,hI=>by
   cases sops with
   | nil=>
     simp only [tD,Option.some.injEq,Prod.mk.injEq] at hr
     obtain ⟨rfl,rfl⟩:=hr
     exact ⟨S,hd,role,hI,rfl⟩
   | cons _ _=>simp at hc
 | i :: is,sops,st,st',ex,S,hd,role,act,w,hc,hr,hI=>by
   cases sops with
   | nil=>simp at hc
   | cons so sops=>
     simp only [List.map_cons,List.cons.injEq] at hc
     obtain ⟨hc1,hc2⟩:=hc
     obtain ⟨o,ho,hco⟩:=bind_some hc1
     obtain ⟨h1,h2,h3,h4⟩:=lP hco
     simp only [tD] at hr
     obtain ⟨⟨e1,s1⟩,hstep,hr⟩:=bind_some hr
     simp only [wpOps,ho]
     have doit:∀ x,(eval Γ st.ob (so.dst.getD 0) so.op (so.args.map st.get)).map (fun
           | .val a us=>(Ex.normal,({ st with ob:=za st.ob us }:St).put so.dst a)
           | .pan x us=>(.panic x,{ st with ob:=za st.ob us }))=some x→x=(e1,s1)→o.wp P act w (wpOps P ops (Post F ex st') is) (Post F ex st'):=by
      intro x hx e
      obtain ⟨out,he,hx⟩:=map_some hx
      subst e
      rw [h3] at he hx
      refine iW hΓ hI h1 h4 he ?_ ?_
      ·rintro a us rfl act' w' ⟨S',hd',role',hI',_⟩
       simp only [Prod.mk.injEq] at hx
       obtain ⟨rfl,rfl⟩:=hx
       exact kZ hΓ is sops hc2 hr hI'
      ·rintro x us rfl e act' w' hp
       simp only [Prod.mk.injEq] at hx
       obtain ⟨rfl,rfl⟩:=hx
       simp only [Option.some.injEq,Prod.mk.injEq] at hr
       obtain ⟨rfl,rfl⟩:=hr
       exact hp
     unfold step at hstep
     cases hg:so.guard with
     | none=>
       rw [hg] at hstep
       have hog:o.guard=none:=by
        rw [hg] at h2
        unfold qv at h2
        split at h2
        ·assumption
        ·obtain ⟨_,_,h2⟩:=bind_some h2
         obtain ⟨_,_,h2⟩:=map_some h2
         cases h2
       rw [if_pos (by simp [Region.wanted,hog])]
       exact .inl (doit _ hstep rfl)
     | some gw=>
       obtain ⟨g,want⟩:=gw
       rw [hg] at hstep h2
       simp only at hstep
       unfold qv at h2
       split at h2
       ·cases h2
       ·rename_i j want' hog
        obtain ⟨oj,hoj,h2⟩:=bind_some h2
        obtain ⟨dj,hdj,h2⟩:=map_some h2
        simp only [Option.some.injEq,Prod.mk.injEq] at h2
        obtain ⟨rfl,rfl⟩:=h2
        split at hstep
        ·rename_i hb
         rw [if_pos (qS hog hoj hdj (hI.slots dj) hb)]
         exact .inl (doit _ hstep rfl)
        ·rename_i hb
         rw [if_neg (by rw [qS hog hoj hdj (hI.slots dj) hb]; simp)]
         simp only [Option.some.injEq,Prod.mk.injEq] at hstep
         obtain ⟨rfl,rfl⟩:=hstep
         rw [h3] at hr
         exact kZ hΓ is sops hc2 hr (hI.put (d:=o.dst) (a:= .tup []) h4 ⟨#[],rfl,rfl⟩)
        ·cases hstep
theorem mc (f:Nat→A):∀ (l:List Nat) (n:Nat),zj (l.map fun m=>(m,f m)) n=if n ∈ l then f n else .undef
 | [],n=>rfl
 | m :: l,n=>by
   simp only [List.map_cons,zj]
   by_cases h:n=m
   ·subst h; simp
   ·rw [if_neg h,mc f l n]
    simp [h]
theorem Inv.only {st:St} {S:Nat→Nat} {hd:Nat→Value} {role:Nat→Option Nat} {act:Act} {w:World} (h:Inv F st S hd role act w) (live:List Nat):
  Inv F (st.only live) S hd role act w:=by
 refine ⟨h.num,h.dfr,h.fix,?_,h.obs,h.os,h.tape,h.output,h.size,h.heap,h.gl,h.roleP,h.role,h.par⟩
 intro n
 show R _ (zj (live.map fun m=>(m,st.slot m)) n) _
 rw [mc]
 split
 ·exact h.slots n
 ·trivial
end
end Go.Vm
