/- Variables of the library: what a law's world says of them. -/
import Derived.Test.YtpjfklhaogdfeaaDoorVmShape
import Derived.Handed
import Derived.Shelf.Vars
import Derived.LaidMore
set_option linter.all false
namespace Go.Vm
theorem ow {H:Type} {enc:TypeId×Value→H} {P:Program} {w:World} {base:Nat} {sp:Nat→Bool} {held:Bool} {yj:Nat} {t:TypeId} {cs:List Value} {x:DataW H×List MemPlace}
  (ht:∃ m,P.underlying t=some (.interface m)) (h:DataW.trod enc P w base sp held yj t cs=some x):∃ ev,cs=[ev]∧(ev= .nilIface ∨ ∃ te pe,ev= .iface te pe):=by
 obtain ⟨m,ht⟩:=ht
 cases yj with
 | zero=>simp [DataW.trod] at h
 | succ yj=>
   unfold DataW.trod at h
   rw [ht] at h
   cases cs with
   | nil=>cases h
   | cons v r=>
     cases r with
     | nil=>
       cases v <;> first
        | exact ⟨_,rfl,.inl rfl⟩
        | exact ⟨_,rfl,.inr ⟨_,_,rfl⟩⟩
        | cases h
     | cons u r=>cases v <;> cases h
theorem kY {P:Program} {w:World} {n:String} {g:Nat} {cs:Array Value} {ev:Value} (hg:P.globalNamed n=some g) (hv:w.var? P n=some cs) (hc:cs.toList=[ev]):w.cell? ⟨g,0,none⟩=some ev:=by
 unfold World.var? at hv
 rw [hg] at hv
 simp only [Option.bind_some] at hv
 split at hv
 ·rename_i cs' a b hh
  injection hv with hv
  subst hv
  have:cs'=#[ev]:=by cases cs'; simp_all
  subst this
  simp [World.cell?,hh]
 ·cases hv
theorem mq {W w:World} {g:Nat} {Q:Value→Prop} (h:∃ ev,W.cell? ⟨g,0,none⟩=some ev∧Q ev) (hw:∀ b,b < W.heap.size→w.heap[b]? =W.heap[b]?):∃ ev,w.cell? ⟨g,0,none⟩=some ev∧Q ev:=by
 obtain ⟨ev,h1,h2⟩:=h
 have hlt:g < W.heap.size:=by
  rcases Nat.lt_or_ge g W.heap.size with h' | h'
  ·exact h'
  ·simp [World.cell?,Array.getElem?_eq_none h'] at h1
 refine ⟨ev,?_,h2⟩
 rw [← h1]
 exact World.cell?_of_block (w:=W) (hw g hlt)
theorem sM {H:Type} {enc:TypeId×Value→H} {a:Assume} {C:Checked} {os:Os} {f:FuncId} {fn:Func} {s:ChangeSpec} {conds:List PathCond} {sd fresh handsOn again:Bool} {X:World→Array Value→Prop}
  (hX:∀ (w w':World) (args:Array Value),w.heap=w'.heap→X w args→X w' args)
  (own:ownKnob C.prog.godebug=none) (started:os.Started) (noInit:C.prog.inits.idxOf? f=none) (hfn:C.prog.funcs[f]? =some fn)
  (witness:∃ (w:World) (tape:Tape) (i:Input),w.os=os∧(w.forCall tape i).Shaped C.prog∧i.vars=[]∧Input.okWide C.prog (w.forCall tape i) .any w.heap.size f i∧
    ((s.pre enc C.prog fn conds sd (w.forCall tape i).memory i.args∧X (w.forCall tape i).memory i.args)∧sizedMet enc C.prog fn (OpenSpec.ofChange s) sd (w.forCall tape i).memory i.args)∧a.holds C.prog (lone (Frame.enter C.prog f i.args .normal) [] (w.forCall tape i)))
  (contract:∀ (W:World) (base:Nat) (args:Array Value) (ds gs:List (DataW H)) (before:List MemPlace),
    (∀ (j:Nat) t v,fn.params[j]? =some t→args[j]? =some v→Value.okWide C.prog W .any base t v)→
    DataW.Whole enc C.prog fn.params.toList s.vars sd W args.toList ds gs before→
    conds.all (PathCond.test C.prog ⟨fn.params.toList,ds,s.plain.varTypes C.prog,gs⟩)=true→
    (DataW.weightsEach C.prog (fn.params.toList++s.plain.varTypes C.prog) (ds++gs)).all (· ≤ reachBytes)=true→X W args→W.ShapedOpen C.prog→
    a.holds C.prog (lone (Frame.enter C.prog f args .normal) [] W)→
    Calls C.prog f args W fun e W'=>∃ v,e= .returned v∧s.post enc C.prog fn sd fresh handsOn again W args v W'):
  ReturnsInHanded a C os f .any (fun w args=>(s.pre enc C.prog fn conds sd w args∧X w args)∧sizedMet enc C.prog fn (OpenSpec.ofChange s) sd w args) (s.post enc C.prog fn sd fresh handsOn again):=by
 refine returnsInHanded_of_calls own started noInit witness ?_
 intro w tape i _ hsh _ hok hpre hholds
 obtain ⟨_,_,_,fn',hfn',_,_,_,_,hval⟩:=hok
 have e:fn'=fn:=Option.some.inj (hfn'.symm.trans hfn)
 subst e
 obtain ⟨⟨⟨ds,gs,before,hw,hc⟩,hx⟩,hz⟩:=hpre
 have hw':=DataW.Whole.of_heap (w':=w.forCall tape i) (by rfl) hw
 refine (contract (w.forCall tape i) w.heap.size i.args ds gs before hval hw' hc (hz.weights hw) (hX _ _ _ (by rfl) hx) hsh hholds).mono fun e W' ⟨v,he,hp⟩=>?_
 subst he
 exact ChangeSpec.post_blind hp
end Go.Vm
