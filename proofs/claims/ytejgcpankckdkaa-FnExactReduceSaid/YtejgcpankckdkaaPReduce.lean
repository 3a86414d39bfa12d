/- Reduce: what the functions of FnExactReduce answer. -/
import Derived.Test.YtejgcpankckdkaaPMid
import Derived.Test.YtejgcpankckdkaaFReduce
set_option linter.unusedVariables false
set_option linter.unusedSimpArgs false
namespace Go.Vm
def pre_spec_Reduce (op : Int) (s d : List Int) : Prop := small s ∧ small d
def s_spec_Reduce (op : Int) (s d : List Int) : List Int × List Int × Int := if (1 ≤ op ∧ op ≤ 10) ∧ arrOk s d = true then tri (foldN op s d (s.headD 0)) else ([], [], 9)
theorem p_spec_Reduce (L1 : Int → Option Bool) (h1 : ∀ op, pre_spec_l2OpOk op → L1 op = some (s_spec_l2OpOk op)) (L2 : List Int → List Int → Option Bool) (h2 : ∀ s d, pre_spec_ArrayOk s d → L2 s d = some (s_spec_ArrayOk s d))
    (L3 : Int → List Int → List Int → Option (List Int × List Int × Int)) (h3 : ∀ op s d, pre_spec_l2Reduce op s d → L3 op s d = some (s_spec_l2Reduce op s d))
    (op : Int) (s d : List Int) (h : pre_spec_Reduce op s d) : ∃ N, spec_Reduce_f L1 L2 L3 N op s d = some (s_spec_Reduce op s d) := by
  refine ⟨0, ?_⟩
  unfold spec_Reduce_f s_spec_Reduce
  rw [h1 _ trivial, h2 _ _ h]
  simp only [Option.bind_some, s_spec_l2OpOk, s_spec_ArrayOk]
  by_cases c : 1 ≤ op ∧ op ≤ 10
  · cases c1 : arrOk s d with
    | false => simp [c]
    | true =>
      rw [h3 _ _ _ c1]
      simp [c, s_spec_l2Reduce]
  · simp [c]
def pre_impl_Reduce (op : Int) (s d : List Int) : Prop := pre_spec_Reduce op s d
def s_impl_Reduce (op : Int) (s d : List Int) : List Int × List Int × Int := s_spec_Reduce op s d
theorem p_impl_Reduce (L1 : Int → Option (Alt Unit Nat)) (h1 : ∀ op, pre_impl_opOf op → L1 op = some (s_impl_opOf op)) (L2 : List Int → List Int → Option Bool) (h2 : ∀ s d, pre_impl_ArrayOk s d → L2 s d = some (s_impl_ArrayOk s d))
    (L3 : List Int → List Int → Option (List Int × List Int)) (h3 : ∀ s d, pre_impl_cloned s d → L3 s d = some (s_impl_cloned s d))
    (L4 : Int → Nat → List Int → List Int → Int → Option (Res (List Int × List Int))) (h4 : ∀ op f s d k, pre_impl_fold op f s d k → L4 op f s d k = some (s_impl_fold op f s d k))
    (L7 : D → Int → List Int → List Int → Option Int) (h7 : ∀ x a s d, pre_impl_caught x a s d → L7 (thrown x) a s d = some (s_impl_caught x a s d))
    (op : Int) (s d : List Int) (h : pre_impl_Reduce op s d) : ∃ N, impl_Reduce_f L1 L2 L3 L4 L7 N op s d = some (s_impl_Reduce op s d) := by
  refine ⟨0, ?_⟩
  unfold impl_Reduce_f s_impl_Reduce s_spec_Reduce
  rw [h1 _ trivial]
  simp only [Option.bind_some]
  rcases opOf_spec op with ⟨e1, e2, e3, e4⟩ | ⟨e1, e2⟩
  · rw [e2]
    simp only [Alt.on]
    rw [h2 _ _ h]
    simp only [Option.bind_some, s_impl_ArrayOk]
    cases c1 : arrOk s d with
    | false => simp
    | true =>
      rw [if_neg (by simp), if_pos (show (1 ≤ op ∧ op ≤ 10) ∧ true = true from ⟨⟨e3, e4⟩, rfl⟩)]
      cases s with
      | nil =>
        rw [if_pos (show (([] : List Int).length : Int) = 0 from rfl), h3 _ _ h]; rfl
      | cons n t =>
        have n0 := (fits_cons (arrOk_cells c1).2.1).1
        rw [if_neg (by simp only [List.length_cons]; omega)]
        unfold impl_Reduce_b_f
        rw [show idx (n :: t) 0 = some n from rfl]
        simp only [Option.bind_some, List.headD_cons]
        rw [h4 _ _ _ _ _ ⟨⟨⟨e3, e4⟩, rfl⟩, c1, n, t, rfl, n0, Int.le_refl n⟩]
        simp only [Option.bind_some, s_impl_fold]
        cases foldN op (n :: t) d n with
        | ok p => rfl
        | error c =>
          simp only [pans, Res.on]
          rw [h7 _ _ _ _ trivial]; rfl
  · rw [e2]
    simp only [s_spec_l2OpOk, decide_eq_false_iff_not] at e1
    rw [if_neg (fun q => e1 q.1)]; rfl
theorem small_Reduce {op : Int} {s d : List Int} (h : pre_spec_Reduce op s d) : small (s_spec_Reduce op s d).1 ∧ small (s_spec_Reduce op s d).2.1 := by
  have z : small ([] : List Int) ∧ small ([] : List Int) := ⟨Nat.zero_le _, Nat.zero_le _⟩
  unfold s_spec_Reduce
  split
  · rename_i c
    cases hf : foldN op s d (s.headD 0) with
    | error c => exact z
    | ok p =>
      have hk : s = [] ∨ ∃ n t, s = n :: t ∧ 0 ≤ s.headD 0 ∧ s.headD 0 ≤ n := by
        cases s with
        | nil => exact .inl rfl
        | cons n t => exact .inr ⟨n, t, rfl, (fits_cons (arrOk_cells c.2).2.1).1, Int.le_refl n⟩
      obtain ⟨p1, p2, p3⟩ := foldN_len c.2 hk hf
      have hs : s.length ≤ 1048576 := h.1
      simp only [tri]
      refine ⟨?_, by unfold small; omega⟩
      rw [p1]; unfold small; simp only [List.length_tail]; omega
  · exact z
-- the law
def pre_laws_FnExactReduce (op : Int) (s d : List Int) : Prop := s.length ≤ big ∧ d.length ≤ big
def s_laws_FnExactReduce (op : Int) (s d : List Int) : Bool := true
theorem p_laws_FnExactReduce (L0 : List Int → List Int → Int → Option Int) (h0 : ∀ s d n, pre_laws_szArray s d n → L0 s d n = some (s_laws_szArray s d n))
    (L1 : List Int → List Int → Option (List Int × List Int)) (h1 : ∀ s d, pre_laws_toArray s d → L1 s d = some (s_laws_toArray s d))
    (L2 : Int → List Int → List Int → Option (List Int × List Int × Int)) (h2 : ∀ op s d, pre_spec_Reduce op s d → L2 op s d = some (s_spec_Reduce op s d))
    (L3 : Int → List Int → List Int → Option (List Int × List Int × Int)) (h3 : ∀ op s d, pre_impl_Reduce op s d → L3 op s d = some (s_impl_Reduce op s d))
    (L4 : List Int → List Int → List Int → List Int → Option Bool) (h4 : ∀ s d s' d', pre_laws_eqArray s d s' d' → L4 s d s' d' = some (s_laws_eqArray s d s' d'))
    (L5 : List Int → List Int → Int → Option (Int × List Int × List Int)) (h5 : ∀ s d k, pre_laws_markArray s d k → L5 s d k = some (s_laws_markArray s d k))
    (L6 : List Int → List Int → Int → Option Int) (h6 : ∀ s d k, pre_laws_heldArray s d k → L6 s d k = some (s_laws_heldArray s d k))
    (op : Int) (s d : List Int) (h : pre_laws_FnExactReduce op s d) : ∃ N, laws_FnExactReduce_f L0 L1 L2 L3 L4 L5 L6 N op s d = some (s_laws_FnExactReduce op s d) := by
  refine ⟨0, ?_⟩
  unfold laws_FnExactReduce_f s_laws_FnExactReduce
  rw [h0 _ _ _ ⟨h.1, h.2, by omega, by omega⟩]
  simp only [Option.bind_some]
  by_cases c : s_laws_szArray s d 1048576 < 0
  · rw [if_pos c]
  · rw [if_neg c]
    obtain ⟨q1, q2, q3, q4⟩ := sz_left (by omega) c
    have q1' : s.length ≤ 1048576 := q1
    have q2' : d.length ≤ 1048576 := q2
    have hs : small s ∧ small d := ⟨q1, q2⟩
    have hss : pre_spec_Reduce op s d := ⟨q1, q2⟩
    have hg := small_Reduce hss
    have hm1 := h5 s d 1 ⟨q1, q2, by omega, by omega⟩
    have hk0 : 0 ≤ (s_laws_markArray s d 1).1 ∧ (s_laws_markArray s d 1).1 ≤ 4194304 := by
      unfold s_laws_markArray
      simp only
      omega
    have hm3 := h5 _ _ 1 ⟨hg.1, hg.2, by omega, by omega⟩
    have hm : small (s_laws_markArray (s_spec_Reduce op s d).1 (s_spec_Reduce op s d).2.1 1).2.1 ∧ small (s_laws_markArray (s_spec_Reduce op s d).1 (s_spec_Reduce op s d).2.1 1).2.2 := by
      unfold s_laws_markArray small
      simp only [upFrom_len]
      exact hg
    have hh := h6 _ _ 1 ⟨hm.1, hm.2, by omega, by omega⟩
    simp only [h1 _ _ hs,  Option.bind_some, s_laws_toArray, h2 _ _ _ hss, h3 _ _ _ hss, s_impl_Reduce, h4 _ _ _ _ hg, h4 _ _ _ _ hs,  eqA_refl, hm1,  hm3, hh, held_marks]
    have hk : ∀ (s d : List Int) (k : Int), 0 ≤ k → ¬ (s_laws_markArray s d k).1 < 0 := by intro s d k hk; unfold s_laws_markArray; simp only; omega
    simp [hk, hk0.1]
theorem pre_of_laws_FnExactReduce {op : Int} {s d : List Int} (ho : (Lit.int .i64 op).wf = true) (hs : s.length ≤ maxLen ∧ ∀ x ∈ s, (Lit.int .i64 x).wf = true) (hd : d.length ≤ maxLen ∧ ∀ x ∈ d, (Lit.int .i64 x).wf = true) : pre_laws_FnExactReduce op s d := ⟨hs.1, hd.1⟩
end Go.Vm
