/- Each1: what the functions of FnExactEach1 answer. -/
import Derived.Test.YtejgcpankckdkaaPBas
import Derived.Test.YtejgcpankckdkaaFEach1
set_option linter.unusedVariables false
set_option linter.unusedSimpArgs false
namespace Go.Vm

def pre_spec_l2Bool (b : Bool) : Prop := True
def s_spec_l2Bool (b : Bool) : Int := if b = true then 1 else 0
theorem p_spec_l2Bool (b : Bool) (h : pre_spec_l2Bool b) : ∃ N, spec_l2Bool_f N b = some (s_spec_l2Bool b) := by
  refine ⟨0, ?_⟩
  unfold spec_l2Bool_f s_spec_l2Bool
  cases b <;> rfl

/-- a cell that may be -/
def cellIn (x : Int) : Prop := -3000000000 ≤ x ∧ x ≤ 3000000000
theorem cellIn_of {l : List Int} (h : l.all cellOk = true) : ∀ x ∈ l, cellIn x := by
  intro x hx
  have := List.all_eq_true.1 h x hx
  simpa [cellOk, cellIn] using this
/-- what is done to one cell, and its code -/
def oneOf (op x : Int) : Int × Int :=
  if op = 1 then (-x, 0)
  else if op = 2 then (if x < 0 then -x else x, 0)
  else if op = 3 then (if 0 < x then 1 else if x < 0 then -1 else 0, 0)
  else if x = 0 ∨ x = 1 then (1 - x, 0) else (0, 1)
def pre_spec_l2One (op x : Int) : Prop := cellIn x
def s_spec_l2One (op x : Int) : Int × Int := oneOf op x
theorem p_spec_l2One (L : Bool → Option Int) (hL : ∀ b, pre_spec_l2Bool b → L b = some (s_spec_l2Bool b)) (op x : Int) (h : pre_spec_l2One op x) : ∃ N, spec_l2One_f L N op x = some (s_spec_l2One op x) := by
  obtain ⟨h1, h2⟩ := h
  refine ⟨0, ?_⟩
  unfold spec_l2One_f s_spec_l2One oneOf
  rw [hL _ trivial, hL _ trivial]
  simp only [Option.bind_some, s_spec_l2Bool, decide_eq_true_eq]
  rw [w64_in (n := 0 - x) (by omega), w64_in (n := 1 - x) (by omega)]
  have hs : w64 ((if 0 < x then 1 else 0) - (if x < 0 then 1 else 0)) = if 0 < x then 1 else if x < 0 then -1 else 0 := by
    rw [w64_in (by split <;> split <;> omega)]
    split <;> split <;> omega
  rw [hs]
  have h0 : 0 - x = -x := by omega
  rw [h0]
  by_cases c1 : op = 1
  · simp [c1]
  · by_cases c2 : op = 2
    · subst c2
      by_cases c : x < 0 <;> simp [c]
    · by_cases c3 : op = 3
      · simp [c3]
      · simp only [c1, c2, c3, if_false]
        by_cases d0 : x = 0
        · simp [d0]
        · by_cases d1 : x = 1
          · simp [d1]
          · simp [d0, d1]

/-- all cells, or none -/
def ones1 (op : Int) : List Int → Option (List Int)
  | [] => some []
  | x :: r => if (oneOf op x).2 = 0 then (ones1 op r).map ((oneOf op x).1 :: ·) else none
def each1 (op : Int) (s d : List Int) : List Int × List Int × Int := match ones1 op d with
  | some l => (s, l, 0)
  | none => ([], [], 1)
theorem ones1_len {op : Int} : ∀ {d l : List Int}, ones1 op d = some l → l.length = d.length
  | [], l, h => by simp only [ones1, Option.some.injEq] at h; subst h; rfl
  | x :: d, l, h => by
    simp only [ones1] at h
    split at h
    · obtain ⟨l', h1, rfl⟩ := Option.map_eq_some_iff.1 h
      simp [ones1_len h1]
    · cases h
theorem oneOf_code (op x : Int) : (oneOf op x).2 = 0 ∨ (oneOf op x).2 = 1 := by
  unfold oneOf
  split <;> first | simp | skip
  split <;> first | simp | skip
  split <;> first | simp | skip
  split <;> simp
def ends1 (s acc : List Int) : Option (List Int) → List Int × List Int × Int
  | some l => (s, acc ++ l, 0)
  | none => ([], [], 1)
theorem l_specEach1 (L1 : List Int → List Int → Option Bool) (L2 : List Int → Option (List Int)) (L3 : Int → Int → Option (Int × Int)) (h3 : ∀ op x, pre_spec_l2One op x → L3 op x = some (s_spec_l2One op x))
    (op : Int) (s d s' : List Int) (hd : small d) (hc : ∀ x ∈ d, cellIn x) : ∀ (r : List Int) (j e : Nat) (acc : List Int), d.drop j = r → acc.length = j →
    spec_Each1_l0 L1 L2 L3 (r.length + 1 + e) op j s d s' acc = some (ends1 s' acc (ones1 op r))
  | [], j, e, acc, hj, ha => by
    rw [show ([] : List Int).length + 1 + e = e + 1 by simp; omega]
    simp only [spec_Each1_l0]
    rw [if_neg (at_nil hj)]; simp [ends1, ones1]
  | x :: r, j, e, acc, hj, ha => by
    obtain ⟨g1, g2, g3, g4, g5, g6⟩ := at_cons hj
    have hb : d.length ≤ big := by unfold small at hd; rw [big_eq]; omega
    rw [show (x :: r).length + 1 + e = (r.length + 1 + e) + 1 by simp; omega]
    simp only [spec_Each1_l0]
    rw [if_pos g2, g3]
    simp only [Option.bind_some]
    rw [h3 op x (hc x (List.mem_of_getElem? g4))]
    simp only [Option.bind_some, s_spec_l2One, ones1]
    by_cases c : (oneOf op x).2 = 0
    · have hr : room 8 (acc ++ [(oneOf op x).1]).length := room_small (by unfold small at hd ⊢; simp; omega)
      rw [if_pos c, if_pos c, if_pos hr, succ_w g1 hb, l_specEach1 L1 L2 L3 h3 op s d s' hd hc r (j + 1) e _ g5 (by simp [ha])]
      cases ones1 op r <;> simp [ends1]
    · rw [if_neg c, if_neg c]
      have := (oneOf_code op x).resolve_left c
      simp [ends1, this]
theorem arrOk_cells {s d : List Int} (h : arrOk s d = true) : (∀ x ∈ d, cellIn x) ∧ fits s = true := by
  unfold arrOk at h
  simp only [Bool.and_eq_true] at h
  exact ⟨cellIn_of h.2, h.1.1⟩
def pre_spec_Each1 (op : Int) (s d : List Int) : Prop := small s ∧ small d
def s_spec_Each1 (op : Int) (s d : List Int) : List Int × List Int × Int := if 1 ≤ op ∧ op ≤ 4 ∧ arrOk s d = true then each1 op s d else ([], [], 9)
theorem p_spec_Each1 (L1 : List Int → List Int → Option Bool) (h1 : ∀ s d, pre_spec_ArrayOk s d → L1 s d = some (s_spec_ArrayOk s d)) (L2 : List Int → Option (List Int)) (h2 : ∀ l, pre_spec_l2Copy l → L2 l = some (s_spec_l2Copy l))
    (L3 : Int → Int → Option (Int × Int)) (h3 : ∀ op x, pre_spec_l2One op x → L3 op x = some (s_spec_l2One op x)) (op : Int) (s d : List Int) (h : pre_spec_Each1 op s d) :
    ∃ N, spec_Each1_f L1 L2 L3 N op s d = some (s_spec_Each1 op s d) := by
  refine ⟨d.length + 1, ?_⟩
  unfold spec_Each1_f s_spec_Each1
  by_cases c1 : op < 1
  · rw [if_pos c1, if_neg (by omega)]
  · by_cases c2 : 4 < op
    · rw [if_neg c1, if_pos c2, if_neg (by omega)]
    · rw [if_neg c1, if_neg c2, h1 _ _ h]
      simp only [Option.bind_some, s_spec_ArrayOk]
      cases c3 : arrOk s d with
      | false => simp
      | true =>
        rw [if_neg (by simp), if_pos ⟨by omega, by omega, rfl⟩, h2 _ h.1]
        simp only [Option.bind_some, s_spec_l2Copy]
        have := l_specEach1 L1 L2 L3 h3 op s d s h.2 (arrOk_cells c3).1 d 0 0 [] rfl rfl
        rw [show d.length + 1 + 0 = d.length + 1 by rfl, show ((0 : Nat) : Int) = 0 by rfl] at this
        rw [this]
        unfold each1
        cases ones1 op d <;> simp [ends1]

-- the program's own cells
def pre_impl_Each1_1 (x : Int) : Prop := cellIn x
def s_impl_Each1_1 (x : Int) : Int := (oneOf 1 x).1
theorem p_impl_Each1_1 (x : Int) (h : pre_impl_Each1_1 x) : ∃ N, impl_Each1_1_f N x = some (s_impl_Each1_1 x) := by
  obtain ⟨h1, h2⟩ := h
  refine ⟨0, ?_⟩
  unfold impl_Each1_1_f s_impl_Each1_1 oneOf
  rw [w64_in (by omega)]; simp
def pre_impl_Each1_2 (x : Int) : Prop := cellIn x
def s_impl_Each1_2 (x : Int) : Int := (oneOf 2 x).1
theorem p_impl_Each1_2 (x : Int) (h : pre_impl_Each1_2 x) : ∃ N, impl_Each1_2_f N x = some (s_impl_Each1_2 x) := by
  obtain ⟨h1, h2⟩ := h
  refine ⟨0, ?_⟩
  unfold impl_Each1_2_f s_impl_Each1_2 oneOf
  rw [w64_in (by omega)]
  simp only [show ¬ (2 : Int) = 1 by omega, if_false, if_true, Option.some.injEq]
  split <;> split <;> omega
def pre_impl_Each1_3 (x : Int) : Prop := cellIn x
def s_impl_Each1_3 (x : Int) : Int := (oneOf 3 x).1
theorem p_impl_Each1_3 (x : Int) (h : pre_impl_Each1_3 x) : ∃ N, impl_Each1_3_f N x = some (s_impl_Each1_3 x) := by
  refine ⟨0, ?_⟩
  unfold impl_Each1_3_f s_impl_Each1_3 oneOf
  simp only [show ¬ (3 : Int) = 1 by omega, show ¬ (3 : Int) = 2 by omega, if_false, if_true]
  split
  · rfl
  · split <;> rfl
def pre_impl_Each1_4 (x : Int) : Prop := cellIn x
def s_impl_Each1_4 (x : Int) : Res Int := if (oneOf 4 x).2 = 0 then .ok (oneOf 4 x).1 else .pan (thrown 1)
theorem p_impl_Each1_4 (x : Int) (h : pre_impl_Each1_4 x) : ∃ N, impl_Each1_4_f N x = some (s_impl_Each1_4 x) := by
  obtain ⟨h1, h2⟩ := h
  refine ⟨0, ?_⟩
  unfold impl_Each1_4_f s_impl_Each1_4 oneOf
  rw [w64_in (by omega)]
  simp only [show ¬ (4 : Int) = 1 by omega, show ¬ (4 : Int) = 2 by omega, show ¬ (4 : Int) = 3 by omega, if_false]
  by_cases d0 : x = 0
  · simp [d0]
  · by_cases d1 : x = 1
    · simp [d1]
    · simp [d0, d1, thrown]

section
variable (L1 : Int → Option Int) (h1 : ∀ x, pre_impl_Each1_1 x → L1 x = some (s_impl_Each1_1 x)) (L2 : Int → Option Int) (h2 : ∀ x, pre_impl_Each1_2 x → L2 x = some (s_impl_Each1_2 x))
  (L3 : Int → Option Int) (h3 : ∀ x, pre_impl_Each1_3 x → L3 x = some (s_impl_Each1_3 x)) (L4 : Int → Option (Res Int)) (h4 : ∀ x, pre_impl_Each1_4 x → L4 x = some (s_impl_Each1_4 x))
  (L5 : List Int → List Int → Option Bool) (h5 : ∀ s d, pre_impl_ArrayOk s d → L5 s d = some (s_impl_ArrayOk s d)) (L6 : List Int → Option (Res (List Int × Option Nat × List Int))) (h6 : ∀ l, pre_impl_made l → L6 l = some (s_impl_made l))
  (L7 : D → Int → List Int → List Int → Option Int) (h7 : ∀ x a s d, pre_impl_caught x a s d → L7 (thrown x) a s d = some (s_impl_caught x a s d))
include h1 h2 h3 h4 h7
theorem l_implEach1 (op : Int) (ho : 1 ≤ op ∧ op ≤ 4) (d s' : List Int) (hd : small d) (hc : ∀ x ∈ d, cellIn x) : ∀ (r : List Int) (j e : Nat) (acc : List Int), d.drop j = r → acc.length = j →
    impl_Each1_b_l0 L1 L2 L3 L4 L5 L6 L7 (r.length + 1 + e) op d d.length j s' acc = some (ends1 s' acc (ones1 op r))
  | [], j, e, acc, hj, ha => by
    rw [show ([] : List Int).length + 1 + e = e + 1 by simp; omega]
    simp only [impl_Each1_b_l0]
    rw [if_neg (at_nil hj)]; simp [ends1, ones1]
  | x :: r, j, e, acc, hj, ha => by
    obtain ⟨g1, g2, g3, g4, g5, g6⟩ := at_cons hj
    have hb : d.length ≤ big := by unfold small at hd; rw [big_eq]; omega
    have hx := hc x (List.mem_of_getElem? g4)
    have hr : ∀ y : Int, room 8 (acc ++ [y]).length := fun y => room_small (by unfold small at hd ⊢; simp; omega)
    have IH : ∀ y : Int, impl_Each1_b_l0 L1 L2 L3 L4 L5 L6 L7 (r.length + 1 + e) op d d.length ((j + 1 : Nat) : Int) s' (acc ++ [y]) = some (ends1 s' (acc ++ [y]) (ones1 op r)) :=
      fun y => l_implEach1 op ho d s' hd hc r (j + 1) e (acc ++ [y]) g5 (by simp [ha])
    have e1 : ∀ y : Int, ends1 s' (acc ++ [y]) (ones1 op r) = ends1 s' acc ((ones1 op r).map (y :: ·)) := by
      intro y; cases ones1 op r <;> simp [ends1]
    rw [show (x :: r).length + 1 + e = (r.length + 1 + e) + 1 by simp; omega]
    simp only [impl_Each1_b_l0]
    rw [if_pos g2, g3]
    simp only [Option.bind_some]
    rw [if_pos (by omega), succ_w g1 hb, h1 x hx, h2 x hx, h3 x hx, h4 x hx]
    simp only [Option.bind_some, IH, e1, ones1]
    have ho' : op = 1 ∨ op = 2 ∨ op = 3 ∨ op = 4 := by omega
    rcases ho' with rfl | rfl | rfl | rfl
    · rw [if_neg (by decide), if_pos (by decide), if_pos (hr _), if_pos (by simp [oneOf])]; rfl
    · rw [if_neg (by decide), if_neg (by decide), if_pos (by decide), if_pos (hr _), if_pos (by simp [oneOf])]; rfl
    · rw [if_neg (by decide), if_neg (by decide), if_neg (by decide), if_pos (by decide), if_pos (hr _), if_pos (by simp [oneOf])]; rfl
    · rw [if_neg (by decide), if_neg (by decide), if_neg (by decide), if_neg (by decide), if_pos (by decide)]
      unfold s_impl_Each1_4
      by_cases c : (oneOf 4 x).2 = 0
      · rw [if_pos c, if_pos c]
        simp only [Res.on]
        rw [if_pos (hr _)]
      · rw [if_neg c, if_neg c]
        simp only [Res.on]
        rw [h7 _ _ _ _ trivial]
        rfl
include h5 h6
theorem p_impl_Each1 (op : Int) (s d : List Int) (h : pre_spec_Each1 op s d) : ∃ N, impl_Each1_f L1 L2 L3 L4 L5 L6 L7 N op s d = some (s_spec_Each1 op s d) := by
  refine ⟨d.length + 1, ?_⟩
  unfold impl_Each1_f s_spec_Each1
  by_cases c1 : op < 1
  · rw [if_pos c1, if_neg (by omega)]
  · by_cases c2 : 4 < op
    · rw [if_neg c1, if_pos c2, if_neg (by omega)]
    · rw [if_neg c1, if_neg c2, h5 _ _ h]
      simp only [Option.bind_some, s_impl_ArrayOk]
      cases c3 : arrOk s d with
      | false => simp
      | true =>
        rw [if_neg (by simp), if_pos ⟨by omega, by omega, rfl⟩]
        unfold impl_Each1_b_f
        rw [h6 _ h.1]
        simp only [Option.bind_some, s_impl_made, if_pos (arrOk_cells c3).2, Res.on]
        have := l_implEach1 L1 h1 L2 h2 L3 h3 L4 h4 L5 L6 L7 h7 op (by omega) d s h.2 (arrOk_cells c3).1 d 0 0 [] rfl rfl
        rw [show d.length + 1 + 0 = d.length + 1 by rfl, show ((0 : Nat) : Int) = 0 by rfl] at this
        rw [this]
        unfold each1
        cases ones1 op d <;> simp [ends1]
end
def pre_impl_Each1 (op : Int) (s d : List Int) : Prop := pre_spec_Each1 op s d
def s_impl_Each1 (op : Int) (s d : List Int) : List Int × List Int × Int := s_spec_Each1 op s d

-- the law
theorem each1_small {op : Int} {s d : List Int} (h : small s ∧ small d) : small (s_spec_Each1 op s d).1 ∧ small (s_spec_Each1 op s d).2.1 := by
  unfold s_spec_Each1 each1
  split
  · cases he : ones1 op d with
    | some l =>
      simp only
      exact ⟨h.1, by unfold small; rw [ones1_len he]; exact h.2⟩
    | none => exact ⟨by unfold small; simp, by unfold small; simp⟩
  · exact ⟨by unfold small; simp, by unfold small; simp⟩
def pre_laws_FnExactEach1 (op : Int) (s d : List Int) : Prop := s.length ≤ big ∧ d.length ≤ big
def s_laws_FnExactEach1 (op : Int) (s d : List Int) : Bool := true
theorem p_laws_FnExactEach1 (L0 : List Int → List Int → Int → Option Int) (h0 : ∀ s d n, pre_laws_szArray s d n → L0 s d n = some (s_laws_szArray s d n))
    (L1 : List Int → List Int → Option (List Int × List Int)) (h1 : ∀ s d, pre_laws_toArray s d → L1 s d = some (s_laws_toArray s d))
    (L2 : Int → List Int → List Int → Option (List Int × List Int × Int)) (h2 : ∀ op s d, pre_spec_Each1 op s d → L2 op s d = some (s_spec_Each1 op s d))
    (L3 : Int → List Int → List Int → Option (List Int × List Int × Int)) (h3 : ∀ op s d, pre_impl_Each1 op s d → L3 op s d = some (s_impl_Each1 op s d))
    (L4 : List Int → List Int → List Int → List Int → Option Bool) (h4 : ∀ s d s' d', pre_laws_eqArray s d s' d' → L4 s d s' d' = some (s_laws_eqArray s d s' d'))
    (L5 : List Int → List Int → Int → Option (Int × List Int × List Int)) (h5 : ∀ s d k, pre_laws_markArray s d k → L5 s d k = some (s_laws_markArray s d k))
    (L6 : List Int → List Int → Int → Option Int) (h6 : ∀ s d k, pre_laws_heldArray s d k → L6 s d k = some (s_laws_heldArray s d k))
    (op : Int) (s d : List Int) (h : pre_laws_FnExactEach1 op s d) : ∃ N, laws_FnExactEach1_f L0 L1 L2 L3 L4 L5 L6 N op s d = some (s_laws_FnExactEach1 op s d) := by
  refine ⟨0, ?_⟩
  unfold laws_FnExactEach1_f s_laws_FnExactEach1
  rw [h0 _ _ _ ⟨h.1, h.2, by omega, by omega⟩]
  simp only [Option.bind_some]
  by_cases c : s_laws_szArray s d 1048576 < 0
  · rw [if_pos c]
  · rw [if_neg c]
    have hs : small s ∧ small d := by
      unfold s_laws_szArray at c
      unfold small
      split at c
      · omega
      · split at c
        · omega
        · omega
    have hg := each1_small (op := op) hs
    have hg1 : (s_spec_Each1 op s d).1.length ≤ 1048576 := hg.1
    have hg2 : (s_spec_Each1 op s d).2.1.length ≤ 1048576 := hg.2
    simp only [h1 _ _ hs, Option.bind_some, s_laws_toArray, h2 _ _ _ hs, h3 _ _ _ hs, s_impl_Each1, h4 _ _ _ _ hg, h4 _ _ _ _ hs, eqA_refl, h5 _ _ _ ⟨hs.1, hs.2, Int.le_of_lt Int.zero_lt_one, (by omega : (1 : Int) ≤ 1048576)⟩,
      h5 _ _ _ ⟨hg.1, hg.2, Int.le_of_lt Int.zero_lt_one, (by omega : (1 : Int) ≤ 1048576)⟩]
    have hm : small (s_laws_markArray (s_spec_Each1 op s d).1 (s_spec_Each1 op s d).2.1 1).2.1 ∧ small (s_laws_markArray (s_spec_Each1 op s d).1 (s_spec_Each1 op s d).2.1 1).2.2 := by
      unfold s_laws_markArray small
      simp only [upFrom_len]
      exact hg
    simp only [h6 _ _ _ ⟨hm.1, hm.2, Int.le_of_lt Int.zero_lt_one, (by omega : (1 : Int) ≤ 1048576)⟩, Option.bind_some, held_marks]
    have hk : ∀ s d : List Int, ¬ (s_laws_markArray s d 1).1 < 0 := by intro s d; unfold s_laws_markArray; simp only; omega
    simp [hk]
theorem pre_of_laws_FnExactEach1 {op : Int} {s d : List Int} (ho : (Lit.int .i64 op).wf = true) (hs : s.length ≤ maxLen ∧ ∀ x ∈ s, (Lit.int .i64 x).wf = true) (hd : d.length ≤ maxLen ∧ ∀ x ∈ d, (Lit.int .i64 x).wf = true) : pre_laws_FnExactEach1 op s d := ⟨hs.1, hd.1⟩
end Go.Vm
