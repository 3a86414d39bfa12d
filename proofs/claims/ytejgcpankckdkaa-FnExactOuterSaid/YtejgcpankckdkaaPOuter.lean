/- Outer: what the functions of FnExactOuter answer. -/
import Derived.Test.YtejgcpankckdkaaPMid
import Derived.Test.YtejgcpankckdkaaFOuter
set_option linter.unusedVariables false
set_option linter.unusedSimpArgs false
namespace Go.Vm
/-- each cell of one row with each of the other -/
def outs (op : Int) : List Int → List Int → Except Int (List Int)
  | [], b => .ok []
  | x :: a, b => match twos op (List.replicate b.length x) b with
    | .ok l => match outs op a b with
      | .ok l' => .ok (l ++ l')
      | .error c => .error c
    | .error c => .error c
theorem outs_len {op : Int} : ∀ {a b l : List Int}, outs op a b = .ok l → l.length = a.length * b.length
  | [], b, l, h => by simp only [outs, Except.ok.injEq] at h; subst h; simp
  | x :: a, b, l, h => by
    simp only [outs] at h
    cases h1 : twos op (List.replicate b.length x) b with
    | error c => rw [h1] at h; cases h
    | ok v =>
      rw [h1] at h
      cases h2 : outs op a b with
      | error c => rw [h2] at h; cases h
      | ok l' =>
        rw [h2] at h
        simp only [Except.ok.injEq] at h
        subst h
        rw [List.length_append, outs_len h2, twos_len h1 (by simp), List.length_replicate, List.length_cons, Nat.add_mul, Nat.one_mul]; omega
section
variable (L1 : Int → Option Bool) (L2 : List Int → List Int → Option Bool) (L3 : List Int → Option (List Int)) (L4 : List Int → List Int → Option (Alt (List Int × List Int) (List Int × List Int)))
  (L5 : Int → Int → Int → Option (Int × Int)) (h5 : ∀ op x y, pre_spec_l2Two op x y → L5 op x y = some (s_spec_l2Two op x y))
include h5
theorem l_sOuter1 (K : Int → Int → List Int → List Int → List Int → List Int → List Int → List Int → Option (List Int × List Int × Int)) (op : Int) (s1 a s2 b s' : List Int) (i : Nat) (x : Int) (hx : idx a (i : Int) = some x) (cx : cellIn x) (hb : b.length ≤ 1000) (cb : ∀ y ∈ b, cellIn y) :
    ∀ (r : List Int) (j e : Nat) (acc : List Int), b.drop j = r → acc.length + r.length ≤ 1000000 →
    spec_Outer_l1 L1 L2 L3 L4 L5 K (r.length + 1 + e) op i j s1 a s2 b s' acc = match twos op (List.replicate r.length x) r with
      | .ok l => K op (w64 ((i : Int) + 1)) s1 a s2 b s' (acc ++ l)
      | .error c => some ([], [], c)
  | [], j, e, acc, hr, ha => by
    rw [show ([] : List Int).length + 1 + e = e + 1 by simp; omega]
    simp only [spec_Outer_l1]
    rw [if_neg (at_nil hr)]; simp [twos]
  | y :: r, j, e, acc, hr, ha => by
    obtain ⟨g1, g2, g3, g4, g5, g6⟩ := at_cons hr
    simp only [List.length_cons] at ha
    rw [show (y :: r).length + 1 + e = (r.length + 1 + e) + 1 by simp; omega]
    simp only [spec_Outer_l1]
    rw [if_pos g2, hx, g3]
    simp only [Option.bind_some]
    rw [h5 _ _ _ ⟨cx, cb y (List.mem_of_getElem? g4)⟩]
    simp only [Option.bind_some, s_spec_l2Two, List.length_cons, List.replicate_succ, twos]
    by_cases c : (twoOf op x y).2 = 0
    · rw [if_pos c, two_ok c, if_pos (room_small (by unfold small; simp; omega)), succ_w g1 (by rw [big_eq]; omega), l_sOuter1 K op s1 a s2 b s' i x hx cx hb cb r (j + 1) e _ g5 (by simp; omega)]
      cases twos op (List.replicate r.length x) r <;> simp
    · rw [if_neg c, two_err c]
theorem l_sOuter0 (op : Int) (s1 a s2 b s' : List Int) (ha : a.length ≤ 1000) (hb : b.length ≤ 1000) (ca : ∀ y ∈ a, cellIn y) (cb : ∀ y ∈ b, cellIn y) (M : Nat) : ∀ (r : List Int) (i e : Nat) (acc : List Int), a.drop i = r → acc.length + r.length * b.length ≤ 1000000 →
    spec_Outer_l0 L1 L2 L3 L4 L5 (b.length + 1 + M) (r.length + 1 + e) op i s1 a s2 b s' acc = some (tri (behindT s' acc (outs op r b)))
  | [], i, e, acc, hr, hl => by
    rw [show ([] : List Int).length + 1 + e = e + 1 by simp; omega]
    simp only [spec_Outer_l0]
    rw [if_neg (at_nil hr)]; simp [outs, behindT, tri]
  | x :: r, i, e, acc, hr, hl => by
    obtain ⟨g1, g2, g3, g4, g5, g6⟩ := at_cons hr
    rw [List.length_cons, Nat.add_mul, Nat.one_mul] at hl
    rw [show (x :: r).length + 1 + e = (r.length + 1 + e) + 1 by simp; omega]
    simp only [spec_Outer_l0]
    rw [if_pos g2]
    have key := l_sOuter1 L1 L2 L3 L4 L5 h5 (spec_Outer_l0 L1 L2 L3 L4 L5 (b.length + 1 + M) (r.length + 1 + e)) op s1 a s2 b s' i x g3 (ca x (List.mem_of_getElem? g4)) hb cb b 0 M acc rfl (by omega)
    refine key.trans ?_
    simp only [outs]
    cases h : twos op (List.replicate b.length x) b with
    | error c => rfl
    | ok l =>
      simp only
      have hl' := twos_len h (by simp)
      rw [List.length_replicate] at hl'
      rw [succ_w g1 (by rw [big_eq]; omega), l_sOuter0 op s1 a s2 b s' ha hb ca cb M r (i + 1) e (acc ++ l) g5 (by simp; omega)]
      cases outs op r b <;> simp [behindT]
end
def pre_spec_Outer (op : Int) (s1 d1 s2 d2 : List Int) : Prop := small s1 ∧ small d1 ∧ small s2 ∧ small d2
def s_spec_Outer (op : Int) (s1 d1 s2 d2 : List Int) : List Int × List Int × Int :=
  if (1 ≤ op ∧ op ≤ 10) ∧ arrOk s1 d1 = true ∧ arrOk s2 d2 = true then (if fits (s1 ++ s2) = true then tri (behindT (s1 ++ s2) [] (outs op d1 d2)) else ([], [], 6)) else ([], [], 9)
theorem sq_bound {a b : Nat} (ha : a ≤ 1000) (hb : b ≤ 1000) : a * b ≤ 1000000 := Nat.mul_le_mul ha hb
theorem p_spec_Outer (L1 : Int → Option Bool) (h1 : ∀ op, pre_spec_l2OpOk op → L1 op = some (s_spec_l2OpOk op)) (L2 : List Int → List Int → Option Bool) (h2 : ∀ s d, pre_spec_ArrayOk s d → L2 s d = some (s_spec_ArrayOk s d))
    (L3 : List Int → Option (List Int)) (h3 : ∀ l, pre_spec_l2Copy l → L3 l = some (s_spec_l2Copy l)) (L4 : List Int → List Int → Option (Alt (List Int × List Int) (List Int × List Int))) (h4 : ∀ s d, pre_spec_l2Made s d → L4 s d = some (s_spec_l2Made s d))
    (L5 : Int → Int → Int → Option (Int × Int)) (h5 : ∀ op x y, pre_spec_l2Two op x y → L5 op x y = some (s_spec_l2Two op x y))
    (op : Int) (s1 d1 s2 d2 : List Int) (h : pre_spec_Outer op s1 d1 s2 d2) : ∃ N, spec_Outer_f L1 L2 L3 L4 L5 N op s1 d1 s2 d2 = some (s_spec_Outer op s1 d1 s2 d2) := by
  obtain ⟨g1, g2, g3, g4⟩ := h
  refine ⟨d2.length + 1 + (d1.length + 1), ?_⟩
  unfold spec_Outer_f s_spec_Outer
  rw [h1 _ trivial, h2 _ _ ⟨g1, g2⟩, h2 _ _ ⟨g3, g4⟩]
  simp only [Option.bind_some, s_spec_l2OpOk, s_spec_ArrayOk]
  by_cases c : 1 ≤ op ∧ op ≤ 10
  · cases c1 : arrOk s1 d1 with
    | false => simp [c]
    | true =>
      cases c2 : arrOk s2 d2 with
      | false => simp [c]
      | true =>
        obtain ⟨a1, a2, a3, a4, a5⟩ := arrOk_small c1
        obtain ⟨b1, b2, b3, b4, b5⟩ := arrOk_small c2
        have hs : small (s1 ++ s2) := by unfold small; simp; omega
        rw [if_neg (by simp [c]), if_neg (by simp), if_neg (by simp), if_pos (show (1 ≤ op ∧ op ≤ 10) ∧ true = true ∧ true = true from ⟨c, rfl, rfl⟩), h3 _ g1]
        simp only [Option.bind_some, s_spec_l2Copy]
        rw [if_pos (room_small hs), h4 _ _ hs]
        simp only [Option.bind_some, s_spec_l2Made]
        by_cases cf : fits (s1 ++ s2) = true
        · rw [if_pos cf, if_pos cf]
          simp only [Alt.on]
          have key := l_sOuter0 L1 L2 L3 L4 L5 h5 op s1 d1 s2 d2 (s1 ++ s2) a4 b4 (arrOk_cells c1).1 (arrOk_cells c2).1 (d1.length + 1) d1 0 (d2.length + 1) [] rfl (by have := sq_bound a4 b4; simpa using this)
          rw [show d1.length + 1 + (d2.length + 1) = d2.length + 1 + (d1.length + 1) by omega] at key
          exact key
        · rw [if_neg cf, if_neg cf]; rfl
  · simp [c]
section
variable (L1 : Int → Option (Alt Unit Nat)) (L2 : List Int → List Int → Option Bool) (L3 : List (List Int) → Option (Res (List Int))) (L4 : List Int → Option (Res (List Int × Option Nat × List Int)))
  (L7 : D → Int → List Int → List Int → Option Int) (h7 : ∀ x a s d, pre_impl_caught x a s d → L7 (thrown x) a s d = some (s_impl_caught x a s d))
  (Ld : Nat → Int → Int → Option (Res Int)) (f : Nat) (op : Int) (hD : ∀ x y, cellIn x → cellIn y → Ld f x y = some (resOf (twoOf op x y)))
include h7 hD
theorem l_iOuter1 (K : Nat → List Int → Int → Int → List Int → List Int → List Int → List Int → Option (List Int × List Int × Int)) (a sb b s' : List Int) (x41 i : Int) (x : Int) (cx : cellIn x) (hb : b.length ≤ 1000) (cb : ∀ y ∈ b, cellIn y) :
    ∀ (r : List Int) (j e : Nat) (acc : List Int), b.drop j = r → acc.length + r.length ≤ 1000000 →
    impl_Outer_b_l1 L1 L2 L3 L4 L7 Ld K (r.length + 1 + e) f x a x41 i b b.length j sb b s' acc = match twos op (List.replicate r.length x) r with
      | .ok l => K f a x41 (w64 (i + 1)) sb b s' (acc ++ l)
      | .error c => some ([], [], c)
  | [], j, e, acc, hr, ha => by
    rw [show ([] : List Int).length + 1 + e = e + 1 by simp; omega]
    simp only [impl_Outer_b_l1]
    rw [if_neg (at_nil hr)]; simp [twos]
  | y :: r, j, e, acc, hr, ha => by
    obtain ⟨g1, g2, g3, g4, g5, g6⟩ := at_cons hr
    simp only [List.length_cons] at ha
    rw [show (y :: r).length + 1 + e = (r.length + 1 + e) + 1 by simp; omega]
    simp only [impl_Outer_b_l1]
    rw [if_pos g2, g3]
    simp only [Option.bind_some]
    rw [hD _ _ cx (cb y (List.mem_of_getElem? g4))]
    simp only [Option.bind_some, resOf, List.length_cons, List.replicate_succ, twos]
    by_cases c : (twoOf op x y).2 = 0
    · rw [if_pos c, two_ok c]
      simp only [Res.on]
      rw [if_pos (room_small (by unfold small; simp; omega)), succ_w g1 (by rw [big_eq]; omega), l_iOuter1 K a sb b s' x41 i x cx hb cb r (j + 1) e _ g5 (by simp; omega)]
      cases twos op (List.replicate r.length x) r <;> simp
    · rw [if_neg c, two_err c]
      simp only [Res.on]
      rw [h7 _ _ _ _ trivial]; rfl
theorem l_iOuter0 (a sb b s' : List Int) (ha : a.length ≤ 1000) (hb : b.length ≤ 1000) (ca : ∀ y ∈ a, cellIn y) (cb : ∀ y ∈ b, cellIn y) (M : Nat) : ∀ (r : List Int) (i e : Nat) (acc : List Int), a.drop i = r → acc.length + r.length * b.length ≤ 1000000 →
    impl_Outer_b_l0 L1 L2 L3 L4 L7 Ld (b.length + 1 + M) (r.length + 1 + e) f a a.length i sb b s' acc = some (tri (behindT s' acc (outs op r b)))
  | [], i, e, acc, hr, hl => by
    rw [show ([] : List Int).length + 1 + e = e + 1 by simp; omega]
    simp only [impl_Outer_b_l0]
    rw [if_neg (at_nil hr)]; simp [outs, behindT, tri]
  | x :: r, i, e, acc, hr, hl => by
    obtain ⟨g1, g2, g3, g4, g5, g6⟩ := at_cons hr
    rw [List.length_cons, Nat.add_mul, Nat.one_mul] at hl
    rw [show (x :: r).length + 1 + e = (r.length + 1 + e) + 1 by simp; omega]
    simp only [impl_Outer_b_l0]
    rw [if_pos g2, g3]
    simp only [Option.bind_some]
    have key := l_iOuter1 L1 L2 L3 L4 L7 h7 Ld f op hD (impl_Outer_b_l0 L1 L2 L3 L4 L7 Ld (b.length + 1 + M) (r.length + 1 + e)) a sb b s' a.length i x (ca x (List.mem_of_getElem? g4)) hb cb b 0 M acc rfl (by omega)
    refine key.trans ?_
    simp only [outs]
    cases h : twos op (List.replicate b.length x) b with
    | error c => rfl
    | ok l =>
      simp only
      have hl' := twos_len h (by simp)
      rw [List.length_replicate] at hl'
      rw [succ_w g1 (by rw [big_eq]; omega), l_iOuter0 a sb b s' ha hb ca cb M r (i + 1) e (acc ++ l) g5 (by simp; omega)]
      cases outs op r b <;> simp [behindT]
end
def pre_impl_Outer (op : Int) (s1 d1 s2 d2 : List Int) : Prop := pre_spec_Outer op s1 d1 s2 d2
def s_impl_Outer (op : Int) (s1 d1 s2 d2 : List Int) : List Int × List Int × Int := s_spec_Outer op s1 d1 s2 d2
theorem p_impl_Outer (L1 : Int → Option (Alt Unit Nat)) (h1 : ∀ op, pre_impl_opOf op → L1 op = some (s_impl_opOf op)) (L2 : List Int → List Int → Option Bool) (h2 : ∀ s d, pre_impl_ArrayOk s d → L2 s d = some (s_impl_ArrayOk s d))
    (L3 : List (List Int) → Option (Res (List Int))) (h3 : ∀ l, pre_slices_Concat___int_int_ l → L3 l = some (s_slices_Concat___int_int_ l)) (L4 : List Int → Option (Res (List Int × Option Nat × List Int))) (h4 : ∀ l, pre_impl_made l → L4 l = some (s_impl_made l))
    (L7 : D → Int → List Int → List Int → Option Int) (h7 : ∀ x a s d, pre_impl_caught x a s d → L7 (thrown x) a s d = some (s_impl_caught x a s d))
    (Ld : Nat → Int → Int → Option (Res Int)) (hd : ∀ f x y, dyn_pre f x y → Ld f x y = some (dyn_s f x y))
    (op : Int) (s1 d1 s2 d2 : List Int) (h : pre_impl_Outer op s1 d1 s2 d2) : ∃ N, impl_Outer_f L1 L2 L3 L4 L7 Ld N op s1 d1 s2 d2 = some (s_impl_Outer op s1 d1 s2 d2) := by
  obtain ⟨g1, g2, g3, g4⟩ := h
  refine ⟨d2.length + 1 + (d1.length + 1), ?_⟩
  unfold impl_Outer_f s_impl_Outer s_spec_Outer
  rw [h1 _ trivial]
  simp only [Option.bind_some]
  rcases opOf_spec op with ⟨e1, e2, e3, e4⟩ | ⟨e1, e2⟩
  · have hD : ∀ x y, cellIn x → cellIn y → Ld (opNo op) x y = some (resOf (twoOf op x y)) := fun x y hx hy => by rw [hd _ _ _ (dyn_op ⟨e3, e4⟩ hx hy).1, (dyn_op ⟨e3, e4⟩ hx hy).2]
    rw [e2]
    simp only [Alt.on]
    rw [h2 _ _ ⟨g1, g2⟩, h2 _ _ ⟨g3, g4⟩]
    simp only [Option.bind_some, s_impl_ArrayOk]
    cases c1 : arrOk s1 d1 with
    | false => simp
    | true =>
      cases c2 : arrOk s2 d2 with
      | false => simp
      | true =>
        obtain ⟨a1, a2, a3, a4, a5⟩ := arrOk_small c1
        obtain ⟨b1, b2, b3, b4, b5⟩ := arrOk_small c2
        have hs : small (s1 ++ s2) := by unfold small; simp; omega
        rw [if_neg (by simp), if_neg (by simp), if_pos (show (1 ≤ op ∧ op ≤ 10) ∧ true = true ∧ true = true from ⟨⟨e3, e4⟩, rfl, rfl⟩)]
        unfold impl_Outer_b_f
        rw [h3 _ ⟨s1, s2, rfl, a3, b3⟩]
        simp only [Option.bind_some, s_slices_Concat___int_int_, Res.on, List.flatten_cons, List.flatten_nil, List.append_nil]
        rw [h4 _ hs]
        simp only [Option.bind_some]
        by_cases cf : fits (s1 ++ s2) = true
        · rw [made_cap cf, if_pos cf]
          have key := l_iOuter0 L1 L2 L3 L4 L7 h7 Ld (opNo op) op hD d1 s2 d2 (s1 ++ s2) a4 b4 (arrOk_cells c1).1 (arrOk_cells c2).1 (d1.length + 1) d1 0 (d2.length + 1) [] rfl (by have := sq_bound a4 b4; simpa using this)
          rw [show d1.length + 1 + (d2.length + 1) = d2.length + 1 + (d1.length + 1) by omega] at key
          exact key
        · rw [made_no cf, if_neg cf]
          simp only
          rw [h7 _ _ _ _ trivial]; rfl
  · rw [e2]
    simp only [s_spec_l2OpOk, decide_eq_false_iff_not] at e1
    rw [if_neg (fun q => e1 q.1)]; rfl
theorem small_Outer {op : Int} {s1 d1 s2 d2 : List Int} (h : pre_spec_Outer op s1 d1 s2 d2) : small (s_spec_Outer op s1 d1 s2 d2).1 ∧ small (s_spec_Outer op s1 d1 s2 d2).2.1 := by
  have z : small ([] : List Int) ∧ small ([] : List Int) := ⟨Nat.zero_le _, Nat.zero_le _⟩
  unfold s_spec_Outer
  split
  · rename_i c
    obtain ⟨a1, a2, a3, a4, a5⟩ := arrOk_small c.2.1
    obtain ⟨b1, b2, b3, b4, b5⟩ := arrOk_small c.2.2
    split
    · cases ho : outs op d1 d2 with
      | error c => exact z
      | ok l =>
        have := outs_len ho
        have hq := sq_bound a4 b4
        simp only [behindT, tri, List.nil_append]
        refine ⟨by unfold small; simp; omega, by unfold small; omega⟩
    · exact z
  · exact z
-- the law
def pre_laws_FnExactOuter (op : Int) (s d s' d' : List Int) : Prop := (s.length ≤ big ∧ d.length ≤ big) ∧ s'.length ≤ big ∧ d'.length ≤ big
def s_laws_FnExactOuter (op : Int) (s d s' d' : List Int) : Bool := true
theorem p_laws_FnExactOuter (L0 : List Int → List Int → Int → Option Int) (h0 : ∀ s d n, pre_laws_szArray s d n → L0 s d n = some (s_laws_szArray s d n))
    (L1 : List Int → List Int → Option (List Int × List Int)) (h1 : ∀ s d, pre_laws_toArray s d → L1 s d = some (s_laws_toArray s d))
    (L2 : Int → List Int → List Int → List Int → List Int → Option (List Int × List Int × Int)) (h2 : ∀ op s d s' d', pre_spec_Outer op s d s' d' → L2 op s d s' d' = some (s_spec_Outer op s d s' d'))
    (L3 : Int → List Int → List Int → List Int → List Int → Option (List Int × List Int × Int)) (h3 : ∀ op s d s' d', pre_impl_Outer op s d s' d' → L3 op s d s' d' = some (s_impl_Outer op s d s' d'))
    (L4 : List Int → List Int → List Int → List Int → Option Bool) (h4 : ∀ s d s' d', pre_laws_eqArray s d s' d' → L4 s d s' d' = some (s_laws_eqArray s d s' d'))
    (L5 : List Int → List Int → Int → Option (Int × List Int × List Int)) (h5 : ∀ s d k, pre_laws_markArray s d k → L5 s d k = some (s_laws_markArray s d k))
    (L6 : List Int → List Int → Int → Option Int) (h6 : ∀ s d k, pre_laws_heldArray s d k → L6 s d k = some (s_laws_heldArray s d k))
    (op : Int) (s d s' d' : List Int) (h : pre_laws_FnExactOuter op s d s' d') : ∃ N, laws_FnExactOuter_f L0 L1 L2 L3 L4 L5 L6 N op s d s' d' = some (s_laws_FnExactOuter op s d s' d') := by
  refine ⟨0, ?_⟩
  unfold laws_FnExactOuter_f s_laws_FnExactOuter
  rw [h0 _ _ _ ⟨h.1.1, h.1.2, by omega, by omega⟩]
  simp only [Option.bind_some]
  by_cases c : s_laws_szArray s d 1048576 < 0
  · rw [if_pos c]
  rw [if_neg c]
  obtain ⟨q1, q2, q3, q4⟩ := sz_left (by omega) c
  rw [h0 _ _ _ ⟨h.2.1, h.2.2, q3, q4⟩]
  simp only [Option.bind_some]
  by_cases c' : s_laws_szArray s' d' (s_laws_szArray s d 1048576) < 0
  · rw [if_pos c']
  · rw [if_neg c']
    obtain ⟨r1, r2, r3, r4⟩ := sz_left ⟨q3, q4⟩ c'
    have q1' : s.length ≤ 1048576 := q1
    have q2' : d.length ≤ 1048576 := q2
    have hs : small s ∧ small d := ⟨q1, q2⟩
    have hs' : small s' ∧ small d' := ⟨r1, r2⟩
    have hss : pre_spec_Outer op s d s' d' := ⟨q1, q2, r1, r2⟩
    have hg := small_Outer hss
    have hm1 := h5 s d 1 ⟨q1, q2, by omega, by omega⟩
    have hk0 : 0 ≤ (s_laws_markArray s d 1).1 ∧ (s_laws_markArray s d 1).1 ≤ 4194304 := by
      unfold s_laws_markArray
      simp only
      omega
    have hm2 := h5 s' d' (s_laws_markArray s d 1).1 ⟨r1, r2, hk0.1, hk0.2⟩
    have hm3 := h5 _ _ 1 ⟨hg.1, hg.2, by omega, by omega⟩
    have hm : small (s_laws_markArray (s_spec_Outer op s d s' d').1 (s_spec_Outer op s d s' d').2.1 1).2.1 ∧ small (s_laws_markArray (s_spec_Outer op s d s' d').1 (s_spec_Outer op s d s' d').2.1 1).2.2 := by
      unfold s_laws_markArray small
      simp only [upFrom_len]
      exact hg
    have hh := h6 _ _ 1 ⟨hm.1, hm.2, by omega, by omega⟩
    simp only [h1 _ _ hs, h1 _ _ hs', Option.bind_some, s_laws_toArray, h2 _ _ _ _ _ hss, h3 _ _ _ _ _ hss, s_impl_Outer, h4 _ _ _ _ hg, h4 _ _ _ _ hs, h4 _ _ _ _ hs', eqA_refl, hm1, hm2, hm3, hh, held_marks]
    have hk : ∀ (s d : List Int) (k : Int), 0 ≤ k → ¬ (s_laws_markArray s d k).1 < 0 := by intro s d k hk; unfold s_laws_markArray; simp only; omega
    simp [hk, hk0.1]
theorem pre_of_laws_FnExactOuter {op : Int} {s d s' d' : List Int} (ho : (Lit.int .i64 op).wf = true) (hs : s.length ≤ maxLen ∧ ∀ x ∈ s, (Lit.int .i64 x).wf = true) (hd : d.length ≤ maxLen ∧ ∀ x ∈ d, (Lit.int .i64 x).wf = true)
    (hs' : s'.length ≤ maxLen ∧ ∀ x ∈ s', (Lit.int .i64 x).wf = true) (hd' : d'.length ≤ maxLen ∧ ∀ x ∈ d', (Lit.int .i64 x).wf = true) : pre_laws_FnExactOuter op s d s' d' := ⟨⟨hs.1, hd.1⟩, hs'.1, hd'.1⟩
end Go.Vm
