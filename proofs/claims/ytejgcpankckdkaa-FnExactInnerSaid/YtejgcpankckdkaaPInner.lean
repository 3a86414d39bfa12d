/- Inner: what the functions of FnExactInner answer. -/
import Derived.Test.YtejgcpankckdkaaPMid
import Derived.Test.YtejgcpankckdkaaFInner
set_option linter.unusedVariables false
set_option linter.unusedSimpArgs false
set_option linter.unusedSectionVars false
namespace Go.Vm
def pre_spec_l2Vector (l : List Int) : Prop := small l
def s_spec_l2Vector (l : List Int) : List Int × List Int := ([(l.length : Int)], l)
theorem p_spec_l2Vector (L : List Int → Option (List Int)) (hL : ∀ l, pre_spec_l2Copy l → L l = some (s_spec_l2Copy l)) (l : List Int) (h : pre_spec_l2Vector l) : ∃ N, spec_l2Vector_f L N l = some (s_spec_l2Vector l) := by
  refine ⟨0, ?_⟩
  unfold spec_l2Vector_f
  rw [hL _ h]; rfl

/-- cells below, into one -/
def red1 (f : Int) (v : List Int) : Nat → Int → Except Int Int
  | 0, acc => .ok acc
  | i + 1, acc => match two f (v.getD i 0) acc with
    | .ok z => red1 f v i z
    | .error c => .error c
theorem nthRow_one {v : List Int} {i : Nat} (h : i < v.length) : nthRow v 1 i = [v.getD i 0] := by
  unfold nthRow
  rw [Nat.mul_one]
  have e : v.drop i = v[i] :: v.drop (i + 1) := List.drop_eq_getElem_cons h
  rw [e, List.take_succ_cons, List.take_zero, List.getD_eq_getElem?_getD, List.getElem?_eq_getElem h]; rfl
theorem redu_one (f : Int) (v : List Int) : ∀ (i : Nat) (acc : Int), i ≤ v.length → redu f v 1 i [acc] = match red1 f v i acc with
    | .ok z => .ok [z]
    | .error c => .error c
  | 0, acc, h => rfl
  | i + 1, acc, h => by
    simp only [redu, red1]
    rw [nthRow_one (by omega)]
    simp only [twos]
    cases two f (v.getD i 0) acc with
    | error c => rfl
    | ok z => exact redu_one f v i z (by omega)
/-- a column -/
def col (b : List Int) (C n j : Nat) : List Int := (List.range n).map fun k => b.getD (k * C + j) 0
theorem col_len (b : List Int) (C n j : Nat) : (col b C n j).length = n := by simp [col]
theorem col_succ (b : List Int) (C n j : Nat) : col b C (n + 1) j = col b C n j ++ [b.getD (n * C + j) 0] := by simp [col, List.range_succ]
theorem col_get {b : List Int} {C n j k : Nat} (hk : k < n) : (col b C n j)[k]? = some (b.getD (k * C + j) 0) := by simp [col, hk]
theorem getD_in {b : List Int} (hb : ∀ x ∈ b, cellIn x) (k : Nat) : cellIn (b.getD k 0) := by
  rw [List.getD_eq_getElem?_getD]
  cases h : b[k]? with
  | none => unfold cellIn; simp
  | some x => exact hb x (List.mem_of_getElem? h)
theorem col_in {b : List Int} (hb : ∀ x ∈ b, cellIn x) (C n j : Nat) : ∀ x ∈ col b C n j, cellIn x := by
  intro x hx
  simp only [col, List.mem_map] at hx
  obtain ⟨k, _, rfl⟩ := hx
  exact getD_in hb _
theorem getD_of {b : List Int} {k : Nat} (h : k < b.length) : b[k]? = some (b.getD k 0) := by
  rw [List.getD_eq_getElem?_getD, List.getElem?_eq_getElem h]; rfl
theorem at_lt {n C k j : Nat} (hk : k < n) (hj : j < C) : k * C + j < n * C := by
  have := Nat.mul_le_mul_right C (show k + 1 ≤ n from hk)
  rw [Nat.add_mul, Nat.one_mul] at this
  omega
/-- one cell of an inner product -/
def cellI (f g : Int) (a b : List Int) (n C i j : Nat) : Except Int Int := match twos g (nthRow a n i) (col b C n j) with
  | .error c => .error c
  | .ok v => if n = 0 then (match noneOf f with
      | some z => .ok z
      | none => .error 1) else red1 f v (n - 1) (v.getD (n - 1) 0)
def cellsJ (h : Nat → Except Int Int) : Nat → Nat → Except Int (List Int)
  | 0, j => .ok []
  | m + 1, j => match h j with
    | .ok z => match cellsJ h m (j + 1) with
      | .ok l => .ok (z :: l)
      | .error c => .error c
    | .error c => .error c
def cellsI (h : Nat → Nat → Except Int Int) (C : Nat) : Nat → Nat → Except Int (List Int)
  | 0, i => .ok []
  | m + 1, i => match cellsJ (h i) C 0 with
    | .ok l => match cellsI h C m (i + 1) with
      | .ok l' => .ok (l ++ l')
      | .error c => .error c
    | .error c => .error c
theorem cellsJ_len {h : Nat → Except Int Int} : ∀ {m j : Nat} {l : List Int}, cellsJ h m j = .ok l → l.length = m
  | 0, j, l, e => by simp only [cellsJ, Except.ok.injEq] at e; subst e; rfl
  | m + 1, j, l, e => by
    simp only [cellsJ] at e
    cases h1 : h j with
    | error c => rw [h1] at e; cases e
    | ok z =>
      rw [h1] at e
      cases h2 : cellsJ h m (j + 1) with
      | error c => rw [h2] at e; cases e
      | ok l' =>
        rw [h2] at e
        simp only [Except.ok.injEq] at e
        subst e
        simp [cellsJ_len h2]
theorem cellsI_len {h : Nat → Nat → Except Int Int} {C : Nat} : ∀ {m i : Nat} {l : List Int}, cellsI h C m i = .ok l → l.length = m * C
  | 0, i, l, e => by simp only [cellsI, Except.ok.injEq] at e; subst e; simp
  | m + 1, i, l, e => by
    simp only [cellsI] at e
    cases h1 : cellsJ (h i) C 0 with
    | error c => rw [h1] at e; cases e
    | ok z =>
      rw [h1] at e
      cases h2 : cellsI h C m (i + 1) with
      | error c => rw [h2] at e; cases e
      | ok l' =>
        rw [h2] at e
        simp only [Except.ok.injEq] at e
        subst e
        rw [List.length_append, cellsJ_len h1, cellsI_len h2, Nat.add_mul, Nat.one_mul]; omega
theorem red1_in {f : Int} {v : List Int} (hv : ∀ x ∈ v, cellIn x) : ∀ {i : Nat} {acc z : Int}, cellIn acc → red1 f v i acc = .ok z → cellIn z
  | 0, acc, z, ha, h => by simp only [red1, Except.ok.injEq] at h; subst h; exact ha
  | i + 1, acc, z, ha, h => by
    simp only [red1] at h
    cases h1 : two f (v.getD i 0) acc with
    | error c => rw [h1] at h; cases h
    | ok y => rw [h1] at h; exact red1_in hv (two_in (getD_in hv i) ha h1) h
theorem two_err0 {f x y c : Int} (h : two f x y = .error c) : ¬ c = 0 := by
  unfold two at h
  split at h
  · cases h
  · rename_i q
    simp only [Except.error.injEq] at h
    rw [← h]; exact q
theorem red1_err {f c : Int} {v : List Int} : ∀ {i : Nat} {acc : Int}, red1 f v i acc = .error c → ¬ c = 0
  | 0, acc, h => by cases h
  | i + 1, acc, h => by
    simp only [red1] at h
    cases h1 : two f (v.getD i 0) acc with
    | error c' =>
      rw [h1] at h
      simp only [Except.error.injEq] at h
      subst h
      exact two_err0 h1
    | ok y => rw [h1] at h; exact red1_err h
theorem fits_one {n : Nat} (h : n ≤ 1000) : fits [(n : Int)] = true := by
  refine (fits_iff _).2 ⟨by simp, ?_, by simp [prodI]; omega⟩
  simp [axOk]; omega

-- the reference
section
variable (L1 : Int → Option Bool) (L2 : List Int → List Int → Option Bool) (L3 : List Int → Option (List Int)) (L4 : List Int → List Int → Option (Alt (List Int × List Int) (List Int × List Int))) (L5 : List Int → Option Int)
  (L6 : List Int → Option (List Int × List Int)) (h6 : ∀ l, pre_spec_l2Vector l → L6 l = some (s_spec_l2Vector l))
  (L7 : Int → List Int → List Int → List Int → List Int → Option (List Int × List Int × Int)) (h7 : ∀ op s1 d1 s2 d2, pre_spec_l2Each op s1 d1 s2 d2 → L7 op s1 d1 s2 d2 = some (s_spec_l2Each op s1 d1 s2 d2))
  (L8 : Int → List Int → List Int → Option (List Int × List Int × Int)) (h8 : ∀ op s d, pre_spec_l2Reduce op s d → L8 op s d = some (s_spec_l2Reduce op s d))
include h6 h7 h8
theorem l_sGather (K : Int → Int → Int → Int → Int → Int → Int → List Int → List Int → List Int → List Int → List Int → List Int → Option (List Int × List Int × Int)) (f g : Int) (n R C i j : Nat) (sa a sb b s' d' : List Int)
    (hn : n ≤ 1000) (hj : j < C) (hb : n * C ≤ b.length) (hbs : b.length ≤ 1000) : ∀ (m k e : Nat), k + m = n →
    spec_Inner_l2 L1 L2 L3 L4 L5 L6 L7 L8 K (m + 1 + e) f g n R C i j k sa a sb b s' d' (col b C k j) = spec_Inner_l2 L1 L2 L3 L4 L5 L6 L7 L8 K (1 + e) f g n R C i j n sa a sb b s' d' (col b C n j)
  | 0, k, e, hk => by
    obtain rfl : k = n := by omega
    rw [show 0 + 1 + e = 1 + e by omega]
  | m + 1, k, e, hk => by
    have h1 := at_lt (show k < n by omega) hj
    have e0 : (k : Int) * C = ((k * C : Nat) : Int) := by simp
    have e1 : w64 (w64 ((k : Int) * C) + (j : Int)) = ((k * C + j : Nat) : Int) := by
      rw [w64_in (n := (k : Int) * C) (by omega), w64_in (by omega)]; omega
    rw [show m + 1 + 1 + e = (m + 1 + e) + 1 by omega]
    conv => lhs; simp only [spec_Inner_l2]
    rw [if_pos (by omega), e1, idx_nat, getD_of (by omega)]
    simp only [Option.bind_some]
    rw [← col_succ, if_pos (room_small (by unfold small; rw [col_len]; omega)), succ_w (n := n) (by omega) (by rw [big_eq]; omega)]
    exact l_sGather K f g n R C i j sa a sb b s' d' hn hj hb hbs m (k + 1) e (by omega)
theorem l_sInner2 (K : Int → Int → Int → Int → Int → Int → Int → List Int → List Int → List Int → List Int → List Int → List Int → Option (List Int × List Int × Int)) (f g : Int) (n R C i j : Nat) (sa a sb b s' d' : List Int)
    (hn : n ≤ 1000) (hj : j < C) (hi : i < R) (ha : R * n ≤ a.length) (has : a.length ≤ 1000) (hb : n * C ≤ b.length) (hbs : b.length ≤ 1000) (ca : ∀ x ∈ a, cellIn x) (cb : ∀ x ∈ b, cellIn x) (hd : d'.length < 1000) (e : Nat) :
    spec_Inner_l2 L1 L2 L3 L4 L5 L6 L7 L8 K (n + 1 + e) f g n R C i j 0 sa a sb b s' d' [] = match cellI f g a b n C i j with
      | .ok z => K f g n R C i (w64 ((j : Int) + 1)) sa a sb b s' (d' ++ [z])
      | .error c => some ([], [], c) := by
  have hg := l_sGather L1 L2 L3 L4 L5 L6 h6 L7 h7 L8 h8 K f g n R C i j sa a sb b s' d' hn hj hb hbs n 0 e (by omega)
  refine hg.trans ?_
  have hin := Nat.mul_le_mul_right n (show i + 1 ≤ R from hi)
  have hin' := hin
  rw [Nat.add_mul, Nat.one_mul] at hin'
  have e0 : (i : Int) * n = ((i * n : Nat) : Int) := by simp
  have hrl : (nthRow a n i).length = n := nthRow_len (by omega)
  have hcl := col_len b C n j
  rw [show 1 + e = e + 1 by omega]
  simp only [spec_Inner_l2]
  rw [if_neg (by omega), w64_in (n := (i : Int) * n) (by omega), w64_in (n := (i : Int) * n + n) (by omega), cut_row (by unfold small; omega) (by omega)]
  simp only [Option.bind_some]
  rw [h6 _ (by show small _; unfold small; omega), h6 _ (by show small _; unfold small; omega)]
  simp only [Option.bind_some, s_spec_l2Vector, hrl, hcl]
  have a1 : arrOk [(n : Int)] (nthRow a n i) = true := mk_arr (fits_one hn) (by rw [hrl]; simp [prodI]) (nthRow_in ca)
  have a2 : arrOk [(n : Int)] (col b C n j) = true := mk_arr (fits_one hn) (by rw [hcl]; simp [prodI]) (col_in cb C n j)
  rw [h7 _ _ _ _ _ ⟨a1, a2⟩]
  simp only [Option.bind_some, s_spec_l2Each, each2_same a1 a2]
  unfold cellI
  cases ht : twos g (nthRow a n i) (col b C n j) with
  | error c =>
    have := twos_err ht
    simp only [behindT, tri]
    refine (if_neg this).trans (if_neg this)
  | ok v =>
    have hvl : v.length = n := by rw [twos_len ht (by omega), hrl]
    have hvi := twos_in (nthRow_in ca) (col_in cb C n j) ht
    have a3 : arrOk [(n : Int)] v = true := mk_arr (fits_one hn) (by rw [hvl]; simp [prodI]) hvi
    simp only [behindT, List.nil_append, tri]
    refine (if_pos trivial).trans ?_
    rw [h8 _ _ _ a3]
    simp only [Option.bind_some, s_spec_l2Reduce]
    have hroom : ∀ z : Int, room 8 (d' ++ [z]).length := fun z => room_small (by unfold small; simp; omega)
    by_cases c0 : n = 0
    · subst c0
      have e3 : foldN f [((0 : Nat) : Int)] v (([((0 : Nat) : Int)] : List Int).headD 0) = match noneOf f with
          | none => .error 1
          | some z => .ok ([], [z]) := by
        simp only [foldN, List.headD_cons]
        refine (if_pos rfl).trans ?_
        cases noneOf f with
        | none => rfl
        | some z => exact if_pos (by decide)
      rw [e3, if_pos rfl]
      cases noneOf f with
      | none => exact if_neg (by show ¬ (1 : Int) = 0; omega)
      | some z =>
        refine (if_pos rfl).trans ?_
        refine (if_pos (by show (0 : Int) < ((([z] : List Int).length : Nat) : Int); simp)).trans ?_
        exact if_pos (hroom z)
    · have e3 : foldN f [(n : Int)] v (([(n : Int)] : List Int).headD 0) = behindT [] [] (redu f v 1 (n - 1) [v.getD (n - 1) 0]) := by
        rw [List.headD_cons, foldN_pos (by omega), show (prodI []).toNat = 1 from rfl, show ((n : Int) - 1).toNat = n - 1 by omega, nthRow_one (by omega)]
      rw [e3, if_neg c0, redu_one f v (n - 1) _ (by omega)]
      cases hr : red1 f v (n - 1) (v.getD (n - 1) 0) with
      | error c => exact if_neg (red1_err hr)
      | ok z =>
        refine (if_pos rfl).trans ?_
        refine (if_pos (by show (0 : Int) < ((([z] : List Int).length : Nat) : Int); simp)).trans ?_
        exact if_pos (hroom z)
theorem l_sInner1 (K : Int → Int → Int → Int → Int → Int → List Int → List Int → List Int → List Int → List Int → List Int → Option (List Int × List Int × Int)) (f g : Int) (n R C i N M : Nat) (hN : N = n + 1 + M) (sa a sb b s' : List Int)
    (hn : n ≤ 1000) (hi : i < R) (hC : C ≤ 1001) (ha : R * n ≤ a.length) (has : a.length ≤ 1000) (hb : n * C ≤ b.length) (hbs : b.length ≤ 1000) (ca : ∀ x ∈ a, cellIn x) (cb : ∀ x ∈ b, cellIn x) : ∀ (m j e : Nat) (d' : List Int), j + m = C → d'.length + m ≤ 1000 →
    spec_Inner_l1 L1 L2 L3 L4 L5 L6 L7 L8 N K (m + 1 + e) f g n R C i j sa a sb b s' d' = match cellsJ (cellI f g a b n C i) m j with
      | .ok l => K f g n R C (w64 ((i : Int) + 1)) sa a sb b s' (d' ++ l)
      | .error c => some ([], [], c)
  | 0, j, e, d', hj, hd => by
    rw [show 0 + 1 + e = e + 1 by omega]
    simp only [spec_Inner_l1]
    rw [if_neg (by omega)]; simp [cellsJ]
  | m + 1, j, e, d', hj, hd => by
    rw [show m + 1 + 1 + e = (m + 1 + e) + 1 by omega]
    simp only [spec_Inner_l1]
    rw [if_pos (by omega)]
    subst hN
    refine (l_sInner2 L1 L2 L3 L4 L5 L6 h6 L7 h7 L8 h8 _ f g n R C i j sa a sb b s' d' hn (by omega) hi ha has hb hbs ca cb (by omega) M).trans ?_
    simp only [cellsJ]
    cases cellI f g a b n C i j with
    | error c => rfl
    | ok z =>
      simp only
      rw [succ_w (n := C) (by omega) (by rw [big_eq]; omega), l_sInner1 K f g n R C i _ M rfl sa a sb b s' hn hi hC ha has hb hbs ca cb m (j + 1) e (d' ++ [z]) (by omega) (by simp; omega)]
      cases cellsJ (cellI f g a b n C i) m (j + 1) <;> simp
theorem l_sInner0 (f g : Int) (n R C N M M' : Nat) (hN : N = n + 1 + M) (hN' : N = C + 1 + M') (sa a sb b s' : List Int)
    (hn : n ≤ 1000) (hC : C ≤ 1001) (hR : R ≤ 1001) (ha : R * n ≤ a.length) (has : a.length ≤ 1000) (hb : n * C ≤ b.length) (hbs : b.length ≤ 1000) (ca : ∀ x ∈ a, cellIn x) (cb : ∀ x ∈ b, cellIn x) : ∀ (m i e : Nat) (d' : List Int), i + m = R → d'.length + m * C ≤ 1000 →
    spec_Inner_l0 L1 L2 L3 L4 L5 L6 L7 L8 N (m + 1 + e) f g n R C i sa a sb b s' d' = some (tri (behindT s' d' (cellsI (cellI f g a b n C) C m i)))
  | 0, i, e, d', hi, hd => by
    rw [show 0 + 1 + e = e + 1 by omega]
    simp only [spec_Inner_l0]
    rw [if_neg (by omega)]; simp [cellsI, behindT, tri]
  | m + 1, i, e, d', hi, hd => by
    rw [Nat.add_mul, Nat.one_mul] at hd
    rw [show m + 1 + 1 + e = (m + 1 + e) + 1 by omega]
    simp only [spec_Inner_l0]
    rw [if_pos (by omega)]
    have key := l_sInner1 L1 L2 L3 L4 L5 L6 h6 L7 h7 L8 h8 (spec_Inner_l0 L1 L2 L3 L4 L5 L6 L7 L8 N (m + 1 + e)) f g n R C i N M hN sa a sb b s' hn (by omega) hC ha has hb hbs ca cb C 0 M' d' (by omega) (by omega)
    rw [← hN'] at key
    refine key.trans ?_
    simp only [cellsI]
    cases hJ : cellsJ (cellI f g a b n C i) C 0 with
    | error c => rfl
    | ok l =>
      simp only
      have := cellsJ_len hJ
      rw [succ_w (n := R) (by omega) (by rw [big_eq]; omega), l_sInner0 f g n R C N M M' hN hN' sa a sb b s' hn hC hR ha has hb hbs ca cb m (i + 1) e (d' ++ l) (by omega) (by simp; omega)]
      cases cellsI (cellI f g a b n C) C m (i + 1) <;> simp [behindT]
end

-- the program's own
section
variable (L1 : Int → Option (Alt Unit Nat)) (L2 : List Int → List Int → Option Bool) (L3 : List (List Int) → Option (Res (List Int))) (L4 : List Int → Option (Res (List Int × Option Nat × List Int)))
  (L5 : Int → Option (Res Int)) (h5 : ∀ op, pre_impl_nothingOf op → L5 op = some (s_impl_nothingOf op))
  (L7 : D → Int → List Int → List Int → Option Int) (h7 : ∀ x a s d, pre_impl_caught x a s d → L7 (thrown x) a s d = some (s_impl_caught x a s d))
  (Ld : Nat → Int → Int → Option (Res Int)) (fn gn : Nat) (f g : Int) (hDf : ∀ x y, cellIn x → cellIn y → Ld fn x y = some (resOf (twoOf f x y))) (hDg : ∀ x y, cellIn x → cellIn y → Ld gn x y = some (resOf (twoOf g x y)))
include h5 h7 hDf hDg
theorem l_iInner4 (K : Nat → Nat → Int → Int → Int → Int → Int → Int → Int → List Int → List Int → List Int → List Int → List Int → List Int → Option (List Int × List Int × Int)) (x14 x18 x19 x116 x117 x120 x121 : Int) (sa a sb b s' d' v : List Int)
    (hv : ∀ x ∈ v, cellIn x) (hl : v.length ≤ 1000) (hd : d'.length < 1000) : ∀ (i e : Nat) (acc : Int), i ≤ v.length → cellIn acc →
    impl_Inner_b_l4 L1 L2 L3 L4 L5 L7 Ld K (i + 1 + e) fn gn x14 x18 x19 acc ((i : Int) - 1) x116 x117 x120 x121 sa a sb b s' d' v = match red1 f v i acc with
      | .ok z => K fn gn x14 x18 x19 x116 x117 x120 (w64 (x121 + 1)) sa a sb b s' (d' ++ [z])
      | .error c => some ([], [], c)
  | 0, e, acc, hi, ha => by
    rw [show 0 + 1 + e = e + 1 by omega]
    simp only [impl_Inner_b_l4]
    rw [if_neg (by omega), if_pos (room_small (by unfold small; simp; omega))]
    simp [red1]
  | i + 1, e, acc, hi, ha => by
    rw [show i + 1 + 1 + e = (i + 1 + e) + 1 by omega]
    simp only [impl_Inner_b_l4]
    have e1 : (((i + 1 : Nat) : Int) - 1) = (i : Int) := by omega
    rw [e1, if_pos (by omega), if_pos (by omega), Int.toNat_natCast, getD_of (show i < v.length by omega)]
    simp only [Option.bind_some]
    rw [hDf _ _ (getD_in hv i) ha]
    simp only [Option.bind_some, resOf, red1]
    by_cases c : (twoOf f (v.getD i 0) acc).2 = 0
    · rw [if_pos c, two_ok c]
      simp only [Res.on]
      rw [show w64 ((i : Int) - 1) = (i : Int) - 1 from w64_in (by omega)]
      exact l_iInner4 K x14 x18 x19 x116 x117 x120 x121 sa a sb b s' d' v hv hl hd i e _ (by omega) (two_in (getD_in hv i) ha (two_ok c))
    · rw [if_neg c, two_err c]
      simp only [Res.on]
      rw [h7 _ _ _ _ trivial]; rfl
theorem l_iInner3 (K : Nat → Nat → Int → Int → Int → Int → Int → Int → Int → List Int → List Int → List Int → List Int → List Int → List Int → Option (List Int × List Int × Int)) (n R C i j N M : Nat) (hN : N = n + 1 + M) (x116 x117 x120 x121 : Int) (sa a sb b s' d' : List Int)
    (hn1 : 1 ≤ n) (hn : n ≤ 1000) (hj : j < C) (hi : i < R) (ha : R * n ≤ a.length) (has : a.length ≤ 1000) (hb : n * C ≤ b.length) (hbs : b.length ≤ 1000) (ca : ∀ x ∈ a, cellIn x) (cb : ∀ x ∈ b, cellIn x) (hd : d'.length < 1000) :
    ∀ (r t v : List Int) (e : Nat), (nthRow a n i).drop v.length = r → (col b C n j).drop v.length = t → v.length + r.length = n → (∀ x ∈ v, cellIn x) →
    impl_Inner_b_l3 L1 L2 L3 L4 L5 L7 Ld N K (r.length + 1 + e) fn gn n C i j x116 x117 x120 x121 n v.length sa a sb b s' d' (v ++ List.replicate r.length 0) = match twos g r t with
      | .ok l => (match red1 f (v ++ l) (n - 1) ((v ++ l).getD (n - 1) 0) with
        | .ok z => K fn gn n C i x116 x117 x120 (w64 (x121 + 1)) sa a sb b s' (d' ++ [z])
        | .error c => some ([], [], c))
      | .error c => some ([], [], c)
  | [], t, v, e, hr, ht, hv, hin => by
    rw [show ([] : List Int).length + 1 + e = e + 1 by simp; omega]
    simp only [impl_Inner_b_l3]
    simp only [List.length_nil, Nat.add_zero] at hv
    have e1 : w64 ((n : Int) - 1) = ((n - 1 : Nat) : Int) := by rw [w64_in (by omega)]; omega
    have e2 : w64 ((n : Int) - 2) = ((n - 1 : Nat) : Int) - 1 := by rw [w64_in (by omega)]; omega
    have e3 : v ++ List.replicate ([] : List Int).length 0 = v := by simp
    rw [e3, if_neg (by omega), e1, e2, if_pos (by omega), Int.toNat_natCast, getD_of (show n - 1 < v.length by omega)]
    simp only [Option.bind_some, twos, List.append_nil]
    rw [hN, show n + 1 + M = (n - 1) + 1 + (1 + M) by omega]
    exact l_iInner4 L1 L2 L3 L4 L5 h5 L7 h7 Ld fn gn f g hDf hDg K n C i x116 x117 x120 x121 sa a sb b s' d' v hin (by omega) hd (n - 1) (1 + M) _ (by omega) (getD_in hin _)
  | x :: r, t, v, e, hr, ht, hv, hin => by
    obtain ⟨g1, g2, g3, g4, g5, g6⟩ := at_cons hr
    have hin' := Nat.mul_le_mul_right n (show i + 1 ≤ R from hi)
    have hin2 := hin'
    rw [Nat.add_mul, Nat.one_mul] at hin2
    have hrl : (nthRow a n i).length = n := nthRow_len (by omega)
    rw [hrl] at g1
    have hcl := col_len b C n j
    cases t with
    | nil =>
      have := congrArg List.length ht
      rw [List.length_drop, hcl] at this
      simp at this; omega
    | cons y t =>
      obtain ⟨k1, k2, k3, k4, k5, k6⟩ := at_cons ht
      have hxa : a[i * n + v.length]? = some x := by rw [← nthRow_get g1]; exact g4
      have hlt := at_lt g1 hj
      have hyb : b[v.length * C + j]? = some y := by
        rw [col_get g1] at k4
        rw [getD_of (by omega)]; exact k4
      have hx := ca x (List.mem_of_getElem? hxa)
      have hy := cb y (List.mem_of_getElem? hyb)
      have e0 : (i : Int) * n = ((i * n : Nat) : Int) := by simp
      have e0' : (v.length : Int) * C = ((v.length * C : Nat) : Int) := by simp
      have e1 : w64 (w64 ((i : Int) * n) + (v.length : Int)) = ((i * n + v.length : Nat) : Int) := by
        rw [w64_in (n := (i : Int) * n) (by omega), w64_in (by omega)]; omega
      have e1' : w64 (w64 ((v.length : Int) * C) + (j : Int)) = ((v.length * C + j : Nat) : Int) := by
        rw [w64_in (n := (v.length : Int) * C) (by omega), w64_in (by omega)]; omega
      have e2 : 0 ≤ (v.length : Int) ∧ (v.length : Int) < ((v ++ List.replicate (x :: r).length 0).length : Int) := by simp only [List.length_append, List.length_replicate, List.length_cons]; omega
      have e4 : ∀ z : Int, setN (v ++ List.replicate (x :: r).length 0) v.length z = some ((v ++ [z]) ++ List.replicate r.length 0) := by
        intro z
        rw [setN, if_pos (by simp)]
        simp [List.replicate_succ]
      rw [show (x :: r).length + 1 + e = (r.length + 1 + e) + 1 by simp; omega]
      simp only [impl_Inner_b_l3]
      rw [if_pos (by omega), e1, idx_nat, hxa]
      simp only [Option.bind_some]
      rw [e1', idx_nat, hyb]
      simp only [Option.bind_some]
      rw [hDg x y hx hy]
      simp only [Option.bind_some, resOf, twos]
      by_cases c : (twoOf g x y).2 = 0
      · rw [if_pos c, two_ok c]
        simp only [Res.on]
        rw [if_pos e2, Int.toNat_natCast, e4]
        simp only [Option.bind_some]
        rw [succ_w (n := n) g1 (by rw [big_eq]; omega)]
        have key := l_iInner3 K n R C i j N M hN x116 x117 x120 x121 sa a sb b s' d' hn1 hn hj hi ha has hb hbs ca cb hd r t (v ++ [(twoOf g x y).1]) e (by simpa using g5) (by simpa using k5) (by simp at hv ⊢; omega) (fun z hz => by
          rcases List.mem_append.1 hz with hz | hz
          · exact hin z hz
          · simp only [List.mem_singleton] at hz; subst hz; exact two_in hx hy (two_ok c))
        simp only [List.length_append, List.length_cons, List.length_nil, Nat.zero_add] at key
        rw [key]
        cases twos g r t <;> simp
      · rw [if_neg c, two_err c]
        simp only [Res.on]
        rw [h7 _ _ _ _ trivial]; rfl
theorem l_iInner2 (K : Nat → Nat → Int → Int → Int → Int → List Int → List Int → List Int → List Int → List Int → List Int → Option (List Int × List Int × Int)) (n R C i N M : Nat) (hN : N = n + 1 + M) (sa a sb b s' : List Int)
    (hn1 : 1 ≤ n) (hn : n ≤ 1000) (hi : i < R) (hC : C ≤ 1001) (ha : R * n ≤ a.length) (has : a.length ≤ 1000) (hb : n * C ≤ b.length) (hbs : b.length ≤ 1000) (ca : ∀ x ∈ a, cellIn x) (cb : ∀ x ∈ b, cellIn x) : ∀ (m j e : Nat) (d' : List Int), j + m = C → d'.length + m ≤ 1000 →
    impl_Inner_b_l2 L1 L2 L3 L4 L5 L7 Ld N K (m + 1 + e) fn gn n C i R i C j sa a sb b s' d' = match cellsJ (cellI f g a b n C i) m j with
      | .ok l => K fn gn n C R (w64 ((i : Int) + 1)) sa a sb b s' (d' ++ l)
      | .error c => some ([], [], c)
  | 0, j, e, d', hj, hd => by
    rw [show 0 + 1 + e = e + 1 by omega]
    simp only [impl_Inner_b_l2]
    rw [if_neg (by omega)]; simp [cellsJ]
  | m + 1, j, e, d', hj, hd => by
    rw [show m + 1 + 1 + e = (m + 1 + e) + 1 by omega]
    simp only [impl_Inner_b_l2]
    have hin' := Nat.mul_le_mul_right n (show i + 1 ≤ R from hi)
    have hrl : (nthRow a n i).length = n := nthRow_len (by omega)
    rw [if_pos (by omega), if_pos (by unfold mkOk roomB; omega), Int.toNat_natCast]
    have key := l_iInner3 L1 L2 L3 L4 L5 h5 L7 h7 Ld fn gn f g hDf hDg (impl_Inner_b_l2 L1 L2 L3 L4 L5 L7 Ld N K (m + 1 + e)) n R C i j N M hN R i C j sa a sb b s' d' hn1 hn (by omega) hi ha has hb hbs ca cb (by omega) (nthRow a n i) (col b C n j) [] M rfl rfl (by simpa using hrl) (by simp)
    rw [hrl, ← hN] at key
    simp only [List.length_nil, List.nil_append] at key
    refine key.trans ?_
    simp only [cellsJ, cellI]
    cases twos g (nthRow a n i) (col b C n j) with
    | error c => rfl
    | ok v =>
      simp only
      rw [if_neg (by omega)]
      cases red1 f v (n - 1) (v.getD (n - 1) 0) with
      | error c => rfl
      | ok z =>
        simp only
        have ih := l_iInner2 K n R C i N M hN sa a sb b s' hn1 hn hi hC ha has hb hbs ca cb m (j + 1) e (d' ++ [z]) (by omega) (by simp; omega)
        rw [succ_w (n := C) (by omega) (by rw [big_eq]; omega), ih]
        cases cellsJ (cellI f g a b n C i) m (j + 1) <;> simp
theorem l_iInner1 (n R C N M M' : Nat) (hN : N = n + 1 + M) (hN' : N = C + 1 + M') (sa a sb b s' : List Int)
    (hn1 : 1 ≤ n) (hn : n ≤ 1000) (hC : C ≤ 1001) (hR : R ≤ 1001) (ha : R * n ≤ a.length) (has : a.length ≤ 1000) (hb : n * C ≤ b.length) (hbs : b.length ≤ 1000) (ca : ∀ x ∈ a, cellIn x) (cb : ∀ x ∈ b, cellIn x) : ∀ (m i e : Nat) (d' : List Int), i + m = R → d'.length + m * C ≤ 1000 →
    impl_Inner_b_l1 L1 L2 L3 L4 L5 L7 Ld N (m + 1 + e) fn gn n C R i sa a sb b s' d' = some (tri (behindT s' d' (cellsI (cellI f g a b n C) C m i)))
  | 0, i, e, d', hi, hd => by
    rw [show 0 + 1 + e = e + 1 by omega]
    simp only [impl_Inner_b_l1]
    rw [if_neg (by omega)]; simp [cellsI, behindT, tri]
  | m + 1, i, e, d', hi, hd => by
    rw [Nat.add_mul, Nat.one_mul] at hd
    rw [show m + 1 + 1 + e = (m + 1 + e) + 1 by omega]
    simp only [impl_Inner_b_l1]
    rw [if_pos (by omega)]
    have key := l_iInner2 L1 L2 L3 L4 L5 h5 L7 h7 Ld fn gn f g hDf hDg (impl_Inner_b_l1 L1 L2 L3 L4 L5 L7 Ld N (m + 1 + e)) n R C i N M hN sa a sb b s' hn1 hn (by omega) hC ha has hb hbs ca cb C 0 M' d' (by omega) (by omega)
    rw [← hN'] at key
    refine key.trans ?_
    simp only [cellsI]
    cases hJ : cellsJ (cellI f g a b n C i) C 0 with
    | error c => rfl
    | ok l =>
      simp only
      have := cellsJ_len hJ
      rw [succ_w (n := R) (by omega) (by rw [big_eq]; omega), l_iInner1 n R C N M M' hN hN' sa a sb b s' hn1 hn hC hR ha has hb hbs ca cb m (i + 1) e (d' ++ l) (by omega) (by simp; omega)]
      cases cellsI (cellI f g a b n C) C m (i + 1) <;> simp [behindT]
theorem l_iInner0 (P : Nat) (hP : P ≤ 1000) (s' : List Int) : ∀ (m j e : Nat) (d' : List Int), j + m = P → d'.length + m ≤ 1000 →
    impl_Inner_b_l0 L1 L2 L3 L4 L5 L7 Ld (m + 1 + e) f P j s' d' = some (tri (behindT s' d' (match noneOf f with
      | some z => .ok (List.replicate m z)
      | none => if m = 0 then .ok [] else .error 1)))
  | 0, j, e, d', hj, hd => by
    rw [show 0 + 1 + e = e + 1 by omega]
    simp only [impl_Inner_b_l0]
    rw [if_neg (by omega)]
    cases noneOf f <;> simp [behindT, tri]
  | m + 1, j, e, d', hj, hd => by
    rw [show m + 1 + 1 + e = (m + 1 + e) + 1 by omega]
    simp only [impl_Inner_b_l0]
    rw [if_pos (by omega), h5 _ trivial]
    simp only [Option.bind_some, s_impl_nothingOf]
    cases hz : noneOf f with
    | none =>
      simp only [Res.on]
      rw [h7 _ _ _ _ trivial]; rfl
    | some z =>
      simp only [Res.on]
      have ih := l_iInner0 P hP s' m (j + 1) e (d' ++ [z]) (by omega) (by simp; omega)
      rw [hz] at ih
      rw [if_pos (room_small (by unfold small; simp; omega)), succ_w (n := P) (by omega) (by rw [big_eq]; omega), ih]
      simp [behindT, List.replicate_succ]
end

theorem prodI_append (a b : List Int) : prodI (a ++ b) = prodI a * prodI b := by
  induction a with
  | nil => simp [prodI]
  | cons x a ih => simp only [List.cons_append, prodI, ih, Int.mul_assoc]
theorem cutP {l : List Int} (hl : l.length ≤ 3) (ha : l.all axOk = true) : cutAt (prodI l) (l.foldl stepP 1) := by
  have e : l.foldl stepW 1 = prodI l := by
    rw [foldW l 1 1 (by omega) (by omega) ?_ ha, Int.one_mul]
    rw [Int.one_mul]
    have : l.length = 0 ∨ l.length = 1 ∨ l.length = 2 ∨ l.length = 3 := by omega
    rcases this with h | h | h | h <;> rw [h] <;> decide
  have hc := fold_fits l hl ha
  rw [e] at hc
  exact hc
theorem zc (y k : Nat) : ((0 * k : Nat) : Int) = ((0 : Nat) : Int) * (y : Int) := by simp
theorem cz (x k : Nat) : ((k * 0 : Nat) : Int) = (x : Int) * ((0 : Nat) : Int) := by simp
theorem inner_facts {init tb a b : List Int} {n : Nat} (ha : arrOk (init ++ [(n : Int)]) a = true) (hb : arrOk ((n : Int) :: tb) b = true) (hf : fits (init ++ tb) = true) :
    ∃ R C : Nat, init.foldl stepP 1 = R ∧ tb.foldl stepP 1 = C ∧ n ≤ 1000 ∧ R ≤ 1001 ∧ C ≤ 1001 ∧ R * n ≤ a.length ∧ n * C ≤ b.length ∧ ((R * C : Nat) : Int) = prodI (init ++ tb) ∧ R * C ≤ 1000 ∧ (1 ≤ n → a.length = R * n ∧ b.length = n * C) := by
  have la := arr_len ha
  have lb := arr_len hb
  obtain ⟨fa1, fa2, fa3⟩ := (fits_iff _).1 (arrOk_cells ha).2.1
  obtain ⟨fb1, fb2, fb3⟩ := (fits_iff _).1 (arrOk_cells hb).2.1
  obtain ⟨f1, f2, f3⟩ := (fits_iff _).1 hf
  rw [prodI_append] at f3 fa3 la
  rw [List.all_append, Bool.and_eq_true] at fa2 f2
  simp only [List.length_append, List.length_cons, List.length_nil] at fa1 fb1 f1
  have hn : n ≤ 1000 := by
    have := fa2.2
    simp [axOk] at this; omega
  have e1 : prodI [(n : Int)] = n := by simp [prodI]
  rw [e1] at fa3 la
  rw [prodI] at fb3 lb
  obtain ⟨x, hx⟩ := Int.eq_ofNat_of_zero_le (prodI_nonneg fa2.1)
  obtain ⟨y, hy⟩ := Int.eq_ofNat_of_zero_le (prodI_nonneg f2.2)
  have cx := cutP (l := init) (by omega) fa2.1
  have cy := cutP (l := tb) (by omega) f2.2
  rw [hx] at cx f3 fa3 la
  rw [hy] at cy f3 fb3 lb
  rw [prodI_append, hx, hy]
  have g1 : x * n ≤ 1000 := by
    have : ((x * n : Nat) : Int) ≤ 1000 := by rw [Int.natCast_mul]; exact fa3
    omega
  have g2 : n * y ≤ 1000 := by
    have : ((n * y : Nat) : Int) ≤ 1000 := by rw [Int.natCast_mul]; exact fb3
    omega
  have g3 : x * y ≤ 1000 := by
    have : ((x * y : Nat) : Int) ≤ 1000 := by rw [Int.natCast_mul]; exact f3
    omega
  have l1 : a.length = x * n := by
    have : (a.length : Int) = ((x * n : Nat) : Int) := by rw [Int.natCast_mul]; exact la
    omega
  have l2 : b.length = n * y := by
    have : (b.length : Int) = ((n * y : Nat) : Int) := by rw [Int.natCast_mul]; exact lb
    omega
  by_cases h1 : x ≤ 1000
  · by_cases h2 : y ≤ 1000
    · exact ⟨x, y, cx.1 (by omega), cy.1 (by omega), hn, by omega, by omega, by omega, by omega, by simp, g3, fun _ => ⟨l1, l2⟩⟩
    · have n0 : n = 0 := by
        rcases Nat.eq_zero_or_pos n with h | h
        · exact h
        · have := Nat.le_mul_of_pos_left y h; omega
      have x0 : x = 0 := by
        rcases Nat.eq_zero_or_pos x with h | h
        · exact h
        · have := Nat.le_mul_of_pos_left y h; omega
      subst n0 x0
      obtain ⟨k, hk⟩ : ∃ k : Nat, k = 1001 := ⟨_, rfl⟩
      have q := cy.2 (by omega)
      exact ⟨0, k, cx.1 (by omega), by omega, hn, by omega, by omega, by rw [Nat.zero_mul]; exact Nat.zero_le _, by rw [Nat.zero_mul]; exact Nat.zero_le _, zc y k, by rw [Nat.zero_mul]; omega, fun h => by omega⟩
  · have n0 : n = 0 := by
      rcases Nat.eq_zero_or_pos n with h | h
      · exact h
      · have := Nat.le_mul_of_pos_right x h; omega
    have y0 : y = 0 := by
      rcases Nat.eq_zero_or_pos y with h | h
      · exact h
      · have := Nat.le_mul_of_pos_right x h; omega
    subst n0 y0
    obtain ⟨k, hk⟩ : ∃ k : Nat, k = 1001 := ⟨_, rfl⟩
    have q := cx.2 (by omega)
    exact ⟨k, 0, by omega, cy.1 (by omega), hn, by omega, by omega, by rw [Nat.mul_zero]; exact Nat.zero_le _, by rw [Nat.mul_zero]; exact Nat.zero_le _, cz x k, by rw [Nat.mul_zero]; omega, fun h => by omega⟩
theorem last_of (init : List Int) (x : Int) (h : init.length ≤ 1000) : w64 (((init ++ [x]).length : Int) - 1) = (init.length : Int) ∧ idx (init ++ [x]) (init.length : Int) = some x ∧ cut (init ++ [x]) 0 (init.length : Int) = some init := by
  refine ⟨?_, ?_, ?_⟩
  · rw [List.length_append, w64_in (by simp; omega)]; simp
  · rw [idx_nat]; simp
  · unfold cut
    rw [if_pos (by simp; omega)]
    simp
/-- an inner product, where it may be -/
def inner (f g : Int) (sa a sb b : List Int) : Except Int (List Int × List Int) :=
  if fits (sa.dropLast ++ sb.tail) = true then behindT (sa.dropLast ++ sb.tail) [] (cellsI (cellI f g a b (sb.headD 0).toNat (sb.tail.foldl stepP 1).toNat) (sb.tail.foldl stepP 1).toNat (sa.dropLast.foldl stepP 1).toNat 0) else .error 6
def pre_spec_Inner (f g : Int) (s1 d1 s2 d2 : List Int) : Prop := small s1 ∧ small d1 ∧ small s2 ∧ small d2
def s_spec_Inner (f g : Int) (s1 d1 s2 d2 : List Int) : List Int × List Int × Int :=
  if ((1 ≤ f ∧ f ≤ 10) ∧ 1 ≤ g ∧ g ≤ 10) ∧ arrOk s1 d1 = true ∧ arrOk s2 d2 = true then (if s1.length = 0 ∨ s2.length = 0 then ([], [], 2) else if s1.getLastD 0 = s2.headD 0 then tri (inner f g s1 d1 s2 d2) else ([], [], 3)) else ([], [], 9)
theorem p_spec_Inner (L1 : Int → Option Bool) (h1 : ∀ op, pre_spec_l2OpOk op → L1 op = some (s_spec_l2OpOk op)) (L2 : List Int → List Int → Option Bool) (h2 : ∀ s d, pre_spec_ArrayOk s d → L2 s d = some (s_spec_ArrayOk s d))
    (L3 : List Int → Option (List Int)) (h3 : ∀ l, pre_spec_l2Copy l → L3 l = some (s_spec_l2Copy l)) (L4 : List Int → List Int → Option (Alt (List Int × List Int) (List Int × List Int))) (h4 : ∀ s d, pre_spec_l2Made s d → L4 s d = some (s_spec_l2Made s d))
    (L5 : List Int → Option Int) (h5 : ∀ l, pre_spec_l1Product l → L5 l = some (s_spec_l1Product l)) (L6 : List Int → Option (List Int × List Int)) (h6 : ∀ l, pre_spec_l2Vector l → L6 l = some (s_spec_l2Vector l))
    (L7 : Int → List Int → List Int → List Int → List Int → Option (List Int × List Int × Int)) (h7 : ∀ op s1 d1 s2 d2, pre_spec_l2Each op s1 d1 s2 d2 → L7 op s1 d1 s2 d2 = some (s_spec_l2Each op s1 d1 s2 d2))
    (L8 : Int → List Int → List Int → Option (List Int × List Int × Int)) (h8 : ∀ op s d, pre_spec_l2Reduce op s d → L8 op s d = some (s_spec_l2Reduce op s d))
    (f g : Int) (s1 d1 s2 d2 : List Int) (h : pre_spec_Inner f g s1 d1 s2 d2) : ∃ N, spec_Inner_f L1 L2 L3 L4 L5 L6 L7 L8 N f g s1 d1 s2 d2 = some (s_spec_Inner f g s1 d1 s2 d2) := by
  obtain ⟨g1, g2, g3, g4⟩ := h
  refine ⟨(s2.headD 0).toNat + 1 + ((s2.tail.foldl stepP 1).toNat + 1 + ((s1.dropLast.foldl stepP 1).toNat + 1)), ?_⟩
  unfold spec_Inner_f s_spec_Inner
  rw [h1 _ trivial, h1 _ trivial, h2 _ _ ⟨g1, g2⟩, h2 _ _ ⟨g3, g4⟩]
  simp only [Option.bind_some, s_spec_l2OpOk, s_spec_ArrayOk]
  by_cases c : 1 ≤ f ∧ f ≤ 10
  · by_cases c' : 1 ≤ g ∧ g ≤ 10
    · cases c1 : arrOk s1 d1 with
      | false => simp [c, c']
      | true =>
        cases c2 : arrOk s2 d2 with
        | false => simp [c, c']
        | true =>
          obtain ⟨a1, a2, a3, a4, a5⟩ := arrOk_small c1
          obtain ⟨b1, b2, b3, b4, b5⟩ := arrOk_small c2
          rw [if_neg (by simp [c]), if_neg (by simp [c']), if_neg (by simp), if_neg (by simp), if_pos (show ((1 ≤ f ∧ f ≤ 10) ∧ 1 ≤ g ∧ g ≤ 10) ∧ true = true ∧ true = true from ⟨⟨c, c'⟩, rfl, rfl⟩)]
          rcases List.eq_nil_or_concat s1 with rfl | ⟨init, na, he⟩
          · rw [if_pos (show (([] : List Int).length : Int) = 0 from rfl), if_pos (show ([] : List Int).length = 0 ∨ s2.length = 0 from Or.inl rfl)]
          · rw [List.concat_eq_append] at he
            subst he
            have i1 : ¬ (((init ++ [na]).length : Nat) : Int) = 0 := by
              rw [List.length_append]; simp only [List.length_cons, List.length_nil]; omega
            rw [if_neg i1]
            cases s2 with
            | nil => rw [if_pos (show (([] : List Int).length : Int) = 0 from rfl), if_pos (show (init ++ [na]).length = 0 ∨ ([] : List Int).length = 0 from Or.inr rfl)]
            | cons nb tb =>
              obtain ⟨e1, e2, e3⟩ := last_of init na (by simp at a3; omega)
              have nb0 := (fits_cons (arrOk_cells c2).2.1).1
              obtain ⟨n, rfl⟩ := Int.eq_ofNat_of_zero_le nb0
              rw [if_neg (by simp only [List.length_cons]; omega), if_neg (by simp), e1, e2, show idx ((n : Int) :: tb) 0 = some (n : Int) from rfl]
              simp only [Option.bind_some]
              have hlast : (init ++ [na]).getLastD 0 = na := by simp
              rw [hlast, show ((n : Int) :: tb).headD 0 = (n : Int) from rfl]
              by_cases c3 : na = (n : Int)
              · subst c3
                have hs : small (init ++ tb) := by simp only [List.length_append, List.length_cons, List.length_nil] at a3 b3; unfold small; simp; omega
                have hsi : small init := by unfold small at hs ⊢; rw [List.length_append] at hs; omega
                have hst : small tb := by unfold small at hs ⊢; rw [List.length_append] at hs; omega
                rw [if_pos rfl, if_pos rfl, cut_tail, e3]
                simp only [Option.bind_some]
                rw [h3 _ hsi]
                simp only [Option.bind_some, s_spec_l2Copy]
                rw [if_pos (room_small hs), h4 _ _ hs]
                simp only [Option.bind_some, s_spec_l2Made]
                have hdl : (init ++ [(n : Int)]).dropLast = init := by simp
                unfold inner
                simp only [hdl, List.tail_cons, List.headD_cons, Int.toNat_natCast]
                by_cases cf : fits (init ++ tb) = true
                · obtain ⟨R, C, r1, r2, r3, r4, r5, r6, r7, r8, r9, r10⟩ := inner_facts c1 c2 cf
                  rw [if_pos cf, if_pos cf]
                  simp only [Alt.on]
                  rw [h5 _ hsi, h5 _ hst]
                  simp only [Option.bind_some, s_spec_l1Product, r1, r2, Int.toNat_natCast]
                  have key := l_sInner0 L1 L2 L3 L4 L5 L6 h6 L7 h7 L8 h8 f g n R C (n + 1 + (C + 1 + (R + 1))) (C + 1 + (R + 1)) (n + 1 + (R + 1)) rfl (by omega) (init ++ [(n : Int)]) d1 ((n : Int) :: tb) d2 (init ++ tb) r3 r5 r4 r6 a4 r7 b4 (arrOk_cells c1).1 (arrOk_cells c2).1 R 0 (n + 1 + (C + 1)) [] (by omega) (by simpa using r9)
                  rw [show R + 1 + (n + 1 + (C + 1)) = n + 1 + (C + 1 + (R + 1)) by omega] at key
                  exact key
                · rw [if_neg cf, if_neg cf]; rfl
              · rw [if_neg c3, if_neg c3]
    · simp [c, c']
  · simp [c]

theorem cellsJ_some {h : Nat → Except Int Int} {z : Int} (e : ∀ j, h j = .ok z) : ∀ m j, cellsJ h m j = .ok (List.replicate m z)
  | 0, j => rfl
  | m + 1, j => by simp only [cellsJ, e, cellsJ_some e m (j + 1), List.replicate_succ]
theorem cellsJ_none {h : Nat → Except Int Int} {c : Int} (e : ∀ j, h j = .error c) (m j : Nat) : cellsJ h m j = if m = 0 then .ok [] else .error c := by
  cases m with
  | zero => rfl
  | succ m => simp [cellsJ, e]
theorem cellsI_some {h : Nat → Nat → Except Int Int} {C : Nat} {z : Int} (e : ∀ i j, h i j = .ok z) : ∀ m i, cellsI h C m i = .ok (List.replicate (m * C) z)
  | 0, i => by simp [cellsI]
  | m + 1, i => by
    simp only [cellsI, cellsJ_some (e i), cellsI_some e m (i + 1)]
    rw [Nat.add_mul, Nat.one_mul, Nat.add_comm, List.replicate_append_replicate]
theorem cellsI_none {h : Nat → Nat → Except Int Int} {C : Nat} {c : Int} (e : ∀ i j, h i j = .error c) : ∀ m i, cellsI h C m i = if m * C = 0 then .ok [] else .error c
  | 0, i => by simp [cellsI]
  | m + 1, i => by
    simp only [cellsI, cellsJ_none (e i), cellsI_none e m (i + 1)]
    by_cases hC : C = 0
    · subst hC; simp
    · have : ¬ (m + 1) * C = 0 := by
        rw [Nat.add_mul, Nat.one_mul]; omega
      rw [if_neg hC, if_neg this]
theorem cellI_zero (f g : Int) (a b : List Int) (C i j : Nat) : cellI f g a b 0 C i j = match noneOf f with
    | some z => .ok z
    | none => .error 1 := by
  unfold cellI nthRow
  simp [twos]
theorem cellsI_zero (f g : Int) (a b : List Int) (C R : Nat) : cellsI (cellI f g a b 0 C) C R 0 = match noneOf f with
    | some z => .ok (List.replicate (R * C) z)
    | none => if R * C = 0 then .ok [] else .error 1 := by
  cases hz : noneOf f with
  | some z => exact cellsI_some (fun i j => by rw [cellI_zero, hz]) R 0
  | none => exact cellsI_none (fun i j => by rw [cellI_zero, hz]) R 0
def pre_impl_Inner (f g : Int) (s1 d1 s2 d2 : List Int) : Prop := pre_spec_Inner f g s1 d1 s2 d2
def s_impl_Inner (f g : Int) (s1 d1 s2 d2 : List Int) : List Int × List Int × Int := s_spec_Inner f g s1 d1 s2 d2
theorem p_impl_Inner (L1 : Int → Option (Alt Unit Nat)) (h1 : ∀ op, pre_impl_opOf op → L1 op = some (s_impl_opOf op)) (L2 : List Int → List Int → Option Bool) (h2 : ∀ s d, pre_impl_ArrayOk s d → L2 s d = some (s_impl_ArrayOk s d))
    (L3 : List (List Int) → Option (Res (List Int))) (h3 : ∀ l, pre_slices_Concat___int_int_ l → L3 l = some (s_slices_Concat___int_int_ l)) (L4 : List Int → Option (Res (List Int × Option Nat × List Int))) (h4 : ∀ l, pre_impl_made l → L4 l = some (s_impl_made l))
    (L5 : Int → Option (Res Int)) (h5 : ∀ op, pre_impl_nothingOf op → L5 op = some (s_impl_nothingOf op))
    (L7 : D → Int → List Int → List Int → Option Int) (h7 : ∀ x a s d, pre_impl_caught x a s d → L7 (thrown x) a s d = some (s_impl_caught x a s d))
    (Ld : Nat → Int → Int → Option (Res Int)) (hd : ∀ f x y, dyn_pre f x y → Ld f x y = some (dyn_s f x y))
    (f g : Int) (s1 d1 s2 d2 : List Int) (h : pre_impl_Inner f g s1 d1 s2 d2) : ∃ N, impl_Inner_f L1 L2 L3 L4 L5 L7 Ld N f g s1 d1 s2 d2 = some (s_impl_Inner f g s1 d1 s2 d2) := by
  obtain ⟨g1, g2, g3, g4⟩ := h
  refine ⟨(s2.headD 0).toNat + 1 + ((s2.tail.foldl stepP 1).toNat + 1 + ((s1.dropLast.foldl stepP 1).toNat + 1 + ((prodI (s1.dropLast ++ s2.tail)).toNat + 1))), ?_⟩
  unfold impl_Inner_f s_impl_Inner s_spec_Inner
  rw [h1 _ trivial]
  simp only [Option.bind_some]
  rcases opOf_spec f with ⟨e1, e2, e3, e4⟩ | ⟨e1, e2⟩
  · rw [e2]
    simp only [Alt.on]
    rw [h1 _ trivial]
    simp only [Option.bind_some]
    rcases opOf_spec g with ⟨k1, k2, k3, k4⟩ | ⟨k1, k2⟩
    · have hDf : ∀ x y, cellIn x → cellIn y → Ld (opNo f) x y = some (resOf (twoOf f x y)) := fun x y hx hy => by rw [hd _ _ _ (dyn_op ⟨e3, e4⟩ hx hy).1, (dyn_op ⟨e3, e4⟩ hx hy).2]
      have hDg : ∀ x y, cellIn x → cellIn y → Ld (opNo g) x y = some (resOf (twoOf g x y)) := fun x y hx hy => by rw [hd _ _ _ (dyn_op ⟨k3, k4⟩ hx hy).1, (dyn_op ⟨k3, k4⟩ hx hy).2]
      rw [k2]
      simp only
      rw [h2 _ _ ⟨g1, g2⟩, h2 _ _ ⟨g3, g4⟩]
      simp only [Option.bind_some, s_impl_ArrayOk]
      cases c1 : arrOk s1 d1 with
      | false => simp
      | true =>
        cases c2 : arrOk s2 d2 with
        | false => simp
        | true =>
          obtain ⟨a1, a2, a3, a4, a5⟩ := arrOk_small c1
          obtain ⟨b1, b2, b3, b4, b5⟩ := arrOk_small c2
          rw [if_neg (by simp), if_neg (by simp), if_pos (show ((1 ≤ f ∧ f ≤ 10) ∧ 1 ≤ g ∧ g ≤ 10) ∧ true = true ∧ true = true from ⟨⟨⟨e3, e4⟩, k3, k4⟩, rfl, rfl⟩)]
          rcases List.eq_nil_or_concat s1 with rfl | ⟨init, na, he⟩
          · rw [if_pos (show (([] : List Int).length : Int) = 0 from rfl), if_pos (show ([] : List Int).length = 0 ∨ s2.length = 0 from Or.inl rfl)]
          · rw [List.concat_eq_append] at he
            subst he
            have i1 : ¬ (((init ++ [na]).length : Nat) : Int) = 0 := by
              rw [List.length_append]; simp only [List.length_cons, List.length_nil]; omega
            rw [if_neg i1]
            cases s2 with
            | nil => rw [if_pos (show (([] : List Int).length : Int) = 0 from rfl), if_pos (show (init ++ [na]).length = 0 ∨ ([] : List Int).length = 0 from Or.inr rfl)]
            | cons nb tb =>
              obtain ⟨l1, l2, l3⟩ := last_of init na (by simp at a3; omega)
              have nb0 := (fits_cons (arrOk_cells c2).2.1).1
              obtain ⟨n, rfl⟩ := Int.eq_ofNat_of_zero_le nb0
              rw [if_neg (by simp only [List.length_cons]; omega), if_neg (by simp), l1, l2, show idx ((n : Int) :: tb) 0 = some (n : Int) from rfl]
              simp only [Option.bind_some]
              have hlast : (init ++ [na]).getLastD 0 = na := by simp
              rw [hlast, show ((n : Int) :: tb).headD 0 = (n : Int) from rfl]
              by_cases c3 : na = (n : Int)
              · subst c3
                simp only [List.length_append, List.length_cons, List.length_nil] at a3 b3
                have hs : small (init ++ tb) := by unfold small; simp; omega
                rw [if_pos rfl, if_pos rfl]
                unfold impl_Inner_b_f
                rw [cut_tail, l3]
                simp only [Option.bind_some]
                rw [h3 _ ⟨init, tb, rfl, by omega, by omega⟩]
                simp only [Option.bind_some, s_slices_Concat___int_int_, Res.on, List.flatten_cons, List.flatten_nil, List.append_nil]
                rw [h4 _ hs]
                simp only [Option.bind_some]
                have hdl : (init ++ [(n : Int)]).dropLast = init := by simp
                unfold inner
                simp only [hdl, List.tail_cons, List.headD_cons, Int.toNat_natCast]
                by_cases cf : fits (init ++ tb) = true
                · obtain ⟨R, C, r1, r2, r3, r4, r5, r6, r7, r8, r9, r10⟩ := inner_facts c1 c2 cf
                  rw [made_cap cf, if_pos cf]
                  simp only [Option.bind_some, r1, r2, Int.toNat_natCast]
                  have hP : (prodI (init ++ tb)).toNat = R * C := by rw [← r8]; exact Int.toNat_natCast _
                  rw [hP]
                  by_cases cn : n = 0
                  · subst cn
                    rw [if_pos (show ((0 : Nat) : Int) = 0 from rfl), cellsI_zero]
                    have key := l_iInner0 L1 L2 L3 L4 L5 h5 L7 h7 Ld (opNo f) (opNo g) f g hDf hDg (R * C) r9 (init ++ tb) (R * C) 0 (0 + 1 + (C + 1 + (R + 1))) [] (by omega) (by simpa using r9)
                    rw [show R * C + 1 + (0 + 1 + (C + 1 + (R + 1))) = 0 + 1 + (C + 1 + (R + 1 + (R * C + 1))) by omega] at key
                    exact key
                  · have cn' : ¬ (n : Int) = 0 := by omega
                    obtain ⟨m1, m2⟩ := r10 (by omega)
                    have q1 : w64 (Int.tdiv (d2.length : Int) n) = (C : Int) := by
                      rw [m2, Int.natCast_mul, Int.mul_tdiv_cancel_left _ cn', w64_in (by omega)]
                    have q2 : w64 (Int.tdiv (d1.length : Int) n) = (R : Int) := by
                      rw [m1, Int.natCast_mul, Int.mul_tdiv_cancel _ cn', w64_in (by omega)]
                    rw [if_neg cn', if_neg cn', if_neg cn', q1, q2]
                    have key := l_iInner1 L1 L2 L3 L4 L5 h5 L7 h7 Ld (opNo f) (opNo g) f g hDf hDg n R C (n + 1 + (C + 1 + (R + 1 + (R * C + 1)))) (C + 1 + (R + 1 + (R * C + 1))) (n + 1 + (R + 1 + (R * C + 1))) rfl (by omega) (init ++ [(n : Int)]) d1 ((n : Int) :: tb) d2 (init ++ tb) (by omega) r3 r5 r4 r6 a4 r7 b4 (arrOk_cells c1).1 (arrOk_cells c2).1 R 0 (n + 1 + (C + 1 + (R * C + 1))) [] (by omega) (by simpa using r9)
                    rw [show R + 1 + (n + 1 + (C + 1 + (R * C + 1))) = n + 1 + (C + 1 + (R + 1 + (R * C + 1))) by omega] at key
                    exact key
                · rw [made_no cf, if_neg cf]
                  simp only
                  rw [h7 _ _ _ _ trivial]; rfl
              · rw [if_neg c3, if_neg c3]
    · rw [k2]
      simp only [s_spec_l2OpOk, decide_eq_false_iff_not] at k1
      rw [if_neg (fun q => k1 q.1.2)]
  · rw [e2]
    simp only [Alt.on]
    rw [h1 _ trivial]
    simp only [s_spec_l2OpOk, decide_eq_false_iff_not] at e1
    rw [if_neg (fun q => e1 q.1.1)]
    simp only [Option.bind_some]
    cases s_impl_opOf g <;> rfl
theorem small_Inner {f g : Int} {s1 d1 s2 d2 : List Int} (h : pre_spec_Inner f g s1 d1 s2 d2) : small (s_spec_Inner f g s1 d1 s2 d2).1 ∧ small (s_spec_Inner f g s1 d1 s2 d2).2.1 := by
  have z : small ([] : List Int) ∧ small ([] : List Int) := ⟨Nat.zero_le _, Nat.zero_le _⟩
  unfold s_spec_Inner
  split
  · rename_i c
    obtain ⟨a1, a2, a3, a4, a5⟩ := arrOk_small c.2.1
    obtain ⟨b1, b2, b3, b4, b5⟩ := arrOk_small c.2.2
    split
    · exact z
    · split
      · unfold inner
        split
        · rename_i hn he cf
          cases ho : cellsI (cellI f g d1 d2 (s2.headD 0).toNat (s2.tail.foldl stepP 1).toNat) (s2.tail.foldl stepP 1).toNat (s1.dropLast.foldl stepP 1).toNat 0 with
          | error c => exact z
          | ok l =>
            simp only [behindT, tri, List.nil_append]
            refine ⟨by unfold small; simp; omega, ?_⟩
            have hl := cellsI_len ho
            rcases List.eq_nil_or_concat s1 with rfl | ⟨init, na, he'⟩
            · exact absurd (Or.inl rfl) hn
            · rw [List.concat_eq_append] at he'
              subst he'
              cases s2 with
              | nil => exact absurd (Or.inr rfl) hn
              | cons nb tb =>
                have nb0 := (fits_cons (arrOk_cells c.2.2).2.1).1
                obtain ⟨n, rfl⟩ := Int.eq_ofNat_of_zero_le nb0
                have hlast : (init ++ [na]).getLastD 0 = na := by simp
                rw [hlast, show ((n : Int) :: tb).headD 0 = (n : Int) from rfl] at he
                subst he
                have hdl : (init ++ [(n : Int)]).dropLast = init := by simp
                rw [hdl, List.tail_cons] at cf
                obtain ⟨R, C, r1, r2, r3, r4, r5, r6, r7, r8, r9, r10⟩ := inner_facts c.2.1 c.2.2 cf
                rw [hdl, List.tail_cons, r1, r2, Int.toNat_natCast, Int.toNat_natCast] at hl
                unfold small; omega
        · exact z
      · exact z
  · exact z
-- the law
def pre_laws_FnExactInner (f g : Int) (s d s' d' : List Int) : Prop := (s.length ≤ big ∧ d.length ≤ big) ∧ s'.length ≤ big ∧ d'.length ≤ big
def s_laws_FnExactInner (f g : Int) (s d s' d' : List Int) : Bool := true
theorem p_laws_FnExactInner (L0 : List Int → List Int → Int → Option Int) (h0 : ∀ s d n, pre_laws_szArray s d n → L0 s d n = some (s_laws_szArray s d n))
    (L1 : List Int → List Int → Option (List Int × List Int)) (h1 : ∀ s d, pre_laws_toArray s d → L1 s d = some (s_laws_toArray s d))
    (L2 : Int → Int → List Int → List Int → List Int → List Int → Option (List Int × List Int × Int)) (h2 : ∀ f g s d s' d', pre_spec_Inner f g s d s' d' → L2 f g s d s' d' = some (s_spec_Inner f g s d s' d'))
    (L3 : Int → Int → List Int → List Int → List Int → List Int → Option (List Int × List Int × Int)) (h3 : ∀ f g s d s' d', pre_impl_Inner f g s d s' d' → L3 f g s d s' d' = some (s_impl_Inner f g s d s' d'))
    (L4 : List Int → List Int → List Int → List Int → Option Bool) (h4 : ∀ s d s' d', pre_laws_eqArray s d s' d' → L4 s d s' d' = some (s_laws_eqArray s d s' d'))
    (L5 : List Int → List Int → Int → Option (Int × List Int × List Int)) (h5 : ∀ s d k, pre_laws_markArray s d k → L5 s d k = some (s_laws_markArray s d k))
    (L6 : List Int → List Int → Int → Option Int) (h6 : ∀ s d k, pre_laws_heldArray s d k → L6 s d k = some (s_laws_heldArray s d k))
    (f g : Int) (s d s' d' : List Int) (h : pre_laws_FnExactInner f g s d s' d') : ∃ N, laws_FnExactInner_f L0 L1 L2 L3 L4 L5 L6 N f g s d s' d' = some (s_laws_FnExactInner f g s d s' d') := by
  refine ⟨0, ?_⟩
  unfold laws_FnExactInner_f s_laws_FnExactInner
  rw [h0 _ _ _ ⟨h.1.1, h.1.2, by omega, by omega⟩]
  simp only [Option.bind_some]
  by_cases c : s_laws_szArray s d 1048576 < 0
  · rw [if_pos c]
  rw [if_neg c]
  obtain ⟨q1, q2, q3, q4⟩ := sz_left (by omega) c
  rw [h0 _ _ _ ⟨h.2.1, h.2.2, q3, q4⟩]
  simp only [Option.bind_some]
  by_cases c' : s_laws_szArray s' d' (s_laws_szArray s d 1048576) < 0
  · rw [if_pos c']
  · rw [if_neg c']
    obtain ⟨r1, r2, r3, r4⟩ := sz_left ⟨q3, q4⟩ c'
    have q1' : s.length ≤ 1048576 := q1
    have q2' : d.length ≤ 1048576 := q2
    have hs : small s ∧ small d := ⟨q1, q2⟩
    have hs' : small s' ∧ small d' := ⟨r1, r2⟩
    have hss : pre_spec_Inner f g s d s' d' := ⟨q1, q2, r1, r2⟩
    have hg := small_Inner hss
    have hm1 := h5 s d 1 ⟨q1, q2, by omega, by omega⟩
    have hk0 : 0 ≤ (s_laws_markArray s d 1).1 ∧ (s_laws_markArray s d 1).1 ≤ 4194304 := by
      unfold s_laws_markArray
      simp only
      omega
    have hm2 := h5 s' d' (s_laws_markArray s d 1).1 ⟨r1, r2, hk0.1, hk0.2⟩
    have hm3 := h5 _ _ 1 ⟨hg.1, hg.2, by omega, by omega⟩
    have hm : small (s_laws_markArray (s_spec_Inner f g s d s' d').1 (s_spec_Inner f g s d s' d').2.1 1).2.1 ∧ small (s_laws_markArray (s_spec_Inner f g s d s' d').1 (s_spec_Inner f g s d s' d').2.1 1).2.2 := by
      unfold s_laws_markArray small
      simp only [upFrom_len]
      exact hg
    have hh := h6 _ _ 1 ⟨hm.1, hm.2, by omega, by omega⟩
    simp only [h1 _ _ hs, h1 _ _ hs', Option.bind_some, s_laws_toArray, h2 _ _ _ _ _ _ hss, h3 _ _ _ _ _ _ hss, s_impl_Inner, h4 _ _ _ _ hg, h4 _ _ _ _ hs, h4 _ _ _ _ hs', eqA_refl, hm1, hm2, hm3, hh, held_marks]
    have hk : ∀ (s d : List Int) (k : Int), 0 ≤ k → ¬ (s_laws_markArray s d k).1 < 0 := by intro s d k hk; unfold s_laws_markArray; simp only; omega
    simp [hk, hk0.1]
theorem pre_of_laws_FnExactInner {f g : Int} {s d s' d' : List Int} (ho : (Lit.int .i64 f).wf = true) (ho2 : (Lit.int .i64 g).wf = true) (hs : s.length ≤ maxLen ∧ ∀ x ∈ s, (Lit.int .i64 x).wf = true) (hd : d.length ≤ maxLen ∧ ∀ x ∈ d, (Lit.int .i64 x).wf = true)
    (hs' : s'.length ≤ maxLen ∧ ∀ x ∈ s', (Lit.int .i64 x).wf = true) (hd' : d'.length ≤ maxLen ∧ ∀ x ∈ d', (Lit.int .i64 x).wf = true) : pre_laws_FnExactInner f g s d s' d' := ⟨⟨hs.1, hd.1⟩, hs'.1, hd'.1⟩
end Go.Vm
