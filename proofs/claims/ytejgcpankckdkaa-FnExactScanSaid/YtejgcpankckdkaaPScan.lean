/- Scan: what the functions of FnExactScan answer. -/
import Derived.Test.YtejgcpankckdkaaPMid
import Derived.Test.YtejgcpankckdkaaFScan
set_option linter.unusedVariables false
set_option linter.unusedSimpArgs false
namespace Go.Vm
/-- the folds of the first rows, from k rows on, so many of them -/
def scans (op : Int) (s d : List Int) : Nat → Int → Except Int (List (List Int))
  | 0, k => .ok []
  | m + 1, k => match foldN op s d k with
    | .ok p => match scans op s d m (k + 1) with
      | .ok l => .ok (p.2 :: l)
      | .error c => .error c
    | .error c => .error c
-- the first rows
theorem nthRow_take {d : List Int} {w i k : Nat} (h : i < k) : nthRow (d.take (k * w)) w i = nthRow d w i := by
  unfold nthRow
  rw [List.drop_take, List.take_take]
  congr 1
  have : i * w + w ≤ k * w := by
    have := Nat.mul_le_mul_right w (show i + 1 ≤ k by omega)
    rw [Nat.add_mul, Nat.one_mul] at this; exact this
  omega
theorem redu_take {op : Int} {d : List Int} {w k : Nat} : ∀ {i : Nat} {acc : List Int}, i ≤ k → redu op (d.take (k * w)) w i acc = redu op d w i acc
  | 0, acc, h => rfl
  | i + 1, acc, h => by
    simp only [redu]
    rw [nthRow_take (by omega)]
    cases twos op (nthRow d w i) acc with
    | error c => rfl
    | ok l => exact redu_take (by omega)
/-- the array of the first k rows -/
def pre_spec_l2First (s d : List Int) (k : Int) : Prop := arrOk s d = true ∧ ∃ n t, s = n :: t ∧ 1 ≤ k ∧ k ≤ n
def s_spec_l2First (s d : List Int) (k : Int) : List Int × List Int := (k :: s.tail, d.take (k * prodI s.tail).toNat)
theorem first_ok {op n k : Int} {t d : List Int} (h : arrOk (n :: t) d = true) (hk : 1 ≤ k ∧ k ≤ n) : arrOk (k :: t) (d.take (k * prodI t).toNat) = true ∧ foldN op (k :: t) (d.take (k * prodI t).toNat) k = foldN op (n :: t) d k ∧ 0 ≤ k * prodI t ∧ k * prodI t ≤ d.length := by
  have hf := (arrOk_cells h).2.1
  obtain ⟨n0, n1, p0, p1, t2⟩ := fits_cons hf
  have hlen := arr_len h
  have hkp : 0 ≤ k * prodI t := Int.mul_nonneg (by omega) p0
  have hkn : k * prodI t ≤ n * prodI t := Int.mul_le_mul_of_nonneg_right hk.2 p0
  rw [prodI] at hlen
  refine ⟨mk_arr (fits_le hf ⟨by omega, hk.2⟩) (by rw [prodI, List.length_take]; omega) (fun x hx => (arrOk_cells h).1 x (List.mem_of_mem_take hx)), ?_, hkp, by omega⟩
  rw [foldN_pos (by omega), foldN_pos (by omega)]
  obtain ⟨w, hw⟩ := Int.eq_ofNat_of_zero_le p0
  obtain ⟨j, hj⟩ := Int.eq_ofNat_of_zero_le (show 0 ≤ k by omega)
  have e : (k * prodI t).toNat = j * w := by rw [hw, hj]; exact Int.toNat_natCast (j * w) ▸ (by simp)
  have ew : (prodI t).toNat = w := by rw [hw]; rfl
  rw [e, ew, nthRow_take (by omega), redu_take (by omega)]
theorem p_spec_l2First (L1 : List Int → Option Int) (h1 : ∀ l, pre_spec_l1Product l → L1 l = some (s_spec_l1Product l)) (L2 : List Int → Option (List Int)) (h2 : ∀ l, pre_spec_l2Copy l → L2 l = some (s_spec_l2Copy l))
    (s d : List Int) (k : Int) (h : pre_spec_l2First s d k) : ∃ N, spec_l2First_f L1 L2 N s d k = some (s_spec_l2First s d k) := by
  obtain ⟨ha, n, t, rfl, hk⟩ := h
  obtain ⟨a1, a2, a3, a4, a5⟩ := arrOk_small ha
  have hf := (arrOk_cells ha).2.1
  have hfk := fits_le hf ⟨by omega, hk.2⟩
  obtain ⟨f1, f2, f3, f4⟩ := first_ok (op := 0) ha hk
  simp only [List.length_cons] at a3
  refine ⟨0, ?_⟩
  unfold spec_l2First_f s_spec_l2First
  rw [cut_tail]
  simp only [Option.bind_some, List.tail_cons]
  rw [if_pos (show room 8 (t.length + 1) from room_small (l := k :: t) (by unfold small; simp; omega)), h1 _ (by show small _; unfold small; simp; omega)]
  simp only [Option.bind_some, s_spec_l1Product, fits_prod hfk]
  rw [show prodI (k :: t) = k * prodI t from rfl]
  have hc : cut d 0 (k * prodI t) = some (d.take (k * prodI t).toNat) := by
    unfold cut
    rw [if_pos (by omega)]; simp
  rw [hc]
  simp only [Option.bind_some]
  rw [h2 _ (by show small _; unfold small; simp; omega)]; rfl
-- the pile
theorem l_stack (L : List Int → List Int → Option (Alt (List Int × List Int) (List Int × List Int))) (t : List Int) (l : List TArray) (hl : l.length ≤ 1000) (hc : ∀ x ∈ l, x.Data.length ≤ 1000) : ∀ (r : List TArray) (j e : Nat) (acc : List Int), l.drop j = r → j ≤ l.length → acc.length ≤ j * 1000 →
    spec_l2Stack_l0 L (r.length + 1 + e) t l j acc = spec_l2Stack_l0 L (1 + e) t l l.length (acc ++ (r.map (·.Data)).flatten)
  | [], j, e, acc, hd, hj, ha => by
    have h := at_nil hd
    obtain rfl : j = l.length := by omega
    rw [show ([] : List TArray).length + 1 + e = 1 + e by simp]
    simp
  | x :: r, j, e, acc, hd, hj, ha => by
    obtain ⟨g1, g2, g3, g4, g5, g6⟩ := at_cons hd
    have hx := hc x (List.mem_of_getElem? g4)
    rw [show (x :: r).length + 1 + e = (r.length + 1 + e) + 1 by simp; omega]
    conv => lhs; simp only [spec_l2Stack_l0]
    rw [if_pos g2, g3]
    simp only [Option.bind_some]
    rw [if_pos (room_small (by unfold small; simp; omega)), succ_w g1 (by rw [big_eq]; omega), l_stack L t l hl hc r (j + 1) e _ g5 (by omega) (by simp; omega)]
    simp
def pre_spec_l2Stack (t : List Int) (l : List TArray) : Prop := t.length ≤ 2 ∧ l.length ≤ 1000 ∧ ∀ x ∈ l, x.Data.length ≤ 1000
def s_spec_l2Stack (t : List Int) (l : List TArray) : List Int × List Int × Int := if fits ((l.length : Int) :: t) = true then ((l.length : Int) :: t, (l.map (·.Data)).flatten, 0) else ([], [], 6)
theorem p_spec_l2Stack (L : List Int → List Int → Option (Alt (List Int × List Int) (List Int × List Int))) (hL : ∀ s d, pre_spec_l2Made s d → L s d = some (s_spec_l2Made s d)) (t : List Int) (l : List TArray) (h : pre_spec_l2Stack t l) :
    ∃ N, spec_l2Stack_f L N t l = some (s_spec_l2Stack t l) := by
  obtain ⟨h1, h2, h3⟩ := h
  refine ⟨l.length + 1, ?_⟩
  unfold spec_l2Stack_f s_spec_l2Stack
  have key := l_stack L t l h2 h3 l 0 0 [] rfl (by omega) (by simp)
  refine key.trans ?_
  rw [show 1 + 0 = 0 + 1 by omega]
  simp only [spec_l2Stack_l0]
  have hs : small ((l.length : Int) :: t) := by unfold small; simp; omega
  rw [if_neg (by omega), if_pos (show room 8 (t.length + 1) from room_small hs), hL _ _ hs]
  simp only [Option.bind_some, s_spec_l2Made, List.nil_append]
  split <;> rfl

def ends3 (s : List Int) (acc : List Int) : Except Int (List (List Int)) → List Int × List Int × Int
  | .ok l => (s, acc ++ l.flatten, 0)
  | .error c => ([], [], c)
theorem scans_len {op n : Int} {t d : List Int} (h : arrOk (n :: t) d = true) : ∀ {m : Nat} {k : Int} {l : List (List Int)}, 1 ≤ k → k + m ≤ n + 1 → scans op (n :: t) d m k = .ok l → l.length = m ∧ l.flatten.length = m * (prodI t).toNat
  | 0, k, l, hk, hm, hs => by simp only [scans, Except.ok.injEq] at hs; subst hs; simp
  | m + 1, k, l, hk, hm, hs => by
    simp only [scans] at hs
    cases h1 : foldN op (n :: t) d k with
    | error c => rw [h1] at hs; cases hs
    | ok p =>
      rw [h1] at hs
      cases h2 : scans op (n :: t) d m (k + 1) with
      | error c => rw [h2] at hs; cases hs
      | ok l' =>
        rw [h2] at hs
        simp only [Except.ok.injEq] at hs
        subst hs
        obtain ⟨e1, e2, e3⟩ := foldN_len h (.inr ⟨n, t, rfl, by omega, by omega⟩) h1
        obtain ⟨f1, f2⟩ := scans_len h (by omega) (by omega) h2
        have e2' := e2.resolve_left (by simp)
        simp only [List.tail_cons] at e2'
        refine ⟨by simp [f1], ?_⟩
        rw [List.flatten_cons, List.length_append, f2, e2', Nat.add_mul, Nat.one_mul]; omega
theorem foldN_err {op k c : Int} {s d : List Int} (hk : 1 ≤ k) (h : foldN op s d k = .error c) : ¬ c = 0 := by
  cases s with
  | nil => cases h
  | cons n t =>
    rw [foldN_pos (by omega)] at h
    have key : ∀ (w i : Nat) (acc : List Int), redu op d w i acc = .error c → ¬ c = 0 := by
      intro w i
      induction i with
      | zero => intro acc h; cases h
      | succ i ih =>
        intro acc h
        simp only [redu] at h
        cases h1 : twos op (nthRow d w i) acc with
        | error c' =>
          rw [h1] at h
          simp only [Except.error.injEq] at h
          subst h
          exact twos_err h1
        | ok l => rw [h1] at h; exact ih l h
    cases hr : redu op d (prodI t).toNat (k - 1).toNat (nthRow d (prodI t).toNat (k - 1).toNat) with
    | error c' =>
      rw [hr] at h
      simp only [behindT, Except.error.injEq] at h
      subst h
      exact key _ _ _ hr
    | ok l => rw [hr] at h; cases h
-- the reference's loop
section
variable (L1 : Int → Option Bool) (L2 : List Int → List Int → Option Bool) (L3 : Int → List Int → List Int → Option (List Int × List Int × Int)) (h3 : ∀ op s d, pre_spec_l2Reduce op s d → L3 op s d = some (s_spec_l2Reduce op s d))
  (L4 : List Int → List Int → Int → Option (List Int × List Int)) (h4 : ∀ s d k, pre_spec_l2First s d k → L4 s d k = some (s_spec_l2First s d k)) (L5 : List Int → List TArray → Option (List Int × List Int × Int)) (h5 : ∀ t l, pre_spec_l2Stack t l → L5 t l = some (s_spec_l2Stack t l))
include h3 h4 h5
theorem l_sScan (op n : Int) (t d : List Int) (h : arrOk (n :: t) d = true) : ∀ (m e : Nat) (k : Int) (acc : List TArray), 1 ≤ k → k + m = n + 1 → (acc.length : Int) = k - 1 → (∀ x ∈ acc, x.Data.length ≤ 1000) →
    spec_Scan_l0 L1 L2 L3 L4 L5 (m + 1 + e) op k (n :: t) d acc = some (ends3 (n :: t) (acc.map (·.Data)).flatten (scans op (n :: t) d m k))
  | 0, e, k, acc, hk, hm, ha, hc => by
    have hf := (arrOk_cells h).2.1
    obtain ⟨n0, n1, p0, p1, t2⟩ := fits_cons hf
    rw [show 0 + 1 + e = e + 1 by omega]
    simp only [spec_Scan_l0]
    rw [show idx (n :: t) 0 = some n from rfl]
    simp only [Option.bind_some]
    rw [if_neg (by omega), cut_tail]
    simp only [Option.bind_some]
    rw [h5 _ _ ⟨t2, by omega, hc⟩]
    have en : (acc.length : Int) = n := by omega
    simp only [Option.bind_some, s_spec_l2Stack, en]
    rw [if_pos hf]
    simp [scans, ends3]
  | m + 1, e, k, acc, hk, hm, ha, hc => by
    have hf := (arrOk_cells h).2.1
    obtain ⟨n0, n1, p0, p1, t2⟩ := fits_cons hf
    obtain ⟨f1, f2, f3, f4⟩ := first_ok (op := op) h ⟨hk, by omega⟩
    rw [show m + 1 + 1 + e = (m + 1 + e) + 1 by omega]
    simp only [spec_Scan_l0]
    rw [show idx (n :: t) 0 = some n from rfl]
    simp only [Option.bind_some]
    rw [if_pos (by omega), h4 _ _ _ ⟨h, n, t, rfl, hk, by omega⟩]
    simp only [Option.bind_some, s_spec_l2First, List.tail_cons]
    rw [h3 _ _ _ f1]
    have e1 : s_spec_l2Reduce op (k :: t) (d.take (k * prodI t).toNat) = tri (foldN op (n :: t) d k) := by
      unfold s_spec_l2Reduce
      rw [List.headD_cons, f2]
    simp only [Option.bind_some, e1, scans]
    cases hr : foldN op (n :: t) d k with
    | error c => exact if_neg (foldN_err hk hr)
    | ok p =>
      obtain ⟨q1, q2, q3⟩ := foldN_len h (.inr ⟨n, t, rfl, by omega, by omega⟩) hr
      refine (if_pos rfl).trans ?_
      have hrm : room 48 (acc ++ [(⟨p.1, p.2⟩ : TArray)]).length := by
        unfold room roomB; simp; omega
      refine (if_pos hrm).trans ?_
      rw [show w64 (k + 1) = k + 1 from w64_in (by omega)]
      refine (l_sScan op n t d h m e (k + 1) (acc ++ [⟨p.1, p.2⟩]) (by omega) (by omega) (by simp; omega) (fun x hx => by
        rcases List.mem_append.1 hx with hx | hx
        · exact hc x hx
        · simp only [List.mem_singleton] at hx; subst hx; exact q3)).trans ?_
      cases scans op (n :: t) d m (k + 1) <;> simp [ends3]
end
def pre_spec_Scan (op : Int) (s d : List Int) : Prop := small s ∧ small d
def scanOf (op : Int) (s d : List Int) : List Int × List Int × Int := match s with
  | [] => ([], d, 0)
  | n :: t => ends3 (n :: t) [] (scans op (n :: t) d n.toNat 1)
def s_spec_Scan (op : Int) (s d : List Int) : List Int × List Int × Int := if (1 ≤ op ∧ op ≤ 10) ∧ arrOk s d = true then scanOf op s d else ([], [], 9)
theorem p_spec_Scan (L1 : Int → Option Bool) (h1 : ∀ op, pre_spec_l2OpOk op → L1 op = some (s_spec_l2OpOk op)) (L2 : List Int → List Int → Option Bool) (h2 : ∀ s d, pre_spec_ArrayOk s d → L2 s d = some (s_spec_ArrayOk s d))
    (L3 : Int → List Int → List Int → Option (List Int × List Int × Int)) (h3 : ∀ op s d, pre_spec_l2Reduce op s d → L3 op s d = some (s_spec_l2Reduce op s d))
    (L4 : List Int → List Int → Int → Option (List Int × List Int)) (h4 : ∀ s d k, pre_spec_l2First s d k → L4 s d k = some (s_spec_l2First s d k)) (L5 : List Int → List TArray → Option (List Int × List Int × Int)) (h5 : ∀ t l, pre_spec_l2Stack t l → L5 t l = some (s_spec_l2Stack t l))
    (op : Int) (s d : List Int) (h : pre_spec_Scan op s d) : ∃ N, spec_Scan_f L1 L2 L3 L4 L5 N op s d = some (s_spec_Scan op s d) := by
  refine ⟨(s.headD 0).toNat + 1, ?_⟩
  unfold spec_Scan_f s_spec_Scan
  rw [h1 _ trivial, h2 _ _ h]
  simp only [Option.bind_some, s_spec_l2OpOk, s_spec_ArrayOk]
  by_cases c : 1 ≤ op ∧ op ≤ 10
  · cases c1 : arrOk s d with
    | false => simp [c]
    | true =>
      rw [if_neg (by simp [c]), if_neg (by simp), if_pos (show (1 ≤ op ∧ op ≤ 10) ∧ true = true from ⟨c, rfl⟩)]
      cases s with
      | nil =>
        rw [if_pos (show (([] : List Int).length : Int) = 0 from rfl), h3 _ _ _ c1]; rfl
      | cons n t =>
        have n0 := (fits_cons (arrOk_cells c1).2.1).1
        rw [if_neg (by simp only [List.length_cons]; omega)]
        exact l_sScan L1 L2 L3 h3 L4 h4 L5 h5 op n t d c1 n.toNat 0 1 [] (by omega) (by omega) (by simp) (by simp)
  · simp [c]
-- the program's own
section
variable (L1 : Int → Option (Alt Unit Nat)) (L2 : List Int → List Int → Option Bool) (L3 : List Int → List Int → Option (List Int × List Int)) (L4 : List Int → Option (Res (List Int × Option Nat × List Int)))
  (L5 : Int → Nat → List Int → List Int → Int → Option (Res (List Int × List Int))) (h5 : ∀ op f s d k, pre_impl_fold op f s d k → L5 op f s d k = some (s_impl_fold op f s d k))
  (L7 : D → Int → List Int → List Int → Option Int) (h7 : ∀ x a s d, pre_impl_caught x a s d → L7 (thrown x) a s d = some (s_impl_caught x a s d))
include h5 h7
theorem l_iScan (op n : Int) (t d s' : List Int) (ho : 1 ≤ op ∧ op ≤ 10) (h : arrOk (n :: t) d = true) : ∀ (m e : Nat) (k : Int) (acc : List Int), 1 ≤ k → k + m = n + 1 → (acc.length : Int) = (k - 1) * prodI t →
    impl_Scan_b_l0 L1 L2 L3 L4 L5 L7 (m + 1 + e) op (opNo op) k (n :: t) d s' acc = some (ends3 s' acc (scans op (n :: t) d m k))
  | 0, e, k, acc, hk, hm, ha => by
    rw [show 0 + 1 + e = e + 1 by omega]
    simp only [impl_Scan_b_l0]
    rw [show idx (n :: t) 0 = some n from rfl]
    simp only [Option.bind_some]
    rw [if_neg (by omega)]
    simp [scans, ends3]
  | m + 1, e, k, acc, hk, hm, ha => by
    have hf := (arrOk_cells h).2.1
    obtain ⟨n0, n1, p0, p1, t2⟩ := fits_cons hf
    rw [show m + 1 + 1 + e = (m + 1 + e) + 1 by omega]
    simp only [impl_Scan_b_l0]
    rw [show idx (n :: t) 0 = some n from rfl]
    simp only [Option.bind_some]
    rw [if_pos (by omega), h5 _ _ _ _ _ ⟨⟨ho, rfl⟩, h, n, t, rfl, by omega, by omega⟩]
    simp only [Option.bind_some, s_impl_fold, scans]
    cases hr : foldN op (n :: t) d k with
    | error c =>
      simp only [pans, Res.on]
      rw [h7 _ _ _ _ trivial]; rfl
    | ok p =>
      obtain ⟨q1, q2, q3⟩ := foldN_len h (.inr ⟨n, t, rfl, by omega, by omega⟩) hr
      have q2' := q2.resolve_left (by simp)
      simp only [List.tail_cons] at q2'
      simp only [pans, Res.on]
      have hkn : (k - 1) * prodI t ≤ n * prodI t := Int.mul_le_mul_of_nonneg_right (by omega) p0
      rw [if_pos (room_small (by unfold small; simp; omega)), show w64 (k + 1) = k + 1 from w64_in (by omega), l_iScan op n t d s' ho h m e (k + 1) _ (by omega) (by omega) (by
        rw [List.length_append, q2', show k + 1 - 1 = (k - 1) + 1 by omega, Int.add_mul, Int.one_mul]; omega)]
      cases scans op (n :: t) d m (k + 1) <;> simp [ends3]
end
def pre_impl_Scan (op : Int) (s d : List Int) : Prop := pre_spec_Scan op s d
def s_impl_Scan (op : Int) (s d : List Int) : List Int × List Int × Int := s_spec_Scan op s d
theorem p_impl_Scan (L1 : Int → Option (Alt Unit Nat)) (h1 : ∀ op, pre_impl_opOf op → L1 op = some (s_impl_opOf op)) (L2 : List Int → List Int → Option Bool) (h2 : ∀ s d, pre_impl_ArrayOk s d → L2 s d = some (s_impl_ArrayOk s d))
    (L3 : List Int → List Int → Option (List Int × List Int)) (h3 : ∀ s d, pre_impl_cloned s d → L3 s d = some (s_impl_cloned s d)) (L4 : List Int → Option (Res (List Int × Option Nat × List Int))) (h4 : ∀ l, pre_impl_made l → L4 l = some (s_impl_made l))
    (L5 : Int → Nat → List Int → List Int → Int → Option (Res (List Int × List Int))) (h5 : ∀ op f s d k, pre_impl_fold op f s d k → L5 op f s d k = some (s_impl_fold op f s d k))
    (L7 : D → Int → List Int → List Int → Option Int) (h7 : ∀ x a s d, pre_impl_caught x a s d → L7 (thrown x) a s d = some (s_impl_caught x a s d))
    (op : Int) (s d : List Int) (h : pre_impl_Scan op s d) : ∃ N, impl_Scan_f L1 L2 L3 L4 L5 L7 N op s d = some (s_impl_Scan op s d) := by
  refine ⟨(s.headD 0).toNat + 1, ?_⟩
  unfold impl_Scan_f s_impl_Scan s_spec_Scan
  rw [h1 _ trivial]
  simp only [Option.bind_some]
  rcases opOf_spec op with ⟨e1, e2, e3, e4⟩ | ⟨e1, e2⟩
  · rw [e2]
    simp only [Alt.on]
    rw [h2 _ _ h]
    simp only [Option.bind_some, s_impl_ArrayOk]
    cases c1 : arrOk s d with
    | false => simp
    | true =>
      rw [if_neg (by simp), if_pos (show (1 ≤ op ∧ op ≤ 10) ∧ true = true from ⟨⟨e3, e4⟩, rfl⟩)]
      cases s with
      | nil =>
        rw [if_pos (show (([] : List Int).length : Int) = 0 from rfl), h3 _ _ h]; rfl
      | cons n t =>
        have n0 := (fits_cons (arrOk_cells c1).2.1).1
        rw [if_neg (by simp only [List.length_cons]; omega)]
        unfold impl_Scan_b_f
        rw [h4 _ h.1, made_cap (arrOk_cells c1).2.1]
        simp only [Option.bind_some, Res.on]
        exact l_iScan L1 L2 L3 L4 L5 h5 L7 h7 op n t d (n :: t) ⟨e3, e4⟩ c1 n.toNat 0 1 [] (by omega) (by omega) (by simp)
  · rw [e2]
    simp only [s_spec_l2OpOk, decide_eq_false_iff_not] at e1
    rw [if_neg (fun q => e1 q.1)]; rfl
theorem small_Scan {op : Int} {s d : List Int} (h : pre_spec_Scan op s d) : small (s_spec_Scan op s d).1 ∧ small (s_spec_Scan op s d).2.1 := by
  have z : small ([] : List Int) ∧ small ([] : List Int) := ⟨Nat.zero_le _, Nat.zero_le _⟩
  unfold s_spec_Scan
  split
  · rename_i c
    cases s with
    | nil => exact h
    | cons n t =>
      have hf := (arrOk_cells c.2).2.1
      obtain ⟨n0, n1, p0, p1, t2⟩ := fits_cons hf
      simp only [scanOf]
      cases hs : scans op (n :: t) d n.toNat 1 with
      | error c => exact z
      | ok l =>
        obtain ⟨f1, f2⟩ := scans_len c.2 (by omega) (by omega) hs
        simp only [ends3, List.nil_append]
        refine ⟨h.1, ?_⟩
        have hd : d.length ≤ 1048576 := h.2
        have hlen := arr_len c.2
        have e : ((n.toNat * (prodI t).toNat : Nat) : Int) = n * prodI t := by
          rw [Int.natCast_mul, Int.toNat_of_nonneg n0, Int.toNat_of_nonneg p0]
        rw [prodI] at hlen
        unfold small; omega
  · exact z
-- the law
def pre_laws_FnExactScan (op : Int) (s d : List Int) : Prop := s.length ≤ big ∧ d.length ≤ big
def s_laws_FnExactScan (op : Int) (s d : List Int) : Bool := true
theorem p_laws_FnExactScan (L0 : List Int → List Int → Int → Option Int) (h0 : ∀ s d n, pre_laws_szArray s d n → L0 s d n = some (s_laws_szArray s d n))
    (L1 : List Int → List Int → Option (List Int × List Int)) (h1 : ∀ s d, pre_laws_toArray s d → L1 s d = some (s_laws_toArray s d))
    (L2 : Int → List Int → List Int → Option (List Int × List Int × Int)) (h2 : ∀ op s d, pre_spec_Scan op s d → L2 op s d = some (s_spec_Scan op s d))
    (L3 : Int → List Int → List Int → Option (List Int × List Int × Int)) (h3 : ∀ op s d, pre_impl_Scan op s d → L3 op s d = some (s_impl_Scan op s d))
    (L4 : List Int → List Int → List Int → List Int → Option Bool) (h4 : ∀ s d s' d', pre_laws_eqArray s d s' d' → L4 s d s' d' = some (s_laws_eqArray s d s' d'))
    (L5 : List Int → List Int → Int → Option (Int × List Int × List Int)) (h5 : ∀ s d k, pre_laws_markArray s d k → L5 s d k = some (s_laws_markArray s d k))
    (L6 : List Int → List Int → Int → Option Int) (h6 : ∀ s d k, pre_laws_heldArray s d k → L6 s d k = some (s_laws_heldArray s d k))
    (op : Int) (s d : List Int) (h : pre_laws_FnExactScan op s d) : ∃ N, laws_FnExactScan_f L0 L1 L2 L3 L4 L5 L6 N op s d = some (s_laws_FnExactScan op s d) := by
  refine ⟨0, ?_⟩
  unfold laws_FnExactScan_f s_laws_FnExactScan
  rw [h0 _ _ _ ⟨h.1, h.2, by omega, by omega⟩]
  simp only [Option.bind_some]
  by_cases c : s_laws_szArray s d 1048576 < 0
  · rw [if_pos c]
  · rw [if_neg c]
    obtain ⟨q1, q2, q3, q4⟩ := sz_left (by omega) c
    have q1' : s.length ≤ 1048576 := q1
    have q2' : d.length ≤ 1048576 := q2
    have hs : small s ∧ small d := ⟨q1, q2⟩
    have hss : pre_spec_Scan op s d := ⟨q1, q2⟩
    have hg := small_Scan hss
    have hm1 := h5 s d 1 ⟨q1, q2, by omega, by omega⟩
    have hk0 : 0 ≤ (s_laws_markArray s d 1).1 ∧ (s_laws_markArray s d 1).1 ≤ 4194304 := by
      unfold s_laws_markArray
      simp only
      omega
    have hm3 := h5 _ _ 1 ⟨hg.1, hg.2, by omega, by omega⟩
    have hm : small (s_laws_markArray (s_spec_Scan op s d).1 (s_spec_Scan op s d).2.1 1).2.1 ∧ small (s_laws_markArray (s_spec_Scan op s d).1 (s_spec_Scan op s d).2.1 1).2.2 := by
      unfold s_laws_markArray small
      simp only [upFrom_len]
      exact hg
    have hh := h6 _ _ 1 ⟨hm.1, hm.2, by omega, by omega⟩
    simp only [h1 _ _ hs,  Option.bind_some, s_laws_toArray, h2 _ _ _ hss, h3 _ _ _ hss, s_impl_Scan, h4 _ _ _ _ hg, h4 _ _ _ _ hs,  eqA_refl, hm1,  hm3, hh, held_marks]
    have hk : ∀ (s d : List Int) (k : Int), 0 ≤ k → ¬ (s_laws_markArray s d k).1 < 0 := by intro s d k hk; unfold s_laws_markArray; simp only; omega
    simp [hk, hk0.1]
theorem pre_of_laws_FnExactScan {op : Int} {s d : List Int} (ho : (Lit.int .i64 op).wf = true) (hs : s.length ≤ maxLen ∧ ∀ x ∈ s, (Lit.int .i64 x).wf = true) (hd : d.length ≤ maxLen ∧ ∀ x ∈ d, (Lit.int .i64 x).wf = true) : pre_laws_FnExactScan op s d := ⟨hs.1, hd.1⟩
end Go.Vm
