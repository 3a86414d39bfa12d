/- Each2: what the functions of FnExactEach2 answer. -/
import Derived.Test.YtejgcpankckdkaaPOps
import Derived.Test.YtejgcpankckdkaaFEach2
set_option linter.unusedVariables false
set_option linter.unusedSimpArgs false
namespace Go.Vm

-- one row made of one cell
theorem l_wide (L1 : List Int → Option (List Int)) (L2 : List Int → Option Int) (s : List Int) (n : Nat) (hn : n ≤ 1000) (hp : L2 s = some (n : Int)) (x : Int) (s0 d0 : List Int) (hx : idx d0 0 = some x) (s' : List Int) : ∀ (m j e : Nat), j + m = n →
    spec_l2Wide_l0 L1 L2 (m + 1 + e) s j s0 d0 s' (List.replicate j x) = some (s', List.replicate n x)
  | 0, j, e, h => by
    rw [show 0 + 1 + e = e + 1 by omega]
    simp only [spec_l2Wide_l0]
    rw [hp]
    simp only [Option.bind_some]
    rw [if_neg (by omega), show j = n by omega]
  | m + 1, j, e, h => by
    rw [show m + 1 + 1 + e = (m + 1 + e) + 1 by omega]
    simp only [spec_l2Wide_l0]
    rw [hp, hx]
    simp only [Option.bind_some]
    have e1 : List.replicate j x ++ [x] = List.replicate (j + 1) x := by rw [List.replicate_succ']
    rw [if_pos (by omega), e1, if_pos (room_small (by unfold small; simp; omega)), succ_w (n := n) (by omega) (by rw [big_eq]; omega)]
    exact l_wide L1 L2 s n hn hp x s0 d0 hx s' m (j + 1) e (by omega)
def pre_spec_l2Wide (s d a : List Int) : Prop := small a ∧ fits a = true ∧ d.length = 1
def s_spec_l2Wide (s d a : List Int) : List Int × List Int := (a, List.replicate (a.foldl stepP 1).toNat (d.headD 0))
theorem p_spec_l2Wide (L1 : List Int → Option (List Int)) (h1 : ∀ l, pre_spec_l2Copy l → L1 l = some (s_spec_l2Copy l)) (L2 : List Int → Option Int) (h2 : ∀ l, pre_spec_l1Product l → L2 l = some (s_spec_l1Product l))
    (s d a : List Int) (h : pre_spec_l2Wide s d a) : ∃ N, spec_l2Wide_f L1 L2 N s d a = some (s_spec_l2Wide s d a) := by
  obtain ⟨h3, h4, h5⟩ := h
  have hr := fits_range h4
  obtain ⟨x, rfl⟩ : ∃ x, d = [x] := by
    cases d with
    | nil => simp at h5
    | cons x d => simp at h5; subst h5; exact ⟨x, rfl⟩
  refine ⟨(a.foldl stepP 1).toNat + 1, ?_⟩
  unfold spec_l2Wide_f s_spec_l2Wide
  rw [h1 _ h3]
  simp only [Option.bind_some, s_spec_l2Copy]
  exact l_wide L1 L2 a (a.foldl stepP 1).toNat (by omega) (by rw [h2 _ h3]; unfold s_spec_l1Product; congr 1; omega) x s [x] rfl a (a.foldl stepP 1).toNat 0 0 (by omega)

-- two shapes
theorem l_same (a b : List Int) (ha : small a) (hab : a.length = b.length) : ∀ (r t : List Int) (j e : Nat), a.drop j = r → b.drop j = t → spec_l2Same_l0 (r.length + 1 + e) a b j = some (decide (r = t))
  | [], t, j, e, hd, hd' => by
    have h := at_nil hd
    rw [show ([] : List Int).length + 1 + e = e + 1 by simp; omega]
    simp only [spec_l2Same_l0]
    have : t = [] := by rw [← hd']; exact List.drop_eq_nil_of_le (by omega)
    rw [if_neg h, this]; rfl
  | x :: r, t, j, e, hd, hd' => by
    obtain ⟨h1, h2, h3, h4, h5, h6⟩ := at_cons hd
    have hb : a.length ≤ big := by unfold small at ha; rw [big_eq]; omega
    cases t with
    | nil => have := at_nil hd'; omega
    | cons y t =>
      obtain ⟨g1, g2, g3, g4, g5, g6⟩ := at_cons hd'
      rw [show (x :: r).length + 1 + e = (r.length + 1 + e) + 1 by simp; omega]
      simp only [spec_l2Same_l0]
      rw [if_pos h2, h3, g3]
      simp only [Option.bind_some]
      rw [succ_w h1 hb, l_same a b ha hab r t (j + 1) e h5 g5]
      by_cases c : x = y
      · rw [if_pos c]; simp [c]
      · rw [if_neg c]; simp [c]
def pre_spec_l2Same (a b : List Int) : Prop := small a
def s_spec_l2Same (a b : List Int) : Bool := decide (a = b)
theorem p_spec_l2Same (a b : List Int) (h : pre_spec_l2Same a b) : ∃ N, spec_l2Same_f N a b = some (s_spec_l2Same a b) := by
  refine ⟨a.length + 1, ?_⟩
  unfold spec_l2Same_f s_spec_l2Same
  by_cases c : (a.length : Int) = b.length
  · rw [if_pos c]
    exact l_same a b h (by omega) a b 0 0 rfl rfl
  · rw [if_neg c]
    have : ¬ a = b := by rintro rfl; exact c rfl
    simp [this]
theorem l_equal (a b : List Int) (ha : small a) (hab : a.length = b.length) : ∀ (r t : List Int) (j e : Nat), a.drop j = r → b.drop j = t → slices_Equal___int_int__l0 (r.length + 1 + e) a b a.length j = some (decide (r = t))
  | [], t, j, e, hd, hd' => by
    have h := at_nil hd
    rw [show ([] : List Int).length + 1 + e = e + 1 by simp; omega]
    simp only [slices_Equal___int_int__l0]
    have : t = [] := by rw [← hd']; exact List.drop_eq_nil_of_le (by omega)
    rw [if_neg h, this]; rfl
  | x :: r, t, j, e, hd, hd' => by
    obtain ⟨h1, h2, h3, h4, h5, h6⟩ := at_cons hd
    have hb : a.length ≤ big := by unfold small at ha; rw [big_eq]; omega
    cases t with
    | nil => have := at_nil hd'; omega
    | cons y t =>
      obtain ⟨g1, g2, g3, g4, g5, g6⟩ := at_cons hd'
      rw [show (x :: r).length + 1 + e = (r.length + 1 + e) + 1 by simp; omega]
      simp only [slices_Equal___int_int__l0]
      rw [if_pos h2, h3, g3]
      simp only [Option.bind_some]
      rw [succ_w h1 hb, l_equal a b ha hab r t (j + 1) e h5 g5]
      by_cases c : x = y
      · rw [if_pos c]; simp [c]
      · rw [if_neg c]; simp [c]
def pre_slices_Equal___int_int_ (a b : List Int) : Prop := small a
def s_slices_Equal___int_int_ (a b : List Int) : Bool := decide (a = b)
theorem p_slices_Equal___int_int_ (a b : List Int) (h : pre_slices_Equal___int_int_ a b) : ∃ N, slices_Equal___int_int__f N a b = some (s_slices_Equal___int_int_ a b) := by
  refine ⟨a.length + 1, ?_⟩
  unfold slices_Equal___int_int__f s_slices_Equal___int_int_
  by_cases c : (a.length : Int) = b.length
  · rw [if_pos c]
    exact l_equal a b h (by omega) a b 0 0 rfl rfl
  · rw [if_neg c]
    have : ¬ a = b := by rintro rfl; exact c rfl
    simp [this]

-- cell by cell: the reference
section
variable (L1 : List Int → List Int → List Int → Option (List Int × List Int)) (L2 : List Int → List Int → Option Bool) (L3 : List Int → Option (List Int))
  (L4 : Int → Int → Int → Option (Int × Int)) (h4 : ∀ op x y, pre_spec_l2Two op x y → L4 op x y = some (s_spec_l2Two op x y))
include h4
theorem l_sEach0 (op : Int) (a b sa sb s' : List Int) (ha : small a) (ca : ∀ x ∈ a, cellIn x) (cb : ∀ x ∈ b, cellIn x) (hab : a.length = b.length) : ∀ (r t : List Int) (j e : Nat) (acc : List Int), a.drop j = r → b.drop j = t → acc.length = j →
    spec_l2Each_l0 L1 L2 L3 L4 (r.length + 1 + e) op j sa a sb b s' acc = some (tri (behindT s' acc (twos op r t)))
  | [], t, j, e, acc, hd, hd', hj => by
    rw [show ([] : List Int).length + 1 + e = e + 1 by simp; omega]
    simp only [spec_l2Each_l0]
    rw [if_neg (at_nil hd)]; simp [twos, behindT, tri]
  | x :: r, t, j, e, acc, hd, hd', hj => by
    obtain ⟨g1, g2, g3, g4, g5, g6⟩ := at_cons hd
    have hb : a.length ≤ big := by unfold small at ha; rw [big_eq]; omega
    cases t with
    | nil => have := at_nil hd'; omega
    | cons y t =>
      obtain ⟨k1, k2, k3, k4, k5, k6⟩ := at_cons hd'
      rw [show (x :: r).length + 1 + e = (r.length + 1 + e) + 1 by simp; omega]
      simp only [spec_l2Each_l0]
      rw [if_pos g2, if_pos (by omega), Int.toNat_natCast, g4]
      simp only [Option.bind_some]
      rw [k3]
      simp only [Option.bind_some]
      rw [h4 _ _ _ ⟨ca x (List.mem_of_getElem? g4), cb y (List.mem_of_getElem? k4)⟩]
      simp only [Option.bind_some, s_spec_l2Two]
      by_cases c : (twoOf op x y).2 = 0
      · rw [if_pos c, if_pos (room_small (by unfold small at ha ⊢; simp; omega)), succ_w g1 hb, l_sEach0 op a b sa sb s' ha ca cb hab r t (j + 1) e _ g5 k5 (by simp [hj]), behindT_cons (two_ok c)]
      · rw [if_neg c, behindT_err (two_err c)]; rfl
theorem l_sEach1 (op : Int) (a b sa sb s' : List Int) (ha : small a) (ca : ∀ x ∈ a, cellIn x) (cb : ∀ x ∈ b, cellIn x) (hab : a.length = b.length) : ∀ (r t : List Int) (j e : Nat) (acc : List Int), a.drop j = r → b.drop j = t → acc.length = j →
    spec_l2Each_l1 L1 L2 L3 L4 (r.length + 1 + e) op j sa a sb b s' acc = some (tri (behindT s' acc (twos op r t)))
  | [], t, j, e, acc, hd, hd', hj => by
    rw [show ([] : List Int).length + 1 + e = e + 1 by simp; omega]
    simp only [spec_l2Each_l1]
    rw [if_neg (at_nil hd)]; simp [twos, behindT, tri]
  | x :: r, t, j, e, acc, hd, hd', hj => by
    obtain ⟨g1, g2, g3, g4, g5, g6⟩ := at_cons hd
    have hb : a.length ≤ big := by unfold small at ha; rw [big_eq]; omega
    cases t with
    | nil => have := at_nil hd'; omega
    | cons y t =>
      obtain ⟨k1, k2, k3, k4, k5, k6⟩ := at_cons hd'
      rw [show (x :: r).length + 1 + e = (r.length + 1 + e) + 1 by simp; omega]
      simp only [spec_l2Each_l1]
      rw [if_pos g2, g3]
      simp only [Option.bind_some]
      rw [if_pos (by omega), Int.toNat_natCast, k4]
      simp only [Option.bind_some]
      rw [h4 _ _ _ ⟨ca x (List.mem_of_getElem? g4), cb y (List.mem_of_getElem? k4)⟩]
      simp only [Option.bind_some, s_spec_l2Two]
      by_cases c : (twoOf op x y).2 = 0
      · rw [if_pos c, if_pos (room_small (by unfold small at ha ⊢; simp; omega)), succ_w g1 hb, l_sEach1 op a b sa sb s' ha ca cb hab r t (j + 1) e _ g5 k5 (by simp [hj]), behindT_cons (two_ok c)]
      · rw [if_neg c, behindT_err (two_err c)]; rfl
theorem l_sEach2 (op : Int) (a b sa sb s' : List Int) (ha : small a) (ca : ∀ x ∈ a, cellIn x) (cb : ∀ x ∈ b, cellIn x) (hab : a.length = b.length) : ∀ (r t : List Int) (j e : Nat) (acc : List Int), a.drop j = r → b.drop j = t → acc.length = j →
    spec_l2Each_l2 L1 L2 L3 L4 (r.length + 1 + e) op j sa a sb b s' acc = some (tri (behindT s' acc (twos op r t)))
  | [], t, j, e, acc, hd, hd', hj => by
    rw [show ([] : List Int).length + 1 + e = e + 1 by simp; omega]
    simp only [spec_l2Each_l2]
    rw [if_neg (at_nil hd)]; simp [twos, behindT, tri]
  | x :: r, t, j, e, acc, hd, hd', hj => by
    obtain ⟨g1, g2, g3, g4, g5, g6⟩ := at_cons hd
    have hb : a.length ≤ big := by unfold small at ha; rw [big_eq]; omega
    cases t with
    | nil => have := at_nil hd'; omega
    | cons y t =>
      obtain ⟨k1, k2, k3, k4, k5, k6⟩ := at_cons hd'
      rw [show (x :: r).length + 1 + e = (r.length + 1 + e) + 1 by simp; omega]
      simp only [spec_l2Each_l2]
      rw [if_pos g2, g3, k3]
      simp only [Option.bind_some]
      rw [h4 _ _ _ ⟨ca x (List.mem_of_getElem? g4), cb y (List.mem_of_getElem? k4)⟩]
      simp only [Option.bind_some, s_spec_l2Two]
      by_cases c : (twoOf op x y).2 = 0
      · rw [if_pos c, if_pos (room_small (by unfold small at ha ⊢; simp; omega)), succ_w g1 hb, l_sEach2 op a b sa sb s' ha ca cb hab r t (j + 1) e _ g5 k5 (by simp [hj]), behindT_cons (two_ok c)]
      · rw [if_neg c, behindT_err (two_err c)]; rfl
end
/-- two arrays, cell by cell -/
def each2 (op : Int) (s1 d1 s2 d2 : List Int) : Except Int (List Int × List Int) :=
  if s1.length = 0 then behindT s2 [] (twos op (List.replicate d2.length (d1.headD 0)) d2)
  else if s2.length = 0 then behindT s1 [] (twos op d1 (List.replicate d1.length (d2.headD 0)))
  else if s1.length = s2.length then (if s1 = s2 then behindT s1 [] (twos op d1 d2) else .error 3)
  else .error 2
theorem one_cell {s d : List Int} (h : arrOk s d = true) (h0 : s.length = 0) : ∃ x, d = [x] ∧ cellIn x := by
  obtain ⟨h1, h2, h3, h4, h5⟩ := arrOk_small h
  have : s = [] := List.eq_nil_of_length_eq_zero h0
  subst this
  simp only [List.foldl_nil] at h5
  cases d with
  | nil => simp at h5
  | cons x d =>
    simp only [List.length_cons] at h5
    have : d = [] := List.eq_nil_of_length_eq_zero (by omega)
    subst this
    exact ⟨x, rfl, (arrOk_cells h).1 x (by simp)⟩
def pre_spec_l2Each (op : Int) (s1 d1 s2 d2 : List Int) : Prop := arrOk s1 d1 = true ∧ arrOk s2 d2 = true
def s_spec_l2Each (op : Int) (s1 d1 s2 d2 : List Int) : List Int × List Int × Int := tri (each2 op s1 d1 s2 d2)
theorem p_spec_l2Each (L1 : List Int → List Int → List Int → Option (List Int × List Int)) (h1 : ∀ s d a, pre_spec_l2Wide s d a → L1 s d a = some (s_spec_l2Wide s d a))
    (L2 : List Int → List Int → Option Bool) (h2 : ∀ a b, pre_spec_l2Same a b → L2 a b = some (s_spec_l2Same a b)) (L3 : List Int → Option (List Int)) (h3 : ∀ l, pre_spec_l2Copy l → L3 l = some (s_spec_l2Copy l))
    (L4 : Int → Int → Int → Option (Int × Int)) (h4 : ∀ op x y, pre_spec_l2Two op x y → L4 op x y = some (s_spec_l2Two op x y)) (op : Int) (s1 d1 s2 d2 : List Int) (h : pre_spec_l2Each op s1 d1 s2 d2) :
    ∃ N, spec_l2Each_f L1 L2 L3 L4 N op s1 d1 s2 d2 = some (s_spec_l2Each op s1 d1 s2 d2) := by
  obtain ⟨ha, hb⟩ := h
  obtain ⟨a1, a2, a3, a4, a5⟩ := arrOk_small ha
  obtain ⟨b1, b2, b3, b4, b5⟩ := arrOk_small hb
  have ca := (arrOk_cells ha).1
  have cb := (arrOk_cells hb).1
  unfold spec_l2Each_f s_spec_l2Each each2
  by_cases c1 : s1.length = 0
  · obtain ⟨x, rfl, hx⟩ := one_cell ha c1
    have en : (s2.foldl stepP 1).toNat = d2.length := by omega
    refine ⟨d2.length + 1, ?_⟩
    rw [if_pos (by omega), if_pos c1, h1 _ _ _ ⟨b1, (arrOk_cells hb).2.1, rfl⟩]
    simp only [Option.bind_some, s_spec_l2Wide, en, List.headD_cons]
    rw [if_pos trivial, h2 _ _ b1, h3 _ b1]
    simp only [Option.bind_some, s_spec_l2Same, s_spec_l2Copy, decide_true]
    rw [if_neg (by simp)]
    have key := l_sEach0 L1 L2 L3 L4 h4 op (List.replicate d2.length x) d2 s2 s2 s2 (by unfold small at *; simpa using b2) (fun y hy => by rw [(List.mem_replicate.1 hy).2]; exact hx) cb (by simp) (List.replicate d2.length x) d2 0 0 [] rfl rfl rfl
    simpa using key
  · have i1 : ¬ (s1.length : Int) = 0 := by omega
    by_cases c2 : s2.length = 0
    · obtain ⟨x, rfl, hx⟩ := one_cell hb c2
      have en : (s1.foldl stepP 1).toNat = d1.length := by omega
      refine ⟨d1.length + 1, ?_⟩
      rw [if_neg i1, if_neg c1, if_pos (show (s2.length : Int) = 0 by omega), if_pos c2, h1 _ _ _ ⟨a1, (arrOk_cells ha).2.1, rfl⟩]
      simp only [Option.bind_some, s_spec_l2Wide, en, List.headD_cons]
      rw [if_pos trivial, h2 _ _ a1, h3 _ a1]
      simp only [Option.bind_some, s_spec_l2Same, s_spec_l2Copy, decide_true]
      rw [if_neg (by simp)]
      have key := l_sEach1 L1 L2 L3 L4 h4 op d1 (List.replicate d1.length x) s1 s1 s1 a2 ca (fun y hy => by rw [(List.mem_replicate.1 hy).2]; exact hx) (by simp) d1 (List.replicate d1.length x) 0 0 [] rfl rfl rfl
      simpa using key
    · have i2 : ¬ (s2.length : Int) = 0 := by omega
      by_cases c3 : s1.length = s2.length
      · refine ⟨d1.length + 1, ?_⟩
        rw [if_neg i1, if_neg c1, if_neg i2, if_neg c2, if_pos (show (s1.length : Int) = s2.length by omega), if_pos c3, h2 _ _ a1, h3 _ a1]
        simp only [Option.bind_some, s_spec_l2Same, s_spec_l2Copy]
        by_cases c4 : s1 = s2
        · subst c4
          rw [if_neg (by simp), if_pos rfl]
          have key := l_sEach2 L1 L2 L3 L4 h4 op d1 d2 s1 s1 s1 a2 ca cb (by omega) d1 d2 0 0 [] rfl rfl rfl
          simpa using key
        · rw [if_pos (by simp [c4]), if_neg c4]; rfl
      · refine ⟨0, ?_⟩
        rw [if_neg i1, if_neg c1, if_neg i2, if_neg c2, if_neg (show ¬ (s1.length : Int) = s2.length by omega), if_neg c3]; rfl
def pre_spec_Each2 (op : Int) (s1 d1 s2 d2 : List Int) : Prop := small s1 ∧ small d1 ∧ small s2 ∧ small d2
def s_spec_Each2 (op : Int) (s1 d1 s2 d2 : List Int) : List Int × List Int × Int := if (1 ≤ op ∧ op ≤ 10) ∧ arrOk s1 d1 = true ∧ arrOk s2 d2 = true then tri (each2 op s1 d1 s2 d2) else ([], [], 9)
theorem p_spec_Each2 (L1 : Int → Option Bool) (h1 : ∀ op, pre_spec_l2OpOk op → L1 op = some (s_spec_l2OpOk op)) (L2 : List Int → List Int → Option Bool) (h2 : ∀ s d, pre_spec_ArrayOk s d → L2 s d = some (s_spec_ArrayOk s d))
    (L3 : Int → List Int → List Int → List Int → List Int → Option (List Int × List Int × Int)) (h3 : ∀ op s1 d1 s2 d2, pre_spec_l2Each op s1 d1 s2 d2 → L3 op s1 d1 s2 d2 = some (s_spec_l2Each op s1 d1 s2 d2))
    (op : Int) (s1 d1 s2 d2 : List Int) (h : pre_spec_Each2 op s1 d1 s2 d2) : ∃ N, spec_Each2_f L1 L2 L3 N op s1 d1 s2 d2 = some (s_spec_Each2 op s1 d1 s2 d2) := by
  obtain ⟨g1, g2, g3, g4⟩ := h
  refine ⟨0, ?_⟩
  unfold spec_Each2_f s_spec_Each2
  rw [h1 _ trivial, h2 _ _ ⟨g1, g2⟩, h2 _ _ ⟨g3, g4⟩]
  simp only [Option.bind_some, s_spec_l2OpOk, s_spec_ArrayOk]
  by_cases c : 1 ≤ op ∧ op ≤ 10
  · cases c1 : arrOk s1 d1 with
    | false => simp [c]
    | true =>
      cases c2 : arrOk s2 d2 with
      | false => simp [c]
      | true =>
        rw [h3 _ _ _ _ _ ⟨c1, c2⟩]
        simp [c, s_spec_l2Each]
  · simp [c]

-- the program's own
section
variable (L1 : List Int → Option (Res (List Int × Option Nat × List Int))) (L2 : List Int → List Int → Option Bool) (Ld : Nat → Int → Int → Option (Res Int)) (f : Nat) (op : Int)
  (hD : ∀ x y, cellIn x → cellIn y → Ld f x y = some (resOf (twoOf op x y)))
include hD
theorem l_iEach0 (a b sb s' : List Int) (ha : small a) (ca : ∀ x ∈ a, cellIn x) (cb : ∀ x ∈ b, cellIn x) (z : Int) (hz : idx b 0 = some z) : ∀ (r t : List Int) (j e : Nat) (acc : List Int), a.drop j = r → t = List.replicate r.length z → acc.length = j →
    impl_each_l0 L1 L2 Ld (r.length + 1 + e) f a a.length j sb b s' acc = some (pans (behindT s' acc (twos op t r)))
  | [], t, j, e, acc, hd, hd', hj => by
    rw [show ([] : List Int).length + 1 + e = e + 1 by simp; omega]
    simp only [impl_each_l0]
    rw [if_neg (at_nil hd)]; subst hd'; simp [twos, behindT, pans]
  | x :: r, t, j, e, acc, hd, hd', hj => by
    obtain ⟨g1, g2, g3, g4, g5, g6⟩ := at_cons hd
    have hb : a.length ≤ big := by unfold small at ha; rw [big_eq]; omega
    cases t with
    | nil => simp at hd'
    | cons y t =>
      have hz' : y = z ∧ t = List.replicate r.length z := by simpa [List.replicate_succ] using hd'
      have k3 : idx b 0 = some y := by rw [hz'.1]; exact hz
      rw [show (x :: r).length + 1 + e = (r.length + 1 + e) + 1 by simp; omega]
      simp only [impl_each_l0]
      rw [if_pos g2, g3, k3]
      simp only [Option.bind_some]
      rw [hD _ _ (cb y (List.mem_of_getElem? (by rw [← idx_nat]; exact k3))) (ca x (List.mem_of_getElem? g4))]
      simp only [Option.bind_some, resOf]
      by_cases c : (twoOf op y x).2 = 0
      · rw [if_pos c]
        simp only [Res.on]
        rw [if_pos (room_small (by unfold small at ha ⊢; simp; omega)), succ_w g1 hb, l_iEach0 a b sb s' ha ca cb z hz r t (j + 1) e _ g5 hz'.2 (by simp [hj]), behindT_cons (two_ok c)]
      · rw [if_neg c, behindT_err (two_err c)]; rfl
theorem l_iEach1 (a b sb s' : List Int) (ha : small a) (ca : ∀ x ∈ a, cellIn x) (cb : ∀ x ∈ b, cellIn x) (z : Int) (hz : idx b 0 = some z) : ∀ (r t : List Int) (j e : Nat) (acc : List Int), a.drop j = r → t = List.replicate r.length z → acc.length = j →
    impl_each_l1 L1 L2 Ld (r.length + 1 + e) f a a.length j sb b s' acc = some (pans (behindT s' acc (twos op r t)))
  | [], t, j, e, acc, hd, hd', hj => by
    rw [show ([] : List Int).length + 1 + e = e + 1 by simp; omega]
    simp only [impl_each_l1]
    rw [if_neg (at_nil hd)]; subst hd'; simp [twos, behindT, pans]
  | x :: r, t, j, e, acc, hd, hd', hj => by
    obtain ⟨g1, g2, g3, g4, g5, g6⟩ := at_cons hd
    have hb : a.length ≤ big := by unfold small at ha; rw [big_eq]; omega
    cases t with
    | nil => simp at hd'
    | cons y t =>
      have hz' : y = z ∧ t = List.replicate r.length z := by simpa [List.replicate_succ] using hd'
      have k3 : idx b 0 = some y := by rw [hz'.1]; exact hz
      rw [show (x :: r).length + 1 + e = (r.length + 1 + e) + 1 by simp; omega]
      simp only [impl_each_l1]
      rw [if_pos g2, g3, k3]
      simp only [Option.bind_some]
      rw [hD _ _ (ca x (List.mem_of_getElem? g4)) (cb y (List.mem_of_getElem? (by rw [← idx_nat]; exact k3)))]
      simp only [Option.bind_some, resOf]
      by_cases c : (twoOf op x y).2 = 0
      · rw [if_pos c]
        simp only [Res.on]
        rw [if_pos (room_small (by unfold small at ha ⊢; simp; omega)), succ_w g1 hb, l_iEach1 a b sb s' ha ca cb z hz r t (j + 1) e _ g5 hz'.2 (by simp [hj]), behindT_cons (two_ok c)]
      · rw [if_neg c, behindT_err (two_err c)]; rfl
theorem l_iEach2 (a b sb s' : List Int) (ha : small a) (ca : ∀ x ∈ a, cellIn x) (cb : ∀ x ∈ b, cellIn x) (hab : a.length = b.length) : ∀ (r t : List Int) (j e : Nat) (acc : List Int), a.drop j = r → b.drop j = t → acc.length = j →
    impl_each_l2 L1 L2 Ld (r.length + 1 + e) f a a.length j sb b s' acc = some (pans (behindT s' acc (twos op r t)))
  | [], t, j, e, acc, hd, hd', hj => by
    rw [show ([] : List Int).length + 1 + e = e + 1 by simp; omega]
    simp only [impl_each_l2]
    rw [if_neg (at_nil hd)]; simp [twos, behindT, pans]
  | x :: r, t, j, e, acc, hd, hd', hj => by
    obtain ⟨g1, g2, g3, g4, g5, g6⟩ := at_cons hd
    have hb : a.length ≤ big := by unfold small at ha; rw [big_eq]; omega
    cases t with
    | nil => have := at_nil hd'; omega
    | cons y t =>
      obtain ⟨k1, k2, k3, k4, k5, k6⟩ := at_cons hd'
      rw [show (x :: r).length + 1 + e = (r.length + 1 + e) + 1 by simp; omega]
      simp only [impl_each_l2]
      rw [if_pos g2, g3, k3]
      simp only [Option.bind_some]
      rw [hD _ _ (ca x (List.mem_of_getElem? g4)) (cb y (List.mem_of_getElem? k4))]
      simp only [Option.bind_some, resOf]
      by_cases c : (twoOf op x y).2 = 0
      · rw [if_pos c]
        simp only [Res.on]
        rw [if_pos (room_small (by unfold small at ha ⊢; simp; omega)), succ_w g1 hb, l_iEach2 a b sb s' ha ca cb hab r t (j + 1) e _ g5 k5 (by simp [hj]), behindT_cons (two_ok c)]
      · rw [if_neg c, behindT_err (two_err c)]; rfl
end
def pre_impl_each (f : Nat) (s1 d1 s2 d2 : List Int) : Prop := (∃ op, (1 ≤ op ∧ op ≤ 10) ∧ f = opNo op) ∧ arrOk s1 d1 = true ∧ arrOk s2 d2 = true
open Classical in
/-- the operator that a function is -/
noncomputable def opBy (f : Nat) : Int := if h : ∃ op, (1 ≤ op ∧ op ≤ 10) ∧ f = opNo op then Classical.choose h else 0
theorem opNo_inj {a b : Int} (ha : 1 ≤ a ∧ a ≤ 10) (hb : 1 ≤ b ∧ b ≤ 10) (h : opNo a = opNo b) : a = b := by
  have ha' : a = 1 ∨ a = 2 ∨ a = 3 ∨ a = 4 ∨ a = 5 ∨ a = 6 ∨ a = 7 ∨ a = 8 ∨ a = 9 ∨ a = 10 := by omega
  have hb' : b = 1 ∨ b = 2 ∨ b = 3 ∨ b = 4 ∨ b = 5 ∨ b = 6 ∨ b = 7 ∨ b = 8 ∨ b = 9 ∨ b = 10 := by omega
  rcases ha' with rfl | rfl | rfl | rfl | rfl | rfl | rfl | rfl | rfl | rfl <;> rcases hb' with rfl | rfl | rfl | rfl | rfl | rfl | rfl | rfl | rfl | rfl <;> first | rfl | (exfalso; revert h; decide)
theorem opBy_no {op : Int} (ho : 1 ≤ op ∧ op ≤ 10) : opBy (opNo op) = op := by
  have h : ∃ o, (1 ≤ o ∧ o ≤ 10) ∧ opNo op = opNo o := ⟨op, ho, rfl⟩
  unfold opBy
  rw [dif_pos h]
  exact (opNo_inj ho (Classical.choose_spec h).1 (Classical.choose_spec h).2).symm
noncomputable def s_impl_each (f : Nat) (s1 d1 s2 d2 : List Int) : Res (List Int × List Int) := pans (each2 (opBy f) s1 d1 s2 d2)
theorem p_impl_each (L1 : List Int → Option (Res (List Int × Option Nat × List Int))) (h1 : ∀ l, pre_impl_made l → L1 l = some (s_impl_made l)) (L2 : List Int → List Int → Option Bool) (h2 : ∀ a b, pre_slices_Equal___int_int_ a b → L2 a b = some (s_slices_Equal___int_int_ a b))
    (Ld : Nat → Int → Int → Option (Res Int)) (hd : ∀ f x y, dyn_pre f x y → Ld f x y = some (dyn_s f x y)) (f : Nat) (s1 d1 s2 d2 : List Int) (h : pre_impl_each f s1 d1 s2 d2) :
    ∃ N, impl_each_f L1 L2 Ld N f s1 d1 s2 d2 = some (s_impl_each f s1 d1 s2 d2) := by
  obtain ⟨⟨op, ho, rfl⟩, ha, hb⟩ := h
  have hD : ∀ x y, cellIn x → cellIn y → Ld (opNo op) x y = some (resOf (twoOf op x y)) := fun x y hx hy => by rw [hd _ _ _ (dyn_op ho hx hy).1, (dyn_op ho hx hy).2]
  obtain ⟨a1, a2, a3, a4, a5⟩ := arrOk_small ha
  obtain ⟨b1, b2, b3, b4, b5⟩ := arrOk_small hb
  have ca := (arrOk_cells ha).1
  have cb := (arrOk_cells hb).1
  unfold impl_each_f s_impl_each each2
  rw [opBy_no ho]
  by_cases c1 : s1.length = 0
  · obtain ⟨x, rfl, hx⟩ := one_cell ha c1
    refine ⟨d2.length + 1, ?_⟩
    rw [if_pos (by omega), if_pos c1, h1 _ b1]
    simp only [Option.bind_some, s_impl_made, if_pos (arrOk_cells hb).2.1, Res.on, List.headD_cons]
    have key := l_iEach0 L1 L2 Ld (opNo op) op hD d2 [x] s1 s2 b2 cb ca x rfl d2 (List.replicate d2.length x) 0 0 [] rfl rfl rfl
    simpa using key
  · have i1 : ¬ (s1.length : Int) = 0 := by omega
    by_cases c2 : s2.length = 0
    · obtain ⟨x, rfl, hx⟩ := one_cell hb c2
      refine ⟨d1.length + 1, ?_⟩
      rw [if_neg i1, if_neg c1, if_pos (show (s2.length : Int) = 0 by omega), if_pos c2, h1 _ a1]
      simp only [Option.bind_some, s_impl_made, if_pos (arrOk_cells ha).2.1, Res.on, List.headD_cons]
      have key := l_iEach1 L1 L2 Ld (opNo op) op hD d1 [x] s2 s1 a2 ca cb x rfl d1 (List.replicate d1.length x) 0 0 [] rfl rfl rfl
      simpa using key
    · have i2 : ¬ (s2.length : Int) = 0 := by omega
      by_cases c3 : s1.length = s2.length
      · refine ⟨d1.length + 1, ?_⟩
        rw [if_neg i1, if_neg c1, if_neg i2, if_neg c2, if_pos (show (s1.length : Int) = s2.length by omega), if_pos c3, h2 _ _ a1, h1 _ a1]
        simp only [Option.bind_some, s_slices_Equal___int_int_, s_impl_made, if_pos (arrOk_cells ha).2.1, Res.on]
        by_cases c4 : s1 = s2
        · subst c4
          rw [if_neg (by simp), if_pos rfl]
          have key := l_iEach2 L1 L2 Ld (opNo op) op hD d1 d2 s1 s1 a2 ca cb (by omega) d1 d2 0 0 [] rfl rfl rfl
          simpa using key
        · rw [if_pos (by simp [c4]), if_neg c4]; rfl
      · refine ⟨0, ?_⟩
        rw [if_neg i1, if_neg c1, if_neg i2, if_neg c2, if_neg (show ¬ (s1.length : Int) = s2.length by omega), if_neg c3]; rfl
def pre_impl_Each2 (op : Int) (s1 d1 s2 d2 : List Int) : Prop := pre_spec_Each2 op s1 d1 s2 d2
def s_impl_Each2 (op : Int) (s1 d1 s2 d2 : List Int) : List Int × List Int × Int := s_spec_Each2 op s1 d1 s2 d2
theorem p_impl_Each2 (L1 : Int → Option (Alt Unit Nat)) (h1 : ∀ op, pre_impl_opOf op → L1 op = some (s_impl_opOf op)) (L2 : List Int → List Int → Option Bool) (h2 : ∀ s d, pre_impl_ArrayOk s d → L2 s d = some (s_impl_ArrayOk s d))
    (L3 : Nat → List Int → List Int → List Int → List Int → Option (Res (List Int × List Int))) (h3 : ∀ f s1 d1 s2 d2, pre_impl_each f s1 d1 s2 d2 → L3 f s1 d1 s2 d2 = some (s_impl_each f s1 d1 s2 d2))
    (L7 : D → Int → List Int → List Int → Option Int) (h7 : ∀ x a s d, pre_impl_caught x a s d → L7 (thrown x) a s d = some (s_impl_caught x a s d))
    (op : Int) (s1 d1 s2 d2 : List Int) (h : pre_impl_Each2 op s1 d1 s2 d2) : ∃ N, impl_Each2_f L1 L2 L3 L7 N op s1 d1 s2 d2 = some (s_impl_Each2 op s1 d1 s2 d2) := by
  obtain ⟨g1, g2, g3, g4⟩ := h
  refine ⟨0, ?_⟩
  unfold impl_Each2_f s_impl_Each2 s_spec_Each2
  rw [h1 _ trivial]
  simp only [Option.bind_some]
  rcases opOf_spec op with ⟨e1, e2, e3, e4⟩ | ⟨e1, e2⟩
  · rw [e2]
    simp only [Alt.on]
    rw [h2 _ _ ⟨g1, g2⟩, h2 _ _ ⟨g3, g4⟩]
    simp only [Option.bind_some, s_impl_ArrayOk]
    cases c1 : arrOk s1 d1 with
    | false => simp
    | true =>
      cases c2 : arrOk s2 d2 with
      | false => simp
      | true =>
        rw [if_neg (by simp), if_neg (by simp), if_pos ⟨⟨e3, e4⟩, rfl, rfl⟩]
        unfold impl_Each2_b_f
        rw [h3 _ _ _ _ _ ⟨⟨op, ⟨e3, e4⟩, rfl⟩, c1, c2⟩]
        simp only [Option.bind_some, s_impl_each, opBy_no ⟨e3, e4⟩]
        cases each2 op s1 d1 s2 d2 with
        | ok p => rfl
        | error c =>
          simp only [pans, Res.on]
          rw [h7 _ _ _ _ trivial]; rfl
  · rw [e2]
    simp only [s_spec_l2OpOk, decide_eq_false_iff_not] at e1
    rw [if_neg (fun q => e1 q.1)]; rfl

-- the law
theorem twos_small {op : Int} {s a b : List Int} (hs : small s) (ha : small a) (hl : a.length = b.length) : small (tri (behindT s [] (twos op a b))).1 ∧ small (tri (behindT s [] (twos op a b))).2.1 := by
  cases he : twos op a b with
  | error c => exact ⟨Nat.zero_le _, Nat.zero_le _⟩
  | ok l =>
    simp only [behindT, tri, List.nil_append]
    exact ⟨hs, by unfold small; rw [twos_len he hl]; exact ha⟩
theorem each2_small {op : Int} {s1 d1 s2 d2 : List Int} (h : small s1 ∧ small d1 ∧ small s2 ∧ small d2) : small (s_spec_Each2 op s1 d1 s2 d2).1 ∧ small (s_spec_Each2 op s1 d1 s2 d2).2.1 := by
  have z : small ([] : List Int) ∧ small ([] : List Int) := ⟨Nat.zero_le _, Nat.zero_le _⟩
  unfold s_spec_Each2
  split
  · rename_i c
    obtain ⟨_, a5⟩ := (arrOk_small c.2.1).2.2.2
    obtain ⟨_, b5⟩ := (arrOk_small c.2.2).2.2.2
    unfold each2
    split
    · exact twos_small h.2.2.1 (by unfold small; rw [List.length_replicate]; exact h.2.2.2) (by simp)
    · split
      · exact twos_small h.1 h.2.1 (by simp)
      · split
        · split
          · rename_i e; subst e
            exact twos_small h.1 h.2.1 (by omega)
          · exact z
        · exact z
  · exact z
def pre_laws_FnExactEach2 (op : Int) (s1 d1 s2 d2 : List Int) : Prop := (s1.length ≤ big ∧ d1.length ≤ big) ∧ s2.length ≤ big ∧ d2.length ≤ big
def s_laws_FnExactEach2 (op : Int) (s1 d1 s2 d2 : List Int) : Bool := true
theorem sz_left {s d : List Int} {n : Int} (hn : 0 ≤ n ∧ n ≤ 1048576) (c : ¬ s_laws_szArray s d n < 0) : small s ∧ small d ∧ 0 ≤ s_laws_szArray s d n ∧ s_laws_szArray s d n ≤ 1048576 := by
  unfold s_laws_szArray at c ⊢
  unfold small
  split at c
  · omega
  · split at c
    · omega
    · rename_i c1 c2
      rw [if_neg c1, if_neg c2]
      omega
theorem p_laws_FnExactEach2 (L0 : List Int → List Int → Int → Option Int) (h0 : ∀ s d n, pre_laws_szArray s d n → L0 s d n = some (s_laws_szArray s d n))
    (L1 : List Int → List Int → Option (List Int × List Int)) (h1 : ∀ s d, pre_laws_toArray s d → L1 s d = some (s_laws_toArray s d))
    (L2 : Int → List Int → List Int → List Int → List Int → Option (List Int × List Int × Int)) (h2 : ∀ op s d s' d', pre_spec_Each2 op s d s' d' → L2 op s d s' d' = some (s_spec_Each2 op s d s' d'))
    (L3 : Int → List Int → List Int → List Int → List Int → Option (List Int × List Int × Int)) (h3 : ∀ op s d s' d', pre_impl_Each2 op s d s' d' → L3 op s d s' d' = some (s_impl_Each2 op s d s' d'))
    (L4 : List Int → List Int → List Int → List Int → Option Bool) (h4 : ∀ s d s' d', pre_laws_eqArray s d s' d' → L4 s d s' d' = some (s_laws_eqArray s d s' d'))
    (L5 : List Int → List Int → Int → Option (Int × List Int × List Int)) (h5 : ∀ s d k, pre_laws_markArray s d k → L5 s d k = some (s_laws_markArray s d k))
    (L6 : List Int → List Int → Int → Option Int) (h6 : ∀ s d k, pre_laws_heldArray s d k → L6 s d k = some (s_laws_heldArray s d k))
    (op : Int) (s d s' d' : List Int) (h : pre_laws_FnExactEach2 op s d s' d') : ∃ N, laws_FnExactEach2_f L0 L1 L2 L3 L4 L5 L6 N op s d s' d' = some (s_laws_FnExactEach2 op s d s' d') := by
  refine ⟨0, ?_⟩
  unfold laws_FnExactEach2_f s_laws_FnExactEach2
  rw [h0 _ _ _ ⟨h.1.1, h.1.2, by omega, by omega⟩]
  simp only [Option.bind_some]
  by_cases c : s_laws_szArray s d 1048576 < 0
  · rw [if_pos c]
  · rw [if_neg c]
    obtain ⟨q1, q2, q3, q4⟩ := sz_left (by omega) c
    rw [h0 _ _ _ ⟨h.2.1, h.2.2, q3, q4⟩]
    simp only [Option.bind_some]
    by_cases c' : s_laws_szArray s' d' (s_laws_szArray s d 1048576) < 0
    · rw [if_pos c']
    · rw [if_neg c']
      obtain ⟨r1, r2, r3, r4⟩ := sz_left ⟨q3, q4⟩ c'
      have q1' : s.length ≤ 1048576 := q1
      have q2' : d.length ≤ 1048576 := q2
      have hg := each2_small (op := op) ⟨q1, q2, r1, r2⟩
      have hs : small s ∧ small d := ⟨q1, q2⟩
      have hs' : small s' ∧ small d' := ⟨r1, r2⟩
      have hss : pre_spec_Each2 op s d s' d' := ⟨q1, q2, r1, r2⟩
      have hm1 := h5 s d 1 ⟨q1, q2, by omega, by omega⟩
      have hk0 : 0 ≤ (s_laws_markArray s d 1).1 ∧ (s_laws_markArray s d 1).1 ≤ 4194304 := by
        unfold s_laws_markArray
        simp only
        omega
      have hm2 := h5 s' d' (s_laws_markArray s d 1).1 ⟨r1, r2, hk0.1, hk0.2⟩
      have hm3 := h5 _ _ 1 ⟨hg.1, hg.2, by omega, by omega⟩
      have hm : small (s_laws_markArray (s_spec_Each2 op s d s' d').1 (s_spec_Each2 op s d s' d').2.1 1).2.1 ∧ small (s_laws_markArray (s_spec_Each2 op s d s' d').1 (s_spec_Each2 op s d s' d').2.1 1).2.2 := by
        unfold s_laws_markArray small
        simp only [upFrom_len]
        exact hg
      have hh := h6 _ _ 1 ⟨hm.1, hm.2, by omega, by omega⟩
      simp only [h1 _ _ hs, h1 _ _ hs', Option.bind_some, s_laws_toArray, h2 _ _ _ _ _ hss, h3 _ _ _ _ _ hss, s_impl_Each2, h4 _ _ _ _ hg, h4 _ _ _ _ hs, h4 _ _ _ _ hs', eqA_refl, hm1, hm2, hm3, hh, held_marks]
      have hk : ∀ (s d : List Int) (k : Int), 0 ≤ k → ¬ (s_laws_markArray s d k).1 < 0 := by intro s d k hk; unfold s_laws_markArray; simp only; omega
      simp [hk, hk0.1]
theorem pre_of_laws_FnExactEach2 {op : Int} {s d s' d' : List Int} (ho : (Lit.int .i64 op).wf = true) (hs : s.length ≤ maxLen ∧ ∀ x ∈ s, (Lit.int .i64 x).wf = true) (hd : d.length ≤ maxLen ∧ ∀ x ∈ d, (Lit.int .i64 x).wf = true)
    (hs' : s'.length ≤ maxLen ∧ ∀ x ∈ s', (Lit.int .i64 x).wf = true) (hd' : d'.length ≤ maxLen ∧ ∀ x ∈ d', (Lit.int .i64 x).wf = true) : pre_laws_FnExactEach2 op s d s' d' := ⟨⟨hs.1, hd.1⟩, hs'.1, hd'.1⟩
end Go.Vm
