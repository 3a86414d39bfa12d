/- Arrays: what the functions under all kernels answer. -/
import Derived.Test.YtbfmeoiblppnbaaPBase
import Derived.Test.YtbfmeoiblppnbaaFBas
set_option linter.unusedVariables false
set_option linter.unusedSimpArgs false
namespace Go.Vm

-- szIntS
def pre_laws_szIntS (l : List Int) (left : Int) : Prop := l.length ≤ big ∧ 0 ≤ left ∧ left ≤ 1048576
def s_laws_szIntS (l : List Int) (left : Int) : Int := if left < l.length then -1 else left - l.length
theorem p_laws_szIntS (l : List Int) (left : Int) (h : pre_laws_szIntS l left) : ∃ N, laws_szIntS_f N l left = some (s_laws_szIntS l left) := by
  obtain ⟨h1, h2, h3⟩ := h
  rw [big_eq] at h1
  refine ⟨0, ?_⟩
  unfold laws_szIntS_f s_laws_szIntS
  rw [w64_in (by omega)]
  split <;> split <;> first | rfl | omega

-- szArray
def pre_laws_szArray (s d : List Int) (left : Int) : Prop := s.length ≤ big ∧ d.length ≤ big ∧ 0 ≤ left ∧ left ≤ 1048576
def s_laws_szArray (s d : List Int) (left : Int) : Int := if left < s.length then -1 else if left - s.length < d.length then -1 else left - s.length - d.length
theorem p_laws_szArray (L : List Int → Int → Option Int) (hL : ∀ l n, pre_laws_szIntS l n → L l n = some (s_laws_szIntS l n)) (s d : List Int) (left : Int) (h : pre_laws_szArray s d left) :
    ∃ N, laws_szArray_f L N s d left = some (s_laws_szArray s d left) := by
  obtain ⟨h1, h2, h3, h4⟩ := h
  refine ⟨0, ?_⟩
  unfold laws_szArray_f s_laws_szArray
  rw [hL _ _ ⟨h1, h3, h4⟩]
  simp only [Option.bind_some, s_laws_szIntS]
  by_cases c1 : left < s.length
  · rw [if_pos c1, if_pos (by omega), if_pos c1]
  · rw [if_neg c1, if_neg (by omega), if_neg c1, hL _ _ ⟨h2, by omega, by omega⟩]
    simp only [Option.bind_some, s_laws_szIntS]
    by_cases c2 : left - s.length < d.length
    · rw [if_pos c2, if_pos (by omega)]
    · rw [if_neg c2, if_neg (by omega)]

-- toIntS
def small (l : List Int) : Prop := l.length ≤ 1048576
theorem l_toIntS (l : List Int) (hl : small l) : ∀ (r : List Int) (j e : Nat) (z : List Int), l.drop j = r → z.length = l.length → z.take j = l.take j → laws_toIntS_l0 (r.length + 1 + e) l j z = some l
  | [], j, e, z, hd, hz, ht => by
    have h := at_nil hd
    have hj : l.length ≤ j := by omega
    rw [show ([] : List Int).length + 1 + e = e + 1 by simp; omega]
    simp only [laws_toIntS_l0]
    rw [if_neg h, ← List.take_of_length_le (show z.length ≤ j by omega), ht, List.take_of_length_le hj]
  | x :: r, j, e, z, hd, hz, ht => by
    obtain ⟨h1, h2, h3, h4, h5, h6⟩ := at_cons hd
    have hb : l.length ≤ big := by unfold small at hl; rw [big_eq]; omega
    rw [show (x :: r).length + 1 + e = (r.length + 1 + e) + 1 by simp; omega]
    simp only [laws_toIntS_l0]
    rw [if_pos h2, h3]
    simp only [Option.bind_some]
    rw [if_pos (by omega), Int.toNat_natCast, setN, if_pos (by omega)]
    simp only [Option.bind_some]
    rw [succ_w h1 hb]
    refine l_toIntS l hl r (j + 1) e (z.set j x) h5 (by simp [hz]) ?_
    rw [List.take_add_one, List.take_add_one, List.getElem?_set_self (by omega), h4, List.take_set_of_le (Nat.le_refl j), ht]
def pre_laws_toIntS (l : List Int) : Prop := small l
def s_laws_toIntS (l : List Int) : List Int := l
theorem p_laws_toIntS (l : List Int) (h : pre_laws_toIntS l) : ∃ N, laws_toIntS_f N l = some (s_laws_toIntS l) := by
  refine ⟨l.length + 1, ?_⟩
  unfold laws_toIntS_f s_laws_toIntS
  have h' : l.length ≤ 1048576 := h
  rw [if_pos (by unfold mkOk roomB; omega)]
  exact l_toIntS l h l 0 0 _ rfl (by simp) rfl

-- toArray
def pre_laws_toArray (s d : List Int) : Prop := small s ∧ small d
def s_laws_toArray (s d : List Int) : List Int × List Int := (s, d)
theorem p_laws_toArray (L : List Int → Option (List Int)) (hL : ∀ l, pre_laws_toIntS l → L l = some (s_laws_toIntS l)) (s d : List Int) (h : pre_laws_toArray s d) :
    ∃ N, laws_toArray_f L N s d = some (s_laws_toArray s d) := by
  refine ⟨0, ?_⟩
  unfold laws_toArray_f
  rw [hL _ h.1, hL _ h.2]; rfl

-- eqIntS
theorem l_eqIntS (a b : List Int) (ha : small a) (hab : a.length = b.length) : ∀ (r t : List Int) (j e : Nat), a.drop j = r → b.drop j = t → laws_eqIntS_l0 (r.length + 1 + e) a b j = some (decide (r = t))
  | [], t, j, e, hd, hd' => by
    have h := at_nil hd
    rw [show ([] : List Int).length + 1 + e = e + 1 by simp; omega]
    simp only [laws_eqIntS_l0]
    have : t = [] := by rw [← hd']; exact List.drop_eq_nil_of_le (by omega)
    rw [if_neg h, this]; rfl
  | x :: r, t, j, e, hd, hd' => by
    obtain ⟨h1, h2, h3, h4, h5, h6⟩ := at_cons hd
    have hb : a.length ≤ big := by unfold small at ha; rw [big_eq]; omega
    cases t with
    | nil => have := at_nil hd'; omega
    | cons y t =>
      obtain ⟨g1, g2, g3, g4, g5, g6⟩ := at_cons hd'
      rw [show (x :: r).length + 1 + e = (r.length + 1 + e) + 1 by simp; omega]
      simp only [laws_eqIntS_l0]
      rw [if_pos h2, h3, g3]
      simp only [Option.bind_some]
      rw [succ_w h1 hb, l_eqIntS a b ha hab r t (j + 1) e h5 g5]
      by_cases c : x = y
      · rw [if_pos c]; simp [c]
      · rw [if_neg c]; simp [c]
def pre_laws_eqIntS (a b : List Int) : Prop := small a
def s_laws_eqIntS (a b : List Int) : Bool := decide (a = b)
theorem p_laws_eqIntS (a b : List Int) (h : pre_laws_eqIntS a b) : ∃ N, laws_eqIntS_f N a b = some (s_laws_eqIntS a b) := by
  refine ⟨a.length + 1, ?_⟩
  unfold laws_eqIntS_f s_laws_eqIntS
  by_cases c : (a.length : Int) = b.length
  · rw [if_pos c]
    exact l_eqIntS a b h (by omega) a b 0 0 rfl rfl
  · rw [if_neg c]
    have : ¬ a = b := by rintro rfl; exact c rfl
    simp [this]

-- eqArray
def pre_laws_eqArray (s d s' d' : List Int) : Prop := small s ∧ small d
def s_laws_eqArray (s d s' d' : List Int) : Bool := decide (s = s') && decide (d = d')
theorem p_laws_eqArray (L : List Int → List Int → Option Bool) (hL : ∀ a b, pre_laws_eqIntS a b → L a b = some (s_laws_eqIntS a b)) (s d s' d' : List Int) (h : pre_laws_eqArray s d s' d') :
    ∃ N, laws_eqArray_f L N s d s' d' = some (s_laws_eqArray s d s' d') := by
  refine ⟨0, ?_⟩
  unfold laws_eqArray_f s_laws_eqArray
  rw [hL _ _ h.1, hL _ _ h.2]
  simp only [Option.bind_some, s_laws_eqIntS]
  by_cases c : s = s' <;> by_cases c' : d = d' <;> simp [c, c']

-- a shape: axes that may be, and few cells
def axOk (x : Int) : Bool := decide (0 ≤ x) && decide (x ≤ 1000)
def stepP (p x : Int) : Int := if 1000 < w64 (p * x) then 1001 else w64 (p * x)
theorem l_product (l : List Int) (hl : small l) : ∀ (r : List Int) (j e : Nat) (p : Int), l.drop j = r → spec_l1Product_l0 (r.length + 1 + e) l p j = some (r.foldl stepP p)
  | [], j, e, p, hd => by
    rw [show ([] : List Int).length + 1 + e = e + 1 by simp; omega]
    simp only [spec_l1Product_l0]
    rw [if_neg (at_nil hd)]; rfl
  | x :: r, j, e, p, hd => by
    obtain ⟨h1, h2, h3, h4, h5, h6⟩ := at_cons hd
    have hb : l.length ≤ big := by unfold small at hl; rw [big_eq]; omega
    rw [show (x :: r).length + 1 + e = (r.length + 1 + e) + 1 by simp; omega]
    simp only [spec_l1Product_l0]
    rw [if_pos h2, h3]
    simp only [Option.bind_some, List.foldl_cons, succ_w h1 hb]
    unfold stepP
    by_cases c : 1000 < w64 (p * x)
    · rw [if_pos c, if_pos c, l_product l hl r (j + 1) e _ h5]; rfl
    · rw [if_neg c, if_neg c, l_product l hl r (j + 1) e _ h5]; rfl
def pre_spec_l1Product (l : List Int) : Prop := small l
def s_spec_l1Product (l : List Int) : Int := l.foldl stepP 1
theorem p_spec_l1Product (l : List Int) (h : pre_spec_l1Product l) : ∃ N, spec_l1Product_f N l = some (s_spec_l1Product l) :=
  ⟨l.length + 1, l_product l h l 0 0 1 rfl⟩

theorem l_fits (L : List Int → Option Int) (l : List Int) (hl : small l) (q : Int) (hq : L l = some q) : ∀ (r : List Int) (j e : Nat), l.drop j = r →
    spec_l1Fits_l0 L (r.length + 1 + e) l j = some (r.all axOk && decide (q ≤ 1000))
  | [], j, e, hd => by
    rw [show ([] : List Int).length + 1 + e = e + 1 by simp; omega]
    simp only [spec_l1Fits_l0]
    rw [if_neg (at_nil hd), hq]; rfl
  | x :: r, j, e, hd => by
    obtain ⟨h1, h2, h3, h4, h5, h6⟩ := at_cons hd
    have hb : l.length ≤ big := by unfold small at hl; rw [big_eq]; omega
    rw [show (x :: r).length + 1 + e = (r.length + 1 + e) + 1 by simp; omega]
    simp only [spec_l1Fits_l0]
    rw [if_pos h2, h3]
    simp only [Option.bind_some, succ_w h1 hb, List.all_cons, axOk]
    by_cases c1 : x < 0
    · rw [if_pos c1]; simp; omega
    · rw [if_neg c1]
      by_cases c2 : 1000 < x
      · rw [if_pos c2]; simp; omega
      · rw [if_neg c2, l_fits L l hl q hq r (j + 1) e h5]
        have e1 : decide (0 ≤ x) = true := by simp; omega
        have e2 : decide (x ≤ 1000) = true := by simp; omega
        rw [e1, e2]; simp
def fits (l : List Int) : Bool := decide (l.length ≤ 3) && l.all axOk && decide (l.foldl stepP 1 ≤ 1000)
def pre_spec_l1Fits (l : List Int) : Prop := small l
def s_spec_l1Fits (l : List Int) : Bool := fits l
theorem p_spec_l1Fits (L : List Int → Option Int) (hL : ∀ l, pre_spec_l1Product l → L l = some (s_spec_l1Product l)) (l : List Int) (h : pre_spec_l1Fits l) : ∃ N, spec_l1Fits_f L N l = some (s_spec_l1Fits l) := by
  refine ⟨l.length + 1, ?_⟩
  unfold spec_l1Fits_f s_spec_l1Fits fits
  by_cases c : (3 : Int) < l.length
  · have : ¬ l.length ≤ 3 := by omega
    rw [if_pos c]; simp [this]
  · have : l.length ≤ 3 := by omega
    rw [if_neg c]
    have q := l_fits L l h _ (hL l h) l 0 0 rfl
    rw [show l.length + 1 + 0 = l.length + 1 by rfl] at q
    rw [show ((0 : Nat) : Int) = 0 by rfl] at q
    rw [q]; simp only [this, s_spec_l1Product, decide_true, Bool.true_and]; rfl

-- cells
def cellOk (x : Int) : Bool := decide (-3000000000 ≤ x) && decide (x ≤ 3000000000)
theorem l_specArrayOk (L1 : List Int → Option Bool) (L2 : List Int → Option Int) (s l : List Int) (hl : small l) : ∀ (r : List Int) (j e : Nat), l.drop j = r →
    spec_ArrayOk_l0 L1 L2 (r.length + 1 + e) j s l = some (r.all cellOk)
  | [], j, e, hd => by
    rw [show ([] : List Int).length + 1 + e = e + 1 by simp; omega]
    simp only [spec_ArrayOk_l0]
    rw [if_neg (at_nil hd)]; rfl
  | x :: r, j, e, hd => by
    obtain ⟨h1, h2, h3, h4, h5, h6⟩ := at_cons hd
    have hb : l.length ≤ big := by unfold small at hl; rw [big_eq]; omega
    rw [show (x :: r).length + 1 + e = (r.length + 1 + e) + 1 by simp; omega]
    simp only [spec_ArrayOk_l0]
    rw [if_pos h2, h3]
    simp only [Option.bind_some, succ_w h1 hb, List.all_cons, cellOk]
    by_cases c1 : x < -3000000000
    · rw [if_pos c1]; simp; omega
    · rw [if_neg c1]
      by_cases c2 : 3000000000 < x
      · rw [if_pos c2]; simp; omega
      · rw [if_neg c2, l_specArrayOk L1 L2 s l hl r (j + 1) e h5]
        have e1 : decide (-3000000000 ≤ x) = true := by simp; omega
        have e2 : decide (x ≤ 3000000000) = true := by simp; omega
        rw [e1, e2]; simp
def arrOk (s d : List Int) : Bool := fits s && decide ((d.length : Int) = s.foldl stepP 1) && d.all cellOk
def pre_spec_ArrayOk (s d : List Int) : Prop := small s ∧ small d
def s_spec_ArrayOk (s d : List Int) : Bool := arrOk s d
theorem p_spec_ArrayOk (L1 : List Int → Option Bool) (h1 : ∀ l, pre_spec_l1Fits l → L1 l = some (s_spec_l1Fits l)) (L2 : List Int → Option Int) (h2 : ∀ l, pre_spec_l1Product l → L2 l = some (s_spec_l1Product l))
    (s d : List Int) (h : pre_spec_ArrayOk s d) : ∃ N, spec_ArrayOk_f L1 L2 N s d = some (s_spec_ArrayOk s d) := by
  refine ⟨d.length + 1, ?_⟩
  unfold spec_ArrayOk_f s_spec_ArrayOk arrOk
  rw [h1 _ h.1, h2 _ h.1]
  simp only [Option.bind_some, s_spec_l1Fits, s_spec_l1Product]
  have q := l_specArrayOk L1 L2 s d h.2 d 0 0 rfl
  rw [show d.length + 1 + 0 = d.length + 1 by rfl, show ((0 : Nat) : Int) = 0 by rfl] at q
  rw [q]
  cases fits s
  · simp
  · by_cases c : (d.length : Int) = s.foldl stepP 1 <;> simp [c]

-- the program's own
theorem l_cellsOf (l : List Int) (hl : small l) : ∀ (r : List Int) (j e : Nat) (p : Int), l.drop j = r →
    impl_cellsOf_l0 (r.length + 1 + e) p l l.length j = some (if r.all axOk = true then (r.foldl (fun p x => w64 (p * x)) p, decide (r.foldl (fun p x => w64 (p * x)) p ≤ 1000)) else (0, false))
  | [], j, e, p, hd => by
    rw [show ([] : List Int).length + 1 + e = e + 1 by simp; omega]
    simp only [impl_cellsOf_l0]
    rw [if_neg (at_nil hd)]; rfl
  | x :: r, j, e, p, hd => by
    obtain ⟨h1, h2, h3, h4, h5, h6⟩ := at_cons hd
    have hb : l.length ≤ big := by unfold small at hl; rw [big_eq]; omega
    rw [show (x :: r).length + 1 + e = (r.length + 1 + e) + 1 by simp; omega]
    simp only [impl_cellsOf_l0]
    rw [if_pos h2, h3]
    simp only [Option.bind_some, succ_w h1 hb, List.all_cons, axOk, List.foldl_cons]
    by_cases c1 : x < 0
    · rw [if_pos c1]; simp; omega
    · rw [if_neg c1]
      by_cases c2 : 1000 < x
      · rw [if_pos c2]; simp; omega
      · rw [if_neg c2, l_cellsOf l hl r (j + 1) e _ h5]
        have e1 : decide (0 ≤ x) = true := by simp; omega
        have e2 : decide (x ≤ 1000) = true := by simp; omega
        simp only [e1, e2, Bool.true_and]; rfl
def stepW (p x : Int) : Int := w64 (p * x)
/-- the reference's product is cut at 1001 -/
def cutAt (p q : Int) : Prop := (p ≤ 1000 → q = p) ∧ (1000 < p → q = 1001)
theorem fold_cut : ∀ (l : List Int) (p q B : Int), 0 ≤ p → p ≤ B → B * 1000 ^ l.length ≤ 1000000000 → l.all axOk = true → cutAt p q → cutAt (l.foldl stepW p) (l.foldl stepP q)
  | [], p, q, B, h0, hB, hm, ha, hc => hc
  | x :: l, p, q, B, h0, hB, hm, ha, hc => by
    simp only [List.all_cons, Bool.and_eq_true, axOk, decide_eq_true_eq] at ha
    obtain ⟨⟨x0, x1⟩, ha⟩ := ha
    have hB0 : 0 ≤ B := Int.le_trans h0 hB
    have hp1 : p * x ≤ B * 1000 := Int.mul_le_mul hB x1 x0 hB0
    have hp0 : 0 ≤ p * x := Int.mul_nonneg h0 x0
    have hm' : (B * 1000) * 1000 ^ l.length ≤ 1000000000 := by
      rw [List.length_cons, Int.pow_succ, Int.mul_comm (1000 ^ l.length) 1000, ← Int.mul_assoc] at hm
      exact hm
    have hpow : (1 : Int) ≤ 1000 ^ l.length := Int.pow_pos (by omega)
    have hBs : B * 1000 ≤ 1000000000 := by
      have := Int.mul_le_mul_of_nonneg_left hpow (show 0 ≤ B * 1000 by omega)
      omega
    simp only [List.foldl_cons]
    have e1 : stepW p x = p * x := by unfold stepW; exact w64_in (by omega)
    rw [e1]
    refine fold_cut l (p * x) _ (B * 1000) hp0 hp1 hm' ha ?_
    by_cases c : p ≤ 1000
    · rw [hc.1 c]
      unfold stepP
      rw [w64_in (by omega)]
      constructor
      · intro h; rw [if_neg (by omega)]
      · intro h; rw [if_pos h]
    · rw [hc.2 (by omega)]
      unfold stepP
      rw [w64_in (by omega)]
      by_cases cx : x = 0
      · subst cx
        simp only [Int.mul_zero]
        exact ⟨fun _ => by simp, fun h => by omega⟩
      · have hx1 : 1 ≤ x := by omega
        have hge : p * 1 ≤ p * x := Int.mul_le_mul_of_nonneg_left hx1 h0
        constructor
        · intro h; omega
        · intro h; rw [if_pos (by omega)]
theorem fold_fits (l : List Int) (hl : l.length ≤ 3) (ha : l.all axOk = true) : cutAt (l.foldl stepW 1) (l.foldl stepP 1) := by
  refine fold_cut l 1 1 1 (by omega) (by omega) ?_ ha ⟨fun _ => rfl, fun h => by omega⟩
  rw [Int.one_mul]
  have : l.length = 0 ∨ l.length = 1 ∨ l.length = 2 ∨ l.length = 3 := by omega
  rcases this with h | h | h | h <;> rw [h] <;> decide
def pre_impl_cellsOf (l : List Int) : Prop := small l
def s_impl_cellsOf (l : List Int) : Int × Bool := if decide (l.length ≤ 3) && l.all axOk then (l.foldl stepW 1, decide (l.foldl stepW 1 ≤ 1000)) else (0, false)
theorem p_impl_cellsOf (l : List Int) (h : pre_impl_cellsOf l) : ∃ N, impl_cellsOf_f N l = some (s_impl_cellsOf l) := by
  refine ⟨l.length + 1, ?_⟩
  unfold impl_cellsOf_f s_impl_cellsOf
  by_cases c : (3 : Int) < l.length
  · have : ¬ l.length ≤ 3 := by omega
    rw [if_pos c]; simp [this]
  · have : l.length ≤ 3 := by omega
    rw [if_neg c]
    have q := l_cellsOf l h l 0 0 1 rfl
    rw [show l.length + 1 + 0 = l.length + 1 by rfl, show ((0 : Nat) : Int) = 0 by rfl] at q
    rw [q]
    simp only [this, decide_true, Bool.true_and]
    rfl
/-- what cellsOf tells, in the reference's words -/
theorem cellsOf_fits (l : List Int) : (s_impl_cellsOf l).2 = fits l ∧ (fits l = true → (s_impl_cellsOf l).1 = l.foldl stepP 1) := by
  unfold s_impl_cellsOf fits
  by_cases c : l.length ≤ 3
  · cases ha : l.all axOk with
    | false => simp
    | true =>
      have hc := fold_fits l c ha
      simp only [c, decide_true, Bool.true_and, if_true]
      by_cases h : l.foldl stepW 1 ≤ 1000
      · rw [hc.1 h]; exact ⟨rfl, fun _ => rfl⟩
      · have e := hc.2 (by omega)
        rw [e]
        refine ⟨by simp [h], fun q => by simp at q⟩
  · simp [c]

theorem l_implArrayOk (L : List Int → Option (Int × Bool)) (l : List Int) (hl : small l) : ∀ (r : List Int) (j e : Nat), l.drop j = r → impl_ArrayOk_l0 L (r.length + 1 + e) l l.length j = some (r.all cellOk)
  | [], j, e, hd => by
    rw [show ([] : List Int).length + 1 + e = e + 1 by simp; omega]
    simp only [impl_ArrayOk_l0]
    rw [if_neg (at_nil hd)]; rfl
  | x :: r, j, e, hd => by
    obtain ⟨h1, h2, h3, h4, h5, h6⟩ := at_cons hd
    have hb : l.length ≤ big := by unfold small at hl; rw [big_eq]; omega
    rw [show (x :: r).length + 1 + e = (r.length + 1 + e) + 1 by simp; omega]
    simp only [impl_ArrayOk_l0]
    rw [if_pos h2, h3]
    simp only [Option.bind_some, succ_w h1 hb, List.all_cons, cellOk]
    by_cases c1 : x < -3000000000
    · rw [if_pos c1]; simp; omega
    · rw [if_neg c1]
      by_cases c2 : 3000000000 < x
      · rw [if_pos c2]; simp; omega
      · rw [if_neg c2, l_implArrayOk L l hl r (j + 1) e h5]
        have e1 : decide (-3000000000 ≤ x) = true := by simp; omega
        have e2 : decide (x ≤ 3000000000) = true := by simp; omega
        rw [e1, e2]; simp
def pre_impl_ArrayOk (s d : List Int) : Prop := small s ∧ small d
def s_impl_ArrayOk (s d : List Int) : Bool := arrOk s d
theorem p_impl_ArrayOk (L : List Int → Option (Int × Bool)) (hL : ∀ l, pre_impl_cellsOf l → L l = some (s_impl_cellsOf l)) (s d : List Int) (h : pre_impl_ArrayOk s d) :
    ∃ N, impl_ArrayOk_f L N s d = some (s_impl_ArrayOk s d) := by
  refine ⟨d.length + 1, ?_⟩
  unfold impl_ArrayOk_f s_impl_ArrayOk arrOk
  rw [hL _ h.1]
  simp only [Option.bind_some]
  obtain ⟨e1, e2⟩ := cellsOf_fits s
  rw [e1]
  have q := l_implArrayOk L d h.2 d 0 0 rfl
  rw [show d.length + 1 + 0 = d.length + 1 by rfl, show ((0 : Nat) : Int) = 0 by rfl] at q
  rw [q]
  cases hf : fits s with
  | false => simp
  | true =>
    rw [e2 hf]
    by_cases c : s.foldl stepP 1 = (d.length : Int)
    · simp [c]
    · have c' : ¬ (d.length : Int) = s.foldl stepP 1 := fun q => c q.symm
      simp [c, c']

-- copies
def pre_spec_l2Copy (l : List Int) : Prop := small l
def s_spec_l2Copy (l : List Int) : List Int := l
theorem room_small {l : List Int} (h : small l) : room 8 l.length := by
  have h' : l.length ≤ 1048576 := h
  unfold room roomB; omega
theorem p_spec_l2Copy (l : List Int) (h : pre_spec_l2Copy l) : ∃ N, spec_l2Copy_f N l = some (s_spec_l2Copy l) := by
  refine ⟨0, ?_⟩
  unfold spec_l2Copy_f s_spec_l2Copy
  rw [if_pos (room_small h)]
def pre_slices_Clone___int_int_ (l : List Int) : Prop := small l
def s_slices_Clone___int_int_ (l : List Int) : List Int := l
theorem p_slices_Clone___int_int_ (l : List Int) (h : pre_slices_Clone___int_int_ l) : (∃ N, slices_Clone___int_int__S_f N l = some (s_slices_Clone___int_int_ l)) ∧ (∃ N, slices_Clone___int_int__N_f N = some (s_slices_Clone___int_int_ [])) := by
  refine ⟨⟨0, ?_⟩, 0, rfl⟩
  unfold slices_Clone___int_int__S_f s_slices_Clone___int_int_
  rw [if_pos (room_small h)]

-- what was made
def pre_impl_made (l : List Int) : Prop := small l
/-- a code that is thrown -/
def thrown (c : Int) : D := .ifaceS 90 [.int .i64 c]
def s_impl_made (l : List Int) : Res (List Int × Option Nat × List Int) := if fits l = true then .ok (l, some (s_impl_cellsOf l).1.toNat, []) else .pan (thrown 6)
theorem fits_range {l : List Int} (h : fits l = true) : 0 ≤ l.foldl stepP 1 ∧ l.foldl stepP 1 ≤ 1000 := by
  unfold fits at h
  simp only [Bool.and_eq_true, decide_eq_true_eq] at h
  refine ⟨?_, h.2⟩
  have key : ∀ (l : List Int) (p : Int), 0 ≤ p → p ≤ 1001 → l.all axOk = true → 0 ≤ l.foldl stepP p := by
    intro l
    induction l with
    | nil => intro p h _ _; exact h
    | cons x l ih =>
      intro p h0 h1 ha
      simp only [List.all_cons, Bool.and_eq_true, axOk, decide_eq_true_eq] at ha
      obtain ⟨⟨x0, x1⟩, ha⟩ := ha
      have hp0 : 0 ≤ p * x := Int.mul_nonneg h0 x0
      have hp1 : p * x ≤ 1001 * 1000 := Int.mul_le_mul h1 x1 x0 (by omega)
      rw [List.foldl_cons]
      refine ih _ ?_ ?_ ha
      · unfold stepP; rw [w64_in (by omega)]; split <;> omega
      · unfold stepP; rw [w64_in (by omega)]; split <;> omega
  exact key l 1 (by omega) (by omega) h.1.2
theorem p_impl_made (L1 : List Int → Option (Int × Bool)) (h1 : ∀ l, pre_impl_cellsOf l → L1 l = some (s_impl_cellsOf l)) (L2 : List Int → Option (List Int)) (h2 : ∀ l, pre_slices_Clone___int_int_ l → L2 l = some (s_slices_Clone___int_int_ l))
    (l : List Int) (h : pre_impl_made l) : ∃ N, impl_made_f L1 L2 N l = some (s_impl_made l) := by
  refine ⟨0, ?_⟩
  unfold impl_made_f s_impl_made
  rw [h1 _ h, h2 _ h]
  simp only [Option.bind_some]
  obtain ⟨e1, e2⟩ := cellsOf_fits l
  rw [e1]
  cases hf : fits l with
  | false => simp [thrown]
  | true =>
    have hr := fits_range hf
    have e := e2 hf
    rw [if_neg (by simp), if_pos (by unfold mkOk roomB; rw [e]; omega)]
    simp [s_slices_Clone___int_int_]

-- what is recovered
def pre_impl_caught (x a0 : Int) (s d : List Int) : Prop := True
def s_impl_caught (x a0 : Int) (s d : List Int) : Int := x
theorem p_impl_caught (x a0 : Int) (s d : List Int) (h : pre_impl_caught x a0 s d) : ∃ N, impl_caught_f N x a0 s d = some (s_impl_caught x a0 s d) := ⟨0, rfl⟩

-- marks: what was handed over may be written
/-- numbers from k on -/
def upFrom (k : Int) : Nat → List Int
  | 0 => []
  | n + 1 => k :: upFrom (k + 1) n
theorem upFrom_len : ∀ (n : Nat) (k : Int), (upFrom k n).length = n
  | 0, _ => rfl
  | n + 1, k => by simp [upFrom, upFrom_len n]
def pre_laws_markIntS (l : List Int) (k : Int) : Prop := small l ∧ 0 ≤ k ∧ k ≤ 16777216
def s_laws_markIntS (l : List Int) (k : Int) : Int × List Int := (k + l.length, upFrom k l.length)
theorem l_markIntS (n : Nat) (hn : n ≤ 1048576) : ∀ (m j e : Nat) (k : Int) (z y : List Int), j + m = n → z.length = n → 0 ≤ k → k + m ≤ 33554432 → z.take j = y → laws_markIntS_l0 (m + 1 + e) k j z = some (k + m, y ++ upFrom k m)
  | 0, j, e, k, z, y, hj, hz, h0, h1, ht => by
    rw [show 0 + 1 + e = e + 1 by omega]
    simp only [laws_markIntS_l0]
    rw [if_neg (by omega)]
    have : z = y := by rw [← ht, List.take_of_length_le (by omega)]
    simp [upFrom, this]
  | m + 1, j, e, k, z, y, hj, hz, h0, h1, ht => by
    rw [show m + 1 + 1 + e = (m + 1 + e) + 1 by omega]
    simp only [laws_markIntS_l0]
    rw [if_pos (by omega), if_pos (by omega), Int.toNat_natCast, setN, if_pos (by omega)]
    simp only [Option.bind_some]
    rw [w64_in (by omega), succ_w (n := n) (by omega) (by rw [big_eq]; omega)]
    rw [l_markIntS n hn m (j + 1) e (k + 1) (z.set j k) (y ++ [k]) (by omega) (by simp [hz]) (by omega) (by omega) (by
      rw [List.take_add_one, List.getElem?_set_self (by omega), List.take_set_of_le (Nat.le_refl j), ht]; rfl)]
    simp [upFrom]
    omega
theorem p_laws_markIntS (l : List Int) (k : Int) (h : pre_laws_markIntS l k) : ∃ N, laws_markIntS_f N l k = some (s_laws_markIntS l k) := by
  obtain ⟨h1, h2, h3⟩ := h
  refine ⟨l.length + 1, ?_⟩
  unfold laws_markIntS_f s_laws_markIntS
  have h1' : l.length ≤ 1048576 := h1
  have := l_markIntS l.length h1 l.length 0 0 k l [] (by omega) rfl h2 (by omega) rfl
  simpa using this

def pre_laws_markArray (s d : List Int) (k : Int) : Prop := small s ∧ small d ∧ 0 ≤ k ∧ k ≤ 4194304
def s_laws_markArray (s d : List Int) (k : Int) : Int × List Int × List Int := (k + s.length + d.length, upFrom k s.length, upFrom (k + s.length) d.length)
theorem p_laws_markArray (L : List Int → Int → Option (Int × List Int)) (hL : ∀ l k, pre_laws_markIntS l k → L l k = some (s_laws_markIntS l k)) (s d : List Int) (k : Int) (h : pre_laws_markArray s d k) :
    ∃ N, laws_markArray_f L N s d k = some (s_laws_markArray s d k) := by
  obtain ⟨h1, h2, h3, h4⟩ := h
  have h1' : s.length ≤ 1048576 := h1
  refine ⟨0, ?_⟩
  unfold laws_markArray_f
  rw [hL _ _ ⟨h1, h3, by omega⟩]
  simp only [Option.bind_some, s_laws_markIntS]
  rw [hL _ _ ⟨h2, by omega, by omega⟩]
  rfl

def pre_laws_heldIntS (l : List Int) (k : Int) : Prop := small l ∧ 0 ≤ k ∧ k ≤ 16777216
def s_laws_heldIntS (l : List Int) (k : Int) : Int := if l = upFrom k l.length then k + l.length else -1
theorem l_heldIntS (l : List Int) (hl : small l) : ∀ (r : List Int) (j e : Nat) (k : Int), l.drop j = r → 0 ≤ k → k + r.length ≤ 33554432 →
    laws_heldIntS_l0 (r.length + 1 + e) l k j = some (if r = upFrom k r.length then k + r.length else -1)
  | [], j, e, k, hd, h0, h1 => by
    rw [show ([] : List Int).length + 1 + e = e + 1 by simp; omega]
    simp only [laws_heldIntS_l0]
    rw [if_neg (at_nil hd)]; simp [upFrom]
  | x :: r, j, e, k, hd, h0, h1 => by
    obtain ⟨g1, g2, g3, g4, g5, g6⟩ := at_cons hd
    have hb : l.length ≤ big := by unfold small at hl; rw [big_eq]; omega
    rw [List.length_cons] at h1
    rw [show (x :: r).length + 1 + e = (r.length + 1 + e) + 1 by simp; omega]
    simp only [laws_heldIntS_l0]
    rw [if_pos g2, g3]
    simp only [Option.bind_some]
    by_cases c : x = k
    · subst c
      rw [if_pos rfl, w64_in (by omega), succ_w g1 hb, l_heldIntS l hl r (j + 1) e (x + 1) g5 (by omega) (by omega)]
      simp only [List.length_cons, upFrom, List.cons.injEq, true_and]
      congr 1
      split
      · omega
      · rfl
    · rw [if_neg c]
      simp [upFrom, c]
theorem p_laws_heldIntS (l : List Int) (k : Int) (h : pre_laws_heldIntS l k) : ∃ N, laws_heldIntS_f N l k = some (s_laws_heldIntS l k) := by
  obtain ⟨h1, h2, h3⟩ := h
  have h1' : l.length ≤ 1048576 := h1
  refine ⟨l.length + 1, ?_⟩
  unfold laws_heldIntS_f s_laws_heldIntS
  have := l_heldIntS l h1 l 0 0 k rfl h2 (by omega)
  simpa using this
def pre_laws_heldArray (s d : List Int) (k : Int) : Prop := small s ∧ small d ∧ 0 ≤ k ∧ k ≤ 4194304
def s_laws_heldArray (s d : List Int) (k : Int) : Int := if s = upFrom k s.length ∧ d = upFrom (k + s.length) d.length then k + s.length + d.length else -1
theorem p_laws_heldArray (L : List Int → Int → Option Int) (hL : ∀ l k, pre_laws_heldIntS l k → L l k = some (s_laws_heldIntS l k)) (s d : List Int) (k : Int) (h : pre_laws_heldArray s d k) :
    ∃ N, laws_heldArray_f L N s d k = some (s_laws_heldArray s d k) := by
  obtain ⟨h1, h2, h3, h4⟩ := h
  have h1' : s.length ≤ 1048576 := h1
  refine ⟨0, ?_⟩
  unfold laws_heldArray_f s_laws_heldArray
  rw [hL _ _ ⟨h1, h3, by omega⟩]
  simp only [Option.bind_some, s_laws_heldIntS]
  by_cases c : s = upFrom k s.length
  · rw [if_pos c, if_neg (by omega), hL _ _ ⟨h2, by omega, by omega⟩]
    simp only [Option.bind_some, s_laws_heldIntS]
    by_cases c' : d = upFrom (k + s.length) d.length
    · rw [if_pos c', if_neg (by omega), if_pos ⟨c, c'⟩]
    · rw [if_neg c', if_pos (by omega), if_neg (fun q => c' q.2)]
  · rw [if_neg c, if_pos (by omega), if_neg (fun q => c q.1)]
/-- marks are held -/
theorem held_marks (s d : List Int) (k : Int) : s_laws_heldArray (s_laws_markArray s d k).2.1 (s_laws_markArray s d k).2.2 k = (s_laws_markArray s d k).1 := by
  unfold s_laws_heldArray s_laws_markArray
  simp only [upFrom_len]
  rw [if_pos ⟨trivial, trivial⟩]
theorem eqA_refl (s d : List Int) : s_laws_eqArray s d s d = true := by simp [s_laws_eqArray]
end Go.Vm
