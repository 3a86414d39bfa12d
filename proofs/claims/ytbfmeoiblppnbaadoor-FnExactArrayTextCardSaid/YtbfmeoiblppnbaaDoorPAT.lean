/- Arrays as texts: what the functions answer. -/
import Derived.Test.YtbfmeoiblppnbaaDoorPBase
import Derived.Test.YtbfmeoiblppnbaaDoorFAT
import Derived.Test.YtbfmeoiblppnbaaDoorBldA
import Derived.Lib.ItoaNum
set_option linter.unusedVariables false
set_option linter.unusedSimpArgs false
namespace Go.Vm

-- szIntS
def pre_laws_szIntS (l : List Int) (left : Int) : Prop := l.length ≤ big ∧ 0 ≤ left ∧ left ≤ 1048576
def s_laws_szIntS (l : List Int) (left : Int) : Int := if left < l.length then -1 else left - l.length
theorem p_laws_szIntS (l : List Int) (left : Int) (h : pre_laws_szIntS l left) : ∃ N, laws_szIntS_f N l left = some (s_laws_szIntS l left) := by
  obtain ⟨h1, h2, h3⟩ := h
  rw [big_eq] at h1
  refine ⟨0, ?_⟩
  unfold laws_szIntS_f s_laws_szIntS
  rw [w64_in (by omega)]
  split <;> split <;> first | rfl | omega

-- szArray
def pre_laws_szArray (s d : List Int) (left : Int) : Prop := s.length ≤ big ∧ d.length ≤ big ∧ 0 ≤ left ∧ left ≤ 1048576
def s_laws_szArray (s d : List Int) (left : Int) : Int := if left < s.length then -1 else if left - s.length < d.length then -1 else left - s.length - d.length
theorem p_laws_szArray (L : List Int → Int → Option Int) (hL : ∀ l n, pre_laws_szIntS l n → L l n = some (s_laws_szIntS l n)) (s d : List Int) (left : Int) (h : pre_laws_szArray s d left) :
    ∃ N, laws_szArray_f L N s d left = some (s_laws_szArray s d left) := by
  obtain ⟨h1, h2, h3, h4⟩ := h
  refine ⟨0, ?_⟩
  unfold laws_szArray_f s_laws_szArray
  rw [hL _ _ ⟨h1, h3, h4⟩]
  simp only [Option.bind_some, s_laws_szIntS]
  by_cases c1 : left < s.length
  · rw [if_pos c1, if_pos (by omega), if_pos c1]
  · rw [if_neg c1, if_neg (by omega), if_neg c1, hL _ _ ⟨h2, by omega, by omega⟩]
    simp only [Option.bind_some, s_laws_szIntS]
    by_cases c2 : left - s.length < d.length
    · rw [if_pos c2, if_pos (by omega)]
    · rw [if_neg c2, if_neg (by omega)]

-- toIntS
def small (l : List Int) : Prop := l.length ≤ 1048576
theorem l_toIntS (l : List Int) (hl : small l) : ∀ (r : List Int) (j e : Nat) (z : List Int), l.drop j = r → z.length = l.length → z.take j = l.take j → laws_toIntS_l0 (r.length + 1 + e) l j z = some l
  | [], j, e, z, hd, hz, ht => by
    have h := at_nil hd
    have hj : l.length ≤ j := by omega
    rw [show ([] : List Int).length + 1 + e = e + 1 by simp; omega]
    simp only [laws_toIntS_l0]
    rw [if_neg h, ← List.take_of_length_le (show z.length ≤ j by omega), ht, List.take_of_length_le hj]
  | x :: r, j, e, z, hd, hz, ht => by
    obtain ⟨h1, h2, h3, h4, h5, h6⟩ := at_cons hd
    have hb : l.length ≤ big := by unfold small at hl; rw [big_eq]; omega
    rw [show (x :: r).length + 1 + e = (r.length + 1 + e) + 1 by simp; omega]
    simp only [laws_toIntS_l0]
    rw [if_pos h2, h3]
    simp only [Option.bind_some]
    rw [if_pos (by omega), Int.toNat_natCast, setN, if_pos (by omega)]
    simp only [Option.bind_some]
    rw [succ_w h1 hb]
    refine l_toIntS l hl r (j + 1) e (z.set j x) h5 (by simp [hz]) ?_
    rw [List.take_add_one, List.take_add_one, List.getElem?_set_self (by omega), h4, List.take_set_of_le (Nat.le_refl j), ht]
def pre_laws_toIntS (l : List Int) : Prop := small l
def s_laws_toIntS (l : List Int) : List Int := l
theorem p_laws_toIntS (l : List Int) (h : pre_laws_toIntS l) : ∃ N, laws_toIntS_f N l = some (s_laws_toIntS l) := by
  refine ⟨l.length + 1, ?_⟩
  unfold laws_toIntS_f s_laws_toIntS
  have h' : l.length ≤ 1048576 := h
  rw [if_pos (by unfold mkOk roomB; omega)]
  exact l_toIntS l h l 0 0 _ rfl (by simp) rfl

-- toArray
def pre_laws_toArray (s d : List Int) : Prop := small s ∧ small d
def s_laws_toArray (s d : List Int) : List Int × List Int := (s, d)
theorem p_laws_toArray (L : List Int → Option (List Int)) (hL : ∀ l, pre_laws_toIntS l → L l = some (s_laws_toIntS l)) (s d : List Int) (h : pre_laws_toArray s d) :
    ∃ N, laws_toArray_f L N s d = some (s_laws_toArray s d) := by
  refine ⟨0, ?_⟩
  unfold laws_toArray_f
  rw [hL _ h.1, hL _ h.2]; rfl

-- eqIntS
theorem l_eqIntS (a b : List Int) (ha : small a) (hab : a.length = b.length) : ∀ (r t : List Int) (j e : Nat), a.drop j = r → b.drop j = t → laws_eqIntS_l0 (r.length + 1 + e) a b j = some (decide (r = t))
  | [], t, j, e, hd, hd' => by
    have h := at_nil hd
    rw [show ([] : List Int).length + 1 + e = e + 1 by simp; omega]
    simp only [laws_eqIntS_l0]
    have : t = [] := by rw [← hd']; exact List.drop_eq_nil_of_le (by omega)
    rw [if_neg h, this]; rfl
  | x :: r, t, j, e, hd, hd' => by
    obtain ⟨h1, h2, h3, h4, h5, h6⟩ := at_cons hd
    have hb : a.length ≤ big := by unfold small at ha; rw [big_eq]; omega
    cases t with
    | nil => have := at_nil hd'; omega
    | cons y t =>
      obtain ⟨g1, g2, g3, g4, g5, g6⟩ := at_cons hd'
      rw [show (x :: r).length + 1 + e = (r.length + 1 + e) + 1 by simp; omega]
      simp only [laws_eqIntS_l0]
      rw [if_pos h2, h3, g3]
      simp only [Option.bind_some]
      rw [succ_w h1 hb, l_eqIntS a b ha hab r t (j + 1) e h5 g5]
      by_cases c : x = y
      · rw [if_pos c]; simp [c]
      · rw [if_neg c]; simp [c]
def pre_laws_eqIntS (a b : List Int) : Prop := small a
def s_laws_eqIntS (a b : List Int) : Bool := decide (a = b)
theorem p_laws_eqIntS (a b : List Int) (h : pre_laws_eqIntS a b) : ∃ N, laws_eqIntS_f N a b = some (s_laws_eqIntS a b) := by
  refine ⟨a.length + 1, ?_⟩
  unfold laws_eqIntS_f s_laws_eqIntS
  by_cases c : (a.length : Int) = b.length
  · rw [if_pos c]
    exact l_eqIntS a b h (by omega) a b 0 0 rfl rfl
  · rw [if_neg c]
    have : ¬ a = b := by rintro rfl; exact c rfl
    simp [this]

-- eqArray
def pre_laws_eqArray (s d s' d' : List Int) : Prop := small s ∧ small d
def s_laws_eqArray (s d s' d' : List Int) : Bool := decide (s = s') && decide (d = d')
theorem p_laws_eqArray (L : List Int → List Int → Option Bool) (hL : ∀ a b, pre_laws_eqIntS a b → L a b = some (s_laws_eqIntS a b)) (s d s' d' : List Int) (h : pre_laws_eqArray s d s' d') :
    ∃ N, laws_eqArray_f L N s d s' d' = some (s_laws_eqArray s d s' d') := by
  refine ⟨0, ?_⟩
  unfold laws_eqArray_f s_laws_eqArray
  rw [hL _ _ h.1, hL _ _ h.2]
  simp only [Option.bind_some, s_laws_eqIntS]
  by_cases c : s = s' <;> by_cases c' : d = d' <;> simp [c, c']

-- a shape: axes that may be, and few cells
def axOk (x : Int) : Bool := decide (0 ≤ x) && decide (x ≤ 1000)
def stepP (p x : Int) : Int := if 1000 < w64 (p * x) then 1001 else w64 (p * x)
theorem l_product (l : List Int) (hl : small l) : ∀ (r : List Int) (j e : Nat) (p : Int), l.drop j = r → spec_l1Product_l0 (r.length + 1 + e) l p j = some (r.foldl stepP p)
  | [], j, e, p, hd => by
    rw [show ([] : List Int).length + 1 + e = e + 1 by simp; omega]
    simp only [spec_l1Product_l0]
    rw [if_neg (at_nil hd)]; rfl
  | x :: r, j, e, p, hd => by
    obtain ⟨h1, h2, h3, h4, h5, h6⟩ := at_cons hd
    have hb : l.length ≤ big := by unfold small at hl; rw [big_eq]; omega
    rw [show (x :: r).length + 1 + e = (r.length + 1 + e) + 1 by simp; omega]
    simp only [spec_l1Product_l0]
    rw [if_pos h2, h3]
    simp only [Option.bind_some, List.foldl_cons, succ_w h1 hb]
    unfold stepP
    by_cases c : 1000 < w64 (p * x)
    · rw [if_pos c, if_pos c, l_product l hl r (j + 1) e _ h5]; rfl
    · rw [if_neg c, if_neg c, l_product l hl r (j + 1) e _ h5]; rfl
def pre_spec_l1Product (l : List Int) : Prop := small l
def s_spec_l1Product (l : List Int) : Int := l.foldl stepP 1
theorem p_spec_l1Product (l : List Int) (h : pre_spec_l1Product l) : ∃ N, spec_l1Product_f N l = some (s_spec_l1Product l) :=
  ⟨l.length + 1, l_product l h l 0 0 1 rfl⟩

theorem l_fits (L : List Int → Option Int) (l : List Int) (hl : small l) (q : Int) (hq : L l = some q) : ∀ (r : List Int) (j e : Nat), l.drop j = r →
    spec_l1Fits_l0 L (r.length + 1 + e) l j = some (r.all axOk && decide (q ≤ 1000))
  | [], j, e, hd => by
    rw [show ([] : List Int).length + 1 + e = e + 1 by simp; omega]
    simp only [spec_l1Fits_l0]
    rw [if_neg (at_nil hd), hq]; rfl
  | x :: r, j, e, hd => by
    obtain ⟨h1, h2, h3, h4, h5, h6⟩ := at_cons hd
    have hb : l.length ≤ big := by unfold small at hl; rw [big_eq]; omega
    rw [show (x :: r).length + 1 + e = (r.length + 1 + e) + 1 by simp; omega]
    simp only [spec_l1Fits_l0]
    rw [if_pos h2, h3]
    simp only [Option.bind_some, succ_w h1 hb, List.all_cons, axOk]
    by_cases c1 : x < 0
    · rw [if_pos c1]; simp; omega
    · rw [if_neg c1]
      by_cases c2 : 1000 < x
      · rw [if_pos c2]; simp; omega
      · rw [if_neg c2, l_fits L l hl q hq r (j + 1) e h5]
        have e1 : decide (0 ≤ x) = true := by simp; omega
        have e2 : decide (x ≤ 1000) = true := by simp; omega
        rw [e1, e2]; simp
def fits (l : List Int) : Bool := decide (l.length ≤ 3) && l.all axOk && decide (l.foldl stepP 1 ≤ 1000)
def pre_spec_l1Fits (l : List Int) : Prop := small l
def s_spec_l1Fits (l : List Int) : Bool := fits l
theorem p_spec_l1Fits (L : List Int → Option Int) (hL : ∀ l, pre_spec_l1Product l → L l = some (s_spec_l1Product l)) (l : List Int) (h : pre_spec_l1Fits l) : ∃ N, spec_l1Fits_f L N l = some (s_spec_l1Fits l) := by
  refine ⟨l.length + 1, ?_⟩
  unfold spec_l1Fits_f s_spec_l1Fits fits
  by_cases c : (3 : Int) < l.length
  · have : ¬ l.length ≤ 3 := by omega
    rw [if_pos c]; simp [this]
  · have : l.length ≤ 3 := by omega
    rw [if_neg c]
    have q := l_fits L l h _ (hL l h) l 0 0 rfl
    rw [show l.length + 1 + 0 = l.length + 1 by rfl] at q
    rw [show ((0 : Nat) : Int) = 0 by rfl] at q
    rw [q]; simp only [this, s_spec_l1Product, decide_true, Bool.true_and]; rfl

-- cells
def cellOk (x : Int) : Bool := decide (-3000000000 ≤ x) && decide (x ≤ 3000000000)
theorem l_specArrayOk (L1 : List Int → Option Bool) (L2 : List Int → Option Int) (s l : List Int) (hl : small l) : ∀ (r : List Int) (j e : Nat), l.drop j = r →
    spec_ArrayOk_l0 L1 L2 (r.length + 1 + e) j s l = some (r.all cellOk)
  | [], j, e, hd => by
    rw [show ([] : List Int).length + 1 + e = e + 1 by simp; omega]
    simp only [spec_ArrayOk_l0]
    rw [if_neg (at_nil hd)]; rfl
  | x :: r, j, e, hd => by
    obtain ⟨h1, h2, h3, h4, h5, h6⟩ := at_cons hd
    have hb : l.length ≤ big := by unfold small at hl; rw [big_eq]; omega
    rw [show (x :: r).length + 1 + e = (r.length + 1 + e) + 1 by simp; omega]
    simp only [spec_ArrayOk_l0]
    rw [if_pos h2, h3]
    simp only [Option.bind_some, succ_w h1 hb, List.all_cons, cellOk]
    by_cases c1 : x < -3000000000
    · rw [if_pos c1]; simp; omega
    · rw [if_neg c1]
      by_cases c2 : 3000000000 < x
      · rw [if_pos c2]; simp; omega
      · rw [if_neg c2, l_specArrayOk L1 L2 s l hl r (j + 1) e h5]
        have e1 : decide (-3000000000 ≤ x) = true := by simp; omega
        have e2 : decide (x ≤ 3000000000) = true := by simp; omega
        rw [e1, e2]; simp
def arrOk (s d : List Int) : Bool := fits s && decide ((d.length : Int) = s.foldl stepP 1) && d.all cellOk
def pre_spec_ArrayOk (s d : List Int) : Prop := small s ∧ small d
def s_spec_ArrayOk (s d : List Int) : Bool := arrOk s d
theorem p_spec_ArrayOk (L1 : List Int → Option Bool) (h1 : ∀ l, pre_spec_l1Fits l → L1 l = some (s_spec_l1Fits l)) (L2 : List Int → Option Int) (h2 : ∀ l, pre_spec_l1Product l → L2 l = some (s_spec_l1Product l))
    (s d : List Int) (h : pre_spec_ArrayOk s d) : ∃ N, spec_ArrayOk_f L1 L2 N s d = some (s_spec_ArrayOk s d) := by
  refine ⟨d.length + 1, ?_⟩
  unfold spec_ArrayOk_f s_spec_ArrayOk arrOk
  rw [h1 _ h.1, h2 _ h.1]
  simp only [Option.bind_some, s_spec_l1Fits, s_spec_l1Product]
  have q := l_specArrayOk L1 L2 s d h.2 d 0 0 rfl
  rw [show d.length + 1 + 0 = d.length + 1 by rfl, show ((0 : Nat) : Int) = 0 by rfl] at q
  rw [q]
  cases fits s
  · simp
  · by_cases c : (d.length : Int) = s.foldl stepP 1 <;> simp [c]

-- the program's own
theorem l_cellsOf (l : List Int) (hl : small l) : ∀ (r : List Int) (j e : Nat) (p : Int), l.drop j = r →
    impl_cellsOf_l0 (r.length + 1 + e) p l l.length j = some (if r.all axOk = true then (r.foldl (fun p x => w64 (p * x)) p, decide (r.foldl (fun p x => w64 (p * x)) p ≤ 1000)) else (0, false))
  | [], j, e, p, hd => by
    rw [show ([] : List Int).length + 1 + e = e + 1 by simp; omega]
    simp only [impl_cellsOf_l0]
    rw [if_neg (at_nil hd)]; rfl
  | x :: r, j, e, p, hd => by
    obtain ⟨h1, h2, h3, h4, h5, h6⟩ := at_cons hd
    have hb : l.length ≤ big := by unfold small at hl; rw [big_eq]; omega
    rw [show (x :: r).length + 1 + e = (r.length + 1 + e) + 1 by simp; omega]
    simp only [impl_cellsOf_l0]
    rw [if_pos h2, h3]
    simp only [Option.bind_some, succ_w h1 hb, List.all_cons, axOk, List.foldl_cons]
    by_cases c1 : x < 0
    · rw [if_pos c1]; simp; omega
    · rw [if_neg c1]
      by_cases c2 : 1000 < x
      · rw [if_pos c2]; simp; omega
      · rw [if_neg c2, l_cellsOf l hl r (j + 1) e _ h5]
        have e1 : decide (0 ≤ x) = true := by simp; omega
        have e2 : decide (x ≤ 1000) = true := by simp; omega
        simp only [e1, e2, Bool.true_and]; rfl
def stepW (p x : Int) : Int := w64 (p * x)
/-- the reference's product is cut at 1001 -/
def cutAt (p q : Int) : Prop := (p ≤ 1000 → q = p) ∧ (1000 < p → q = 1001)
theorem fold_cut : ∀ (l : List Int) (p q B : Int), 0 ≤ p → p ≤ B → B * 1000 ^ l.length ≤ 1000000000 → l.all axOk = true → cutAt p q → cutAt (l.foldl stepW p) (l.foldl stepP q)
  | [], p, q, B, h0, hB, hm, ha, hc => hc
  | x :: l, p, q, B, h0, hB, hm, ha, hc => by
    simp only [List.all_cons, Bool.and_eq_true, axOk, decide_eq_true_eq] at ha
    obtain ⟨⟨x0, x1⟩, ha⟩ := ha
    have hB0 : 0 ≤ B := Int.le_trans h0 hB
    have hp1 : p * x ≤ B * 1000 := Int.mul_le_mul hB x1 x0 hB0
    have hp0 : 0 ≤ p * x := Int.mul_nonneg h0 x0
    have hm' : (B * 1000) * 1000 ^ l.length ≤ 1000000000 := by
      rw [List.length_cons, Int.pow_succ, Int.mul_comm (1000 ^ l.length) 1000, ← Int.mul_assoc] at hm
      exact hm
    have hpow : (1 : Int) ≤ 1000 ^ l.length := Int.pow_pos (by omega)
    have hBs : B * 1000 ≤ 1000000000 := by
      have := Int.mul_le_mul_of_nonneg_left hpow (show 0 ≤ B * 1000 by omega)
      omega
    simp only [List.foldl_cons]
    have e1 : stepW p x = p * x := by unfold stepW; exact w64_in (by omega)
    rw [e1]
    refine fold_cut l (p * x) _ (B * 1000) hp0 hp1 hm' ha ?_
    by_cases c : p ≤ 1000
    · rw [hc.1 c]
      unfold stepP
      rw [w64_in (by omega)]
      constructor
      · intro h; rw [if_neg (by omega)]
      · intro h; rw [if_pos h]
    · rw [hc.2 (by omega)]
      unfold stepP
      rw [w64_in (by omega)]
      by_cases cx : x = 0
      · subst cx
        simp only [Int.mul_zero]
        exact ⟨fun _ => by simp, fun h => by omega⟩
      · have hx1 : 1 ≤ x := by omega
        have hge : p * 1 ≤ p * x := Int.mul_le_mul_of_nonneg_left hx1 h0
        constructor
        · intro h; omega
        · intro h; rw [if_pos (by omega)]
theorem fold_fits (l : List Int) (hl : l.length ≤ 3) (ha : l.all axOk = true) : cutAt (l.foldl stepW 1) (l.foldl stepP 1) := by
  refine fold_cut l 1 1 1 (by omega) (by omega) ?_ ha ⟨fun _ => rfl, fun h => by omega⟩
  rw [Int.one_mul]
  have : l.length = 0 ∨ l.length = 1 ∨ l.length = 2 ∨ l.length = 3 := by omega
  rcases this with h | h | h | h <;> rw [h] <;> decide
def pre_impl_cellsOf (l : List Int) : Prop := small l
def s_impl_cellsOf (l : List Int) : Int × Bool := if decide (l.length ≤ 3) && l.all axOk then (l.foldl stepW 1, decide (l.foldl stepW 1 ≤ 1000)) else (0, false)
theorem p_impl_cellsOf (l : List Int) (h : pre_impl_cellsOf l) : ∃ N, impl_cellsOf_f N l = some (s_impl_cellsOf l) := by
  refine ⟨l.length + 1, ?_⟩
  unfold impl_cellsOf_f s_impl_cellsOf
  by_cases c : (3 : Int) < l.length
  · have : ¬ l.length ≤ 3 := by omega
    rw [if_pos c]; simp [this]
  · have : l.length ≤ 3 := by omega
    rw [if_neg c]
    have q := l_cellsOf l h l 0 0 1 rfl
    rw [show l.length + 1 + 0 = l.length + 1 by rfl, show ((0 : Nat) : Int) = 0 by rfl] at q
    rw [q]
    simp only [this, decide_true, Bool.true_and]
    rfl
/-- what cellsOf tells, in the reference's words -/
theorem cellsOf_fits (l : List Int) : (s_impl_cellsOf l).2 = fits l ∧ (fits l = true → (s_impl_cellsOf l).1 = l.foldl stepP 1) := by
  unfold s_impl_cellsOf fits
  by_cases c : l.length ≤ 3
  · cases ha : l.all axOk with
    | false => simp
    | true =>
      have hc := fold_fits l c ha
      simp only [c, decide_true, Bool.true_and, if_true]
      by_cases h : l.foldl stepW 1 ≤ 1000
      · rw [hc.1 h]; exact ⟨rfl, fun _ => rfl⟩
      · have e := hc.2 (by omega)
        rw [e]
        refine ⟨by simp [h], fun q => by simp at q⟩
  · simp [c]

theorem l_implArrayOk (L : List Int → Option (Int × Bool)) (l : List Int) (hl : small l) : ∀ (r : List Int) (j e : Nat), l.drop j = r → impl_ArrayOk_l0 L (r.length + 1 + e) l l.length j = some (r.all cellOk)
  | [], j, e, hd => by
    rw [show ([] : List Int).length + 1 + e = e + 1 by simp; omega]
    simp only [impl_ArrayOk_l0]
    rw [if_neg (at_nil hd)]; rfl
  | x :: r, j, e, hd => by
    obtain ⟨h1, h2, h3, h4, h5, h6⟩ := at_cons hd
    have hb : l.length ≤ big := by unfold small at hl; rw [big_eq]; omega
    rw [show (x :: r).length + 1 + e = (r.length + 1 + e) + 1 by simp; omega]
    simp only [impl_ArrayOk_l0]
    rw [if_pos h2, h3]
    simp only [Option.bind_some, succ_w h1 hb, List.all_cons, cellOk]
    by_cases c1 : x < -3000000000
    · rw [if_pos c1]; simp; omega
    · rw [if_neg c1]
      by_cases c2 : 3000000000 < x
      · rw [if_pos c2]; simp; omega
      · rw [if_neg c2, l_implArrayOk L l hl r (j + 1) e h5]
        have e1 : decide (-3000000000 ≤ x) = true := by simp; omega
        have e2 : decide (x ≤ 3000000000) = true := by simp; omega
        rw [e1, e2]; simp
def pre_impl_ArrayOk (s d : List Int) : Prop := small s ∧ small d
def s_impl_ArrayOk (s d : List Int) : Bool := arrOk s d
theorem p_impl_ArrayOk (L : List Int → Option (Int × Bool)) (hL : ∀ l, pre_impl_cellsOf l → L l = some (s_impl_cellsOf l)) (s d : List Int) (h : pre_impl_ArrayOk s d) :
    ∃ N, impl_ArrayOk_f L N s d = some (s_impl_ArrayOk s d) := by
  refine ⟨d.length + 1, ?_⟩
  unfold impl_ArrayOk_f s_impl_ArrayOk arrOk
  rw [hL _ h.1]
  simp only [Option.bind_some]
  obtain ⟨e1, e2⟩ := cellsOf_fits s
  rw [e1]
  have q := l_implArrayOk L d h.2 d 0 0 rfl
  rw [show d.length + 1 + 0 = d.length + 1 by rfl, show ((0 : Nat) : Int) = 0 by rfl] at q
  rw [q]
  cases hf : fits s with
  | false => simp
  | true =>
    rw [e2 hf]
    by_cases c : s.foldl stepP 1 = (d.length : Int)
    · simp [c]
    · have c' : ¬ (d.length : Int) = s.foldl stepP 1 := fun q => c q.symm
      simp [c, c']

-- numbers in decimal
theorem nDig : ∀ (k u : Nat), u < 10 ^ (k + 1) → Lib.nDigits u ≤ k + 1
  | 0, u, h => by rw [Lib.nDigits_small (by simpa using h)]; omega
  | k + 1, u, h => by
    by_cases c : u < 10
    · rw [Lib.nDigits_small c]; omega
    · rw [Lib.nDigits, dif_neg c]
      have := nDig k (u / 10) (by rw [Nat.pow_succ] at h; exact (Nat.div_lt_iff_lt_mul (by omega)).2 h)
      omega
def dOk (n : Int) : Prop := -3000000000 ≤ n ∧ n ≤ 3000000000
theorem itoa_len {n : Int} (h : dOk n) : (Lib.itoa n).length ≤ 11 := by
  obtain ⟨h1, h2⟩ := h
  unfold Lib.itoa
  split
  · have := nDig 9 n.natAbs (by omega)
    rw [List.length_cons, Lib.decDigits_length]; omega
  · have := nDig 9 n.toNat (by omega)
    rw [Lib.decDigits_length]; omega
theorem byte_dg {n : Int} (h0 : 0 ≤ n) (h1 : n < 10) : bytes8 [Go.IntKind.wrap .u8 (w64 (48 + n))] = [UInt8.ofNat (48 + n.toNat)] := by
  have : n = 0 ∨ n = 1 ∨ n = 2 ∨ n = 3 ∨ n = 4 ∨ n = 5 ∨ n = 6 ∨ n = 7 ∨ n = 8 ∨ n = 9 := by omega
  rcases this with rfl | rfl | rfl | rfl | rfl | rfl | rfl | rfl | rfl | rfl <;> rfl
-- l1Dec
def pre_spec_l1Dec (n : Int) : Prop := dOk n
def s_spec_l1Dec (n : Int) : List UInt8 := Lib.itoa n
def mu_spec_l1Dec (n : Int) : Nat := 2 * n.natAbs + (if n < 0 then 1 else 0)
theorem p_spec_l1Dec (L : Int → Option (List UInt8)) (j : Nat) (hL : ∀ a, mu_spec_l1Dec a < j → pre_spec_l1Dec a → L a = some (s_spec_l1Dec a)) (a0 : Int) (h : pre_spec_l1Dec a0) (hj : mu_spec_l1Dec a0 < j + 1) :
    ∃ N, spec_l1Dec_f L N a0 = some (s_spec_l1Dec a0) := by
  refine ⟨0, ?_⟩
  have h' : -3000000000 ≤ a0 ∧ a0 ≤ 3000000000 := h
  unfold spec_l1Dec_f
  by_cases c : a0 < 0
  · have hq : dOk (0 - a0) := ⟨by omega, by omega⟩
    have hm : mu_spec_l1Dec (0 - a0) < j := by
      unfold mu_spec_l1Dec at hj ⊢
      rw [if_pos c] at hj; rw [if_neg (by omega)]; omega
    have hlen := itoa_len hq
    rw [if_pos c, w64_in (by omega), hL _ hm hq]
    simp only [Option.bind_some, s_spec_l1Dec]
    rw [if_pos (by unfold roomS; omega)]
    unfold Lib.itoa
    rw [if_pos c, if_neg (by omega), show (0 - a0).toNat = a0.natAbs by omega]
  · rw [if_neg c]
    by_cases c1 : a0 < 10
    · rw [if_pos c1, byte_dg (by omega) c1]
      unfold s_spec_l1Dec Lib.itoa
      rw [if_neg c, Lib.decDigits_one (by omega)]
    · have e1 : Int.tdiv a0 10 = a0 / 10 := Int.tdiv_eq_ediv_of_nonneg (by omega)
      have e2 : Int.tmod a0 10 = a0 % 10 := Int.tmod_eq_emod_of_nonneg (by omega)
      have hq : dOk (a0 / 10) := ⟨by omega, by omega⟩
      have hm : mu_spec_l1Dec (a0 / 10) < j := by
        unfold mu_spec_l1Dec at hj ⊢
        rw [if_neg c] at hj; rw [if_neg (by omega)]; omega
      have hlen := itoa_len hq
      rw [if_neg c1, e1, e2, w64_in (n := a0 / 10) (by omega), hL _ hm hq]
      simp only [Option.bind_some, s_spec_l1Dec]
      rw [byte_dg (by omega) (by omega), if_pos (by unfold roomS; simp only [List.length_append, List.length_cons, List.length_nil]; omega)]
      unfold Lib.itoa
      have e3 : Lib.decDigits a0.toNat = Lib.decDigits (a0.toNat / 10) ++ [UInt8.ofNat (48 + a0.toNat % 10)] := by rw [Lib.decDigits, dif_neg (by omega)]
      rw [if_neg (by omega), if_neg c, e3, show (a0 / 10).toNat = a0.toNat / 10 by omega, show (a0 % 10).toNat = a0.toNat % 10 by omega]
-- numbers with blanks between
def jfrom : Bool → List Int → List UInt8
  | _, [] => []
  | f, x :: r => (if f then [] else [32]) ++ (Lib.itoa x ++ jfrom false r)
theorem jfrom_len : ∀ (r : List Int) (f : Bool), (∀ x ∈ r, dOk x) → (jfrom f r).length ≤ 12 * r.length
  | [], f, _ => by simp [jfrom]
  | x :: r, f, h => by
    have h1 := itoa_len (h x (by simp))
    have h2 := jfrom_len r false (fun y hy => h y (by simp [hy]))
    simp only [jfrom, List.length_append, List.length_cons]
    split <;> simp <;> omega
theorem ofBytes_app (a b : List UInt8) : ofBytes a ++ ofBytes b = ofBytes (a ++ b) := by simp [ofBytes]
theorem bytes8_of (a : List UInt8) : bytes8 (ofBytes a) = a := by
  induction a with
  | nil => rfl
  | cons x r ih =>
    show UInt8.ofNat ((x.toNat : Int)).toNat :: bytes8 (ofBytes r) = _
    rw [ih, Int.toNat_natCast, UInt8.ofNat_toNat]
theorem ofBytes_len (a : List UInt8) : (ofBytes a).length = a.length := by simp [ofBytes]
def pre_spec_l1Join (l : List Int) : Prop := small l ∧ ∀ x ∈ l, dOk x
def s_spec_l1Join (l : List Int) : List UInt8 := jfrom true l
theorem l_l1Join (L : Int → Option (List UInt8)) (hL : ∀ a, pre_spec_l1Dec a → L a = some (s_spec_l1Dec a)) (l : List Int) (hl : small l) (hd : ∀ x ∈ l, dOk x) : ∀ (r : List Int) (j e : Nat) (acc : List UInt8), l.drop j = r → acc.length ≤ 12 * j →
    spec_l1Join_l0 L (r.length + 1 + e) l j (ofBytes acc) = some (acc ++ jfrom (decide (j = 0)) r)
  | [], j, e, acc, hdr, ha => by
    rw [show ([] : List Int).length + 1 + e = e + 1 by simp; omega]
    simp only [spec_l1Join_l0]
    rw [if_neg (at_nil hdr), bytes8_of]; simp [jfrom]
  | x :: r, j, e, acc, hdr, ha => by
    obtain ⟨h1, h2, h3, h4, h5, h6⟩ := at_cons hdr
    have hb : l.length ≤ big := by unfold small at hl; rw [big_eq]; omega
    have hx : dOk x := hd x (List.mem_of_getElem? h4)
    have hlen := itoa_len hx
    have hl' : l.length ≤ 1048576 := hl
    rw [show (x :: r).length + 1 + e = (r.length + 1 + e) + 1 by simp; omega]
    simp only [spec_l1Join_l0]
    rw [if_pos h2, h3]
    simp only [Option.bind_some]
    rw [hL x hx]
    simp only [Option.bind_some, s_spec_l1Dec]
    by_cases c : j = 0
    · subst c
      rw [if_neg (by omega), ofBytes_app, if_pos (by unfold room roomB; rw [ofBytes_len, List.length_append]; omega), succ_w h1 hb,
        l_l1Join L hL l hl hd r 1 e _ h5 (by rw [List.length_append]; omega)]
      simp [jfrom]
    · have e32 : ofBytes acc ++ [32] = ofBytes (acc ++ [32]) := ofBytes_app acc [32]
      rw [if_pos (by omega), e32, ofBytes_app, if_pos (by unfold room roomB; rw [ofBytes_len, List.length_append]; simp; omega),
        if_pos (by unfold room roomB; rw [ofBytes_len, List.length_append, List.length_append]; simp; omega), succ_w h1 hb,
        l_l1Join L hL l hl hd r (j + 1) e _ h5 (by rw [List.length_append, List.length_append]; simp; omega)]
      simp [jfrom, c]
theorem p_spec_l1Join (L : Int → Option (List UInt8)) (hL : ∀ a, pre_spec_l1Dec a → L a = some (s_spec_l1Dec a)) (l : List Int) (h : pre_spec_l1Join l) : ∃ N, spec_l1Join_f L N l = some (s_spec_l1Join l) :=
  ⟨l.length + 1, l_l1Join L hL l h.1 h.2 l 0 0 [] rfl (by simp)⟩
-- the shelf
def pre___strings_Builder__WriteByte (T : Nat) (b : List UInt8) (c : Int) : Prop := T = 63 ∧ b.length + 1 ≤ 140737488355328 ∧ 0 ≤ c ∧ c < 256
def s___strings_Builder__WriteByte (T : Nat) (b : List UInt8) (c : Int) : List UInt8 := b ++ [UInt8.ofNat c.toNat]
theorem q___strings_Builder__WriteByte {T : Nat} {b : List UInt8} {c : Int} (h : pre___strings_Builder__WriteByte T b c) : liesB T ∧ b.length + 1 ≤ 140737488355328 ∧ 0 ≤ c ∧ c < 256 := ⟨h.1 ▸ lies_B, h.2⟩
def pre___strings_Builder__WriteString (T : Nat) (b s : List UInt8) : Prop := T = 63 ∧ b.length + s.length ≤ 140737488355328
def s___strings_Builder__WriteString (T : Nat) (b s : List UInt8) : Int × List UInt8 := (s.length, b ++ s)
theorem q___strings_Builder__WriteString {T : Nat} {b s : List UInt8} (h : pre___strings_Builder__WriteString T b s) : liesB T ∧ b.length + s.length ≤ 140737488355328 := ⟨h.1 ▸ lies_B, h.2⟩
def pre___strings_Builder__String (T : Nat) (b : List UInt8) : Prop := T = 63
def s___strings_Builder__String (T : Nat) (b : List UInt8) : List UInt8 × List UInt8 := (b, b)
theorem q___strings_Builder__String {T : Nat} {b : List UInt8} (h : pre___strings_Builder__String T b) : liesB T := h ▸ lies_B
def pre_strconv_Itoa (n : Int) : Prop := -9223372036854775808 ≤ n ∧ n ≤ 9223372036854775807
def s_strconv_Itoa (n : Int) : List UInt8 := Lib.itoa n
theorem q_strconv_Itoa {n : Int} (h : pre_strconv_Itoa n) : -9223372036854775808 ≤ n ∧ n ≤ 9223372036854775807 := h
-- joined
def pre_impl_joined (l : List Int) : Prop := small l ∧ ∀ x ∈ l, dOk x
def s_impl_joined (l : List Int) : List UInt8 := jfrom true l
section
variable (WB : Nat → List UInt8 → Int → Option (List UInt8)) (hWB : ∀ T b c, pre___strings_Builder__WriteByte T b c → WB T b c = some (s___strings_Builder__WriteByte T b c))
  (IT : Int → Option (List UInt8)) (hIT : ∀ n, pre_strconv_Itoa n → IT n = some (s_strconv_Itoa n))
  (WS : Nat → List UInt8 → List UInt8 → Option (Int × List UInt8)) (hWS : ∀ T b s, pre___strings_Builder__WriteString T b s → WS T b s = some (s___strings_Builder__WriteString T b s))
  (ST : Nat → List UInt8 → Option (List UInt8 × List UInt8)) (hST : ∀ T b, pre___strings_Builder__String T b → ST T b = some (s___strings_Builder__String T b))
include hWB hIT hWS hST
theorem l_joined (l : List Int) (hl : small l) (hd : ∀ x ∈ l, dOk x) : ∀ (r : List Int) (j e : Nat) (acc : List UInt8), l.drop j = r → acc.length ≤ 12 * j →
    impl_joined_l0 WB IT WS ST (r.length + 1 + e) l l.length j acc = some (acc ++ jfrom (decide (j = 0)) r)
  | [], j, e, acc, hdr, ha => by
    rw [show ([] : List Int).length + 1 + e = e + 1 by simp; omega]
    simp only [impl_joined_l0]
    rw [if_neg (at_nil hdr), hST _ _ rfl]; simp [jfrom, s___strings_Builder__String]
  | x :: r, j, e, acc, hdr, ha => by
    obtain ⟨h1, h2, h3, h4, h5, h6⟩ := at_cons hdr
    have hb : l.length ≤ big := by unfold small at hl; rw [big_eq]; omega
    have hx : dOk x := hd x (List.mem_of_getElem? h4)
    have hlen := itoa_len hx
    have hx' : -3000000000 ≤ x ∧ x ≤ 3000000000 := hx
    have hl' : l.length ≤ 1048576 := hl
    rw [show (x :: r).length + 1 + e = (r.length + 1 + e) + 1 by simp; omega]
    simp only [impl_joined_l0]
    rw [if_pos h2, h3]
    simp only [Option.bind_some]
    rw [hIT x ⟨by omega, by omega⟩]
    simp only [Option.bind_some, s_strconv_Itoa]
    by_cases c : j = 0
    · subst c
      rw [if_neg (by omega), hWS _ _ _ ⟨rfl, by omega⟩]
      simp only [Option.bind_some, s___strings_Builder__WriteString]
      rw [succ_w h1 hb, l_joined l hl hd r 1 e _ h5 (by rw [List.length_append]; omega)]
      simp [jfrom]
    · rw [if_pos (by omega), hWB _ _ _ ⟨rfl, by omega, by omega, by omega⟩]
      simp only [Option.bind_some, s___strings_Builder__WriteByte]
      rw [hWS _ _ _ ⟨rfl, by rw [List.length_append]; simp; omega⟩]
      simp only [Option.bind_some, s___strings_Builder__WriteString]
      rw [succ_w h1 hb, l_joined l hl hd r (j + 1) e _ h5 (by rw [List.length_append, List.length_append]; simp; omega)]
      simp [jfrom, c]
theorem p_impl_joined (l : List Int) (h : pre_impl_joined l) : ∃ N, impl_joined_f WB IT WS ST N l = some (s_impl_joined l) :=
  ⟨l.length + 1, l_joined WB hWB IT hIT WS hWS ST hST l h.1 h.2 l 0 0 [] rfl (by simp)⟩
end
-- ArrayText
def aText (s d : List Int) : List UInt8 × Bool := if arrOk s d then (jfrom true s ++ [58] ++ jfrom true d, true) else ([], false)
theorem ok_dOk {s d : List Int} (h : arrOk s d = true) : (∀ x ∈ s, dOk x) ∧ ∀ x ∈ d, dOk x := by
  simp only [arrOk, fits, Bool.and_eq_true, List.all_eq_true, axOk, cellOk, decide_eq_true_eq] at h
  obtain ⟨⟨⟨⟨h1, h2⟩, h3⟩, h4⟩, h5⟩ := h
  exact ⟨fun x hx => by have := h2 x hx; unfold dOk; omega, fun x hx => h5 x hx⟩
def pre_spec_ArrayText (s d : List Int) : Prop := small s ∧ small d
def s_spec_ArrayText (s d : List Int) : List UInt8 × Bool := aText s d
theorem p_spec_ArrayText (L1 : List Int → List Int → Option Bool) (h1 : ∀ s d, pre_spec_ArrayOk s d → L1 s d = some (s_spec_ArrayOk s d)) (L2 : List Int → Option (List UInt8)) (h2 : ∀ l, pre_spec_l1Join l → L2 l = some (s_spec_l1Join l))
    (s d : List Int) (h : pre_spec_ArrayText s d) : ∃ N, spec_ArrayText_f L1 L2 N s d = some (s_spec_ArrayText s d) := by
  refine ⟨0, ?_⟩
  unfold spec_ArrayText_f s_spec_ArrayText aText
  rw [h1 _ _ h]
  simp only [Option.bind_some, s_spec_ArrayOk]
  by_cases c : arrOk s d = true
  · obtain ⟨k1, k2⟩ := ok_dOk c
    have g1 := jfrom_len s true k1
    have g2 := jfrom_len d true k2
    have h' : s.length ≤ 1048576 ∧ d.length ≤ 1048576 := h
    rw [c, if_neg (by simp), h2 _ ⟨h.1, k1⟩]
    simp only [Option.bind_some, s_spec_l1Join]
    rw [if_pos (by unfold roomS; rw [List.length_append]; simp; omega), h2 _ ⟨h.2, k2⟩]
    simp only [Option.bind_some, s_spec_l1Join]
    rw [if_pos (by unfold roomS; rw [List.length_append, List.length_append]; simp; omega), if_pos trivial]
  · have c' : arrOk s d = false := by simpa using c
    rw [c', if_pos rfl, if_neg (by simp)]
def pre_impl_ArrayText (s d : List Int) : Prop := small s ∧ small d
def s_impl_ArrayText (s d : List Int) : List UInt8 × Bool := aText s d
theorem p_impl_ArrayText (L1 : List Int → List Int → Option Bool) (h1 : ∀ s d, pre_impl_ArrayOk s d → L1 s d = some (s_impl_ArrayOk s d)) (L2 : List Int → Option (List UInt8)) (h2 : ∀ l, pre_impl_joined l → L2 l = some (s_impl_joined l))
    (s d : List Int) (h : pre_impl_ArrayText s d) : ∃ N, impl_ArrayText_f L1 L2 N s d = some (s_impl_ArrayText s d) :=
  p_spec_ArrayText L1 h1 L2 h2 s d h
-- the law
def pre_laws_FnExactArrayText (s d : List Int) : Prop := s.length ≤ big ∧ d.length ≤ big
def s_laws_FnExactArrayText (s d : List Int) : Bool := true
theorem p_laws_FnExactArrayText (L0 : List Int → List Int → Int → Option Int) (h0 : ∀ s d n, pre_laws_szArray s d n → L0 s d n = some (s_laws_szArray s d n))
    (L1 : List Int → List Int → Option (List Int × List Int)) (h1 : ∀ s d, pre_laws_toArray s d → L1 s d = some (s_laws_toArray s d))
    (L2 : List Int → List Int → Option (List UInt8 × Bool)) (h2 : ∀ s d, pre_spec_ArrayText s d → L2 s d = some (s_spec_ArrayText s d))
    (L3 : List Int → List Int → Option (List UInt8 × Bool)) (h3 : ∀ s d, pre_impl_ArrayText s d → L3 s d = some (s_impl_ArrayText s d))
    (L4 : List Int → List Int → List Int → List Int → Option Bool) (h4 : ∀ s d s' d', pre_laws_eqArray s d s' d' → L4 s d s' d' = some (s_laws_eqArray s d s' d'))
    (s d : List Int) (h : pre_laws_FnExactArrayText s d) : ∃ N, laws_FnExactArrayText_f L0 L1 L2 L3 L4 N s d = some (s_laws_FnExactArrayText s d) := by
  refine ⟨0, ?_⟩
  unfold laws_FnExactArrayText_f s_laws_FnExactArrayText
  rw [h0 _ _ _ ⟨h.1, h.2, by omega, by omega⟩]
  simp only [Option.bind_some]
  by_cases c : s_laws_szArray s d 1048576 < 0
  · rw [if_pos c]
  · rw [if_neg c]
    have hs : small s ∧ small d := by
      unfold s_laws_szArray at c
      unfold small
      split at c
      · omega
      · split at c
        · omega
        · omega
    rw [h1 _ _ hs]
    simp only [Option.bind_some, s_laws_toArray]
    rw [h2 _ _ hs, h3 _ _ hs]
    simp only [Option.bind_some, s_spec_ArrayText, s_impl_ArrayText]
    rw [if_pos trivial, if_neg (by simp), h4 _ _ _ _ hs]
    simp [s_laws_eqArray]
theorem pre_of_laws_FnExactArrayText {s d : List Int} (hs : s.length ≤ maxLen ∧ ∀ x ∈ s, (Lit.int .i64 x).wf = true) (hd : d.length ≤ maxLen ∧ ∀ x ∈ d, (Lit.int .i64 x).wf = true) : pre_laws_FnExactArrayText s d := ⟨hs.1, hd.1⟩
end Go.Vm
