/- What the functions under laws_FnExactLogEntry answer. -/
import Derived.Test.YtbfmeoiblppnbaaDoorPBase
import Derived.Test.YtbfmeoiblppnbaaDoorFLog
import Derived.Test.YtbfmeoiblppnbaaDoorBldA
import Derived.Lib.ItoaNum
import Derived.Lib.Join
set_option linter.all false
set_option maxRecDepth 100000
namespace Go.Vm

def pre_laws_szIntS (l : List Int) (left : Int) : Prop := l.length ≤ big ∧ 0 ≤ left ∧ left ≤ 1048576
def s_laws_szIntS (l : List Int) (left : Int) : Int := if left < l.length then -1 else left - l.length
theorem p_laws_szIntS (l : List Int) (left : Int) (h : pre_laws_szIntS l left) : ∃ N, laws_szIntS_f N l left = some (s_laws_szIntS l left) := by
  obtain ⟨h1, h2, h3⟩ := h
  rw [big_eq] at h1
  refine ⟨0, ?_⟩
  unfold laws_szIntS_f s_laws_szIntS
  rw [w64_in (by omega)]
  split <;> split <;> first | rfl | omega
def pre_laws_szArray (s d : List Int) (left : Int) : Prop := s.length ≤ big ∧ d.length ≤ big ∧ 0 ≤ left ∧ left ≤ 1048576
def s_laws_szArray (s d : List Int) (left : Int) : Int := if left < s.length then -1 else if left - s.length < d.length then -1 else left - s.length - d.length
theorem p_laws_szArray (L : List Int → Int → Option Int) (hL : ∀ l n, pre_laws_szIntS l n → L l n = some (s_laws_szIntS l n)) (s d : List Int) (left : Int) (h : pre_laws_szArray s d left) :
    ∃ N, laws_szArray_f L N s d left = some (s_laws_szArray s d left) := by
  obtain ⟨h1, h2, h3, h4⟩ := h
  refine ⟨0, ?_⟩
  unfold laws_szArray_f s_laws_szArray
  rw [hL _ _ ⟨h1, h3, h4⟩]
  simp only [Option.bind_some, s_laws_szIntS]
  by_cases c1 : left < s.length
  · rw [if_pos c1, if_pos (by omega), if_pos c1]
  · rw [if_neg c1, if_neg (by omega), if_neg c1, hL _ _ ⟨h2, by omega, by omega⟩]
    simp only [Option.bind_some, s_laws_szIntS]
    by_cases c2 : left - s.length < d.length
    · rw [if_pos c2, if_pos (by omega)]
    · rw [if_neg c2, if_neg (by omega)]
def pre_laws_szOutcome (k c : Int) (s d : List Int) (f e left : Int) : Prop := pre_laws_szArray s d left
def s_laws_szOutcome (k c : Int) (s d : List Int) (f e left : Int) : Int := if s_laws_szArray s d left < 0 then -1 else s_laws_szArray s d left
theorem p_laws_szOutcome (L : List Int → List Int → Int → Option Int) (hL : ∀ s d n, pre_laws_szArray s d n → L s d n = some (s_laws_szArray s d n)) (k c : Int) (s d : List Int) (f e left : Int) (h : pre_laws_szOutcome k c s d f e left) :
    ∃ N, laws_szOutcome_f L N k c s d f e left = some (s_laws_szOutcome k c s d f e left) := by
  refine ⟨0, ?_⟩
  unfold laws_szOutcome_f s_laws_szOutcome
  rw [hL _ _ _ h]
  simp only [Option.bind_some]
  split <;> rfl
def oIn (x : TOutcome) : Prop := x.Value_Shape.length ≤ big ∧ x.Value_Data.length ≤ big
def pre_laws_szOutcomeS (l : List TOutcome) (left : Int) : Prop := l.length ≤ big ∧ (∀ x ∈ l, oIn x) ∧ 0 ≤ left ∧ left ≤ 1048576
def szO : List TOutcome → Int → Int
  | [], left => left
  | x :: r, left => if s_laws_szOutcome x.Kind x.Code x.Value_Shape x.Value_Data x.Fuel x.Cells left < 0 then -1 else szO r (s_laws_szOutcome x.Kind x.Code x.Value_Shape x.Value_Data x.Fuel x.Cells left)
def s_laws_szOutcomeS (l : List TOutcome) (left : Int) : Int := if left < l.length then -1 else szO l (left - l.length)
theorem szOut_le (k c : Int) (s d : List Int) (f e left : Int) (h : left ≤ 1048576) : s_laws_szOutcome k c s d f e left ≤ 1048576 := by
  unfold s_laws_szOutcome s_laws_szArray
  split
  · omega
  · split
    · omega
    · split <;> omega
theorem l_szOutcomeS (L : Int → Int → List Int → List Int → Int → Int → Int → Option Int) (hL : ∀ k c s d f e n, pre_laws_szOutcome k c s d f e n → L k c s d f e n = some (s_laws_szOutcome k c s d f e n)) (l : List TOutcome) (hl : few l) (hf : ∀ x ∈ l, oIn x) :
    ∀ (r : List TOutcome) (j e : Nat) (left : Int), l.drop j = r → 0 ≤ left → left ≤ 1048576 → laws_szOutcomeS_l0 L (r.length + 1 + e) l left j = some (szO r left)
  | [], j, e, left, hd, h0, h1 => by
    rw [List.length_nil, fuel0]
    simp only [laws_szOutcomeS_l0]
    rw [if_neg (at_nil hd)]; rfl
  | x :: r, j, e, left, hd, h0, h1 => by
    obtain ⟨g1, g2, g3, g4, g5, g6⟩ := at_cons hd
    have hx := hf x (List.mem_of_getElem? g4)
    rw [List.length_cons, fuel]
    simp only [laws_szOutcomeS_l0]
    rw [if_pos g2, g3]
    simp only [Option.bind_some]
    rw [hL _ _ _ _ _ _ _ ⟨hx.1, hx.2, h0, h1⟩]
    simp only [Option.bind_some, szO]
    split
    · rfl
    · rw [succ_w g1 (few_big hl)]
      exact l_szOutcomeS L hL l hl hf r (j + 1) e _ g5 (by omega) (szOut_le _ _ _ _ _ _ _ h1)
theorem p_laws_szOutcomeS (L : Int → Int → List Int → List Int → Int → Int → Int → Option Int) (hL : ∀ k c s d f e n, pre_laws_szOutcome k c s d f e n → L k c s d f e n = some (s_laws_szOutcome k c s d f e n)) (l : List TOutcome) (left : Int) (h : pre_laws_szOutcomeS l left) :
    ∃ N, laws_szOutcomeS_f L N l left = some (s_laws_szOutcomeS l left) := by
  obtain ⟨h1, h2, h3, h4⟩ := h
  rw [big_eq] at h1
  refine ⟨l.length + 1, ?_⟩
  unfold laws_szOutcomeS_f s_laws_szOutcomeS
  rw [w64_in (n := left - l.length) (by omega)]
  by_cases c : left < l.length
  · rw [if_pos c, if_pos (by omega)]
  · rw [if_neg c, if_neg (by omega)]
    exact l_szOutcomeS L hL l (by unfold few; omega) h2 l 0 0 _ rfl (by omega) (by omega)
def small (l : List Int) : Prop := l.length ≤ 1048576
def pre_laws_toIntS (l : List Int) : Prop := small l
def s_laws_toIntS (l : List Int) : List Int := l
theorem l_toIntS (l : List Int) (hl : small l) : ∀ (r : List Int) (j e : Nat) (z : List Int), l.drop j = r → z.length = l.length → z.take j = l.take j → laws_toIntS_l0 (r.length + 1 + e) l j z = some l
  | [], j, e, z, hd, hz, ht => by
    have h := at_nil hd
    have hj : l.length ≤ j := by omega
    rw [show ([] : List Int).length + 1 + e = e + 1 by simp; omega]
    simp only [laws_toIntS_l0]
    rw [if_neg h, ← List.take_of_length_le (show z.length ≤ j by omega), ht, List.take_of_length_le hj]
  | x :: r, j, e, z, hd, hz, ht => by
    obtain ⟨h1, h2, h3, h4, h5, h6⟩ := at_cons hd
    have hb : l.length ≤ big := by unfold small at hl; rw [big_eq]; omega
    rw [show (x :: r).length + 1 + e = (r.length + 1 + e) + 1 by simp; omega]
    simp only [laws_toIntS_l0]
    rw [if_pos h2, h3]
    simp only [Option.bind_some]
    rw [if_pos (by omega), Int.toNat_natCast, setN, if_pos (by omega)]
    simp only [Option.bind_some]
    rw [succ_w h1 hb]
    refine l_toIntS l hl r (j + 1) e (z.set j x) h5 (by simp [hz]) ?_
    rw [List.take_add_one, List.take_add_one, List.getElem?_set_self (by omega), h4, List.take_set_of_le (Nat.le_refl j), ht]
theorem p_laws_toIntS (l : List Int) (h : pre_laws_toIntS l) : ∃ N, laws_toIntS_f N l = some (s_laws_toIntS l) := by
  refine ⟨l.length + 1, ?_⟩
  unfold laws_toIntS_f s_laws_toIntS
  have h' : l.length ≤ 1048576 := h
  rw [if_pos (by unfold mkOk roomB; omega)]
  exact l_toIntS l h l 0 0 _ rfl (by simp) rfl
def pre_laws_toArray (s d : List Int) : Prop := small s ∧ small d
def s_laws_toArray (s d : List Int) : List Int × List Int := (s, d)
theorem p_laws_toArray (L : List Int → Option (List Int)) (hL : ∀ l, pre_laws_toIntS l → L l = some (s_laws_toIntS l)) (s d : List Int) (h : pre_laws_toArray s d) :
    ∃ N, laws_toArray_f L N s d = some (s_laws_toArray s d) := by
  refine ⟨0, ?_⟩
  unfold laws_toArray_f
  rw [hL _ h.1, hL _ h.2]; rfl
def pre_laws_toOutcome (k c : Int) (s d : List Int) (f e : Int) : Prop := small s ∧ small d
def s_laws_toOutcome (k c : Int) (s d : List Int) (f e : Int) : Int × Int × List Int × List Int × Int × Int := (k, c, s, d, f, e)
theorem p_laws_toOutcome (L : List Int → List Int → Option (List Int × List Int)) (hL : ∀ s d, pre_laws_toArray s d → L s d = some (s_laws_toArray s d)) (k c : Int) (s d : List Int) (f e : Int) (h : pre_laws_toOutcome k c s d f e) :
    ∃ N, laws_toOutcome_f L N k c s d f e = some (s_laws_toOutcome k c s d f e) := by
  refine ⟨0, ?_⟩
  unfold laws_toOutcome_f
  rw [hL _ _ h]; rfl
def oSm (x : TOutcome) : Prop := small x.Value_Shape ∧ small x.Value_Data
def pre_laws_toOutcomeS (l : List TOutcome) : Prop := few l ∧ ∀ x ∈ l, oSm x
def s_laws_toOutcomeS (l : List TOutcome) : List TOutcome := l
theorem l_toOutcomeS (L : Int → Int → List Int → List Int → Int → Int → Option (Int × Int × List Int × List Int × Int × Int)) (hL : ∀ k c s d f e, pre_laws_toOutcome k c s d f e → L k c s d f e = some (s_laws_toOutcome k c s d f e)) (l : List TOutcome) (hl : few l) (hs : ∀ x ∈ l, oSm x) :
    ∀ (r : List TOutcome) (j e : Nat) (z : List TOutcome), l.drop j = r → z.length = l.length → z.take j = l.take j → laws_toOutcomeS_l0 L (r.length + 1 + e) l j z = some l
  | [], j, e, z, hd, hz, ht => by
    have h := at_nil hd
    have hj : l.length ≤ j := by omega
    rw [List.length_nil, fuel0]
    simp only [laws_toOutcomeS_l0]
    rw [if_neg h, ← List.take_of_length_le (show z.length ≤ j by omega), ht, List.take_of_length_le hj]
  | x :: r, j, e, z, hd, hz, ht => by
    obtain ⟨h1, h2, h3, h4, h5, h6⟩ := at_cons hd
    rw [List.length_cons, fuel]
    simp only [laws_toOutcomeS_l0]
    rw [if_pos h2, h3]
    simp only [Option.bind_some]
    rw [hL _ _ _ _ _ _ (hs x (List.mem_of_getElem? h4))]
    simp only [Option.bind_some, s_laws_toOutcome]
    rw [if_pos (by omega), Int.toNat_natCast, setN, if_pos (by omega)]
    simp only [Option.bind_some]
    rw [succ_w h1 (few_big hl)]
    refine l_toOutcomeS L hL l hl hs r (j + 1) e (z.set j x) h5 (by simp [hz]) ?_
    rw [List.take_add_one, List.take_add_one, List.getElem?_set_self (by omega), h4, List.take_set_of_le (Nat.le_refl j), ht]
theorem p_laws_toOutcomeS (L : Int → Int → List Int → List Int → Int → Int → Option (Int × Int × List Int × List Int × Int × Int)) (hL : ∀ k c s d f e, pre_laws_toOutcome k c s d f e → L k c s d f e = some (s_laws_toOutcome k c s d f e)) (l : List TOutcome) (h : pre_laws_toOutcomeS l) :
    ∃ N, laws_toOutcomeS_f L N l = some (s_laws_toOutcomeS l) := by
  refine ⟨l.length + 1, ?_⟩
  unfold laws_toOutcomeS_f s_laws_toOutcomeS
  have h' : l.length ≤ 1048576 := h.1
  rw [if_pos (by unfold mkOk roomB; omega)]
  exact l_toOutcomeS L hL l h.1 h.2 l 0 0 _ rfl (by simp) rfl
def pre_spec_l3Digit (c : Int) : Prop := True
def isDig (c : Int) : Bool := decide (48 ≤ c) && decide (c ≤ 57)
def s_spec_l3Digit (c : Int) : Bool := isDig c
theorem p_spec_l3Digit (c : Int) (h : pre_spec_l3Digit c) : ∃ N, spec_l3Digit_f N c = some (s_spec_l3Digit c) := by
  refine ⟨0, ?_⟩
  unfold spec_l3Digit_f s_spec_l3Digit isDig
  by_cases h : 48 ≤ c <;> simp [h]
def pre_spec_l3Letter (c : Int) : Prop := True
def isLet (c : Int) : Bool := (decide (97 ≤ c) && decide (c ≤ 122)) || (decide (65 ≤ c) && decide (c ≤ 90))
def s_spec_l3Letter (c : Int) : Bool := isLet c
theorem p_spec_l3Letter (c : Int) (h : pre_spec_l3Letter c) : ∃ N, spec_l3Letter_f N c = some (s_spec_l3Letter c) := by
  refine ⟨0, ?_⟩
  unfold spec_l3Letter_f s_spec_l3Letter isLet
  by_cases h : 97 ≤ c <;> by_cases h' : c ≤ 122 <;> by_cases h'' : 65 ≤ c <;> simp [h, h', h'']
def pre_spec_l6IdOk (l : List UInt8) : Prop := l.length ≤ big
def idC (b : UInt8) : Bool := isDig b.toNat || isLet b.toNat
def idOkB (l : List UInt8) : Bool := l.all idC && (decide (1 ≤ l.length) && decide (l.length ≤ 20))
def s_spec_l6IdOk (l : List UInt8) : Bool := idOkB l
theorem l_specId (L1 L2 : Int → Option Bool) (h1 : ∀ c, pre_spec_l3Digit c → L1 c = some (s_spec_l3Digit c)) (h2 : ∀ c, pre_spec_l3Letter c → L2 c = some (s_spec_l3Letter c)) (l : List UInt8) (hl : l.length ≤ big) :
    ∀ (r : List UInt8) (j e : Nat), l.drop j = r → spec_l6IdOk_l0 L1 L2 (r.length + 1 + e) l j = some (r.all idC && (decide (1 ≤ l.length) && decide (l.length ≤ 20)))
  | [], j, e, hd => by
    rw [List.length_nil, fuel0]
    simp only [spec_l6IdOk_l0]
    rw [if_neg (at_nil hd)]
    by_cases c : 1 ≤ l.length
    · rw [if_pos (by omega)]
      by_cases c' : l.length ≤ 20
      · have : (l.length : Int) ≤ 20 := by omega
        simp [c, c', this]
      · have : ¬ (l.length : Int) ≤ 20 := by omega
        simp [c, c', this]
    · rw [if_neg (by omega)]; simp [c]
  | b :: r, j, e, hd => by
    obtain ⟨g1, g2, g3, g4, g5, g6⟩ := at_cons hd
    rw [List.length_cons, fuel]
    simp only [spec_l6IdOk_l0]
    rw [if_pos g2, idxB_some g3]
    simp only [Option.bind_some]
    rw [h1 _ trivial, h2 _ trivial, succ_w g1 hl, l_specId L1 L2 h1 h2 l hl r (j + 1) e g5]
    simp only [Option.bind_some, List.all_cons, s_spec_l3Digit, s_spec_l3Letter, idC]
    by_cases c1 : isDig b.toNat = true
    · simp [c1]
    · by_cases c2 : isLet b.toNat = true
      · simp [c1, c2]
      · simp [c1, c2]
theorem p_spec_l6IdOk (L1 : Int → Option Bool) (h1 : ∀ c, pre_spec_l3Digit c → L1 c = some (s_spec_l3Digit c)) (L2 : Int → Option Bool) (h2 : ∀ c, pre_spec_l3Letter c → L2 c = some (s_spec_l3Letter c)) (l : List UInt8) (h : pre_spec_l6IdOk l) :
    ∃ N, spec_l6IdOk_f L1 L2 N l = some (s_spec_l6IdOk l) := ⟨l.length + 1, l_specId L1 L2 h1 h2 l h l 0 0 rfl⟩
def pre_spec_l1Product (l : List Int) : Prop := small l
def stepP (p x : Int) : Int := if 1000 < w64 (p * x) then 1001 else w64 (p * x)
def s_spec_l1Product (l : List Int) : Int := l.foldl stepP 1
theorem l_product (l : List Int) (hl : small l) : ∀ (r : List Int) (j e : Nat) (p : Int), l.drop j = r → spec_l1Product_l0 (r.length + 1 + e) l p j = some (r.foldl stepP p)
  | [], j, e, p, hd => by
    rw [show ([] : List Int).length + 1 + e = e + 1 by simp; omega]
    simp only [spec_l1Product_l0]
    rw [if_neg (at_nil hd)]; rfl
  | x :: r, j, e, p, hd => by
    obtain ⟨h1, h2, h3, h4, h5, h6⟩ := at_cons hd
    have hb : l.length ≤ big := by unfold small at hl; rw [big_eq]; omega
    rw [show (x :: r).length + 1 + e = (r.length + 1 + e) + 1 by simp; omega]
    simp only [spec_l1Product_l0]
    rw [if_pos h2, h3]
    simp only [Option.bind_some, List.foldl_cons, succ_w h1 hb]
    unfold stepP
    by_cases c : 1000 < w64 (p * x)
    · rw [if_pos c, if_pos c, l_product l hl r (j + 1) e _ h5]; rfl
    · rw [if_neg c, if_neg c, l_product l hl r (j + 1) e _ h5]; rfl
theorem p_spec_l1Product (l : List Int) (h : pre_spec_l1Product l) : ∃ N, spec_l1Product_f N l = some (s_spec_l1Product l) :=
  ⟨l.length + 1, l_product l h l 0 0 1 rfl⟩
def pre_spec_l1Fits (l : List Int) : Prop := small l
def axOk (x : Int) : Bool := decide (0 ≤ x) && decide (x ≤ 1000)
def fits (l : List Int) : Bool := decide (l.length ≤ 3) && l.all axOk && decide (l.foldl stepP 1 ≤ 1000)
def s_spec_l1Fits (l : List Int) : Bool := fits l
theorem l_fits (L : List Int → Option Int) (l : List Int) (hl : small l) (q : Int) (hq : L l = some q) : ∀ (r : List Int) (j e : Nat), l.drop j = r →
    spec_l1Fits_l0 L (r.length + 1 + e) l j = some (r.all axOk && decide (q ≤ 1000))
  | [], j, e, hd => by
    rw [show ([] : List Int).length + 1 + e = e + 1 by simp; omega]
    simp only [spec_l1Fits_l0]
    rw [if_neg (at_nil hd), hq]; rfl
  | x :: r, j, e, hd => by
    obtain ⟨h1, h2, h3, h4, h5, h6⟩ := at_cons hd
    have hb : l.length ≤ big := by unfold small at hl; rw [big_eq]; omega
    rw [show (x :: r).length + 1 + e = (r.length + 1 + e) + 1 by simp; omega]
    simp only [spec_l1Fits_l0]
    rw [if_pos h2, h3]
    simp only [Option.bind_some, succ_w h1 hb, List.all_cons, axOk]
    by_cases c1 : x < 0
    · rw [if_pos c1]; simp; omega
    · rw [if_neg c1]
      by_cases c2 : 1000 < x
      · rw [if_pos c2]; simp; omega
      · rw [if_neg c2, l_fits L l hl q hq r (j + 1) e h5]
        have e1 : decide (0 ≤ x) = true := by simp; omega
        have e2 : decide (x ≤ 1000) = true := by simp; omega
        rw [e1, e2]; simp
theorem p_spec_l1Fits (L : List Int → Option Int) (hL : ∀ l, pre_spec_l1Product l → L l = some (s_spec_l1Product l)) (l : List Int) (h : pre_spec_l1Fits l) : ∃ N, spec_l1Fits_f L N l = some (s_spec_l1Fits l) := by
  refine ⟨l.length + 1, ?_⟩
  unfold spec_l1Fits_f s_spec_l1Fits fits
  by_cases c : (3 : Int) < l.length
  · have : ¬ l.length ≤ 3 := by omega
    rw [if_pos c]; simp [this]
  · have : l.length ≤ 3 := by omega
    rw [if_neg c]
    have q := l_fits L l h _ (hL l h) l 0 0 rfl
    rw [show l.length + 1 + 0 = l.length + 1 by rfl] at q
    rw [show ((0 : Nat) : Int) = 0 by rfl] at q
    rw [q]; simp only [this, s_spec_l1Product, decide_true, Bool.true_and]; rfl
def pre_spec_ArrayOk (s d : List Int) : Prop := small s ∧ small d
def cellOk (x : Int) : Bool := decide (-3000000000 ≤ x) && decide (x ≤ 3000000000)
def arrOk (s d : List Int) : Bool := fits s && decide ((d.length : Int) = s.foldl stepP 1) && d.all cellOk
def s_spec_ArrayOk (s d : List Int) : Bool := arrOk s d
theorem l_specArrayOk (L1 : List Int → Option Bool) (L2 : List Int → Option Int) (s l : List Int) (hl : small l) : ∀ (r : List Int) (j e : Nat), l.drop j = r →
    spec_ArrayOk_l0 L1 L2 (r.length + 1 + e) j s l = some (r.all cellOk)
  | [], j, e, hd => by
    rw [show ([] : List Int).length + 1 + e = e + 1 by simp; omega]
    simp only [spec_ArrayOk_l0]
    rw [if_neg (at_nil hd)]; rfl
  | x :: r, j, e, hd => by
    obtain ⟨h1, h2, h3, h4, h5, h6⟩ := at_cons hd
    have hb : l.length ≤ big := by unfold small at hl; rw [big_eq]; omega
    rw [show (x :: r).length + 1 + e = (r.length + 1 + e) + 1 by simp; omega]
    simp only [spec_ArrayOk_l0]
    rw [if_pos h2, h3]
    simp only [Option.bind_some, succ_w h1 hb, List.all_cons, cellOk]
    by_cases c1 : x < -3000000000
    · rw [if_pos c1]; simp; omega
    · rw [if_neg c1]
      by_cases c2 : 3000000000 < x
      · rw [if_pos c2]; simp; omega
      · rw [if_neg c2, l_specArrayOk L1 L2 s l hl r (j + 1) e h5]
        have e1 : decide (-3000000000 ≤ x) = true := by simp; omega
        have e2 : decide (x ≤ 3000000000) = true := by simp; omega
        rw [e1, e2]; simp
theorem p_spec_ArrayOk (L1 : List Int → Option Bool) (h1 : ∀ l, pre_spec_l1Fits l → L1 l = some (s_spec_l1Fits l)) (L2 : List Int → Option Int) (h2 : ∀ l, pre_spec_l1Product l → L2 l = some (s_spec_l1Product l))
    (s d : List Int) (h : pre_spec_ArrayOk s d) : ∃ N, spec_ArrayOk_f L1 L2 N s d = some (s_spec_ArrayOk s d) := by
  refine ⟨d.length + 1, ?_⟩
  unfold spec_ArrayOk_f s_spec_ArrayOk arrOk
  rw [h1 _ h.1, h2 _ h.1]
  simp only [Option.bind_some, s_spec_l1Fits, s_spec_l1Product]
  have q := l_specArrayOk L1 L2 s d h.2 d 0 0 rfl
  rw [show d.length + 1 + 0 = d.length + 1 by rfl, show ((0 : Nat) : Int) = 0 by rfl] at q
  rw [q]
  cases fits s
  · simp
  · by_cases c : (d.length : Int) = s.foldl stepP 1 <;> simp [c]
def dOk (n : Int) : Prop := -3000000000 ≤ n ∧ n ≤ 3000000000
def pre_spec_l1Dec (n : Int) : Prop := dOk n
def s_spec_l1Dec (n : Int) : List UInt8 := Lib.itoa n
def mu_spec_l1Dec (n : Int) : Nat := 2 * n.natAbs + (if n < 0 then 1 else 0)
theorem nDig : ∀ (k u : Nat), u < 10 ^ (k + 1) → Lib.nDigits u ≤ k + 1
  | 0, u, h => by rw [Lib.nDigits_small (by simpa using h)]; omega
  | k + 1, u, h => by
    by_cases c : u < 10
    · rw [Lib.nDigits_small c]; omega
    · rw [Lib.nDigits, dif_neg c]
      have := nDig k (u / 10) (by rw [Nat.pow_succ] at h; exact (Nat.div_lt_iff_lt_mul (by omega)).2 h)
      omega
theorem itoa_len {n : Int} (h : dOk n) : (Lib.itoa n).length ≤ 11 := by
  obtain ⟨h1, h2⟩ := h
  unfold Lib.itoa
  split
  · have := nDig 9 n.natAbs (by omega)
    rw [List.length_cons, Lib.decDigits_length]; omega
  · have := nDig 9 n.toNat (by omega)
    rw [Lib.decDigits_length]; omega
theorem byte_dg {n : Int} (h0 : 0 ≤ n) (h1 : n < 10) : bytes8 [Go.IntKind.wrap .u8 (w64 (48 + n))] = [UInt8.ofNat (48 + n.toNat)] := by
  have : n = 0 ∨ n = 1 ∨ n = 2 ∨ n = 3 ∨ n = 4 ∨ n = 5 ∨ n = 6 ∨ n = 7 ∨ n = 8 ∨ n = 9 := by omega
  rcases this with rfl | rfl | rfl | rfl | rfl | rfl | rfl | rfl | rfl | rfl <;> rfl
theorem p_spec_l1Dec (L : Int → Option (List UInt8)) (j : Nat) (hL : ∀ a, mu_spec_l1Dec a < j → pre_spec_l1Dec a → L a = some (s_spec_l1Dec a)) (a0 : Int) (h : pre_spec_l1Dec a0) (hj : mu_spec_l1Dec a0 < j + 1) :
    ∃ N, spec_l1Dec_f L N a0 = some (s_spec_l1Dec a0) := by
  refine ⟨0, ?_⟩
  have h' : -3000000000 ≤ a0 ∧ a0 ≤ 3000000000 := h
  unfold spec_l1Dec_f
  by_cases c : a0 < 0
  · have hq : dOk (0 - a0) := ⟨by omega, by omega⟩
    have hm : mu_spec_l1Dec (0 - a0) < j := by
      unfold mu_spec_l1Dec at hj ⊢
      rw [if_pos c] at hj; rw [if_neg (by omega)]; omega
    have hlen := itoa_len hq
    rw [if_pos c, w64_in (by omega), hL _ hm hq]
    simp only [Option.bind_some, s_spec_l1Dec]
    rw [if_pos (by unfold roomS; omega)]
    unfold Lib.itoa
    rw [if_pos c, if_neg (by omega), show (0 - a0).toNat = a0.natAbs by omega]
  · rw [if_neg c]
    by_cases c1 : a0 < 10
    · rw [if_pos c1, byte_dg (by omega) c1]
      unfold s_spec_l1Dec Lib.itoa
      rw [if_neg c, Lib.decDigits_one (by omega)]
    · have e1 : Int.tdiv a0 10 = a0 / 10 := Int.tdiv_eq_ediv_of_nonneg (by omega)
      have e2 : Int.tmod a0 10 = a0 % 10 := Int.tmod_eq_emod_of_nonneg (by omega)
      have hq : dOk (a0 / 10) := ⟨by omega, by omega⟩
      have hm : mu_spec_l1Dec (a0 / 10) < j := by
        unfold mu_spec_l1Dec at hj ⊢
        rw [if_neg c] at hj; rw [if_neg (by omega)]; omega
      have hlen := itoa_len hq
      rw [if_neg c1, e1, e2, w64_in (n := a0 / 10) (by omega), hL _ hm hq]
      simp only [Option.bind_some, s_spec_l1Dec]
      rw [byte_dg (by omega) (by omega), if_pos (by unfold roomS; simp only [List.length_append, List.length_cons, List.length_nil]; omega)]
      unfold Lib.itoa
      have e3 : Lib.decDigits a0.toNat = Lib.decDigits (a0.toNat / 10) ++ [UInt8.ofNat (48 + a0.toNat % 10)] := by rw [Lib.decDigits, dif_neg (by omega)]
      rw [if_neg (by omega), if_neg c, e3, show (a0 / 10).toNat = a0.toNat / 10 by omega, show (a0 % 10).toNat = a0.toNat % 10 by omega]
def pre_spec_l1Join (l : List Int) : Prop := small l ∧ ∀ x ∈ l, dOk x
def jfrom : Bool → List Int → List UInt8
  | _, [] => []
  | f, x :: r => (if f then [] else [32]) ++ (Lib.itoa x ++ jfrom false r)
def s_spec_l1Join (l : List Int) : List UInt8 := jfrom true l
theorem ofBytes_app (a b : List UInt8) : ofBytes a ++ ofBytes b = ofBytes (a ++ b) := by simp [ofBytes]
theorem bytes8_of (a : List UInt8) : bytes8 (ofBytes a) = a := by
  induction a with
  | nil => rfl
  | cons x r ih =>
    show UInt8.ofNat ((x.toNat : Int)).toNat :: bytes8 (ofBytes r) = _
    rw [ih, Int.toNat_natCast, UInt8.ofNat_toNat]
theorem ofBytes_len (a : List UInt8) : (ofBytes a).length = a.length := by simp [ofBytes]
theorem l_l1Join (L : Int → Option (List UInt8)) (hL : ∀ a, pre_spec_l1Dec a → L a = some (s_spec_l1Dec a)) (l : List Int) (hl : small l) (hd : ∀ x ∈ l, dOk x) : ∀ (r : List Int) (j e : Nat) (acc : List UInt8), l.drop j = r → acc.length ≤ 12 * j →
    spec_l1Join_l0 L (r.length + 1 + e) l j (ofBytes acc) = some (acc ++ jfrom (decide (j = 0)) r)
  | [], j, e, acc, hdr, ha => by
    rw [show ([] : List Int).length + 1 + e = e + 1 by simp; omega]
    simp only [spec_l1Join_l0]
    rw [if_neg (at_nil hdr), bytes8_of]; simp [jfrom]
  | x :: r, j, e, acc, hdr, ha => by
    obtain ⟨h1, h2, h3, h4, h5, h6⟩ := at_cons hdr
    have hb : l.length ≤ big := by unfold small at hl; rw [big_eq]; omega
    have hx : dOk x := hd x (List.mem_of_getElem? h4)
    have hlen := itoa_len hx
    have hl' : l.length ≤ 1048576 := hl
    rw [show (x :: r).length + 1 + e = (r.length + 1 + e) + 1 by simp; omega]
    simp only [spec_l1Join_l0]
    rw [if_pos h2, h3]
    simp only [Option.bind_some]
    rw [hL x hx]
    simp only [Option.bind_some, s_spec_l1Dec]
    by_cases c : j = 0
    · subst c
      rw [if_neg (by omega), ofBytes_app, if_pos (by unfold room roomB; rw [ofBytes_len, List.length_append]; omega), succ_w h1 hb,
        l_l1Join L hL l hl hd r 1 e _ h5 (by rw [List.length_append]; omega)]
      simp [jfrom]
    · have e32 : ofBytes acc ++ [32] = ofBytes (acc ++ [32]) := ofBytes_app acc [32]
      rw [if_pos (by omega), e32, ofBytes_app, if_pos (by unfold room roomB; rw [ofBytes_len, List.length_append]; simp; omega),
        if_pos (by unfold room roomB; rw [ofBytes_len, List.length_append, List.length_append]; simp; omega), succ_w h1 hb,
        l_l1Join L hL l hl hd r (j + 1) e _ h5 (by rw [List.length_append, List.length_append]; simp; omega)]
      simp [jfrom, c]
theorem p_spec_l1Join (L : Int → Option (List UInt8)) (hL : ∀ a, pre_spec_l1Dec a → L a = some (s_spec_l1Dec a)) (l : List Int) (h : pre_spec_l1Join l) : ∃ N, spec_l1Join_f L N l = some (s_spec_l1Join l) :=
  ⟨l.length + 1, l_l1Join L hL l h.1 h.2 l 0 0 [] rfl (by simp)⟩
theorem jfrom_len : ∀ (r : List Int) (f : Bool), (∀ x ∈ r, dOk x) → (jfrom f r).length ≤ 12 * r.length
  | [], f, _ => by simp [jfrom]
  | x :: r, f, h => by
    have h1 := itoa_len (h x (by simp))
    have h2 := jfrom_len r false (fun y hy => h y (by simp [hy]))
    simp only [jfrom, List.length_append, List.length_cons]
    split <;> simp <;> omega
def inB (n : Int) : Bool := decide (0 ≤ n) && decide (n ≤ 100000)
/-- an outcome that may stand in a log -/
def outOk (x : TOutcome) : Bool := decide (1 ≤ x.Kind) && decide (x.Kind ≤ 4) && inB x.Code && inB x.Fuel && inB x.Cells && (!decide (x.Kind = 1) || arrOk x.Value_Shape x.Value_Data)
def sizeOf_ (x : TOutcome) : List UInt8 := if x.Kind = 1 then Lib.itoa (x.Value_Data.length : Int) else [45]
def entry (id : List UInt8) (i : Nat) (x : TOutcome) : List UInt8 := id ++ ([32] ++ (jfrom true [((i + 1 : Nat) : Int), x.Kind, x.Code, x.Fuel, x.Cells] ++ ([32] ++ (sizeOf_ x ++ [10]))))
def entries (id : List UInt8) : Nat → List TOutcome → List UInt8
  | _, [] => []
  | i, x :: r => entry id i x ++ entries id (i + 1) r
def logOf (id : List UInt8) (os : List TOutcome) : List UInt8 × Bool := if (idOkB id && decide (os.length ≤ 20) && os.all outOk) = true then (entries id 0 os, true) else ([], false)
theorem arrOk_len {s d : List Int} (h : arrOk s d = true) : d.length ≤ 1000 := by
  simp only [arrOk, fits, Bool.and_eq_true, decide_eq_true_eq] at h
  obtain ⟨⟨⟨_, h3⟩, h4⟩, _⟩ := h
  omega
theorem five_ok {x : TOutcome} {i : Nat} (hi : i ≤ 20) (h : outOk x = true) : ∀ y ∈ [((i + 1 : Nat) : Int), x.Kind, x.Code, x.Fuel, x.Cells], dOk y := by
  simp only [outOk, inB, Bool.and_eq_true, decide_eq_true_eq] at h
  obtain ⟨⟨⟨⟨⟨h1, h2⟩, h3, h4⟩, h5, h6⟩, h7, h8⟩, _⟩ := h
  intro y hy
  simp only [List.mem_cons, List.not_mem_nil, or_false] at hy
  unfold dOk
  rcases hy with rfl | rfl | rfl | rfl | rfl <;> omega
theorem size_len {x : TOutcome} (h : outOk x = true) : (sizeOf_ x).length ≤ 11 := by
  unfold sizeOf_
  split
  · rename_i c
    simp only [outOk, Bool.and_eq_true, Bool.or_eq_true, Bool.not_eq_true', decide_eq_false_iff_not] at h
    have := arrOk_len (h.2.resolve_left (fun q => q c))
    exact itoa_len ⟨by omega, by omega⟩
  · simp
theorem entry_len {id : List UInt8} {x : TOutcome} {i : Nat} (hid : id.length ≤ 20) (hi : i ≤ 20) (h : outOk x = true) : (entry id i x).length ≤ 110 := by
  have h1 := jfrom_len _ true (five_ok hi h)
  have h2 := size_len h
  unfold entry
  simp only [List.length_append, List.length_cons, List.length_nil] at h1 ⊢
  omega
section
variable (L1 : List UInt8 → Option Bool) (h1 : ∀ l, pre_spec_l6IdOk l → L1 l = some (s_spec_l6IdOk l)) (L2 : List Int → List Int → Option Bool) (h2 : ∀ s d, pre_spec_ArrayOk s d → L2 s d = some (s_spec_ArrayOk s d))
  (L3 : Int → Option (List UInt8)) (h3 : ∀ a, pre_spec_l1Dec a → L3 a = some (s_spec_l1Dec a)) (L4 : List Int → Option (List UInt8)) (h4 : ∀ l, pre_spec_l1Join l → L4 l = some (s_spec_l1Join l))
include h1 h2 h3 h4
theorem l_specLog (id : List UInt8) (hid : id.length ≤ 20) (l : List TOutcome) (hl : l.length ≤ 20) (hs : ∀ x ∈ l, oSm x) : ∀ (r : List TOutcome) (j e : Nat) (acc : List UInt8), l.drop j = r → acc.length ≤ 110 * j → 
    spec_LogEntry_l0 L1 L2 L3 L4 (r.length + 1 + e) id l acc j = some (if r.all outOk = true then (acc ++ entries id j r, true) else ([], false))
  | [], j, e, acc, hd, ha => by
    rw [List.length_nil, fuel0]
    simp only [spec_LogEntry_l0]
    rw [if_neg (at_nil hd)]; simp [entries]
  | x :: r, j, e, acc, hd, ha => by
    obtain ⟨g1, g2, g3, g4, g5, g6⟩ := at_cons hd
    have hxs := hs x (List.mem_of_getElem? g4)
    rw [List.length_cons, fuel]
    simp only [spec_LogEntry_l0]
    rw [if_pos g2, g3]
    simp only [Option.bind_some]
    by_cases c1 : x.Kind < 1
    · rw [if_pos c1, if_neg]; simp only [List.all_cons, outOk]; simp; omega
    rw [if_neg c1]
    by_cases c2 : 4 < x.Kind
    · rw [if_pos c2, if_neg]; simp only [List.all_cons, outOk]; simp; omega
    rw [if_neg c2]
    by_cases c3 : x.Code < 0
    · rw [if_pos c3, if_neg]; simp only [List.all_cons, outOk, inB]; simp; omega
    rw [if_neg c3]
    by_cases c4 : 100000 < x.Code
    · rw [if_pos c4, if_neg]; simp only [List.all_cons, outOk, inB]; simp; omega
    rw [if_neg c4]
    by_cases c5 : x.Fuel < 0
    · rw [if_pos c5, if_neg]; simp only [List.all_cons, outOk, inB]; simp; omega
    rw [if_neg c5]
    by_cases c6 : 100000 < x.Fuel
    · rw [if_pos c6, if_neg]; simp only [List.all_cons, outOk, inB]; simp; omega
    rw [if_neg c6]
    by_cases c7 : x.Cells < 0
    · rw [if_pos c7, if_neg]; simp only [List.all_cons, outOk, inB]; simp; omega
    rw [if_neg c7]
    by_cases c8 : 100000 < x.Cells
    · rw [if_pos c8, if_neg]; simp only [List.all_cons, outOk, inB]; simp; omega
    rw [if_neg c8]
    have hb : (decide (1 ≤ x.Kind) && decide (x.Kind ≤ 4) && inB x.Code && inB x.Fuel && inB x.Cells) = true := by
      simp only [inB, Bool.and_eq_true, decide_eq_true_eq]; omega
    have hw : w64 ((j : Int) + 1) = ((j + 1 : Nat) : Int) := succ_w g1 (by rw [big_eq]; omega)
    by_cases k : x.Kind = 1
    · rw [if_pos k, h2 _ _ hxs]
      simp only [Option.bind_some, s_spec_ArrayOk]
      by_cases ok : arrOk x.Value_Shape x.Value_Data = true
      · have hx : outOk x = true := by unfold outOk; rw [hb]; simp [ok]
        have hlen := arrOk_len ok
        have hd3 : dOk (x.Value_Data.length : Int) := ⟨by omega, by omega⟩
        have e1 := itoa_len hd3
        have hf := five_ok (i := j) (by omega) hx
        have e2 := jfrom_len _ true hf
        simp only [List.length_cons, List.length_nil] at e2
        rw [ok, if_neg (by simp), h3 _ hd3]
        simp only [Option.bind_some, s_spec_l1Dec]
        rw [if_pos (by unfold roomS; simp only [List.length_append, List.length_cons, List.length_nil]; omega), if_pos (by unfold roomS; simp only [List.length_append, List.length_cons, List.length_nil]; omega), hw, h4 _ ⟨by unfold small; simp, hf⟩]
        simp only [Option.bind_some, s_spec_l1Join]
        rw [if_pos (by unfold roomS; simp only [List.length_append, List.length_cons, List.length_nil]; omega), if_pos (by unfold roomS; simp only [List.length_append, List.length_cons, List.length_nil]; omega),
          if_pos (by unfold roomS; simp only [List.length_append, List.length_cons, List.length_nil]; omega), if_pos (by unfold roomS; simp only [List.length_append, List.length_cons, List.length_nil]; omega)]
        have he : acc ++ id ++ [32] ++ jfrom true [((j + 1 : Nat) : Int), x.Kind, x.Code, x.Fuel, x.Cells] ++ [32] ++ Lib.itoa (x.Value_Data.length : Int) ++ [10] = acc ++ entry id j x := by
          unfold entry sizeOf_; rw [if_pos k]; simp only [List.append_assoc]
        have hl2 := entry_len (i := j) hid (by omega) hx
        rw [he, l_specLog id hid l hl hs r (j + 1) e _ g5 (by rw [List.length_append]; omega)]
        simp only [List.all_cons, hx, Bool.true_and, entries, List.append_assoc]
      · have ok' : arrOk x.Value_Shape x.Value_Data = false := by simpa using ok
        rw [ok', if_pos rfl, if_neg]; simp only [List.all_cons, outOk, ok']; simp [k]
    · have hx : outOk x = true := by unfold outOk; rw [hb]; simp [k]
      have hf := five_ok (i := j) (by omega) hx
      have e2 := jfrom_len _ true hf
      simp only [List.length_cons, List.length_nil] at e2
      rw [if_neg k, if_pos (by unfold roomS; simp only [List.length_append, List.length_cons, List.length_nil]; omega), if_pos (by unfold roomS; simp only [List.length_append, List.length_cons, List.length_nil]; omega), hw, h4 _ ⟨by unfold small; simp, hf⟩]
      simp only [Option.bind_some, s_spec_l1Join]
      rw [if_pos (by unfold roomS; simp only [List.length_append, List.length_cons, List.length_nil]; omega), if_pos (by unfold roomS; simp only [List.length_append, List.length_cons, List.length_nil]; omega),
        if_pos (by unfold roomS; simp only [List.length_append, List.length_cons, List.length_nil]; omega), if_pos (by unfold roomS; simp only [List.length_append, List.length_cons, List.length_nil]; omega)]
      have he : acc ++ id ++ [32] ++ jfrom true [((j + 1 : Nat) : Int), x.Kind, x.Code, x.Fuel, x.Cells] ++ [32] ++ [45] ++ [10] = acc ++ entry id j x := by
        unfold entry sizeOf_; rw [if_neg k]; simp only [List.append_assoc]
      have hl2 := entry_len (i := j) hid (by omega) hx
      rw [he, l_specLog id hid l hl hs r (j + 1) e _ g5 (by rw [List.length_append]; omega)]
      simp only [List.all_cons, hx, Bool.true_and, entries, List.append_assoc]
def pre_spec_LogEntry (id : List UInt8) (os : List TOutcome) : Prop := id.length ≤ 1048576 ∧ few os ∧ ∀ x ∈ os, oSm x
def s_spec_LogEntry (id : List UInt8) (os : List TOutcome) : List UInt8 × Bool := logOf id os
theorem p_spec_LogEntry (id : List UInt8) (os : List TOutcome) (h : pre_spec_LogEntry id os) : ∃ N, spec_LogEntry_f L1 L2 L3 L4 N id os = some (s_spec_LogEntry id os) := by
  refine ⟨os.length + 1, ?_⟩
  obtain ⟨k1, k2, k3⟩ := h
  unfold spec_LogEntry_f s_spec_LogEntry logOf
  rw [h1 _ (show id.length ≤ big by rw [big_eq]; omega)]
  simp only [Option.bind_some, s_spec_l6IdOk]
  by_cases c : idOkB id = true
  · have c1 := c
    simp only [idOkB, Bool.and_eq_true, decide_eq_true_eq] at c1
    rw [c, if_neg (by simp)]
    by_cases c2 : (20 : Int) < os.length
    · rw [if_pos c2, if_neg]; simp; omega
    · have hn : os.length ≤ 20 := by omega
      rw [if_neg c2]
      refine (l_specLog L1 h1 L2 h2 L3 h3 L4 h4 id c1.2.2 os hn k3 os 0 0 [] rfl (by simp)).trans ?_
      simp [hn]
  · have c1 : idOkB id = false := by simpa using c
    rw [c1]; simp
end
def pre_impl_isDigit (c : Int) : Prop := True
def s_impl_isDigit (c : Int) : Bool := isDig c
theorem p_impl_isDigit (c : Int) (h : pre_impl_isDigit c) : ∃ N, impl_isDigit_f N c = some (s_impl_isDigit c) := by
  refine ⟨0, ?_⟩
  unfold impl_isDigit_f s_impl_isDigit isDig
  by_cases h : 48 ≤ c <;> simp [h]
def pre_impl_isLetter (c : Int) : Prop := True
def s_impl_isLetter (c : Int) : Bool := isLet c
theorem p_impl_isLetter (c : Int) (h : pre_impl_isLetter c) : ∃ N, impl_isLetter_f N c = some (s_impl_isLetter c) := by
  refine ⟨0, ?_⟩
  unfold impl_isLetter_f s_impl_isLetter isLet
  by_cases h : 97 ≤ c <;> by_cases h' : c ≤ 122 <;> by_cases h'' : 65 ≤ c <;> simp [h, h', h'']
def pre_impl_idOk (l : List UInt8) : Prop := l.length ≤ big
def s_impl_idOk (l : List UInt8) : Bool := idOkB l
theorem l_implId (L1 L2 : Int → Option Bool) (h1 : ∀ c, pre_impl_isDigit c → L1 c = some (s_impl_isDigit c)) (h2 : ∀ c, pre_impl_isLetter c → L2 c = some (s_impl_isLetter c)) (l : List UInt8) (hl : l.length ≤ big) :
    ∀ (r : List UInt8) (j e : Nat), l.drop j = r → impl_idOk_l0 L1 L2 (r.length + 1 + e) l l.length j = some (r.all idC)
  | [], j, e, hd => by
    rw [List.length_nil, fuel0]
    simp only [impl_idOk_l0]
    rw [if_neg (at_nil hd)]; rfl
  | b :: r, j, e, hd => by
    obtain ⟨g1, g2, g3, g4, g5, g6⟩ := at_cons hd
    rw [List.length_cons, fuel]
    simp only [impl_idOk_l0]
    rw [if_pos g2, idxB_some g3]
    simp only [Option.bind_some]
    rw [h1 _ trivial, h2 _ trivial, succ_w g1 hl, l_implId L1 L2 h1 h2 l hl r (j + 1) e g5]
    simp only [Option.bind_some, List.all_cons, s_impl_isDigit, s_impl_isLetter, idC]
    by_cases c1 : isDig b.toNat = true
    · simp [c1]
    · by_cases c2 : isLet b.toNat = true
      · simp [c1, c2]
      · simp [c1, c2]
theorem p_impl_idOk (L1 : Int → Option Bool) (h1 : ∀ c, pre_impl_isDigit c → L1 c = some (s_impl_isDigit c)) (L2 : Int → Option Bool) (h2 : ∀ c, pre_impl_isLetter c → L2 c = some (s_impl_isLetter c)) (l : List UInt8) (h : pre_impl_idOk l) :
    ∃ N, impl_idOk_f L1 L2 N l = some (s_impl_idOk l) := by
  refine ⟨l.length + 1, ?_⟩
  unfold impl_idOk_f s_impl_idOk idOkB
  by_cases c : (l.length : Int) < 1
  · have : ¬ 1 ≤ l.length := by omega
    rw [if_pos c]; simp [this]
  · rw [if_neg c]
    by_cases c' : 20 < (l.length : Int)
    · have : ¬ l.length ≤ 20 := by omega
      rw [if_pos c']; simp [this]
    · have a1 : 1 ≤ l.length := by omega
      have a2 : l.length ≤ 20 := by omega
      rw [if_neg c']
      refine (l_implId L1 L2 h1 h2 l h l 0 0 rfl).trans ?_
      simp [a1, a2]
def pre_impl_within (n : Int) : Prop := True
def s_impl_within (n : Int) : Bool := inB n
theorem p_impl_within (n : Int) (h : pre_impl_within n) : ∃ N, impl_within_f N n = some (s_impl_within n) := by
  refine ⟨0, ?_⟩
  unfold impl_within_f s_impl_within inB
  by_cases c : 0 ≤ n <;> simp [c]
def pre_impl_cellsOf (l : List Int) : Prop := small l
def stepW (p x : Int) : Int := w64 (p * x)
def s_impl_cellsOf (l : List Int) : Int × Bool := if decide (l.length ≤ 3) && l.all axOk then (l.foldl stepW 1, decide (l.foldl stepW 1 ≤ 1000)) else (0, false)
theorem l_cellsOf (l : List Int) (hl : small l) : ∀ (r : List Int) (j e : Nat) (p : Int), l.drop j = r →
    impl_cellsOf_l0 (r.length + 1 + e) p l l.length j = some (if r.all axOk = true then (r.foldl (fun p x => w64 (p * x)) p, decide (r.foldl (fun p x => w64 (p * x)) p ≤ 1000)) else (0, false))
  | [], j, e, p, hd => by
    rw [show ([] : List Int).length + 1 + e = e + 1 by simp; omega]
    simp only [impl_cellsOf_l0]
    rw [if_neg (at_nil hd)]; rfl
  | x :: r, j, e, p, hd => by
    obtain ⟨h1, h2, h3, h4, h5, h6⟩ := at_cons hd
    have hb : l.length ≤ big := by unfold small at hl; rw [big_eq]; omega
    rw [show (x :: r).length + 1 + e = (r.length + 1 + e) + 1 by simp; omega]
    simp only [impl_cellsOf_l0]
    rw [if_pos h2, h3]
    simp only [Option.bind_some, succ_w h1 hb, List.all_cons, axOk, List.foldl_cons]
    by_cases c1 : x < 0
    · rw [if_pos c1]; simp; omega
    · rw [if_neg c1]
      by_cases c2 : 1000 < x
      · rw [if_pos c2]; simp; omega
      · rw [if_neg c2, l_cellsOf l hl r (j + 1) e _ h5]
        have e1 : decide (0 ≤ x) = true := by simp; omega
        have e2 : decide (x ≤ 1000) = true := by simp; omega
        simp only [e1, e2, Bool.true_and]; rfl
theorem p_impl_cellsOf (l : List Int) (h : pre_impl_cellsOf l) : ∃ N, impl_cellsOf_f N l = some (s_impl_cellsOf l) := by
  refine ⟨l.length + 1, ?_⟩
  unfold impl_cellsOf_f s_impl_cellsOf
  by_cases c : (3 : Int) < l.length
  · have : ¬ l.length ≤ 3 := by omega
    rw [if_pos c]; simp [this]
  · have : l.length ≤ 3 := by omega
    rw [if_neg c]
    have q := l_cellsOf l h l 0 0 1 rfl
    rw [show l.length + 1 + 0 = l.length + 1 by rfl, show ((0 : Nat) : Int) = 0 by rfl] at q
    rw [q]
    simp only [this, decide_true, Bool.true_and]
    rfl
def pre_impl_ArrayOk (s d : List Int) : Prop := small s ∧ small d
def s_impl_ArrayOk (s d : List Int) : Bool := arrOk s d
/-- the reference's product is cut at 1001 -/
def cutAt (p q : Int) : Prop := (p ≤ 1000 → q = p) ∧ (1000 < p → q = 1001)
theorem fold_cut : ∀ (l : List Int) (p q B : Int), 0 ≤ p → p ≤ B → B * 1000 ^ l.length ≤ 1000000000 → l.all axOk = true → cutAt p q → cutAt (l.foldl stepW p) (l.foldl stepP q)
  | [], p, q, B, h0, hB, hm, ha, hc => hc
  | x :: l, p, q, B, h0, hB, hm, ha, hc => by
    simp only [List.all_cons, Bool.and_eq_true, axOk, decide_eq_true_eq] at ha
    obtain ⟨⟨x0, x1⟩, ha⟩ := ha
    have hB0 : 0 ≤ B := Int.le_trans h0 hB
    have hp1 : p * x ≤ B * 1000 := Int.mul_le_mul hB x1 x0 hB0
    have hp0 : 0 ≤ p * x := Int.mul_nonneg h0 x0
    have hm' : (B * 1000) * 1000 ^ l.length ≤ 1000000000 := by
      rw [List.length_cons, Int.pow_succ, Int.mul_comm (1000 ^ l.length) 1000, ← Int.mul_assoc] at hm
      exact hm
    have hpow : (1 : Int) ≤ 1000 ^ l.length := Int.pow_pos (by omega)
    have hBs : B * 1000 ≤ 1000000000 := by
      have := Int.mul_le_mul_of_nonneg_left hpow (show 0 ≤ B * 1000 by omega)
      omega
    simp only [List.foldl_cons]
    have e1 : stepW p x = p * x := by unfold stepW; exact w64_in (by omega)
    rw [e1]
    refine fold_cut l (p * x) _ (B * 1000) hp0 hp1 hm' ha ?_
    by_cases c : p ≤ 1000
    · rw [hc.1 c]
      unfold stepP
      rw [w64_in (by omega)]
      constructor
      · intro h; rw [if_neg (by omega)]
      · intro h; rw [if_pos h]
    · rw [hc.2 (by omega)]
      unfold stepP
      rw [w64_in (by omega)]
      by_cases cx : x = 0
      · subst cx
        simp only [Int.mul_zero]
        exact ⟨fun _ => by simp, fun h => by omega⟩
      · have hx1 : 1 ≤ x := by omega
        have hge : p * 1 ≤ p * x := Int.mul_le_mul_of_nonneg_left hx1 h0
        constructor
        · intro h; omega
        · intro h; rw [if_pos (by omega)]
theorem fold_fits (l : List Int) (hl : l.length ≤ 3) (ha : l.all axOk = true) : cutAt (l.foldl stepW 1) (l.foldl stepP 1) := by
  refine fold_cut l 1 1 1 (by omega) (by omega) ?_ ha ⟨fun _ => rfl, fun h => by omega⟩
  rw [Int.one_mul]
  have : l.length = 0 ∨ l.length = 1 ∨ l.length = 2 ∨ l.length = 3 := by omega
  rcases this with h | h | h | h <;> rw [h] <;> decide
/-- what cellsOf tells, in the reference's words -/
theorem cellsOf_fits (l : List Int) : (s_impl_cellsOf l).2 = fits l ∧ (fits l = true → (s_impl_cellsOf l).1 = l.foldl stepP 1) := by
  unfold s_impl_cellsOf fits
  by_cases c : l.length ≤ 3
  · cases ha : l.all axOk with
    | false => simp
    | true =>
      have hc := fold_fits l c ha
      simp only [c, decide_true, Bool.true_and, if_true]
      by_cases h : l.foldl stepW 1 ≤ 1000
      · rw [hc.1 h]; exact ⟨rfl, fun _ => rfl⟩
      · have e := hc.2 (by omega)
        rw [e]
        refine ⟨by simp [h], fun q => by simp at q⟩
  · simp [c]
theorem l_implArrayOk (L : List Int → Option (Int × Bool)) (l : List Int) (hl : small l) : ∀ (r : List Int) (j e : Nat), l.drop j = r → impl_ArrayOk_l0 L (r.length + 1 + e) l l.length j = some (r.all cellOk)
  | [], j, e, hd => by
    rw [show ([] : List Int).length + 1 + e = e + 1 by simp; omega]
    simp only [impl_ArrayOk_l0]
    rw [if_neg (at_nil hd)]; rfl
  | x :: r, j, e, hd => by
    obtain ⟨h1, h2, h3, h4, h5, h6⟩ := at_cons hd
    have hb : l.length ≤ big := by unfold small at hl; rw [big_eq]; omega
    rw [show (x :: r).length + 1 + e = (r.length + 1 + e) + 1 by simp; omega]
    simp only [impl_ArrayOk_l0]
    rw [if_pos h2, h3]
    simp only [Option.bind_some, succ_w h1 hb, List.all_cons, cellOk]
    by_cases c1 : x < -3000000000
    · rw [if_pos c1]; simp; omega
    · rw [if_neg c1]
      by_cases c2 : 3000000000 < x
      · rw [if_pos c2]; simp; omega
      · rw [if_neg c2, l_implArrayOk L l hl r (j + 1) e h5]
        have e1 : decide (-3000000000 ≤ x) = true := by simp; omega
        have e2 : decide (x ≤ 3000000000) = true := by simp; omega
        rw [e1, e2]; simp
theorem p_impl_ArrayOk (L : List Int → Option (Int × Bool)) (hL : ∀ l, pre_impl_cellsOf l → L l = some (s_impl_cellsOf l)) (s d : List Int) (h : pre_impl_ArrayOk s d) :
    ∃ N, impl_ArrayOk_f L N s d = some (s_impl_ArrayOk s d) := by
  refine ⟨d.length + 1, ?_⟩
  unfold impl_ArrayOk_f s_impl_ArrayOk arrOk
  rw [hL _ h.1]
  simp only [Option.bind_some]
  obtain ⟨e1, e2⟩ := cellsOf_fits s
  rw [e1]
  have q := l_implArrayOk L d h.2 d 0 0 rfl
  rw [show d.length + 1 + 0 = d.length + 1 by rfl, show ((0 : Nat) : Int) = 0 by rfl] at q
  rw [q]
  cases hf : fits s with
  | false => simp
  | true =>
    rw [e2 hf]
    by_cases c : s.foldl stepP 1 = (d.length : Int)
    · simp [c]
    · have c' : ¬ (d.length : Int) = s.foldl stepP 1 := fun q => c q.symm
      simp [c, c']
def pre_strconv_Itoa (n : Int) : Prop := -9223372036854775808 ≤ n ∧ n ≤ 9223372036854775807
def s_strconv_Itoa (n : Int) : List UInt8 := Lib.itoa n
theorem q_strconv_Itoa {n : Int} (h : pre_strconv_Itoa n) : -9223372036854775808 ≤ n ∧ n ≤ 9223372036854775807 := h
def pre___strings_Builder__WriteByte (T : Nat) (b : List UInt8) (c : Int) : Prop := liesB T ∧ b.length + 1 ≤ 140737488355328 ∧ 0 ≤ c ∧ c < 256
def s___strings_Builder__WriteByte (T : Nat) (b : List UInt8) (c : Int) : List UInt8 := b ++ [UInt8.ofNat c.toNat]
theorem q___strings_Builder__WriteByte {T : Nat} {b : List UInt8} {c : Int} (h : pre___strings_Builder__WriteByte T b c) : liesB T ∧ b.length + 1 ≤ 140737488355328 ∧ 0 ≤ c ∧ c < 256 := h
def pre___strings_Builder__WriteString (T : Nat) (b s : List UInt8) : Prop := liesB T ∧ b.length + s.length ≤ 140737488355328
def s___strings_Builder__WriteString (T : Nat) (b s : List UInt8) : Int × List UInt8 := (s.length, b ++ s)
theorem q___strings_Builder__WriteString {T : Nat} {b s : List UInt8} (h : pre___strings_Builder__WriteString T b s) : liesB T ∧ b.length + s.length ≤ 140737488355328 := h
def pre___strings_Builder__String (T : Nat) (b : List UInt8) : Prop := liesB T
def s___strings_Builder__String (T : Nat) (b : List UInt8) : List UInt8 × List UInt8 := (b, b)
theorem q___strings_Builder__String {T : Nat} {b : List UInt8} (h : pre___strings_Builder__String T b) : liesB T := h
def pre_impl_joined (l : List Int) : Prop := small l ∧ ∀ x ∈ l, dOk x
def s_impl_joined (l : List Int) : List UInt8 := jfrom true l
section
variable (WB : Nat → List UInt8 → Int → Option (List UInt8)) (hWB : ∀ T b c, pre___strings_Builder__WriteByte T b c → WB T b c = some (s___strings_Builder__WriteByte T b c))
  (IT : Int → Option (List UInt8)) (hIT : ∀ n, pre_strconv_Itoa n → IT n = some (s_strconv_Itoa n))
  (WS : Nat → List UInt8 → List UInt8 → Option (Int × List UInt8)) (hWS : ∀ T b s, pre___strings_Builder__WriteString T b s → WS T b s = some (s___strings_Builder__WriteString T b s))
  (ST : Nat → List UInt8 → Option (List UInt8 × List UInt8)) (hST : ∀ T b, pre___strings_Builder__String T b → ST T b = some (s___strings_Builder__String T b))
include hWB hIT hWS hST
theorem l_joined (l : List Int) (hl : small l) (hd : ∀ x ∈ l, dOk x) : ∀ (r : List Int) (j e : Nat) (acc : List UInt8), l.drop j = r → acc.length ≤ 12 * j →
    impl_joined_l0 WB IT WS ST (r.length + 1 + e) l l.length j acc = some (acc ++ jfrom (decide (j = 0)) r)
  | [], j, e, acc, hdr, ha => by
    rw [show ([] : List Int).length + 1 + e = e + 1 by simp; omega]
    simp only [impl_joined_l0]
    rw [if_neg (at_nil hdr), hST _ _ lies_B]; simp [jfrom, s___strings_Builder__String]
  | x :: r, j, e, acc, hdr, ha => by
    obtain ⟨h1, h2, h3, h4, h5, h6⟩ := at_cons hdr
    have hb : l.length ≤ big := by unfold small at hl; rw [big_eq]; omega
    have hx : dOk x := hd x (List.mem_of_getElem? h4)
    have hlen := itoa_len hx
    have hx' : -3000000000 ≤ x ∧ x ≤ 3000000000 := hx
    have hl' : l.length ≤ 1048576 := hl
    rw [show (x :: r).length + 1 + e = (r.length + 1 + e) + 1 by simp; omega]
    simp only [impl_joined_l0]
    rw [if_pos h2, h3]
    simp only [Option.bind_some]
    rw [hIT x ⟨by omega, by omega⟩]
    simp only [Option.bind_some, s_strconv_Itoa]
    by_cases c : j = 0
    · subst c
      rw [if_neg (by omega), hWS _ _ _ ⟨lies_B, by omega⟩]
      simp only [Option.bind_some, s___strings_Builder__WriteString]
      rw [succ_w h1 hb, l_joined l hl hd r 1 e _ h5 (by rw [List.length_append]; omega)]
      simp [jfrom]
    · rw [if_pos (by omega), hWB _ _ _ ⟨lies_B, by omega, by omega, by omega⟩]
      simp only [Option.bind_some, s___strings_Builder__WriteByte]
      rw [hWS _ _ _ ⟨lies_B, by rw [List.length_append]; simp; omega⟩]
      simp only [Option.bind_some, s___strings_Builder__WriteString]
      rw [succ_w h1 hb, l_joined l hl hd r (j + 1) e _ h5 (by rw [List.length_append, List.length_append]; simp; omega)]
      simp [jfrom, c]
theorem p_impl_joined (l : List Int) (h : pre_impl_joined l) : ∃ N, impl_joined_f WB IT WS ST N l = some (s_impl_joined l) :=
  ⟨l.length + 1, l_joined WB hWB IT hIT WS hWS ST hST l h.1 h.2 l 0 0 [] rfl (by simp)⟩
end
def pre_strings_Join (l : List (List UInt8)) (s : List UInt8) : Prop := l.length ≤ 140737488355328 ∧ (Lib.join l s).length ≤ 140737488355328
def s_strings_Join (l : List (List UInt8)) (s : List UInt8) : List UInt8 := Lib.join l s
theorem q_strings_Join {l : List (List UInt8)} {s : List UInt8} (h : pre_strings_Join l s) : l.length ≤ 140737488355328 ∧ (Lib.join l s).length ≤ 140737488355328 := h
def pre___impl_lines__put (b : List UInt8) (ws : List (List UInt8)) : Prop := ws.length ≤ 1000 ∧ b.length ≤ 1000000 ∧ (Lib.join ws [32]).length ≤ 1000000
def s___impl_lines__put (b : List UInt8) (ws : List (List UInt8)) : List UInt8 := b ++ (Lib.join ws [32] ++ [10])
theorem lies_L : liesB 65 := ⟨by kernel_rfl, by decide⟩
theorem p___impl_lines__put (JN : List (List UInt8) → List UInt8 → Option (List UInt8)) (hJN : ∀ l s, pre_strings_Join l s → JN l s = some (s_strings_Join l s))
    (WS : Nat → List UInt8 → List UInt8 → Option (Int × List UInt8)) (hWS : ∀ T b s, pre___strings_Builder__WriteString T b s → WS T b s = some (s___strings_Builder__WriteString T b s))
    (WB : Nat → List UInt8 → Int → Option (List UInt8)) (hWB : ∀ T b c, pre___strings_Builder__WriteByte T b c → WB T b c = some (s___strings_Builder__WriteByte T b c))
    (b : List UInt8) (ws : List (List UInt8)) (h : pre___impl_lines__put b ws) : ∃ N, __impl_lines__put_f JN WS WB N b ws = some (s___impl_lines__put b ws) := by
  refine ⟨0, ?_⟩
  obtain ⟨h1, h2, h3⟩ := h
  unfold __impl_lines__put_f s___impl_lines__put
  rw [hJN _ _ ⟨by omega, by omega⟩]
  simp only [Option.bind_some, s_strings_Join]
  rw [hWS _ _ _ ⟨lies_L, by omega⟩]
  simp only [Option.bind_some, s___strings_Builder__WriteString]
  rw [hWB _ _ _ ⟨lies_L, by rw [List.length_append]; omega, by omega, by omega⟩]
  simp only [Option.bind_some, s___strings_Builder__WriteByte, List.append_assoc]
  rfl
theorem join3 (a b c : List UInt8) : Lib.join [a, b, c] [32] = a ++ ([32] ++ (b ++ ([32] ++ c))) := by simp [Lib.join, List.intercalate]
section
variable (L1 : List UInt8 → Option Bool) (h1 : ∀ l, pre_impl_idOk l → L1 l = some (s_impl_idOk l)) (L2 : Int → Option Bool) (h2 : ∀ n, pre_impl_within n → L2 n = some (s_impl_within n))
  (L3 : List Int → List Int → Option Bool) (h3 : ∀ s d, pre_impl_ArrayOk s d → L3 s d = some (s_impl_ArrayOk s d)) (L4 : Int → Option (List UInt8)) (h4 : ∀ a, pre_strconv_Itoa a → L4 a = some (s_strconv_Itoa a))
  (L5 : List Int → Option (List UInt8)) (h5 : ∀ l, pre_impl_joined l → L5 l = some (s_impl_joined l)) (L6 : List UInt8 → List (List UInt8) → Option (List UInt8)) (h6 : ∀ b l, pre___impl_lines__put b l → L6 b l = some (s___impl_lines__put b l))
  (L7 : Nat → List UInt8 → Option (List UInt8 × List UInt8)) (h7 : ∀ T b, pre___strings_Builder__String T b → L7 T b = some (s___strings_Builder__String T b))
include h1 h2 h3 h4 h5 h6 h7
theorem l_implLog (id : List UInt8) (hid : id.length ≤ 20) (l : List TOutcome) (hl : l.length ≤ 20) (hs : ∀ x ∈ l, oSm x) : ∀ (r : List TOutcome) (j e : Nat) (acc : List UInt8), l.drop j = r → acc.length ≤ 110 * j → j ≤ l.length →
    impl_LogEntry_l0 L1 L2 L3 L4 L5 L6 L7 (r.length + 1 + e) id l l.length j acc = some (if r.all outOk = true then (acc ++ entries id j r, true) else ([], false))
  | [], j, e, acc, hd, ha, hj => by
    rw [List.length_nil, fuel0]
    simp only [impl_LogEntry_l0]
    rw [if_neg (at_nil hd), h7 _ _ lies_L]; simp [entries, s___strings_Builder__String]
  | x :: r, j, e, acc, hd, ha, hj => by
    obtain ⟨g1, g2, g3, g4, g5, g6⟩ := at_cons hd
    have hxs := hs x (List.mem_of_getElem? g4)
    rw [List.length_cons, fuel]
    simp only [impl_LogEntry_l0]
    rw [if_pos g2, g3]
    simp only [Option.bind_some]
    by_cases c1 : x.Kind < 1
    · rw [if_pos c1, if_neg]; simp only [List.all_cons, outOk]; simp; omega
    rw [if_neg c1]
    by_cases c2 : 4 < x.Kind
    · rw [if_pos c2, if_neg]; simp only [List.all_cons, outOk]; simp; omega
    rw [if_neg c2, h2 _ trivial]
    simp only [Option.bind_some, s_impl_within]
    by_cases c3 : inB x.Code = true
    case neg =>
      have c3' : inB x.Code = false := by simpa using c3
      rw [c3', if_pos rfl, if_neg]; simp [List.all_cons, outOk, c3']
    rw [if_neg (by simp [c3]), h2 _ trivial]
    simp only [Option.bind_some, s_impl_within]
    by_cases c4 : inB x.Fuel = true
    case neg =>
      have c4' : inB x.Fuel = false := by simpa using c4
      rw [c4', if_pos rfl, if_neg]; simp [List.all_cons, outOk, c4']
    rw [if_neg (by simp [c4]), h2 _ trivial]
    simp only [Option.bind_some, s_impl_within]
    by_cases c5 : inB x.Cells = true
    case neg =>
      have c5' : inB x.Cells = false := by simpa using c5
      rw [c5', if_pos rfl, if_neg]; simp [List.all_cons, outOk, c5']
    rw [if_neg (by simp [c5])]
    have hb : (decide (1 ≤ x.Kind) && decide (x.Kind ≤ 4) && inB x.Code && inB x.Fuel && inB x.Cells) = true := by
      rw [c3, c4, c5]; simp; omega
    have hw : w64 ((j : Int) + 1) = ((j + 1 : Nat) : Int) := succ_w g1 (by rw [big_eq]; omega)
    by_cases k : x.Kind = 1
    · rw [if_pos k, h3 _ _ hxs]
      simp only [Option.bind_some, s_impl_ArrayOk]
      by_cases ok : arrOk x.Value_Shape x.Value_Data = true
      · have hx : outOk x = true := by unfold outOk; rw [hb]; simp [ok]
        have hlen := arrOk_len ok
        have hd3 : dOk (x.Value_Data.length : Int) := ⟨by omega, by omega⟩
        have e1 := itoa_len hd3
        have hf := five_ok (i := j) (by omega) hx
        have e2 := jfrom_len _ true hf
        simp only [List.length_cons, List.length_nil] at e2
        rw [ok, if_neg (by simp), h4 _ ⟨by omega, by omega⟩]
        simp only [Option.bind_some, s_strconv_Itoa]
        rw [hw, h5 _ ⟨by unfold small; simp, hf⟩]
        simp only [Option.bind_some, s_impl_joined]
        rw [h6 _ _ ⟨by simp, by omega, by rw [join3]; simp only [List.length_append, List.length_cons, List.length_nil]; omega⟩]
        have he : s___impl_lines__put acc [id, jfrom true [((j + 1 : Nat) : Int), x.Kind, x.Code, x.Fuel, x.Cells], Lib.itoa (x.Value_Data.length : Int)] = acc ++ entry id j x := by
          unfold s___impl_lines__put entry sizeOf_; rw [join3, if_pos k]; simp only [List.append_assoc]
        have hl2 := entry_len (i := j) hid (by omega) hx
        simp only [Option.bind_some]
        rw [he, l_implLog id hid l hl hs r (j + 1) e _ g5 (by rw [List.length_append]; omega) (by omega)]
        simp only [List.all_cons, hx, Bool.true_and, entries, List.append_assoc]
      · have ok' : arrOk x.Value_Shape x.Value_Data = false := by simpa using ok
        rw [ok', if_pos rfl, if_neg]; simp only [List.all_cons, outOk, ok']; simp [k]
    · have hx : outOk x = true := by unfold outOk; rw [hb]; simp [k]
      have hf := five_ok (i := j) (by omega) hx
      have e2 := jfrom_len _ true hf
      simp only [List.length_cons, List.length_nil] at e2
      rw [if_neg k, hw, h5 _ ⟨by unfold small; simp, hf⟩]
      simp only [Option.bind_some, s_impl_joined]
      rw [h6 _ _ ⟨by simp, by omega, by rw [join3]; simp only [List.length_append, List.length_cons, List.length_nil]; omega⟩]
      have he : s___impl_lines__put acc [id, jfrom true [((j + 1 : Nat) : Int), x.Kind, x.Code, x.Fuel, x.Cells], [45]] = acc ++ entry id j x := by
        unfold s___impl_lines__put entry sizeOf_; rw [join3, if_neg k]; simp only [List.append_assoc]
      have hl2 := entry_len (i := j) hid (by omega) hx
      simp only [Option.bind_some]
      rw [he, l_implLog id hid l hl hs r (j + 1) e _ g5 (by rw [List.length_append]; omega) (by omega)]
      simp only [List.all_cons, hx, Bool.true_and, entries, List.append_assoc]
def pre_impl_LogEntry (id : List UInt8) (os : List TOutcome) : Prop := id.length ≤ 1048576 ∧ few os ∧ ∀ x ∈ os, oSm x
def s_impl_LogEntry (id : List UInt8) (os : List TOutcome) : List UInt8 × Bool := logOf id os
theorem p_impl_LogEntry (id : List UInt8) (os : List TOutcome) (h : pre_impl_LogEntry id os) : ∃ N, impl_LogEntry_f L1 L2 L3 L4 L5 L6 L7 N id os = some (s_impl_LogEntry id os) := by
  refine ⟨os.length + 1, ?_⟩
  obtain ⟨k1, k2, k3⟩ := h
  unfold impl_LogEntry_f s_impl_LogEntry logOf
  rw [h1 _ (show id.length ≤ big by rw [big_eq]; omega)]
  simp only [Option.bind_some, s_impl_idOk]
  by_cases c : idOkB id = true
  · have c1 := c
    simp only [idOkB, Bool.and_eq_true, decide_eq_true_eq] at c1
    rw [c, if_neg (by simp)]
    by_cases c2 : (20 : Int) < os.length
    · rw [if_pos c2, if_neg]; simp; omega
    · have hn : os.length ≤ 20 := by omega
      rw [if_neg c2]
      refine (l_implLog L1 h1 L2 h2 L3 h3 L4 h4 L5 h5 L6 h6 L7 h7 id c1.2.2 os hn k3 os 0 0 [] rfl (by simp) (by omega)).trans ?_
      simp [hn]
  · have c1 : idOkB id = false := by simpa using c
    rw [c1]; simp
end
def pre_laws_eqIntS (a b : List Int) : Prop := small a
def s_laws_eqIntS (a b : List Int) : Bool := decide (a = b)
theorem l_eqIntS (a b : List Int) (ha : small a) (hab : a.length = b.length) : ∀ (r t : List Int) (j e : Nat), a.drop j = r → b.drop j = t → laws_eqIntS_l0 (r.length + 1 + e) a b j = some (decide (r = t))
  | [], t, j, e, hd, hd' => by
    have h := at_nil hd
    rw [show ([] : List Int).length + 1 + e = e + 1 by simp; omega]
    simp only [laws_eqIntS_l0]
    have : t = [] := by rw [← hd']; exact List.drop_eq_nil_of_le (by omega)
    rw [if_neg h, this]; rfl
  | x :: r, t, j, e, hd, hd' => by
    obtain ⟨h1, h2, h3, h4, h5, h6⟩ := at_cons hd
    have hb : a.length ≤ big := by unfold small at ha; rw [big_eq]; omega
    cases t with
    | nil => have := at_nil hd'; omega
    | cons y t =>
      obtain ⟨g1, g2, g3, g4, g5, g6⟩ := at_cons hd'
      rw [show (x :: r).length + 1 + e = (r.length + 1 + e) + 1 by simp; omega]
      simp only [laws_eqIntS_l0]
      rw [if_pos h2, h3, g3]
      simp only [Option.bind_some]
      rw [succ_w h1 hb, l_eqIntS a b ha hab r t (j + 1) e h5 g5]
      by_cases c : x = y
      · rw [if_pos c]; simp [c]
      · rw [if_neg c]; simp [c]
theorem p_laws_eqIntS (a b : List Int) (h : pre_laws_eqIntS a b) : ∃ N, laws_eqIntS_f N a b = some (s_laws_eqIntS a b) := by
  refine ⟨a.length + 1, ?_⟩
  unfold laws_eqIntS_f s_laws_eqIntS
  by_cases c : (a.length : Int) = b.length
  · rw [if_pos c]
    exact l_eqIntS a b h (by omega) a b 0 0 rfl rfl
  · rw [if_neg c]
    have : ¬ a = b := by rintro rfl; exact c rfl
    simp [this]
def pre_laws_eqArray (s d s' d' : List Int) : Prop := small s ∧ small d
def s_laws_eqArray (s d s' d' : List Int) : Bool := decide (s = s') && decide (d = d')
theorem p_laws_eqArray (L : List Int → List Int → Option Bool) (hL : ∀ a b, pre_laws_eqIntS a b → L a b = some (s_laws_eqIntS a b)) (s d s' d' : List Int) (h : pre_laws_eqArray s d s' d') :
    ∃ N, laws_eqArray_f L N s d s' d' = some (s_laws_eqArray s d s' d') := by
  refine ⟨0, ?_⟩
  unfold laws_eqArray_f s_laws_eqArray
  rw [hL _ _ h.1, hL _ _ h.2]
  simp only [Option.bind_some, s_laws_eqIntS]
  by_cases c : s = s' <;> by_cases c' : d = d' <;> simp [c, c']
def pre_laws_eqOutcome (k c : Int) (s d : List Int) (f e k' c' : Int) (s' d' : List Int) (f' e' : Int) : Prop := small s ∧ small d
def s_laws_eqOutcome (k c : Int) (s d : List Int) (f e k' c' : Int) (s' d' : List Int) (f' e' : Int) : Bool := decide (k = k') && decide (c = c') && (decide (s = s') && decide (d = d')) && decide (f = f') && decide (e = e')
theorem p_laws_eqOutcome (L : List Int → List Int → List Int → List Int → Option Bool) (hL : ∀ s d s' d', pre_laws_eqArray s d s' d' → L s d s' d' = some (s_laws_eqArray s d s' d')) (k c : Int) (s d : List Int) (f e k' c' : Int) (s' d' : List Int) (f' e' : Int) (h : pre_laws_eqOutcome k c s d f e k' c' s' d' f' e') :
    ∃ N, laws_eqOutcome_f L N k c s d f e k' c' s' d' f' e' = some (s_laws_eqOutcome k c s d f e k' c' s' d' f' e') := by
  refine ⟨0, ?_⟩
  unfold laws_eqOutcome_f s_laws_eqOutcome
  rw [hL _ _ _ _ h]
  simp only [Option.bind_some, s_laws_eqArray]
  by_cases e1 : k = k' <;> by_cases e2 : c = c' <;> by_cases e3 : f = f' <;> by_cases e4 : e = e' <;> by_cases e5 : s = s' <;> by_cases e6 : d = d' <;> simp [e1, e2, e3, e4, e5, e6]
def pre_laws_eqOutcomeS (a b : List TOutcome) : Prop := few a ∧ (∀ x ∈ a, oSm x) ∧ a = b
def s_laws_eqOutcomeS (a b : List TOutcome) : Bool := true
theorem l_eqOutcomeS (L : Int → Int → List Int → List Int → Int → Int → Int → Int → List Int → List Int → Int → Int → Option Bool) (hL : ∀ k c s d f e k' c' s' d' f' e', pre_laws_eqOutcome k c s d f e k' c' s' d' f' e' → L k c s d f e k' c' s' d' f' e' = some (s_laws_eqOutcome k c s d f e k' c' s' d' f' e'))
    (a : List TOutcome) (ha : few a) (hs : ∀ x ∈ a, oSm x) : ∀ (r : List TOutcome) (j e : Nat), a.drop j = r → laws_eqOutcomeS_l0 L (r.length + 1 + e) a a j = some true
  | [], j, e, hd => by
    rw [List.length_nil, fuel0]
    simp only [laws_eqOutcomeS_l0]
    rw [if_neg (at_nil hd)]
  | x :: r, j, e, hd => by
    obtain ⟨h1, h2, h3, h4, h5, h6⟩ := at_cons hd
    rw [List.length_cons, fuel]
    simp only [laws_eqOutcomeS_l0]
    rw [if_pos h2, h3]
    simp only [Option.bind_some]
    rw [hL _ _ _ _ _ _ _ _ _ _ _ _ (hs x (List.mem_of_getElem? h4))]
    simp only [Option.bind_some, s_laws_eqOutcome, decide_true, Bool.and_self, Bool.true_eq_false, if_false]
    rw [succ_w h1 (few_big ha)]
    exact l_eqOutcomeS L hL a ha hs r (j + 1) e h5
theorem p_laws_eqOutcomeS (L : Int → Int → List Int → List Int → Int → Int → Int → Int → List Int → List Int → Int → Int → Option Bool) (hL : ∀ k c s d f e k' c' s' d' f' e', pre_laws_eqOutcome k c s d f e k' c' s' d' f' e' → L k c s d f e k' c' s' d' f' e' = some (s_laws_eqOutcome k c s d f e k' c' s' d' f' e'))
    (a b : List TOutcome) (h : pre_laws_eqOutcomeS a b) : ∃ N, laws_eqOutcomeS_f L N a b = some (s_laws_eqOutcomeS a b) := by
  obtain ⟨h, hs, rfl⟩ := h
  refine ⟨a.length + 1, ?_⟩
  unfold laws_eqOutcomeS_f s_laws_eqOutcomeS
  rw [if_pos rfl]
  exact l_eqOutcomeS L hL a h hs a 0 0 rfl
def pre_laws_FnExactLogEntry (id : List UInt8) (os : List TOutcome) : Prop := os.length ≤ big ∧ ∀ x ∈ os, oIn x
def s_laws_FnExactLogEntry (id : List UInt8) (os : List TOutcome) : Bool := true
theorem szOut_small {k c : Int} {s d : List Int} {f e left : Int} (h1 : left ≤ 1048576) (h : ¬ s_laws_szOutcome k c s d f e left < 0) : small s ∧ small d := by
  unfold s_laws_szOutcome s_laws_szArray at h
  unfold small
  split at h
  · omega
  · split at h
    · omega
    · split at h <;> omega
theorem szO_small : ∀ (l : List TOutcome) (left : Int), left ≤ 1048576 → ¬ szO l left < 0 → ∀ x ∈ l, oSm x
  | [], _, _, _, x, hx => by cases hx
  | y :: r, left, h1, h, x, hx => by
    simp only [szO] at h
    split at h
    · omega
    · rename_i c
      cases hx with
      | head => exact szOut_small h1 c
      | tail _ hx => exact szO_small r _ (szOut_le _ _ _ _ _ _ _ h1) h x hx
theorem p_laws_FnExactLogEntry (L0 : List TOutcome → Int → Option Int) (h0 : ∀ l n, pre_laws_szOutcomeS l n → L0 l n = some (s_laws_szOutcomeS l n))
    (L1 : List TOutcome → Option (List TOutcome)) (h1 : ∀ l, pre_laws_toOutcomeS l → L1 l = some (s_laws_toOutcomeS l))
    (L2 : List UInt8 → List TOutcome → Option (List UInt8 × Bool)) (h2 : ∀ s d, pre_spec_LogEntry s d → L2 s d = some (s_spec_LogEntry s d))
    (L3 : List UInt8 → List TOutcome → Option (List UInt8 × Bool)) (h3 : ∀ s d, pre_impl_LogEntry s d → L3 s d = some (s_impl_LogEntry s d))
    (L4 : List TOutcome → List TOutcome → Option Bool) (h4 : ∀ a b, pre_laws_eqOutcomeS a b → L4 a b = some (s_laws_eqOutcomeS a b))
    (id : List UInt8) (os : List TOutcome) (h : pre_laws_FnExactLogEntry id os) : ∃ N, laws_FnExactLogEntry_f L0 L1 L2 L3 L4 N id os = some (s_laws_FnExactLogEntry id os) := by
  refine ⟨0, ?_⟩
  unfold laws_FnExactLogEntry_f s_laws_FnExactLogEntry
  by_cases ci : 1048576 < (id.length : Int)
  · rw [if_pos ci]
  · rw [if_neg ci, h0 _ _ ⟨h.1, h.2, by omega, by omega⟩]
    simp only [Option.bind_some]
    by_cases c : s_laws_szOutcomeS os 1048576 < 0
    · rw [if_pos c]
    · rw [if_neg c]
      have hs : few os ∧ ∀ x ∈ os, oSm x := by
        unfold s_laws_szOutcomeS at c
        unfold few
        split at c
        · omega
        · exact ⟨by omega, szO_small _ _ (by omega) c⟩
      rw [h1 _ hs]
      simp only [Option.bind_some, s_laws_toOutcomeS]
      rw [h2 _ _ ⟨by omega, hs⟩, h3 _ _ ⟨by omega, hs⟩]
      simp only [Option.bind_some, s_spec_LogEntry, s_impl_LogEntry]
      rw [if_pos trivial, if_neg (by simp), h4 _ _ ⟨hs.1, hs.2, rfl⟩]
      simp [s_laws_eqOutcomeS]
theorem pre_of_laws_FnExactLogEntry {id : List UInt8} {os : List TOutcome} (h1 : id.length ≤ maxLen) (h2 : os.length ≤ maxLen ∧ ∀ x ∈ os, (Lit.int .i64 x.Kind).wf = true ∧ (Lit.int .i64 x.Code).wf = true ∧ (x.Value_Shape.length ≤ maxLen ∧ ∀ y ∈ x.Value_Shape, (Lit.int .i64 y).wf = true) ∧ (x.Value_Data.length ≤ maxLen ∧ ∀ y ∈ x.Value_Data, (Lit.int .i64 y).wf = true) ∧ (Lit.int .i64 x.Fuel).wf = true ∧ (Lit.int .i64 x.Cells).wf = true) : pre_laws_FnExactLogEntry id os :=
  ⟨h2.1, fun x hx => ⟨(h2.2 x hx).2.2.1.1, (h2.2 x hx).2.2.2.1.1⟩⟩
end Go.Vm
