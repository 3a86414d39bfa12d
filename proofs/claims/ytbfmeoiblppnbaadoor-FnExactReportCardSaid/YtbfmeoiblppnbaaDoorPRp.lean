/- Reports: what the functions answer. -/
import Derived.Test.YtbfmeoiblppnbaaDoorPBase
import Derived.Test.YtbfmeoiblppnbaaDoorFRp
import Derived.Test.YtbfmeoiblppnbaaDoorBldA
import Derived.Lib.ItoaNum
import Derived.Lib.Join
set_option linter.all false
namespace Go.Vm

-- numbers in decimal
theorem nDig : ∀ (k u : Nat), u < 10 ^ (k + 1) → Lib.nDigits u ≤ k + 1
  | 0, u, h => by rw [Lib.nDigits_small (by simpa using h)]; omega
  | k + 1, u, h => by
    by_cases c : u < 10
    · rw [Lib.nDigits_small c]; omega
    · rw [Lib.nDigits, dif_neg c]
      have := nDig k (u / 10) (by rw [Nat.pow_succ] at h; exact (Nat.div_lt_iff_lt_mul (by omega)).2 h)
      omega
def dOk (n : Int) : Prop := -3000000000 ≤ n ∧ n ≤ 3000000000
theorem itoa_len {n : Int} (h : dOk n) : (Lib.itoa n).length ≤ 11 := by
  obtain ⟨h1, h2⟩ := h
  unfold Lib.itoa
  split
  · have := nDig 9 n.natAbs (by omega)
    rw [List.length_cons, Lib.decDigits_length]; omega
  · have := nDig 9 n.toNat (by omega)
    rw [Lib.decDigits_length]; omega
theorem byte_dg {n : Int} (h0 : 0 ≤ n) (h1 : n < 10) : bytes8 [Go.IntKind.wrap .u8 (w64 (48 + n))] = [UInt8.ofNat (48 + n.toNat)] := by
  have : n = 0 ∨ n = 1 ∨ n = 2 ∨ n = 3 ∨ n = 4 ∨ n = 5 ∨ n = 6 ∨ n = 7 ∨ n = 8 ∨ n = 9 := by omega
  rcases this with rfl | rfl | rfl | rfl | rfl | rfl | rfl | rfl | rfl | rfl <;> rfl
-- l1Dec
def pre_spec_l1Dec (n : Int) : Prop := dOk n
def s_spec_l1Dec (n : Int) : List UInt8 := Lib.itoa n
def mu_spec_l1Dec (n : Int) : Nat := 2 * n.natAbs + (if n < 0 then 1 else 0)
theorem p_spec_l1Dec (L : Int → Option (List UInt8)) (j : Nat) (hL : ∀ a, mu_spec_l1Dec a < j → pre_spec_l1Dec a → L a = some (s_spec_l1Dec a)) (a0 : Int) (h : pre_spec_l1Dec a0) (hj : mu_spec_l1Dec a0 < j + 1) :
    ∃ N, spec_l1Dec_f L N a0 = some (s_spec_l1Dec a0) := by
  refine ⟨0, ?_⟩
  have h' : -3000000000 ≤ a0 ∧ a0 ≤ 3000000000 := h
  unfold spec_l1Dec_f
  by_cases c : a0 < 0
  · have hq : dOk (0 - a0) := ⟨by omega, by omega⟩
    have hm : mu_spec_l1Dec (0 - a0) < j := by
      unfold mu_spec_l1Dec at hj ⊢
      rw [if_pos c] at hj; rw [if_neg (by omega)]; omega
    have hlen := itoa_len hq
    rw [if_pos c, w64_in (by omega), hL _ hm hq]
    simp only [Option.bind_some, s_spec_l1Dec]
    rw [if_pos (by unfold roomS; omega)]
    unfold Lib.itoa
    rw [if_pos c, if_neg (by omega), show (0 - a0).toNat = a0.natAbs by omega]
  · rw [if_neg c]
    by_cases c1 : a0 < 10
    · rw [if_pos c1, byte_dg (by omega) c1]
      unfold s_spec_l1Dec Lib.itoa
      rw [if_neg c, Lib.decDigits_one (by omega)]
    · have e1 : Int.tdiv a0 10 = a0 / 10 := Int.tdiv_eq_ediv_of_nonneg (by omega)
      have e2 : Int.tmod a0 10 = a0 % 10 := Int.tmod_eq_emod_of_nonneg (by omega)
      have hq : dOk (a0 / 10) := ⟨by omega, by omega⟩
      have hm : mu_spec_l1Dec (a0 / 10) < j := by
        unfold mu_spec_l1Dec at hj ⊢
        rw [if_neg c] at hj; rw [if_neg (by omega)]; omega
      have hlen := itoa_len hq
      rw [if_neg c1, e1, e2, w64_in (n := a0 / 10) (by omega), hL _ hm hq]
      simp only [Option.bind_some, s_spec_l1Dec]
      rw [byte_dg (by omega) (by omega), if_pos (by unfold roomS; simp only [List.length_append, List.length_cons, List.length_nil]; omega)]
      unfold Lib.itoa
      have e3 : Lib.decDigits a0.toNat = Lib.decDigits (a0.toNat / 10) ++ [UInt8.ofNat (48 + a0.toNat % 10)] := by rw [Lib.decDigits, dif_neg (by omega)]
      rw [if_neg (by omega), if_neg c, e3, show (a0 / 10).toNat = a0.toNat / 10 by omega, show (a0 % 10).toNat = a0.toNat % 10 by omega]
-- letters and digits
def isDig (c : Int) : Bool := decide (48 ≤ c) && decide (c ≤ 57)
def isLet (c : Int) : Bool := (decide (97 ≤ c) && decide (c ≤ 122)) || (decide (65 ≤ c) && decide (c ≤ 90))
def pre_spec_l3Digit (c : Int) : Prop := True
def s_spec_l3Digit (c : Int) : Bool := isDig c
theorem p_spec_l3Digit (c : Int) (h : pre_spec_l3Digit c) : ∃ N, spec_l3Digit_f N c = some (s_spec_l3Digit c) := by
  refine ⟨0, ?_⟩
  unfold spec_l3Digit_f s_spec_l3Digit isDig
  by_cases h : 48 ≤ c <;> simp [h]
def pre_impl_isDigit (c : Int) : Prop := True
def s_impl_isDigit (c : Int) : Bool := isDig c
theorem p_impl_isDigit (c : Int) (h : pre_impl_isDigit c) : ∃ N, impl_isDigit_f N c = some (s_impl_isDigit c) := by
  refine ⟨0, ?_⟩
  unfold impl_isDigit_f s_impl_isDigit isDig
  by_cases h : 48 ≤ c <;> simp [h]
def pre_spec_l3Letter (c : Int) : Prop := True
def s_spec_l3Letter (c : Int) : Bool := isLet c
theorem p_spec_l3Letter (c : Int) (h : pre_spec_l3Letter c) : ∃ N, spec_l3Letter_f N c = some (s_spec_l3Letter c) := by
  refine ⟨0, ?_⟩
  unfold spec_l3Letter_f s_spec_l3Letter isLet
  by_cases h : 97 ≤ c <;> by_cases h' : c ≤ 122 <;> by_cases h'' : 65 ≤ c <;> simp [h, h', h'']
def pre_impl_isLetter (c : Int) : Prop := True
def s_impl_isLetter (c : Int) : Bool := isLet c
theorem p_impl_isLetter (c : Int) (h : pre_impl_isLetter c) : ∃ N, impl_isLetter_f N c = some (s_impl_isLetter c) := by
  refine ⟨0, ?_⟩
  unfold impl_isLetter_f s_impl_isLetter isLet
  by_cases h : 97 ≤ c <;> by_cases h' : c ≤ 122 <;> by_cases h'' : 65 ≤ c <;> simp [h, h', h'']


-- verdicts
def pre_laws_szVerdictS (l : List TVerdict) (n : Int) : Prop := l.length ≤ big ∧ n = 1048576
def s_laws_szVerdictS (l : List TVerdict) (n : Int) : Int := if (l.length : Int) ≤ n then n - l.length else -1
theorem p_laws_szVerdictS (l : List TVerdict) (n : Int) (h : pre_laws_szVerdictS l n) : ∃ N, laws_szVerdictS_f N l n = some (s_laws_szVerdictS l n) := by
  refine ⟨0, ?_⟩
  obtain ⟨h1, rfl⟩ := h
  rw [big_eq] at h1
  unfold laws_szVerdictS_f s_laws_szVerdictS
  rw [w64_in (by omega)]
  split <;> split <;> first | rfl | omega
def pre_laws_toVerdict (k c : Int) : Prop := True
def s_laws_toVerdict (k c : Int) : Int × Int := (k, c)
theorem p_laws_toVerdict (k c : Int) (h : pre_laws_toVerdict k c) : ∃ N, laws_toVerdict_f N k c = some (s_laws_toVerdict k c) := ⟨0, rfl⟩
theorem l_toVerdictS (L : Int → Int → Option (Int × Int)) (hL : ∀ n d, pre_laws_toVerdict n d → L n d = some (s_laws_toVerdict n d)) (l : List TVerdict) (hl : few l) :
    ∀ (r : List TVerdict) (j e : Nat) (z : List TVerdict), l.drop j = r → z.length = l.length → z.take j = l.take j → laws_toVerdictS_l0 L (r.length + 1 + e) l j z = some l
  | [], j, e, z, hd, hz, ht => by
    have h := at_nil hd
    have hj : l.length ≤ j := by omega
    rw [List.length_nil, fuel0]
    simp only [laws_toVerdictS_l0]
    rw [if_neg h, ← List.take_of_length_le (show z.length ≤ j by omega), ht, List.take_of_length_le hj]
  | x :: r, j, e, z, hd, hz, ht => by
    obtain ⟨h1, h2, h3, h4, h5, h6⟩ := at_cons hd
    rw [List.length_cons, fuel]
    simp only [laws_toVerdictS_l0]
    rw [if_pos h2, h3]
    simp only [Option.bind_some]
    rw [hL _ _ trivial]
    simp only [Option.bind_some, s_laws_toVerdict]
    rw [if_pos (by omega), Int.toNat_natCast, setN, if_pos (by omega)]
    simp only [Option.bind_some]
    rw [succ_w h1 (few_big hl)]
    refine l_toVerdictS L hL l hl r (j + 1) e (z.set j x) h5 (by simp [hz]) ?_
    rw [List.take_add_one, List.take_add_one, List.getElem?_set_self (by omega), h4, List.take_set_of_le (Nat.le_refl j), ht]
def pre_laws_toVerdictS (l : List TVerdict) : Prop := few l
def s_laws_toVerdictS (l : List TVerdict) : List TVerdict := l
theorem p_laws_toVerdictS (L : Int → Int → Option (Int × Int)) (hL : ∀ n d, pre_laws_toVerdict n d → L n d = some (s_laws_toVerdict n d)) (l : List TVerdict) (h : pre_laws_toVerdictS l) :
    ∃ N, laws_toVerdictS_f L N l = some (s_laws_toVerdictS l) := by
  refine ⟨l.length + 1, ?_⟩
  unfold laws_toVerdictS_f s_laws_toVerdictS
  have h' : l.length ≤ 1048576 := h
  rw [if_pos (by unfold mkOk roomB; omega)]
  exact l_toVerdictS L hL l h l 0 0 _ rfl (by simp) rfl
def pre_laws_eqVerdict (k c k' c' : Int) : Prop := True
def s_laws_eqVerdict (k c k' c' : Int) : Bool := decide (k = k') && decide (c = c')
theorem p_laws_eqVerdict (k c k' c' : Int) (h : pre_laws_eqVerdict k c k' c') : ∃ N, laws_eqVerdict_f N k c k' c' = some (s_laws_eqVerdict k c k' c') := by
  refine ⟨0, ?_⟩
  unfold laws_eqVerdict_f s_laws_eqVerdict
  by_cases e : k = k' <;> by_cases e' : c = c' <;> simp [e, e']
theorem l_eqVerdictS (L : Int → Int → Int → Int → Option Bool) (hL : ∀ n d n' d', pre_laws_eqVerdict n d n' d' → L n d n' d' = some (s_laws_eqVerdict n d n' d')) (a : List TVerdict) (ha : few a) :
    ∀ (r : List TVerdict) (j e : Nat), a.drop j = r → laws_eqVerdictS_l0 L (r.length + 1 + e) a a j = some true
  | [], j, e, hd => by
    rw [List.length_nil, fuel0]
    simp only [laws_eqVerdictS_l0]
    rw [if_neg (at_nil hd)]
  | x :: r, j, e, hd => by
    obtain ⟨h1, h2, h3, h4, h5, h6⟩ := at_cons hd
    rw [List.length_cons, fuel]
    simp only [laws_eqVerdictS_l0]
    rw [if_pos h2, h3]
    simp only [Option.bind_some]
    rw [hL _ _ _ _ trivial]
    simp only [Option.bind_some, s_laws_eqVerdict, decide_true, Bool.and_self, Bool.true_eq_false, if_false]
    rw [succ_w h1 (few_big ha)]
    exact l_eqVerdictS L hL a ha r (j + 1) e h5
def pre_laws_eqVerdictS (a b : List TVerdict) : Prop := few a ∧ a = b
def s_laws_eqVerdictS (a b : List TVerdict) : Bool := true
theorem p_laws_eqVerdictS (L : Int → Int → Int → Int → Option Bool) (hL : ∀ n d n' d', pre_laws_eqVerdict n d n' d' → L n d n' d' = some (s_laws_eqVerdict n d n' d')) (a b : List TVerdict) (h : pre_laws_eqVerdictS a b) :
    ∃ N, laws_eqVerdictS_f L N a b = some (s_laws_eqVerdictS a b) := by
  obtain ⟨h, rfl⟩ := h
  refine ⟨a.length + 1, ?_⟩
  unfold laws_eqVerdictS_f s_laws_eqVerdictS
  rw [if_pos rfl]
  exact l_eqVerdictS L hL a h a 0 0 rfl
-- ids
def idC (b : UInt8) : Bool := isDig b.toNat || isLet b.toNat
theorem l_specId (L1 L2 : Int → Option Bool) (h1 : ∀ c, pre_spec_l3Digit c → L1 c = some (s_spec_l3Digit c)) (h2 : ∀ c, pre_spec_l3Letter c → L2 c = some (s_spec_l3Letter c)) (l : List UInt8) (hl : l.length ≤ big) :
    ∀ (r : List UInt8) (j e : Nat), l.drop j = r → spec_l6IdOk_l0 L1 L2 (r.length + 1 + e) l j = some (r.all idC && (decide (1 ≤ l.length) && decide (l.length ≤ 20)))
  | [], j, e, hd => by
    rw [List.length_nil, fuel0]
    simp only [spec_l6IdOk_l0]
    rw [if_neg (at_nil hd)]
    by_cases c : 1 ≤ l.length
    · rw [if_pos (by omega)]
      by_cases c' : l.length ≤ 20
      · have : (l.length : Int) ≤ 20 := by omega
        simp [c, c', this]
      · have : ¬ (l.length : Int) ≤ 20 := by omega
        simp [c, c', this]
    · rw [if_neg (by omega)]; simp [c]
  | b :: r, j, e, hd => by
    obtain ⟨g1, g2, g3, g4, g5, g6⟩ := at_cons hd
    rw [List.length_cons, fuel]
    simp only [spec_l6IdOk_l0]
    rw [if_pos g2, idxB_some g3]
    simp only [Option.bind_some]
    rw [h1 _ trivial, h2 _ trivial, succ_w g1 hl, l_specId L1 L2 h1 h2 l hl r (j + 1) e g5]
    simp only [Option.bind_some, List.all_cons, s_spec_l3Digit, s_spec_l3Letter, idC]
    by_cases c1 : isDig b.toNat = true
    · simp [c1]
    · by_cases c2 : isLet b.toNat = true
      · simp [c1, c2]
      · simp [c1, c2]
def idOkB (l : List UInt8) : Bool := l.all idC && (decide (1 ≤ l.length) && decide (l.length ≤ 20))
def pre_spec_l6IdOk (l : List UInt8) : Prop := l.length ≤ big
def s_spec_l6IdOk (l : List UInt8) : Bool := idOkB l
theorem p_spec_l6IdOk (L1 : Int → Option Bool) (h1 : ∀ c, pre_spec_l3Digit c → L1 c = some (s_spec_l3Digit c)) (L2 : Int → Option Bool) (h2 : ∀ c, pre_spec_l3Letter c → L2 c = some (s_spec_l3Letter c)) (l : List UInt8) (h : pre_spec_l6IdOk l) :
    ∃ N, spec_l6IdOk_f L1 L2 N l = some (s_spec_l6IdOk l) := ⟨l.length + 1, l_specId L1 L2 h1 h2 l h l 0 0 rfl⟩
theorem l_implId (L1 L2 : Int → Option Bool) (h1 : ∀ c, pre_impl_isDigit c → L1 c = some (s_impl_isDigit c)) (h2 : ∀ c, pre_impl_isLetter c → L2 c = some (s_impl_isLetter c)) (l : List UInt8) (hl : l.length ≤ big) :
    ∀ (r : List UInt8) (j e : Nat), l.drop j = r → impl_idOk_l0 L1 L2 (r.length + 1 + e) l l.length j = some (r.all idC)
  | [], j, e, hd => by
    rw [List.length_nil, fuel0]
    simp only [impl_idOk_l0]
    rw [if_neg (at_nil hd)]; rfl
  | b :: r, j, e, hd => by
    obtain ⟨g1, g2, g3, g4, g5, g6⟩ := at_cons hd
    rw [List.length_cons, fuel]
    simp only [impl_idOk_l0]
    rw [if_pos g2, idxB_some g3]
    simp only [Option.bind_some]
    rw [h1 _ trivial, h2 _ trivial, succ_w g1 hl, l_implId L1 L2 h1 h2 l hl r (j + 1) e g5]
    simp only [Option.bind_some, List.all_cons, s_impl_isDigit, s_impl_isLetter, idC]
    by_cases c1 : isDig b.toNat = true
    · simp [c1]
    · by_cases c2 : isLet b.toNat = true
      · simp [c1, c2]
      · simp [c1, c2]
def pre_impl_idOk (l : List UInt8) : Prop := l.length ≤ big
def s_impl_idOk (l : List UInt8) : Bool := idOkB l
theorem p_impl_idOk (L1 : Int → Option Bool) (h1 : ∀ c, pre_impl_isDigit c → L1 c = some (s_impl_isDigit c)) (L2 : Int → Option Bool) (h2 : ∀ c, pre_impl_isLetter c → L2 c = some (s_impl_isLetter c)) (l : List UInt8) (h : pre_impl_idOk l) :
    ∃ N, impl_idOk_f L1 L2 N l = some (s_impl_idOk l) := by
  refine ⟨l.length + 1, ?_⟩
  unfold impl_idOk_f s_impl_idOk idOkB
  by_cases c : (l.length : Int) < 1
  · have : ¬ 1 ≤ l.length := by omega
    rw [if_pos c]; simp [this]
  · rw [if_neg c]
    by_cases c' : 20 < (l.length : Int)
    · have : ¬ l.length ≤ 20 := by omega
      rw [if_pos c']; simp [this]
    · have a1 : 1 ≤ l.length := by omega
      have a2 : l.length ≤ 20 := by omega
      rw [if_neg c']
      refine (l_implId L1 L2 h1 h2 l h l 0 0 rfl).trans ?_
      simp [a1, a2]
-- right verdicts
def vOk (k c : Int) : Bool := if k = 3 then decide (1 ≤ c) && decide (c ≤ 99) else decide (1 ≤ k) && decide (k ≤ 5) && decide (c = 0)
theorem vOk_in {k c : Int} (h : vOk k c = true) : 1 ≤ k ∧ k ≤ 5 ∧ 0 ≤ c ∧ c ≤ 99 := by
  unfold vOk at h
  split at h
  · simp at h; omega
  · simp at h; omega
def pre_impl_verdictOk (k c : Int) : Prop := True
def s_impl_verdictOk (k c : Int) : Bool := vOk k c
theorem p_impl_verdictOk (k c : Int) (h : pre_impl_verdictOk k c) : ∃ N, impl_verdictOk_f N k c = some (s_impl_verdictOk k c) := by
  refine ⟨0, ?_⟩
  unfold impl_verdictOk_f s_impl_verdictOk vOk
  by_cases h3 : k = 3
  · rw [if_pos h3, if_pos h3]
    by_cases c1 : 1 ≤ c <;> simp [c1]
  · rw [if_neg h3, if_neg h3]
    by_cases c1 : 1 ≤ k <;> by_cases c2 : k ≤ 5 <;> simp [c1, c2]
theorem l_verdictsOk (l : List TVerdict) (hl : few l) : ∀ (r : List TVerdict) (j e : Nat), l.drop j = r → spec_l6VerdictsOk_l0 (r.length + 1 + e) l j = some (r.all fun v => vOk v.Kind v.Code)
  | [], j, e, hd => by
    rw [List.length_nil, fuel0]
    simp only [spec_l6VerdictsOk_l0]
    rw [if_neg (at_nil hd)]; rfl
  | v :: r, j, e, hd => by
    obtain ⟨h1, h2, h3, h4, h5, h6⟩ := at_cons hd
    rw [List.length_cons, fuel]
    simp only [spec_l6VerdictsOk_l0]
    rw [if_pos h2, h3]
    simp only [Option.bind_some]
    rw [succ_w h1 (few_big hl), l_verdictsOk l hl r (j + 1) e h5]
    rw [List.all_cons]
    unfold vOk
    by_cases k3 : v.Kind = 3
    · rw [if_neg (by omega), if_neg (by omega), if_pos k3, if_pos k3, if_pos k3]
      by_cases c1 : v.Code < 1
      · rw [if_pos c1]; simp; omega
      · rw [if_neg c1]
        by_cases c2 : 99 < v.Code
        · rw [if_pos c2]; simp; omega
        · have e1 : 1 ≤ v.Code := by omega
          have e2 : v.Code ≤ 99 := by omega
          rw [if_neg c2]; simp [e1, e2]
    · rw [if_neg k3, if_neg k3, if_neg k3]
      by_cases c1 : v.Kind < 1
      · rw [if_pos c1]; simp; omega
      · rw [if_neg c1]
        by_cases c2 : 5 < v.Kind
        · rw [if_pos c2]; simp; omega
        · have e1 : 1 ≤ v.Kind := by omega
          have e2 : v.Kind ≤ 5 := by omega
          rw [if_neg c2]
          by_cases c3 : v.Code = 0 <;> simp [c3, e1, e2]
def vsOk (l : List TVerdict) : Bool := decide (l.length ≤ 20) && l.all fun v => vOk v.Kind v.Code
def pre_spec_l6VerdictsOk (l : List TVerdict) : Prop := few l
def s_spec_l6VerdictsOk (l : List TVerdict) : Bool := vsOk l
theorem p_spec_l6VerdictsOk (l : List TVerdict) (h : pre_spec_l6VerdictsOk l) : ∃ N, spec_l6VerdictsOk_f N l = some (s_spec_l6VerdictsOk l) := by
  refine ⟨l.length + 1, ?_⟩
  unfold spec_l6VerdictsOk_f s_spec_l6VerdictsOk vsOk
  by_cases c : 20 < (l.length : Int)
  · have : ¬ l.length ≤ 20 := by omega
    rw [if_pos c]; simp [this]
  · have : l.length ≤ 20 := by omega
    rw [if_neg c]
    refine (l_verdictsOk l h l 0 0 rfl).trans ?_
    simp [this]
-- the word of a verdict
def word (k c : Int) : List UInt8 :=
  if k = 3 then [101, 114, 114, 111, 114, 32] ++ Lib.itoa c else if k = 1 then [112, 97, 115, 115] else if k = 2 then [102, 97, 105, 108] else if k = 4 then [102, 117, 101, 108] else [99, 101, 108, 108, 115]
theorem word_len {k c : Int} (h : vOk k c = true) : (word k c).length ≤ 17 := by
  have h' := vOk_in h
  have := itoa_len (n := c) ⟨by omega, by omega⟩
  unfold word
  split
  · rw [List.length_append]; simp; omega
  · split
    · simp
    · split
      · simp
      · split <;> simp
def pre_spec_l6Word (k c : Int) : Prop := vOk k c = true
def s_spec_l6Word (k c : Int) : List UInt8 := word k c
theorem p_spec_l6Word (L : Int → Option (List UInt8)) (hL : ∀ a, pre_spec_l1Dec a → L a = some (s_spec_l1Dec a)) (k c : Int) (h : pre_spec_l6Word k c) : ∃ N, spec_l6Word_f L N k c = some (s_spec_l6Word k c) := by
  refine ⟨0, ?_⟩
  obtain ⟨g1, g2, g3, g4⟩ := vOk_in h
  have hd : dOk c := ⟨by omega, by omega⟩
  have hlen := itoa_len hd
  unfold spec_l6Word_f s_spec_l6Word word
  by_cases k3 : k = 3
  · rw [if_pos k3, if_pos k3, hL _ hd]
    simp only [Option.bind_some, s_spec_l1Dec]
    rw [if_pos (by unfold roomS; omega)]; rfl
  · have : k = 1 ∨ k = 2 ∨ k = 4 ∨ k = 5 := by omega
    rcases this with rfl | rfl | rfl | rfl <;> rfl
def pre_impl_verdictWord (k c : Int) : Prop := vOk k c = true
def s_impl_verdictWord (k c : Int) : List UInt8 := word k c
def pre_strconv_Itoa (n : Int) : Prop := -9223372036854775808 ≤ n ∧ n ≤ 9223372036854775807
def s_strconv_Itoa (n : Int) : List UInt8 := Lib.itoa n
theorem q_strconv_Itoa {n : Int} (h : pre_strconv_Itoa n) : -9223372036854775808 ≤ n ∧ n ≤ 9223372036854775807 := h
theorem p_impl_verdictWord (L : Int → Option (List UInt8)) (hL : ∀ a, pre_strconv_Itoa a → L a = some (s_strconv_Itoa a)) (k c : Int) (h : pre_impl_verdictWord k c) : ∃ N, impl_verdictWord_f L N k c = some (s_impl_verdictWord k c) := by
  refine ⟨0, ?_⟩
  obtain ⟨g1, g2, g3, g4⟩ := vOk_in h
  have hd : dOk c := ⟨by omega, by omega⟩
  have hlen := itoa_len hd
  unfold impl_verdictWord_f s_impl_verdictWord word
  by_cases k3 : k = 3
  · rw [if_pos k3, if_pos k3, hL _ ⟨by omega, by omega⟩]
    simp only [Option.bind_some, s_strconv_Itoa]
    rw [if_pos (by unfold roomS; omega)]; rfl
  · have : k = 1 ∨ k = 2 ∨ k = 4 ∨ k = 5 := by omega
    rcases this with rfl | rfl | rfl | rfl <;> rfl
def pre_spec_l2Bool (b : Bool) : Prop := True
def s_spec_l2Bool (b : Bool) : Int := if b = true then 1 else 0
theorem p_spec_l2Bool (b : Bool) (h : pre_spec_l2Bool b) : ∃ N, spec_l2Bool_f N b = some (s_spec_l2Bool b) := ⟨0, by cases b <;> rfl⟩
-- the shelf, and a line
theorem lies_L : liesB 65 := ⟨by kernel_rfl, by decide⟩
def pre___strings_Builder__WriteByte (T : Nat) (b : List UInt8) (c : Int) : Prop := T = 65 ∧ b.length + 1 ≤ 140737488355328 ∧ 0 ≤ c ∧ c < 256
def s___strings_Builder__WriteByte (T : Nat) (b : List UInt8) (c : Int) : List UInt8 := b ++ [UInt8.ofNat c.toNat]
theorem q___strings_Builder__WriteByte {T : Nat} {b : List UInt8} {c : Int} (h : pre___strings_Builder__WriteByte T b c) : liesB T ∧ b.length + 1 ≤ 140737488355328 ∧ 0 ≤ c ∧ c < 256 := ⟨h.1 ▸ lies_L, h.2⟩
def pre___strings_Builder__WriteString (T : Nat) (b s : List UInt8) : Prop := T = 65 ∧ b.length + s.length ≤ 140737488355328
def s___strings_Builder__WriteString (T : Nat) (b s : List UInt8) : Int × List UInt8 := (s.length, b ++ s)
theorem q___strings_Builder__WriteString {T : Nat} {b s : List UInt8} (h : pre___strings_Builder__WriteString T b s) : liesB T ∧ b.length + s.length ≤ 140737488355328 := ⟨h.1 ▸ lies_L, h.2⟩
def pre___strings_Builder__String (T : Nat) (b : List UInt8) : Prop := T = 65
def s___strings_Builder__String (T : Nat) (b : List UInt8) : List UInt8 × List UInt8 := (b, b)
theorem q___strings_Builder__String {T : Nat} {b : List UInt8} (h : pre___strings_Builder__String T b) : liesB T := h ▸ lies_L
def pre_strings_Join (l : List (List UInt8)) (s : List UInt8) : Prop := l.length ≤ 140737488355328 ∧ (Lib.join l s).length ≤ 140737488355328
def s_strings_Join (l : List (List UInt8)) (s : List UInt8) : List UInt8 := Lib.join l s
theorem q_strings_Join {l : List (List UInt8)} {s : List UInt8} (h : pre_strings_Join l s) : l.length ≤ 140737488355328 ∧ (Lib.join l s).length ≤ 140737488355328 := h
def pre___impl_lines__put (b : List UInt8) (ws : List (List UInt8)) : Prop := ws.length ≤ 1000 ∧ b.length ≤ 1000000 ∧ (Lib.join ws [32]).length ≤ 1000000
def s___impl_lines__put (b : List UInt8) (ws : List (List UInt8)) : List UInt8 := b ++ (Lib.join ws [32] ++ [10])
theorem p___impl_lines__put (JN : List (List UInt8) → List UInt8 → Option (List UInt8)) (hJN : ∀ l s, pre_strings_Join l s → JN l s = some (s_strings_Join l s))
    (WS : Nat → List UInt8 → List UInt8 → Option (Int × List UInt8)) (hWS : ∀ T b s, pre___strings_Builder__WriteString T b s → WS T b s = some (s___strings_Builder__WriteString T b s))
    (WB : Nat → List UInt8 → Int → Option (List UInt8)) (hWB : ∀ T b c, pre___strings_Builder__WriteByte T b c → WB T b c = some (s___strings_Builder__WriteByte T b c))
    (b : List UInt8) (ws : List (List UInt8)) (h : pre___impl_lines__put b ws) : ∃ N, __impl_lines__put_f JN WS WB N b ws = some (s___impl_lines__put b ws) := by
  refine ⟨0, ?_⟩
  obtain ⟨h1, h2, h3⟩ := h
  unfold __impl_lines__put_f s___impl_lines__put
  rw [hJN _ _ ⟨by omega, by omega⟩]
  simp only [Option.bind_some, s_strings_Join]
  rw [hWS _ _ _ ⟨rfl, by omega⟩]
  simp only [Option.bind_some, s___strings_Builder__WriteString]
  rw [hWB _ _ _ ⟨rfl, by rw [List.length_append]; omega, by omega, by omega⟩]
  simp only [Option.bind_some, s___strings_Builder__WriteByte, List.append_assoc]
  rfl
theorem join2 (a b : List UInt8) : Lib.join [a, b] [32] = a ++ ([32] ++ b) := by simp [Lib.join, List.intercalate]
theorem join3 (a b c : List UInt8) : Lib.join [a, b, c] [32] = a ++ ([32] ++ (b ++ ([32] ++ c))) := by simp [Lib.join, List.intercalate]
theorem join4 (a b c d : List UInt8) : Lib.join [a, b, c, d] [32] = a ++ ([32] ++ (b ++ ([32] ++ (c ++ ([32] ++ d))))) := by simp [Lib.join, List.intercalate]
-- the text
def oneP (k : Int) : Int := if k = 1 then 1 else 0
def lineOf (i : Nat) (v : TVerdict) : List UInt8 := [116, 101, 115, 116, 32] ++ (Lib.itoa ((i + 1 : Nat) : Int) ++ ([32] ++ (word v.Kind v.Code ++ [10])))
def rest (n : Nat) : Nat → Int → List TVerdict → List UInt8
  | _, p, [] => [112, 97, 115, 115, 101, 100, 32] ++ (Lib.itoa p ++ ([32, 111, 102, 32] ++ (Lib.itoa (n : Int) ++ [10])))
  | i, p, v :: r => lineOf i v ++ rest n (i + 1) (p + oneP v.Kind) r
def report (id : List UInt8) (vs : List TVerdict) : List UInt8 × Bool :=
  if idOkB id && vsOk vs then ([115, 116, 117, 100, 101, 110, 116, 32] ++ (id ++ [10]) ++ rest vs.length 0 0 vs, true) else ([], false)

section
variable (L1 : List UInt8 → Option Bool) (h1 : ∀ l, pre_spec_l6IdOk l → L1 l = some (s_spec_l6IdOk l)) (L2 : List TVerdict → Option Bool) (h2 : ∀ l, pre_spec_l6VerdictsOk l → L2 l = some (s_spec_l6VerdictsOk l))
  (L3 : Int → Option (List UInt8)) (h3 : ∀ a, pre_spec_l1Dec a → L3 a = some (s_spec_l1Dec a)) (L4 : Int → Int → Option (List UInt8)) (h4 : ∀ k c, pre_spec_l6Word k c → L4 k c = some (s_spec_l6Word k c))
  (L5 : Bool → Option Int) (h5 : ∀ b, pre_spec_l2Bool b → L5 b = some (s_spec_l2Bool b))
include h1 h2 h3 h4 h5
theorem l_specReport (l : List TVerdict) (hl : l.length ≤ 20) (hv : ∀ v ∈ l, vOk v.Kind v.Code = true) : ∀ (r : List TVerdict) (j e : Nat) (acc : List UInt8) (p : Int), l.drop j = r → acc.length ≤ 1000 + 100 * j → 0 ≤ p → p ≤ j → j ≤ l.length →
    spec_Report_l0 L1 L2 L3 L4 L5 (r.length + 1 + e) l acc p j = some (acc ++ rest l.length j p r, true)
  | [], j, e, acc, p, hd, ha, hp, hpj, hjl => by
    have hdp : dOk p := ⟨by omega, by omega⟩
    have hdn : dOk (l.length : Int) := ⟨by omega, by omega⟩
    have e1 := itoa_len hdp
    have e2 := itoa_len hdn
    rw [List.length_nil, fuel0]
    simp only [spec_Report_l0]
    rw [if_neg (at_nil hd), if_pos (by unfold roomS; simp only [List.length_append, List.length_cons, List.length_nil]; omega), h3 _ hdp]
    simp only [Option.bind_some, s_spec_l1Dec]
    rw [if_pos (by unfold roomS; simp only [List.length_append, List.length_cons, List.length_nil]; omega), if_pos (by unfold roomS; simp only [List.length_append, List.length_cons, List.length_nil]; omega), h3 _ hdn]
    simp only [Option.bind_some, s_spec_l1Dec]
    rw [if_pos (by unfold roomS; simp only [List.length_append, List.length_cons, List.length_nil]; omega), if_pos (by unfold roomS; simp only [List.length_append, List.length_cons, List.length_nil]; omega)]
    simp only [rest, List.append_assoc]
  | v :: r, j, e, acc, p, hd, ha, hp, hpj, hjl => by
    obtain ⟨g1, g2, g3, g4, g5, g6⟩ := at_cons hd
    have hvv : vOk v.Kind v.Code = true := hv v (List.mem_of_getElem? g4)
    have hdj : dOk ((j + 1 : Nat) : Int) := ⟨by omega, by omega⟩
    have e1 := itoa_len hdj
    have e2 := word_len hvv
    have eo : s_spec_l2Bool (decide (v.Kind = 1)) = oneP v.Kind := by unfold s_spec_l2Bool oneP; by_cases c : v.Kind = 1 <;> simp [c]
    have eb : 0 ≤ oneP v.Kind ∧ oneP v.Kind ≤ 1 := by unfold oneP; split <;> omega
    rw [List.length_cons, fuel]
    simp only [spec_Report_l0]
    rw [if_pos g2, if_pos (by unfold roomS; simp only [List.length_append, List.length_cons, List.length_nil]; omega), g3]
    simp only [Option.bind_some]
    rw [succ_w g1 (by rw [big_eq]; omega), h3 _ hdj]
    simp only [Option.bind_some, s_spec_l1Dec]
    rw [if_pos (by unfold roomS; simp only [List.length_append, List.length_cons, List.length_nil]; omega), if_pos (by unfold roomS; simp only [List.length_append, List.length_cons, List.length_nil]; omega), h4 _ _ hvv]
    simp only [Option.bind_some, s_spec_l6Word]
    rw [if_pos (by unfold roomS; simp only [List.length_append, List.length_cons, List.length_nil]; omega), if_pos (by unfold roomS; simp only [List.length_append, List.length_cons, List.length_nil]; omega), h5 _ trivial]
    simp only [Option.bind_some]
    rw [eo, w64_in (by omega), l_specReport l hl hv r (j + 1) e _ _ g5 (by simp only [List.length_append, List.length_cons, List.length_nil]; omega) (by omega) (by omega) (by omega)]
    simp only [rest, lineOf, List.append_assoc]
def pre_spec_Report (id : List UInt8) (vs : List TVerdict) : Prop := id.length ≤ 1048576 ∧ few vs
def s_spec_Report (id : List UInt8) (vs : List TVerdict) : List UInt8 × Bool := report id vs
theorem p_spec_Report (id : List UInt8) (vs : List TVerdict) (h : pre_spec_Report id vs) : ∃ N, spec_Report_f L1 L2 L3 L4 L5 N id vs = some (s_spec_Report id vs) := by
  refine ⟨vs.length + 1, ?_⟩
  obtain ⟨k1, k2⟩ := h
  unfold spec_Report_f s_spec_Report report
  rw [h1 _ (show id.length ≤ big by rw [big_eq]; omega)]
  simp only [Option.bind_some, s_spec_l6IdOk]
  by_cases c : idOkB id = true
  · rw [c, if_neg (by simp), h2 _ k2]
    simp only [Option.bind_some, s_spec_l6VerdictsOk]
    by_cases c' : vsOk vs = true
    · have c2 := c'
      simp only [vsOk, Bool.and_eq_true, decide_eq_true_eq, List.all_eq_true] at c2
      have c1 := c
      simp only [idOkB, Bool.and_eq_true, decide_eq_true_eq] at c1
      rw [c', if_neg (by simp), if_pos (by unfold roomS; omega), if_pos (by unfold roomS; rw [List.length_append]; simp; omega)]
      refine (l_specReport L1 h1 L2 h2 L3 h3 L4 h4 L5 h5 vs c2.1 c2.2 vs 0 0 _ 0 rfl (by simp; omega) (by omega) (by omega) (by omega)).trans ?_
      simp
    · have c2 : vsOk vs = false := by simpa using c'
      rw [c2]; simp
  · have c1 : idOkB id = false := by simpa using c
    rw [c1]; simp
end
section
variable (L1 : List UInt8 → Option Bool) (h1 : ∀ l, pre_impl_idOk l → L1 l = some (s_impl_idOk l)) (L2 : List UInt8 → List (List UInt8) → Option (List UInt8)) (h2 : ∀ b l, pre___impl_lines__put b l → L2 b l = some (s___impl_lines__put b l))
  (L3 : Int → Int → Option Bool) (h3 : ∀ k c, pre_impl_verdictOk k c → L3 k c = some (s_impl_verdictOk k c)) (L4 : Int → Option (List UInt8)) (h4 : ∀ a, pre_strconv_Itoa a → L4 a = some (s_strconv_Itoa a))
  (L5 : Int → Int → Option (List UInt8)) (h5 : ∀ k c, pre_impl_verdictWord k c → L5 k c = some (s_impl_verdictWord k c)) (L6 : Nat → List UInt8 → Option (List UInt8 × List UInt8)) (h6 : ∀ T b, pre___strings_Builder__String T b → L6 T b = some (s___strings_Builder__String T b))
include h1 h2 h3 h4 h5 h6
theorem l_implReport (l : List TVerdict) (hl : l.length ≤ 20) : ∀ (r : List TVerdict) (j e : Nat) (acc : List UInt8) (p : Int), l.drop j = r → acc.length ≤ 1000 + 100 * j → 0 ≤ p → p ≤ j → j ≤ l.length →
    impl_Report_l0 L1 L2 L3 L4 L5 L6 (r.length + 1 + e) l p l l.length j acc = if (r.all fun v => vOk v.Kind v.Code) = true then some (acc ++ rest l.length j p r, true) else some ([], false)
  | [], j, e, acc, p, hd, ha, hp, hpj, hjl => by
    have hdp : dOk p := ⟨by omega, by omega⟩
    have hdn : dOk (l.length : Int) := ⟨by omega, by omega⟩
    have e1 := itoa_len hdp
    have e2 := itoa_len hdn
    rw [List.length_nil, fuel0]
    simp only [impl_Report_l0]
    rw [if_neg (at_nil hd), h4 p ⟨by omega, by omega⟩, h4 (l.length : Int) ⟨by omega, by omega⟩]
    simp only [Option.bind_some, s_strconv_Itoa]
    rw [h2 _ _ ⟨by simp, by omega, by rw [join4]; simp only [List.length_append, List.length_cons, List.length_nil]; omega⟩]
    simp only [Option.bind_some]
    rw [h6 _ _ rfl]
    simp only [Option.bind_some, s___strings_Builder__String, s___impl_lines__put, join4, List.all_nil, if_true, rest, List.append_assoc, List.cons_append, List.nil_append]
  | v :: r, j, e, acc, p, hd, ha, hp, hpj, hjl => by
    obtain ⟨g1, g2, g3, g4, g5, g6⟩ := at_cons hd
    have hdj : dOk ((j + 1 : Nat) : Int) := ⟨by omega, by omega⟩
    have e1 := itoa_len hdj
    have eb : 0 ≤ oneP v.Kind ∧ oneP v.Kind ≤ 1 := by unfold oneP; split <;> omega
    rw [List.length_cons, fuel]
    simp only [impl_Report_l0]
    rw [if_pos g2, g3]
    simp only [Option.bind_some]
    rw [h3 _ _ trivial]
    simp only [Option.bind_some, s_impl_verdictOk]
    by_cases hvv : vOk v.Kind v.Code = true
    · have e2 := word_len hvv
      have hput : pre___impl_lines__put acc [[116, 101, 115, 116], Lib.itoa ((j + 1 : Nat) : Int), word v.Kind v.Code] :=
        ⟨by simp, by omega, by rw [join3]; simp only [List.length_append, List.length_cons, List.length_nil]; omega⟩
      have hih := fun q (hq : 0 ≤ q ∧ q ≤ ((j + 1 : Nat) : Int)) => l_implReport l hl r (j + 1) e (s___impl_lines__put acc [[116, 101, 115, 116], Lib.itoa ((j + 1 : Nat) : Int), word v.Kind v.Code]) q g5
        (by unfold s___impl_lines__put; rw [join3]; simp only [List.length_append, List.length_cons, List.length_nil]; omega) hq.1 hq.2 (by omega)
      have hre : s___impl_lines__put acc [[116, 101, 115, 116], Lib.itoa ((j + 1 : Nat) : Int), word v.Kind v.Code] = acc ++ lineOf j v := by
        unfold s___impl_lines__put lineOf; rw [join3]; simp only [List.append_assoc, List.cons_append, List.nil_append]
      rw [hvv, if_neg (by simp), succ_w g1 (by rw [big_eq]; omega), h4 _ ⟨by omega, by omega⟩, h5 _ _ hvv]
      simp only [Option.bind_some, s_strconv_Itoa, s_impl_verdictWord]
      rw [h2 _ _ hput]
      simp only [Option.bind_some]
      rw [List.all_cons, hvv, Bool.true_and]
      by_cases c : v.Kind = 1
      · have eo : oneP v.Kind = 1 := by unfold oneP; rw [if_pos c]
        rw [if_pos c, w64_in (by omega), hih (p + 1) ⟨by omega, by omega⟩, hre]
        simp only [rest, eo, List.append_assoc]
      · have eo : oneP v.Kind = 0 := by unfold oneP; rw [if_neg c]
        rw [if_neg c, hih p ⟨by omega, by omega⟩, hre]
        simp only [rest, eo, Int.add_zero, List.append_assoc]
    · have hv' : vOk v.Kind v.Code = false := by simpa using hvv
      rw [hv', if_pos rfl, List.all_cons, hv']; rfl
def pre_impl_Report (id : List UInt8) (vs : List TVerdict) : Prop := id.length ≤ 1048576 ∧ few vs
def s_impl_Report (id : List UInt8) (vs : List TVerdict) : List UInt8 × Bool := report id vs
theorem p_impl_Report (id : List UInt8) (vs : List TVerdict) (h : pre_impl_Report id vs) : ∃ N, impl_Report_f L1 L2 L3 L4 L5 L6 N id vs = some (s_impl_Report id vs) := by
  refine ⟨vs.length + 1, ?_⟩
  obtain ⟨k1, k2⟩ := h
  unfold impl_Report_f s_impl_Report report
  rw [h1 _ (show id.length ≤ big by rw [big_eq]; omega)]
  simp only [Option.bind_some, s_impl_idOk]
  by_cases c : idOkB id = true
  · have c1 := c
    simp only [idOkB, Bool.and_eq_true, decide_eq_true_eq] at c1
    rw [c, if_neg (by simp)]
    by_cases c' : 20 < (vs.length : Int)
    · have : ¬ vs.length ≤ 20 := by omega
      rw [if_pos c']; simp [vsOk, this]
    · have hn : vs.length ≤ 20 := by omega
      rw [if_neg c', h2 _ _ ⟨by simp, by simp, by rw [join2]; simp only [List.length_append, List.length_cons, List.length_nil]; omega⟩]
      simp only [Option.bind_some]
      refine (l_implReport L1 h1 L2 h2 L3 h3 L4 h4 L5 h5 L6 h6 vs hn vs 0 0 _ 0 rfl (by unfold s___impl_lines__put; rw [join2]; simp only [List.length_append, List.length_cons, List.length_nil]; omega) (by omega) (by omega) (by omega)).trans ?_
      have hre : s___impl_lines__put [] [[115, 116, 117, 100, 101, 110, 116], id] = [115, 116, 117, 100, 101, 110, 116, 32] ++ (id ++ [10]) := by
        unfold s___impl_lines__put; rw [join2]; simp only [List.append_assoc, List.cons_append, List.nil_append]
      rw [hre]
      by_cases c2 : (vs.all fun v => vOk v.Kind v.Code) = true
      · rw [if_pos c2]; simp [vsOk, hn, c2]
      · have c3 : (vs.all fun v => vOk v.Kind v.Code) = false := by simpa using c2
        rw [if_neg c2]; simp [vsOk, hn, c3]
  · have c1 : idOkB id = false := by simpa using c
    rw [c1]; simp
end
-- the law
def pre_laws_FnExactReport (id : List UInt8) (vs : List TVerdict) : Prop := vs.length ≤ big
def s_laws_FnExactReport (id : List UInt8) (vs : List TVerdict) : Bool := true
theorem p_laws_FnExactReport (L0 : List TVerdict → Int → Option Int) (h0 : ∀ l n, pre_laws_szVerdictS l n → L0 l n = some (s_laws_szVerdictS l n))
    (L1 : List TVerdict → Option (List TVerdict)) (h1 : ∀ l, pre_laws_toVerdictS l → L1 l = some (s_laws_toVerdictS l))
    (L2 : List UInt8 → List TVerdict → Option (List UInt8 × Bool)) (h2 : ∀ s d, pre_spec_Report s d → L2 s d = some (s_spec_Report s d))
    (L3 : List UInt8 → List TVerdict → Option (List UInt8 × Bool)) (h3 : ∀ s d, pre_impl_Report s d → L3 s d = some (s_impl_Report s d))
    (L4 : List TVerdict → List TVerdict → Option Bool) (h4 : ∀ a b, pre_laws_eqVerdictS a b → L4 a b = some (s_laws_eqVerdictS a b))
    (id : List UInt8) (vs : List TVerdict) (h : pre_laws_FnExactReport id vs) : ∃ N, laws_FnExactReport_f L0 L1 L2 L3 L4 N id vs = some (s_laws_FnExactReport id vs) := by
  refine ⟨0, ?_⟩
  unfold laws_FnExactReport_f s_laws_FnExactReport
  by_cases ci : 1048576 < (id.length : Int)
  · rw [if_pos ci]
  · rw [if_neg ci, h0 _ _ ⟨h, rfl⟩]
    simp only [Option.bind_some]
    by_cases c : s_laws_szVerdictS vs 1048576 < 0
    · rw [if_pos c]
    · rw [if_neg c]
      have hs : few vs := by
        unfold s_laws_szVerdictS at c
        unfold few
        split at c <;> omega
      rw [h1 _ hs]
      simp only [Option.bind_some, s_laws_toVerdictS]
      rw [h2 _ _ ⟨by omega, hs⟩, h3 _ _ ⟨by omega, hs⟩]
      simp only [Option.bind_some, s_spec_Report, s_impl_Report]
      rw [if_pos trivial, if_neg (by simp), h4 _ _ ⟨hs, rfl⟩]
      simp [s_laws_eqVerdictS]
theorem pre_of_laws_FnExactReport {id : List UInt8} {vs : List TVerdict} (h1 : id.length ≤ maxLen) (h2 : vs.length ≤ maxLen ∧ ∀ x ∈ vs, (Lit.int .i64 x.Kind).wf = true ∧ (Lit.int .i64 x.Code).wf = true) : pre_laws_FnExactReport id vs := h2.1
end Go.Vm
