/- What the functions under laws_FnExactParseArray answer. -/
import Derived.Test.YtkfmlfihobkcmaaDoorPBase
import Derived.Test.YtkfmlfihobkcmaaDoorFPar
import Derived.Test.YtkfmlfihobkcmaaDoorLayC
import Derived.Lib.ItoaNum
import Derived.Lib.CountLaws
set_option linter.all false
set_option maxRecDepth 100000
namespace Go.Vm

def pre_spec_l1Cut (s : List UInt8) (c : Int) : Prop := s.length ≤ 1048576
/-- a text in pieces, at each byte c -/
def pcs (c : Int) : List UInt8 → List UInt8 → List (List UInt8)
  | cur, [] => [cur]
  | cur, b :: r => if (b.toNat : Int) = c then cur :: pcs c [] r else pcs c (cur ++ [b]) r
def s_spec_l1Cut (s : List UInt8) (c : Int) : List (List UInt8) := pcs c [] s
theorem l_l1Cut (s : List UInt8) (c : Int) (hs : s.length ≤ 1048576) : ∀ (r : List UInt8) (f i e : Nat) (out : List (List UInt8)), s.drop i = r → f ≤ i → i ≤ s.length → out.length ≤ i →
    spec_l1Cut_l0 (r.length + 2 + e) s c f i out = some (out ++ pcs c ((s.drop f).take (i - f)) r)
  | [], f, i, e, out, hd, hf, hi, ho => by
    have hn := at_nil hd
    have hi' : i = s.length := by omega
    rw [show ([] : List UInt8).length + 2 + e = (e + 1) + 1 by simp; omega]
    simp only [spec_l1Cut_l0]
    rw [if_pos (by omega), if_pos (by omega)]
    have hc : cut s (f : Int) (i : Int) = some ((s.drop f).take (i - f)) := by
      unfold cut
      rw [if_pos (by omega), Int.toNat_natCast, show ((i : Int) - (f : Int)).toNat = i - f by omega]
    rw [hc]
    simp only [Option.bind_some]
    rw [if_pos (by unfold room roomB; simp only [List.length_append, List.length_cons, List.length_nil]; omega), w64_in (by omega), if_neg (by omega)]
    rfl
  | b :: r, f, i, e, out, hd, hf, hi, ho => by
    obtain ⟨g1, g2, g3, g4, g5, g6⟩ := at_cons hd
    rw [show (b :: r).length + 2 + e = (r.length + 2 + e) + 1 by simp; omega]
    simp only [spec_l1Cut_l0]
    rw [if_pos (by omega), if_neg (by omega), idxB_some g3]
    simp only [Option.bind_some, pcs]
    have hc : cut s (f : Int) (i : Int) = some ((s.drop f).take (i - f)) := by
      unfold cut
      rw [if_pos (by omega), Int.toNat_natCast, show ((i : Int) - (f : Int)).toNat = i - f by omega]
    have hw : w64 ((i : Int) + 1) = ((i + 1 : Nat) : Int) := succ_w g1 (by rw [big_eq]; omega)
    by_cases h : (b.toNat : Int) = c
    · rw [if_pos h, if_pos h, hc]
      simp only [Option.bind_some]
      rw [if_pos (by unfold room roomB; simp only [List.length_append, List.length_cons, List.length_nil]; omega), hw,
        l_l1Cut s c hs r (i + 1) (i + 1) e _ g5 (Nat.le_refl _) (by omega) (by simp only [List.length_append, List.length_cons, List.length_nil]; omega)]
      simp
    · rw [if_neg h, if_neg h, hw, l_l1Cut s c hs r f (i + 1) e _ g5 (by omega) (by omega) (by omega)]
      congr 3
      rw [show i + 1 - f = (i - f) + 1 by omega, List.take_add_one, List.getElem?_drop, show f + (i - f) = i by omega, g4]
      rfl
theorem p_spec_l1Cut (s : List UInt8) (c : Int) (h : pre_spec_l1Cut s c) : ∃ N, spec_l1Cut_f N s c = some (s_spec_l1Cut s c) := by
  refine ⟨s.length + 2, ?_⟩
  have := l_l1Cut s c h s 0 0 0 [] rfl (Nat.le_refl _) (Nat.zero_le _) (Nat.zero_le _)
  simpa [spec_l1Cut_f, s_spec_l1Cut] using this
def dOk (n : Int) : Prop := -9999999999 ≤ n ∧ n ≤ 9999999999
def pre_spec_l1Dec (n : Int) : Prop := dOk n
def s_spec_l1Dec (n : Int) : List UInt8 := Lib.itoa n
def mu_spec_l1Dec (n : Int) : Nat := 2 * n.natAbs + (if n < 0 then 1 else 0)
theorem nDig : ∀ (k u : Nat), u < 10 ^ (k + 1) → Lib.nDigits u ≤ k + 1
  | 0, u, h => by rw [Lib.nDigits_small (by simpa using h)]; omega
  | k + 1, u, h => by
    by_cases c : u < 10
    · rw [Lib.nDigits_small c]; omega
    · rw [Lib.nDigits, dif_neg c]
      have := nDig k (u / 10) (by rw [Nat.pow_succ] at h; exact (Nat.div_lt_iff_lt_mul (by omega)).2 h)
      omega
theorem itoa_len {n : Int} (h : dOk n) : (Lib.itoa n).length ≤ 11 := by
  obtain ⟨h1, h2⟩ := h
  unfold Lib.itoa
  split
  · have := nDig 9 n.natAbs (by omega)
    rw [List.length_cons, Lib.decDigits_length]; omega
  · have := nDig 9 n.toNat (by omega)
    rw [Lib.decDigits_length]; omega
theorem byte_dg {n : Int} (h0 : 0 ≤ n) (h1 : n < 10) : bytes8 [Go.IntKind.wrap .u8 (w64 (48 + n))] = [UInt8.ofNat (48 + n.toNat)] := by
  have : n = 0 ∨ n = 1 ∨ n = 2 ∨ n = 3 ∨ n = 4 ∨ n = 5 ∨ n = 6 ∨ n = 7 ∨ n = 8 ∨ n = 9 := by omega
  rcases this with rfl | rfl | rfl | rfl | rfl | rfl | rfl | rfl | rfl | rfl <;> rfl
theorem p_spec_l1Dec (L : Int → Option (List UInt8)) (j : Nat) (hL : ∀ a, mu_spec_l1Dec a < j → pre_spec_l1Dec a → L a = some (s_spec_l1Dec a)) (a0 : Int) (h : pre_spec_l1Dec a0) (hj : mu_spec_l1Dec a0 < j + 1) :
    ∃ N, spec_l1Dec_f L N a0 = some (s_spec_l1Dec a0) := by
  refine ⟨0, ?_⟩
  have h' : -9999999999 ≤ a0 ∧ a0 ≤ 9999999999 := h
  unfold spec_l1Dec_f
  by_cases c : a0 < 0
  · have hq : dOk (0 - a0) := ⟨by omega, by omega⟩
    have hm : mu_spec_l1Dec (0 - a0) < j := by
      unfold mu_spec_l1Dec at hj ⊢
      rw [if_pos c] at hj; rw [if_neg (by omega)]; omega
    have hlen := itoa_len hq
    rw [if_pos c, w64_in (by omega), hL _ hm hq]
    simp only [Option.bind_some, s_spec_l1Dec]
    rw [if_pos (by unfold roomS; omega)]
    unfold Lib.itoa
    rw [if_pos c, if_neg (by omega), show (0 - a0).toNat = a0.natAbs by omega]
  · rw [if_neg c]
    by_cases c1 : a0 < 10
    · rw [if_pos c1, byte_dg (by omega) c1]
      unfold s_spec_l1Dec Lib.itoa
      rw [if_neg c, Lib.decDigits_one (by omega)]
    · have e1 : Int.tdiv a0 10 = a0 / 10 := Int.tdiv_eq_ediv_of_nonneg (by omega)
      have e2 : Int.tmod a0 10 = a0 % 10 := Int.tmod_eq_emod_of_nonneg (by omega)
      have hq : dOk (a0 / 10) := ⟨by omega, by omega⟩
      have hm : mu_spec_l1Dec (a0 / 10) < j := by
        unfold mu_spec_l1Dec at hj ⊢
        rw [if_neg c] at hj; rw [if_neg (by omega)]; omega
      have hlen := itoa_len hq
      rw [if_neg c1, e1, e2, w64_in (n := a0 / 10) (by omega), hL _ hm hq]
      simp only [Option.bind_some, s_spec_l1Dec]
      rw [byte_dg (by omega) (by omega), if_pos (by unfold roomS; simp only [List.length_append, List.length_cons, List.length_nil]; omega)]
      unfold Lib.itoa
      have e3 : Lib.decDigits a0.toNat = Lib.decDigits (a0.toNat / 10) ++ [UInt8.ofNat (48 + a0.toNat % 10)] := by rw [Lib.decDigits, dif_neg (by omega)]
      rw [if_neg (by omega), if_neg c, e3, show (a0 / 10).toNat = a0.toNat / 10 by omega, show (a0 % 10).toNat = a0.toNat % 10 by omega]
def pre_spec_l1Num (w : List UInt8) : Prop := w.length ≤ 1048576
def dgB (c : UInt8) : Prop := 48 ≤ (c.toNat : Int) ∧ (c.toNat : Int) ≤ 57
instance (c : UInt8) : Decidable (dgB c) := by unfold dgB; infer_instance
def gN : Bool → List UInt8 → Int → Nat → Option (Int × Nat)
  | _, [], v, k => some (v, k)
  | f, c :: r, v, k => if dgB c ∧ k < 10 then gN false r (v * 10 + ((c.toNat : Int) - 48)) (k + 1)
      else if f = false then none else if (c.toNat : Int) = 45 then gN false r v k else none
def finN (w : List UInt8) (v : Int) (k : Nat) : Int × Bool :=
  if w.head? = some 45 then (-v, decide (0 < k) && decide (Lib.itoa (-v) = w)) else (v, decide (0 < k) && decide (Lib.itoa v = w))
def sNum (w : List UInt8) : Int × Bool := match gN true w 0 0 with
  | none => (0, false)
  | some p => finN w p.1 p.2
def s_spec_l1Num (w : List UInt8) : Int × Bool := sNum w
theorem finN_45 {w : List UInt8} (h : w.head? = some 45) (v : Int) (k : Nat) : finN w v k = (-v, decide (0 < k) && decide (Lib.itoa (-v) = w)) := if_pos h
theorem finN_ne {w : List UInt8} (h : ¬ w.head? = some 45) (v : Int) (k : Nat) : finN w v k = (v, decide (0 < k) && decide (Lib.itoa v = w)) := if_neg h
def numIn (v : Int) (k : Nat) : Prop := 0 ≤ v ∧ v < 10 ^ k ∧ k ≤ 10
theorem pow10_le {k : Nat} (h : k ≤ 10) : (10 : Int) ^ k ≤ 10000000000 := by
  have : (10 : Nat) ^ k ≤ 10 ^ 10 := Nat.pow_le_pow_right (by omega) h
  have e : ((10 ^ k : Nat) : Int) = (10 : Int) ^ k := by simp
  rw [← e]; omega
theorem num_step {v : Int} {k : Nat} {d : Int} (h : numIn v k) (hk : k < 10) (h0 : 0 ≤ d) (h9 : d ≤ 9) : numIn (v * 10 + d) (k + 1) := by
  obtain ⟨h1, h2, h3⟩ := h
  refine ⟨by omega, ?_, by omega⟩
  rw [Int.pow_succ]
  omega
theorem l_l1Num (L : Int → Option (List UInt8)) (hL : ∀ a, pre_spec_l1Dec a → L a = some (s_spec_l1Dec a)) (w : List UInt8) (hw : w.length ≤ 1048576) :
    ∀ (r : List UInt8) (i e : Nat) (v : Int) (k : Nat), w.drop i = r → numIn v k → (i = 0 → k = 0 ∧ v = 0) →
    spec_l1Num_l0 L (r.length + 1 + e) w v k i = some (match gN (decide (i = 0)) r v k with | none => (0, false) | some p => finN w p.1 p.2)
  | [], i, e, v, k, hd, hv, hi => by
    have hp := pow10_le hv.2.2
    have hv' := hv.2.1
    have hv0 := hv.1
    have d1 : dOk v := ⟨by omega, by omega⟩
    have d2 : dOk (-v) := ⟨by omega, by omega⟩
    rw [List.length_nil, fuel0]
    simp only [spec_l1Num_l0, gN]
    rw [if_neg (at_nil hd)]
    have e1 : w64 (0 - v) = -v := by rw [w64_in (by omega)]; omega
    have e2 : ((0 : Nat) : Int) = 0 := rfl
    cases w with
    | nil =>
      rw [if_neg (by simp), finN_ne (by simp)]
      by_cases c : 0 < k
      · rw [if_pos (by omega), hL _ d1]; simp [c, s_spec_l1Dec]
      · rw [if_neg (by omega)]; simp [c]
    | cons b w' =>
      have hb : idxB (b :: w') 0 = some (b.toNat : Int) := by
        have := idxB_some (l := b :: w') (j := 0) (c := b) rfl
        simpa using this
      rw [if_pos (by rw [List.length_cons]; omega), hb]
      simp only [Option.bind_some]
      by_cases h45 : b = 45
      · subst h45
        rw [if_pos (by rfl), finN_45 (by rfl), e1]
        by_cases c : 0 < k
        · rw [if_pos (by omega), hL _ d2]; simp [c, s_spec_l1Dec]
        · rw [if_neg (by omega)]; simp [c]
      · have h' : ¬ (b.toNat : Int) = 45 := fun q => h45 (UInt8.toNat_inj.1 (by show b.toNat = 45; omega))
        rw [if_neg h', finN_ne (by simpa using h45)]
        by_cases c : 0 < k
        · rw [if_pos (by omega), hL _ d1]; simp [c, s_spec_l1Dec]
        · rw [if_neg (by omega)]; simp [c]
  | b :: r, i, e, v, k, hd, hv, hi => by
    obtain ⟨g1, g2, g3, g4, g5, g6⟩ := at_cons hd
    have hp := pow10_le hv.2.2
    have hv' := hv.2.1
    have hv0 := hv.1
    have hk := hv.2.2
    have hws : w64 ((i : Int) + 1) = ((i + 1 : Nat) : Int) := succ_w g1 (by rw [big_eq]; omega)
    have ei : decide (i + 1 = 0) = false := by simp
    rw [List.length_cons, fuel]
    simp only [spec_l1Num_l0, gN]
    rw [if_pos g2, idxB_some g3]
    simp only [Option.bind_some]
    have tail : (if (0 : Int) < (i : Int) then some ((0 : Int), false) else if (b.toNat : Int) = 45 then spec_l1Num_l0 L (r.length + 1 + e) w v (k : Int) (w64 ((i : Int) + 1)) else some (0, false))
        = some (match (if decide (i = 0) = false then none else if (b.toNat : Int) = 45 then gN false r v k else none) with | none => (0, false) | some p => finN w p.1 p.2) := by
      by_cases c0 : i = 0
      · subst c0
        rw [if_neg (c := (0 : Int) < ((0 : Nat) : Int)) (by omega), if_neg (c := decide ((0 : Nat) = 0) = false) (by decide)]
        by_cases c45 : (b.toNat : Int) = 45
        · rw [if_pos c45, if_pos c45, hws]
          have := l_l1Num L hL w hw r (0 + 1) e v k g5 hv (fun q => by omega)
          rw [ei] at this
          exact this
        · rw [if_neg c45, if_neg c45]
      · rw [if_pos (c := (0 : Int) < (i : Int)) (by omega), if_pos (c := decide (i = 0) = false) (by simpa using c0)]
    by_cases c1 : 48 ≤ (b.toNat : Int)
    · rw [if_pos c1]
      by_cases c2 : (b.toNat : Int) ≤ 57
      · rw [if_pos c2]
        by_cases c3 : k < 10
        · have w1 : Go.IntKind.wrap .u8 ((b.toNat : Int) - 48) = (b.toNat : Int) - 48 := by
            have hb0 : (0 : Int) ≤ (b.toNat : Int) - 48 := by omega
            have hb1 : (b.toNat : Int) - 48 < 256 := by omega
            show ((b.toNat : Int) - 48) % 256 = _
            exact Int.emod_eq_of_lt hb0 hb1
          have w2 : w64 ((b.toNat : Int) - 48) = (b.toNat : Int) - 48 := w64_in (by omega)
          have w3 : w64 (v * 10) = v * 10 := w64_in (by omega)
          have w4 : w64 (v * 10 + ((b.toNat : Int) - 48)) = v * 10 + ((b.toNat : Int) - 48) := w64_in (by omega)
          have w5 : w64 ((k : Int) + 1) = ((k + 1 : Nat) : Int) := by rw [w64_in (by omega)]; rfl
          rw [if_pos (by omega), if_pos ⟨⟨c1, c2⟩, c3⟩, w1, w2, w3, w4, w5, hws]
          have := l_l1Num L hL w hw r (i + 1) e (v * 10 + ((b.toNat : Int) - 48)) (k + 1) g5 (num_step (d := (b.toNat : Int) - 48) hv c3 (by omega) (by omega)) (fun q => by omega)
          rw [ei] at this
          exact this
        · rw [if_neg (c := (k : Int) < 10) (by omega), if_neg (c := dgB b ∧ k < 10) (fun q => c3 q.2)]
          exact tail
      · rw [if_neg c2, if_neg (c := dgB b ∧ k < 10) (fun q => c2 q.1.2)]
        exact tail
    · rw [if_neg c1, if_neg (c := dgB b ∧ k < 10) (fun q => c1 q.1.1)]
      exact tail
theorem p_spec_l1Num (L : Int → Option (List UInt8)) (hL : ∀ a, pre_spec_l1Dec a → L a = some (s_spec_l1Dec a)) (w : List UInt8) (h : pre_spec_l1Num w) : ∃ N, spec_l1Num_f L N w = some (s_spec_l1Num w) :=
  ⟨w.length + 1, l_l1Num L hL w h w 0 0 0 0 rfl ⟨by omega, by simp, by omega⟩ (fun _ => ⟨rfl, rfl⟩)⟩
def pre_spec_l1Nums (s : List UInt8) : Prop := s.length ≤ 1048576
def sNums : List (List UInt8) → List Int → List Int × Bool
  | [], acc => (acc, true)
  | w :: r, acc => if (sNum w).2 = false then (acc, false) else sNums r (acc ++ [(sNum w).1])
def s_spec_l1Nums (s : List UInt8) : List Int × Bool := if s = [] then ([], true) else sNums (pcs 32 [] s) []
theorem pcs_len (c : Int) : ∀ (r cur : List UInt8), (pcs c cur r).length ≤ r.length + 1
  | [], cur => by simp [pcs]
  | b :: r, cur => by
    simp only [pcs]
    split
    · rw [List.length_cons, List.length_cons]; have := pcs_len c r []; omega
    · rw [List.length_cons]; have := pcs_len c r (cur ++ [b]); omega
theorem pcs_each (c : Int) : ∀ (r cur : List UInt8), ∀ x ∈ pcs c cur r, x.length ≤ cur.length + r.length
  | [], cur, x, hx => by simp only [pcs, List.mem_singleton] at hx; subst hx; simp
  | b :: r, cur, x, hx => by
    simp only [pcs] at hx
    split at hx
    · rcases List.mem_cons.1 hx with rfl | hx
      · simp
      · have := pcs_each c r [] x hx; simp only [List.length_nil, List.length_cons] at this ⊢; omega
    · have := pcs_each c r (cur ++ [b]) x hx
      simp only [List.length_append, List.length_cons, List.length_nil] at this ⊢; omega
section
variable (L1 : List UInt8 → Int → Option (List (List UInt8))) (h1 : ∀ s c, pre_spec_l1Cut s c → L1 s c = some (s_spec_l1Cut s c)) (L2 : List UInt8 → Option (Int × Bool)) (h2 : ∀ w, pre_spec_l1Num w → L2 w = some (s_spec_l1Num w))
include h1 h2
theorem l_l1Nums (l : List (List UInt8)) (hl : l.length ≤ 1048577) (he : ∀ w ∈ l, w.length ≤ 1048576) : ∀ (r : List (List UInt8)) (j e : Nat) (acc : List Int), l.drop j = r → acc.length ≤ j →
    spec_l1Nums_l0 L1 L2 (r.length + 1 + e) j acc l = some (sNums r acc)
  | [], j, e, acc, hd, ha => by
    rw [List.length_nil, fuel0]
    simp only [spec_l1Nums_l0]
    rw [if_neg (at_nil hd)]; rfl
  | w :: r, j, e, acc, hd, ha => by
    obtain ⟨g1, g2, g3, g4, g5, g6⟩ := at_cons hd
    rw [List.length_cons, fuel]
    simp only [spec_l1Nums_l0]
    rw [if_pos g2, if_pos (by omega), Int.toNat_natCast, g4]
    simp only [Option.bind_some]
    rw [h2 _ (he w (List.mem_of_getElem? g4))]
    simp only [Option.bind_some, sNums, s_spec_l1Num]
    by_cases c : (sNum w).2 = false
    · rw [if_pos c, if_pos c]
    · rw [if_neg c, if_neg c, if_pos (by unfold room roomB; simp only [List.length_append, List.length_cons, List.length_nil]; omega), succ_w g1 (by rw [big_eq]; omega)]
      exact l_l1Nums l hl he r (j + 1) e _ g5 (by simp only [List.length_append, List.length_cons, List.length_nil]; omega)
theorem p_spec_l1Nums (s : List UInt8) (h : pre_spec_l1Nums s) : ∃ N, spec_l1Nums_f L1 L2 N s = some (s_spec_l1Nums s) := by
  have h' : s.length ≤ 1048576 := h
  refine ⟨(pcs 32 [] s).length + 1, ?_⟩
  unfold spec_l1Nums_f s_spec_l1Nums
  by_cases c : s = []
  · rw [if_pos c, if_pos c]
  · rw [if_neg c, if_neg c, h1 _ _ h]
    simp only [Option.bind_some, s_spec_l1Cut]
    refine l_l1Nums L1 h1 L2 h2 _ ?_ ?_ _ 0 0 [] rfl (Nat.zero_le _)
    · have := pcs_len 32 s []; omega
    · intro w hw
      have := pcs_each 32 s [] w hw
      simp at this; omega
end
def small (l : List Int) : Prop := l.length ≤ 1048576
def pre_spec_l1Product (l : List Int) : Prop := small l
def stepP (p x : Int) : Int := if 1000 < w64 (p * x) then 1001 else w64 (p * x)
def s_spec_l1Product (l : List Int) : Int := l.foldl stepP 1
theorem l_product (l : List Int) (hl : small l) : ∀ (r : List Int) (j e : Nat) (p : Int), l.drop j = r → spec_l1Product_l0 (r.length + 1 + e) l p j = some (r.foldl stepP p)
  | [], j, e, p, hd => by
    rw [show ([] : List Int).length + 1 + e = e + 1 by simp; omega]
    simp only [spec_l1Product_l0]
    rw [if_neg (at_nil hd)]; rfl
  | x :: r, j, e, p, hd => by
    obtain ⟨h1, h2, h3, h4, h5, h6⟩ := at_cons hd
    have hb : l.length ≤ big := by unfold small at hl; rw [big_eq]; omega
    rw [show (x :: r).length + 1 + e = (r.length + 1 + e) + 1 by simp; omega]
    simp only [spec_l1Product_l0]
    rw [if_pos h2, h3]
    simp only [Option.bind_some, List.foldl_cons, succ_w h1 hb]
    unfold stepP
    by_cases c : 1000 < w64 (p * x)
    · rw [if_pos c, if_pos c, l_product l hl r (j + 1) e _ h5]; rfl
    · rw [if_neg c, if_neg c, l_product l hl r (j + 1) e _ h5]; rfl
theorem p_spec_l1Product (l : List Int) (h : pre_spec_l1Product l) : ∃ N, spec_l1Product_f N l = some (s_spec_l1Product l) :=
  ⟨l.length + 1, l_product l h l 0 0 1 rfl⟩
def pre_spec_l1Fits (l : List Int) : Prop := small l
def axOk (x : Int) : Bool := decide (0 ≤ x) && decide (x ≤ 1000)
def fits (l : List Int) : Bool := decide (l.length ≤ 3) && l.all axOk && decide (l.foldl stepP 1 ≤ 1000)
def s_spec_l1Fits (l : List Int) : Bool := fits l
theorem l_fits (L : List Int → Option Int) (l : List Int) (hl : small l) (q : Int) (hq : L l = some q) : ∀ (r : List Int) (j e : Nat), l.drop j = r →
    spec_l1Fits_l0 L (r.length + 1 + e) l j = some (r.all axOk && decide (q ≤ 1000))
  | [], j, e, hd => by
    rw [show ([] : List Int).length + 1 + e = e + 1 by simp; omega]
    simp only [spec_l1Fits_l0]
    rw [if_neg (at_nil hd), hq]; rfl
  | x :: r, j, e, hd => by
    obtain ⟨h1, h2, h3, h4, h5, h6⟩ := at_cons hd
    have hb : l.length ≤ big := by unfold small at hl; rw [big_eq]; omega
    rw [show (x :: r).length + 1 + e = (r.length + 1 + e) + 1 by simp; omega]
    simp only [spec_l1Fits_l0]
    rw [if_pos h2, h3]
    simp only [Option.bind_some, succ_w h1 hb, List.all_cons, axOk]
    by_cases c1 : x < 0
    · rw [if_pos c1]; simp; omega
    · rw [if_neg c1]
      by_cases c2 : 1000 < x
      · rw [if_pos c2]; simp; omega
      · rw [if_neg c2, l_fits L l hl q hq r (j + 1) e h5]
        have e1 : decide (0 ≤ x) = true := by simp; omega
        have e2 : decide (x ≤ 1000) = true := by simp; omega
        rw [e1, e2]; simp
theorem p_spec_l1Fits (L : List Int → Option Int) (hL : ∀ l, pre_spec_l1Product l → L l = some (s_spec_l1Product l)) (l : List Int) (h : pre_spec_l1Fits l) : ∃ N, spec_l1Fits_f L N l = some (s_spec_l1Fits l) := by
  refine ⟨l.length + 1, ?_⟩
  unfold spec_l1Fits_f s_spec_l1Fits fits
  by_cases c : (3 : Int) < l.length
  · have : ¬ l.length ≤ 3 := by omega
    rw [if_pos c]; simp [this]
  · have : l.length ≤ 3 := by omega
    rw [if_neg c]
    have q := l_fits L l h _ (hL l h) l 0 0 rfl
    rw [show l.length + 1 + 0 = l.length + 1 by rfl] at q
    rw [show ((0 : Nat) : Int) = 0 by rfl] at q
    rw [q]; simp only [this, s_spec_l1Product, decide_true, Bool.true_and]; rfl
def pre_spec_ArrayOk (s d : List Int) : Prop := small s ∧ small d
def cellOk (x : Int) : Bool := decide (-3000000000 ≤ x) && decide (x ≤ 3000000000)
def arrOk (s d : List Int) : Bool := fits s && decide ((d.length : Int) = s.foldl stepP 1) && d.all cellOk
def s_spec_ArrayOk (s d : List Int) : Bool := arrOk s d
theorem l_specArrayOk (L1 : List Int → Option Bool) (L2 : List Int → Option Int) (s l : List Int) (hl : small l) : ∀ (r : List Int) (j e : Nat), l.drop j = r →
    spec_ArrayOk_l0 L1 L2 (r.length + 1 + e) j s l = some (r.all cellOk)
  | [], j, e, hd => by
    rw [show ([] : List Int).length + 1 + e = e + 1 by simp; omega]
    simp only [spec_ArrayOk_l0]
    rw [if_neg (at_nil hd)]; rfl
  | x :: r, j, e, hd => by
    obtain ⟨h1, h2, h3, h4, h5, h6⟩ := at_cons hd
    have hb : l.length ≤ big := by unfold small at hl; rw [big_eq]; omega
    rw [show (x :: r).length + 1 + e = (r.length + 1 + e) + 1 by simp; omega]
    simp only [spec_ArrayOk_l0]
    rw [if_pos h2, h3]
    simp only [Option.bind_some, succ_w h1 hb, List.all_cons, cellOk]
    by_cases c1 : x < -3000000000
    · rw [if_pos c1]; simp; omega
    · rw [if_neg c1]
      by_cases c2 : 3000000000 < x
      · rw [if_pos c2]; simp; omega
      · rw [if_neg c2, l_specArrayOk L1 L2 s l hl r (j + 1) e h5]
        have e1 : decide (-3000000000 ≤ x) = true := by simp; omega
        have e2 : decide (x ≤ 3000000000) = true := by simp; omega
        rw [e1, e2]; simp
theorem p_spec_ArrayOk (L1 : List Int → Option Bool) (h1 : ∀ l, pre_spec_l1Fits l → L1 l = some (s_spec_l1Fits l)) (L2 : List Int → Option Int) (h2 : ∀ l, pre_spec_l1Product l → L2 l = some (s_spec_l1Product l))
    (s d : List Int) (h : pre_spec_ArrayOk s d) : ∃ N, spec_ArrayOk_f L1 L2 N s d = some (s_spec_ArrayOk s d) := by
  refine ⟨d.length + 1, ?_⟩
  unfold spec_ArrayOk_f s_spec_ArrayOk arrOk
  rw [h1 _ h.1, h2 _ h.1]
  simp only [Option.bind_some, s_spec_l1Fits, s_spec_l1Product]
  have q := l_specArrayOk L1 L2 s d h.2 d 0 0 rfl
  rw [show d.length + 1 + 0 = d.length + 1 by rfl, show ((0 : Nat) : Int) = 0 by rfl] at q
  rw [q]
  cases fits s
  · simp
  · by_cases c : (d.length : Int) = s.foldl stepP 1 <;> simp [c]
def pre_spec_ParseArray (s : List UInt8) : Prop := s.length ≤ 1048576
def parseA (s : List UInt8) : List Int × List Int × Int :=
  if 20000 < s.length then ([], [], 1) else
  match pcs 58 [] s with
  | [a, b] => if (s_spec_l1Nums a).2 = true ∧ (s_spec_l1Nums b).2 = true ∧ arrOk (s_spec_l1Nums a).1 (s_spec_l1Nums b).1 = true then ((s_spec_l1Nums a).1, (s_spec_l1Nums b).1, 0) else ([], [], 1)
  | _ => ([], [], 1)
def s_spec_ParseArray (s : List UInt8) : List Int × List Int × Int := parseA s
theorem sNums_len : ∀ (r : List (List UInt8)) (acc : List Int), (sNums r acc).1.length ≤ acc.length + r.length
  | [], acc => by simp [sNums]
  | w :: r, acc => by
    simp only [sNums]
    split
    · simp
    · have := sNums_len r (acc ++ [(sNum w).1])
      simp only [List.length_append, List.length_cons, List.length_nil] at this ⊢; omega
theorem specNums_small {s : List UInt8} (h : s.length ≤ 20000) : small (s_spec_l1Nums s).1 := by
  unfold s_spec_l1Nums small
  split
  · simp
  · have := sNums_len (pcs 32 [] s) []
    have h2 := pcs_len 32 s []
    simp only [List.length_nil] at this; omega
theorem p_spec_ParseArray (L1 : List UInt8 → Int → Option (List (List UInt8))) (h1 : ∀ s c, pre_spec_l1Cut s c → L1 s c = some (s_spec_l1Cut s c)) (L2 : List UInt8 → Option (List Int × Bool)) (h2 : ∀ w, pre_spec_l1Nums w → L2 w = some (s_spec_l1Nums w))
    (L3 : List Int → List Int → Option Bool) (h3 : ∀ s d, pre_spec_ArrayOk s d → L3 s d = some (s_spec_ArrayOk s d)) (s : List UInt8) (h : pre_spec_ParseArray s) : ∃ N, spec_ParseArray_f L1 L2 L3 N s = some (s_spec_ParseArray s) := by
  refine ⟨0, ?_⟩
  unfold spec_ParseArray_f s_spec_ParseArray parseA
  by_cases c : 20000 < s.length
  · rw [if_pos (by omega), if_pos c]
  · rw [if_neg (by omega), if_neg c, h1 _ _ h]
    simp only [Option.bind_some, s_spec_l1Cut]
    have hlen := pcs_each 58 s []
    match hp : pcs 58 [] s with
    | [] => rw [if_neg (by simp)]
    | [a] => rw [if_neg (by simp)]
    | [a, b] =>
      have ha : a.length ≤ 20000 := by have := hlen a (by rw [hp]; simp); simp at this; omega
      have hb : b.length ≤ 20000 := by have := hlen b (by rw [hp]; simp); simp at this; omega
      rw [if_pos (by simp), if_pos (by simp)]
      simp only [List.getElem?_cons_zero, Option.bind_some]
      rw [h2 _ (show a.length ≤ 1048576 by omega)]
      simp only [Option.bind_some]
      rw [if_pos (by simp)]
      simp only [List.getElem?_cons_succ, List.getElem?_cons_zero, Option.bind_some]
      rw [h2 _ (show b.length ≤ 1048576 by omega)]
      simp only [Option.bind_some]
      by_cases c1 : (s_spec_l1Nums a).2 = false
      · rw [if_pos c1, if_neg (by simp [c1])]
      · rw [if_neg c1]
        by_cases c2 : (s_spec_l1Nums b).2 = false
        · rw [if_pos c2, if_neg (by simp [c2])]
        · rw [if_neg c2, h3 _ _ ⟨specNums_small ha, specNums_small hb⟩]
          simp only [Option.bind_some, s_spec_ArrayOk]
          by_cases c3 : arrOk (s_spec_l1Nums a).1 (s_spec_l1Nums b).1 = false
          · rw [if_pos c3, if_neg (by simp [c3])]
          · rw [if_neg c3, if_pos ⟨by simpa using c1, by simpa using c2, by simpa using c3⟩]
    | a :: b :: d :: r => rw [if_neg (by simp; omega)]
def pre_strings_Cut (a b : List UInt8) : Prop := a.length ≤ 1048576
def s_strings_Cut (a b : List UInt8) : List UInt8 × List UInt8 × Bool := Lib.cut a b
theorem q_strings_Cut {a b : List UInt8} (h : pre_strings_Cut a b) : a.length < 4294967281 := by have h' : a.length ≤ 1048576 := h; omega
def pre_strings_Split (a b : List UInt8) : Prop := a.length ≤ 1048576 ∧ 1 ≤ b.length
def s_strings_Split (a b : List UInt8) : List (List UInt8) := Lib.split a b
theorem q_strings_Split {a b : List UInt8} (h : pre_strings_Split a b) : a.length < 4294967281 ∧ 1 ≤ b.length := ⟨by have := h.1; omega, h.2⟩
def pre_strconv_Atoi (a : List UInt8) : Prop := a.length ≤ 1048576
def s_strconv_Atoi (a : List UInt8) : Alt Int Int := atoiR a
theorem q_strconv_Atoi {a : List UInt8} (h : pre_strconv_Atoi a) : a.length ≤ 281474976710656 := by have h' : a.length ≤ 1048576 := h; omega
def pre_strconv_Itoa (n : Int) : Prop := -9223372036854775808 ≤ n ∧ n ≤ 9223372036854775807
def s_strconv_Itoa (n : Int) : List UInt8 := Lib.itoa n
theorem q_strconv_Itoa {n : Int} (h : pre_strconv_Itoa n) : -9223372036854775808 ≤ n ∧ n ≤ 9223372036854775807 := h
def pre_impl_numbers (s : List UInt8) : Prop := s.length ≤ 1048576
def iNums : List (List UInt8) → List Int → List Int × Bool
  | [], acc => (acc, true)
  | w :: r, acc => match atoiR w with
    | .a v => if Lib.itoa v = w then iNums r (acc ++ [v]) else ([], false)
    | .b _ => ([], false)
def s_impl_numbers (s : List UInt8) : List Int × Bool := if s = [] then ([], true) else iNums (pcs 32 [] s) []
theorem first_at (c : UInt8) : ∀ (s : List UInt8), (∀ b ∈ s, b ≠ c) ∨ ∃ a r, s = a ++ c :: r ∧ ∀ b ∈ a, b ≠ c
  | [] => .inl (by simp)
  | b :: s => by
    by_cases h : b = c
    · exact .inr ⟨[], s, by simp [h], by simp⟩
    · rcases first_at c s with h1 | ⟨a, r, rfl, h2⟩
      · refine .inl fun x hx => ?_
        rcases List.mem_cons.1 hx with rfl | hx
        · exact h
        · exact h1 x hx
      · refine .inr ⟨b :: a, r, rfl, fun x hx => ?_⟩
        rcases List.mem_cons.1 hx with rfl | hx
        · exact h
        · exact h2 x hx
theorem index_no (c : UInt8) : ∀ (s : List UInt8), (∀ b ∈ s, b ≠ c) → Lib.index s [c] = -1
  | [], _ => rfl
  | b :: s, h => by
    have h1 : ¬ ([c].isPrefixOf (b :: s)) = true := by
      simp only [List.isPrefixOf, Bool.and_true, beq_iff_eq]
      exact fun e => h b (by simp) e.symm
    have h2 := index_no c s fun x hx => h x (by simp [hx])
    unfold Lib.index
    rw [if_neg h1, h2]; rfl
theorem split_no {c : UInt8} {s : List UInt8} (h : ∀ b ∈ s, b ≠ c) : Lib.split s [c] = [s] := by
  unfold Lib.split; rw [Lib.count_miss (index_no c s h)]; rfl
theorem index_at (c : UInt8) (r : List UInt8) : ∀ (a : List UInt8), (∀ b ∈ a, b ≠ c) → Lib.index (a ++ c :: r) [c] = (a.length : Int)
  | [], _ => by
    show Lib.index (c :: r) [c] = _
    unfold Lib.index
    rw [if_pos (by simp [List.isPrefixOf])]; rfl
  | b :: a, h => by
    have h1 : ¬ ([c].isPrefixOf (b :: (a ++ c :: r))) = true := by
      simp only [List.isPrefixOf, Bool.and_true, beq_iff_eq]
      exact fun e => h b (by simp) e.symm
    have h2 := index_at c r a fun x hx => h x (by simp [hx])
    rw [List.cons_append]
    unfold Lib.index
    rw [if_neg h1, h2, if_neg (by simp), List.length_cons]; omega
theorem split_at {c : UInt8} {a r : List UInt8} (h : ∀ b ∈ a, b ≠ c) : Lib.split (a ++ c :: r) [c] = a :: Lib.split r [c] := by
  have hi := index_at c r a h
  have hn := Lib.count_hit (sub := [c]) (by simp) hi
  unfold Lib.split
  rw [hn, Nat.add_comm]
  simp only [Lib.splitK]
  rw [hi, if_neg (by simp), Int.toNat_natCast]
  simp
theorem toNat_ne {b c : UInt8} (h : b ≠ c) : ¬ (b.toNat : Int) = (c.toNat : Int) := fun e => h (UInt8.toNat_inj.1 (by omega))
theorem pcs_no (c : UInt8) : ∀ (s cur : List UInt8), (∀ b ∈ s, b ≠ c) → pcs c.toNat cur s = [cur ++ s]
  | [], cur, _ => by simp [pcs]
  | b :: s, cur, h => by
    simp only [pcs]
    rw [if_neg (toNat_ne (h b (by simp))), pcs_no c s _ fun x hx => h x (by simp [hx])]
    simp
theorem pcs_at (c : UInt8) (r : List UInt8) : ∀ (a cur : List UInt8), (∀ b ∈ a, b ≠ c) → pcs c.toNat cur (a ++ c :: r) = (cur ++ a) :: pcs c.toNat [] r
  | [], cur, _ => by simp [pcs]
  | b :: a, cur, h => by
    rw [List.cons_append]
    simp only [pcs]
    rw [if_neg (toNat_ne (h b (by simp))), pcs_at c r a _ fun x hx => h x (by simp [hx])]
    simp
theorem split_pcs (c : UInt8) (s : List UInt8) : Lib.split s [c] = pcs c.toNat [] s := by
  rcases first_at c s with h | ⟨a, r, rfl, h⟩
  · rw [split_no h, pcs_no c s [] h]; rfl
  · rw [split_at h, pcs_at c r a [] h, split_pcs c r]; rfl
termination_by s.length
decreasing_by subst_vars; simp only [List.length_append, List.length_cons]; omega
theorem atoi_range {l : List UInt8} {v : Int} (h : atoiR l = .a v) : -9223372036854775808 ≤ v ∧ v ≤ 9223372036854775807 := by
  unfold atoiR at h
  cases hr : Lib.atoiAll l
  · rename_i w
    rw [hr] at h
    injection h with h
    subst h
    exact Lib.atoiAll_bounds hr
  · rw [hr] at h; cases h
  · rw [hr] at h; cases h
section
variable (L1 : List UInt8 → List UInt8 → Option (List (List UInt8))) (h1 : ∀ a b, pre_strings_Split a b → L1 a b = some (s_strings_Split a b)) (L2 : List UInt8 → Option (Alt Int Int)) (h2 : ∀ w, pre_strconv_Atoi w → L2 w = some (s_strconv_Atoi w))
  (L3 : Int → Option (List UInt8)) (h3 : ∀ a, pre_strconv_Itoa a → L3 a = some (s_strconv_Itoa a))
include h1 h2 h3
theorem l_numbers (l : List (List UInt8)) (hl : l.length ≤ 1048577) (he : ∀ w ∈ l, w.length ≤ 1048576) : ∀ (r : List (List UInt8)) (j e : Nat) (acc : List Int), l.drop j = r → acc.length ≤ j →
    impl_numbers_l0 L1 L2 L3 (r.length + 1 + e) l l.length j acc = some (iNums r acc)
  | [], j, e, acc, hd, ha => by
    rw [List.length_nil, fuel0]
    simp only [impl_numbers_l0]
    rw [if_neg (at_nil hd)]; rfl
  | w :: r, j, e, acc, hd, ha => by
    obtain ⟨g1, g2, g3, g4, g5, g6⟩ := at_cons hd
    rw [List.length_cons, fuel]
    simp only [impl_numbers_l0]
    rw [if_pos g2, g3]
    simp only [Option.bind_some]
    rw [h2 _ (he w (List.mem_of_getElem? g4))]
    simp only [Option.bind_some, iNums, s_strconv_Atoi]
    cases hr : atoiR w with
    | a v =>
      simp only [Alt.on]
      rw [h3 _ (atoi_range hr)]
      simp only [Option.bind_some, s_strconv_Itoa]
      by_cases c : Lib.itoa v = w
      · rw [if_pos c, if_pos c, if_pos (by unfold room roomB; simp only [List.length_append, List.length_cons, List.length_nil]; omega), succ_w g1 (by rw [big_eq]; omega)]
        exact l_numbers l hl he r (j + 1) e _ g5 (by simp only [List.length_append, List.length_cons, List.length_nil]; omega)
      · rw [if_neg c, if_neg c]
    | b v => rfl
theorem p_impl_numbers (s : List UInt8) (h : pre_impl_numbers s) : ∃ N, impl_numbers_f L1 L2 L3 N s = some (s_impl_numbers s) := by
  have h' : s.length ≤ 1048576 := h
  refine ⟨(pcs 32 [] s).length + 1, ?_⟩
  unfold impl_numbers_f s_impl_numbers
  by_cases c : s = []
  · rw [if_pos c, if_pos c]
  · rw [if_neg c, if_neg c, h1 _ _ ⟨h, by simp⟩]
    have e : Lib.split s [32] = pcs 32 [] s := split_pcs 32 s
    simp only [Option.bind_some, s_strings_Split, e]
    refine l_numbers L1 h1 L2 h2 L3 h3 _ ?_ ?_ _ 0 0 [] rfl (Nat.zero_le _)
    · have := pcs_len 32 s []; omega
    · intro w hw
      have := pcs_each 32 s [] w hw
      simp at this; omega
end
def pre_impl_cellsOf (l : List Int) : Prop := small l
def stepW (p x : Int) : Int := w64 (p * x)
def s_impl_cellsOf (l : List Int) : Int × Bool := if decide (l.length ≤ 3) && l.all axOk then (l.foldl stepW 1, decide (l.foldl stepW 1 ≤ 1000)) else (0, false)
theorem l_cellsOf (l : List Int) (hl : small l) : ∀ (r : List Int) (j e : Nat) (p : Int), l.drop j = r →
    impl_cellsOf_l0 (r.length + 1 + e) p l l.length j = some (if r.all axOk = true then (r.foldl (fun p x => w64 (p * x)) p, decide (r.foldl (fun p x => w64 (p * x)) p ≤ 1000)) else (0, false))
  | [], j, e, p, hd => by
    rw [show ([] : List Int).length + 1 + e = e + 1 by simp; omega]
    simp only [impl_cellsOf_l0]
    rw [if_neg (at_nil hd)]; rfl
  | x :: r, j, e, p, hd => by
    obtain ⟨h1, h2, h3, h4, h5, h6⟩ := at_cons hd
    have hb : l.length ≤ big := by unfold small at hl; rw [big_eq]; omega
    rw [show (x :: r).length + 1 + e = (r.length + 1 + e) + 1 by simp; omega]
    simp only [impl_cellsOf_l0]
    rw [if_pos h2, h3]
    simp only [Option.bind_some, succ_w h1 hb, List.all_cons, axOk, List.foldl_cons]
    by_cases c1 : x < 0
    · rw [if_pos c1]; simp; omega
    · rw [if_neg c1]
      by_cases c2 : 1000 < x
      · rw [if_pos c2]; simp; omega
      · rw [if_neg c2, l_cellsOf l hl r (j + 1) e _ h5]
        have e1 : decide (0 ≤ x) = true := by simp; omega
        have e2 : decide (x ≤ 1000) = true := by simp; omega
        simp only [e1, e2, Bool.true_and]; rfl
theorem p_impl_cellsOf (l : List Int) (h : pre_impl_cellsOf l) : ∃ N, impl_cellsOf_f N l = some (s_impl_cellsOf l) := by
  refine ⟨l.length + 1, ?_⟩
  unfold impl_cellsOf_f s_impl_cellsOf
  by_cases c : (3 : Int) < l.length
  · have : ¬ l.length ≤ 3 := by omega
    rw [if_pos c]; simp [this]
  · have : l.length ≤ 3 := by omega
    rw [if_neg c]
    have q := l_cellsOf l h l 0 0 1 rfl
    rw [show l.length + 1 + 0 = l.length + 1 by rfl, show ((0 : Nat) : Int) = 0 by rfl] at q
    rw [q]
    simp only [this, decide_true, Bool.true_and]
    rfl
def pre_impl_ArrayOk (s d : List Int) : Prop := small s ∧ small d
def s_impl_ArrayOk (s d : List Int) : Bool := arrOk s d
/-- the reference's product is cut at 1001 -/
def cutAt (p q : Int) : Prop := (p ≤ 1000 → q = p) ∧ (1000 < p → q = 1001)
theorem fold_cut : ∀ (l : List Int) (p q B : Int), 0 ≤ p → p ≤ B → B * 1000 ^ l.length ≤ 1000000000 → l.all axOk = true → cutAt p q → cutAt (l.foldl stepW p) (l.foldl stepP q)
  | [], p, q, B, h0, hB, hm, ha, hc => hc
  | x :: l, p, q, B, h0, hB, hm, ha, hc => by
    simp only [List.all_cons, Bool.and_eq_true, axOk, decide_eq_true_eq] at ha
    obtain ⟨⟨x0, x1⟩, ha⟩ := ha
    have hB0 : 0 ≤ B := Int.le_trans h0 hB
    have hp1 : p * x ≤ B * 1000 := Int.mul_le_mul hB x1 x0 hB0
    have hp0 : 0 ≤ p * x := Int.mul_nonneg h0 x0
    have hm' : (B * 1000) * 1000 ^ l.length ≤ 1000000000 := by
      rw [List.length_cons, Int.pow_succ, Int.mul_comm (1000 ^ l.length) 1000, ← Int.mul_assoc] at hm
      exact hm
    have hpow : (1 : Int) ≤ 1000 ^ l.length := Int.pow_pos (by omega)
    have hBs : B * 1000 ≤ 1000000000 := by
      have := Int.mul_le_mul_of_nonneg_left hpow (show 0 ≤ B * 1000 by omega)
      omega
    simp only [List.foldl_cons]
    have e1 : stepW p x = p * x := by unfold stepW; exact w64_in (by omega)
    rw [e1]
    refine fold_cut l (p * x) _ (B * 1000) hp0 hp1 hm' ha ?_
    by_cases c : p ≤ 1000
    · rw [hc.1 c]
      unfold stepP
      rw [w64_in (by omega)]
      constructor
      · intro h; rw [if_neg (by omega)]
      · intro h; rw [if_pos h]
    · rw [hc.2 (by omega)]
      unfold stepP
      rw [w64_in (by omega)]
      by_cases cx : x = 0
      · subst cx
        simp only [Int.mul_zero]
        exact ⟨fun _ => by simp, fun h => by omega⟩
      · have hx1 : 1 ≤ x := by omega
        have hge : p * 1 ≤ p * x := Int.mul_le_mul_of_nonneg_left hx1 h0
        constructor
        · intro h; omega
        · intro h; rw [if_pos (by omega)]
theorem fold_fits (l : List Int) (hl : l.length ≤ 3) (ha : l.all axOk = true) : cutAt (l.foldl stepW 1) (l.foldl stepP 1) := by
  refine fold_cut l 1 1 1 (by omega) (by omega) ?_ ha ⟨fun _ => rfl, fun h => by omega⟩
  rw [Int.one_mul]
  have : l.length = 0 ∨ l.length = 1 ∨ l.length = 2 ∨ l.length = 3 := by omega
  rcases this with h | h | h | h <;> rw [h] <;> decide
/-- what cellsOf tells, in the reference's words -/
theorem cellsOf_fits (l : List Int) : (s_impl_cellsOf l).2 = fits l ∧ (fits l = true → (s_impl_cellsOf l).1 = l.foldl stepP 1) := by
  unfold s_impl_cellsOf fits
  by_cases c : l.length ≤ 3
  · cases ha : l.all axOk with
    | false => simp
    | true =>
      have hc := fold_fits l c ha
      simp only [c, decide_true, Bool.true_and, if_true]
      by_cases h : l.foldl stepW 1 ≤ 1000
      · rw [hc.1 h]; exact ⟨rfl, fun _ => rfl⟩
      · have e := hc.2 (by omega)
        rw [e]
        refine ⟨by simp [h], fun q => by simp at q⟩
  · simp [c]
theorem l_implArrayOk (L : List Int → Option (Int × Bool)) (l : List Int) (hl : small l) : ∀ (r : List Int) (j e : Nat), l.drop j = r → impl_ArrayOk_l0 L (r.length + 1 + e) l l.length j = some (r.all cellOk)
  | [], j, e, hd => by
    rw [show ([] : List Int).length + 1 + e = e + 1 by simp; omega]
    simp only [impl_ArrayOk_l0]
    rw [if_neg (at_nil hd)]; rfl
  | x :: r, j, e, hd => by
    obtain ⟨h1, h2, h3, h4, h5, h6⟩ := at_cons hd
    have hb : l.length ≤ big := by unfold small at hl; rw [big_eq]; omega
    rw [show (x :: r).length + 1 + e = (r.length + 1 + e) + 1 by simp; omega]
    simp only [impl_ArrayOk_l0]
    rw [if_pos h2, h3]
    simp only [Option.bind_some, succ_w h1 hb, List.all_cons, cellOk]
    by_cases c1 : x < -3000000000
    · rw [if_pos c1]; simp; omega
    · rw [if_neg c1]
      by_cases c2 : 3000000000 < x
      · rw [if_pos c2]; simp; omega
      · rw [if_neg c2, l_implArrayOk L l hl r (j + 1) e h5]
        have e1 : decide (-3000000000 ≤ x) = true := by simp; omega
        have e2 : decide (x ≤ 3000000000) = true := by simp; omega
        rw [e1, e2]; simp
theorem p_impl_ArrayOk (L : List Int → Option (Int × Bool)) (hL : ∀ l, pre_impl_cellsOf l → L l = some (s_impl_cellsOf l)) (s d : List Int) (h : pre_impl_ArrayOk s d) :
    ∃ N, impl_ArrayOk_f L N s d = some (s_impl_ArrayOk s d) := by
  refine ⟨d.length + 1, ?_⟩
  unfold impl_ArrayOk_f s_impl_ArrayOk arrOk
  rw [hL _ h.1]
  simp only [Option.bind_some]
  obtain ⟨e1, e2⟩ := cellsOf_fits s
  rw [e1]
  have q := l_implArrayOk L d h.2 d 0 0 rfl
  rw [show d.length + 1 + 0 = d.length + 1 by rfl, show ((0 : Nat) : Int) = 0 by rfl] at q
  rw [q]
  cases hf : fits s with
  | false => simp
  | true =>
    rw [e2 hf]
    by_cases c : s.foldl stepP 1 = (d.length : Int)
    · simp [c]
    · have c' : ¬ (d.length : Int) = s.foldl stepP 1 := fun q => c q.symm
      simp [c, c']
def pre_impl_ParseArray (s : List UInt8) : Prop := s.length ≤ 1048576
def s_impl_ParseArray (s : List UInt8) : List Int × List Int × Int := parseA s
theorem ok_dOk {s d : List Int} (h : arrOk s d = true) : (∀ x ∈ s, dOk x) ∧ ∀ x ∈ d, dOk x := by
  simp only [arrOk, fits, Bool.and_eq_true, List.all_eq_true, axOk, cellOk, decide_eq_true_eq] at h
  obtain ⟨⟨⟨⟨h1, h2⟩, h3⟩, h4⟩, h5⟩ := h
  exact ⟨fun x hx => by have := h2 x hx; unfold dOk; omega, fun x hx => by have := h5 x hx; unfold dOk; omega⟩
theorem cut_no {c : UInt8} {s : List UInt8} (h : ∀ b ∈ s, b ≠ c) : Lib.cut s [c] = (s, [], false) := by
  unfold Lib.cut; rw [index_no c s h, if_neg (by omega)]
theorem cut_at {c : UInt8} {a r : List UInt8} (h : ∀ b ∈ a, b ≠ c) : Lib.cut (a ++ c :: r) [c] = (a, r, true) := by
  unfold Lib.cut
  rw [index_at c r a h, if_pos (by omega), Int.toNat_natCast]
  simp
theorem dg_toNat {d : Nat} (h : d < 10) : (UInt8.ofNat (48 + d)).toNat = 48 + d := by
  rw [UInt8.toNat_ofNat']; omega
theorem dec_step {n : Nat} (h : ¬ n < 10) : Lib.decDigits n = Lib.decDigits (n / 10) ++ [UInt8.ofNat (48 + n % 10)] := by rw [Lib.decDigits, dif_neg h]
theorem dec_mem (n : Nat) : ∀ b ∈ Lib.decDigits n, 48 ≤ b.toNat ∧ b.toNat ≤ 57 := by
  by_cases h : n < 10
  · rw [Lib.decDigits_one h]
    intro b hb
    simp only [List.mem_singleton] at hb
    subst hb
    rw [dg_toNat h]; omega
  · rw [dec_step h]
    intro b hb
    rcases List.mem_append.1 hb with hb | hb
    · exact dec_mem (n / 10) b hb
    · simp only [List.mem_singleton] at hb
      subst hb
      rw [dg_toNat (by omega)]; omega
termination_by n
decreasing_by omega
theorem itoa_mem (n : Int) : ∀ b ∈ Lib.itoa n, b = 45 ∨ 48 ≤ b.toNat ∧ b.toNat ≤ 57 := by
  intro b hb
  unfold Lib.itoa at hb
  split at hb
  · rcases List.mem_cons.1 hb with rfl | hb
    · exact .inl rfl
    · exact .inr (dec_mem _ b hb)
  · exact .inr (dec_mem _ b hb)
theorem iNums_pcs : ∀ (r : List (List UInt8)) (acc : List Int), (iNums r acc).2 = true → ∀ w ∈ r, ∃ v, Lib.itoa v = w
  | [], acc, _, w, hw => by cases hw
  | y :: r, acc, h, w, hw => by
    simp only [iNums] at h
    split at h
    · rename_i v hv
      split at h
      · rename_i c
        rcases List.mem_cons.1 hw with rfl | hw
        · exact ⟨v, c⟩
        · exact iNums_pcs r _ h w hw
      · cases h
    · cases h
theorem pcs_keep (c : Int) (x : UInt8) (hx : ¬ (x.toNat : Int) = c) : ∀ (r cur : List UInt8), (x ∈ cur ∨ x ∈ r) → ∃ w ∈ pcs c cur r, x ∈ w
  | [], cur, h => ⟨cur, by simp [pcs], by simpa using h⟩
  | b :: r, cur, h => by
    simp only [pcs]
    split
    · rename_i hb
      rcases h with h | h
      · exact ⟨cur, by simp, h⟩
      · rcases List.mem_cons.1 h with rfl | h
        · exact absurd hb hx
        · obtain ⟨w, h1, h2⟩ := pcs_keep c x hx r [] (.inr h)
          exact ⟨w, by simp [h1], h2⟩
    · refine pcs_keep c x hx r (cur ++ [b]) ?_
      rcases h with h | h
      · exact .inl (by simp [h])
      · rcases List.mem_cons.1 h with rfl | h
        · exact .inl (by simp)
        · exact .inr h
/-- a text with another sign in it is no list of numbers -/
theorem numbers_no {s : List UInt8} {x : UInt8} (hx : x ∈ s) (h1 : x ≠ 45) (h2 : ¬ (48 ≤ x.toNat ∧ x.toNat ≤ 57)) (h3 : x ≠ 32) : (s_impl_numbers s).2 = false := by
  unfold s_impl_numbers
  rw [if_neg (by rintro rfl; cases hx)]
  cases hc : (iNums (pcs 32 [] s) []).2 with
  | false => rfl
  | true =>
    obtain ⟨w, hw, hxw⟩ := pcs_keep 32 x (fun e => h3 (UInt8.toNat_inj.1 (by show x.toNat = 32; omega))) s [] (.inr hx)
    obtain ⟨v, rfl⟩ := iNums_pcs _ _ hc w hw
    rcases itoa_mem v x hxw with h | h
    · exact absurd h h1
    · exact absurd h h2
theorem iNums_len : ∀ (r : List (List UInt8)) (acc : List Int), (iNums r acc).1.length ≤ acc.length + r.length
  | [], acc => by simp [iNums]
  | w :: r, acc => by
    simp only [iNums]
    split
    · split
      · rename_i v _ _
        have := iNums_len r (acc ++ [v])
        simp only [List.length_append, List.length_cons, List.length_nil] at this ⊢; omega
      · simp
    · simp
theorem implNums_small {s : List UInt8} (h : s.length ≤ 20000) : small (s_impl_numbers s).1 := by
  unfold s_impl_numbers small
  split
  · simp
  · have := iNums_len (pcs 32 [] s) []
    have h2 := pcs_len 32 s []
    simp only [List.length_nil] at this; omega
def s_spec_l2Bool (b : Bool) : Int := if b = true then 1 else 0
/-- a cell within bounds, and the code -/
def inR (x : Int) : Int × Int := if x < -3000000000 then (0, 5) else if 3000000000 < x then (0, 5) else (x, 0)
/-- the quotient, rounded down -/
def flo (x y : Int) : Int := if Int.tmod x y = 0 then Int.tdiv x y else if (decide (Int.tmod x y < 0) == decide (y < 0)) = false then Int.tdiv x y - 1 else Int.tdiv x y
def oneP (k : Int) : Int := if k = 1 then 1 else 0
def word (k c : Int) : List UInt8 :=
  if k = 3 then [101, 114, 114, 111, 114, 32] ++ Lib.itoa c else if k = 1 then [112, 97, 115, 115] else if k = 2 then [102, 97, 105, 108] else if k = 4 then [102, 117, 101, 108] else [99, 101, 108, 108, 115]
def lineOf (i : Nat) (v : TVerdict) : List UInt8 := [116, 101, 115, 116, 32] ++ (Lib.itoa ((i + 1 : Nat) : Int) ++ ([32] ++ (word v.Kind v.Code ++ [10])))
def rest (n : Nat) : Nat → Int → List TVerdict → List UInt8
  | _, p, [] => [112, 97, 115, 115, 101, 100, 32] ++ (Lib.itoa p ++ ([32, 111, 102, 32] ++ (Lib.itoa (n : Int) ++ [10])))
  | i, p, v :: r => lineOf i v ++ rest n (i + 1) (p + oneP v.Kind) r
/-- the rest -/
def res (x y : Int) : Int := if Int.tmod x y = 0 then 0 else if (decide (Int.tmod x y < 0) == decide (y < 0)) = false then Int.tmod x y + y else Int.tmod x y
/-- what is done to two cells, and its code -/
def twoOf (op x y : Int) : Int × Int :=
  if op = 1 then inR (x + y)
  else if op = 2 then inR (x - y)
  else if op = 3 then inR (x * y)
  else if op = 4 then (if y = 0 then (0, 1) else inR (flo x y))
  else if op = 5 then (if y = 0 then x else res x y, 0)
  else if op = 8 then (s_spec_l2Bool (decide (x < y)), 0)
  else if op = 9 then (s_spec_l2Bool (decide (x = y)), 0)
  else if op = 10 then (s_spec_l2Bool (decide (y < x)), 0)
  else if (decide (op = 6) == decide (x < y)) = true then (x, 0) else (y, 0)
/-- two cells, as the reference tells it -/
def two (op x y : Int) : Except Int Int := if (twoOf op x y).2 = 0 then .ok (twoOf op x y).1 else .error (twoOf op x y).2
theorem dec_ne (n : Nat) : Lib.decDigits n ≠ [] := by
  intro h
  have := Lib.decDigits_length n
  rw [h] at this
  have := Lib.nDigits_pos n
  simp at *; omega
theorem parse_app : ∀ (l : List UInt8) (acc m : Nat) (d : Nat), Lib.parseUint10 acc l = .ok m → d < 10 → m * 10 + d < 18446744073709551616 → Lib.parseUint10 acc (l ++ [UInt8.ofNat (48 + d)]) = .ok (m * 10 + d)
  | [], acc, m, d, h, hd, hm => by
    simp only [Lib.parseUint10] at h
    injection h with h
    subst h
    simp only [List.nil_append, Lib.parseUint10, dg_toNat hd]
    rw [if_pos (by omega), if_neg (by omega), if_neg (by omega)]
    congr 1
    omega
  | c :: l, acc, m, d, h, hd, hm => by
    rw [List.cons_append]
    simp only [Lib.parseUint10] at h ⊢
    split at h
    · rename_i c1
      rw [if_pos c1]
      split at h
      · cases h
      · rename_i c2
        rw [if_neg c2]
        split at h
        · cases h
        · rename_i c3
          rw [if_neg c3]
          exact parse_app l _ m d h hd hm
    · cases h
theorem parse_dec (n : Nat) (h : n < 18446744073709551616) : Lib.parseUint10 0 (Lib.decDigits n) = .ok n := by
  by_cases c : n < 10
  · rw [Lib.decDigits_one c]
    simp only [Lib.parseUint10, dg_toNat c]
    rw [if_pos (by omega), if_neg (by omega), if_neg (by omega)]
    congr 1
    omega
  · rw [dec_step c]
    have := parse_app _ 0 (n / 10) (n % 10) (parse_dec (n / 10) (by omega)) (by omega) (by omega)
    rw [this]
    congr 1
    omega
termination_by n
decreasing_by omega
theorem atoi_itoa {v : Int} (h : -9223372036854775808 ≤ v ∧ v ≤ 9223372036854775807) : atoiR (Lib.itoa v) = .a v := by
  have key : Lib.atoiAll (Lib.itoa v) = .ok v := by
    unfold Lib.itoa
    by_cases c : v < 0
    · rw [if_pos c]
      unfold Lib.atoiAll
      simp only
      rw [if_pos (.inr (by rfl))]
      have hm : Lib.parseMag (Lib.decDigits v.natAbs) = .ok v.natAbs := by
        unfold Lib.parseMag; rw [if_neg (dec_ne _)]; exact parse_dec _ (by omega)
      rw [hm]
      simp only
      have h45 : (45 : UInt8).toNat = 45 := rfl
      rw [if_neg (by rw [h45]; simp), if_neg (by omega), if_pos h45]
      congr 1
      omega
    · rw [if_neg c]
      cases hd : Lib.decDigits v.toNat with
      | nil => exact absurd hd (dec_ne _)
      | cons b r =>
        have hb := dec_mem v.toNat b (by rw [hd]; simp)
        unfold Lib.atoiAll
        simp only
        rw [if_neg (by omega), ← hd]
        have hm : Lib.parseMag (Lib.decDigits v.toNat) = .ok v.toNat := by
          unfold Lib.parseMag; rw [if_neg (dec_ne _)]; exact parse_dec _ (by omega)
        rw [hm]
        simp only
        rw [if_neg (by omega), if_neg (by omega), if_neg (by omega)]
        congr 1
        omega
  unfold atoiR; rw [key]
theorem gN_in : ∀ (r : List UInt8) (f : Bool) (v : Int) (k : Nat), numIn v k → ∀ p, gN f r v k = some p → numIn p.1 p.2
  | [], f, v, k, h, p, hp => by simp only [gN, Option.some.injEq] at hp; subst hp; exact h
  | c :: r, f, v, k, h, p, hp => by
    simp only [gN] at hp
    split at hp
    · rename_i q
      exact gN_in r false _ _ (num_step h q.2 (by have := q.1.1; omega) (by have := q.1.2; omega)) p hp
    · split at hp
      · cases hp
      · split at hp
        · exact gN_in r false v k h p hp
        · cases hp
theorem sNum_true {w : List UInt8} (h : (sNum w).2 = true) : Lib.itoa (sNum w).1 = w ∧ -9999999999 ≤ (sNum w).1 ∧ (sNum w).1 ≤ 9999999999 := by
  unfold sNum at h ⊢
  cases hg : gN true w 0 0 with
  | none => rw [hg] at h; cases h
  | some p =>
    rw [hg] at h
    have hin := gN_in w true 0 0 ⟨by omega, by simp, by omega⟩ p hg
    have hp := pow10_le hin.2.2
    have h1 := hin.2.1
    have h0 := hin.1
    simp only at h ⊢
    unfold finN at h ⊢
    split
    · rename_i c
      rw [if_pos c] at h
      simp only [Bool.and_eq_true, decide_eq_true_eq] at h
      exact ⟨h.2, by omega, by omega⟩
    · rename_i c
      rw [if_neg c] at h
      simp only [Bool.and_eq_true, decide_eq_true_eq] at h
      exact ⟨h.2, by omega, by omega⟩
/-- the two readings -/
theorem nums_up : ∀ (r : List (List UInt8)) (acc : List Int), (sNums r acc).2 = true → iNums r acc = sNums r acc
  | [], acc, _ => rfl
  | w :: r, acc, h => by
    simp only [sNums, iNums] at h ⊢
    by_cases c : (sNum w).2 = false
    · rw [if_pos c] at h; cases h
    · rw [if_neg c] at h ⊢
      obtain ⟨h1, h2, h3⟩ := sNum_true (by simpa using c)
      have ha : atoiR w = .a (sNum w).1 := by
        have := atoi_itoa (v := (sNum w).1) (by omega)
        rw [h1] at this; exact this
      rw [ha]
      simp only
      rw [if_pos h1]
      exact nums_up r _ h
theorem nums_eq {s : List UInt8} (h : (s_spec_l1Nums s).2 = true) : s_impl_numbers s = s_spec_l1Nums s := by
  unfold s_spec_l1Nums s_impl_numbers at *
  split
  · rfl
  · rename_i c
    rw [if_neg c] at h
    exact nums_up _ _ h
theorem gN_app : ∀ (l : List UInt8) (f : Bool) (v : Int) (k : Nat) (d : Nat) (p : Int × Nat), (∀ b ∈ l, dgB b) → gN f l v k = some p → d < 10 → p.2 < 10 → gN f (l ++ [UInt8.ofNat (48 + d)]) v k = some (p.1 * 10 + d, p.2 + 1)
  | [], f, v, k, d, p, _, h, hd, hp => by
    simp only [gN, Option.some.injEq] at h
    subst h
    have e := dg_toNat hd
    simp only [List.nil_append, gN]
    rw [if_pos ⟨⟨by rw [e]; omega, by rw [e]; omega⟩, hp⟩, e]
    congr 2
    omega
  | c :: l, f, v, k, d, p, hl, h, hd, hp => by
    rw [List.cons_append]
    simp only [gN] at h ⊢
    have hc : dgB c := hl c (by simp)
    split at h
    · rename_i q
      rw [if_pos q]
      exact gN_app l false _ _ d p (fun b hb => hl b (by simp [hb])) h hd hp
    · rename_i q
      have hk : ¬ k < 10 := fun h' => q ⟨hc, h'⟩
      have h45 : ¬ (c.toNat : Int) = 45 := by have := hc.1; omega
      split at h
      · cases h
      · first | (rw [if_neg h45] at h; cases h) | cases h
theorem gN_dec (n : Nat) (f : Bool) (h : Lib.nDigits n ≤ 10) : gN f (Lib.decDigits n) 0 0 = some ((n : Int), Lib.nDigits n) := by
  by_cases c : n < 10
  · rw [Lib.decDigits_one c, Lib.nDigits_small c]
    have e := dg_toNat c
    simp only [gN]
    rw [if_pos ⟨⟨by rw [e]; omega, by rw [e]; omega⟩, by omega⟩, e]
    congr 2
    omega
  · have hn := Lib.nDigits_big c
    rw [dec_step c]
    have ih := gN_dec (n / 10) f (by omega)
    have := gN_app _ f 0 0 (n % 10) _ (fun b hb => by have := dec_mem (n / 10) b hb; exact ⟨by omega, by omega⟩) ih (by omega) (by simp only; omega)
    rw [this, hn]
    congr 2
    simp only
    omega
termination_by n
decreasing_by omega
theorem sNum_itoa {v : Int} (h : -9999999999 ≤ v ∧ v ≤ 9999999999) : sNum (Lib.itoa v) = (v, true) := by
  by_cases c : v < 0
  · have hi : Lib.itoa v = 45 :: Lib.decDigits v.natAbs := by unfold Lib.itoa; rw [if_pos c]
    have hd : Lib.nDigits v.natAbs ≤ 10 := nDig 9 v.natAbs (by omega)
    have hg : gN true (Lib.itoa v) 0 0 = some ((v.natAbs : Int), Lib.nDigits v.natAbs) := by
      rw [hi]
      simp only [gN]
      rw [if_neg (fun q => by have := q.1.1; have e : (45 : UInt8).toNat = 45 := rfl; rw [e] at this; omega), if_neg (by simp), if_pos (by rfl)]
      exact gN_dec _ false hd
    unfold sNum
    rw [hg]
    simp only
    unfold finN
    have hpos := Lib.nDigits_pos v.natAbs
    have e2 : -(v.natAbs : Int) = v := by omega
    rw [if_pos (by rw [hi]; rfl), e2]
    simp; omega
  · have hi : Lib.itoa v = Lib.decDigits v.toNat := by unfold Lib.itoa; rw [if_neg c]
    have hd : Lib.nDigits v.toNat ≤ 10 := nDig 9 v.toNat (by omega)
    have hg : gN true (Lib.itoa v) 0 0 = some ((v.toNat : Int), Lib.nDigits v.toNat) := by rw [hi]; exact gN_dec _ true hd
    unfold sNum
    rw [hg]
    simp only
    unfold finN
    have hpos := Lib.nDigits_pos v.toNat
    have e2 : (v.toNat : Int) = v := by omega
    have hne : ¬ (Lib.itoa v).head? = some 45 := by
      rw [hi]
      cases hd' : Lib.decDigits v.toNat with
      | nil => simp
      | cons b r =>
        have := dec_mem v.toNat b (by rw [hd']; simp)
        simp only [List.head?_cons, Option.some.injEq]
        intro q
        subst q
        have e : (45 : UInt8).toNat = 45 := rfl
        omega
    rw [if_neg hne, e2]
    simp; omega
theorem iNums_acc : ∀ (r : List (List UInt8)) (acc : List Int), (iNums r acc).2 = true → ∀ x ∈ acc, x ∈ (iNums r acc).1
  | [], acc, _, x, hx => hx
  | w :: r, acc, h, x, hx => by
    simp only [iNums] at h ⊢
    split at h
    · rename_i v hv
      split at h
      · rename_i c
        rw [if_pos c]
        exact iNums_acc r _ h x (by simp [hx])
      · cases h
    · cases h
theorem nums_down : ∀ (r : List (List UInt8)) (acc : List Int), (iNums r acc).2 = true → (∀ x ∈ (iNums r acc).1, dOk x) → sNums r acc = iNums r acc
  | [], acc, _, _ => rfl
  | w :: r, acc, h, hd => by
    simp only [sNums, iNums] at h hd ⊢
    cases hr : atoiR w with
    | a v =>
      rw [hr] at h hd
      simp only at h hd ⊢
      by_cases c : Lib.itoa v = w
      · rw [if_pos c] at h hd ⊢
        have hv : dOk v := hd v (iNums_acc r _ h v (by simp))
        have hs : sNum w = (v, true) := by rw [← c]; exact sNum_itoa hv
        rw [hs, if_neg (by simp)]
        exact nums_down r _ h hd
      · rw [if_neg c] at h; cases h
    | b v => rw [hr] at h; cases h
theorem nums_eq' {s : List UInt8} (h : (s_impl_numbers s).2 = true) (hd : ∀ x ∈ (s_impl_numbers s).1, dOk x) : s_spec_l1Nums s = s_impl_numbers s := by
  unfold s_spec_l1Nums s_impl_numbers at *
  split
  · rfl
  · rename_i c
    rw [if_neg c] at h hd
    exact nums_down _ _ h hd
theorem p_impl_ParseArray (L1 : List UInt8 → List UInt8 → Option (List UInt8 × List UInt8 × Bool)) (h1 : ∀ a b, pre_strings_Cut a b → L1 a b = some (s_strings_Cut a b)) (L2 : List UInt8 → Option (List Int × Bool)) (h2 : ∀ w, pre_impl_numbers w → L2 w = some (s_impl_numbers w))
    (L3 : List Int → List Int → Option Bool) (h3 : ∀ s d, pre_impl_ArrayOk s d → L3 s d = some (s_impl_ArrayOk s d)) (s : List UInt8) (h : pre_impl_ParseArray s) : ∃ N, impl_ParseArray_f L1 L2 L3 N s = some (s_impl_ParseArray s) := by
  refine ⟨0, ?_⟩
  unfold impl_ParseArray_f s_impl_ParseArray parseA
  by_cases c : 20000 < s.length
  · rw [if_pos (by omega), if_pos c]
  rw [if_neg (by omega), if_neg c, h1 _ _ h]
  simp only [Option.bind_some, s_strings_Cut]
  rcases first_at 58 s with hn | ⟨a, b, rfl, hn⟩
  · have e : pcs 58 [] s = [s] := pcs_no 58 s [] hn
    rw [cut_no hn, e, if_pos rfl]
  · have hl : a.length ≤ 20000 ∧ b.length ≤ 20000 := by simp only [List.length_append, List.length_cons] at c; omega
    have hpa : pcs 58 [] (a ++ 58 :: b) = a :: pcs 58 [] b := pcs_at 58 b a [] hn
    rw [cut_at hn, hpa, if_neg (by simp)]
    simp only
    rw [h2 _ (show a.length ≤ 1048576 by omega), h2 _ (show b.length ≤ 1048576 by omega)]
    simp only [Option.bind_some]
    rcases first_at 58 b with hm | ⟨a', b', rfl, hm⟩
    · have hpb : pcs 58 [] b = [b] := pcs_no 58 b [] hm
      rw [hpb]
      simp only
      by_cases c1 : (s_impl_numbers a).2 = false
      · rw [if_pos c1, if_neg (fun q => by rw [nums_eq q.1, q.1] at c1; cases c1)]
      · rw [if_neg c1]
        by_cases c2 : (s_impl_numbers b).2 = false
        · rw [if_pos c2, if_neg (fun q => by rw [nums_eq q.2.1, q.2.1] at c2; cases c2)]
        · rw [if_neg c2, h3 _ _ ⟨implNums_small hl.1, implNums_small hl.2⟩]
          simp only [Option.bind_some, s_impl_ArrayOk]
          by_cases c3 : arrOk (s_impl_numbers a).1 (s_impl_numbers b).1 = false
          · rw [if_pos c3, if_neg (fun q => by rw [nums_eq q.1, nums_eq q.2.1, q.2.2] at c3; cases c3)]
          · have c3' : arrOk (s_impl_numbers a).1 (s_impl_numbers b).1 = true := by simpa using c3
            obtain ⟨k1, k2⟩ := ok_dOk c3'
            have e1 := nums_eq' (by simpa using c1) k1
            have e2 := nums_eq' (by simpa using c2) k2
            rw [if_neg c3, e1, e2, if_pos ⟨by simpa using c1, by simpa using c2, c3'⟩]
    · have hf : (s_impl_numbers (a' ++ 58 :: b')).2 = false := numbers_no (x := 58) (by simp) (by decide) (by decide) (by decide)
      have hp3 : ∃ u v r, a :: pcs 58 [] (a' ++ 58 :: b') = a :: u :: v :: r := by
        have e : pcs 58 [] (a' ++ 58 :: b') = a' :: pcs 58 [] b' := pcs_at 58 b' a' [] hm
        rw [e]
        cases hq : pcs 58 [] b' with
        | nil =>
          exfalso
          rcases first_at 58 b' with hz | ⟨p, q, rfl, hz⟩
          · have e2 : pcs 58 [] b' = [b'] := pcs_no 58 b' [] hz
            rw [e2] at hq; cases hq
          · have e2 : pcs 58 [] (p ++ 58 :: q) = p :: pcs 58 [] q := pcs_at 58 q p [] hz
            rw [e2] at hq; cases hq
        | cons v r => exact ⟨a', v, r, rfl⟩
      obtain ⟨u, v, r, he⟩ := hp3
      rw [he]
      simp only
      by_cases c1 : (s_impl_numbers a).2 = false
      · rw [if_pos c1]
      · rw [if_neg c1, if_pos hf]
def pre_laws_eqIntS (a b : List Int) : Prop := small a
def s_laws_eqIntS (a b : List Int) : Bool := decide (a = b)
theorem l_eqIntS (a b : List Int) (ha : small a) (hab : a.length = b.length) : ∀ (r t : List Int) (j e : Nat), a.drop j = r → b.drop j = t → laws_eqIntS_l0 (r.length + 1 + e) a b j = some (decide (r = t))
  | [], t, j, e, hd, hd' => by
    have h := at_nil hd
    rw [show ([] : List Int).length + 1 + e = e + 1 by simp; omega]
    simp only [laws_eqIntS_l0]
    have : t = [] := by rw [← hd']; exact List.drop_eq_nil_of_le (by omega)
    rw [if_neg h, this]; rfl
  | x :: r, t, j, e, hd, hd' => by
    obtain ⟨h1, h2, h3, h4, h5, h6⟩ := at_cons hd
    have hb : a.length ≤ big := by unfold small at ha; rw [big_eq]; omega
    cases t with
    | nil => have := at_nil hd'; omega
    | cons y t =>
      obtain ⟨g1, g2, g3, g4, g5, g6⟩ := at_cons hd'
      rw [show (x :: r).length + 1 + e = (r.length + 1 + e) + 1 by simp; omega]
      simp only [laws_eqIntS_l0]
      rw [if_pos h2, h3, g3]
      simp only [Option.bind_some]
      rw [succ_w h1 hb, l_eqIntS a b ha hab r t (j + 1) e h5 g5]
      by_cases c : x = y
      · rw [if_pos c]; simp [c]
      · rw [if_neg c]; simp [c]
theorem p_laws_eqIntS (a b : List Int) (h : pre_laws_eqIntS a b) : ∃ N, laws_eqIntS_f N a b = some (s_laws_eqIntS a b) := by
  refine ⟨a.length + 1, ?_⟩
  unfold laws_eqIntS_f s_laws_eqIntS
  by_cases c : (a.length : Int) = b.length
  · rw [if_pos c]
    exact l_eqIntS a b h (by omega) a b 0 0 rfl rfl
  · rw [if_neg c]
    have : ¬ a = b := by rintro rfl; exact c rfl
    simp [this]
def pre_laws_eqArray (s d s' d' : List Int) : Prop := small s ∧ small d
def s_laws_eqArray (s d s' d' : List Int) : Bool := decide (s = s') && decide (d = d')
theorem p_laws_eqArray (L : List Int → List Int → Option Bool) (hL : ∀ a b, pre_laws_eqIntS a b → L a b = some (s_laws_eqIntS a b)) (s d s' d' : List Int) (h : pre_laws_eqArray s d s' d') :
    ∃ N, laws_eqArray_f L N s d s' d' = some (s_laws_eqArray s d s' d') := by
  refine ⟨0, ?_⟩
  unfold laws_eqArray_f s_laws_eqArray
  rw [hL _ _ h.1, hL _ _ h.2]
  simp only [Option.bind_some, s_laws_eqIntS]
  by_cases c : s = s' <;> by_cases c' : d = d' <;> simp [c, c']
def pre_laws_markIntS (l : List Int) (k : Int) : Prop := small l ∧ 0 ≤ k ∧ k ≤ 16777216
/-- numbers from k on -/
def upFrom (k : Int) : Nat → List Int
  | 0 => []
  | n + 1 => k :: upFrom (k + 1) n
def s_laws_markIntS (l : List Int) (k : Int) : Int × List Int := (k + l.length, upFrom k l.length)
theorem l_markIntS (n : Nat) (hn : n ≤ 1048576) : ∀ (m j e : Nat) (k : Int) (z y : List Int), j + m = n → z.length = n → 0 ≤ k → k + m ≤ 33554432 → z.take j = y → laws_markIntS_l0 (m + 1 + e) k j z = some (k + m, y ++ upFrom k m)
  | 0, j, e, k, z, y, hj, hz, h0, h1, ht => by
    rw [show 0 + 1 + e = e + 1 by omega]
    simp only [laws_markIntS_l0]
    rw [if_neg (by omega)]
    have : z = y := by rw [← ht, List.take_of_length_le (by omega)]
    simp [upFrom, this]
  | m + 1, j, e, k, z, y, hj, hz, h0, h1, ht => by
    rw [show m + 1 + 1 + e = (m + 1 + e) + 1 by omega]
    simp only [laws_markIntS_l0]
    rw [if_pos (by omega), if_pos (by omega), Int.toNat_natCast, setN, if_pos (by omega)]
    simp only [Option.bind_some]
    rw [w64_in (by omega), succ_w (n := n) (by omega) (by rw [big_eq]; omega)]
    rw [l_markIntS n hn m (j + 1) e (k + 1) (z.set j k) (y ++ [k]) (by omega) (by simp [hz]) (by omega) (by omega) (by
      rw [List.take_add_one, List.getElem?_set_self (by omega), List.take_set_of_le (Nat.le_refl j), ht]; rfl)]
    simp [upFrom]
    omega
theorem p_laws_markIntS (l : List Int) (k : Int) (h : pre_laws_markIntS l k) : ∃ N, laws_markIntS_f N l k = some (s_laws_markIntS l k) := by
  obtain ⟨h1, h2, h3⟩ := h
  refine ⟨l.length + 1, ?_⟩
  unfold laws_markIntS_f s_laws_markIntS
  have h1' : l.length ≤ 1048576 := h1
  have := l_markIntS l.length h1 l.length 0 0 k l [] (by omega) rfl h2 (by omega) rfl
  simpa using this
def pre_laws_markArray (s d : List Int) (k : Int) : Prop := small s ∧ small d ∧ 0 ≤ k ∧ k ≤ 4194304
def s_laws_markArray (s d : List Int) (k : Int) : Int × List Int × List Int := (k + s.length + d.length, upFrom k s.length, upFrom (k + s.length) d.length)
theorem p_laws_markArray (L : List Int → Int → Option (Int × List Int)) (hL : ∀ l k, pre_laws_markIntS l k → L l k = some (s_laws_markIntS l k)) (s d : List Int) (k : Int) (h : pre_laws_markArray s d k) :
    ∃ N, laws_markArray_f L N s d k = some (s_laws_markArray s d k) := by
  obtain ⟨h1, h2, h3, h4⟩ := h
  have h1' : s.length ≤ 1048576 := h1
  refine ⟨0, ?_⟩
  unfold laws_markArray_f
  rw [hL _ _ ⟨h1, h3, by omega⟩]
  simp only [Option.bind_some, s_laws_markIntS]
  rw [hL _ _ ⟨h2, by omega, by omega⟩]
  rfl
def pre_laws_heldIntS (l : List Int) (k : Int) : Prop := small l ∧ 0 ≤ k ∧ k ≤ 16777216
def s_laws_heldIntS (l : List Int) (k : Int) : Int := if l = upFrom k l.length then k + l.length else -1
theorem l_heldIntS (l : List Int) (hl : small l) : ∀ (r : List Int) (j e : Nat) (k : Int), l.drop j = r → 0 ≤ k → k + r.length ≤ 33554432 →
    laws_heldIntS_l0 (r.length + 1 + e) l k j = some (if r = upFrom k r.length then k + r.length else -1)
  | [], j, e, k, hd, h0, h1 => by
    rw [show ([] : List Int).length + 1 + e = e + 1 by simp; omega]
    simp only [laws_heldIntS_l0]
    rw [if_neg (at_nil hd)]; simp [upFrom]
  | x :: r, j, e, k, hd, h0, h1 => by
    obtain ⟨g1, g2, g3, g4, g5, g6⟩ := at_cons hd
    have hb : l.length ≤ big := by unfold small at hl; rw [big_eq]; omega
    rw [List.length_cons] at h1
    rw [show (x :: r).length + 1 + e = (r.length + 1 + e) + 1 by simp; omega]
    simp only [laws_heldIntS_l0]
    rw [if_pos g2, g3]
    simp only [Option.bind_some]
    by_cases c : x = k
    · subst c
      rw [if_pos rfl, w64_in (by omega), succ_w g1 hb, l_heldIntS l hl r (j + 1) e (x + 1) g5 (by omega) (by omega)]
      simp only [List.length_cons, upFrom, List.cons.injEq, true_and]
      congr 1
      split
      · omega
      · rfl
    · rw [if_neg c]
      simp [upFrom, c]
theorem p_laws_heldIntS (l : List Int) (k : Int) (h : pre_laws_heldIntS l k) : ∃ N, laws_heldIntS_f N l k = some (s_laws_heldIntS l k) := by
  obtain ⟨h1, h2, h3⟩ := h
  have h1' : l.length ≤ 1048576 := h1
  refine ⟨l.length + 1, ?_⟩
  unfold laws_heldIntS_f s_laws_heldIntS
  have := l_heldIntS l h1 l 0 0 k rfl h2 (by omega)
  simpa using this
def pre_laws_heldArray (s d : List Int) (k : Int) : Prop := small s ∧ small d ∧ 0 ≤ k ∧ k ≤ 4194304
def s_laws_heldArray (s d : List Int) (k : Int) : Int := if s = upFrom k s.length ∧ d = upFrom (k + s.length) d.length then k + s.length + d.length else -1
theorem p_laws_heldArray (L : List Int → Int → Option Int) (hL : ∀ l k, pre_laws_heldIntS l k → L l k = some (s_laws_heldIntS l k)) (s d : List Int) (k : Int) (h : pre_laws_heldArray s d k) :
    ∃ N, laws_heldArray_f L N s d k = some (s_laws_heldArray s d k) := by
  obtain ⟨h1, h2, h3, h4⟩ := h
  have h1' : s.length ≤ 1048576 := h1
  refine ⟨0, ?_⟩
  unfold laws_heldArray_f s_laws_heldArray
  rw [hL _ _ ⟨h1, h3, by omega⟩]
  simp only [Option.bind_some, s_laws_heldIntS]
  by_cases c : s = upFrom k s.length
  · rw [if_pos c, if_neg (by omega), hL _ _ ⟨h2, by omega, by omega⟩]
    simp only [Option.bind_some, s_laws_heldIntS]
    by_cases c' : d = upFrom (k + s.length) d.length
    · rw [if_pos c', if_neg (by omega), if_pos ⟨c, c'⟩]
    · rw [if_neg c', if_pos (by omega), if_neg (fun q => c' q.2)]
  · rw [if_neg c, if_pos (by omega), if_neg (fun q => c q.1)]
def pre_laws_FnExactParseArray (s : List UInt8) : Prop := True
def s_laws_FnExactParseArray (s : List UInt8) : Bool := true
theorem upFrom_len : ∀ (n : Nat) (k : Int), (upFrom k n).length = n
  | 0, _ => rfl
  | n + 1, k => by simp [upFrom, upFrom_len n]
/-- marks are held -/
theorem held_marks (s d : List Int) (k : Int) : s_laws_heldArray (s_laws_markArray s d k).2.1 (s_laws_markArray s d k).2.2 k = (s_laws_markArray s d k).1 := by
  unfold s_laws_heldArray s_laws_markArray
  simp only [upFrom_len]
  rw [if_pos ⟨trivial, trivial⟩]
theorem eqA_refl (s d : List Int) : s_laws_eqArray s d s d = true := by simp [s_laws_eqArray]
theorem parseA_small (s : List UInt8) : small (parseA s).1 ∧ small (parseA s).2.1 := by
  unfold parseA
  split
  · simp [small]
  · rename_i c
    split
    · rename_i a b hp
      have hlen := pcs_each 58 s []
      have ha : a.length ≤ 20000 := by have := hlen a (by rw [hp]; simp); simp at this; omega
      have hb : b.length ≤ 20000 := by have := hlen b (by rw [hp]; simp); simp at this; omega
      split
      · exact ⟨specNums_small ha, specNums_small hb⟩
      · simp [small]
    · simp [small]
theorem p_laws_FnExactParseArray (L1 : List UInt8 → Option (List Int × List Int × Int)) (h1 : ∀ s, pre_spec_ParseArray s → L1 s = some (s_spec_ParseArray s)) (L2 : List UInt8 → Option (List Int × List Int × Int)) (h2 : ∀ s, pre_impl_ParseArray s → L2 s = some (s_impl_ParseArray s))
    (L4 : List Int → List Int → List Int → List Int → Option Bool) (h4 : ∀ s d s' d', pre_laws_eqArray s d s' d' → L4 s d s' d' = some (s_laws_eqArray s d s' d'))
    (L5 : List Int → List Int → Int → Option (Int × List Int × List Int)) (h5 : ∀ s d k, pre_laws_markArray s d k → L5 s d k = some (s_laws_markArray s d k))
    (L6 : List Int → List Int → Int → Option Int) (h6 : ∀ s d k, pre_laws_heldArray s d k → L6 s d k = some (s_laws_heldArray s d k))
    (s : List UInt8) (h : pre_laws_FnExactParseArray s) : ∃ N, laws_FnExactParseArray_f L1 L2 L4 L5 L6 N s = some (s_laws_FnExactParseArray s) := by
  refine ⟨0, ?_⟩
  unfold laws_FnExactParseArray_f s_laws_FnExactParseArray
  by_cases c : 1048576 < (s.length : Int)
  · rw [if_pos c]
  · rw [if_neg c]
    have hs : s.length ≤ 1048576 := by omega
    have hg := parseA_small s
    have hm3 := h5 _ _ 1 ⟨hg.1, hg.2, by omega, by omega⟩
    have hm : small (s_laws_markArray (parseA s).1 (parseA s).2.1 1).2.1 ∧ small (s_laws_markArray (parseA s).1 (parseA s).2.1 1).2.2 := by
      unfold s_laws_markArray small
      simp only [upFrom_len]
      exact hg
    have hh := h6 _ _ 1 ⟨hm.1, hm.2, by omega, by omega⟩
    have hk : ¬ (s_laws_markArray (parseA s).1 (parseA s).2.1 1).1 < 0 := by unfold s_laws_markArray; simp only; omega
    rw [h1 _ hs, h2 _ hs]
    simp only [Option.bind_some, s_spec_ParseArray, s_impl_ParseArray]
    rw [h4 _ _ _ _ hg]
    simp only [Option.bind_some, eqA_refl]
    rw [if_neg (by simp), if_pos trivial, hm3]
    simp only [Option.bind_some]
    rw [hh, held_marks]
    simp only [Option.bind_some]
    rw [if_neg hk, if_pos trivial, if_neg (by simp), if_pos trivial, if_neg hk, if_pos trivial]
theorem pre_of_laws_FnExactParseArray {s : List UInt8} (h : s.length ≤ maxLen) : pre_laws_FnExactParseArray s := trivial
end Go.Vm
