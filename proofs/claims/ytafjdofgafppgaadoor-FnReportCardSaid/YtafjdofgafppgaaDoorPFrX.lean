/- What the functions under laws_FnReport answer. -/
import Derived.Test.YtafjdofgafppgaaDoorPBase
import Derived.Test.YtafjdofgafppgaaDoorFFr
import Derived.Test.YtafjdofgafppgaaDoorLayC
import Derived.Test.YtafjdofgafppgaaDoorBldS
import Derived.Lib.ItoaNum
import Derived.Lib.CountLaws
import Derived.Lib.Join
set_option linter.all false
set_option maxRecDepth 100000
namespace Go.Vm

def pre_spec_l1Open (c : List Int) : Prop := c.length ≤ 1048576 ∧ ∀ x ∈ c, 0 ≤ x ∧ x ≤ 255
def s_spec_l1Open (c : List Int) : List Int × Int := (c.take 1000, 0)
theorem cut_mid {α : Type} {s : List α} {a b : Nat} (h : a ≤ b) (h' : b ≤ s.length) : cut s (a : Int) (b : Int) = some ((s.drop a).take (b - a)) := by
  unfold cut
  rw [if_pos (by omega), Int.toNat_natCast, show ((b : Int) - (a : Int)).toNat = b - a by omega]
theorem cut_head {α : Type} {s : List α} {b : Nat} (h' : b ≤ s.length) : cut s 0 (b : Int) = some (s.take b) := by
  have := cut_mid (s := s) (a := 0) (b := b) (Nat.zero_le _) h'
  simpa using this
theorem p_spec_l1Open (c : List Int) (h : pre_spec_l1Open c) : ∃ N, spec_l1Open_f N c = some (s_spec_l1Open c) := by
  refine ⟨0, ?_⟩
  unfold spec_l1Open_f s_spec_l1Open
  by_cases k : (1000 : Int) < c.length
  · rw [if_pos k]
    have := cut_head (s := c) (b := 1000) (by omega)
    rw [show ((1000 : Nat) : Int) = 1000 from rfl] at this
    rw [this]; rfl
  · rw [if_neg k, List.take_of_length_le (by omega)]
def isBy (l : List Int) : Prop := l.length ≤ 1000 ∧ ∀ x ∈ l, 0 ≤ x ∧ x ≤ 255
def rdOk (b : List Int) (p : Int) : Prop := isBy b ∧ 0 ≤ p ∧ p ≤ 1000
def pre___spec_l1Rd__next (b : List Int) (p : Int) : Prop := rdOk b p
def nx (b : List Int) (p : Int) : Int := if p < b.length then b.getD p.toNat 0 else 0
def npx (b : List Int) (p : Int) : Int := if p < b.length then p + 1 else p
def s___spec_l1Rd__next (b : List Int) (p : Int) : Int × List Int × Int := (nx b p, b, npx b p)
theorem nx_in {b : List Int} {p : Int} (h : rdOk b p) : 0 ≤ nx b p ∧ nx b p ≤ 255 := by
  unfold nx
  split
  · rename_i c
    have hl : p.toNat < b.length := by have := h.2.1; omega
    rw [List.getD_eq_getElem?_getD, List.getElem?_eq_getElem hl, Option.getD_some]
    exact h.1.2 _ (List.getElem_mem hl)
  · omega
theorem p___spec_l1Rd__next (b : List Int) (p : Int) (h : pre___spec_l1Rd__next b p) : ∃ N, __spec_l1Rd__next_f N b p = some (s___spec_l1Rd__next b p) := by
  refine ⟨0, ?_⟩
  have hn := nx_in h
  have h2 := h.2
  unfold __spec_l1Rd__next_f s___spec_l1Rd__next
  by_cases c : p < b.length
  · rw [if_pos c]
    have hl : p.toNat < b.length := by omega
    have hi : idx b p = some (nx b p) := by
      unfold idx nx
      rw [if_pos h2.1, if_pos c, List.getD_eq_getElem?_getD, List.getElem?_eq_getElem hl, Option.getD_some]
    rw [hi]
    simp only [Option.bind_some]
    rw [w64_in (by omega), w64_in (by omega)]
    unfold npx
    rw [if_pos c]
  · rw [if_neg c]
    unfold nx npx
    rw [if_neg c, if_neg c]
def pre_spec_l6Id (b : List Int) (p : Int) : Prop := rdOk b p
def idS (k : Int) : List UInt8 :=
  if k.tmod 6 = 0 then [97, 110, 110] else if k.tmod 6 = 1 then [98, 111, 98] else if k.tmod 6 = 2 then [99, 121, 55] else if k.tmod 6 = 3 then [68] else if k.tmod 6 = 4 then [101, 118, 101] else [115, 116, 97, 102, 102]
def idX (k : Int) : List UInt8 :=
  if k.tmod 4 = 0 then [] else if k.tmod 4 = 1 then [97, 32, 98] else if k.tmod 4 = 2 then [120, 46, 121] else [97, 98, 99, 100, 101, 102, 103, 104, 105, 106, 97, 98, 99, 100, 101, 102, 103, 104, 105, 106, 107]
def idM : List UInt8 := [97, 98, 99, 100, 101, 102, 103, 104, 105, 106, 65, 66, 67, 68, 69, 70, 71, 72, 73, 74]
def idOf (k : Int) : List UInt8 := if 252 ≤ k then idX k else if 248 ≤ k then idM else idS k
def s_spec_l6Id (b : List Int) (p : Int) : List UInt8 × List Int × Int := (idOf (nx b p), b, npx b p)
theorem tmx {k : Int} (m : Int) (hk : 0 ≤ k) (hm : 0 < m) : 0 ≤ k.tmod m ∧ k.tmod m < m := ⟨Int.tmod_nonneg m hk, Int.tmod_lt_of_pos k hm⟩
theorem p_spec_l6Id (L : List Int → Int → Option (Int × List Int × Int)) (hL : ∀ b p, pre___spec_l1Rd__next b p → L b p = some (s___spec_l1Rd__next b p)) (b : List Int) (p : Int) (h : pre_spec_l6Id b p) :
    ∃ N, spec_l6Id_f L N b p = some (s_spec_l6Id b p) := by
  refine ⟨0, ?_⟩
  have hn := nx_in h
  unfold spec_l6Id_f s_spec_l6Id
  rw [hL b p h]
  simp only [Option.bind_some, s___spec_l1Rd__next]
  generalize nx b p = k at hn ⊢
  unfold idOf
  by_cases c : 252 ≤ k
  · have h4 := tmx 4 hn.1 (by omega)
    rw [if_pos c, if_pos c, if_pos h4]
    unfold idX
    generalize k.tmod 4 = m at h4 ⊢
    obtain rfl | rfl | rfl | rfl : m = 0 ∨ m = 1 ∨ m = 2 ∨ m = 3 := by omega
    all_goals rfl
  · rw [if_neg c, if_neg c]
    by_cases c2 : 248 ≤ k
    · rw [if_pos c2, if_pos c2]; rfl
    · have h4 := tmx 6 hn.1 (by omega)
      rw [if_neg c2, if_neg c2, if_pos h4]
      unfold idS
      generalize k.tmod 6 = m at h4 ⊢
      obtain rfl | rfl | rfl | rfl | rfl | rfl : m = 0 ∨ m = 1 ∨ m = 2 ∨ m = 3 ∨ m = 4 ∨ m = 5 := by omega
      all_goals rfl
def pre_spec_l6Verdicts (b : List Int) (p : Int) : Prop := rdOk b p
def mkD (m : Int) : TVerdict := ⟨1 + m.tmod 5, if 1 + m.tmod 5 = 3 then 1 + (m.tdiv 5 * 3).tmod 99 else 0⟩
def drw (b : List Int) : Nat → Int → List TVerdict → List TVerdict × Int
  | 0, p, acc => (acc, p)
  | n + 1, p, acc => drw b n (npx b p) (acc ++ [mkD (nx b p)])
def oddV (k : Int) (vs : List TVerdict) : List TVerdict := if k.tmod 16 = 15 then vs ++ [⟨(k.tdiv 16).tmod 7, k.tdiv 32 * 30⟩] else vs
def upto (k : Int) : Nat := (20 + (k.tdiv 32).tmod 2).toNat
def fillV (k : Int) (vs : List TVerdict) : List TVerdict := if k.tmod 32 = 14 then vs ++ List.replicate (upto k - vs.length) ⟨1, 0⟩ else vs
def vsOf (b : List Int) (p : Int) : List TVerdict × Int :=
  (fillV (nx b p) (oddV (nx b p) (drw b ((nx b p).tmod 6).toNat (npx b p) []).1), (drw b ((nx b p).tmod 6).toNat (npx b p) []).2)
def s_spec_l6Verdicts (b : List Int) (p : Int) : List TVerdict × List Int × Int := ((vsOf b p).1, b, (vsOf b p).2)
theorem np_rd {b : List Int} {p : Int} (h : rdOk b p) : rdOk b (npx b p) := by
  refine ⟨h.1, ?_⟩
  have h1 := h.1.1
  have h2 := h.2
  unfold npx
  split <;> omega
theorem upto_in (k : Int) (h : 0 ≤ k ∧ k ≤ 255) : w64 (20 + (w64 (k.tdiv 32)).tmod 2) = ((upto k : Nat) : Int) ∧ upto k ≤ 21 := by
  have h1 : 0 ≤ k.tdiv 32 := Int.tdiv_nonneg h.1 (by omega)
  have h2 : k.tdiv 32 ≤ k := Int.tdiv_le_self _ h.1
  rw [w64_in (n := k.tdiv 32) (by omega)]
  have h3 := tmx 2 h1 (by omega)
  unfold upto
  rw [w64_in (by omega)]
  omega
theorem room16 {n : Nat} (h : n ≤ 1000) : room 16 n := by
  unfold room roomB
  omega
theorem l_fill (L : List Int → Int → Option (Int × List Int × Int)) (k : Int) (hk : 0 ≤ k ∧ k ≤ 255) (b : List Int) (p : Int) : ∀ (m e : Nat) (vs : List TVerdict), vs.length ≤ 100 → upto k - vs.length = m →
    spec_l6Verdicts_l1 L (m + 1 + e) k b p vs = some (vs ++ List.replicate m ⟨1, 0⟩, b, p)
  | 0, e, vs, hv, h => by
    rw [fuel0]
    simp only [spec_l6Verdicts_l1]
    rw [(upto_in k hk).1, if_neg (by omega)]; simp
  | m + 1, e, vs, hv, h => by
    rw [fuel]
    simp only [spec_l6Verdicts_l1]
    have := (upto_in k hk).2
    rw [(upto_in k hk).1, if_pos (by omega), if_pos (room16 (by simp; omega)), l_fill L k hk b p m e _ (by simp; omega) (by simp; omega)]
    rw [List.append_assoc]; rfl
theorem l_draw (L : List Int → Int → Option (Int × List Int × Int)) (hL : ∀ b p, pre___spec_l1Rd__next b p → L b p = some (s___spec_l1Rd__next b p)) (k : Int) (hk : 0 ≤ k ∧ k ≤ 255) (b : List Int) (F : Nat) (hF : 50 ≤ F) :
    ∀ (n e : Nat) (p i : Int) (acc : List TVerdict), rdOk b p → 0 ≤ i → i + n = k.tmod 6 → acc.length + n ≤ 6 →
    spec_l6Verdicts_l0 L F (n + 1 + e) k i b p acc = some (fillV k (oddV k (drw b n p acc).1), b, (drw b n p acc).2)
  | 0, e, p, i, acc, hp, hi, hn, ha => by
    rw [fuel0]
    simp only [spec_l6Verdicts_l0, drw]
    have h1 : 0 ≤ k.tdiv 16 := Int.tdiv_nonneg hk.1 (by omega)
    have h2 : k.tdiv 16 ≤ k := Int.tdiv_le_self _ hk.1
    have h3 : 0 ≤ k.tdiv 32 := Int.tdiv_nonneg hk.1 (by omega)
    have h4 : k.tdiv 32 ≤ k := Int.tdiv_le_self _ hk.1
    have hu := (upto_in k hk).2
    have hf := fun (vs : List TVerdict) (hv : vs.length ≤ 100) => l_fill L k hk b p (upto k - vs.length) (F - 1 - (upto k - vs.length)) vs hv rfl
    have hF' : ∀ vs : List TVerdict, upto k - vs.length + 1 + (F - 1 - (upto k - vs.length)) = F := fun vs => by omega
    simp only [hF'] at hf
    rw [if_neg (by omega), w64_in (n := k.tdiv 16) (by omega), w64_in (n := k.tdiv 32) (by omega), w64_in (n := k.tdiv 32 * 30) (by omega)]
    unfold oddV
    by_cases c : k.tmod 16 = 15
    · rw [if_pos c, if_pos c, if_pos (room16 (by simp; omega))]
      unfold fillV
      by_cases c2 : k.tmod 32 = 14
      · rw [if_pos c2, if_pos c2, hf _ (by simp; omega)]
      · rw [if_neg c2, if_neg c2]
    · rw [if_neg c, if_neg c]
      unfold fillV
      by_cases c2 : k.tmod 32 = 14
      · rw [if_pos c2, if_pos c2, hf _ (by omega)]
      · rw [if_neg c2, if_neg c2]
  | n + 1, e, p, i, acc, hp, hi, hn, ha => by
    rw [fuel]
    simp only [spec_l6Verdicts_l0]
    have hm := nx_in hp
    have h5 := tmx 5 hm.1 (by omega)
    have h6 := tmx 6 hk.1 (by omega)
    have hd : 0 ≤ (nx b p).tdiv 5 := Int.tdiv_nonneg hm.1 (by omega)
    have hd' : (nx b p).tdiv 5 ≤ nx b p := Int.tdiv_le_self _ hm.1
    have h99 := tmx (k := (nx b p).tdiv 5 * 3) 99 (by omega) (by omega)
    rw [if_pos (by omega), hL b p hp]
    simp only [Option.bind_some, s___spec_l1Rd__next]
    rw [w64_in (n := 1 + (nx b p).tmod 5) (by omega), w64_in (n := (nx b p).tdiv 5) (by omega), w64_in (n := (nx b p).tdiv 5 * 3) (by omega), w64_in (n := 1 + ((nx b p).tdiv 5 * 3).tmod 99) (by omega), w64_in (n := i + 1) (by omega)]
    have ih := l_draw L hL k hk b F hF n e (npx b p) (i + 1) (acc ++ [mkD (nx b p)]) (np_rd hp) (by omega) (by omega) (by simp; omega)
    simp only [drw]
    by_cases c : 1 + (nx b p).tmod 5 = 3
    · rw [if_pos c, if_pos (room16 (by simp; omega))]
      unfold mkD at ih ⊢
      rw [if_pos c] at ih ⊢
      exact ih
    · rw [if_neg c, if_pos (room16 (by simp; omega))]
      unfold mkD at ih ⊢
      rw [if_neg c] at ih ⊢
      exact ih
theorem p_spec_l6Verdicts (L : List Int → Int → Option (Int × List Int × Int)) (hL : ∀ b p, pre___spec_l1Rd__next b p → L b p = some (s___spec_l1Rd__next b p)) (b : List Int) (p : Int) (h : pre_spec_l6Verdicts b p) :
    ∃ N, spec_l6Verdicts_f L N b p = some (s_spec_l6Verdicts b p) := by
  have hk := nx_in h
  have h6 := tmx 6 hk.1 (by omega)
  obtain ⟨N, hN⟩ : ∃ N : Nat, N = 100 := ⟨_, rfl⟩
  refine ⟨N, ?_⟩
  unfold spec_l6Verdicts_f s_spec_l6Verdicts vsOf
  rw [hL b p h]
  simp only [Option.bind_some, s___spec_l1Rd__next]
  have := l_draw L hL (nx b p) hk b N (by omega) ((nx b p).tmod 6).toNat (N - 1 - ((nx b p).tmod 6).toNat) (npx b p) 0 [] (np_rd h) (by omega) (by omega) (by simp; omega)
  rw [show ((nx b p).tmod 6).toNat + 1 + (N - 1 - ((nx b p).tmod 6).toNat) = N by omega] at this
  exact this
def pre_spec_l3Digit (c : Int) : Prop := True
def isDig (c : Int) : Bool := decide (48 ≤ c) && decide (c ≤ 57)
def s_spec_l3Digit (c : Int) : Bool := isDig c
theorem p_spec_l3Digit (c : Int) (h : pre_spec_l3Digit c) : ∃ N, spec_l3Digit_f N c = some (s_spec_l3Digit c) := by
  refine ⟨0, ?_⟩
  unfold spec_l3Digit_f s_spec_l3Digit isDig
  by_cases h : 48 ≤ c <;> simp [h]
def pre_spec_l3Letter (c : Int) : Prop := True
def isLet (c : Int) : Bool := (decide (97 ≤ c) && decide (c ≤ 122)) || (decide (65 ≤ c) && decide (c ≤ 90))
def s_spec_l3Letter (c : Int) : Bool := isLet c
theorem p_spec_l3Letter (c : Int) (h : pre_spec_l3Letter c) : ∃ N, spec_l3Letter_f N c = some (s_spec_l3Letter c) := by
  refine ⟨0, ?_⟩
  unfold spec_l3Letter_f s_spec_l3Letter isLet
  by_cases h : 97 ≤ c <;> by_cases h' : c ≤ 122 <;> by_cases h'' : 65 ≤ c <;> simp [h, h', h'']
def pre_spec_l6IdOk (l : List UInt8) : Prop := l.length ≤ big
def idC (b : UInt8) : Bool := isDig b.toNat || isLet b.toNat
def idOkB (l : List UInt8) : Bool := l.all idC && (decide (1 ≤ l.length) && decide (l.length ≤ 20))
def s_spec_l6IdOk (l : List UInt8) : Bool := idOkB l
theorem l_specId (L1 L2 : Int → Option Bool) (h1 : ∀ c, pre_spec_l3Digit c → L1 c = some (s_spec_l3Digit c)) (h2 : ∀ c, pre_spec_l3Letter c → L2 c = some (s_spec_l3Letter c)) (l : List UInt8) (hl : l.length ≤ big) :
    ∀ (r : List UInt8) (j e : Nat), l.drop j = r → spec_l6IdOk_l0 L1 L2 (r.length + 1 + e) l j = some (r.all idC && (decide (1 ≤ l.length) && decide (l.length ≤ 20)))
  | [], j, e, hd => by
    rw [List.length_nil, fuel0]
    simp only [spec_l6IdOk_l0]
    rw [if_neg (at_nil hd)]
    by_cases c : 1 ≤ l.length
    · rw [if_pos (by omega)]
      by_cases c' : l.length ≤ 20
      · have : (l.length : Int) ≤ 20 := by omega
        simp [c, c', this]
      · have : ¬ (l.length : Int) ≤ 20 := by omega
        simp [c, c', this]
    · rw [if_neg (by omega)]; simp [c]
  | b :: r, j, e, hd => by
    obtain ⟨g1, g2, g3, g4, g5, g6⟩ := at_cons hd
    rw [List.length_cons, fuel]
    simp only [spec_l6IdOk_l0]
    rw [if_pos g2, idxB_some g3]
    simp only [Option.bind_some]
    rw [h1 _ trivial, h2 _ trivial, succ_w g1 hl, l_specId L1 L2 h1 h2 l hl r (j + 1) e g5]
    simp only [Option.bind_some, List.all_cons, s_spec_l3Digit, s_spec_l3Letter, idC]
    by_cases c1 : isDig b.toNat = true
    · simp [c1]
    · by_cases c2 : isLet b.toNat = true
      · simp [c1, c2]
      · simp [c1, c2]
theorem p_spec_l6IdOk (L1 : Int → Option Bool) (h1 : ∀ c, pre_spec_l3Digit c → L1 c = some (s_spec_l3Digit c)) (L2 : Int → Option Bool) (h2 : ∀ c, pre_spec_l3Letter c → L2 c = some (s_spec_l3Letter c)) (l : List UInt8) (h : pre_spec_l6IdOk l) :
    ∃ N, spec_l6IdOk_f L1 L2 N l = some (s_spec_l6IdOk l) := ⟨l.length + 1, l_specId L1 L2 h1 h2 l h l 0 0 rfl⟩
def pre_spec_l6VerdictsOk (l : List TVerdict) : Prop := few l
def vOk (k c : Int) : Bool := if k = 3 then decide (1 ≤ c) && decide (c ≤ 99) else decide (1 ≤ k) && decide (k ≤ 5) && decide (c = 0)
def vsOk (l : List TVerdict) : Bool := decide (l.length ≤ 20) && l.all fun v => vOk v.Kind v.Code
def s_spec_l6VerdictsOk (l : List TVerdict) : Bool := vsOk l
theorem l_verdictsOk (l : List TVerdict) (hl : few l) : ∀ (r : List TVerdict) (j e : Nat), l.drop j = r → spec_l6VerdictsOk_l0 (r.length + 1 + e) l j = some (r.all fun v => vOk v.Kind v.Code)
  | [], j, e, hd => by
    rw [List.length_nil, fuel0]
    simp only [spec_l6VerdictsOk_l0]
    rw [if_neg (at_nil hd)]; rfl
  | v :: r, j, e, hd => by
    obtain ⟨h1, h2, h3, h4, h5, h6⟩ := at_cons hd
    rw [List.length_cons, fuel]
    simp only [spec_l6VerdictsOk_l0]
    rw [if_pos h2, h3]
    simp only [Option.bind_some]
    rw [succ_w h1 (few_big hl), l_verdictsOk l hl r (j + 1) e h5]
    rw [List.all_cons]
    unfold vOk
    by_cases k3 : v.Kind = 3
    · rw [if_neg (by omega), if_neg (by omega), if_pos k3, if_pos k3, if_pos k3]
      by_cases c1 : v.Code < 1
      · rw [if_pos c1]; simp; omega
      · rw [if_neg c1]
        by_cases c2 : 99 < v.Code
        · rw [if_pos c2]; simp; omega
        · have e1 : 1 ≤ v.Code := by omega
          have e2 : v.Code ≤ 99 := by omega
          rw [if_neg c2]; simp [e1, e2]
    · rw [if_neg k3, if_neg k3, if_neg k3]
      by_cases c1 : v.Kind < 1
      · rw [if_pos c1]; simp; omega
      · rw [if_neg c1]
        by_cases c2 : 5 < v.Kind
        · rw [if_pos c2]; simp; omega
        · have e1 : 1 ≤ v.Kind := by omega
          have e2 : v.Kind ≤ 5 := by omega
          rw [if_neg c2]
          by_cases c3 : v.Code = 0 <;> simp [c3, e1, e2]
theorem p_spec_l6VerdictsOk (l : List TVerdict) (h : pre_spec_l6VerdictsOk l) : ∃ N, spec_l6VerdictsOk_f N l = some (s_spec_l6VerdictsOk l) := by
  refine ⟨l.length + 1, ?_⟩
  unfold spec_l6VerdictsOk_f s_spec_l6VerdictsOk vsOk
  by_cases c : 20 < (l.length : Int)
  · have : ¬ l.length ≤ 20 := by omega
    rw [if_pos c]; simp [this]
  · have : l.length ≤ 20 := by omega
    rw [if_neg c]
    refine (l_verdictsOk l h l 0 0 rfl).trans ?_
    simp [this]
def dOk (n : Int) : Prop := -9999999999 ≤ n ∧ n ≤ 9999999999
def pre_spec_l1Dec (n : Int) : Prop := dOk n
def s_spec_l1Dec (n : Int) : List UInt8 := Lib.itoa n
def mu_spec_l1Dec (n : Int) : Nat := 2 * n.natAbs + (if n < 0 then 1 else 0)
theorem nDig : ∀ (k u : Nat), u < 10 ^ (k + 1) → Lib.nDigits u ≤ k + 1
  | 0, u, h => by rw [Lib.nDigits_small (by simpa using h)]; omega
  | k + 1, u, h => by
    by_cases c : u < 10
    · rw [Lib.nDigits_small c]; omega
    · rw [Lib.nDigits, dif_neg c]
      have := nDig k (u / 10) (by rw [Nat.pow_succ] at h; exact (Nat.div_lt_iff_lt_mul (by omega)).2 h)
      omega
theorem itoa_len {n : Int} (h : dOk n) : (Lib.itoa n).length ≤ 11 := by
  obtain ⟨h1, h2⟩ := h
  unfold Lib.itoa
  split
  · have := nDig 9 n.natAbs (by omega)
    rw [List.length_cons, Lib.decDigits_length]; omega
  · have := nDig 9 n.toNat (by omega)
    rw [Lib.decDigits_length]; omega
theorem byte_dg {n : Int} (h0 : 0 ≤ n) (h1 : n < 10) : bytes8 [Go.IntKind.wrap .u8 (w64 (48 + n))] = [UInt8.ofNat (48 + n.toNat)] := by
  have : n = 0 ∨ n = 1 ∨ n = 2 ∨ n = 3 ∨ n = 4 ∨ n = 5 ∨ n = 6 ∨ n = 7 ∨ n = 8 ∨ n = 9 := by omega
  rcases this with rfl | rfl | rfl | rfl | rfl | rfl | rfl | rfl | rfl | rfl <;> rfl
theorem p_spec_l1Dec (L : Int → Option (List UInt8)) (j : Nat) (hL : ∀ a, mu_spec_l1Dec a < j → pre_spec_l1Dec a → L a = some (s_spec_l1Dec a)) (a0 : Int) (h : pre_spec_l1Dec a0) (hj : mu_spec_l1Dec a0 < j + 1) :
    ∃ N, spec_l1Dec_f L N a0 = some (s_spec_l1Dec a0) := by
  refine ⟨0, ?_⟩
  have h' : -9999999999 ≤ a0 ∧ a0 ≤ 9999999999 := h
  unfold spec_l1Dec_f
  by_cases c : a0 < 0
  · have hq : dOk (0 - a0) := ⟨by omega, by omega⟩
    have hm : mu_spec_l1Dec (0 - a0) < j := by
      unfold mu_spec_l1Dec at hj ⊢
      rw [if_pos c] at hj; rw [if_neg (by omega)]; omega
    have hlen := itoa_len hq
    rw [if_pos c, w64_in (by omega), hL _ hm hq]
    simp only [Option.bind_some, s_spec_l1Dec]
    rw [if_pos (by unfold roomS; omega)]
    unfold Lib.itoa
    rw [if_pos c, if_neg (by omega), show (0 - a0).toNat = a0.natAbs by omega]
  · rw [if_neg c]
    by_cases c1 : a0 < 10
    · rw [if_pos c1, byte_dg (by omega) c1]
      unfold s_spec_l1Dec Lib.itoa
      rw [if_neg c, Lib.decDigits_one (by omega)]
    · have e1 : Int.tdiv a0 10 = a0 / 10 := Int.tdiv_eq_ediv_of_nonneg (by omega)
      have e2 : Int.tmod a0 10 = a0 % 10 := Int.tmod_eq_emod_of_nonneg (by omega)
      have hq : dOk (a0 / 10) := ⟨by omega, by omega⟩
      have hm : mu_spec_l1Dec (a0 / 10) < j := by
        unfold mu_spec_l1Dec at hj ⊢
        rw [if_neg c] at hj; rw [if_neg (by omega)]; omega
      have hlen := itoa_len hq
      rw [if_neg c1, e1, e2, w64_in (n := a0 / 10) (by omega), hL _ hm hq]
      simp only [Option.bind_some, s_spec_l1Dec]
      rw [byte_dg (by omega) (by omega), if_pos (by unfold roomS; simp only [List.length_append, List.length_cons, List.length_nil]; omega)]
      unfold Lib.itoa
      have e3 : Lib.decDigits a0.toNat = Lib.decDigits (a0.toNat / 10) ++ [UInt8.ofNat (48 + a0.toNat % 10)] := by rw [Lib.decDigits, dif_neg (by omega)]
      rw [if_neg (by omega), if_neg c, e3, show (a0 / 10).toNat = a0.toNat / 10 by omega, show (a0 % 10).toNat = a0.toNat % 10 by omega]
def pre_spec_l6Word (k c : Int) : Prop := vOk k c = true
def word (k c : Int) : List UInt8 :=
  if k = 3 then [101, 114, 114, 111, 114, 32] ++ Lib.itoa c else if k = 1 then [112, 97, 115, 115] else if k = 2 then [102, 97, 105, 108] else if k = 4 then [102, 117, 101, 108] else [99, 101, 108, 108, 115]
def s_spec_l6Word (k c : Int) : List UInt8 := word k c
theorem vOk_in {k c : Int} (h : vOk k c = true) : 1 ≤ k ∧ k ≤ 5 ∧ 0 ≤ c ∧ c ≤ 99 := by
  unfold vOk at h
  split at h
  · simp at h; omega
  · simp at h; omega
theorem p_spec_l6Word (L : Int → Option (List UInt8)) (hL : ∀ a, pre_spec_l1Dec a → L a = some (s_spec_l1Dec a)) (k c : Int) (h : pre_spec_l6Word k c) : ∃ N, spec_l6Word_f L N k c = some (s_spec_l6Word k c) := by
  refine ⟨0, ?_⟩
  obtain ⟨g1, g2, g3, g4⟩ := vOk_in h
  have hd : dOk c := ⟨by omega, by omega⟩
  have hlen := itoa_len hd
  unfold spec_l6Word_f s_spec_l6Word word
  by_cases k3 : k = 3
  · rw [if_pos k3, if_pos k3, hL _ hd]
    simp only [Option.bind_some, s_spec_l1Dec]
    rw [if_pos (by unfold roomS; omega)]; rfl
  · have : k = 1 ∨ k = 2 ∨ k = 4 ∨ k = 5 := by omega
    rcases this with rfl | rfl | rfl | rfl <;> rfl
def pre_spec_l2Bool (b : Bool) : Prop := True
def s_spec_l2Bool (b : Bool) : Int := if b = true then 1 else 0
theorem p_spec_l2Bool (b : Bool) (h : pre_spec_l2Bool b) : ∃ N, spec_l2Bool_f N b = some (s_spec_l2Bool b) := by
  refine ⟨0, ?_⟩
  unfold spec_l2Bool_f s_spec_l2Bool
  cases b <;> rfl
theorem word_len {k c : Int} (h : vOk k c = true) : (word k c).length ≤ 17 := by
  have h' := vOk_in h
  have := itoa_len (n := c) ⟨by omega, by omega⟩
  unfold word
  split
  · rw [List.length_append]; simp; omega
  · split
    · simp
    · split
      · simp
      · split <;> simp
def oneP (k : Int) : Int := if k = 1 then 1 else 0
def lineOf (i : Nat) (v : TVerdict) : List UInt8 := [116, 101, 115, 116, 32] ++ (Lib.itoa ((i + 1 : Nat) : Int) ++ ([32] ++ (word v.Kind v.Code ++ [10])))
def rest (n : Nat) : Nat → Int → List TVerdict → List UInt8
  | _, p, [] => [112, 97, 115, 115, 101, 100, 32] ++ (Lib.itoa p ++ ([32, 111, 102, 32] ++ (Lib.itoa (n : Int) ++ [10])))
  | i, p, v :: r => lineOf i v ++ rest n (i + 1) (p + oneP v.Kind) r
def report (id : List UInt8) (vs : List TVerdict) : List UInt8 × Bool :=
  if idOkB id && vsOk vs then ([115, 116, 117, 100, 101, 110, 116, 32] ++ (id ++ [10]) ++ rest vs.length 0 0 vs, true) else ([], false)
section
variable (L1 : List UInt8 → Option Bool) (h1 : ∀ l, pre_spec_l6IdOk l → L1 l = some (s_spec_l6IdOk l)) (L2 : List TVerdict → Option Bool) (h2 : ∀ l, pre_spec_l6VerdictsOk l → L2 l = some (s_spec_l6VerdictsOk l))
  (L3 : Int → Option (List UInt8)) (h3 : ∀ a, pre_spec_l1Dec a → L3 a = some (s_spec_l1Dec a)) (L4 : Int → Int → Option (List UInt8)) (h4 : ∀ k c, pre_spec_l6Word k c → L4 k c = some (s_spec_l6Word k c))
  (L5 : Bool → Option Int) (h5 : ∀ b, pre_spec_l2Bool b → L5 b = some (s_spec_l2Bool b))
include h1 h2 h3 h4 h5
theorem l_specReport (l : List TVerdict) (hl : l.length ≤ 20) (hv : ∀ v ∈ l, vOk v.Kind v.Code = true) : ∀ (r : List TVerdict) (j e : Nat) (acc : List UInt8) (p : Int), l.drop j = r → acc.length ≤ 1000 + 100 * j → 0 ≤ p → p ≤ j → j ≤ l.length →
    spec_Report_l0 L1 L2 L3 L4 L5 (r.length + 1 + e) l acc p j = some (acc ++ rest l.length j p r, true)
  | [], j, e, acc, p, hd, ha, hp, hpj, hjl => by
    have hdp : dOk p := ⟨by omega, by omega⟩
    have hdn : dOk (l.length : Int) := ⟨by omega, by omega⟩
    have e1 := itoa_len hdp
    have e2 := itoa_len hdn
    rw [List.length_nil, fuel0]
    simp only [spec_Report_l0]
    rw [if_neg (at_nil hd), if_pos (by unfold roomS; simp only [List.length_append, List.length_cons, List.length_nil]; omega), h3 _ hdp]
    simp only [Option.bind_some, s_spec_l1Dec]
    rw [if_pos (by unfold roomS; simp only [List.length_append, List.length_cons, List.length_nil]; omega), if_pos (by unfold roomS; simp only [List.length_append, List.length_cons, List.length_nil]; omega), h3 _ hdn]
    simp only [Option.bind_some, s_spec_l1Dec]
    rw [if_pos (by unfold roomS; simp only [List.length_append, List.length_cons, List.length_nil]; omega), if_pos (by unfold roomS; simp only [List.length_append, List.length_cons, List.length_nil]; omega)]
    simp only [rest, List.append_assoc]
  | v :: r, j, e, acc, p, hd, ha, hp, hpj, hjl => by
    obtain ⟨g1, g2, g3, g4, g5, g6⟩ := at_cons hd
    have hvv : vOk v.Kind v.Code = true := hv v (List.mem_of_getElem? g4)
    have hdj : dOk ((j + 1 : Nat) : Int) := ⟨by omega, by omega⟩
    have e1 := itoa_len hdj
    have e2 := word_len hvv
    have eo : s_spec_l2Bool (decide (v.Kind = 1)) = oneP v.Kind := by unfold s_spec_l2Bool oneP; by_cases c : v.Kind = 1 <;> simp [c]
    have eb : 0 ≤ oneP v.Kind ∧ oneP v.Kind ≤ 1 := by unfold oneP; split <;> omega
    rw [List.length_cons, fuel]
    simp only [spec_Report_l0]
    rw [if_pos g2, if_pos (by unfold roomS; simp only [List.length_append, List.length_cons, List.length_nil]; omega), g3]
    simp only [Option.bind_some]
    rw [succ_w g1 (by rw [big_eq]; omega), h3 _ hdj]
    simp only [Option.bind_some, s_spec_l1Dec]
    rw [if_pos (by unfold roomS; simp only [List.length_append, List.length_cons, List.length_nil]; omega), if_pos (by unfold roomS; simp only [List.length_append, List.length_cons, List.length_nil]; omega), h4 _ _ hvv]
    simp only [Option.bind_some, s_spec_l6Word]
    rw [if_pos (by unfold roomS; simp only [List.length_append, List.length_cons, List.length_nil]; omega), if_pos (by unfold roomS; simp only [List.length_append, List.length_cons, List.length_nil]; omega), h5 _ trivial]
    simp only [Option.bind_some]
    rw [eo, w64_in (by omega), l_specReport l hl hv r (j + 1) e _ _ g5 (by simp only [List.length_append, List.length_cons, List.length_nil]; omega) (by omega) (by omega) (by omega)]
    simp only [rest, lineOf, List.append_assoc]
def pre_spec_Report (id : List UInt8) (vs : List TVerdict) : Prop := id.length ≤ 1048576 ∧ few vs
def s_spec_Report (id : List UInt8) (vs : List TVerdict) : List UInt8 × Bool := report id vs
theorem p_spec_Report (id : List UInt8) (vs : List TVerdict) (h : pre_spec_Report id vs) : ∃ N, spec_Report_f L1 L2 L3 L4 L5 N id vs = some (s_spec_Report id vs) := by
  refine ⟨vs.length + 1, ?_⟩
  obtain ⟨k1, k2⟩ := h
  unfold spec_Report_f s_spec_Report report
  rw [h1 _ (show id.length ≤ big by rw [big_eq]; omega)]
  simp only [Option.bind_some, s_spec_l6IdOk]
  by_cases c : idOkB id = true
  · rw [c, if_neg (by simp), h2 _ k2]
    simp only [Option.bind_some, s_spec_l6VerdictsOk]
    by_cases c' : vsOk vs = true
    · have c2 := c'
      simp only [vsOk, Bool.and_eq_true, decide_eq_true_eq, List.all_eq_true] at c2
      have c1 := c
      simp only [idOkB, Bool.and_eq_true, decide_eq_true_eq] at c1
      rw [c', if_neg (by simp), if_pos (by unfold roomS; omega), if_pos (by unfold roomS; rw [List.length_append]; simp; omega)]
      refine (l_specReport L1 h1 L2 h2 L3 h3 L4 h4 L5 h5 vs c2.1 c2.2 vs 0 0 _ 0 rfl (by simp; omega) (by omega) (by omega) (by omega)).trans ?_
      simp
    · have c2 : vsOk vs = false := by simpa using c'
      rw [c2]; simp
  · have c1 : idOkB id = false := by simpa using c
    rw [c1]; simp
end
def pre_spec_DrawReadReport (c : List Int) : Prop := pre_spec_l1Open c
def midW (m : Int) : List UInt8 := if m = 0 then [] else if m = 1 then [32] else if m = 2 then [10] else if m = 3 then [48] else [120]
def cutQ (s : List UInt8) (q m : Int) : List UInt8 := s.take q.toNat ++ midW m ++ s.drop (q + if q < s.length then 1 else 0).toNat
def dRd (c : List Int) : List UInt8 :=
  let b := c.take 1000
  let k := nx b 0
  let V := vsOf b (npx b (npx b 0))
  let s := (report (idOf (nx b (npx b 0))) V.1).1
  if k.tmod 3 = 2 then cutQ s ((nx b V.2).tmod (s.length + 1)) ((k.tdiv 3).tmod 5) else s
def s_spec_DrawReadReport (c : List Int) : List UInt8 := dRd c
theorem cut_tail {α : Type} {s : List α} {a : Nat} (h : a ≤ s.length) : cut s (a : Int) (s.length : Int) = some (s.drop a) := by
  rw [cut_mid h (Nat.le_refl _), List.take_of_length_le (by rw [List.length_drop]; omega)]
theorem open_rdOk {c : List Int} (h : pre_spec_l1Open c) : rdOk (c.take 1000) 0 := ⟨⟨by rw [List.length_take]; omega, fun x hx => h.2 x (List.mem_of_mem_take hx)⟩, by omega⟩
theorem idOf_len (k : Int) : (idOf k).length ≤ 21 := by
  unfold idOf idX idM idS
  repeat' split
  all_goals decide
theorem drw_len (b : List Int) : ∀ (n : Nat) (p : Int) (acc : List TVerdict), (drw b n p acc).1.length = acc.length + n
  | 0, _, _ => rfl
  | n + 1, p, acc => by unfold drw; rw [drw_len b n]; simp; omega
theorem vsOf_few {b : List Int} {p : Int} (h : rdOk b p) : few (vsOf b p).1 := by
  have hk := nx_in h
  have h6 := tmx 6 hk.1 (by omega)
  have hl := drw_len b ((nx b p).tmod 6).toNat (npx b p) []
  have hu := (upto_in _ hk).2
  unfold few vsOf fillV oddV
  simp only [List.length_nil] at hl
  split <;> split <;> simp <;> omega
theorem drw_rd {b : List Int} : ∀ (n : Nat) (p : Int) (acc : List TVerdict), rdOk b p → rdOk b (drw b n p acc).2
  | 0, _, _, h => h
  | n + 1, p, acc, h => by unfold drw; exact drw_rd n _ _ (np_rd h)
theorem vsOf_rd {b : List Int} {p : Int} (h : rdOk b p) : rdOk b (vsOf b p).2 := drw_rd _ _ _ (np_rd h)
def st8 : List UInt8 := [115, 116, 117, 100, 101, 110, 116, 32]
def txt (id : List UInt8) (vs : List TVerdict) : List UInt8 := st8 ++ (id ++ [10]) ++ rest vs.length 0 0 vs
theorem report_eq {id : List UInt8} {vs : List TVerdict} (h : (idOkB id && vsOk vs) = true) : report id vs = (txt id vs, true) := by unfold report; rw [if_pos h]; rfl
theorem report_no {id : List UInt8} {vs : List TVerdict} (h : ¬ (idOkB id && vsOk vs) = true) : report id vs = ([], false) := by unfold report; rw [if_neg h]
def tl (i : Nat) (v : TVerdict) : List UInt8 := [116, 101, 115, 116, 32] ++ (Lib.itoa ((i + 1 : Nat) : Int) ++ ([32] ++ word v.Kind v.Code))
theorem tl_len {i : Nat} {v : TVerdict} (hi : i ≤ 20) (h : vOk v.Kind v.Code = true) : (tl i v).length ≤ 40 := by
  have h1 := itoa_len (n := ((i + 1 : Nat) : Int)) ⟨by omega, by omega⟩
  have h2 := word_len h
  unfold tl
  simp only [List.length_append, List.length_cons, List.length_nil]; omega
theorem rest_len (n : Nat) (hn : n ≤ 20) : ∀ (vs : List TVerdict) (i : Nat) (p : Int), i + vs.length ≤ 20 → 0 ≤ p → p ≤ i → (∀ v ∈ vs, vOk v.Kind v.Code = true) → (rest n i p vs).length ≤ 40 + 41 * vs.length
  | [], i, p, hi, h0, h1, _ => by
    have e1 := itoa_len (n := p) ⟨by omega, by omega⟩
    have e2 := itoa_len (n := (n : Int)) ⟨by omega, by omega⟩
    simp only [List.length_nil] at hi
    simp only [rest, List.length_append, List.length_cons, List.length_nil]; omega
  | v :: r, i, p, hi, h0, h1, hv => by
    have eb : 0 ≤ oneP v.Kind ∧ oneP v.Kind ≤ 1 := by unfold oneP; split <;> omega
    rw [List.length_cons] at hi
    have ih := rest_len n hn r (i + 1) (p + oneP v.Kind) (by omega) (by omega) (by omega) (fun x hx => hv x (by simp [hx]))
    have h2 := tl_len (i := i) (by omega) (hv v (by simp))
    have e : rest n i p (v :: r) = tl i v ++ ([10] ++ rest n (i + 1) (p + oneP v.Kind) r) := by simp [rest, lineOf, tl]
    rw [e]
    simp only [List.length_append, List.length_cons, List.length_nil]; omega
theorem txt_len {id : List UInt8} {vs : List TVerdict} (h : idOkB id = true) (h' : vsOk vs = true) : (txt id vs).length ≤ 2000 := by
  simp only [idOkB, Bool.and_eq_true, decide_eq_true_eq] at h
  simp only [vsOk, Bool.and_eq_true, decide_eq_true_eq, List.all_eq_true] at h'
  have := rest_len vs.length h'.1 vs 0 0 (by omega) (by omega) (by omega) h'.2
  unfold txt st8
  simp only [List.length_append, List.length_cons, List.length_nil]; omega
theorem report_len (id : List UInt8) (vs : List TVerdict) : (report id vs).1.length ≤ 2000 := by
  by_cases c : (idOkB id && vsOk vs) = true
  · rw [report_eq c]
    rw [Bool.and_eq_true] at c
    exact txt_len c.1 c.2
  · rw [report_no c]; decide
theorem p_spec_DrawReadReport (L1 : List Int → Option (List Int × Int)) (h1 : ∀ c, pre_spec_l1Open c → L1 c = some (s_spec_l1Open c))
    (L0 : List Int → Int → Option (Int × List Int × Int)) (h0 : ∀ b p, pre___spec_l1Rd__next b p → L0 b p = some (s___spec_l1Rd__next b p))
    (L2 : List Int → Int → Option (List UInt8 × List Int × Int)) (h2 : ∀ b p, pre_spec_l6Id b p → L2 b p = some (s_spec_l6Id b p))
    (L3 : List Int → Int → Option (List TVerdict × List Int × Int)) (h3 : ∀ b p, pre_spec_l6Verdicts b p → L3 b p = some (s_spec_l6Verdicts b p))
    (L4 : List UInt8 → List TVerdict → Option (List UInt8 × Bool)) (h4 : ∀ a b, pre_spec_Report a b → L4 a b = some (s_spec_Report a b))
    (L5 : Bool → Option Int) (h5 : ∀ b, pre_spec_l2Bool b → L5 b = some (s_spec_l2Bool b)) (c : List Int) (h : pre_spec_DrawReadReport c) :
    ∃ N, spec_DrawReadReport_f L1 L0 L2 L3 L4 L5 N c = some (s_spec_DrawReadReport c) := by
  refine ⟨0, ?_⟩
  have hr := open_rdOk h
  have hr1 := np_rd hr
  have hr2 := np_rd hr1
  have hr3 := vsOf_rd hr2
  have hf := vsOf_few hr2
  unfold spec_DrawReadReport_f s_spec_DrawReadReport dRd
  rw [h1 c h]
  simp only [Option.bind_some, s_spec_l1Open]
  rw [h0 _ _ hr]
  simp only [Option.bind_some, s___spec_l1Rd__next]
  rw [h2 _ _ hr1]
  simp only [Option.bind_some, s_spec_l6Id]
  rw [h3 _ _ hr2]
  simp only [Option.bind_some, s_spec_l6Verdicts]
  have hid := idOf_len (nx (c.take 1000) (npx (c.take 1000) 0))
  rw [h4 _ _ ⟨by omega, hf⟩]
  simp only [Option.bind_some, s_spec_Report]
  have hs := report_len (idOf (nx (c.take 1000) (npx (c.take 1000) 0))) (vsOf (c.take 1000) (npx (c.take 1000) (npx (c.take 1000) 0))).1
  generalize (report (idOf (nx (c.take 1000) (npx (c.take 1000) 0))) (vsOf (c.take 1000) (npx (c.take 1000) (npx (c.take 1000) 0))).1).1 = s at hs ⊢
  have hk := nx_in hr
  generalize nx (c.take 1000) 0 = k at hk ⊢
  by_cases c3 : k.tmod 3 = 2
  · rw [if_pos c3, if_pos c3, h0 _ _ hr3]
    simp only [Option.bind_some, s___spec_l1Rd__next]
    have hm := nx_in hr3
    generalize nx (c.take 1000) (vsOf (c.take 1000) (npx (c.take 1000) (npx (c.take 1000) 0))).2 = m at hm ⊢
    rw [w64_in (n := (s.length : Int) + 1) (by omega), if_neg (by omega)]
    have hq := tmx (k := m) ((s.length : Int) + 1) hm.1 (by omega)
    generalize m.tmod ((s.length : Int) + 1) = q at hq ⊢
    obtain ⟨j, rfl⟩ : ∃ j : Nat, q = j := ⟨q.toNat, by omega⟩
    rw [cut_head (s := s) (b := j) (by omega)]
    simp only [Option.bind_some]
    have hd0 : 0 ≤ k.tdiv 3 := Int.tdiv_nonneg hk.1 (by omega)
    have hd1 : k.tdiv 3 ≤ k := Int.tdiv_le_self _ hk.1
    rw [w64_in (n := k.tdiv 3) (by omega)]
    have h55 := tmx (k := k.tdiv 3) 5 hd0 (by omega)
    rw [if_pos h55]
    generalize (k.tdiv 3).tmod 5 = i at h55 ⊢
    rw [Int.mul_zero, w64_in (n := 0) (by omega), Int.add_zero, w64_in (n := (j : Int)) (by omega)]
    rw [h5 _ trivial]
    simp only [Option.bind_some, s_spec_l2Bool, decide_eq_true_eq]
    have hroom : ∀ n : Nat, n ≤ 100000 → roomS n := fun n hn => by unfold roomS; omega
    have ht : (s.take j).length ≤ s.length := by rw [List.length_take]; omega
    have hdl : ∀ n, (s.drop n).length ≤ s.length := fun n => by rw [List.length_drop]; omega
    have hcut : cut s (w64 ((j : Int) + if (j : Int) < s.length then 1 else 0)) (s.length : Int) = some (s.drop ((j : Int) + if (j : Int) < s.length then 1 else 0).toNat) := by
      by_cases cj : (j : Int) < s.length
      · rw [if_pos cj, w64_in (by omega)]
        rw [show (j : Int) + 1 = ((j + 1 : Nat) : Int) by omega, cut_tail (by omega), Int.toNat_natCast]
      · rw [if_neg cj, Int.add_zero, w64_in (by omega), cut_tail (by omega), Int.toNat_natCast]
    rw [hcut]
    simp only [Option.bind_some]
    have hdn := hdl ((j : Int) + if (j : Int) < s.length then 1 else 0).toNat
    unfold cutQ
    rw [Int.toNat_natCast]
    generalize (s.drop ((j : Int) + if (j : Int) < s.length then 1 else 0).toNat) = z at hdn ⊢
    generalize s.take j = y at ht ⊢
    obtain rfl | rfl | rfl | rfl | rfl : i = 0 ∨ i = 1 ∨ i = 2 ∨ i = 3 ∨ i = 4 := by omega
    · rw [if_pos (show Int.toNat 0 = 0 by decide), if_pos (hroom _ (by omega)), if_pos (hroom _ (by simp; omega))]
      show some (y ++ z) = some (y ++ [] ++ z); rw [List.append_nil]
    · rw [if_neg (show ¬ Int.toNat 1 = 0 by decide), if_pos (show Int.toNat 1 = 1 by decide), if_pos (hroom _ (by simp; omega)), if_pos (hroom _ (by simp; omega))]
      rfl
    · rw [if_neg (show ¬ Int.toNat 2 = 0 by decide), if_neg (show ¬ Int.toNat 2 = 1 by decide), if_pos (show Int.toNat 2 = 2 by decide), if_pos (hroom _ (by simp; omega)), if_pos (hroom _ (by simp; omega))]
      rfl
    · rw [if_neg (show ¬ Int.toNat 3 = 0 by decide), if_neg (show ¬ Int.toNat 3 = 1 by decide), if_neg (show ¬ Int.toNat 3 = 2 by decide), if_pos (show Int.toNat 3 = 3 by decide), if_pos (hroom _ (by simp; omega)), if_pos (hroom _ (by simp; omega))]
      rfl
    · rw [if_neg (show ¬ Int.toNat 4 = 0 by decide), if_neg (show ¬ Int.toNat 4 = 1 by decide), if_neg (show ¬ Int.toNat 4 = 2 by decide), if_neg (show ¬ Int.toNat 4 = 3 by decide), if_pos (show Int.toNat 4 = 4 by decide), if_pos (hroom _ (by simp; omega)), if_pos (hroom _ (by simp; omega))]
      rfl
  · rw [if_neg c3, if_neg c3]
def pre_spec_l1Cut (s : List UInt8) (c : Int) : Prop := s.length ≤ 1048576
/-- a text in pieces, at each byte c -/
def pcs (c : Int) : List UInt8 → List UInt8 → List (List UInt8)
  | cur, [] => [cur]
  | cur, b :: r => if (b.toNat : Int) = c then cur :: pcs c [] r else pcs c (cur ++ [b]) r
def s_spec_l1Cut (s : List UInt8) (c : Int) : List (List UInt8) := pcs c [] s
theorem l_l1Cut (s : List UInt8) (c : Int) (hs : s.length ≤ 1048576) : ∀ (r : List UInt8) (f i e : Nat) (out : List (List UInt8)), s.drop i = r → f ≤ i → i ≤ s.length → out.length ≤ i →
    spec_l1Cut_l0 (r.length + 2 + e) s c f i out = some (out ++ pcs c ((s.drop f).take (i - f)) r)
  | [], f, i, e, out, hd, hf, hi, ho => by
    have hn := at_nil hd
    have hi' : i = s.length := by omega
    rw [show ([] : List UInt8).length + 2 + e = (e + 1) + 1 by simp; omega]
    simp only [spec_l1Cut_l0]
    rw [if_pos (by omega), if_pos (by omega)]
    have hc : cut s (f : Int) (i : Int) = some ((s.drop f).take (i - f)) := by
      unfold cut
      rw [if_pos (by omega), Int.toNat_natCast, show ((i : Int) - (f : Int)).toNat = i - f by omega]
    rw [hc]
    simp only [Option.bind_some]
    rw [if_pos (by unfold room roomB; simp only [List.length_append, List.length_cons, List.length_nil]; omega), w64_in (by omega), if_neg (by omega)]
    rfl
  | b :: r, f, i, e, out, hd, hf, hi, ho => by
    obtain ⟨g1, g2, g3, g4, g5, g6⟩ := at_cons hd
    rw [show (b :: r).length + 2 + e = (r.length + 2 + e) + 1 by simp; omega]
    simp only [spec_l1Cut_l0]
    rw [if_pos (by omega), if_neg (by omega), idxB_some g3]
    simp only [Option.bind_some, pcs]
    have hc : cut s (f : Int) (i : Int) = some ((s.drop f).take (i - f)) := by
      unfold cut
      rw [if_pos (by omega), Int.toNat_natCast, show ((i : Int) - (f : Int)).toNat = i - f by omega]
    have hw : w64 ((i : Int) + 1) = ((i + 1 : Nat) : Int) := succ_w g1 (by rw [big_eq]; omega)
    by_cases h : (b.toNat : Int) = c
    · rw [if_pos h, if_pos h, hc]
      simp only [Option.bind_some]
      rw [if_pos (by unfold room roomB; simp only [List.length_append, List.length_cons, List.length_nil]; omega), hw,
        l_l1Cut s c hs r (i + 1) (i + 1) e _ g5 (Nat.le_refl _) (by omega) (by simp only [List.length_append, List.length_cons, List.length_nil]; omega)]
      simp
    · rw [if_neg h, if_neg h, hw, l_l1Cut s c hs r f (i + 1) e _ g5 (by omega) (by omega) (by omega)]
      congr 3
      rw [show i + 1 - f = (i - f) + 1 by omega, List.take_add_one, List.getElem?_drop, show f + (i - f) = i by omega, g4]
      rfl
theorem p_spec_l1Cut (s : List UInt8) (c : Int) (h : pre_spec_l1Cut s c) : ∃ N, spec_l1Cut_f N s c = some (s_spec_l1Cut s c) := by
  refine ⟨s.length + 2, ?_⟩
  have := l_l1Cut s c h s 0 0 0 [] rfl (Nat.le_refl _) (Nat.zero_le _) (Nat.zero_le _)
  simpa [spec_l1Cut_f, s_spec_l1Cut] using this
def pre_spec_l6After (s h : List UInt8) : Prop := s.length ≤ big
def after (s h : List UInt8) : List UInt8 := if s.length < h.length then [] else if s.take h.length = h then s.drop h.length else []
def s_spec_l6After (s h : List UInt8) : List UInt8 := after s h
theorem p_spec_l6After (s h : List UInt8) (q : pre_spec_l6After s h) : ∃ N, spec_l6After_f N s h = some (s_spec_l6After s h) := by
  refine ⟨0, ?_⟩
  unfold spec_l6After_f s_spec_l6After after
  by_cases c : s.length < h.length
  · rw [if_pos (by omega), if_pos c]
  · rw [if_neg (by omega), if_neg c, cut_head (by omega), cut_tail (by omega)]
    simp only [Option.bind_some]
    split <;> rfl
def pre_spec_l6Verdict (s : List UInt8) : Prop := True
def codeV (s : List UInt8) : Nat → Int → Int × Int
  | 0, _ => (0, 0)
  | m + 1, c => if s = word 3 c then (3, c) else codeV s m (c + 1)
def wordV (s : List UInt8) : Int × Int := if s = word 1 0 then (1, 0) else if s = word 2 0 then (2, 0) else if s = word 4 0 then (4, 0) else if s = word 5 0 then (5, 0) else codeV s 99 1
def s_spec_l6Verdict (s : List UInt8) : Int × Int := wordV s
section
variable (L : Int → Int → Option (List UInt8)) (hL : ∀ k c, pre_spec_l6Word k c → L k c = some (s_spec_l6Word k c))
include hL
theorem l_codeV (s : List UInt8) (a b : Int) : ∀ (m e : Nat) (c : Int), 1 ≤ c → c + m = 100 → spec_l6Verdict_l1 L (m + 1 + e) s c a b = some (codeV s m c)
  | 0, e, c, h0, h1 => by
    rw [show 0 + 1 + e = e + 1 by omega]
    simp only [spec_l6Verdict_l1]
    rw [if_neg (by omega)]; rfl
  | m + 1, e, c, h0, h1 => by
    rw [show m + 1 + 1 + e = (m + 1 + e) + 1 by omega]
    simp only [spec_l6Verdict_l1]
    rw [if_pos (by omega), hL 3 c (by show vOk 3 c = true; unfold vOk; rw [if_pos rfl]; simp; omega)]
    simp only [Option.bind_some, s_spec_l6Word, codeV]
    by_cases q : s = word 3 c
    · rw [if_pos q, if_pos q]
    · rw [if_neg q, if_neg q, w64_in (by omega)]
      exact l_codeV s a b m e (c + 1) (by omega) (by omega)
theorem p_spec_l6Verdict (s : List UInt8) (h : pre_spec_l6Verdict s) : ∃ N, spec_l6Verdict_f L N s = some (s_spec_l6Verdict s) := by
  refine ⟨100, ?_⟩
  have k1 := hL 1 0 (show vOk 1 0 = true by decide)
  have k2 := hL 2 0 (show vOk 2 0 = true by decide)
  have k4 := hL 4 0 (show vOk 4 0 = true by decide)
  have k5 := hL 5 0 (show vOk 5 0 = true by decide)
  have hc := l_codeV L hL s 0 0 99 0 1 (by omega) (by omega)
  unfold spec_l6Verdict_f s_spec_l6Verdict wordV
  have w1 : w64 (1 + 1) = 2 := w64_in (by omega)
  have w2 : w64 (2 + 1) = 3 := w64_in (by omega)
  have w3 : w64 (3 + 1) = 4 := w64_in (by omega)
  have w4 : w64 (4 + 1) = 5 := w64_in (by omega)
  have w5 : w64 (5 + 1) = 6 := w64_in (by omega)
  rw [spec_l6Verdict_l0, if_pos (by omega), if_neg (by omega), k1]
  simp only [Option.bind_some, s_spec_l6Word]
  by_cases c1 : s = word 1 0
  · rw [if_pos c1, if_pos c1]
  rw [if_neg c1, if_neg c1, w1, spec_l6Verdict_l0, if_pos (by omega), if_neg (by omega), k2]
  simp only [Option.bind_some, s_spec_l6Word]
  by_cases c2 : s = word 2 0
  · rw [if_pos c2, if_pos c2]
  rw [if_neg c2, if_neg c2, w2, spec_l6Verdict_l0, if_pos (by omega), if_pos rfl, w3, spec_l6Verdict_l0, if_pos (by omega), if_neg (by omega), k4]
  simp only [Option.bind_some, s_spec_l6Word]
  by_cases c4 : s = word 4 0
  · rw [if_pos c4, if_pos c4]
  rw [if_neg c4, if_neg c4, w4, spec_l6Verdict_l0, if_pos (by omega), if_neg (by omega), k5]
  simp only [Option.bind_some, s_spec_l6Word]
  by_cases c5 : s = word 5 0
  · rw [if_pos c5, if_pos c5]
  rw [if_neg c5, if_neg c5, w5, spec_l6Verdict_l0, if_neg (by omega)]
  exact hc
end
theorem pcs_len (c : Int) : ∀ (r cur : List UInt8), (pcs c cur r).length ≤ r.length + 1
  | [], cur => by simp [pcs]
  | b :: r, cur => by
    simp only [pcs]
    split
    · rw [List.length_cons, List.length_cons]; have := pcs_len c r []; omega
    · rw [List.length_cons]; have := pcs_len c r (cur ++ [b]); omega
theorem pcs_each (c : Int) : ∀ (r cur : List UInt8), ∀ x ∈ pcs c cur r, x.length ≤ cur.length + r.length
  | [], cur, x, hx => by simp only [pcs, List.mem_singleton] at hx; subst hx; simp
  | b :: r, cur, x, hx => by
    simp only [pcs] at hx
    split at hx
    · rcases List.mem_cons.1 hx with rfl | hx
      · simp
      · have := pcs_each c r [] x hx; simp only [List.length_nil, List.length_cons] at this ⊢; omega
    · have := pcs_each c r (cur ++ [b]) x hx
      simp only [List.length_append, List.length_cons, List.length_nil] at this ⊢; omega
theorem after_len (s h : List UInt8) : (after s h).length ≤ s.length := by
  unfold after
  split
  · simp
  · split
    · rw [List.length_drop]; omega
    · simp
def preT (i : Nat) : List UInt8 := [116, 101, 115, 116, 32] ++ (Lib.itoa (i : Int) ++ [32])
def mkV (p : Int × Int) : TVerdict := ⟨p.1, p.2⟩
def sV : Nat → List (List UInt8) → List TVerdict
  | i, a :: b :: c :: r => mkV (wordV (after a (preT i))) :: sV (i + 1) (b :: c :: r)
  | _, _ => []
def finR (t id : List UInt8) (vs : List TVerdict) : List UInt8 × List TVerdict × Bool := if (report id vs).2 = true ∧ (report id vs).1 = t then (id, vs, true) else ([], [], false)
def readS (t : List UInt8) : List UInt8 × List TVerdict × Bool :=
  if 2000 < t.length then ([], [], false) else
  match pcs 10 [] t with
  | a :: b :: c :: r => finR t (after a st8) (sV 1 (b :: c :: r))
  | _ => ([], [], false)
section
variable (L1 : List UInt8 → Int → Option (List (List UInt8))) (h1 : ∀ s c, pre_spec_l1Cut s c → L1 s c = some (s_spec_l1Cut s c)) (L2 : List UInt8 → List UInt8 → Option (List UInt8)) (h2 : ∀ s h, pre_spec_l6After s h → L2 s h = some (s_spec_l6After s h))
  (L3 : Int → Option (List UInt8)) (h3 : ∀ a, pre_spec_l1Dec a → L3 a = some (s_spec_l1Dec a)) (L4 : List UInt8 → Option (Int × Int)) (h4 : ∀ s, pre_spec_l6Verdict s → L4 s = some (s_spec_l6Verdict s))
  (L5 : List UInt8 → List TVerdict → Option (List UInt8 × Bool)) (h5 : ∀ s d, pre_spec_Report s d → L5 s d = some (s_spec_Report s d))
include h1 h2 h3 h4 h5
theorem l_readS (t id : List UInt8) (hid : id.length ≤ 2000) (l : List (List UInt8)) (hl : l.length ≤ 2001) (he : ∀ w ∈ l, w.length ≤ 2000) : ∀ (r : List (List UInt8)) (i e : Nat) (acc : List TVerdict), l.drop i = r → i ≤ l.length → acc.length ≤ i →
    spec_ReadReport_l0 L1 L2 L3 L4 L5 (r.length + 1 + e) t id i [] l acc = some (finR t id (acc ++ sV i r)) := by
  have fin : ∀ (i e : Nat) (acc : List TVerdict), acc.length ≤ 2001 → ¬ i + 2 < l.length → i ≤ 2001 → spec_ReadReport_l0 L1 L2 L3 L4 L5 (e + 1) t id i [] l acc = some (finR t id acc) := by
    intro i e acc ha hn hi
    simp only [spec_ReadReport_l0]
    rw [w64_in (by omega), if_neg (by omega), h5 _ _ ⟨by omega, by unfold few; omega⟩]
    simp only [Option.bind_some, s_spec_Report]
    unfold finR
    by_cases c : (report id acc).2 = false
    · rw [if_pos c, if_neg (by simp [c])]
    · rw [if_neg c]
      by_cases c2 : (report id acc).1 = t
      · rw [if_pos c2, if_pos ⟨by simpa using c, c2⟩]
      · rw [if_neg c2, if_neg (fun q => c2 q.2)]
  intro r
  induction r with
  | nil =>
    intro i e acc hd hi ha
    have hn := at_nil hd
    rw [show ([] : List (List UInt8)).length + 1 + e = e + 1 by simp; omega, fin i e acc (by omega) (by omega) (by omega)]
    simp [sV]
  | cons a r ih =>
    intro i e acc hd hi ha
    obtain ⟨g1, g2, g3, g4, g5, g6⟩ := at_cons hd
    rw [List.length_cons, fuel]
    match r, ih, g5, g6 with
    | [], ih, g5, g6 =>
      rw [fin i _ acc (by omega) (by simp at g6; omega) (by omega)]
      simp [sV]
    | [b], ih, g5, g6 =>
      rw [fin i _ acc (by omega) (by simp at g6; omega) (by omega)]
      simp [sV]
    | b :: c :: r, ih, g5, g6 =>
      have hlen : i + 2 < l.length := by simp only [List.length_cons] at g6; omega
      have hi1 := itoa_len (n := (i : Int)) ⟨by omega, by omega⟩
      simp only [spec_ReadReport_l0]
      rw [w64_in (by omega), if_pos (by omega), if_pos (by omega), Int.toNat_natCast, g4]
      simp only [Option.bind_some]
      rw [h3 _ (show dOk (i : Int) from ⟨by omega, by omega⟩)]
      simp only [Option.bind_some, s_spec_l1Dec]
      rw [if_pos (by unfold roomS; omega), if_pos (by unfold roomS; rw [List.length_append]; simp; omega)]
      have hpre : (116 :: 101 :: 115 :: 116 :: 32 :: (Lib.itoa (i : Int) ++ [32])) = preT i := rfl
      rw [hpre, h2 _ _ (show a.length ≤ big by have := he a (List.mem_of_getElem? g4); rw [big_eq]; omega)]
      simp only [Option.bind_some, s_spec_l6After]
      rw [h4 _ trivial]
      simp only [Option.bind_some, s_spec_l6Verdict]
      rw [if_pos (by unfold room roomB; simp only [List.length_append, List.length_cons, List.length_nil]; omega), w64_in (by omega), show (i : Int) + 1 = ((i + 1 : Nat) : Int) by omega,
        ih (i + 1) e _ g5 (by omega) (by simp only [List.length_append, List.length_cons, List.length_nil]; omega)]
      simp only [sV, List.append_assoc, List.cons_append, List.nil_append]
      rfl
def pre_spec_ReadReport (t : List UInt8) : Prop := t.length ≤ 1048576
def s_spec_ReadReport (t : List UInt8) : List UInt8 × List TVerdict × Bool := readS t
theorem p_spec_ReadReport (t : List UInt8) (h : pre_spec_ReadReport t) : ∃ N, spec_ReadReport_f L1 L2 L3 L4 L5 N t = some (s_spec_ReadReport t) := by
  refine ⟨(pcs 10 [] t).length + 1, ?_⟩
  unfold spec_ReadReport_f s_spec_ReadReport readS
  by_cases c : 2000 < t.length
  · rw [if_pos (by omega), if_pos c]
  · rw [if_neg (by omega), if_neg c, h1 _ _ h]
    simp only [Option.bind_some, s_spec_l1Cut]
    have hlen := pcs_len 10 t []
    have heach := pcs_each 10 t []
    generalize hp : pcs 10 [] t = l at hlen heach ⊢
    have he : ∀ w ∈ l, w.length ≤ 2000 := fun w hw => by have := heach w hw; simp at this; omega
    match l, hlen, he with
    | [], _, _ => rw [if_pos (by simp)]
    | [a], _, _ => rw [if_pos (by simp)]
    | [a, b], _, _ => rw [if_pos (by simp)]
    | a :: b :: c :: r, hlen, he =>
      have ha := he a (by simp)
      have haf := after_len a st8
      rw [if_neg (by simp only [List.length_cons]; omega), if_pos (by simp only [List.length_cons]; omega)]
      simp only [List.getElem?_cons_zero, Option.bind_some]
      rw [h2 _ _ (show a.length ≤ big by rw [big_eq]; omega)]
      simp only [Option.bind_some, s_spec_l6After]
      have := l_readS L1 h1 L2 h2 L3 h3 L4 h4 L5 h5 t (after a st8) (by omega) (a :: b :: c :: r) (by simp only [List.length_cons] at hlen ⊢; omega) he (b :: c :: r) 1 1 [] rfl (by simp) (by simp)
      simp only [List.nil_append] at this
      exact this
end
def pre_internal_stringslite_HasSuffix (a b : List UInt8) : Prop := a.length ≤ big
def sufOk (a b : List UInt8) : Bool := decide (b.length ≤ a.length) && decide (a.drop (a.length - b.length) = b)
def s_internal_stringslite_HasSuffix (a b : List UInt8) : Bool := sufOk a b
theorem p_internal_stringslite_HasSuffix (a b : List UInt8) (h : pre_internal_stringslite_HasSuffix a b) : ∃ N, internal_stringslite_HasSuffix_f N a b = some (s_internal_stringslite_HasSuffix a b) := by
  refine ⟨0, ?_⟩
  have h' : a.length ≤ 9223372036854775807 := h
  unfold internal_stringslite_HasSuffix_f s_internal_stringslite_HasSuffix sufOk
  by_cases c : b.length ≤ a.length
  · rw [if_pos (by omega), w64_in (by omega), show (a.length : Int) - (b.length : Int) = ((a.length - b.length : Nat) : Int) by omega, cut_tail (by omega)]
    simp [c]
  · rw [if_neg (by omega)]; simp [c]
def pre_strings_HasSuffix (a b : List UInt8) : Prop := a.length ≤ big
def s_strings_HasSuffix (a b : List UInt8) : Bool := sufOk a b
theorem p_strings_HasSuffix (L : List UInt8 → List UInt8 → Option Bool) (hL : ∀ a b, pre_internal_stringslite_HasSuffix a b → L a b = some (s_internal_stringslite_HasSuffix a b)) (a b : List UInt8) (h : pre_strings_HasSuffix a b) :
    ∃ N, strings_HasSuffix_f L N a b = some (s_strings_HasSuffix a b) := by
  refine ⟨0, ?_⟩
  unfold strings_HasSuffix_f
  rw [hL _ _ h]; rfl
def pre_internal_stringslite_TrimSuffix (a b : List UInt8) : Prop := a.length ≤ big
def s_internal_stringslite_TrimSuffix (a b : List UInt8) : List UInt8 := if sufOk a b = true then a.take (a.length - b.length) else a
theorem p_internal_stringslite_TrimSuffix (L : List UInt8 → List UInt8 → Option Bool) (hL : ∀ a b, pre_internal_stringslite_HasSuffix a b → L a b = some (s_internal_stringslite_HasSuffix a b)) (a b : List UInt8) (h : pre_internal_stringslite_TrimSuffix a b) :
    ∃ N, internal_stringslite_TrimSuffix_f L N a b = some (s_internal_stringslite_TrimSuffix a b) := by
  refine ⟨0, ?_⟩
  have h' : a.length ≤ 9223372036854775807 := h
  unfold internal_stringslite_TrimSuffix_f s_internal_stringslite_TrimSuffix
  rw [hL _ _ h]
  simp only [Option.bind_some, s_internal_stringslite_HasSuffix]
  by_cases c : sufOk a b = true
  · have c1 := c
    simp only [sufOk, Bool.and_eq_true, decide_eq_true_eq] at c1
    rw [if_pos c, if_pos c, w64_in (by omega), show (a.length : Int) - (b.length : Int) = ((a.length - b.length : Nat) : Int) by omega, cut_head (by omega)]; rfl
  · rw [if_neg c, if_neg c]
def pre_strings_TrimSuffix (a b : List UInt8) : Prop := a.length ≤ big
def s_strings_TrimSuffix (a b : List UInt8) : List UInt8 := s_internal_stringslite_TrimSuffix a b
theorem p_strings_TrimSuffix (L : List UInt8 → List UInt8 → Option (List UInt8)) (hL : ∀ a b, pre_internal_stringslite_TrimSuffix a b → L a b = some (s_internal_stringslite_TrimSuffix a b)) (a b : List UInt8) (h : pre_strings_TrimSuffix a b) :
    ∃ N, strings_TrimSuffix_f L N a b = some (s_strings_TrimSuffix a b) := by
  refine ⟨0, ?_⟩
  unfold strings_TrimSuffix_f
  rw [hL _ _ h]; rfl
def pre_strings_Split (a b : List UInt8) : Prop := a.length ≤ 1048576 ∧ 1 ≤ b.length
def s_strings_Split (a b : List UInt8) : List (List UInt8) := Lib.split a b
theorem q_strings_Split {a b : List UInt8} (h : pre_strings_Split a b) : a.length < 4294967281 ∧ 1 ≤ b.length := ⟨by have := h.1; omega, h.2⟩
def pre_internal_stringslite_HasPrefix (a b : List UInt8) : Prop := a.length ≤ big
def preOk (a b : List UInt8) : Bool := decide (b.length ≤ a.length) && decide (a.take b.length = b)
def s_internal_stringslite_HasPrefix (a b : List UInt8) : Bool := preOk a b
theorem p_internal_stringslite_HasPrefix (a b : List UInt8) (h : pre_internal_stringslite_HasPrefix a b) : ∃ N, internal_stringslite_HasPrefix_f N a b = some (s_internal_stringslite_HasPrefix a b) := by
  refine ⟨0, ?_⟩
  unfold internal_stringslite_HasPrefix_f s_internal_stringslite_HasPrefix preOk
  by_cases c : b.length ≤ a.length
  · rw [if_pos (by omega), cut_head c]; simp [c]
  · rw [if_neg (by omega)]; simp [c]
def pre_internal_stringslite_CutPrefix (a b : List UInt8) : Prop := a.length ≤ big
def s_internal_stringslite_CutPrefix (a b : List UInt8) : List UInt8 × Bool := if preOk a b = true then (a.drop b.length, true) else (a, false)
theorem p_internal_stringslite_CutPrefix (L : List UInt8 → List UInt8 → Option Bool) (hL : ∀ a b, pre_internal_stringslite_HasPrefix a b → L a b = some (s_internal_stringslite_HasPrefix a b)) (a b : List UInt8) (h : pre_internal_stringslite_CutPrefix a b) :
    ∃ N, internal_stringslite_CutPrefix_f L N a b = some (s_internal_stringslite_CutPrefix a b) := by
  refine ⟨0, ?_⟩
  unfold internal_stringslite_CutPrefix_f s_internal_stringslite_CutPrefix
  rw [hL _ _ h]
  simp only [Option.bind_some, s_internal_stringslite_HasPrefix]
  by_cases c : preOk a b = true
  · have c1 := c
    simp only [preOk, Bool.and_eq_true, decide_eq_true_eq] at c1
    rw [if_neg (by simp [c]), if_pos c, cut_tail c1.1]; rfl
  · rw [if_pos (by simpa using c), if_neg c]
def pre_strings_CutPrefix (a b : List UInt8) : Prop := a.length ≤ big
def s_strings_CutPrefix (a b : List UInt8) : List UInt8 × Bool := s_internal_stringslite_CutPrefix a b
theorem p_strings_CutPrefix (L : List UInt8 → List UInt8 → Option (List UInt8 × Bool)) (hL : ∀ a b, pre_internal_stringslite_CutPrefix a b → L a b = some (s_internal_stringslite_CutPrefix a b)) (a b : List UInt8) (h : pre_strings_CutPrefix a b) :
    ∃ N, strings_CutPrefix_f L N a b = some (s_strings_CutPrefix a b) := by
  refine ⟨0, ?_⟩
  unfold strings_CutPrefix_f
  rw [hL _ _ h]; rfl
def pre_impl_isDigit (c : Int) : Prop := True
def s_impl_isDigit (c : Int) : Bool := isDig c
theorem p_impl_isDigit (c : Int) (h : pre_impl_isDigit c) : ∃ N, impl_isDigit_f N c = some (s_impl_isDigit c) := by
  refine ⟨0, ?_⟩
  unfold impl_isDigit_f s_impl_isDigit isDig
  by_cases h : 48 ≤ c <;> simp [h]
def pre_impl_isLetter (c : Int) : Prop := True
def s_impl_isLetter (c : Int) : Bool := isLet c
theorem p_impl_isLetter (c : Int) (h : pre_impl_isLetter c) : ∃ N, impl_isLetter_f N c = some (s_impl_isLetter c) := by
  refine ⟨0, ?_⟩
  unfold impl_isLetter_f s_impl_isLetter isLet
  by_cases h : 97 ≤ c <;> by_cases h' : c ≤ 122 <;> by_cases h'' : 65 ≤ c <;> simp [h, h', h'']
def pre_impl_idOk (l : List UInt8) : Prop := l.length ≤ big
def s_impl_idOk (l : List UInt8) : Bool := idOkB l
theorem l_implId (L1 L2 : Int → Option Bool) (h1 : ∀ c, pre_impl_isDigit c → L1 c = some (s_impl_isDigit c)) (h2 : ∀ c, pre_impl_isLetter c → L2 c = some (s_impl_isLetter c)) (l : List UInt8) (hl : l.length ≤ big) :
    ∀ (r : List UInt8) (j e : Nat), l.drop j = r → impl_idOk_l0 L1 L2 (r.length + 1 + e) l l.length j = some (r.all idC)
  | [], j, e, hd => by
    rw [List.length_nil, fuel0]
    simp only [impl_idOk_l0]
    rw [if_neg (at_nil hd)]; rfl
  | b :: r, j, e, hd => by
    obtain ⟨g1, g2, g3, g4, g5, g6⟩ := at_cons hd
    rw [List.length_cons, fuel]
    simp only [impl_idOk_l0]
    rw [if_pos g2, idxB_some g3]
    simp only [Option.bind_some]
    rw [h1 _ trivial, h2 _ trivial, succ_w g1 hl, l_implId L1 L2 h1 h2 l hl r (j + 1) e g5]
    simp only [Option.bind_some, List.all_cons, s_impl_isDigit, s_impl_isLetter, idC]
    by_cases c1 : isDig b.toNat = true
    · simp [c1]
    · by_cases c2 : isLet b.toNat = true
      · simp [c1, c2]
      · simp [c1, c2]
theorem p_impl_idOk (L1 : Int → Option Bool) (h1 : ∀ c, pre_impl_isDigit c → L1 c = some (s_impl_isDigit c)) (L2 : Int → Option Bool) (h2 : ∀ c, pre_impl_isLetter c → L2 c = some (s_impl_isLetter c)) (l : List UInt8) (h : pre_impl_idOk l) :
    ∃ N, impl_idOk_f L1 L2 N l = some (s_impl_idOk l) := by
  refine ⟨l.length + 1, ?_⟩
  unfold impl_idOk_f s_impl_idOk idOkB
  by_cases c : (l.length : Int) < 1
  · have : ¬ 1 ≤ l.length := by omega
    rw [if_pos c]; simp [this]
  · rw [if_neg c]
    by_cases c' : 20 < (l.length : Int)
    · have : ¬ l.length ≤ 20 := by omega
      rw [if_pos c']; simp [this]
    · have a1 : 1 ≤ l.length := by omega
      have a2 : l.length ≤ 20 := by omega
      rw [if_neg c']
      refine (l_implId L1 L2 h1 h2 l h l 0 0 rfl).trans ?_
      simp [a1, a2]
def pre_strconv_Itoa (n : Int) : Prop := -9223372036854775808 ≤ n ∧ n ≤ 9223372036854775807
def s_strconv_Itoa (n : Int) : List UInt8 := Lib.itoa n
theorem q_strconv_Itoa {n : Int} (h : pre_strconv_Itoa n) : -9223372036854775808 ≤ n ∧ n ≤ 9223372036854775807 := h
def pre_strconv_Atoi (a : List UInt8) : Prop := a.length ≤ 1048576
def s_strconv_Atoi (a : List UInt8) : Alt Int Int := atoiR a
theorem q_strconv_Atoi {a : List UInt8} (h : pre_strconv_Atoi a) : a.length ≤ 281474976710656 := by have h' : a.length ≤ 1048576 := h; omega
def pre_impl_verdictOk (k c : Int) : Prop := True
def s_impl_verdictOk (k c : Int) : Bool := vOk k c
theorem p_impl_verdictOk (k c : Int) (h : pre_impl_verdictOk k c) : ∃ N, impl_verdictOk_f N k c = some (s_impl_verdictOk k c) := by
  refine ⟨0, ?_⟩
  unfold impl_verdictOk_f s_impl_verdictOk vOk
  by_cases h3 : k = 3
  · rw [if_pos h3, if_pos h3]
    by_cases c1 : 1 ≤ c <;> simp [c1]
  · rw [if_neg h3, if_neg h3]
    by_cases c1 : 1 ≤ k <;> by_cases c2 : k ≤ 5 <;> simp [c1, c2]
def pre_impl_verdictOfWords (l : List (List UInt8)) : Prop := l.length ≤ big ∧ ∀ w ∈ l, w.length ≤ 1048576
def errW : List UInt8 := [101, 114, 114, 111, 114]
def kindOf (s : List UInt8) : Option Int := if s = [112, 97, 115, 115] then some 1 else if s = [102, 97, 105, 108] then some 2 else if s = [102, 117, 101, 108] then some 4 else if s = [99, 101, 108, 108, 115] then some 5 else none
def vow : List (List UInt8) → Int × Int × Bool
  | [a, b] => if a = errW then (match atoiR b with
      | .a v => if Lib.itoa v = b then (3, v, vOk 3 v) else (3, v, false)
      | .b v => (3, v, false)) else (0, 0, false)
  | [a] => ((kindOf a).getD 0, 0, (kindOf a).isSome)
  | _ => (0, 0, false)
def s_impl_verdictOfWords (l : List (List UInt8)) : Int × Int × Bool := vow l
theorem atoi_range {l : List UInt8} {v : Int} (h : atoiR l = .a v) : -9223372036854775808 ≤ v ∧ v ≤ 9223372036854775807 := by
  unfold atoiR at h
  cases hr : Lib.atoiAll l
  · rename_i w
    rw [hr] at h
    injection h with h
    subst h
    exact Lib.atoiAll_bounds hr
  · rw [hr] at h; cases h
  · rw [hr] at h; cases h
theorem look_kind (s : List UInt8) : look (putM (putM (putM (putM ([] : List (List UInt8 × Int)) [112, 97, 115, 115] 1) [102, 97, 105, 108] 2) [102, 117, 101, 108] 4) [99, 101, 108, 108, 115] 5) s = kindOf s := by
  have e : putM (putM (putM (putM ([] : List (List UInt8 × Int)) [112, 97, 115, 115] 1) [102, 97, 105, 108] 2) [102, 117, 101, 108] 4) [99, 101, 108, 108, 115] 5 = [([112, 97, 115, 115], 1), ([102, 97, 105, 108], 2), ([102, 117, 101, 108], 4), ([99, 101, 108, 108, 115], 5)] := by decide
  rw [e]
  unfold kindOf
  simp only [look, eq_comm (b := s)]
theorem p_impl_verdictOfWords (L1 : List UInt8 → Option (Alt Int Int)) (h1 : ∀ w, pre_strconv_Atoi w → L1 w = some (s_strconv_Atoi w)) (L2 : Int → Option (List UInt8)) (h2 : ∀ a, pre_strconv_Itoa a → L2 a = some (s_strconv_Itoa a))
    (L3 : Int → Int → Option Bool) (h3 : ∀ k c, pre_impl_verdictOk k c → L3 k c = some (s_impl_verdictOk k c)) (l : List (List UInt8)) (h : pre_impl_verdictOfWords l) : ∃ N, impl_verdictOfWords_f L1 L2 L3 N l = some (s_impl_verdictOfWords l) := by
  refine ⟨0, ?_⟩
  unfold impl_verdictOfWords_f s_impl_verdictOfWords
  simp only [look_kind]
  obtain ⟨hb, he⟩ := h
  match l, he with
  | [], _ => rfl
  | [a], _ =>
    rw [if_neg (by simp), if_pos (by simp)]
    have : idx [a] 0 = some a := rfl
    rw [this]; rfl
  | [a, b], he =>
    have i0 : idx [a, b] 0 = some a := rfl
    have i1 : idx [a, b] 1 = some b := rfl
    rw [if_pos (by simp), i0]
    simp only [Option.bind_some, vow]
    by_cases c : a = errW
    · rw [if_pos (show a = [101, 114, 114, 111, 114] from c), if_pos c, i1]
      simp only [Option.bind_some]
      rw [h1 _ (he b (by simp))]
      simp only [Option.bind_some, s_strconv_Atoi]
      cases hr : atoiR b with
      | a v =>
        simp only [Alt.on]
        rw [h2 _ (atoi_range hr)]
        simp only [Option.bind_some, s_strconv_Itoa]
        by_cases c2 : Lib.itoa v = b
        · rw [if_pos c2, if_pos c2, h3 _ _ trivial]; rfl
        · rw [if_neg c2, if_neg c2]
      | b v => rfl
    · rw [if_neg (show ¬ a = [101, 114, 114, 111, 114] from c), if_neg c, if_neg (by simp)]
  | a :: b :: d :: r, _ =>
    rw [if_neg (by simp only [List.length_cons]; omega), if_neg (by simp only [List.length_cons]; omega)]; rfl
theorem first_at (c : UInt8) : ∀ (s : List UInt8), (∀ b ∈ s, b ≠ c) ∨ ∃ a r, s = a ++ c :: r ∧ ∀ b ∈ a, b ≠ c
  | [] => .inl (by simp)
  | b :: s => by
    by_cases h : b = c
    · exact .inr ⟨[], s, by simp [h], by simp⟩
    · rcases first_at c s with h1 | ⟨a, r, rfl, h2⟩
      · refine .inl fun x hx => ?_
        rcases List.mem_cons.1 hx with rfl | hx
        · exact h
        · exact h1 x hx
      · refine .inr ⟨b :: a, r, rfl, fun x hx => ?_⟩
        rcases List.mem_cons.1 hx with rfl | hx
        · exact h
        · exact h2 x hx
theorem index_no (c : UInt8) : ∀ (s : List UInt8), (∀ b ∈ s, b ≠ c) → Lib.index s [c] = -1
  | [], _ => rfl
  | b :: s, h => by
    have h1 : ¬ ([c].isPrefixOf (b :: s)) = true := by
      simp only [List.isPrefixOf, Bool.and_true, beq_iff_eq]
      exact fun e => h b (by simp) e.symm
    have h2 := index_no c s fun x hx => h x (by simp [hx])
    unfold Lib.index
    rw [if_neg h1, h2]; rfl
theorem split_no {c : UInt8} {s : List UInt8} (h : ∀ b ∈ s, b ≠ c) : Lib.split s [c] = [s] := by
  unfold Lib.split; rw [Lib.count_miss (index_no c s h)]; rfl
theorem index_at (c : UInt8) (r : List UInt8) : ∀ (a : List UInt8), (∀ b ∈ a, b ≠ c) → Lib.index (a ++ c :: r) [c] = (a.length : Int)
  | [], _ => by
    show Lib.index (c :: r) [c] = _
    unfold Lib.index
    rw [if_pos (by simp [List.isPrefixOf])]; rfl
  | b :: a, h => by
    have h1 : ¬ ([c].isPrefixOf (b :: (a ++ c :: r))) = true := by
      simp only [List.isPrefixOf, Bool.and_true, beq_iff_eq]
      exact fun e => h b (by simp) e.symm
    have h2 := index_at c r a fun x hx => h x (by simp [hx])
    rw [List.cons_append]
    unfold Lib.index
    rw [if_neg h1, h2, if_neg (by simp), List.length_cons]; omega
theorem split_at {c : UInt8} {a r : List UInt8} (h : ∀ b ∈ a, b ≠ c) : Lib.split (a ++ c :: r) [c] = a :: Lib.split r [c] := by
  have hi := index_at c r a h
  have hn := Lib.count_hit (sub := [c]) (by simp) hi
  unfold Lib.split
  rw [hn, Nat.add_comm]
  simp only [Lib.splitK]
  rw [hi, if_neg (by simp), Int.toNat_natCast]
  simp
theorem toNat_ne {b c : UInt8} (h : b ≠ c) : ¬ (b.toNat : Int) = (c.toNat : Int) := fun e => h (UInt8.toNat_inj.1 (by omega))
theorem pcs_no (c : UInt8) : ∀ (s cur : List UInt8), (∀ b ∈ s, b ≠ c) → pcs c.toNat cur s = [cur ++ s]
  | [], cur, _ => by simp [pcs]
  | b :: s, cur, h => by
    simp only [pcs]
    rw [if_neg (toNat_ne (h b (by simp))), pcs_no c s _ fun x hx => h x (by simp [hx])]
    simp
theorem pcs_at (c : UInt8) (r : List UInt8) : ∀ (a cur : List UInt8), (∀ b ∈ a, b ≠ c) → pcs c.toNat cur (a ++ c :: r) = (cur ++ a) :: pcs c.toNat [] r
  | [], cur, _ => by simp [pcs]
  | b :: a, cur, h => by
    rw [List.cons_append]
    simp only [pcs]
    rw [if_neg (toNat_ne (h b (by simp))), pcs_at c r a _ fun x hx => h x (by simp [hx])]
    simp
theorem split_pcs (c : UInt8) (s : List UInt8) : Lib.split s [c] = pcs c.toNat [] s := by
  rcases first_at c s with h | ⟨a, r, rfl, h⟩
  · rw [split_no h, pcs_no c s [] h]; rfl
  · rw [split_at h, pcs_at c r a [] h, split_pcs c r]; rfl
termination_by s.length
decreasing_by subst_vars; simp only [List.length_append, List.length_cons]; omega
theorem pcs_ne (c : Int) : ∀ (r cur : List UInt8), pcs c cur r ≠ []
  | [], cur => by simp [pcs]
  | b :: r, cur => by
    simp only [pcs]
    split
    · simp
    · exact pcs_ne c r _
def pl (p : Int) (n : Nat) : List UInt8 := [112, 97, 115, 115, 101, 100, 32] ++ (Lib.itoa p ++ ([32, 111, 102, 32] ++ Lib.itoa (n : Int)))
def testW : List UInt8 := [116, 101, 115, 116]
def iV (all : List (List UInt8)) (id : List UInt8) : Nat → Int → List TVerdict → List (List UInt8) → List UInt8 × List TVerdict × Bool
  | _, p, acc, [] => if all.getLast? = some (pl p acc.length) then (id, acc, true) else ([], [], false)
  | i, p, acc, w :: r =>
    if (pcs 32 [] w).length < 3 then ([], [], false) else
    if (pcs 32 [] w)[0]? = some testW ∧ (pcs 32 [] w)[1]? = some (Lib.itoa ((i + 1 : Nat) : Int)) ∧ (vow ((pcs 32 [] w).drop 2)).2.2 = true then
      iV all id (i + 1) (p + oneP (vow ((pcs 32 [] w).drop 2)).1) (acc ++ [⟨(vow ((pcs 32 [] w).drop 2)).1, (vow ((pcs 32 [] w).drop 2)).2.1⟩]) r
    else ([], [], false)
def readI (t : List UInt8) : List UInt8 × List TVerdict × Bool :=
  if 10000 < t.length then ([], [], false) else
  if sufOk t [10] = false then ([], [], false) else
  match pcs 10 [] (s_strings_TrimSuffix t [10]) with
  | [] => ([], [], false)
  | a :: l => if preOk a st8 = false then ([], [], false) else if idOkB (a.drop 8) = false then ([], [], false) else if l.length < 1 then ([], [], false) else if 20 < l.length - 1 then ([], [], false) else
      iV (a :: l) (a.drop 8) 0 0 [] (l.take (l.length - 1))
section
variable (L1 : List UInt8 → List UInt8 → Option Bool) (h1 : ∀ a b, pre_strings_HasSuffix a b → L1 a b = some (s_strings_HasSuffix a b)) (L2 : List UInt8 → List UInt8 → Option (List UInt8)) (h2 : ∀ a b, pre_strings_TrimSuffix a b → L2 a b = some (s_strings_TrimSuffix a b))
  (L3 : List UInt8 → List UInt8 → Option (List (List UInt8))) (h3 : ∀ a b, pre_strings_Split a b → L3 a b = some (s_strings_Split a b)) (L4 : List UInt8 → List UInt8 → Option (List UInt8 × Bool)) (h4 : ∀ a b, pre_strings_CutPrefix a b → L4 a b = some (s_strings_CutPrefix a b))
  (L5 : List UInt8 → Option Bool) (h5 : ∀ l, pre_impl_idOk l → L5 l = some (s_impl_idOk l)) (L6 : Int → Option (List UInt8)) (h6 : ∀ a, pre_strconv_Itoa a → L6 a = some (s_strconv_Itoa a))
  (L7 : List (List UInt8) → Option (Int × Int × Bool)) (h7 : ∀ l, pre_impl_verdictOfWords l → L7 l = some (s_impl_verdictOfWords l))
include h1 h2 h3 h4 h5 h6 h7
theorem l_implRead (all : List (List UInt8)) (id : List UInt8) (ha : 1 ≤ all.length ∧ all.length ≤ 20000) (mid : List (List UInt8)) (hm : mid.length ≤ 20) (he : ∀ w ∈ mid, w.length ≤ 10000) :
    ∀ (r : List (List UInt8)) (j e : Nat) (p : Int) (acc : List TVerdict), mid.drop j = r → j ≤ mid.length → acc.length = j → 0 ≤ p → p ≤ j →
    impl_ReadReport_l0 L1 L2 L3 L4 L5 L6 L7 (r.length + 1 + e) all id p mid mid.length j acc = some (iV all id j p acc r)
  | [], j, e, p, acc, hd, hj, hac, hp, hpj => by
    have e1 := itoa_len (n := p) ⟨by omega, by omega⟩
    have e2 := itoa_len (n := (acc.length : Int)) ⟨by omega, by omega⟩
    rw [List.length_nil, fuel0]
    simp only [impl_ReadReport_l0, iV]
    have hlast : idx all (w64 ((all.length : Int) - 1)) = all.getLast? := by
      rw [w64_in (by omega), show (all.length : Int) - 1 = ((all.length - 1 : Nat) : Int) by omega, idx_nat, List.getLast?_eq_getElem?]
    have hpl : (112 :: 97 :: 115 :: 115 :: 101 :: 100 :: 32 :: (Lib.itoa p ++ [32, 111, 102, 32] ++ Lib.itoa (acc.length : Int))) = pl p acc.length := by simp [pl]
    rw [if_neg (at_nil hd), hlast]
    cases hq : all.getLast? with
    | none =>
      rw [List.getLast?_eq_none_iff] at hq
      rw [hq] at ha
      simp at ha
    | some x =>
      simp only [Option.bind_some]
      rw [h6 _ ⟨by omega, by omega⟩]
      simp only [Option.bind_some, s_strconv_Itoa]
      rw [if_pos (by unfold roomS; omega), if_pos (by unfold roomS; rw [List.length_append]; simp; omega), h6 _ ⟨by omega, by omega⟩]
      simp only [Option.bind_some, s_strconv_Itoa]
      rw [if_pos (by unfold roomS; rw [List.length_append, List.length_append]; simp; omega), hpl]
      by_cases c : x = pl p acc.length
      · rw [if_pos c, if_pos (by rw [c])]
      · rw [if_neg c, if_neg (fun q => c (Option.some.inj q))]
  | w :: r, j, e, p, acc, hd, hj, hac, hp, hpj => by
    obtain ⟨g1, g2, g3, g4, g5, g6⟩ := at_cons hd
    have hw := he w (List.mem_of_getElem? g4)
    have hlen := pcs_len 32 w []
    have heach := pcs_each 32 w []
    have esp : Lib.split w [32] = pcs 32 [] w := split_pcs 32 w
    rw [List.length_cons, fuel]
    simp only [impl_ReadReport_l0, iV]
    rw [if_pos g2, g3]
    simp only [Option.bind_some]
    rw [h3 _ _ ⟨by omega, by simp⟩]
    simp only [Option.bind_some, s_strings_Split, esp]
    have hea : ∀ x ∈ pcs 32 [] w, x.length ≤ 10000 := fun x hx => by have := heach x hx; simp at this; omega
    generalize hps : pcs 32 [] w = ps at hlen hea ⊢
    by_cases c3 : ps.length < 3
    · rw [if_pos (by omega), if_pos c3]
    · rw [if_neg (by omega), if_neg c3]
      match ps, c3, hlen, hea with
      | a :: b :: d :: q, c3, hlen, hea =>
        have i0 : idx (a :: b :: d :: q) 0 = some a := rfl
        have i1 : idx (a :: b :: d :: q) 1 = some b := rfl
        have it : cut (a :: b :: d :: q) 2 ((a :: b :: d :: q).length : Int) = some (d :: q) := by
          have := cut_tail (s := a :: b :: d :: q) (a := 2) (by simp)
          simpa using this
        have hwj : w64 ((j : Int) + 1) = ((j + 1 : Nat) : Int) := succ_w g1 (by rw [big_eq]; omega)
        rw [i0, i1]
        simp only [Option.bind_some, List.getElem?_cons_zero, List.getElem?_cons_succ, Option.some.injEq, List.drop_succ_cons, List.drop_zero]
        by_cases c1 : a = testW
        · rw [if_pos (show a = [116, 101, 115, 116] from c1), hwj, h6 _ ⟨by omega, by omega⟩]
          simp only [Option.bind_some, s_strconv_Itoa]
          by_cases c2 : b = Lib.itoa ((j + 1 : Nat) : Int)
          · rw [if_pos c2, it]
            simp only [Option.bind_some]
            rw [h7 _ ⟨by rw [big_eq]; simp only [List.length_cons] at hlen ⊢; omega, fun x hx => by have := hea x (by simp at hx ⊢; rcases hx with h | h <;> simp [h]); omega⟩]
            simp only [Option.bind_some, s_impl_verdictOfWords]
            by_cases c4 : (vow (d :: q)).2.2 = false
            · rw [if_pos c4, if_neg (c := a = testW ∧ b = Lib.itoa ((j + 1 : Nat) : Int) ∧ (vow (d :: q)).2.2 = true) (by simp [c4])]
            · have c4' : (vow (d :: q)).2.2 = true := by simpa using c4
              rw [if_neg c4, if_pos (c := a = testW ∧ b = Lib.itoa ((j + 1 : Nat) : Int) ∧ (vow (d :: q)).2.2 = true) ⟨c1, c2, c4'⟩]
              have hr : room 16 (acc ++ [({ Kind := (vow (d :: q)).1, Code := (vow (d :: q)).2.1 } : TVerdict)]).length := by unfold room roomB; simp only [List.length_append, List.length_cons, List.length_nil]; omega
              by_cases c5 : (vow (d :: q)).1 = 1
              · have eo : oneP (vow (d :: q)).1 = 1 := by unfold oneP; rw [if_pos c5]
                rw [if_pos c5, if_pos hr, w64_in (by omega), eo]
                exact l_implRead all id ha mid hm he r (j + 1) e (p + 1) _ g5 (by omega) (by simp only [List.length_append, List.length_cons, List.length_nil]; omega) (by omega) (by omega)
              · have eo : oneP (vow (d :: q)).1 = 0 := by unfold oneP; rw [if_neg c5]
                rw [if_neg c5, if_pos hr, eo, Int.add_zero]
                exact l_implRead all id ha mid hm he r (j + 1) e p _ g5 (by omega) (by simp only [List.length_append, List.length_cons, List.length_nil]; omega) (by omega) (by omega)
          · rw [if_neg c2, if_neg (fun q => c2 q.2.1)]
        · rw [if_neg (show ¬ a = [116, 101, 115, 116] from c1), if_neg (fun q => c1 q.1)]
      | [], c3, _, _ => simp at c3
      | [a], c3, _, _ => simp at c3
      | [a, b], c3, _, _ => simp at c3
def pre_impl_ReadReport (t : List UInt8) : Prop := t.length ≤ 1048576
theorem impl_ReadReport_all (t : List UInt8) (h : pre_impl_ReadReport t) : ∃ N, impl_ReadReport_f L1 L2 L3 L4 L5 L6 L7 N t = some (readI t) := by
  refine ⟨22, ?_⟩
  generalize hN : (22 : Nat) = N
  have h' : t.length ≤ 1048576 := h
  have hb : t.length ≤ big := by rw [big_eq]; omega
  unfold impl_ReadReport_f readI
  by_cases c : 10000 < t.length
  · rw [if_pos (by omega), if_pos c]
  rw [if_neg (by omega), if_neg c, h1 _ _ hb]
  simp only [Option.bind_some, s_strings_HasSuffix]
  by_cases c1 : sufOk t [10] = false
  · rw [if_pos c1, if_pos c1]
  rw [if_neg c1, if_neg c1, h2 _ _ hb]
  simp only [Option.bind_some]
  have hts : (s_strings_TrimSuffix t [10]).length ≤ t.length := by
    unfold s_strings_TrimSuffix s_internal_stringslite_TrimSuffix
    split
    · rw [List.length_take]; omega
    · omega
  generalize s_strings_TrimSuffix t [10] = u at hts ⊢
  rw [h3 _ _ ⟨by omega, by simp⟩]
  have esp : Lib.split u [10] = pcs 10 [] u := split_pcs 10 u
  simp only [Option.bind_some, s_strings_Split, esp]
  have hlen := pcs_len 10 u []
  have heach := pcs_each 10 u []
  have hea : ∀ x ∈ pcs 10 [] u, x.length ≤ 10000 := fun x hx => by have := heach x hx; simp at this; omega
  generalize hps : pcs 10 [] u = ps at hlen hea ⊢
  match ps, hps, hlen, hea with
  | [], hps, _, _ => exact absurd hps (pcs_ne 10 u [])
  | a :: l, hps, hlen, hea =>
    have haL := hea a (by simp)
    have i0 : idx (a :: l) 0 = some a := rfl
    rw [i0]
    simp only [Option.bind_some]
    rw [h4 _ _ (show a.length ≤ big by rw [big_eq]; omega)]
    simp only [Option.bind_some]
    have ec : s_strings_CutPrefix a [115, 116, 117, 100, 101, 110, 116, 32] = if preOk a st8 = true then (a.drop 8, true) else (a, false) := rfl
    rw [ec]
    by_cases c2 : preOk a st8 = true
    · have c2' : ¬ preOk a st8 = false := by simp [c2]
      rw [if_pos c2, if_neg c2']
      simp only [Bool.true_eq_false, if_false]
      rw [h5 _ (show (a.drop 8).length ≤ big by rw [big_eq, List.length_drop]; omega)]
      simp only [Option.bind_some, s_impl_idOk]
      by_cases c3 : idOkB (a.drop 8) = false
      · rw [if_pos c3, if_pos c3]
      · rw [if_neg c3, if_neg c3]
        simp only [List.length_cons] at hlen
        have elen : ((a :: l).length : Int) = (l.length : Int) + 1 := by simp
        rw [elen]
        by_cases c4 : l.length < 1
        · rw [if_pos (c := (l.length : Int) + 1 < 2) (by omega), if_pos c4]
        · rw [if_neg (c := (l.length : Int) + 1 < 2) (by omega), if_neg c4, w64_in (n := (l.length : Int) + 1 - 2) (by omega)]
          by_cases c5 : 20 < l.length - 1
          · rw [if_pos (c := (20 : Int) < (l.length : Int) + 1 - 2) (by omega), if_pos c5]
          · rw [if_neg (c := (20 : Int) < (l.length : Int) + 1 - 2) (by omega), if_neg c5]
            have hcut : cut (a :: l) 1 (w64 ((l.length : Int) + 1 - 1)) = some (l.take (l.length - 1)) := by
              rw [w64_in (by omega), show (l.length : Int) + 1 - 1 = ((l.length : Nat) : Int) by omega]
              have := cut_mid (s := a :: l) (a := 1) (b := l.length) (by omega) (by simp only [List.length_cons]; omega)
              simpa using this
            rw [hcut]
            simp only [Option.bind_some]
            have hml : (l.take (l.length - 1)).length = l.length - 1 := by rw [List.length_take]; omega
            have key := l_implRead L1 h1 L2 h2 L3 h3 L4 h4 L5 h5 L6 h6 L7 h7 (a :: l) (a.drop 8) ⟨by simp, by simp only [List.length_cons]; omega⟩ (l.take (l.length - 1)) (by omega)
              (fun w hw => hea w (by simp [List.mem_of_mem_take hw])) (l.take (l.length - 1)) 0 (21 - (l.length - 1)) 0 [] rfl (by omega) rfl (by omega) (by omega)
            rw [show (l.take (l.length - 1)).length + 1 + (21 - (l.length - 1)) = N by omega, show ((0 : Nat) : Int) = 0 from rfl] at key
            exact key
    · have c2' : preOk a st8 = false := by simpa using c2
      rw [if_neg c2, if_pos c2']
      rfl
end
def s_impl_ReadReport (t : List UInt8) : List UInt8 × List TVerdict × Bool := readS t
def lns (n : Nat) : Nat → Int → List TVerdict → List (List UInt8)
  | _, p, [] => [pl p n]
  | i, p, v :: r => tl i v :: lns n (i + 1) (p + oneP v.Kind) r
/-- a byte is not in a text -/
def free (c : UInt8) (s : List UInt8) : Prop := ∀ b ∈ s, b ≠ c
theorem free_app {c : UInt8} {a b : List UInt8} (h : free c a) (h' : free c b) : free c (a ++ b) := by
  intro x hx
  rcases List.mem_append.1 hx with hx | hx
  · exact h x hx
  · exact h' x hx
theorem p10 {a r : List UInt8} (h : free 10 a) : pcs 10 [] (a ++ 10 :: r) = a :: pcs 10 [] r := pcs_at 10 r a [] h
theorem lit_free {c : UInt8} {l : List UInt8} (h : l.all (fun b => b != c) = true) : free c l := by
  intro b hb
  have := List.all_eq_true.1 h b hb
  simpa using this
theorem dg_toNat {d : Nat} (h : d < 10) : (UInt8.ofNat (48 + d)).toNat = 48 + d := by
  rw [UInt8.toNat_ofNat']; omega
theorem dec_step {n : Nat} (h : ¬ n < 10) : Lib.decDigits n = Lib.decDigits (n / 10) ++ [UInt8.ofNat (48 + n % 10)] := by rw [Lib.decDigits, dif_neg h]
theorem dec_mem (n : Nat) : ∀ b ∈ Lib.decDigits n, 48 ≤ b.toNat ∧ b.toNat ≤ 57 := by
  by_cases h : n < 10
  · rw [Lib.decDigits_one h]
    intro b hb
    simp only [List.mem_singleton] at hb
    subst hb
    rw [dg_toNat h]; omega
  · rw [dec_step h]
    intro b hb
    rcases List.mem_append.1 hb with hb | hb
    · exact dec_mem (n / 10) b hb
    · simp only [List.mem_singleton] at hb
      subst hb
      rw [dg_toNat (by omega)]; omega
termination_by n
decreasing_by omega
theorem itoa_mem (n : Int) : ∀ b ∈ Lib.itoa n, b = 45 ∨ 48 ≤ b.toNat ∧ b.toNat ≤ 57 := by
  intro b hb
  unfold Lib.itoa at hb
  split at hb
  · rcases List.mem_cons.1 hb with rfl | hb
    · exact .inl rfl
    · exact .inr (dec_mem _ b hb)
  · exact .inr (dec_mem _ b hb)
theorem itoa_free {n : Int} {c : UInt8} (h1 : c ≠ 45) (h2 : ¬ (48 ≤ c.toNat ∧ c.toNat ≤ 57)) : free c (Lib.itoa n) := by
  rintro b hb rfl
  rcases itoa_mem n b hb with h | h
  · exact h1 h
  · exact h2 h
theorem word_free10 (k c : Int) : free 10 (word k c) := by
  unfold word
  split
  · exact free_app (lit_free rfl) (itoa_free (by decide) (by decide))
  · split
    · exact lit_free rfl
    · split
      · exact lit_free rfl
      · split
        · exact lit_free rfl
        · exact lit_free rfl
theorem tl_free10 (i : Nat) (v : TVerdict) : free 10 (tl i v) := free_app (lit_free rfl) (free_app (itoa_free (by decide) (by decide)) (free_app (lit_free rfl) (word_free10 _ _)))
theorem pl_free10 (p : Int) (n : Nat) : free 10 (pl p n) := free_app (lit_free rfl) (free_app (itoa_free (by decide) (by decide)) (free_app (lit_free rfl) (itoa_free (by decide) (by decide))))
theorem pcs_lns (n : Nat) : ∀ (vs : List TVerdict) (i : Nat) (p : Int), pcs 10 [] (rest n i p vs) = lns n i p vs ++ [[]]
  | [], i, p => by
    have e : rest n i p [] = pl p n ++ 10 :: [] := by simp [rest, pl]
    rw [e, p10 (pl_free10 p n)]; rfl
  | v :: r, i, p => by
    have e : rest n i p (v :: r) = tl i v ++ 10 :: rest n (i + 1) (p + oneP v.Kind) r := by simp [rest, lineOf, tl]
    rw [e, p10 (tl_free10 i v), pcs_lns n r]; rfl
theorem idC_ne {b : UInt8} (h : idC b = true) : b ≠ 10 ∧ b ≠ 32 := by
  unfold idC isDig isLet at h
  constructor
  · rintro rfl; revert h; decide
  · rintro rfl; revert h; decide
theorem id_free {id : List UInt8} (h : idOkB id = true) : free 10 id := by
  simp only [idOkB, Bool.and_eq_true, List.all_eq_true] at h
  exact fun b hb => (idC_ne (h.1 b hb)).1
theorem pcs_txt {id : List UInt8} {vs : List TVerdict} (h : idOkB id = true) : pcs 10 [] (txt id vs) = (st8 ++ id) :: (lns vs.length 0 0 vs ++ [[]]) := by
  have e : txt id vs = (st8 ++ id) ++ 10 :: rest vs.length 0 0 vs := by simp [txt]
  rw [e, p10 (free_app (lit_free rfl) (id_free h)), pcs_lns]
theorem after_app (h s : List UInt8) : after (h ++ s) h = s := by
  unfold after
  rw [if_neg (by rw [List.length_append]; omega), if_pos (by simp)]; simp
theorem w3_ne {c : Int} {l : List UInt8} (h : l.head? ≠ some 101) : word 3 c ≠ l := by
  rintro rfl
  exact h rfl
theorem dec_ne (n : Nat) : Lib.decDigits n ≠ [] := by
  intro h
  have := Lib.decDigits_length n
  rw [h] at this
  have := Lib.nDigits_pos n
  simp at *; omega
theorem parse_app : ∀ (l : List UInt8) (acc m : Nat) (d : Nat), Lib.parseUint10 acc l = .ok m → d < 10 → m * 10 + d < 18446744073709551616 → Lib.parseUint10 acc (l ++ [UInt8.ofNat (48 + d)]) = .ok (m * 10 + d)
  | [], acc, m, d, h, hd, hm => by
    simp only [Lib.parseUint10] at h
    injection h with h
    subst h
    simp only [List.nil_append, Lib.parseUint10, dg_toNat hd]
    rw [if_pos (by omega), if_neg (by omega), if_neg (by omega)]
    congr 1
    omega
  | c :: l, acc, m, d, h, hd, hm => by
    rw [List.cons_append]
    simp only [Lib.parseUint10] at h ⊢
    split at h
    · rename_i c1
      rw [if_pos c1]
      split at h
      · cases h
      · rename_i c2
        rw [if_neg c2]
        split at h
        · cases h
        · rename_i c3
          rw [if_neg c3]
          exact parse_app l _ m d h hd hm
    · cases h
theorem parse_dec (n : Nat) (h : n < 18446744073709551616) : Lib.parseUint10 0 (Lib.decDigits n) = .ok n := by
  by_cases c : n < 10
  · rw [Lib.decDigits_one c]
    simp only [Lib.parseUint10, dg_toNat c]
    rw [if_pos (by omega), if_neg (by omega), if_neg (by omega)]
    congr 1
    omega
  · rw [dec_step c]
    have := parse_app _ 0 (n / 10) (n % 10) (parse_dec (n / 10) (by omega)) (by omega) (by omega)
    rw [this]
    congr 1
    omega
termination_by n
decreasing_by omega
theorem atoi_itoa {v : Int} (h : -9223372036854775808 ≤ v ∧ v ≤ 9223372036854775807) : atoiR (Lib.itoa v) = .a v := by
  have key : Lib.atoiAll (Lib.itoa v) = .ok v := by
    unfold Lib.itoa
    by_cases c : v < 0
    · rw [if_pos c]
      unfold Lib.atoiAll
      simp only
      rw [if_pos (.inr (by rfl))]
      have hm : Lib.parseMag (Lib.decDigits v.natAbs) = .ok v.natAbs := by
        unfold Lib.parseMag; rw [if_neg (dec_ne _)]; exact parse_dec _ (by omega)
      rw [hm]
      simp only
      have h45 : (45 : UInt8).toNat = 45 := rfl
      rw [if_neg (by rw [h45]; simp), if_neg (by omega), if_pos h45]
      congr 1
      omega
    · rw [if_neg c]
      cases hd : Lib.decDigits v.toNat with
      | nil => exact absurd hd (dec_ne _)
      | cons b r =>
        have hb := dec_mem v.toNat b (by rw [hd]; simp)
        unfold Lib.atoiAll
        simp only
        rw [if_neg (by omega), ← hd]
        have hm : Lib.parseMag (Lib.decDigits v.toNat) = .ok v.toNat := by
          unfold Lib.parseMag; rw [if_neg (dec_ne _)]; exact parse_dec _ (by omega)
        rw [hm]
        simp only
        rw [if_neg (by omega), if_neg (by omega), if_neg (by omega)]
        congr 1
        omega
  unfold atoiR; rw [key]
theorem itoa_inj {a b : Int} (ha : -9223372036854775808 ≤ a ∧ a ≤ 9223372036854775807) (hb : -9223372036854775808 ≤ b ∧ b ≤ 9223372036854775807) (h : Lib.itoa a = Lib.itoa b) : a = b := by
  have h1 := atoi_itoa ha
  have h2 := atoi_itoa hb
  rw [h, h2] at h1
  injection h1 with h1
  exact h1.symm
theorem codeV_hit : ∀ (m : Nat) (c d : Int), 1 ≤ c → c ≤ d → d < c + m → d ≤ 99 → codeV (word 3 d) m c = (3, d)
  | 0, c, d, h0, h1, h2, h3 => by omega
  | m + 1, c, d, h0, h1, h2, h3 => by
    simp only [codeV]
    by_cases e : c = d
    · subst e; rw [if_pos rfl]
    · have hne : ¬ word 3 d = word 3 c := by
        intro q
        have q' : Lib.itoa d = Lib.itoa c := by
          unfold word at q
          rw [if_pos rfl, if_pos rfl] at q
          exact List.append_cancel_left q
        exact e (itoa_inj ⟨by omega, by omega⟩ ⟨by omega, by omega⟩ q').symm
      rw [if_neg hne]
      exact codeV_hit m (c + 1) d (by omega) (by omega) (by omega) h3
theorem wordV_hit {k c : Int} (h : vOk k c = true) : wordV (word k c) = (k, c) := by
  have hin := vOk_in h
  by_cases k3 : k = 3
  · subst k3
    unfold vOk at h
    rw [if_pos rfl] at h
    simp only [Bool.and_eq_true, decide_eq_true_eq] at h
    unfold wordV
    rw [if_neg (w3_ne (by decide)), if_neg (w3_ne (by decide)), if_neg (w3_ne (by decide)), if_neg (w3_ne (by decide))]
    exact codeV_hit 99 1 c (by omega) (by omega) (by omega) (by omega)
  · unfold vOk at h
    rw [if_neg k3] at h
    simp only [Bool.and_eq_true, decide_eq_true_eq] at h
    obtain ⟨_, rfl⟩ := h
    have : k = 1 ∨ k = 2 ∨ k = 4 ∨ k = 5 := by omega
    rcases this with rfl | rfl | rfl | rfl <;> decide
theorem sV_lns (n : Nat) : ∀ (vs : List TVerdict) (i : Nat) (p : Int), (∀ v ∈ vs, vOk v.Kind v.Code = true) → sV (i + 1) (lns n i p vs ++ [[]]) = vs
  | [], i, p, _ => by simp [lns, sV]
  | v :: r, i, p, h => by
    have hne : ∃ b c q, lns n (i + 1) (p + oneP v.Kind) r ++ [[]] = b :: c :: q := by
      cases r with
      | nil => exact ⟨_, _, [], rfl⟩
      | cons x y =>
        simp only [lns, List.cons_append]
        cases hq : lns n (i + 1 + 1) (p + oneP v.Kind + oneP x.Kind) y with
        | nil => cases y <;> simp [lns] at hq
        | cons a b => exact ⟨_, _, _, rfl⟩
    obtain ⟨b, c, q, e⟩ := hne
    have ih := sV_lns n r (i + 1) (p + oneP v.Kind) (fun x hx => h x (by simp [hx]))
    simp only [lns, List.cons_append]
    rw [e] at ih ⊢
    simp only [sV]
    rw [ih]
    have et : tl i v = preT (i + 1) ++ word v.Kind v.Code := by simp [tl, preT]
    rw [et, after_app, wordV_hit (h v (by simp))]
    rfl
theorem readS_txt {id : List UInt8} {vs : List TVerdict} (h : idOkB id = true) (h' : vsOk vs = true) : readS (txt id vs) = (id, vs, true) := by
  have hl := txt_len h h'
  have hv : ∀ v ∈ vs, vOk v.Kind v.Code = true := by
    simp only [vsOk, Bool.and_eq_true, decide_eq_true_eq, List.all_eq_true] at h'
    exact h'.2
  unfold readS
  rw [if_neg (by omega), pcs_txt h]
  have hne : ∃ b c q, lns vs.length 0 0 vs ++ [[]] = b :: c :: q := by
    cases vs with
    | nil => exact ⟨_, _, [], rfl⟩
    | cons x y =>
      simp only [lns, List.cons_append]
      generalize (x :: y).length = m
      cases hq : lns m (0 + 1) (0 + oneP x.Kind) y with
      | nil => cases y <;> simp [lns] at hq
      | cons a b => exact ⟨_, _, _, rfl⟩
  obtain ⟨b, c, q, e⟩ := hne
  have hs := sV_lns vs.length vs 0 0 hv
  rw [e] at hs ⊢
  simp only
  rw [after_app, hs]
  have hr : (idOkB id && vsOk vs) = true := by rw [h, h']; rfl
  unfold finR
  rw [report_eq hr, if_pos ⟨rfl, rfl⟩]
theorem finR_sound {t a id : List UInt8} {l vs : List TVerdict} (h : finR t a l = (id, vs, true)) : t = txt id vs ∧ idOkB id = true ∧ vsOk vs = true := by
  unfold finR at h
  split at h
  · rename_i q
    simp only [Prod.mk.injEq, and_true] at h
    obtain ⟨rfl, rfl⟩ := h
    by_cases c : (idOkB a && vsOk l) = true
    · rw [report_eq c] at q
      simp only [Bool.and_eq_true] at c
      exact ⟨q.2.symm, c.1, c.2⟩
    · rw [report_no c] at q
      simp at q
  · simp at h
theorem readS_sound {t id : List UInt8} {vs : List TVerdict} (h : readS t = (id, vs, true)) : t = txt id vs ∧ idOkB id = true ∧ vsOk vs = true := by
  unfold readS at h
  split at h
  · simp at h
  · split at h
    · exact finR_sound h
    · simp at h
theorem readS_no {t : List UInt8} (h : (readS t).2.2 = false) : readS t = ([], [], false) := by
  unfold readS at h ⊢
  split at h
  · rename_i c; rw [if_pos c]
  · rename_i c
    rw [if_neg c]
    split
    · rename_i hp
      rw [hp] at h
      simp only at h
      unfold finR at h ⊢
      split at h
      · simp at h
      · rename_i q; rw [if_neg q]
    · rfl
theorem sufOk_app (a b : List UInt8) : sufOk (a ++ b) b = true := by
  unfold sufOk
  simp
theorem preOk_app (a b : List UInt8) : preOk (b ++ a) b = true := by
  unfold preOk
  simp
def jn (c : UInt8) : List (List UInt8) → List UInt8
  | [] => []
  | [w] => w
  | w :: v :: r => w ++ c :: jn c (v :: r)
theorem jn_cons (c : UInt8) (w : List UInt8) {l : List (List UInt8)} (h : l ≠ []) : jn c (w :: l) = w ++ c :: jn c l := by
  cases l with
  | nil => exact absurd rfl h
  | cons a r => rfl
theorem rest_nl (n : Nat) : ∀ (vs : List TVerdict) (i : Nat) (p : Int), rest n i p vs = jn 10 (lns n i p vs) ++ [10]
  | [], i, p => by simp [rest, lns, jn, pl]
  | v :: r, i, p => by
    have hne : lns n (i + 1) (p + oneP v.Kind) r ≠ [] := by cases r <;> simp [lns]
    simp only [rest, lns]
    rw [jn_cons 10 _ hne, rest_nl n r (i + 1) (p + oneP v.Kind)]
    simp [lineOf, tl]
theorem lns_len (n : Nat) : ∀ (vs : List TVerdict) (i : Nat) (p : Int), (lns n i p vs).length = vs.length + 1
  | [], _, _ => rfl
  | v :: r, i, p => by simp [lns, lns_len n r]
theorem p32 {a r : List UInt8} (h : free 32 a) : pcs 32 [] (a ++ 32 :: r) = a :: pcs 32 [] r := pcs_at 32 r a [] h
theorem p32n {a : List UInt8} (h : free 32 a) : pcs 32 [] a = [a] := pcs_no 32 a [] h
theorem vow_word {k c : Int} (h : vOk k c = true) : vow (pcs 32 [] (word k c)) = (k, c, true) := by
  have hin := vOk_in h
  by_cases k3 : k = 3
  · subst k3
    have e : word 3 c = errW ++ 32 :: Lib.itoa c := rfl
    have e2 : pcs 32 [] (word 3 c) = [errW, Lib.itoa c] := by
      rw [e, p32 (lit_free rfl), p32n (itoa_free (by decide) (by decide))]
    rw [e2]
    simp only [vow]
    rw [if_pos trivial, atoi_itoa ⟨by omega, by omega⟩]
    simp only
    rw [if_pos trivial, h]
  · unfold vOk at h
    rw [if_neg k3] at h
    simp only [Bool.and_eq_true, decide_eq_true_eq] at h
    obtain ⟨_, rfl⟩ := h
    have : k = 1 ∨ k = 2 ∨ k = 4 ∨ k = 5 := by omega
    rcases this with rfl | rfl | rfl | rfl <;> decide
theorem iV_txt (all : List (List UInt8)) (id : List UInt8) (n : Nat) : ∀ (vs : List TVerdict) (i : Nat) (p : Int) (acc : List TVerdict), (∀ v ∈ vs, vOk v.Kind v.Code = true) → acc.length + vs.length = n → ∀ l, lns n i p vs = l → all.getLast? = l.getLast? →
    iV all id i p acc (l.take (l.length - 1)) = (id, acc ++ vs, true)
  | [], i, p, acc, hv, hn, l, hl, hlast => by
    subst hl
    show iV all id i p acc (List.take 0 [pl p n]) = _
    rw [List.take_zero]
    simp only [iV]
    rw [if_pos (by rw [hlast]; simp only [lns, List.getLast?_singleton, List.length_nil] at hn ⊢; rw [← hn]; simp)]
    simp
  | v :: r, i, p, acc, hv, hn, l, hl, hlast => by
    subst hl
    have hlen := lns_len n r (i + 1) (p + oneP v.Kind)
    have e : (lns n i p (v :: r)).take ((lns n i p (v :: r)).length - 1) = tl i v :: (lns n (i + 1) (p + oneP v.Kind) r).take ((lns n (i + 1) (p + oneP v.Kind) r).length - 1) := by
      simp only [lns, List.length_cons]
      rw [show (lns n (i + 1) (p + oneP v.Kind) r).length + 1 - 1 = ((lns n (i + 1) (p + oneP v.Kind) r).length - 1) + 1 by omega, List.take_succ_cons]
    rw [e]
    simp only [iV]
    have hvk := hv v (by simp)
    have et : tl i v = testW ++ 32 :: (Lib.itoa ((i + 1 : Nat) : Int) ++ 32 :: word v.Kind v.Code) := by simp [tl, testW]
    have ep : pcs 32 [] (tl i v) = testW :: Lib.itoa ((i + 1 : Nat) : Int) :: pcs 32 [] (word v.Kind v.Code) := by
      rw [et, p32 (lit_free rfl), p32 (itoa_free (by decide) (by decide))]
    have hw := vow_word hvk
    have hpos : 1 ≤ (pcs 32 [] (word v.Kind v.Code)).length := by
      have := pcs_ne 32 (word v.Kind v.Code) []
      cases hq : pcs 32 [] (word v.Kind v.Code) with
      | nil => exact absurd hq this
      | cons a b => simp
    rw [ep, if_neg (by simp only [List.length_cons]; omega)]
    simp only [List.getElem?_cons_zero, List.getElem?_cons_succ, List.drop_succ_cons, List.drop_zero]
    rw [hw, if_pos ⟨trivial, trivial, rfl⟩]
    have hlast' : all.getLast? = (lns n (i + 1) (p + oneP v.Kind) r).getLast? := by
      rw [hlast]
      simp only [lns]
      cases hq : lns n (i + 1) (p + oneP v.Kind) r with
      | nil => rw [hq] at hlen; simp at hlen
      | cons a b => simp
    have ih := iV_txt all id n r (i + 1) (p + oneP v.Kind) (acc ++ [v]) (fun x hx => hv x (by simp [hx])) (by simp only [List.length_append, List.length_cons, List.length_nil] at hn ⊢; omega) _ rfl hlast'
    refine ih.trans ?_
    simp
theorem readI_txt {id : List UInt8} {vs : List TVerdict} (h : idOkB id = true) (h' : vsOk vs = true) : readI (txt id vs) = (id, vs, true) := by
  have hl := txt_len h h'
  have hv : vs.length ≤ 20 ∧ ∀ v ∈ vs, vOk v.Kind v.Code = true := by
    simp only [vsOk, Bool.and_eq_true, decide_eq_true_eq, List.all_eq_true] at h'
    exact h'
  have et : txt id vs = ((st8 ++ id) ++ 10 :: jn 10 (lns vs.length 0 0 vs)) ++ [10] := by
    unfold txt; rw [rest_nl]; simp
  have hsuf : sufOk (txt id vs) [10] = true := by rw [et]; exact sufOk_app _ _
  have htrim : s_strings_TrimSuffix (txt id vs) [10] = (st8 ++ id) ++ 10 :: jn 10 (lns vs.length 0 0 vs) := by
    show s_internal_stringslite_TrimSuffix (txt id vs) [10] = _
    unfold s_internal_stringslite_TrimSuffix
    rw [if_pos hsuf, et]
    have hx : ∀ x : List UInt8, (x ++ [10]).take ((x ++ [10]).length - ([10] : List UInt8).length) = x := by intro x; simp
    exact hx _
  have hp : pcs 10 [] (s_strings_TrimSuffix (txt id vs) [10]) = (st8 ++ id) :: lns vs.length 0 0 vs := by
    rw [htrim, p10 (free_app (lit_free rfl) (id_free h))]
    congr 1
    have h1 := pcs_lns vs.length vs 0 0
    rw [rest_nl] at h1
    have h2 : ∀ (a : List UInt8) (l : List (List UInt8)), pcs 10 [] (a ++ [10]) = l ++ [[]] → pcs 10 [] a = l := by
      intro a l hq
      have h3 : ∀ (r cur : List UInt8), pcs 10 cur (r ++ [10]) = pcs 10 cur r ++ [[]] := by
        intro r
        induction r with
        | nil => intro cur; simp [pcs]
        | cons b r ih =>
          intro cur
          simp only [List.cons_append, pcs]
          split
          · rw [ih]; rfl
          · exact ih _
      rw [h3] at hq
      exact List.append_cancel_right hq
    exact h2 _ _ h1
  have hlen := lns_len vs.length vs 0 0
  unfold readI
  rw [if_neg (by omega), if_neg (by simp [hsuf]), hp]
  simp only
  have hd : (st8 ++ id).drop 8 = id := by simp [st8]
  rw [if_neg (by rw [preOk_app]; simp), hd, if_neg (by simp [h]), if_neg (by omega), if_neg (by omega)]
  have := iV_txt ((st8 ++ id) :: lns vs.length 0 0 vs) id vs.length vs 0 0 [] hv.2 (by simp) _ rfl (by
    cases hq : lns vs.length 0 0 vs with
    | nil => rw [hq] at hlen; simp at hlen
    | cons a b => simp)
  simpa using this
theorem sufOk_eq {a b : List UInt8} (h : sufOk a b = true) : a = a.take (a.length - b.length) ++ b := by
  simp only [sufOk, Bool.and_eq_true, decide_eq_true_eq] at h
  conv => lhs; rw [← List.take_append_drop (a.length - b.length) a, h.2]
theorem preOk_eq {a b : List UInt8} (h : preOk a b = true) : a = b ++ a.drop b.length := by
  simp only [preOk, Bool.and_eq_true, decide_eq_true_eq] at h
  conv => lhs; rw [← List.take_append_drop b.length a, h.2]
theorem jn_pcs (c : UInt8) : ∀ (r cur : List UInt8), jn c (pcs c.toNat cur r) = cur ++ r
  | [], cur => by simp [pcs, jn]
  | b :: r, cur => by
    simp only [pcs]
    split
    · rename_i h
      have hb : b = c := UInt8.toNat_inj.1 (by omega)
      rw [jn_cons c cur (pcs_ne _ r []), jn_pcs c r [], hb]; simp
    · rw [jn_pcs c r]; simp
theorem jn10 (s : List UInt8) : jn 10 (pcs 10 [] s) = s := (jn_pcs 10 s []).trans rfl
theorem jn32 (s : List UInt8) : jn 32 (pcs 32 [] s) = s := (jn_pcs 32 s []).trans rfl
theorem vow_sound {l : List (List UInt8)} {k c : Int} (h : vow l = (k, c, true)) : vOk k c = true ∧ jn 32 l = word k c := by
  match l with
  | [] => simp [vow] at h
  | [a] =>
    simp only [vow, kindOf] at h
    by_cases c1 : a = [112, 97, 115, 115]
    · subst c1; simp at h; obtain ⟨rfl, rfl⟩ := h; exact ⟨by decide, rfl⟩
    by_cases c2 : a = [102, 97, 105, 108]
    · subst c2; simp at h; obtain ⟨rfl, rfl⟩ := h; exact ⟨by decide, rfl⟩
    by_cases c3 : a = [102, 117, 101, 108]
    · subst c3; simp at h; obtain ⟨rfl, rfl⟩ := h; exact ⟨by decide, rfl⟩
    by_cases c4 : a = [99, 101, 108, 108, 115]
    · subst c4; simp at h; obtain ⟨rfl, rfl⟩ := h; exact ⟨by decide, rfl⟩
    · simp [c1, c2, c3, c4] at h
  | [a, b] =>
    simp only [vow] at h
    by_cases c1 : a = errW
    · rw [if_pos c1] at h
      cases hr : atoiR b with
      | a v =>
        rw [hr] at h
        simp only at h
        by_cases c2 : Lib.itoa v = b
        · rw [if_pos c2] at h
          simp only [Prod.mk.injEq] at h
          obtain ⟨rfl, rfl, h⟩ := h
          refine ⟨h, ?_⟩
          subst c1; subst c2
          simp [jn, word, errW]
        · rw [if_neg c2] at h; simp at h
      | b v => rw [hr] at h; simp at h
    · rw [if_neg c1] at h; simp at h
  | a :: b :: d :: r => simp [vow] at h
theorem iV_sound (all : List (List UInt8)) (id : List UInt8) : ∀ (r : List (List UInt8)) (i : Nat) (p : Int) (acc : List TVerdict) (a : List UInt8) (vs : List TVerdict), iV all id i p acc r = (a, vs, true) →
    a = id ∧ ∃ us, vs = acc ++ us ∧ us.length = r.length ∧ (∀ v ∈ us, vOk v.Kind v.Code = true) ∧ ∃ x, all.getLast? = some x ∧ r ++ [x] = lns (acc.length + us.length) i p us
  | [], i, p, acc, a, vs, h => by
    simp only [iV] at h
    split at h
    · rename_i c
      simp only [Prod.mk.injEq, and_true] at h
      obtain ⟨rfl, rfl⟩ := h
      exact ⟨rfl, [], by simp, rfl, by simp, _, c, by simp [lns]⟩
    · simp at h
  | w :: r, i, p, acc, a, vs, h => by
    simp only [iV] at h
    split at h
    · simp at h
    · rename_i c3
      split at h
      · rename_i c
        obtain ⟨c1, c2, c4⟩ := c
        obtain ⟨rfl, us, rfl, h2, h3, x, h4, h5⟩ := iV_sound all id r _ _ _ a vs h
        have hk : vow ((pcs 32 [] w).drop 2) = ((vow ((pcs 32 [] w).drop 2)).1, (vow ((pcs 32 [] w).drop 2)).2.1, true) := by rw [← c4]
        obtain ⟨k1, k2⟩ := vow_sound hk
        refine ⟨rfl, ⟨(vow ((pcs 32 [] w).drop 2)).1, (vow ((pcs 32 [] w).drop 2)).2.1⟩ :: us, by simp, by simp [h2], ?_, x, h4, ?_⟩
        · intro v hv
          rcases List.mem_cons.1 hv with rfl | hv
          · exact k1
          · exact h3 v hv
        · simp only [lns, List.cons_append]
          rw [h5]
          have hw : w = tl i ⟨(vow ((pcs 32 [] w).drop 2)).1, (vow ((pcs 32 [] w).drop 2)).2.1⟩ := by
            have hj := jn32 w
            unfold tl
            rw [← k2]
            generalize pcs 32 [] w = ps at c1 c2 c3 hj ⊢
            match ps, c1, c2, c3, hj with
            | [], _, _, c3, _ => simp at c3
            | [u], _, _, c3, _ => simp at c3
            | [u, v], _, _, c3, _ => simp at c3
            | u :: v :: y :: z, c1, c2, _, hj =>
              simp only [List.getElem?_cons_zero, List.getElem?_cons_succ, Option.some.injEq] at c1 c2
              subst c1; subst c2
              rw [← hj]
              simp [jn, testW]
          congr 1
          simp only [List.length_append, List.length_cons, List.length_nil]
          rw [show acc.length + (0 + 1) + us.length = acc.length + (us.length + 1) by omega]
      · simp at h
theorem readI_sound {t id : List UInt8} {vs : List TVerdict} (h : readI t = (id, vs, true)) : t = txt id vs ∧ idOkB id = true ∧ vsOk vs = true := by
  unfold readI at h
  split at h
  · simp at h
  split at h
  · simp at h
  rename_i c1
  have c1' : sufOk t [10] = true := by simpa using c1
  have ht := sufOk_eq c1'
  have htr : s_strings_TrimSuffix t [10] = t.take (t.length - 1) := by
    show s_internal_stringslite_TrimSuffix t [10] = _
    unfold s_internal_stringslite_TrimSuffix
    rw [if_pos c1']; rfl
  have hj := jn10 (s_strings_TrimSuffix t [10])
  split at h
  · simp at h
  rename_i a l hp
  rw [hp] at hj
  split at h
  · simp at h
  rename_i c2
  split at h
  · simp at h
  rename_i c3
  split at h
  · simp at h
  rename_i c4
  split at h
  · simp at h
  rename_i c5
  obtain ⟨rfl, us, hvs, h2, h3, x, h4, h5⟩ := iV_sound _ _ _ _ _ _ _ _ h
  rw [List.nil_append] at hvs
  subst hvs
  simp only [List.length_nil, Nat.zero_add] at h5
  have hlast : l.getLast? = some x := by
    cases l with
    | nil => simp at c4
    | cons y z => simpa using h4
  obtain ⟨ys, hys⟩ := List.getLast?_eq_some_iff.1 hlast
  have hl : l = l.take (l.length - 1) ++ [x] := by rw [hys]; simp
  have hml : (l.take (l.length - 1)).length = l.length - 1 := by rw [List.length_take]; omega
  have hla : l = lns vs.length 0 0 vs := hl.trans h5
  have hst := preOk_eq (show preOk a st8 = true by simpa using c2)
  have hst' : a = st8 ++ a.drop 8 := hst
  have hid : idOkB (a.drop 8) = true := by simpa using c3
  refine ⟨?_, hid, ?_⟩
  · rw [ht]
    have e : t.take (t.length - ([10] : List UInt8).length) = jn 10 (a :: l) := by rw [hj, htr]; rfl
    rw [e, jn_cons 10 a (by intro q; rw [q] at c4; simp at c4), hla]
    unfold txt
    rw [rest_nl]
    conv => lhs; rw [hst']
    simp
  · unfold vsOk
    simp only [Bool.and_eq_true, decide_eq_true_eq, List.all_eq_true]
    exact ⟨by omega, h3⟩
theorem iV_no (all : List (List UInt8)) (id : List UInt8) : ∀ (r : List (List UInt8)) (i : Nat) (p : Int) (acc : List TVerdict), (iV all id i p acc r).2.2 = false → iV all id i p acc r = ([], [], false)
  | [], i, p, acc, h => by
    simp only [iV] at h ⊢
    split at h
    · simp at h
    · rename_i c; rw [if_neg c]
  | w :: r, i, p, acc, h => by
    simp only [iV] at h ⊢
    split at h
    · rename_i c; rw [if_pos c]
    · rename_i c
      rw [if_neg c]
      split at h
      · rename_i c'
        rw [if_pos c']
        exact iV_no all id r _ _ _ h
      · rename_i c'; rw [if_neg c']
theorem readI_no {t : List UInt8} (h : (readI t).2.2 = false) : readI t = ([], [], false) := by
  unfold readI at h ⊢
  by_cases c0 : 10000 < t.length
  · rw [if_pos c0]
  rw [if_neg c0] at h ⊢
  by_cases c1 : sufOk t [10] = false
  · rw [if_pos c1]
  rw [if_neg c1] at h ⊢
  cases hp : pcs 10 [] (s_strings_TrimSuffix t [10]) with
  | nil => rfl
  | cons a l =>
    rw [hp] at h
    simp only at h ⊢
    by_cases c2 : preOk a st8 = false
    · rw [if_pos c2]
    rw [if_neg c2] at h ⊢
    by_cases c3 : idOkB (a.drop 8) = false
    · rw [if_pos c3]
    rw [if_neg c3] at h ⊢
    by_cases c4 : l.length < 1
    · rw [if_pos c4]
    rw [if_neg c4] at h ⊢
    by_cases c5 : 20 < l.length - 1
    · rw [if_pos c5]
    rw [if_neg c5] at h ⊢
    exact iV_no _ _ _ _ _ _ h
theorem read_same (t : List UInt8) : readI t = readS t := by
  cases h : (readS t).2.2 with
  | true =>
    have e : readS t = ((readS t).1, (readS t).2.1, true) := by rw [← h]
    obtain ⟨h1, h2, h3⟩ := readS_sound e
    rw [e]
    conv => lhs; rw [h1]
    exact readI_txt h2 h3
  | false =>
    rw [readS_no h]
    cases h' : (readI t).2.2 with
    | false => exact readI_no h'
    | true =>
      have e : readI t = ((readI t).1, (readI t).2.1, true) := by rw [← h']
      obtain ⟨h1, h2, h3⟩ := readI_sound e
      have := readS_txt h2 h3
      rw [← h1] at this
      rw [this] at h
      simp at h
section
variable (L1 : List UInt8 → List UInt8 → Option Bool) (h1 : ∀ a b, pre_strings_HasSuffix a b → L1 a b = some (s_strings_HasSuffix a b)) (L2 : List UInt8 → List UInt8 → Option (List UInt8)) (h2 : ∀ a b, pre_strings_TrimSuffix a b → L2 a b = some (s_strings_TrimSuffix a b))
  (L3 : List UInt8 → List UInt8 → Option (List (List UInt8))) (h3 : ∀ a b, pre_strings_Split a b → L3 a b = some (s_strings_Split a b)) (L4 : List UInt8 → List UInt8 → Option (List UInt8 × Bool)) (h4 : ∀ a b, pre_strings_CutPrefix a b → L4 a b = some (s_strings_CutPrefix a b))
  (L5 : List UInt8 → Option Bool) (h5 : ∀ l, pre_impl_idOk l → L5 l = some (s_impl_idOk l)) (L6 : Int → Option (List UInt8)) (h6 : ∀ a, pre_strconv_Itoa a → L6 a = some (s_strconv_Itoa a))
  (L7 : List (List UInt8) → Option (Int × Int × Bool)) (h7 : ∀ l, pre_impl_verdictOfWords l → L7 l = some (s_impl_verdictOfWords l))
include h1 h2 h3 h4 h5 h6 h7
theorem p_impl_ReadReport (t : List UInt8) (h : pre_impl_ReadReport t) : ∃ N, impl_ReadReport_f L1 L2 L3 L4 L5 L6 L7 N t = some (s_impl_ReadReport t) := by
  obtain ⟨N, hN⟩ := impl_ReadReport_all L1 h1 L2 h2 L3 h3 L4 h4 L5 h5 L6 h6 L7 h7 t h
  exact ⟨N, by rw [hN, read_same]; rfl⟩
end
def pre_spec_DrawReport (c : List Int) : Prop := pre_spec_l1Open c
def dRep (c : List Int) : List UInt8 × List TVerdict := (idOf (nx (c.take 1000) 0), (vsOf (c.take 1000) (npx (c.take 1000) 0)).1)
def s_spec_DrawReport (c : List Int) : List UInt8 × List TVerdict := dRep c
theorem p_spec_DrawReport (L1 : List Int → Option (List Int × Int)) (h1 : ∀ c, pre_spec_l1Open c → L1 c = some (s_spec_l1Open c)) (L2 : List Int → Int → Option (List UInt8 × List Int × Int)) (h2 : ∀ b p, pre_spec_l6Id b p → L2 b p = some (s_spec_l6Id b p))
    (L3 : List Int → Int → Option (List TVerdict × List Int × Int)) (h3 : ∀ b p, pre_spec_l6Verdicts b p → L3 b p = some (s_spec_l6Verdicts b p)) (c : List Int) (h : pre_spec_DrawReport c) :
    ∃ N, spec_DrawReport_f L1 L2 L3 N c = some (s_spec_DrawReport c) := by
  refine ⟨0, ?_⟩
  have hr := open_rdOk h
  unfold spec_DrawReport_f s_spec_DrawReport dRep
  rw [h1 c h]
  simp only [Option.bind_some, s_spec_l1Open]
  rw [h2 _ _ hr]
  simp only [Option.bind_some, s_spec_l6Id]
  rw [h3 _ _ (np_rd hr)]
  rfl
def pre_strings_Join (l : List (List UInt8)) (s : List UInt8) : Prop := l.length ≤ 140737488355328 ∧ (Lib.join l s).length ≤ 140737488355328
def s_strings_Join (l : List (List UInt8)) (s : List UInt8) : List UInt8 := Lib.join l s
theorem q_strings_Join {l : List (List UInt8)} {s : List UInt8} (h : pre_strings_Join l s) : l.length ≤ 140737488355328 ∧ (Lib.join l s).length ≤ 140737488355328 := h
def pre___strings_Builder__WriteString (T : Nat) (b s : List UInt8) : Prop := liesB T ∧ b.length + s.length ≤ 140737488355328
def s___strings_Builder__WriteString (T : Nat) (b s : List UInt8) : Int × List UInt8 := (s.length, b ++ s)
theorem q___strings_Builder__WriteString {T : Nat} {b s : List UInt8} (h : pre___strings_Builder__WriteString T b s) : liesB T ∧ b.length + s.length ≤ 140737488355328 := h
def pre___strings_Builder__WriteByte (T : Nat) (b : List UInt8) (c : Int) : Prop := liesB T ∧ b.length + 1 ≤ 140737488355328 ∧ 0 ≤ c ∧ c < 256
def s___strings_Builder__WriteByte (T : Nat) (b : List UInt8) (c : Int) : List UInt8 := b ++ [UInt8.ofNat c.toNat]
theorem q___strings_Builder__WriteByte {T : Nat} {b : List UInt8} {c : Int} (h : pre___strings_Builder__WriteByte T b c) : liesB T ∧ b.length + 1 ≤ 140737488355328 ∧ 0 ≤ c ∧ c < 256 := h
def pre___impl_lines__put (b : List UInt8) (ws : List (List UInt8)) : Prop := ws.length ≤ 1000 ∧ b.length ≤ 1000000 ∧ (Lib.join ws [32]).length ≤ 1000000
def s___impl_lines__put (b : List UInt8) (ws : List (List UInt8)) : List UInt8 := b ++ (Lib.join ws [32] ++ [10])
theorem lies_L : liesB 58 := ⟨by kernel_rfl, by decide⟩
theorem p___impl_lines__put (JN : List (List UInt8) → List UInt8 → Option (List UInt8)) (hJN : ∀ l s, pre_strings_Join l s → JN l s = some (s_strings_Join l s))
    (WS : Nat → List UInt8 → List UInt8 → Option (Int × List UInt8)) (hWS : ∀ T b s, pre___strings_Builder__WriteString T b s → WS T b s = some (s___strings_Builder__WriteString T b s))
    (WB : Nat → List UInt8 → Int → Option (List UInt8)) (hWB : ∀ T b c, pre___strings_Builder__WriteByte T b c → WB T b c = some (s___strings_Builder__WriteByte T b c))
    (b : List UInt8) (ws : List (List UInt8)) (h : pre___impl_lines__put b ws) : ∃ N, __impl_lines__put_f JN WS WB N b ws = some (s___impl_lines__put b ws) := by
  refine ⟨0, ?_⟩
  obtain ⟨h1, h2, h3⟩ := h
  unfold __impl_lines__put_f s___impl_lines__put
  rw [hJN _ _ ⟨by omega, by omega⟩]
  simp only [Option.bind_some, s_strings_Join]
  rw [hWS _ _ _ ⟨lies_L, by omega⟩]
  simp only [Option.bind_some, s___strings_Builder__WriteString]
  rw [hWB _ _ _ ⟨lies_L, by rw [List.length_append]; omega, by omega, by omega⟩]
  simp only [Option.bind_some, s___strings_Builder__WriteByte, List.append_assoc]
  rfl
def pre_impl_verdictWord (k c : Int) : Prop := vOk k c = true
def s_impl_verdictWord (k c : Int) : List UInt8 := word k c
theorem p_impl_verdictWord (L : Int → Option (List UInt8)) (hL : ∀ a, pre_strconv_Itoa a → L a = some (s_strconv_Itoa a)) (k c : Int) (h : pre_impl_verdictWord k c) : ∃ N, impl_verdictWord_f L N k c = some (s_impl_verdictWord k c) := by
  refine ⟨0, ?_⟩
  obtain ⟨g1, g2, g3, g4⟩ := vOk_in h
  have hd : dOk c := ⟨by omega, by omega⟩
  have hlen := itoa_len hd
  unfold impl_verdictWord_f s_impl_verdictWord word
  by_cases k3 : k = 3
  · rw [if_pos k3, if_pos k3, hL _ ⟨by omega, by omega⟩]
    simp only [Option.bind_some, s_strconv_Itoa]
    rw [if_pos (by unfold roomS; omega)]; rfl
  · have : k = 1 ∨ k = 2 ∨ k = 4 ∨ k = 5 := by omega
    rcases this with rfl | rfl | rfl | rfl <;> rfl
def pre___strings_Builder__String (T : Nat) (b : List UInt8) : Prop := liesB T
def s___strings_Builder__String (T : Nat) (b : List UInt8) : List UInt8 × List UInt8 := (b, b)
theorem q___strings_Builder__String {T : Nat} {b : List UInt8} (h : pre___strings_Builder__String T b) : liesB T := h
theorem join2 (a b : List UInt8) : Lib.join [a, b] [32] = a ++ ([32] ++ b) := by simp [Lib.join, List.intercalate]
theorem join3 (a b c : List UInt8) : Lib.join [a, b, c] [32] = a ++ ([32] ++ (b ++ ([32] ++ c))) := by simp [Lib.join, List.intercalate]
theorem join4 (a b c d : List UInt8) : Lib.join [a, b, c, d] [32] = a ++ ([32] ++ (b ++ ([32] ++ (c ++ ([32] ++ d))))) := by simp [Lib.join, List.intercalate]
section
variable (L1 : List UInt8 → Option Bool) (h1 : ∀ l, pre_impl_idOk l → L1 l = some (s_impl_idOk l)) (L2 : List UInt8 → List (List UInt8) → Option (List UInt8)) (h2 : ∀ b l, pre___impl_lines__put b l → L2 b l = some (s___impl_lines__put b l))
  (L3 : Int → Int → Option Bool) (h3 : ∀ k c, pre_impl_verdictOk k c → L3 k c = some (s_impl_verdictOk k c)) (L4 : Int → Option (List UInt8)) (h4 : ∀ a, pre_strconv_Itoa a → L4 a = some (s_strconv_Itoa a))
  (L5 : Int → Int → Option (List UInt8)) (h5 : ∀ k c, pre_impl_verdictWord k c → L5 k c = some (s_impl_verdictWord k c)) (L6 : Nat → List UInt8 → Option (List UInt8 × List UInt8)) (h6 : ∀ T b, pre___strings_Builder__String T b → L6 T b = some (s___strings_Builder__String T b))
include h1 h2 h3 h4 h5 h6
theorem l_implReport (l : List TVerdict) (hl : l.length ≤ 20) : ∀ (r : List TVerdict) (j e : Nat) (acc : List UInt8) (p : Int), l.drop j = r → acc.length ≤ 1000 + 100 * j → 0 ≤ p → p ≤ j → j ≤ l.length →
    impl_Report_l0 L1 L2 L3 L4 L5 L6 (r.length + 1 + e) l p l l.length j acc = if (r.all fun v => vOk v.Kind v.Code) = true then some (acc ++ rest l.length j p r, true) else some ([], false)
  | [], j, e, acc, p, hd, ha, hp, hpj, hjl => by
    have hdp : dOk p := ⟨by omega, by omega⟩
    have hdn : dOk (l.length : Int) := ⟨by omega, by omega⟩
    have e1 := itoa_len hdp
    have e2 := itoa_len hdn
    rw [List.length_nil, fuel0]
    simp only [impl_Report_l0]
    rw [if_neg (at_nil hd), h4 p ⟨by omega, by omega⟩, h4 (l.length : Int) ⟨by omega, by omega⟩]
    simp only [Option.bind_some, s_strconv_Itoa]
    rw [h2 _ _ ⟨by simp, by omega, by rw [join4]; simp only [List.length_append, List.length_cons, List.length_nil]; omega⟩]
    simp only [Option.bind_some]
    rw [h6 _ _ lies_L]
    simp only [Option.bind_some, s___strings_Builder__String, s___impl_lines__put, join4, List.all_nil, if_true, rest, List.append_assoc, List.cons_append, List.nil_append]
  | v :: r, j, e, acc, p, hd, ha, hp, hpj, hjl => by
    obtain ⟨g1, g2, g3, g4, g5, g6⟩ := at_cons hd
    have hdj : dOk ((j + 1 : Nat) : Int) := ⟨by omega, by omega⟩
    have e1 := itoa_len hdj
    have eb : 0 ≤ oneP v.Kind ∧ oneP v.Kind ≤ 1 := by unfold oneP; split <;> omega
    rw [List.length_cons, fuel]
    simp only [impl_Report_l0]
    rw [if_pos g2, g3]
    simp only [Option.bind_some]
    rw [h3 _ _ trivial]
    simp only [Option.bind_some, s_impl_verdictOk]
    by_cases hvv : vOk v.Kind v.Code = true
    · have e2 := word_len hvv
      have hput : pre___impl_lines__put acc [[116, 101, 115, 116], Lib.itoa ((j + 1 : Nat) : Int), word v.Kind v.Code] :=
        ⟨by simp, by omega, by rw [join3]; simp only [List.length_append, List.length_cons, List.length_nil]; omega⟩
      have hih := fun q (hq : 0 ≤ q ∧ q ≤ ((j + 1 : Nat) : Int)) => l_implReport l hl r (j + 1) e (s___impl_lines__put acc [[116, 101, 115, 116], Lib.itoa ((j + 1 : Nat) : Int), word v.Kind v.Code]) q g5
        (by unfold s___impl_lines__put; rw [join3]; simp only [List.length_append, List.length_cons, List.length_nil]; omega) hq.1 hq.2 (by omega)
      have hre : s___impl_lines__put acc [[116, 101, 115, 116], Lib.itoa ((j + 1 : Nat) : Int), word v.Kind v.Code] = acc ++ lineOf j v := by
        unfold s___impl_lines__put lineOf; rw [join3]; simp only [List.append_assoc, List.cons_append, List.nil_append]
      rw [hvv, if_neg (by simp), succ_w g1 (by rw [big_eq]; omega), h4 _ ⟨by omega, by omega⟩, h5 _ _ hvv]
      simp only [Option.bind_some, s_strconv_Itoa, s_impl_verdictWord]
      rw [h2 _ _ hput]
      simp only [Option.bind_some]
      rw [List.all_cons, hvv, Bool.true_and]
      by_cases c : v.Kind = 1
      · have eo : oneP v.Kind = 1 := by unfold oneP; rw [if_pos c]
        rw [if_pos c, w64_in (by omega), hih (p + 1) ⟨by omega, by omega⟩, hre]
        simp only [rest, eo, List.append_assoc]
      · have eo : oneP v.Kind = 0 := by unfold oneP; rw [if_neg c]
        rw [if_neg c, hih p ⟨by omega, by omega⟩, hre]
        simp only [rest, eo, Int.add_zero, List.append_assoc]
    · have hv' : vOk v.Kind v.Code = false := by simpa using hvv
      rw [hv', if_pos rfl, List.all_cons, hv']; rfl
def pre_impl_Report (id : List UInt8) (vs : List TVerdict) : Prop := id.length ≤ 1048576 ∧ few vs
def s_impl_Report (id : List UInt8) (vs : List TVerdict) : List UInt8 × Bool := report id vs
theorem p_impl_Report (id : List UInt8) (vs : List TVerdict) (h : pre_impl_Report id vs) : ∃ N, impl_Report_f L1 L2 L3 L4 L5 L6 N id vs = some (s_impl_Report id vs) := by
  refine ⟨vs.length + 1, ?_⟩
  obtain ⟨k1, k2⟩ := h
  unfold impl_Report_f s_impl_Report report
  rw [h1 _ (show id.length ≤ big by rw [big_eq]; omega)]
  simp only [Option.bind_some, s_impl_idOk]
  by_cases c : idOkB id = true
  · have c1 := c
    simp only [idOkB, Bool.and_eq_true, decide_eq_true_eq] at c1
    rw [c, if_neg (by simp)]
    by_cases c' : 20 < (vs.length : Int)
    · have : ¬ vs.length ≤ 20 := by omega
      rw [if_pos c']; simp [vsOk, this]
    · have hn : vs.length ≤ 20 := by omega
      rw [if_neg c', h2 _ _ ⟨by simp, by simp, by rw [join2]; simp only [List.length_append, List.length_cons, List.length_nil]; omega⟩]
      simp only [Option.bind_some]
      refine (l_implReport L1 h1 L2 h2 L3 h3 L4 h4 L5 h5 L6 h6 vs hn vs 0 0 _ 0 rfl (by unfold s___impl_lines__put; rw [join2]; simp only [List.length_append, List.length_cons, List.length_nil]; omega) (by omega) (by omega) (by omega)).trans ?_
      have hre : s___impl_lines__put [] [[115, 116, 117, 100, 101, 110, 116], id] = [115, 116, 117, 100, 101, 110, 116, 32] ++ (id ++ [10]) := by
        unfold s___impl_lines__put; rw [join2]; simp only [List.append_assoc, List.cons_append, List.nil_append]
      rw [hre]
      by_cases c2 : (vs.all fun v => vOk v.Kind v.Code) = true
      · rw [if_pos c2]; simp [vsOk, hn, c2]
      · have c3 : (vs.all fun v => vOk v.Kind v.Code) = false := by simpa using c2
        rw [if_neg c2]; simp [vsOk, hn, c3]
  · have c1 : idOkB id = false := by simpa using c
    rw [c1]; simp
end
def pre_spec_SameVerdicts (a b : List TVerdict) : Prop := few a ∧ a = b
def s_spec_SameVerdicts (a b : List TVerdict) : Bool := true
theorem l_sameV (a : List TVerdict) (ha : few a) : ∀ (r : List TVerdict) (j e : Nat), a.drop j = r → spec_SameVerdicts_l0 (r.length + 1 + e) a a j = some true
  | [], j, e, hd => by
    rw [List.length_nil, fuel0]
    simp only [spec_SameVerdicts_l0]
    rw [if_neg (at_nil hd)]
  | x :: r, j, e, hd => by
    obtain ⟨h1, h2, h3, h4, h5, h6⟩ := at_cons hd
    rw [List.length_cons, fuel]
    simp only [spec_SameVerdicts_l0]
    rw [if_pos h2, h3]
    simp only [Option.bind_some, decide_true, Bool.and_self, Bool.true_eq_false, if_false]
    rw [succ_w h1 (few_big ha)]
    exact l_sameV a ha r (j + 1) e h5
theorem p_spec_SameVerdicts (a b : List TVerdict) (h : pre_spec_SameVerdicts a b) : ∃ N, spec_SameVerdicts_f N a b = some (s_spec_SameVerdicts a b) := by
  obtain ⟨h, rfl⟩ := h
  refine ⟨a.length + 1, ?_⟩
  unfold spec_SameVerdicts_f s_spec_SameVerdicts
  rw [if_pos rfl]
  exact l_sameV a h a 0 0 rfl
def pre_laws_FnReport (c : List Int) : Prop := c.length ≤ 9223372036854775807 ∧ ∀ x ∈ c, 0 ≤ x ∧ x ≤ 255
def s_laws_FnReport (c : List Int) : Bool := true
theorem cutQ_len (s : List UInt8) (q m : Int) : (cutQ s q m).length ≤ 2 * s.length + 1 := by
  have hm : (midW m).length ≤ 1 := by
    unfold midW
    repeat' split
    all_goals decide
  unfold cutQ
  simp only [List.length_append, List.length_take, List.length_drop]
  omega
theorem dRd_len (c : List Int) : (dRd c).length ≤ 1048576 := by
  unfold dRd
  have h1 := report_len (idOf (nx (c.take 1000) (npx (c.take 1000) 0))) (vsOf (c.take 1000) (npx (c.take 1000) (npx (c.take 1000) 0))).1
  simp only
  split
  · have := cutQ_len (report (idOf (nx (c.take 1000) (npx (c.take 1000) 0))) (vsOf (c.take 1000) (npx (c.take 1000) (npx (c.take 1000) 0))).1).1
    refine Nat.le_trans (this _ _) ?_
    omega
  · omega
theorem p_laws_FnReport (L1 : List Int → Option (List UInt8)) (h1 : ∀ c, pre_spec_DrawReadReport c → L1 c = some (s_spec_DrawReadReport c))
    (L2 : List UInt8 → Option (List UInt8 × List TVerdict × Bool)) (h2 : ∀ s, pre_spec_ReadReport s → L2 s = some (s_spec_ReadReport s))
    (L3 : List UInt8 → Option (List UInt8 × List TVerdict × Bool)) (h3 : ∀ s, pre_impl_ReadReport s → L3 s = some (s_impl_ReadReport s))
    (L4 : List Int → Option (List UInt8 × List TVerdict)) (h4 : ∀ c, pre_spec_DrawReport c → L4 c = some (s_spec_DrawReport c))
    (L5 : List UInt8 → List TVerdict → Option (List UInt8 × Bool)) (h5 : ∀ a b, pre_spec_Report a b → L5 a b = some (s_spec_Report a b))
    (L6 : List UInt8 → List TVerdict → Option (List UInt8 × Bool)) (h6 : ∀ a b, pre_impl_Report a b → L6 a b = some (s_impl_Report a b))
    (L7 : List TVerdict → List TVerdict → Option Bool) (h7 : ∀ a b, pre_spec_SameVerdicts a b → L7 a b = some (s_spec_SameVerdicts a b))
    (c : List Int) (h : pre_laws_FnReport c) : ∃ N, laws_FnReport_f L1 L2 L3 L4 L5 L6 L7 N c = some (s_laws_FnReport c) := by
  refine ⟨0, ?_⟩
  unfold laws_FnReport_f s_laws_FnReport
  by_cases cl : 1048576 < (c.length : Int)
  · rw [if_pos cl]
  · rw [if_neg cl]
    have ho : pre_spec_l1Open c := ⟨by omega, h.2⟩
    have hr := open_rdOk ho
    rw [h1 _ ho]
    simp only [Option.bind_some, s_spec_DrawReadReport]
    have hl := dRd_len c
    rw [h2 _ hl, h3 _ hl]
    simp only [Option.bind_some, s_spec_ReadReport, s_impl_ReadReport]
    rw [h4 _ ho]
    simp only [Option.bind_some, s_spec_DrawReport]
    have hf : few (dRep c).2 := vsOf_few (np_rd hr)
    have hi : (dRep c).1.length ≤ 21 := idOf_len _
    generalize (dRep c).1 = id at hi ⊢
    generalize (dRep c).2 = vs at hf ⊢
    rw [h5 _ _ ⟨by omega, hf⟩, h6 _ _ ⟨by omega, hf⟩]
    simp only [Option.bind_some, s_spec_Report, s_impl_Report, beq_self_eq_true, Bool.true_eq_false, if_false]
    by_cases ck : (idOkB id && vsOk vs) = true
    · rw [report_eq ck]
      rw [Bool.and_eq_true] at ck
      have hx : (idOkB [120] && vsOk vs) = true := by rw [ck.2]; decide
      have tl1 := txt_len ck.1 ck.2
      have tl2 := txt_len (id := [120]) (by decide) ck.2
      simp only [Bool.true_eq_false, if_false]
      rw [h3 _ (show (txt id vs).length ≤ 1048576 by omega)]
      simp only [Option.bind_some, s_impl_ReadReport]
      rw [readS_txt ck.1 ck.2]
      simp only
      rw [h6 _ _ ⟨by decide, hf⟩]
      simp only [Option.bind_some, s_impl_Report]
      rw [report_eq hx]
      simp only
      rw [h3 _ (show (txt [120] vs).length ≤ 1048576 by omega)]
      simp only [Option.bind_some, s_impl_ReadReport]
      rw [readS_txt (by decide) ck.2]
      simp only [Bool.true_eq_false, if_false, if_true]
      rw [h7 _ _ ⟨hf, rfl⟩]
      simp only [Option.bind_some, s_spec_SameVerdicts, Bool.true_eq_false, if_false]
      have e1 : txt [120] vs = (st8 ++ [120]) ++ (10 :: rest vs.length 0 0 vs) := by unfold txt; simp
      have e2 : txt id vs = (st8 ++ id) ++ (10 :: rest vs.length 0 0 vs) := by unfold txt; simp
      have n1 : (st8 ++ [(120 : UInt8)]).length = 9 := rfl
      have n2 : (st8 ++ id).length = 8 + id.length := by rw [List.length_append]; rfl
      have g1 : (txt [120] vs).length = 10 + (rest vs.length 0 0 vs).length := by rw [e1, List.length_append, n1, List.length_cons]; omega
      have g2 : (txt id vs).length = 9 + id.length + (rest vs.length 0 0 vs).length := by rw [e2, List.length_append, n2, List.length_cons]; omega
      have d1 : (txt [120] vs).drop 9 = 10 :: rest vs.length 0 0 vs := by rw [e1, ← n1]; exact List.drop_left
      have d2 : (txt id vs).drop (8 + id.length) = 10 :: rest vs.length 0 0 vs := by rw [e2, ← n2]; exact List.drop_left
      have c1 : cut (txt [120] vs) 9 ((txt [120] vs).length : Int) = some (10 :: rest vs.length 0 0 vs) := by
        have := cut_tail (s := txt [120] vs) (a := 9) (by omega)
        rw [d1] at this
        exact this
      have c2 : cut (txt id vs) (8 + (id.length : Int)) ((txt id vs).length : Int) = some (10 :: rest vs.length 0 0 vs) := by
        have := cut_tail (s := txt id vs) (a := 8 + id.length) (by omega)
        rw [d2] at this
        rw [show (8 + (id.length : Int)) = ((8 + id.length : Nat) : Int) by omega]
        exact this
      rw [w64_in (by omega), if_pos (by omega), if_pos (by omega), c1]
      simp only [Option.bind_some]
      rw [c2]
      simp
    · rw [report_no ck]
      simp
theorem pre_of_laws_FnReport {c : List Int} (h : c.length ≤ maxLen ∧ ∀ x ∈ c, (Lit.int .u8 x).wf = true) : pre_laws_FnReport c := ⟨h.1, fun x hx => by
  have := h.2 x hx
  simp only [Lit.wf, Bool.and_eq_true, decide_eq_true_eq] at this
  rw [show IntKind.min .u8 = 0 by decide, show IntKind.max .u8 = 255 by decide] at this
  exact this⟩
end Go.Vm
