/- Disks: what the functions of FnExactRecover answer. -/
import Derived.Test.YtbfmeoiblppnbaaPBase
import Derived.Test.YtbfmeoiblppnbaaFRec
import Derived.Test.YtbfmeoiblppnbaaVmLayer
set_option linter.unusedVariables false
set_option linter.unusedSimpArgs false
namespace Go.Vm

-- szFile
def pre_laws_szFile (n d : List UInt8) (left : Int) : Prop := n.length ≤ big ∧ d.length ≤ big ∧ 0 ≤ left ∧ left ≤ 1048576
def s_laws_szFile (n d : List UInt8) (left : Int) : Int := if left < n.length then -1 else if left - n.length < d.length then -1 else left - n.length - d.length
theorem p_laws_szFile (n d : List UInt8) (left : Int) (h : pre_laws_szFile n d left) : ∃ N, laws_szFile_f N n d left = some (s_laws_szFile n d left) := by
  obtain ⟨h1, h2, h3, h4⟩ := h
  rw [big_eq] at h1 h2
  refine ⟨0, ?_⟩
  unfold laws_szFile_f s_laws_szFile
  rw [w64_in (n := left - n.length) (by omega)]
  by_cases c1 : left < n.length
  · rw [if_pos c1, if_pos (by omega)]
  · rw [if_neg c1, if_neg (by omega), w64_in (by omega)]
    by_cases c2 : left - n.length < d.length
    · rw [if_pos c2, if_pos (by omega)]
    · rw [if_neg c2, if_neg (by omega)]
def fileIn (x : TFile) : Prop := x.Name.length ≤ big ∧ x.Data.length ≤ big
def szF : List TFile → Int → Int
  | [], left => left
  | x :: r, left => if s_laws_szFile x.Name x.Data left < 0 then -1 else szF r (s_laws_szFile x.Name x.Data left)
theorem szFile_le (n d : List UInt8) (left : Int) (h : left ≤ 1048576) : s_laws_szFile n d left ≤ 1048576 := by
  unfold s_laws_szFile; split
  · omega
  · split <;> omega
theorem l_szFileS (L : List UInt8 → List UInt8 → Int → Option Int) (hL : ∀ n d l, pre_laws_szFile n d l → L n d l = some (s_laws_szFile n d l)) (l : List TFile) (hl : few l) (hf : ∀ x ∈ l, fileIn x) :
    ∀ (r : List TFile) (j e : Nat) (left : Int), l.drop j = r → 0 ≤ left → left ≤ 1048576 → laws_szFileS_l0 L (r.length + 1 + e) l left j = some (szF r left)
  | [], j, e, left, hd, h0, h1 => by
    rw [List.length_nil, fuel0]
    simp only [laws_szFileS_l0]
    rw [if_neg (at_nil hd)]; rfl
  | x :: r, j, e, left, hd, h0, h1 => by
    obtain ⟨g1, g2, g3, g4, g5, g6⟩ := at_cons hd
    have hx := hf x (List.mem_of_getElem? g4)
    rw [List.length_cons, fuel]
    simp only [laws_szFileS_l0]
    rw [if_pos g2, g3]
    simp only [Option.bind_some]
    rw [hL _ _ _ ⟨hx.1, hx.2, h0, h1⟩]
    simp only [Option.bind_some, szF]
    by_cases c : s_laws_szFile x.Name x.Data left < 0
    · rw [if_pos c, if_pos c]
    · rw [if_neg c, if_neg c, succ_w g1 (few_big hl)]
      exact l_szFileS L hL l hl hf r (j + 1) e _ g5 (by omega) (szFile_le _ _ _ h1)
def pre_laws_szFileS (l : List TFile) (left : Int) : Prop := l.length ≤ big ∧ (∀ x ∈ l, fileIn x) ∧ 0 ≤ left ∧ left ≤ 1048576
def s_laws_szFileS (l : List TFile) (left : Int) : Int := if left < l.length then -1 else szF l (left - l.length)
theorem p_laws_szFileS (L : List UInt8 → List UInt8 → Int → Option Int) (hL : ∀ n d l, pre_laws_szFile n d l → L n d l = some (s_laws_szFile n d l)) (l : List TFile) (left : Int) (h : pre_laws_szFileS l left) :
    ∃ N, laws_szFileS_f L N l left = some (s_laws_szFileS l left) := by
  obtain ⟨h1, h2, h3, h4⟩ := h
  rw [big_eq] at h1
  refine ⟨l.length + 1, ?_⟩
  unfold laws_szFileS_f s_laws_szFileS
  rw [w64_in (n := left - l.length) (by omega)]
  by_cases c : left < l.length
  · rw [if_pos c, if_pos (by omega)]
  · rw [if_neg c, if_neg (by omega)]
    exact l_szFileS L hL l (by unfold few; omega) h2 l 0 0 _ rfl (by omega) (by omega)
def pre_laws_szDisk (l : List TFile) (left : Int) : Prop := pre_laws_szFileS l left
def s_laws_szDisk (l : List TFile) (left : Int) : Int := if s_laws_szFileS l left < 0 then -1 else s_laws_szFileS l left
theorem p_laws_szDisk (L : List TFile → Int → Option Int) (hL : ∀ l n, pre_laws_szFileS l n → L l n = some (s_laws_szFileS l n)) (l : List TFile) (left : Int) (h : pre_laws_szDisk l left) :
    ∃ N, laws_szDisk_f L N l left = some (s_laws_szDisk l left) := by
  refine ⟨0, ?_⟩
  unfold laws_szDisk_f s_laws_szDisk
  rw [hL _ _ h]
  simp only [Option.bind_some]
  split <;> rfl

-- toFile, toFileS, toDisk
def pre_laws_toFile (n d : List UInt8) : Prop := True
def s_laws_toFile (n d : List UInt8) : List UInt8 × List UInt8 := (n, d)
theorem p_laws_toFile (n d : List UInt8) (h : pre_laws_toFile n d) : ∃ N, laws_toFile_f N n d = some (s_laws_toFile n d) := ⟨0, rfl⟩
theorem l_toFileS (L : List UInt8 → List UInt8 → Option (List UInt8 × List UInt8)) (hL : ∀ n d, pre_laws_toFile n d → L n d = some (s_laws_toFile n d)) (l : List TFile) (hl : few l) :
    ∀ (r : List TFile) (j e : Nat) (z : List TFile), l.drop j = r → z.length = l.length → z.take j = l.take j → laws_toFileS_l0 L (r.length + 1 + e) l j z = some l
  | [], j, e, z, hd, hz, ht => by
    have h := at_nil hd
    have hj : l.length ≤ j := by omega
    rw [List.length_nil, fuel0]
    simp only [laws_toFileS_l0]
    rw [if_neg h, ← List.take_of_length_le (show z.length ≤ j by omega), ht, List.take_of_length_le hj]
  | x :: r, j, e, z, hd, hz, ht => by
    obtain ⟨h1, h2, h3, h4, h5, h6⟩ := at_cons hd
    rw [List.length_cons, fuel]
    simp only [laws_toFileS_l0]
    rw [if_pos h2, h3]
    simp only [Option.bind_some]
    rw [hL _ _ trivial]
    simp only [Option.bind_some, s_laws_toFile]
    rw [if_pos (by omega), Int.toNat_natCast, setN, if_pos (by omega)]
    simp only [Option.bind_some]
    rw [succ_w h1 (few_big hl)]
    refine l_toFileS L hL l hl r (j + 1) e (z.set j x) h5 (by simp [hz]) ?_
    rw [List.take_add_one, List.take_add_one, List.getElem?_set_self (by omega), h4, List.take_set_of_le (Nat.le_refl j), ht]
def pre_laws_toFileS (l : List TFile) : Prop := few l
def s_laws_toFileS (l : List TFile) : List TFile := l
theorem p_laws_toFileS (L : List UInt8 → List UInt8 → Option (List UInt8 × List UInt8)) (hL : ∀ n d, pre_laws_toFile n d → L n d = some (s_laws_toFile n d)) (l : List TFile) (h : pre_laws_toFileS l) :
    ∃ N, laws_toFileS_f L N l = some (s_laws_toFileS l) := by
  refine ⟨l.length + 1, ?_⟩
  unfold laws_toFileS_f s_laws_toFileS
  have h' : l.length ≤ 1048576 := h
  rw [if_pos (by unfold mkOk roomB; omega)]
  exact l_toFileS L hL l h l 0 0 _ rfl (by simp) rfl
def pre_laws_toDisk (l : List TFile) : Prop := few l
def s_laws_toDisk (l : List TFile) : List TFile := l
theorem p_laws_toDisk (L : List TFile → Option (List TFile)) (hL : ∀ l, pre_laws_toFileS l → L l = some (s_laws_toFileS l)) (l : List TFile) (h : pre_laws_toDisk l) :
    ∃ N, laws_toDisk_f L N l = some (s_laws_toDisk l) := by
  refine ⟨0, ?_⟩
  unfold laws_toDisk_f
  rw [hL _ h]; rfl

-- letters and digits
def isDig (c : Int) : Bool := decide (48 ≤ c) && decide (c ≤ 57)
def isLet (c : Int) : Bool := (decide (97 ≤ c) && decide (c ≤ 122)) || (decide (65 ≤ c) && decide (c ≤ 90))
def pre_spec_l3Digit (c : Int) : Prop := True
def s_spec_l3Digit (c : Int) : Bool := isDig c
theorem p_spec_l3Digit (c : Int) (h : pre_spec_l3Digit c) : ∃ N, spec_l3Digit_f N c = some (s_spec_l3Digit c) := by
  refine ⟨0, ?_⟩
  unfold spec_l3Digit_f s_spec_l3Digit isDig
  by_cases h : 48 ≤ c <;> simp [h]
def pre_impl_isDigit (c : Int) : Prop := True
def s_impl_isDigit (c : Int) : Bool := isDig c
theorem p_impl_isDigit (c : Int) (h : pre_impl_isDigit c) : ∃ N, impl_isDigit_f N c = some (s_impl_isDigit c) := by
  refine ⟨0, ?_⟩
  unfold impl_isDigit_f s_impl_isDigit isDig
  by_cases h : 48 ≤ c <;> simp [h]
def pre_spec_l3Letter (c : Int) : Prop := True
def s_spec_l3Letter (c : Int) : Bool := isLet c
theorem p_spec_l3Letter (c : Int) (h : pre_spec_l3Letter c) : ∃ N, spec_l3Letter_f N c = some (s_spec_l3Letter c) := by
  refine ⟨0, ?_⟩
  unfold spec_l3Letter_f s_spec_l3Letter isLet
  by_cases h : 97 ≤ c <;> by_cases h' : c ≤ 122 <;> by_cases h'' : 65 ≤ c <;> simp [h, h', h'']
def pre_impl_isLetter (c : Int) : Prop := True
def s_impl_isLetter (c : Int) : Bool := isLet c
theorem p_impl_isLetter (c : Int) (h : pre_impl_isLetter c) : ∃ N, impl_isLetter_f N c = some (s_impl_isLetter c) := by
  refine ⟨0, ?_⟩
  unfold impl_isLetter_f s_impl_isLetter isLet
  by_cases h : 97 ≤ c <;> by_cases h' : c ≤ 122 <;> by_cases h'' : 65 ≤ c <;> simp [h, h', h'']

-- names
def nameC (b : UInt8) : Bool := isDig b.toNat || isLet b.toNat || decide ((b.toNat : Int) = 46) || decide ((b.toNat : Int) = 95)
theorem l_specName (L1 L2 : Int → Option Bool) (h1 : ∀ c, pre_spec_l3Digit c → L1 c = some (s_spec_l3Digit c)) (h2 : ∀ c, pre_spec_l3Letter c → L2 c = some (s_spec_l3Letter c)) (l : List UInt8) (hl : l.length ≤ big) :
    ∀ (r : List UInt8) (j e : Nat), l.drop j = r → spec_l7NameOk_l0 L1 L2 (r.length + 1 + e) l j = some (r.all nameC && (decide (1 ≤ l.length) && decide (l.length ≤ 40)))
  | [], j, e, hd => by
    rw [List.length_nil, fuel0]
    simp only [spec_l7NameOk_l0]
    rw [if_neg (at_nil hd)]
    by_cases c : 1 ≤ l.length
    · rw [if_pos (by omega)]
      by_cases c' : l.length ≤ 40
      · have : (l.length : Int) ≤ 40 := by omega
        simp [c, c', this]
      · have : ¬ (l.length : Int) ≤ 40 := by omega
        simp [c, c', this]
    · rw [if_neg (by omega)]; simp [c]
  | b :: r, j, e, hd => by
    obtain ⟨g1, g2, g3, g4, g5, g6⟩ := at_cons hd
    rw [List.length_cons, fuel]
    simp only [spec_l7NameOk_l0]
    rw [if_pos g2, idxB_some g3]
    simp only [Option.bind_some]
    rw [h1 _ trivial, h2 _ trivial, succ_w g1 hl, l_specName L1 L2 h1 h2 l hl r (j + 1) e g5]
    simp only [Option.bind_some, List.all_cons, s_spec_l3Digit, s_spec_l3Letter, nameC]
    by_cases c1 : isDig b.toNat = true
    · simp [c1]
    · by_cases c2 : isLet b.toNat = true
      · simp [c1, c2]
      · by_cases c3 : (b.toNat : Int) = 46
        · simp [c1, c2, c3]
        · by_cases c4 : (b.toNat : Int) = 95
          · simp [c1, c2, c3, c4]
          · simp [c1, c2, c3, c4]
def nameOk (l : List UInt8) : Bool := l.all nameC && (decide (1 ≤ l.length) && decide (l.length ≤ 40))
def pre_spec_l7NameOk (l : List UInt8) : Prop := l.length ≤ big
def s_spec_l7NameOk (l : List UInt8) : Bool := nameOk l
theorem p_spec_l7NameOk (L1 : Int → Option Bool) (h1 : ∀ c, pre_spec_l3Digit c → L1 c = some (s_spec_l3Digit c)) (L2 : Int → Option Bool) (h2 : ∀ c, pre_spec_l3Letter c → L2 c = some (s_spec_l3Letter c)) (l : List UInt8) (h : pre_spec_l7NameOk l) :
    ∃ N, spec_l7NameOk_f L1 L2 N l = some (s_spec_l7NameOk l) := ⟨l.length + 1, l_specName L1 L2 h1 h2 l h l 0 0 rfl⟩
theorem l_implName (L1 L2 : Int → Option Bool) (h1 : ∀ c, pre_impl_isDigit c → L1 c = some (s_impl_isDigit c)) (h2 : ∀ c, pre_impl_isLetter c → L2 c = some (s_impl_isLetter c)) (l : List UInt8) (hl : l.length ≤ big) :
    ∀ (r : List UInt8) (j e : Nat), l.drop j = r → impl_fileNameOk_l0 L1 L2 (r.length + 1 + e) l l.length j = some (r.all nameC)
  | [], j, e, hd => by
    rw [List.length_nil, fuel0]
    simp only [impl_fileNameOk_l0]
    rw [if_neg (at_nil hd)]; rfl
  | b :: r, j, e, hd => by
    obtain ⟨g1, g2, g3, g4, g5, g6⟩ := at_cons hd
    rw [List.length_cons, fuel]
    simp only [impl_fileNameOk_l0]
    rw [if_pos g2, idxB_some g3]
    simp only [Option.bind_some]
    rw [h1 _ trivial, h2 _ trivial, succ_w g1 hl, l_implName L1 L2 h1 h2 l hl r (j + 1) e g5]
    simp only [Option.bind_some, List.all_cons, s_impl_isDigit, s_impl_isLetter, nameC]
    by_cases c1 : isDig b.toNat = true
    · simp [c1]
    · by_cases c2 : isLet b.toNat = true
      · simp [c1, c2]
      · by_cases c3 : (b.toNat : Int) = 46
        · simp [c1, c2, c3]
        · by_cases c4 : (b.toNat : Int) = 95
          · simp [c1, c2, c3, c4]
          · simp [c1, c2, c3, c4]
def pre_impl_fileNameOk (l : List UInt8) : Prop := l.length ≤ big
def s_impl_fileNameOk (l : List UInt8) : Bool := nameOk l
theorem p_impl_fileNameOk (L1 : Int → Option Bool) (h1 : ∀ c, pre_impl_isDigit c → L1 c = some (s_impl_isDigit c)) (L2 : Int → Option Bool) (h2 : ∀ c, pre_impl_isLetter c → L2 c = some (s_impl_isLetter c)) (l : List UInt8) (h : pre_impl_fileNameOk l) :
    ∃ N, impl_fileNameOk_f L1 L2 N l = some (s_impl_fileNameOk l) := by
  refine ⟨l.length + 1, ?_⟩
  unfold impl_fileNameOk_f s_impl_fileNameOk nameOk
  by_cases c : (l.length : Int) < 1
  · have : ¬ 1 ≤ l.length := by omega
    rw [if_pos c]; simp [this]
  · rw [if_neg c]
    by_cases c' : (40 : Int) < l.length
    · have : ¬ l.length ≤ 40 := by omega
      rw [if_pos c']; simp [this]
    · rw [if_neg c']
      have q := l_implName L1 L2 h1 h2 l h l 0 0 rfl
      have e1 : 1 ≤ l.length := by omega
      have e2 : l.length ≤ 40 := by omega
      simp only [e1, e2, decide_true, Bool.and_self, Bool.and_true]
      exact q

-- disks
def chain : Option (List UInt8) → List TFile → Bool
  | _, [] => true
  | p, x :: r => nameOk x.Name && decide (x.Data.length ≤ 100000) && (match p with | none => true | some q => lessS q x.Name) && chain (some x.Name) r
theorem prev_at {l : List TFile} {j : Nat} {x : TFile} (h : l[j]? = some x) : (if j + 1 = 0 then none else (l[j + 1 - 1]?).map (·.Name)) = some x.Name := by
  rw [if_neg (by omega), Nat.add_sub_cancel, h]; rfl
theorem w64_pred {j n : Nat} (h : j < n) (hn : n ≤ big) (h0 : 0 < j) : w64 ((j : Int) - 1) = ((j - 1 : Nat) : Int) := by
  rw [big_eq] at hn
  rw [w64_in (by omega)]; omega
theorem l_specDisk (L : List UInt8 → Option Bool) (hL : ∀ l, pre_spec_l7NameOk l → L l = some (s_spec_l7NameOk l)) (l : List TFile) (hl : few l) (hf : ∀ x ∈ l, fileIn x) :
    ∀ (r : List TFile) (j e : Nat) (p : Option (List UInt8)), l.drop j = r → p = (if j = 0 then none else (l[j - 1]?).map (·.Name)) → spec_DiskOk_l0 L (r.length + 1 + e) j l = some (chain p r)
  | [], j, e, p, hd, hp => by
    rw [List.length_nil, fuel0]
    simp only [spec_DiskOk_l0]
    rw [if_neg (at_nil hd)]; rfl
  | x :: r, j, e, p, hd, hp => by
    obtain ⟨g1, g2, g3, g4, g5, g6⟩ := at_cons hd
    have hx := hf x (List.mem_of_getElem? g4)
    rw [List.length_cons, fuel]
    simp only [spec_DiskOk_l0]
    rw [if_pos g2, g3]
    simp only [Option.bind_some]
    rw [hL _ hx.1]
    simp only [Option.bind_some, s_spec_l7NameOk, chain]
    have ih := l_specDisk L hL l hl hf r (j + 1) e (some x.Name) g5 (prev_at g4).symm
    cases c1 : nameOk x.Name with
    | false => simp
    | true =>
      rw [if_neg (by simp)]
      by_cases c2 : (100000 : Int) < x.Data.length
      · have : ¬ x.Data.length ≤ 100000 := by omega
        rw [if_pos c2]; simp [this]
      · have e2 : x.Data.length ≤ 100000 := by omega
        rw [if_neg c2, succ_w g1 (few_big hl), ih]
        by_cases c3 : (0 : Int) < j
        · rw [if_pos c3, w64_pred g1 (few_big hl) (by omega), idx_nat]
          have hj : j - 1 < l.length := by omega
          rw [if_neg (by omega)] at hp
          rw [List.getElem?_eq_getElem hj] at hp ⊢
          subst hp
          simp only [Option.bind_some, Option.map_some, e2, decide_true, Bool.true_and]
          cases lessS l[j - 1].Name x.Name <;> simp
        · rw [if_neg c3]
          rw [if_pos (by omega)] at hp
          subst hp
          simp [e2]
def diskOk (l : List TFile) : Bool := decide (l.length ≤ 400) && chain none l
def pre_spec_DiskOk (l : List TFile) : Prop := few l ∧ ∀ x ∈ l, fileIn x
def s_spec_DiskOk (l : List TFile) : Bool := diskOk l
theorem p_spec_DiskOk (L : List UInt8 → Option Bool) (hL : ∀ l, pre_spec_l7NameOk l → L l = some (s_spec_l7NameOk l)) (l : List TFile) (h : pre_spec_DiskOk l) : ∃ N, spec_DiskOk_f L N l = some (s_spec_DiskOk l) := by
  refine ⟨l.length + 1, ?_⟩
  unfold spec_DiskOk_f s_spec_DiskOk diskOk
  by_cases c : (400 : Int) < l.length
  · have : ¬ l.length ≤ 400 := by omega
    rw [if_pos c]; simp [this]
  · have e : l.length ≤ 400 := by omega
    rw [if_neg c]
    simp only [e, decide_true, Bool.true_and]
    exact l_specDisk L hL l h.1 h.2 l 0 0 none rfl rfl
theorem l_implDisk (L : List UInt8 → Option Bool) (hL : ∀ l, pre_impl_fileNameOk l → L l = some (s_impl_fileNameOk l)) (l : List TFile) (hl : few l) (hf : ∀ x ∈ l, fileIn x) :
    ∀ (r : List TFile) (j e : Nat) (p : Option (List UInt8)), l.drop j = r → p = (if j = 0 then none else (l[j - 1]?).map (·.Name)) → impl_DiskOk_l0 L (r.length + 1 + e) l l.length j l = some (chain p r)
  | [], j, e, p, hd, hp => by
    rw [List.length_nil, fuel0]
    simp only [impl_DiskOk_l0]
    rw [if_neg (at_nil hd)]; rfl
  | x :: r, j, e, p, hd, hp => by
    obtain ⟨g1, g2, g3, g4, g5, g6⟩ := at_cons hd
    have hx := hf x (List.mem_of_getElem? g4)
    rw [List.length_cons, fuel]
    simp only [impl_DiskOk_l0]
    rw [if_pos g2, g3]
    simp only [Option.bind_some]
    rw [hL _ hx.1]
    simp only [Option.bind_some, s_impl_fileNameOk, chain]
    have ih := l_implDisk L hL l hl hf r (j + 1) e (some x.Name) g5 (prev_at g4).symm
    cases c1 : nameOk x.Name with
    | false => simp
    | true =>
      rw [if_neg (by simp)]
      by_cases c2 : (100000 : Int) < x.Data.length
      · have : ¬ x.Data.length ≤ 100000 := by omega
        rw [if_pos c2]; simp [this]
      · have e2 : x.Data.length ≤ 100000 := by omega
        rw [if_neg c2, succ_w g1 (few_big hl), ih]
        by_cases c3 : (0 : Int) < j
        · rw [if_pos c3, w64_pred g1 (few_big hl) (by omega), idx_nat]
          have hj : j - 1 < l.length := by omega
          rw [if_neg (by omega)] at hp
          rw [List.getElem?_eq_getElem hj] at hp ⊢
          subst hp
          simp only [Option.bind_some, Option.map_some, e2, decide_true, Bool.true_and]
          cases lessS l[j - 1].Name x.Name <;> simp
        · rw [if_neg c3]
          rw [if_pos (by omega)] at hp
          subst hp
          simp [e2]
def pre_impl_DiskOk (l : List TFile) : Prop := few l ∧ ∀ x ∈ l, fileIn x
def s_impl_DiskOk (l : List TFile) : Bool := diskOk l
theorem p_impl_DiskOk (L : List UInt8 → Option Bool) (hL : ∀ l, pre_impl_fileNameOk l → L l = some (s_impl_fileNameOk l)) (l : List TFile) (h : pre_impl_DiskOk l) : ∃ N, impl_DiskOk_f L N l = some (s_impl_DiskOk l) := by
  refine ⟨l.length + 1, ?_⟩
  unfold impl_DiskOk_f s_impl_DiskOk diskOk
  by_cases c : (400 : Int) < l.length
  · have : ¬ l.length ≤ 400 := by omega
    rw [if_pos c]; simp [this]
  · have e : l.length ≤ 400 := by omega
    rw [if_neg c]
    simp only [e, decide_true, Bool.true_and]
    exact l_implDisk L hL l h.1 h.2 l 0 0 none rfl rfl

-- eqFile, eqFileS, eqDisk
def pre_laws_eqFile (n d n' d' : List UInt8) : Prop := True
def s_laws_eqFile (n d n' d' : List UInt8) : Bool := decide (n = n') && decide (d = d')
theorem p_laws_eqFile (n d n' d' : List UInt8) (h : pre_laws_eqFile n d n' d') : ∃ N, laws_eqFile_f N n d n' d' = some (s_laws_eqFile n d n' d') := by
  refine ⟨0, ?_⟩
  unfold laws_eqFile_f s_laws_eqFile
  by_cases c : n = n' <;> by_cases c' : d = d' <;> simp [c, c']
theorem l_eqFileS (L : List UInt8 → List UInt8 → List UInt8 → List UInt8 → Option Bool) (hL : ∀ n d n' d', pre_laws_eqFile n d n' d' → L n d n' d' = some (s_laws_eqFile n d n' d')) (a : List TFile) (ha : few a) :
    ∀ (r : List TFile) (j e : Nat), a.drop j = r → laws_eqFileS_l0 L (r.length + 1 + e) a a j = some true
  | [], j, e, hd => by
    rw [List.length_nil, fuel0]
    simp only [laws_eqFileS_l0]
    rw [if_neg (at_nil hd)]
  | x :: r, j, e, hd => by
    obtain ⟨h1, h2, h3, h4, h5, h6⟩ := at_cons hd
    rw [List.length_cons, fuel]
    simp only [laws_eqFileS_l0]
    rw [if_pos h2, h3]
    simp only [Option.bind_some]
    rw [hL _ _ _ _ trivial]
    simp only [Option.bind_some, s_laws_eqFile, decide_true, Bool.and_self, Bool.true_eq_false, if_false]
    rw [succ_w h1 (few_big ha)]
    exact l_eqFileS L hL a ha r (j + 1) e h5
def pre_laws_eqFileS (a b : List TFile) : Prop := few a ∧ a = b
def s_laws_eqFileS (a b : List TFile) : Bool := true
theorem p_laws_eqFileS (L : List UInt8 → List UInt8 → List UInt8 → List UInt8 → Option Bool) (hL : ∀ n d n' d', pre_laws_eqFile n d n' d' → L n d n' d' = some (s_laws_eqFile n d n' d')) (a b : List TFile) (h : pre_laws_eqFileS a b) :
    ∃ N, laws_eqFileS_f L N a b = some (s_laws_eqFileS a b) := by
  obtain ⟨h, rfl⟩ := h
  refine ⟨a.length + 1, ?_⟩
  unfold laws_eqFileS_f s_laws_eqFileS
  rw [if_pos rfl]
  exact l_eqFileS L hL a h a 0 0 rfl
def pre_laws_eqDisk (a b : List TFile) : Prop := pre_laws_eqFileS a b
def s_laws_eqDisk (a b : List TFile) : Bool := true
theorem p_laws_eqDisk (L : List TFile → List TFile → Option Bool) (hL : ∀ a b, pre_laws_eqFileS a b → L a b = some (s_laws_eqFileS a b)) (a b : List TFile) (h : pre_laws_eqDisk a b) : ∃ N, laws_eqDisk_f L N a b = some (s_laws_eqDisk a b) := by
  refine ⟨0, ?_⟩
  unfold laws_eqDisk_f
  rw [hL _ _ h]; rfl

-- marks
/-- the digits of a number before a text -/
def digs : Nat → Int → List UInt8 → List UInt8
  | 0, _, acc => acc
  | f + 1, k, acc => if 0 < k then digs f (w64 (Int.tdiv k 10)) (bytes8 [Go.IntKind.wrap .u8 (w64 (48 + Int.tmod k 10))] ++ acc) else acc
def pre_laws_markText (k : Int) : Prop := k ≤ 100000000
def s_laws_markText (k : Int) : List UInt8 := if k ≤ 0 then [109, 48] else 109 :: digs 10 k []
theorem l_markText : ∀ (f : Nat) (k : Int) (acc : List UInt8) (e : Nat), 0 ≤ k → k < 10 ^ f → k ≤ 1000000000 → acc.length + f ≤ 100 → laws_markText_l0 (f + 1 + e) k acc = some (109 :: digs (f + 1) k acc)
  | 0, k, acc, e, h0, h1, h2, h3 => by
    rw [show 0 + 1 + e = e + 1 by omega]
    simp only [laws_markText_l0, digs]
    have : ¬ 0 < k := by simp at h1; omega
    rw [if_neg this, if_neg this, if_pos (by unfold roomS; omega)]
  | f + 1, k, acc, e, h0, h1, h2, h3 => by
    rw [show f + 1 + 1 + e = (f + 1 + e) + 1 by omega]
    simp only [laws_markText_l0]
    rw [digs]
    by_cases c : 0 < k
    · have hq : Int.tdiv k 10 = k / 10 := Int.tdiv_eq_ediv_of_nonneg h0
      have hl : (bytes8 [Go.IntKind.wrap .u8 (w64 (48 + Int.tmod k 10))] ++ acc).length = acc.length + 1 := by simp [bytes8]
      have hp : (10 : Int) ^ (f + 1) = 10 ^ f * 10 := Int.pow_succ 10 f
      rw [if_pos c, if_pos c, if_pos (by unfold roomS; rw [hl]; omega), hq, w64_in (by omega)]
      exact l_markText f (k / 10) _ e (by omega) (by omega) (by omega) (by rw [hl]; omega)
    · rw [if_neg c, if_neg c, if_pos (by unfold roomS; omega)]
theorem p_laws_markText (k : Int) (h : pre_laws_markText k) : ∃ N, laws_markText_f N k = some (s_laws_markText k) := by
  have h' : k ≤ 100000000 := h
  refine ⟨10, ?_⟩
  unfold laws_markText_f s_laws_markText
  by_cases c : k ≤ 0
  · rw [if_pos c, if_pos c]
  · rw [if_neg c, if_neg c]
    exact l_markText 9 k [] 0 (by omega) (by omega) (by omega) (by simp)
def mkFiles (k : Int) : Nat → List TFile
  | 0 => []
  | n + 1 => ⟨s_laws_markText k, s_laws_markText (k + 1)⟩ :: mkFiles (k + 1 + 1) n
theorem mkFiles_len : ∀ (n : Nat) (k : Int), (mkFiles k n).length = n
  | 0, _ => rfl
  | n + 1, k => by simp [mkFiles, mkFiles_len n]
def pre_laws_markFileS (l : List TFile) (k : Int) : Prop := few l ∧ 0 ≤ k ∧ k ≤ 16777216
def s_laws_markFileS (l : List TFile) (k : Int) : Int × List TFile := (k + 2 * l.length, mkFiles k l.length)
theorem l_markFileS (L : Int → Option (List UInt8)) (hL : ∀ k, pre_laws_markText k → L k = some (s_laws_markText k)) (n : Nat) (hn : n ≤ 1048576) : ∀ (m j e : Nat) (k : Int) (z y : List TFile), j + m = n → z.length = n → 0 ≤ k → k + 2 * m ≤ 33554432 → z.take j = y → laws_markFileS_l0 L (m + 1 + e) k j z = some (k + 2 * m, y ++ mkFiles k m)
  | 0, j, e, k, z, y, hj, hz, h0, h1, ht => by
    rw [show 0 + 1 + e = e + 1 by omega]
    simp only [laws_markFileS_l0]
    rw [if_neg (by omega)]
    have : z = y := by rw [← ht, List.take_of_length_le (by omega)]
    simp [mkFiles, this]
  | m + 1, j, e, k, z, y, hj, hz, h0, h1, ht => by
    rw [show m + 1 + 1 + e = (m + 1 + e) + 1 by omega]
    simp only [laws_markFileS_l0]
    obtain ⟨x, hx⟩ : ∃ x, z[j]? = some x := ⟨_, List.getElem?_eq_getElem (show j < z.length by omega)⟩
    rw [if_pos (by omega), hL _ (by unfold pre_laws_markText; omega)]
    simp only [Option.bind_some, Int.toNat_natCast]
    rw [if_pos (by omega), hx]
    simp only [Option.bind_some]
    rw [w64_in (n := k + 1) (by omega), hL _ (by unfold pre_laws_markText; omega)]
    simp only [Option.bind_some, List.length_set]
    rw [if_pos (by omega), List.getElem?_set_self (by omega)]
    simp only [Option.bind_some, List.set_set]
    rw [w64_in (n := k + 1 + 1) (by omega), succ_w (n := n) (by omega) (by rw [big_eq]; omega)]
    rw [l_markFileS L hL n hn m (j + 1) e (k + 1 + 1) _ (y ++ [⟨s_laws_markText k, s_laws_markText (k + 1)⟩]) (by omega) (by simp [hz]) (by omega) (by omega) (by
      rw [List.take_add_one, List.getElem?_set_self (by omega), List.take_set_of_le (Nat.le_refl j), ht]; rfl)]
    simp [mkFiles]
    omega
theorem p_laws_markFileS (L : Int → Option (List UInt8)) (hL : ∀ k, pre_laws_markText k → L k = some (s_laws_markText k)) (l : List TFile) (k : Int) (h : pre_laws_markFileS l k) : ∃ N, laws_markFileS_f L N l k = some (s_laws_markFileS l k) := by
  obtain ⟨h1, h2, h3⟩ := h
  refine ⟨l.length + 1, ?_⟩
  unfold laws_markFileS_f s_laws_markFileS
  have h1' : l.length ≤ 1048576 := h1
  have := l_markFileS L hL l.length h1 l.length 0 0 k l [] (by omega) rfl h2 (by omega) rfl
  simpa using this
def pre_laws_markDisk (l : List TFile) (k : Int) : Prop := pre_laws_markFileS l k
def s_laws_markDisk (l : List TFile) (k : Int) : Int × List TFile := s_laws_markFileS l k
theorem p_laws_markDisk (L : List TFile → Int → Option (Int × List TFile)) (hL : ∀ l k, pre_laws_markFileS l k → L l k = some (s_laws_markFileS l k)) (l : List TFile) (k : Int) (h : pre_laws_markDisk l k) : ∃ N, laws_markDisk_f L N l k = some (s_laws_markDisk l k) := by
  refine ⟨0, ?_⟩
  unfold laws_markDisk_f
  rw [hL _ _ h]; rfl
def pre_laws_heldFileS (l : List TFile) (k : Int) : Prop := few l ∧ 0 ≤ k ∧ k ≤ 16777216
def s_laws_heldFileS (l : List TFile) (k : Int) : Int := if l = mkFiles k l.length then k + 2 * l.length else -1
theorem l_heldFileS (L : Int → Option (List UInt8)) (hL : ∀ k, pre_laws_markText k → L k = some (s_laws_markText k)) (l : List TFile) (hl : few l) : ∀ (r : List TFile) (j e : Nat) (k : Int), l.drop j = r → 0 ≤ k → k + 2 * r.length ≤ 33554432 →
    laws_heldFileS_l0 L (r.length + 1 + e) l k j = some (if r = mkFiles k r.length then k + 2 * r.length else -1)
  | [], j, e, k, hd, h0, h1 => by
    rw [show ([] : List TFile).length + 1 + e = e + 1 by simp; omega]
    simp only [laws_heldFileS_l0]
    rw [if_neg (at_nil hd)]; simp [mkFiles]
  | x :: r, j, e, k, hd, h0, h1 => by
    obtain ⟨g1, g2, g3, g4, g5, g6⟩ := at_cons hd
    rw [List.length_cons] at h1
    rw [show (x :: r).length + 1 + e = (r.length + 1 + e) + 1 by simp; omega]
    simp only [laws_heldFileS_l0]
    rw [if_pos g2, g3]
    simp only [Option.bind_some]
    rw [hL _ (by unfold pre_laws_markText; omega)]
    simp only [Option.bind_some]
    by_cases c : x.Name = s_laws_markText k
    · rw [if_pos c, w64_in (n := k + 1) (by omega), hL _ (by unfold pre_laws_markText; omega)]
      simp only [Option.bind_some]
      by_cases c' : x.Data = s_laws_markText (k + 1)
      · rw [if_pos c', w64_in (n := k + 1 + 1) (by omega), succ_w g1 (few_big hl), l_heldFileS L hL l hl r (j + 1) e (k + 1 + 1) g5 (by omega) (by omega)]
        have hx : x = ⟨s_laws_markText k, s_laws_markText (k + 1)⟩ := by cases x; simp only at c c'; rw [c, c']
        simp only [List.length_cons, mkFiles, List.cons.injEq, hx, true_and]
        congr 1
        split
        · omega
        · rfl
      · rw [if_neg c', if_neg]
        intro q
        simp only [List.length_cons, mkFiles, List.cons.injEq] at q
        exact c' (by rw [q.1])
    · rw [if_neg c, if_neg]
      intro q
      simp only [List.length_cons, mkFiles, List.cons.injEq] at q
      exact c (by rw [q.1])
theorem p_laws_heldFileS (L : Int → Option (List UInt8)) (hL : ∀ k, pre_laws_markText k → L k = some (s_laws_markText k)) (l : List TFile) (k : Int) (h : pre_laws_heldFileS l k) : ∃ N, laws_heldFileS_f L N l k = some (s_laws_heldFileS l k) := by
  obtain ⟨h1, h2, h3⟩ := h
  have h1' : l.length ≤ 1048576 := h1
  refine ⟨l.length + 1, ?_⟩
  unfold laws_heldFileS_f s_laws_heldFileS
  have := l_heldFileS L hL l h1 l 0 0 k rfl h2 (by omega)
  simpa using this
def pre_laws_heldDisk (l : List TFile) (k : Int) : Prop := pre_laws_heldFileS l k
def s_laws_heldDisk (l : List TFile) (k : Int) : Int := s_laws_heldFileS l k
theorem p_laws_heldDisk (L : List TFile → Int → Option Int) (hL : ∀ l k, pre_laws_heldFileS l k → L l k = some (s_laws_heldFileS l k)) (l : List TFile) (k : Int) (h : pre_laws_heldDisk l k) : ∃ N, laws_heldDisk_f L N l k = some (s_laws_heldDisk l k) := by
  refine ⟨0, ?_⟩
  unfold laws_heldDisk_f s_laws_heldDisk
  rw [hL _ _ h]
  simp only [Option.bind_some]
  by_cases c : s_laws_heldFileS l k < 0
  · rw [if_pos c]
    unfold s_laws_heldFileS at c ⊢
    split at c
    · have := h.2.1; omega
    · rename_i q; rw [if_neg q]
  · rw [if_neg c]
theorem held_marksD (l : List TFile) (k : Int) : s_laws_heldDisk (s_laws_markDisk l k).2 k = (s_laws_markDisk l k).1 := by
  unfold s_laws_heldDisk s_laws_heldFileS s_laws_markDisk s_laws_markFileS
  simp only [mkFiles_len]
  rw [if_pos trivial]

-- names of files that are not whole
def isTmp (l : List UInt8) : Bool := decide (4 ≤ l.length) && decide (l.drop (l.length - 4) = [46, 116, 109, 112])
theorem cut_tmp {l : List UInt8} (h : 4 ≤ l.length) (hb : l.length ≤ big) : cut l (w64 ((l.length : Int) - 4)) (l.length : Int) = some (l.drop (l.length - 4)) := by
  rw [big_eq] at hb
  unfold cut
  rw [w64_in (by omega), if_pos (by omega), show ((l.length : Int) - 4).toNat = l.length - 4 by omega, List.take_of_length_le (by simp only [List.length_drop]; omega)]
def pre_spec_l7IsTmp (l : List UInt8) : Prop := l.length ≤ big
def s_spec_l7IsTmp (l : List UInt8) : Bool := isTmp l
theorem p_spec_l7IsTmp (l : List UInt8) (h : pre_spec_l7IsTmp l) : ∃ N, spec_l7IsTmp_f N l = some (s_spec_l7IsTmp l) := by
  refine ⟨0, ?_⟩
  unfold spec_l7IsTmp_f s_spec_l7IsTmp isTmp
  by_cases c : 4 ≤ l.length
  · rw [if_pos (by omega), cut_tmp c h]; simp [c]
  · rw [if_neg (by omega)]; simp [c]
def pre_internal_stringslite_HasSuffix (a b : List UInt8) : Prop := a.length ≤ big ∧ b = [46, 116, 109, 112]
def s_internal_stringslite_HasSuffix (a b : List UInt8) : Bool := isTmp a
theorem p_internal_stringslite_HasSuffix (a b : List UInt8) (h : pre_internal_stringslite_HasSuffix a b) : ∃ N, internal_stringslite_HasSuffix_f N a b = some (s_internal_stringslite_HasSuffix a b) := by
  obtain ⟨h, rfl⟩ := h
  refine ⟨0, ?_⟩
  unfold internal_stringslite_HasSuffix_f s_internal_stringslite_HasSuffix isTmp
  have e : (([46, 116, 109, 112] : List UInt8).length : Int) = 4 := rfl
  rw [e]
  by_cases c : 4 ≤ a.length
  · rw [if_pos (by omega), cut_tmp c h]; simp [c]
  · rw [if_neg (by omega)]; simp [c]
def pre_strings_HasSuffix (a b : List UInt8) : Prop := pre_internal_stringslite_HasSuffix a b
def s_strings_HasSuffix (a b : List UInt8) : Bool := isTmp a
theorem p_strings_HasSuffix (L : List UInt8 → List UInt8 → Option Bool) (hL : ∀ a b, pre_internal_stringslite_HasSuffix a b → L a b = some (s_internal_stringslite_HasSuffix a b)) (a b : List UInt8) (h : pre_strings_HasSuffix a b) : ∃ N, strings_HasSuffix_f L N a b = some (s_strings_HasSuffix a b) := by
  refine ⟨0, ?_⟩
  unfold strings_HasSuffix_f
  rw [hL _ _ h]; rfl
def pre_impl_Recover_1 (n d : List UInt8) : Prop := n.length ≤ big
def s_impl_Recover_1 (n d : List UInt8) : Bool := isTmp n
theorem p_impl_Recover_1 (L : List UInt8 → List UInt8 → Option Bool) (hL : ∀ a b, pre_strings_HasSuffix a b → L a b = some (s_strings_HasSuffix a b)) (n d : List UInt8) (h : pre_impl_Recover_1 n d) : ∃ N, impl_Recover_1_f L N n d = some (s_impl_Recover_1 n d) := by
  refine ⟨0, ?_⟩
  unfold impl_Recover_1_f
  rw [hL _ _ ⟨h, rfl⟩]; rfl
-- copies
theorem room_few {l : List TFile} (h : few l) : room 32 l.length := by
  have h' : l.length ≤ 1048576 := h
  unfold room roomB; omega
def pre_spec_l7Copy (l : List TFile) : Prop := few l
def s_spec_l7Copy (l : List TFile) : List TFile := l
theorem p_spec_l7Copy (l : List TFile) (h : pre_spec_l7Copy l) : ∃ N, spec_l7Copy_f N l = some (s_spec_l7Copy l) := by
  refine ⟨0, ?_⟩
  unfold spec_l7Copy_f s_spec_l7Copy
  rw [if_pos (room_few h)]
def pre_slices_Clone___impl_File_impl_File_ (l : List TFile) : Prop := few l
def s_slices_Clone___impl_File_impl_File_ (l : List TFile) : List TFile := l
theorem p_slices_Clone___impl_File_impl_File_ (l : List TFile) (h : pre_slices_Clone___impl_File_impl_File_ l) : (∃ N, slices_Clone___impl_File_impl_File__S_f N l = some (s_slices_Clone___impl_File_impl_File_ l)) ∧ (∃ N, slices_Clone___impl_File_impl_File__N_f N = some (s_slices_Clone___impl_File_impl_File_ [])) := by
  refine ⟨⟨0, ?_⟩, 0, rfl⟩
  unfold slices_Clone___impl_File_impl_File__S_f s_slices_Clone___impl_File_impl_File_
  rw [if_pos (room_few h)]
def pre_impl_copied (l : List TFile) : Prop := few l
def s_impl_copied (l : List TFile) : List TFile := l
theorem p_impl_copied (L : List TFile → Option (List TFile)) (hL : ∀ l, pre_slices_Clone___impl_File_impl_File_ l → L l = some (s_slices_Clone___impl_File_impl_File_ l)) (l : List TFile) (h : pre_impl_copied l) : ∃ N, impl_copied_f L N l = some (s_impl_copied l) := by
  refine ⟨0, ?_⟩
  unfold impl_copied_f
  rw [hL _ h]; rfl
-- what stays
def keeps (x : TFile) : Bool := !isTmp x.Name
def recov1 (l : List TFile) : List TFile × Bool := if diskOk l = true then (l.filter keeps, true) else (l, false)
def pre_spec_Recover (l : List TFile) : Prop := few l ∧ ∀ x ∈ l, fileIn x
def s_spec_Recover (l : List TFile) : List TFile × Bool := recov1 l
theorem l_sRecover (L1 : List TFile → Option Bool) (L2 : List TFile → Option (List TFile)) (L3 : List UInt8 → Option Bool) (h3 : ∀ l, pre_spec_l7IsTmp l → L3 l = some (s_spec_l7IsTmp l)) (l : List TFile) (hl : few l) (hx : ∀ x ∈ l, fileIn x) :
    ∀ (r : List TFile) (j e : Nat) (acc : List TFile), l.drop j = r → acc.length ≤ j → spec_Recover_l0 L1 L2 L3 (r.length + 1 + e) j l acc = some (acc ++ r.filter keeps, true)
  | [], j, e, acc, hd, ha => by
    rw [show ([] : List TFile).length + 1 + e = e + 1 by simp; omega]
    simp only [spec_Recover_l0]
    rw [if_neg (at_nil hd)]; simp
  | x :: r, j, e, acc, hd, ha => by
    obtain ⟨h1, h2, g3, h4, h5, h6⟩ := at_cons hd
    have hm : x ∈ l := List.mem_of_getElem? h4
    have hl' : l.length ≤ 1048576 := hl
    rw [show (x :: r).length + 1 + e = (r.length + 1 + e) + 1 by simp; omega]
    simp only [spec_Recover_l0]
    rw [if_pos h2, g3]
    simp only [Option.bind_some]
    rw [h3 _ (hx x hm).1]
    simp only [Option.bind_some, s_spec_l7IsTmp]
    rw [succ_w h1 (few_big hl)]
    cases c : isTmp x.Name with
    | false =>
      rw [if_pos rfl, if_pos (room_few (by unfold few; simp only [List.length_append, List.length_cons, List.length_nil]; omega)), l_sRecover L1 L2 L3 h3 l hl hx r (j + 1) e _ h5 (by simp; omega)]
      simp [List.filter_cons, keeps, c]
    | true =>
      rw [if_neg (by simp), l_sRecover L1 L2 L3 h3 l hl hx r (j + 1) e _ h5 (by omega)]
      simp [List.filter_cons, keeps, c]
theorem p_spec_Recover (L1 : List TFile → Option Bool) (h1 : ∀ l, pre_spec_DiskOk l → L1 l = some (s_spec_DiskOk l)) (L2 : List TFile → Option (List TFile)) (h2 : ∀ l, pre_spec_l7Copy l → L2 l = some (s_spec_l7Copy l)) (L3 : List UInt8 → Option Bool) (h3 : ∀ l, pre_spec_l7IsTmp l → L3 l = some (s_spec_l7IsTmp l))
    (l : List TFile) (h : pre_spec_Recover l) : ∃ N, spec_Recover_f L1 L2 L3 N l = some (s_spec_Recover l) := by
  refine ⟨l.length + 1, ?_⟩
  unfold spec_Recover_f s_spec_Recover recov1
  rw [h1 _ h]
  simp only [Option.bind_some, s_spec_DiskOk]
  cases c : diskOk l with
  | false => rw [if_pos rfl, h2 _ h.1, if_neg (by simp)]; rfl
  | true =>
    rw [if_neg (by simp), if_pos rfl]
    have q := l_sRecover L1 L2 L3 h3 l h.1 h.2 l 0 0 [] rfl (Nat.zero_le _)
    simpa using q
def fidx : List TFile → Nat
  | [] => 0
  | x :: r => if isTmp x.Name = true then 0 else fidx r + 1
theorem fidx_le : ∀ l : List TFile, fidx l ≤ l.length
  | [] => Nat.le_refl _
  | x :: r => by
    have := fidx_le r
    simp only [fidx, List.length_cons]
    split <;> omega
theorem fidx_keep : ∀ (l : List TFile), (l.take (fidx l)).filter keeps = l.take (fidx l) ∧ (fidx l < l.length → (l.take (fidx l + 1)).filter keeps = l.take (fidx l))
  | [] => ⟨rfl, fun h => by simp at h⟩
  | x :: r => by
    obtain ⟨h1, h2⟩ := fidx_keep r
    simp only [fidx]
    by_cases c : isTmp x.Name = true
    · rw [if_pos c]
      exact ⟨rfl, fun _ => by simp [List.filter_cons, keeps, c]⟩
    · rw [if_neg c]
      have ck : keeps x = true := by unfold keeps; simp [c]
      refine ⟨by rw [List.take_succ_cons, List.filter_cons, if_pos ck, h1], fun h => ?_⟩
      rw [List.take_succ_cons, List.take_succ_cons, List.filter_cons, if_pos ck, h2 (by simpa using h)]
def pre_slices_IndexFunc___impl_File_impl_File_ (l : List TFile) : Prop := few l ∧ ∀ x ∈ l, fileIn x
def s_slices_IndexFunc___impl_File_impl_File_ (l : List TFile) : Int := if fidx l < l.length then fidx l else -1
theorem l_index (L : List UInt8 → List UInt8 → Option Bool) (hL : ∀ n d, pre_impl_Recover_1 n d → L n d = some (s_impl_Recover_1 n d)) (l : List TFile) (hl : few l) (hx : ∀ x ∈ l, fileIn x) : ∀ (r : List TFile) (j e : Nat), l.drop j = r →
    slices_IndexFunc___impl_File_impl_File__l0 L (r.length + 1 + e) l l.length j = some (if fidx r < r.length then (j : Int) + fidx r else -1)
  | [], j, e, hd => by
    rw [show ([] : List TFile).length + 1 + e = e + 1 by simp; omega]
    simp only [slices_IndexFunc___impl_File_impl_File__l0]
    rw [if_neg (at_nil hd)]; rfl
  | x :: r, j, e, hd => by
    obtain ⟨h1, h2, g3, h4, h5, h6⟩ := at_cons hd
    have hm : x ∈ l := List.mem_of_getElem? h4
    rw [show (x :: r).length + 1 + e = (r.length + 1 + e) + 1 by simp; omega]
    simp only [slices_IndexFunc___impl_File_impl_File__l0]
    rw [if_pos h2, g3]
    simp only [Option.bind_some]
    rw [hL _ _ (hx x hm).1]
    simp only [Option.bind_some, s_impl_Recover_1]
    by_cases c : isTmp x.Name = true
    · rw [if_pos c, show fidx (x :: r) = 0 from if_pos c, if_pos (by simp)]; simp
    · rw [if_neg c, show fidx (x :: r) = fidx r + 1 from if_neg c, succ_w h1 (few_big hl), l_index L hL l hl hx r (j + 1) e h5]
      simp only [List.length_cons]
      by_cases q : fidx r < r.length
      · rw [if_pos q, if_pos (by omega)]; congr 1; omega
      · rw [if_neg q, if_neg (by omega)]
theorem p_slices_IndexFunc___impl_File_impl_File_ (L : List UInt8 → List UInt8 → Option Bool) (hL : ∀ n d, pre_impl_Recover_1 n d → L n d = some (s_impl_Recover_1 n d)) (l : List TFile) (h : pre_slices_IndexFunc___impl_File_impl_File_ l) :
    ∃ N, slices_IndexFunc___impl_File_impl_File__f L N l = some (s_slices_IndexFunc___impl_File_impl_File_ l) := by
  refine ⟨l.length + 1, ?_⟩
  unfold slices_IndexFunc___impl_File_impl_File__f s_slices_IndexFunc___impl_File_impl_File_
  have q := l_index L hL l h.1 h.2 l 0 0 rfl
  rw [show l.length + 1 + 0 = l.length + 1 by rfl, show ((0 : Nat) : Int) = 0 from rfl, Int.zero_add] at q
  exact q
def pre_slices_DeleteFunc___impl_File_impl_File_ (l : List TFile) : Prop := few l ∧ ∀ x ∈ l, fileIn x
def s_slices_DeleteFunc___impl_File_impl_File_ (l : List TFile) : List TFile := l.filter keeps
theorem l_delete (L0 : List TFile → Option Int) (L : List UInt8 → List UInt8 → Option Bool) (hL : ∀ n d, pre_impl_Recover_1 n d → L n d = some (s_impl_Recover_1 n d)) (l : List TFile) (hl : few l) (hx : ∀ x ∈ l, fileIn x) : ∀ (r : List TFile) (j e i : Nat) (o : List TFile), l.drop j = r → j ≤ l.length → i ≤ j → o.length = l.length → o.take i = (l.take j).filter keeps → o.drop j = l.drop j →
    slices_DeleteFunc___impl_File_impl_File__l0 L0 L (r.length + 1 + e) i j o = some (l.filter keeps)
  | [], j, e, i, o, hd, hj, hij, hol, ht, ho => by
    rw [show ([] : List TFile).length + 1 + e = e + 1 by simp; omega]
    simp only [slices_DeleteFunc___impl_File_impl_File__l0]
    have hjl := at_nil hd
    have e1 : (List.take i o ++ List.replicate (o.length - i) ({ Name := [], Data := [] } : TFile)).length = o.length := by simp only [List.length_append, List.length_take, List.length_replicate]; omega
    rw [if_neg (by omega), if_pos ⟨rfl, by omega, by omega⟩, Int.toNat_natCast, if_pos (by omega), if_pos (by rw [e1]; omega)]
    rw [List.take_append_of_le_length (by simp only [List.length_take]; omega), List.take_take, Nat.min_self, ht, List.take_of_length_le (by omega)]
  | x :: r, j, e, i, o, hd, hj, hij, hol, ht, ho => by
    obtain ⟨h1, h2, g3, h4, h5, h6⟩ := at_cons hd
    have hm : x ∈ l := List.mem_of_getElem? h4
    have hl' : l.length ≤ 1048576 := hl
    have hox : o[j]? = some x := by
      have : (o.drop j)[0]? = (l.drop j)[0]? := by rw [ho]
      simp only [List.getElem?_drop, Nat.add_zero] at this
      rw [this]; exact h4
    have htj : (l.take (j + 1)).filter keeps = (l.take j).filter keeps ++ (if keeps x = true then [x] else []) := by
      rw [List.take_add_one, h4, List.filter_append]
      simp only [Option.toList_some, List.filter_cons, List.filter_nil]
    rw [show (x :: r).length + 1 + e = (r.length + 1 + e) + 1 by simp; omega]
    simp only [slices_DeleteFunc___impl_File_impl_File__l0]
    rw [if_pos (by omega), if_pos (by omega), Int.toNat_natCast, hox]
    simp only [Option.bind_some]
    rw [hL _ _ (hx x hm).1]
    simp only [Option.bind_some, s_impl_Recover_1]
    rw [succ_w h1 (few_big hl)]
    cases c : isTmp x.Name with
    | false =>
      have ck : keeps x = true := by unfold keeps; simp [c]
      rw [if_pos rfl, if_pos (by omega), Int.toNat_natCast, setN, if_pos (by omega)]
      simp only [Option.bind_some]
      rw [succ_w (n := l.length) (by omega) (few_big hl)]
      refine l_delete L0 L hL l hl hx r (j + 1) e (i + 1) _ h5 (by omega) (by omega) (by simp [hol]) ?_ ?_
      · rw [htj, if_pos ck, List.take_add_one, List.getElem?_set_self (by omega), List.take_set_of_le (Nat.le_refl i), ht]
        cases x; rfl
      · rw [List.drop_set_of_lt (by omega)]
        have := congrArg (List.drop 1) ho
        simpa [List.drop_drop, Nat.add_comm] using this
    | true =>
      have ck : ¬ keeps x = true := by unfold keeps; simp [c]
      rw [if_neg (by simp)]
      refine l_delete L0 L hL l hl hx r (j + 1) e i o h5 (by omega) (by omega) hol ?_ ?_
      · rw [htj, if_neg ck, List.append_nil, ht]
      · have := congrArg (List.drop 1) ho
        simpa [List.drop_drop, Nat.add_comm] using this
theorem p_slices_DeleteFunc___impl_File_impl_File_ (L0 : List TFile → Option Int) (h0 : ∀ l, pre_slices_IndexFunc___impl_File_impl_File_ l → L0 l = some (s_slices_IndexFunc___impl_File_impl_File_ l))
    (L : List UInt8 → List UInt8 → Option Bool) (hL : ∀ n d, pre_impl_Recover_1 n d → L n d = some (s_impl_Recover_1 n d)) (l : List TFile) (h : pre_slices_DeleteFunc___impl_File_impl_File_ l) :
    ∃ N, slices_DeleteFunc___impl_File_impl_File__f L0 L N l = some (s_slices_DeleteFunc___impl_File_impl_File_ l) := by
  refine ⟨l.length + 1, ?_⟩
  unfold slices_DeleteFunc___impl_File_impl_File__f s_slices_DeleteFunc___impl_File_impl_File_
  rw [h0 _ h]
  simp only [Option.bind_some, s_slices_IndexFunc___impl_File_impl_File_]
  obtain ⟨k1, k2⟩ := fidx_keep l
  have kl := fidx_le l
  by_cases c : fidx l < l.length
  · rw [if_pos c, if_neg (by omega), succ_w c (few_big h.1)]
    have hlen : (l.drop (fidx l + 1)).length + 1 + (fidx l + 1) = l.length + 1 := by simp only [List.length_drop]; omega
    have q := l_delete L0 L hL l h.1 h.2 (l.drop (fidx l + 1)) (fidx l + 1) (fidx l + 1) (fidx l) l rfl (by omega) (by omega) rfl (k2 c).symm rfl
    rw [hlen] at q
    exact q
  · rw [if_neg c, if_pos rfl]
    have e : fidx l = l.length := by omega
    rw [e, List.take_of_length_le (Nat.le_refl _)] at k1
    rw [k1]
def pre_impl_Recover (l : List TFile) : Prop := few l ∧ ∀ x ∈ l, fileIn x
def s_impl_Recover (l : List TFile) : List TFile × Bool := recov1 l
theorem p_impl_Recover (L1 : List TFile → Option Bool) (h1 : ∀ l, pre_impl_DiskOk l → L1 l = some (s_impl_DiskOk l)) (L2 : List TFile → Option (List TFile)) (h2 : ∀ l, pre_impl_copied l → L2 l = some (s_impl_copied l))
    (L3 : List TFile → Option (List TFile)) (h3 : ∀ l, pre_slices_DeleteFunc___impl_File_impl_File_ l → L3 l = some (s_slices_DeleteFunc___impl_File_impl_File_ l)) (L4 : List UInt8 → List UInt8 → Option Bool) (h4 : ∀ n d, pre_impl_Recover_1 n d → L4 n d = some (s_impl_Recover_1 n d))
    (l : List TFile) (h : pre_impl_Recover l) : ∃ N, impl_Recover_f L1 L2 L3 L4 N l = some (s_impl_Recover l) := by
  refine ⟨0, ?_⟩
  unfold impl_Recover_f s_impl_Recover recov1
  rw [h1 _ h, h2 _ h.1]
  simp only [Option.bind_some, s_impl_DiskOk, s_impl_copied]
  cases c : diskOk l with
  | false => rw [if_pos rfl, if_neg (by simp)]
  | true => rw [if_neg (by simp), if_pos rfl, h3 _ h]; rfl
theorem few_recov {l : List TFile} (h : few l) : few (recov1 l).1 := by
  have h' : l.length ≤ 1048576 := h
  unfold recov1
  split
  · have := List.length_filter_le keeps l
    show (l.filter keeps).length ≤ 1048576
    omega
  · exact h

-- the law
def pre_laws_FnExactRecover (l : List TFile) : Prop := l.length ≤ big ∧ ∀ x ∈ l, fileIn x
def s_laws_FnExactRecover (l : List TFile) : Bool := true
theorem p_laws_FnExactRecover (L0 : List TFile → Int → Option Int) (h0 : ∀ l n, pre_laws_szDisk l n → L0 l n = some (s_laws_szDisk l n)) (L1 : List TFile → Option (List TFile)) (h1 : ∀ l, pre_laws_toDisk l → L1 l = some (s_laws_toDisk l))
    (L2 : List TFile → Option (List TFile × Bool)) (h2 : ∀ l, pre_spec_Recover l → L2 l = some (s_spec_Recover l)) (L3 : List TFile → Option (List TFile × Bool)) (h3 : ∀ l, pre_impl_Recover l → L3 l = some (s_impl_Recover l))
    (L4 : List TFile → List TFile → Option Bool) (h4 : ∀ a b, pre_laws_eqDisk a b → L4 a b = some (s_laws_eqDisk a b)) (L5 : List TFile → Int → Option (Int × List TFile)) (h5 : ∀ l k, pre_laws_markDisk l k → L5 l k = some (s_laws_markDisk l k))
    (L6 : List TFile → Int → Option Int) (h6 : ∀ l k, pre_laws_heldDisk l k → L6 l k = some (s_laws_heldDisk l k)) (l : List TFile) (h : pre_laws_FnExactRecover l) :
    ∃ N, laws_FnExactRecover_f L0 L1 L2 L3 L4 L5 L6 N l = some (s_laws_FnExactRecover l) := by
  refine ⟨0, ?_⟩
  unfold laws_FnExactRecover_f s_laws_FnExactRecover
  rw [h0 _ _ ⟨h.1, h.2, by omega, by omega⟩]
  simp only [Option.bind_some]
  by_cases c : s_laws_szDisk l 1048576 < 0
  · rw [if_pos c]
  · rw [if_neg c]
    have hs : few l := by
      unfold few
      apply Classical.byContradiction
      intro hn
      apply c
      unfold s_laws_szDisk s_laws_szFileS
      rw [if_pos (c := (1048576 : Int) < l.length) (by omega)]
      simp
    have hr := few_recov hs
    have hss : pre_spec_Recover l := ⟨hs, h.2⟩
    have hm1 := h5 l 1 ⟨hs, by omega, by omega⟩
    have hm2 := h5 _ 1 (show pre_laws_markDisk (recov1 l).1 1 from ⟨hr, by omega, by omega⟩)
    have hmf : few (s_laws_markDisk (recov1 l).1 1).2 := by
      unfold s_laws_markDisk s_laws_markFileS few
      rw [mkFiles_len]; exact hr
    have hh := h6 _ 1 (show pre_laws_heldDisk (s_laws_markDisk (recov1 l).1 1).2 1 from ⟨hmf, by omega, by omega⟩)
    have hk : ∀ l : List TFile, ¬ (s_laws_markDisk l 1).1 < 0 := by
      intro l; unfold s_laws_markDisk s_laws_markFileS; simp only; omega
    simp only [h1 _ hs, Option.bind_some, s_laws_toDisk, h2 _ hss, h3 _ hss, s_spec_Recover, s_impl_Recover, h4 _ _ (show pre_laws_eqDisk _ _ from ⟨hr, rfl⟩), h4 _ _ (show pre_laws_eqDisk _ _ from ⟨hs, rfl⟩), s_laws_eqDisk, hm1, hm2, hh, held_marksD]
    simp [hk]
theorem pre_of_laws_FnExactRecover {l : List TFile} (h : l.length ≤ maxLen ∧ ∀ x ∈ l, x.Name.length ≤ maxLen ∧ x.Data.length ≤ maxLen) : pre_laws_FnExactRecover l := ⟨h.1, h.2⟩
end Go.Vm
