/- Disks: what the functions of FnExactDiskOk answer. -/
import Derived.Test.YtejgcpankckdkaaPBase
import Derived.Test.YtejgcpankckdkaaFDisk
set_option linter.unusedVariables false
set_option linter.unusedSimpArgs false
namespace Go.Vm

-- szFile
def pre_laws_szFile (n d : List UInt8) (left : Int) : Prop := n.length ≤ big ∧ d.length ≤ big ∧ 0 ≤ left ∧ left ≤ 1048576
def s_laws_szFile (n d : List UInt8) (left : Int) : Int := if left < n.length then -1 else if left - n.length < d.length then -1 else left - n.length - d.length
theorem p_laws_szFile (n d : List UInt8) (left : Int) (h : pre_laws_szFile n d left) : ∃ N, laws_szFile_f N n d left = some (s_laws_szFile n d left) := by
  obtain ⟨h1, h2, h3, h4⟩ := h
  rw [big_eq] at h1 h2
  refine ⟨0, ?_⟩
  unfold laws_szFile_f s_laws_szFile
  rw [w64_in (n := left - n.length) (by omega)]
  by_cases c1 : left < n.length
  · rw [if_pos c1, if_pos (by omega)]
  · rw [if_neg c1, if_neg (by omega), w64_in (by omega)]
    by_cases c2 : left - n.length < d.length
    · rw [if_pos c2, if_pos (by omega)]
    · rw [if_neg c2, if_neg (by omega)]
def fileIn (x : TFile) : Prop := x.Name.length ≤ big ∧ x.Data.length ≤ big
def szF : List TFile → Int → Int
  | [], left => left
  | x :: r, left => if s_laws_szFile x.Name x.Data left < 0 then -1 else szF r (s_laws_szFile x.Name x.Data left)
theorem szFile_le (n d : List UInt8) (left : Int) (h : left ≤ 1048576) : s_laws_szFile n d left ≤ 1048576 := by
  unfold s_laws_szFile; split
  · omega
  · split <;> omega
theorem l_szFileS (L : List UInt8 → List UInt8 → Int → Option Int) (hL : ∀ n d l, pre_laws_szFile n d l → L n d l = some (s_laws_szFile n d l)) (l : List TFile) (hl : few l) (hf : ∀ x ∈ l, fileIn x) :
    ∀ (r : List TFile) (j e : Nat) (left : Int), l.drop j = r → 0 ≤ left → left ≤ 1048576 → laws_szFileS_l0 L (r.length + 1 + e) l left j = some (szF r left)
  | [], j, e, left, hd, h0, h1 => by
    rw [List.length_nil, fuel0]
    simp only [laws_szFileS_l0]
    rw [if_neg (at_nil hd)]; rfl
  | x :: r, j, e, left, hd, h0, h1 => by
    obtain ⟨g1, g2, g3, g4, g5, g6⟩ := at_cons hd
    have hx := hf x (List.mem_of_getElem? g4)
    rw [List.length_cons, fuel]
    simp only [laws_szFileS_l0]
    rw [if_pos g2, g3]
    simp only [Option.bind_some]
    rw [hL _ _ _ ⟨hx.1, hx.2, h0, h1⟩]
    simp only [Option.bind_some, szF]
    by_cases c : s_laws_szFile x.Name x.Data left < 0
    · rw [if_pos c, if_pos c]
    · rw [if_neg c, if_neg c, succ_w g1 (few_big hl)]
      exact l_szFileS L hL l hl hf r (j + 1) e _ g5 (by omega) (szFile_le _ _ _ h1)
def pre_laws_szFileS (l : List TFile) (left : Int) : Prop := l.length ≤ big ∧ (∀ x ∈ l, fileIn x) ∧ 0 ≤ left ∧ left ≤ 1048576
def s_laws_szFileS (l : List TFile) (left : Int) : Int := if left < l.length then -1 else szF l (left - l.length)
theorem p_laws_szFileS (L : List UInt8 → List UInt8 → Int → Option Int) (hL : ∀ n d l, pre_laws_szFile n d l → L n d l = some (s_laws_szFile n d l)) (l : List TFile) (left : Int) (h : pre_laws_szFileS l left) :
    ∃ N, laws_szFileS_f L N l left = some (s_laws_szFileS l left) := by
  obtain ⟨h1, h2, h3, h4⟩ := h
  rw [big_eq] at h1
  refine ⟨l.length + 1, ?_⟩
  unfold laws_szFileS_f s_laws_szFileS
  rw [w64_in (n := left - l.length) (by omega)]
  by_cases c : left < l.length
  · rw [if_pos c, if_pos (by omega)]
  · rw [if_neg c, if_neg (by omega)]
    exact l_szFileS L hL l (by unfold few; omega) h2 l 0 0 _ rfl (by omega) (by omega)
def pre_laws_szDisk (l : List TFile) (left : Int) : Prop := pre_laws_szFileS l left
def s_laws_szDisk (l : List TFile) (left : Int) : Int := if s_laws_szFileS l left < 0 then -1 else s_laws_szFileS l left
theorem p_laws_szDisk (L : List TFile → Int → Option Int) (hL : ∀ l n, pre_laws_szFileS l n → L l n = some (s_laws_szFileS l n)) (l : List TFile) (left : Int) (h : pre_laws_szDisk l left) :
    ∃ N, laws_szDisk_f L N l left = some (s_laws_szDisk l left) := by
  refine ⟨0, ?_⟩
  unfold laws_szDisk_f s_laws_szDisk
  rw [hL _ _ h]
  simp only [Option.bind_some]
  split <;> rfl

-- toFile, toFileS, toDisk
def pre_laws_toFile (n d : List UInt8) : Prop := True
def s_laws_toFile (n d : List UInt8) : List UInt8 × List UInt8 := (n, d)
theorem p_laws_toFile (n d : List UInt8) (h : pre_laws_toFile n d) : ∃ N, laws_toFile_f N n d = some (s_laws_toFile n d) := ⟨0, rfl⟩
theorem l_toFileS (L : List UInt8 → List UInt8 → Option (List UInt8 × List UInt8)) (hL : ∀ n d, pre_laws_toFile n d → L n d = some (s_laws_toFile n d)) (l : List TFile) (hl : few l) :
    ∀ (r : List TFile) (j e : Nat) (z : List TFile), l.drop j = r → z.length = l.length → z.take j = l.take j → laws_toFileS_l0 L (r.length + 1 + e) l j z = some l
  | [], j, e, z, hd, hz, ht => by
    have h := at_nil hd
    have hj : l.length ≤ j := by omega
    rw [List.length_nil, fuel0]
    simp only [laws_toFileS_l0]
    rw [if_neg h, ← List.take_of_length_le (show z.length ≤ j by omega), ht, List.take_of_length_le hj]
  | x :: r, j, e, z, hd, hz, ht => by
    obtain ⟨h1, h2, h3, h4, h5, h6⟩ := at_cons hd
    rw [List.length_cons, fuel]
    simp only [laws_toFileS_l0]
    rw [if_pos h2, h3]
    simp only [Option.bind_some]
    rw [hL _ _ trivial]
    simp only [Option.bind_some, s_laws_toFile]
    rw [if_pos (by omega), Int.toNat_natCast, setN, if_pos (by omega)]
    simp only [Option.bind_some]
    rw [succ_w h1 (few_big hl)]
    refine l_toFileS L hL l hl r (j + 1) e (z.set j x) h5 (by simp [hz]) ?_
    rw [List.take_add_one, List.take_add_one, List.getElem?_set_self (by omega), h4, List.take_set_of_le (Nat.le_refl j), ht]
def pre_laws_toFileS (l : List TFile) : Prop := few l
def s_laws_toFileS (l : List TFile) : List TFile := l
theorem p_laws_toFileS (L : List UInt8 → List UInt8 → Option (List UInt8 × List UInt8)) (hL : ∀ n d, pre_laws_toFile n d → L n d = some (s_laws_toFile n d)) (l : List TFile) (h : pre_laws_toFileS l) :
    ∃ N, laws_toFileS_f L N l = some (s_laws_toFileS l) := by
  refine ⟨l.length + 1, ?_⟩
  unfold laws_toFileS_f s_laws_toFileS
  have h' : l.length ≤ 1048576 := h
  rw [if_pos (by unfold mkOk roomB; omega), if_pos (by omega)]
  exact l_toFileS L hL l h l 0 0 _ rfl (by simp) rfl
def pre_laws_toDisk (l : List TFile) : Prop := few l
def s_laws_toDisk (l : List TFile) : List TFile := l
theorem p_laws_toDisk (L : List TFile → Option (List TFile)) (hL : ∀ l, pre_laws_toFileS l → L l = some (s_laws_toFileS l)) (l : List TFile) (h : pre_laws_toDisk l) :
    ∃ N, laws_toDisk_f L N l = some (s_laws_toDisk l) := by
  refine ⟨0, ?_⟩
  unfold laws_toDisk_f
  rw [hL _ h]; rfl

-- letters and digits
def isDig (c : Int) : Bool := decide (48 ≤ c) && decide (c ≤ 57)
def isLet (c : Int) : Bool := (decide (97 ≤ c) && decide (c ≤ 122)) || (decide (65 ≤ c) && decide (c ≤ 90))
def pre_spec_l3Digit (c : Int) : Prop := True
def s_spec_l3Digit (c : Int) : Bool := isDig c
theorem p_spec_l3Digit (c : Int) (h : pre_spec_l3Digit c) : ∃ N, spec_l3Digit_f N c = some (s_spec_l3Digit c) := by
  refine ⟨0, ?_⟩
  unfold spec_l3Digit_f s_spec_l3Digit isDig
  by_cases h : 48 ≤ c <;> simp [h]
def pre_impl_isDigit (c : Int) : Prop := True
def s_impl_isDigit (c : Int) : Bool := isDig c
theorem p_impl_isDigit (c : Int) (h : pre_impl_isDigit c) : ∃ N, impl_isDigit_f N c = some (s_impl_isDigit c) := by
  refine ⟨0, ?_⟩
  unfold impl_isDigit_f s_impl_isDigit isDig
  by_cases h : 48 ≤ c <;> simp [h]
def pre_spec_l3Letter (c : Int) : Prop := True
def s_spec_l3Letter (c : Int) : Bool := isLet c
theorem p_spec_l3Letter (c : Int) (h : pre_spec_l3Letter c) : ∃ N, spec_l3Letter_f N c = some (s_spec_l3Letter c) := by
  refine ⟨0, ?_⟩
  unfold spec_l3Letter_f s_spec_l3Letter isLet
  by_cases h : 97 ≤ c <;> by_cases h' : c ≤ 122 <;> by_cases h'' : 65 ≤ c <;> simp [h, h', h'']
def pre_impl_isLetter (c : Int) : Prop := True
def s_impl_isLetter (c : Int) : Bool := isLet c
theorem p_impl_isLetter (c : Int) (h : pre_impl_isLetter c) : ∃ N, impl_isLetter_f N c = some (s_impl_isLetter c) := by
  refine ⟨0, ?_⟩
  unfold impl_isLetter_f s_impl_isLetter isLet
  by_cases h : 97 ≤ c <;> by_cases h' : c ≤ 122 <;> by_cases h'' : 65 ≤ c <;> simp [h, h', h'']

-- names
def nameC (b : UInt8) : Bool := isDig b.toNat || isLet b.toNat || decide ((b.toNat : Int) = 46) || decide ((b.toNat : Int) = 95)
theorem l_specName (L1 L2 : Int → Option Bool) (h1 : ∀ c, pre_spec_l3Digit c → L1 c = some (s_spec_l3Digit c)) (h2 : ∀ c, pre_spec_l3Letter c → L2 c = some (s_spec_l3Letter c)) (l : List UInt8) (hl : l.length ≤ big) :
    ∀ (r : List UInt8) (j e : Nat), l.drop j = r → spec_l7NameOk_l0 L1 L2 (r.length + 1 + e) l j = some (r.all nameC && (decide (1 ≤ l.length) && decide (l.length ≤ 40)))
  | [], j, e, hd => by
    rw [List.length_nil, fuel0]
    simp only [spec_l7NameOk_l0]
    rw [if_neg (at_nil hd)]
    by_cases c : 1 ≤ l.length
    · rw [if_pos (by omega)]
      by_cases c' : l.length ≤ 40
      · have : (l.length : Int) ≤ 40 := by omega
        simp [c, c', this]
      · have : ¬ (l.length : Int) ≤ 40 := by omega
        simp [c, c', this]
    · rw [if_neg (by omega)]; simp [c]
  | b :: r, j, e, hd => by
    obtain ⟨g1, g2, g3, g4, g5, g6⟩ := at_cons hd
    rw [List.length_cons, fuel]
    simp only [spec_l7NameOk_l0]
    rw [if_pos g2, idxB_some g3]
    simp only [Option.bind_some]
    rw [h1 _ trivial, h2 _ trivial, succ_w g1 hl, l_specName L1 L2 h1 h2 l hl r (j + 1) e g5]
    simp only [Option.bind_some, List.all_cons, s_spec_l3Digit, s_spec_l3Letter, nameC]
    by_cases c1 : isDig b.toNat = true
    · simp [c1]
    · by_cases c2 : isLet b.toNat = true
      · simp [c1, c2]
      · by_cases c3 : (b.toNat : Int) = 46
        · simp [c1, c2, c3]
        · by_cases c4 : (b.toNat : Int) = 95
          · simp [c1, c2, c3, c4]
          · simp [c1, c2, c3, c4]
def nameOk (l : List UInt8) : Bool := l.all nameC && (decide (1 ≤ l.length) && decide (l.length ≤ 40))
def pre_spec_l7NameOk (l : List UInt8) : Prop := l.length ≤ big
def s_spec_l7NameOk (l : List UInt8) : Bool := nameOk l
theorem p_spec_l7NameOk (L1 : Int → Option Bool) (h1 : ∀ c, pre_spec_l3Digit c → L1 c = some (s_spec_l3Digit c)) (L2 : Int → Option Bool) (h2 : ∀ c, pre_spec_l3Letter c → L2 c = some (s_spec_l3Letter c)) (l : List UInt8) (h : pre_spec_l7NameOk l) :
    ∃ N, spec_l7NameOk_f L1 L2 N l = some (s_spec_l7NameOk l) := ⟨l.length + 1, l_specName L1 L2 h1 h2 l h l 0 0 rfl⟩
theorem l_implName (L1 L2 : Int → Option Bool) (h1 : ∀ c, pre_impl_isDigit c → L1 c = some (s_impl_isDigit c)) (h2 : ∀ c, pre_impl_isLetter c → L2 c = some (s_impl_isLetter c)) (l : List UInt8) (hl : l.length ≤ big) :
    ∀ (r : List UInt8) (j e : Nat), l.drop j = r → impl_fileNameOk_l0 L1 L2 (r.length + 1 + e) l l.length j = some (r.all nameC)
  | [], j, e, hd => by
    rw [List.length_nil, fuel0]
    simp only [impl_fileNameOk_l0]
    rw [if_neg (at_nil hd)]; rfl
  | b :: r, j, e, hd => by
    obtain ⟨g1, g2, g3, g4, g5, g6⟩ := at_cons hd
    rw [List.length_cons, fuel]
    simp only [impl_fileNameOk_l0]
    rw [if_pos g2, idxB_some g3]
    simp only [Option.bind_some]
    rw [h1 _ trivial, h2 _ trivial, succ_w g1 hl, l_implName L1 L2 h1 h2 l hl r (j + 1) e g5]
    simp only [Option.bind_some, List.all_cons, s_impl_isDigit, s_impl_isLetter, nameC]
    by_cases c1 : isDig b.toNat = true
    · simp [c1]
    · by_cases c2 : isLet b.toNat = true
      · simp [c1, c2]
      · by_cases c3 : (b.toNat : Int) = 46
        · simp [c1, c2, c3]
        · by_cases c4 : (b.toNat : Int) = 95
          · simp [c1, c2, c3, c4]
          · simp [c1, c2, c3, c4]
def pre_impl_fileNameOk (l : List UInt8) : Prop := l.length ≤ big
def s_impl_fileNameOk (l : List UInt8) : Bool := nameOk l
theorem p_impl_fileNameOk (L1 : Int → Option Bool) (h1 : ∀ c, pre_impl_isDigit c → L1 c = some (s_impl_isDigit c)) (L2 : Int → Option Bool) (h2 : ∀ c, pre_impl_isLetter c → L2 c = some (s_impl_isLetter c)) (l : List UInt8) (h : pre_impl_fileNameOk l) :
    ∃ N, impl_fileNameOk_f L1 L2 N l = some (s_impl_fileNameOk l) := by
  refine ⟨l.length + 1, ?_⟩
  unfold impl_fileNameOk_f s_impl_fileNameOk nameOk
  by_cases c : (l.length : Int) < 1
  · have : ¬ 1 ≤ l.length := by omega
    rw [if_pos c]; simp [this]
  · rw [if_neg c]
    by_cases c' : (40 : Int) < l.length
    · have : ¬ l.length ≤ 40 := by omega
      rw [if_pos c']; simp [this]
    · rw [if_neg c']
      have q := l_implName L1 L2 h1 h2 l h l 0 0 rfl
      have e1 : 1 ≤ l.length := by omega
      have e2 : l.length ≤ 40 := by omega
      simp only [e1, e2, decide_true, Bool.and_self, Bool.and_true]
      exact q

-- disks
def chain : Option (List UInt8) → List TFile → Bool
  | _, [] => true
  | p, x :: r => nameOk x.Name && decide (x.Data.length ≤ 100000) && (match p with | none => true | some q => lessS q x.Name) && chain (some x.Name) r
theorem prev_at {l : List TFile} {j : Nat} {x : TFile} (h : l[j]? = some x) : (if j + 1 = 0 then none else (l[j + 1 - 1]?).map (·.Name)) = some x.Name := by
  rw [if_neg (by omega), Nat.add_sub_cancel, h]; rfl
theorem w64_pred {j n : Nat} (h : j < n) (hn : n ≤ big) (h0 : 0 < j) : w64 ((j : Int) - 1) = ((j - 1 : Nat) : Int) := by
  rw [big_eq] at hn
  rw [w64_in (by omega)]; omega
theorem l_specDisk (L : List UInt8 → Option Bool) (hL : ∀ l, pre_spec_l7NameOk l → L l = some (s_spec_l7NameOk l)) (l : List TFile) (hl : few l) (hf : ∀ x ∈ l, fileIn x) :
    ∀ (r : List TFile) (j e : Nat) (p : Option (List UInt8)), l.drop j = r → p = (if j = 0 then none else (l[j - 1]?).map (·.Name)) → spec_DiskOk_l0 L (r.length + 1 + e) j l = some (chain p r)
  | [], j, e, p, hd, hp => by
    rw [List.length_nil, fuel0]
    simp only [spec_DiskOk_l0]
    rw [if_neg (at_nil hd)]; rfl
  | x :: r, j, e, p, hd, hp => by
    obtain ⟨g1, g2, g3, g4, g5, g6⟩ := at_cons hd
    have hx := hf x (List.mem_of_getElem? g4)
    rw [List.length_cons, fuel]
    simp only [spec_DiskOk_l0]
    rw [if_pos g2, g3]
    simp only [Option.bind_some]
    rw [hL _ hx.1]
    simp only [Option.bind_some, s_spec_l7NameOk, chain]
    have ih := l_specDisk L hL l hl hf r (j + 1) e (some x.Name) g5 (prev_at g4).symm
    cases c1 : nameOk x.Name with
    | false => simp
    | true =>
      rw [if_neg (by simp)]
      by_cases c2 : (100000 : Int) < x.Data.length
      · have : ¬ x.Data.length ≤ 100000 := by omega
        rw [if_pos c2]; simp [this]
      · have e2 : x.Data.length ≤ 100000 := by omega
        rw [if_neg c2, succ_w g1 (few_big hl), ih]
        by_cases c3 : (0 : Int) < j
        · rw [if_pos c3, w64_pred g1 (few_big hl) (by omega), idx_nat]
          have hj : j - 1 < l.length := by omega
          rw [if_neg (by omega)] at hp
          rw [List.getElem?_eq_getElem hj] at hp ⊢
          subst hp
          simp only [Option.bind_some, Option.map_some, e2, decide_true, Bool.true_and]
          cases lessS l[j - 1].Name x.Name <;> simp
        · rw [if_neg c3]
          rw [if_pos (by omega)] at hp
          subst hp
          simp [e2]
def diskOk (l : List TFile) : Bool := decide (l.length ≤ 400) && chain none l
def pre_spec_DiskOk (l : List TFile) : Prop := few l ∧ ∀ x ∈ l, fileIn x
def s_spec_DiskOk (l : List TFile) : Bool := diskOk l
theorem p_spec_DiskOk (L : List UInt8 → Option Bool) (hL : ∀ l, pre_spec_l7NameOk l → L l = some (s_spec_l7NameOk l)) (l : List TFile) (h : pre_spec_DiskOk l) : ∃ N, spec_DiskOk_f L N l = some (s_spec_DiskOk l) := by
  refine ⟨l.length + 1, ?_⟩
  unfold spec_DiskOk_f s_spec_DiskOk diskOk
  by_cases c : (400 : Int) < l.length
  · have : ¬ l.length ≤ 400 := by omega
    rw [if_pos c]; simp [this]
  · have e : l.length ≤ 400 := by omega
    rw [if_neg c]
    simp only [e, decide_true, Bool.true_and]
    exact l_specDisk L hL l h.1 h.2 l 0 0 none rfl rfl
theorem l_implDisk (L : List UInt8 → Option Bool) (hL : ∀ l, pre_impl_fileNameOk l → L l = some (s_impl_fileNameOk l)) (l : List TFile) (hl : few l) (hf : ∀ x ∈ l, fileIn x) :
    ∀ (r : List TFile) (j e : Nat) (p : Option (List UInt8)), l.drop j = r → p = (if j = 0 then none else (l[j - 1]?).map (·.Name)) → impl_DiskOk_l0 L (r.length + 1 + e) l l.length j l = some (chain p r)
  | [], j, e, p, hd, hp => by
    rw [List.length_nil, fuel0]
    simp only [impl_DiskOk_l0]
    rw [if_neg (at_nil hd)]; rfl
  | x :: r, j, e, p, hd, hp => by
    obtain ⟨g1, g2, g3, g4, g5, g6⟩ := at_cons hd
    have hx := hf x (List.mem_of_getElem? g4)
    rw [List.length_cons, fuel]
    simp only [impl_DiskOk_l0]
    rw [if_pos g2, g3]
    simp only [Option.bind_some]
    rw [hL _ hx.1]
    simp only [Option.bind_some, s_impl_fileNameOk, chain]
    have ih := l_implDisk L hL l hl hf r (j + 1) e (some x.Name) g5 (prev_at g4).symm
    cases c1 : nameOk x.Name with
    | false => simp
    | true =>
      rw [if_neg (by simp)]
      by_cases c2 : (100000 : Int) < x.Data.length
      · have : ¬ x.Data.length ≤ 100000 := by omega
        rw [if_pos c2]; simp [this]
      · have e2 : x.Data.length ≤ 100000 := by omega
        rw [if_neg c2, succ_w g1 (few_big hl), ih]
        by_cases c3 : (0 : Int) < j
        · rw [if_pos c3, w64_pred g1 (few_big hl) (by omega), idx_nat]
          have hj : j - 1 < l.length := by omega
          rw [if_neg (by omega)] at hp
          rw [List.getElem?_eq_getElem hj] at hp ⊢
          subst hp
          simp only [Option.bind_some, Option.map_some, e2, decide_true, Bool.true_and]
          cases lessS l[j - 1].Name x.Name <;> simp
        · rw [if_neg c3]
          rw [if_pos (by omega)] at hp
          subst hp
          simp [e2]
def pre_impl_DiskOk (l : List TFile) : Prop := few l ∧ ∀ x ∈ l, fileIn x
def s_impl_DiskOk (l : List TFile) : Bool := diskOk l
theorem p_impl_DiskOk (L : List UInt8 → Option Bool) (hL : ∀ l, pre_impl_fileNameOk l → L l = some (s_impl_fileNameOk l)) (l : List TFile) (h : pre_impl_DiskOk l) : ∃ N, impl_DiskOk_f L N l = some (s_impl_DiskOk l) := by
  refine ⟨l.length + 1, ?_⟩
  unfold impl_DiskOk_f s_impl_DiskOk diskOk
  by_cases c : (400 : Int) < l.length
  · have : ¬ l.length ≤ 400 := by omega
    rw [if_pos c]; simp [this]
  · have e : l.length ≤ 400 := by omega
    rw [if_neg c]
    simp only [e, decide_true, Bool.true_and]
    exact l_implDisk L hL l h.1 h.2 l 0 0 none rfl rfl

-- eqFile, eqFileS, eqDisk
def pre_laws_eqFile (n d n' d' : List UInt8) : Prop := True
def s_laws_eqFile (n d n' d' : List UInt8) : Bool := decide (n = n') && decide (d = d')
theorem p_laws_eqFile (n d n' d' : List UInt8) (h : pre_laws_eqFile n d n' d') : ∃ N, laws_eqFile_f N n d n' d' = some (s_laws_eqFile n d n' d') := by
  refine ⟨0, ?_⟩
  unfold laws_eqFile_f s_laws_eqFile
  by_cases c : n = n' <;> by_cases c' : d = d' <;> simp [c, c']
theorem l_eqFileS (L : List UInt8 → List UInt8 → List UInt8 → List UInt8 → Option Bool) (hL : ∀ n d n' d', pre_laws_eqFile n d n' d' → L n d n' d' = some (s_laws_eqFile n d n' d')) (a : List TFile) (ha : few a) :
    ∀ (r : List TFile) (j e : Nat), a.drop j = r → laws_eqFileS_l0 L (r.length + 1 + e) a a j = some true
  | [], j, e, hd => by
    rw [List.length_nil, fuel0]
    simp only [laws_eqFileS_l0]
    rw [if_neg (at_nil hd)]
  | x :: r, j, e, hd => by
    obtain ⟨h1, h2, h3, h4, h5, h6⟩ := at_cons hd
    rw [List.length_cons, fuel]
    simp only [laws_eqFileS_l0]
    rw [if_pos h2, h3]
    simp only [Option.bind_some]
    rw [hL _ _ _ _ trivial]
    simp only [Option.bind_some, s_laws_eqFile, decide_true, Bool.and_self, Bool.true_eq_false, if_false]
    rw [succ_w h1 (few_big ha)]
    exact l_eqFileS L hL a ha r (j + 1) e h5
def pre_laws_eqFileS (a b : List TFile) : Prop := few a ∧ a = b
def s_laws_eqFileS (a b : List TFile) : Bool := true
theorem p_laws_eqFileS (L : List UInt8 → List UInt8 → List UInt8 → List UInt8 → Option Bool) (hL : ∀ n d n' d', pre_laws_eqFile n d n' d' → L n d n' d' = some (s_laws_eqFile n d n' d')) (a b : List TFile) (h : pre_laws_eqFileS a b) :
    ∃ N, laws_eqFileS_f L N a b = some (s_laws_eqFileS a b) := by
  obtain ⟨h, rfl⟩ := h
  refine ⟨a.length + 1, ?_⟩
  unfold laws_eqFileS_f s_laws_eqFileS
  rw [if_pos rfl]
  exact l_eqFileS L hL a h a 0 0 rfl
def pre_laws_eqDisk (a b : List TFile) : Prop := pre_laws_eqFileS a b
def s_laws_eqDisk (a b : List TFile) : Bool := true
theorem p_laws_eqDisk (L : List TFile → List TFile → Option Bool) (hL : ∀ a b, pre_laws_eqFileS a b → L a b = some (s_laws_eqFileS a b)) (a b : List TFile) (h : pre_laws_eqDisk a b) : ∃ N, laws_eqDisk_f L N a b = some (s_laws_eqDisk a b) := by
  refine ⟨0, ?_⟩
  unfold laws_eqDisk_f
  rw [hL _ _ h]; rfl

-- the law
def pre_laws_FnExactDiskOk (l : List TFile) : Prop := l.length ≤ big ∧ ∀ x ∈ l, fileIn x
def s_laws_FnExactDiskOk (l : List TFile) : Bool := true
theorem p_laws_FnExactDiskOk (L0 : List TFile → Int → Option Int) (h0 : ∀ l n, pre_laws_szDisk l n → L0 l n = some (s_laws_szDisk l n)) (L1 : List TFile → Option (List TFile)) (h1 : ∀ l, pre_laws_toDisk l → L1 l = some (s_laws_toDisk l))
    (L2 : List TFile → Option Bool) (h2 : ∀ l, pre_spec_DiskOk l → L2 l = some (s_spec_DiskOk l)) (L3 : List TFile → Option Bool) (h3 : ∀ l, pre_impl_DiskOk l → L3 l = some (s_impl_DiskOk l))
    (L4 : List TFile → List TFile → Option Bool) (h4 : ∀ a b, pre_laws_eqDisk a b → L4 a b = some (s_laws_eqDisk a b)) (l : List TFile) (h : pre_laws_FnExactDiskOk l) :
    ∃ N, laws_FnExactDiskOk_f L0 L1 L2 L3 L4 N l = some (s_laws_FnExactDiskOk l) := by
  refine ⟨0, ?_⟩
  unfold laws_FnExactDiskOk_f s_laws_FnExactDiskOk
  rw [h0 _ _ ⟨h.1, h.2, by omega, by omega⟩]
  simp only [Option.bind_some]
  by_cases c : s_laws_szDisk l 1048576 < 0
  · rw [if_pos c]
  · rw [if_neg c]
    have hs : few l := by
      unfold few
      apply Classical.byContradiction
      intro hn
      apply c
      unfold s_laws_szDisk s_laws_szFileS
      rw [if_pos (c := (1048576 : Int) < l.length) (by omega)]
      simp
    rw [h1 _ hs]
    simp only [Option.bind_some, s_laws_toDisk]
    rw [h2 _ ⟨hs, h.2⟩, h3 _ ⟨hs, h.2⟩]
    simp only [Option.bind_some]
    rw [if_neg (by unfold s_impl_DiskOk s_spec_DiskOk; simp), h4 _ _ ⟨hs, rfl⟩]
    simp [s_laws_eqDisk]
theorem pre_of_laws_FnExactDiskOk {l : List TFile} (h : l.length ≤ maxLen ∧ ∀ x ∈ l, x.Name.length ≤ maxLen ∧ x.Data.length ≤ maxLen) : pre_laws_FnExactDiskOk l := ⟨h.1, h.2⟩
end Go.Vm
