/- The methods of a strings.Builder over this program, as contracts of the abstract machine. -/
import Derived.Test.YtafjdofgafppgaaDoorBldC
import Derived.Test.YtafjdofgafppgaaDoorVmBldA
import Derived.Test.YtafjdofgafppgaaDoorVmLayer
import Derived.Test.YtafjdofgafppgaaDoorVmKind
set_option linter.all false
namespace Go.Vm
open Go.RowKit Go.Proofs
theorem lies_B : liesB 56 := ⟨by kernel_rfl, by decide⟩
variable [Gl]
theorem sound_WriteString {enc : Nat × List UInt8 × List UInt8 → List X} (henc : ∀ a, enc a = [.res (.bld a.1 5) (sD a.2.1), .d (sD a.2.2)]) {C : Nat × List UInt8 × List UInt8 → Option XOut} (hC : ∀ a out, C a = some out → (liesB a.1 ∧ a.2.1.length + a.2.2.length ≤ 140737488355328) ∧ out = .ret (.tup [.d (.int .i64 a.2.2.length), .d .nili]) [[sD (a.2.1 ++ a.2.2)]]) :
    Sound Tryd.prog 44 (lay enc C) := by
  intro S w args xs bs hx hb out ho
  obtain ⟨⟨T, l, s⟩, rfl, ho2⟩ := lay_some ho
  rw [henc] at hx ⊢
  obtain ⟨⟨hT, hlen⟩, rfl⟩ := hC _ _ ho2
  refine ⟨callFunc_run Tryd.func44 (by kernel_rfl) (by kernel_rfl) args w, ?_⟩
  obtain ⟨b, p, v, us, e1, h2, hp, hbk, hown, hne, rfl, hS⟩ := bld_in hx (by intro x hx; simp only [List.mem_singleton] at hx; exact ⟨_, hx⟩)
  obtain ⟨s0, _, _, _, rfl, _, ⟨_, hs⟩, rfl, _⟩ := h2
  simp only [sD, RD] at hs
  subst hs
  obtain rfl : args = #[.pointer (some ⟨b, 0, none⟩), .string ⟨s.toArray⟩] := by cases args; simp_all
  have hl : (Lib.byteCells l).length = l.length := by simp [Lib.byteCells]
  have hsz : (⟨s.toArray⟩ : ByteArray).size = s.length := by simp [ByteArray.size]
  have hsc : Lib.byteCells l ++ Lib.strCells ⟨s.toArray⟩ = Lib.byteCells (l ++ s) := by simp [Lib.byteCells, Lib.strCells]
  refine (bld_WriteString hT b p v (Lib.byteCells l) ⟨s.toArray⟩ w hp hbk (by rw [hl]; exact hown) hne (by rw [hl, hsz]; exact hlen)).mono ?_
  rintro e w' ⟨rfl, v', q1, q2, q3, q4, q5⟩
  rw [hsc] at q2
  refine bld_out hbk hS (fun S' => ⟨_, rfl, _, _, [], [], rfl, rfl, ⟨rfl, by simp only [RD, hsz]⟩, _, _, [], [], rfl, rfl, ⟨rfl, by simp only [RD]⟩, rfl, rfl⟩) (fun ls => ?_) (.inr rfl) q1 (by simpa [Lib.byteCells] using q2) q3 q4 q5
  simp only [ParOK]
  intro vs hv
  injection hv with hv
  subst hv
  simp only [ParOKs, ParOK, and_self]
theorem sound_WriteByte {enc : Nat × List UInt8 × Int → List X} (henc : ∀ a, enc a = [.res (.bld a.1 5) (sD a.2.1), .d (.int .u8 a.2.2)]) {C : Nat × List UInt8 × Int → Option XOut} (hC : ∀ a out, C a = some out → (liesB a.1 ∧ a.2.1.length + 1 ≤ 140737488355328 ∧ 0 ≤ a.2.2 ∧ a.2.2 < 256) ∧ out = .ret (.d .nili) [[sD (a.2.1 ++ [UInt8.ofNat a.2.2.toNat])]]) :
    Sound Tryd.prog 46 (lay enc C) := by
  intro S w args xs bs hx hb out ho
  obtain ⟨⟨T, l, c⟩, rfl, ho2⟩ := lay_some ho
  rw [henc] at hx ⊢
  obtain ⟨⟨hT, hlen, hc0, hc1⟩, rfl⟩ := hC _ _ ho2
  refine ⟨callFunc_run Tryd.func46 (by kernel_rfl) (by kernel_rfl) args w, ?_⟩
  replace hc0 : 0 ≤ c := hc0
  replace hc1 : c < 256 := hc1
  replace hlen : l.length + 1 ≤ 140737488355328 := hlen
  obtain ⟨b, p, v, us, e1, h2, hp, hbk, hown, hne, rfl, hS⟩ := bld_in hx (by intro x hx; simp only [List.mem_singleton] at hx; exact ⟨_, hx⟩)
  obtain ⟨s0, _, _, _, rfl, _, ⟨_, hs⟩, rfl, _⟩ := h2
  simp only [RD] at hs
  subst hs
  obtain rfl : args = #[.pointer (some ⟨b, 0, none⟩), .int .u8 c] := by cases args; simp_all
  have hl : (Lib.byteCells l).length = l.length := by simp [Lib.byteCells]
  have hsc : Lib.byteCells l ++ [Value.int .u8 c] = Lib.byteCells (l ++ [UInt8.ofNat c.toNat]) := by
    have : ((UInt8.ofNat c.toNat).toNat : Int) = c := by rw [UInt8.toNat_ofNat']; omega
    simp only [Lib.byteCells, List.map_append, List.map_cons, List.map_nil, this]
  refine (bld_WriteByte hT b p v (Lib.byteCells l) c w hp hbk (by rw [hl]; exact hown) hne (by rw [hl]; exact hlen)).mono ?_
  rintro e w' ⟨rfl, v', q1, q2, q3, q4, q5⟩
  rw [hsc] at q2
  exact bld_out hbk hS (fun S' => ⟨rfl, by simp only [RD]⟩) (fun ls => by simp only [ParOK]) (.inr rfl) q1 (by simpa [Lib.byteCells] using q2) q3 q4 q5
theorem sound_String {enc : Nat × List UInt8 → List X} (henc : ∀ a, enc a = [.res (.bld a.1 5) (sD a.2)]) {C : Nat × List UInt8 → Option XOut} (hC : ∀ a out, C a = some out → (liesB a.1) ∧ out = .ret (.d (sD a.2)) [[sD a.2]]) :
    Sound Tryd.prog 33 (lay enc C) := by
  intro S w args xs bs hx hb out ho
  obtain ⟨⟨T, l⟩, rfl, ho2⟩ := lay_some ho
  rw [henc] at hx ⊢
  obtain ⟨hT, rfl⟩ := hC _ _ ho2
  refine ⟨callFunc_run Tryd.func33 (by kernel_rfl) (by kernel_rfl) args w, ?_⟩
  obtain ⟨b, p, v, us, e1, h2, hp, hbk, hown, hne, rfl, hS⟩ := bld_in hx (by simp)
  obtain ⟨rfl, _⟩ := h2
  obtain rfl : args = #[.pointer (some ⟨b, 0, none⟩)] := by cases args; simp_all
  refine (bld_String hT b p v l w hbk hown hne).mono ?_
  rintro e w' ⟨rfl, q1, q2, q5⟩
  exact bld_out hbk hS (fun S' => ⟨rfl, by simp only [sD, RD]⟩) (fun ls => by simp only [ParOK]) hp q1 q2 hne (fun g h _ => h) q5
end Go.Vm
