/- The plain law of FnExactConstants: the printed function answers true. No condition. -/
import Derived.Test.YthndnkpabopinaaPFnExactConstantsx1
namespace Go.Proofs.Ythndnkpabopinaa.Pure
open Go.RowKit Go.Proofs.Ythndnkpabopinaa.PFnExactConstants Go.Proofs.YthndnkpabopinaaW.PrintWords Go.Proofs.YthndnkpabopinaaW.PrintLast

/-- YOURS: laws_FnExactConstants.f  = some true
What it reaches (each with k first where it has rounds; `.mono`: more rounds tell the same; `.l0`, ..: its loops, with `.mono_l`): laws_FnExactConstants.f -/
theorem FnExactConstants : laws_FnExactConstants.Pure := by
  first
  | rfl
  | decide +kernel

end Go.Proofs.Ythndnkpabopinaa.Pure
