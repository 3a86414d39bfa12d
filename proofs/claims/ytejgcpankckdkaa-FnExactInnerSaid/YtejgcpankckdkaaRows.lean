/-
  No cell of these rows narrows 'for every input' (looked for: loops, veiled, ifaces, maps, wideKeys, modest, calm, conditions, laid).
  DERIVED. THE GIVEN ROWS OF THIS SEAT. 11 by the template 'for every input the law returns true; each argument reads behind the call as it read before'; 0 by the template 'total and deterministic' (their statements: YtejgcpankckdkaaTotals.lean).
  GIVEN WITH THE SEED: the statements are not yours to turn. If you find one false, say at which input.
  Laid BY PROGRAM, IN A SANDBOX (cutbox-rows.mjs): the forced cells as the released guide's own fill.sh prints them over the translation 7868c083121a226b… (all of the seat's roots in one cut). By AI agents, Wed Nov 11 2026. No macro, syntax, notation, axiom, sorry.
-/
import Derived.Test.YtejgcpankckdkaaChecked
import GoSem.Claim
import GoSem.ClaimJoined
import GoSem.ClaimMapViews
import Derived.JoinedTies
import Derived.KernelRfl
namespace Go.Proofs.Ytejgcpankckdkaa
/- THE CELL 'sum', in the pinned program and in every row, IS THE sha256 OF THE DUMP (.gsa) THAT YtejgcpankckdkaaProg.lean LOADS. Nothing in Lean hashes anything: it is a label: what it is worth is what the hold of that sum in a sandbox is worth. -/
noncomputable def Try.pinned : Pinned := { name := "ytejgcpankckdkaa", sum := "7868c083121a226be6b2fef37a94f76c47a795708ec305f3df9ffb5f5a8ac15f", checked := Try.checked }
namespace Rows
def none {H : Type} : Left H := { results := [], args := [] }

/-- 'laws.FnExactArrayOk': WHATEVER THE INPUT: true; the input reads as it did. -/
def fnExactArrayOkSpec : ChangeSpec := { name := "fnExactArrayOk", fn := fun _ => fun
  | [d] => { results := [.lit (.bool true)], args := [d] }
  | _ => none }
def fnExactArrayOkRow : OpenClaim := { program := "ytejgcpankckdkaa", sum := "7868c083121a226be6b2fef37a94f76c47a795708ec305f3df9ffb5f5a8ac15f", func := "loop.example/s02135/laws.FnExactArrayOk", spec := "fnExactArrayOk", apart := false }
def FnExactArrayOkSaid : Prop := fnExactArrayOkRow.holds Try.pinned (OpenSpec.ofChange fnExactArrayOkSpec)

/-- ITS FALSE NEIGHBOUR: 'it returns false'. Refute it at one input. -/
def fnExactArrayOkWrong : ChangeSpec := { name := "fnExactArrayOk", fn := fun _ => fun
  | [d] => { results := [.lit (.bool false)], args := [d] }
  | _ => none }
def FnExactArrayOkWrongFalsely : Prop := fnExactArrayOkRow.holds Try.pinned (OpenSpec.ofChange fnExactArrayOkWrong)

/-- 'laws.FnExactDiskOk': WHATEVER THE INPUT: true; the input reads as it did. -/
def fnExactDiskOkSpec : ChangeSpec := { name := "fnExactDiskOk", fn := fun _ => fun
  | [d] => { results := [.lit (.bool true)], args := [d] }
  | _ => none }
def fnExactDiskOkRow : OpenClaim := { program := "ytejgcpankckdkaa", sum := "7868c083121a226be6b2fef37a94f76c47a795708ec305f3df9ffb5f5a8ac15f", func := "loop.example/s02135/laws.FnExactDiskOk", spec := "fnExactDiskOk", apart := false }
def FnExactDiskOkSaid : Prop := fnExactDiskOkRow.holds Try.pinned (OpenSpec.ofChange fnExactDiskOkSpec)

/-- ITS FALSE NEIGHBOUR: 'it returns false'. Refute it at one input. -/
def fnExactDiskOkWrong : ChangeSpec := { name := "fnExactDiskOk", fn := fun _ => fun
  | [d] => { results := [.lit (.bool false)], args := [d] }
  | _ => none }
def FnExactDiskOkWrongFalsely : Prop := fnExactDiskOkRow.holds Try.pinned (OpenSpec.ofChange fnExactDiskOkWrong)

/-- 'laws.FnExactEach1': WHATEVER THE INPUT: true; the input reads as it did. -/
def fnExactEach1Spec : ChangeSpec := { name := "fnExactEach1", fn := fun _ => fun
  | [d1, d2] => { results := [.lit (.bool true)], args := [d1, d2] }
  | _ => none }
def fnExactEach1Row : OpenClaim := { program := "ytejgcpankckdkaa", sum := "7868c083121a226be6b2fef37a94f76c47a795708ec305f3df9ffb5f5a8ac15f", func := "loop.example/s02135/laws.FnExactEach1", spec := "fnExactEach1", unfollowed := true, recurses := true, apart := false }
def FnExactEach1Said : Prop := fnExactEach1Row.holds Try.pinned (OpenSpec.ofChange fnExactEach1Spec)

/-- ITS FALSE NEIGHBOUR: 'it returns false'. Refute it at one input. -/
def fnExactEach1Wrong : ChangeSpec := { name := "fnExactEach1", fn := fun _ => fun
  | [d1, d2] => { results := [.lit (.bool false)], args := [d1, d2] }
  | _ => none }
def FnExactEach1WrongFalsely : Prop := fnExactEach1Row.holds Try.pinned (OpenSpec.ofChange fnExactEach1Wrong)

/-- 'laws.FnExactEach2': WHATEVER THE INPUT: true; the input reads as it did. -/
def fnExactEach2Spec : ChangeSpec := { name := "fnExactEach2", fn := fun _ => fun
  | [d1, d2, d3] => { results := [.lit (.bool true)], args := [d1, d2, d3] }
  | _ => none }
def fnExactEach2Row : OpenClaim := { program := "ytejgcpankckdkaa", sum := "7868c083121a226be6b2fef37a94f76c47a795708ec305f3df9ffb5f5a8ac15f", func := "loop.example/s02135/laws.FnExactEach2", spec := "fnExactEach2", unfollowed := true, recurses := true, apart := false }
def FnExactEach2Said : Prop := fnExactEach2Row.holds Try.pinned (OpenSpec.ofChange fnExactEach2Spec)

/-- ITS FALSE NEIGHBOUR: 'it returns false'. Refute it at one input. -/
def fnExactEach2Wrong : ChangeSpec := { name := "fnExactEach2", fn := fun _ => fun
  | [d1, d2, d3] => { results := [.lit (.bool false)], args := [d1, d2, d3] }
  | _ => none }
def FnExactEach2WrongFalsely : Prop := fnExactEach2Row.holds Try.pinned (OpenSpec.ofChange fnExactEach2Wrong)

/-- 'laws.FnExactOuter': WHATEVER THE INPUT: true; the input reads as it did. -/
def fnExactOuterSpec : ChangeSpec := { name := "fnExactOuter", fn := fun _ => fun
  | [d1, d2, d3] => { results := [.lit (.bool true)], args := [d1, d2, d3] }
  | _ => none }
def fnExactOuterRow : OpenClaim := { program := "ytejgcpankckdkaa", sum := "7868c083121a226be6b2fef37a94f76c47a795708ec305f3df9ffb5f5a8ac15f", func := "loop.example/s02135/laws.FnExactOuter", spec := "fnExactOuter", unfollowed := true, recurses := true, apart := false }
def FnExactOuterSaid : Prop := fnExactOuterRow.holds Try.pinned (OpenSpec.ofChange fnExactOuterSpec)

/-- ITS FALSE NEIGHBOUR: 'it returns false'. Refute it at one input. -/
def fnExactOuterWrong : ChangeSpec := { name := "fnExactOuter", fn := fun _ => fun
  | [d1, d2, d3] => { results := [.lit (.bool false)], args := [d1, d2, d3] }
  | _ => none }
def FnExactOuterWrongFalsely : Prop := fnExactOuterRow.holds Try.pinned (OpenSpec.ofChange fnExactOuterWrong)

/-- 'laws.FnExactReduce': WHATEVER THE INPUT: true; the input reads as it did. -/
def fnExactReduceSpec : ChangeSpec := { name := "fnExactReduce", fn := fun _ => fun
  | [d1, d2] => { results := [.lit (.bool true)], args := [d1, d2] }
  | _ => none }
def fnExactReduceRow : OpenClaim := { program := "ytejgcpankckdkaa", sum := "7868c083121a226be6b2fef37a94f76c47a795708ec305f3df9ffb5f5a8ac15f", func := "loop.example/s02135/laws.FnExactReduce", spec := "fnExactReduce", unfollowed := true, recurses := true, apart := false }
def FnExactReduceSaid : Prop := fnExactReduceRow.holds Try.pinned (OpenSpec.ofChange fnExactReduceSpec)

/-- ITS FALSE NEIGHBOUR: 'it returns false'. Refute it at one input. -/
def fnExactReduceWrong : ChangeSpec := { name := "fnExactReduce", fn := fun _ => fun
  | [d1, d2] => { results := [.lit (.bool false)], args := [d1, d2] }
  | _ => none }
def FnExactReduceWrongFalsely : Prop := fnExactReduceRow.holds Try.pinned (OpenSpec.ofChange fnExactReduceWrong)

/-- 'laws.FnExactScan': WHATEVER THE INPUT: true; the input reads as it did. -/
def fnExactScanSpec : ChangeSpec := { name := "fnExactScan", fn := fun _ => fun
  | [d1, d2] => { results := [.lit (.bool true)], args := [d1, d2] }
  | _ => none }
def fnExactScanRow : OpenClaim := { program := "ytejgcpankckdkaa", sum := "7868c083121a226be6b2fef37a94f76c47a795708ec305f3df9ffb5f5a8ac15f", func := "loop.example/s02135/laws.FnExactScan", spec := "fnExactScan", unfollowed := true, recurses := true, apart := false }
def FnExactScanSaid : Prop := fnExactScanRow.holds Try.pinned (OpenSpec.ofChange fnExactScanSpec)

/-- ITS FALSE NEIGHBOUR: 'it returns false'. Refute it at one input. -/
def fnExactScanWrong : ChangeSpec := { name := "fnExactScan", fn := fun _ => fun
  | [d1, d2] => { results := [.lit (.bool false)], args := [d1, d2] }
  | _ => none }
def FnExactScanWrongFalsely : Prop := fnExactScanRow.holds Try.pinned (OpenSpec.ofChange fnExactScanWrong)

/-- 'laws.FnExactInner': WHATEVER THE INPUT: true; the input reads as it did. -/
def fnExactInnerSpec : ChangeSpec := { name := "fnExactInner", fn := fun _ => fun
  | [d1, d2, d3, d4] => { results := [.lit (.bool true)], args := [d1, d2, d3, d4] }
  | _ => none }
def fnExactInnerRow : OpenClaim := { program := "ytejgcpankckdkaa", sum := "7868c083121a226be6b2fef37a94f76c47a795708ec305f3df9ffb5f5a8ac15f", func := "loop.example/s02135/laws.FnExactInner", spec := "fnExactInner", unfollowed := true, recurses := true, apart := false }
def FnExactInnerSaid : Prop := fnExactInnerRow.holds Try.pinned (OpenSpec.ofChange fnExactInnerSpec)

/-- ITS FALSE NEIGHBOUR: 'it returns false'. Refute it at one input. -/
def fnExactInnerWrong : ChangeSpec := { name := "fnExactInner", fn := fun _ => fun
  | [d1, d2, d3, d4] => { results := [.lit (.bool false)], args := [d1, d2, d3, d4] }
  | _ => none }
def FnExactInnerWrongFalsely : Prop := fnExactInnerRow.holds Try.pinned (OpenSpec.ofChange fnExactInnerWrong)

/-- 'laws.FnExactRecover': WHATEVER THE INPUT: true; the input reads as it did. -/
def fnExactRecoverSpec : ChangeSpec := { name := "fnExactRecover", fn := fun _ => fun
  | [d] => { results := [.lit (.bool true)], args := [d] }
  | _ => none }
def fnExactRecoverRow : OpenClaim := { program := "ytejgcpankckdkaa", sum := "7868c083121a226be6b2fef37a94f76c47a795708ec305f3df9ffb5f5a8ac15f", func := "loop.example/s02135/laws.FnExactRecover", spec := "fnExactRecover", unfollowed := true, recurses := true, apart := false }
def FnExactRecoverSaid : Prop := fnExactRecoverRow.holds Try.pinned (OpenSpec.ofChange fnExactRecoverSpec)

/-- ITS FALSE NEIGHBOUR: 'it returns false'. Refute it at one input. -/
def fnExactRecoverWrong : ChangeSpec := { name := "fnExactRecover", fn := fun _ => fun
  | [d] => { results := [.lit (.bool false)], args := [d] }
  | _ => none }
def FnExactRecoverWrongFalsely : Prop := fnExactRecoverRow.holds Try.pinned (OpenSpec.ofChange fnExactRecoverWrong)

/-- 'laws.FnExactMonad': WHATEVER THE INPUT: true; the input reads as it did. -/
def fnExactMonadSpec : ChangeSpec := { name := "fnExactMonad", fn := fun _ => fun
  | [d1, d2] => { results := [.lit (.bool true)], args := [d1, d2] }
  | _ => none }
def fnExactMonadRow : OpenClaim := { program := "ytejgcpankckdkaa", sum := "7868c083121a226be6b2fef37a94f76c47a795708ec305f3df9ffb5f5a8ac15f", func := "loop.example/s02135/laws.FnExactMonad", spec := "fnExactMonad", inPlace := ["internal/reflectlite.ValueOf", "internal/reflectlite.Swapper", "(internal/reflectlite.Value).Len"], unfollowed := true, recurses := true, apart := false }
def FnExactMonadSaid : Prop := fnExactMonadRow.holds Try.pinned (OpenSpec.ofChange fnExactMonadSpec)

/-- ITS FALSE NEIGHBOUR: 'it returns false'. Refute it at one input. -/
def fnExactMonadWrong : ChangeSpec := { name := "fnExactMonad", fn := fun _ => fun
  | [d1, d2] => { results := [.lit (.bool false)], args := [d1, d2] }
  | _ => none }
def FnExactMonadWrongFalsely : Prop := fnExactMonadRow.holds Try.pinned (OpenSpec.ofChange fnExactMonadWrong)

/-- 'laws.FnExactDyad': WHATEVER THE INPUT: true; the input reads as it did. -/
def fnExactDyadSpec : ChangeSpec := { name := "fnExactDyad", fn := fun _ => fun
  | [d1, d2, d3] => { results := [.lit (.bool true)], args := [d1, d2, d3] }
  | _ => none }
def fnExactDyadRow : OpenClaim := { program := "ytejgcpankckdkaa", sum := "7868c083121a226be6b2fef37a94f76c47a795708ec305f3df9ffb5f5a8ac15f", func := "loop.example/s02135/laws.FnExactDyad", spec := "fnExactDyad", unfollowed := true, recurses := true, apart := false }
def FnExactDyadSaid : Prop := fnExactDyadRow.holds Try.pinned (OpenSpec.ofChange fnExactDyadSpec)

/-- ITS FALSE NEIGHBOUR: 'it returns false'. Refute it at one input. -/
def fnExactDyadWrong : ChangeSpec := { name := "fnExactDyad", fn := fun _ => fun
  | [d1, d2, d3] => { results := [.lit (.bool false)], args := [d1, d2, d3] }
  | _ => none }
def FnExactDyadWrongFalsely : Prop := fnExactDyadRow.holds Try.pinned (OpenSpec.ofChange fnExactDyadWrong)

/- THE SECOND FORM. 'bulk': how many values and letters a reading holds, each counted each time it is reached (what is shared counts as often as it is met; a slice's spare places count too). A statement '..UptoSaid' is the law's where the arguments, and the package variables that the reading takes, are together of bulk at most 1048576: NARROWER than '..Said'. Prove '..Said' where nothing that the law and all that it calls make is longer than what came in: it says more and counts as full. Else prove '..UptoSaid'. A law counts once. -/
mutual
def uptoBulk {H : Type} : DataW H → Nat
  | .lit (.string bytes) => bytes.length + 1
  | .lit _ => 1
  | .nil => 1
  | .ptr d => uptoBulk d + 1
  | .slice elems spare => uptoBulkAll elems + uptoBulkAll spare + 1
  | .agg parts => uptoBulkAll parts + 1
  | .iface _ d => uptoBulk d + 1
  | .map entries => uptoBulkEntries entries + 1
  | .held _ => 1
def uptoBulkAll {H : Type} : List (DataW H) → Nat
  | [] => 0
  | d :: r => uptoBulk d + uptoBulkAll r
def uptoBulkEntries {H : Type} : List (Lit × DataW H) → Nat
  | [] => 0
  | x :: r => uptoBulkEntry x + uptoBulkEntries r
def uptoBulkEntry {H : Type} : Lit × DataW H → Nat
  | (.string bytes, d) => bytes.length + uptoBulk d + 1
  | (_, d) => uptoBulk d + 1
 end
def uptoSmall : (H : Type) → List (DataW H) → Bool := fun _ ds => decide (uptoBulkAll ds ≤ 1048576)
def OpenSpec.upto (s : _root_.Go.ChangeSpec) : _root_.Go.OpenSpec := { _root_.Go.OpenSpec.ofChange s with cond := some uptoSmall }

/-- 'laws.FnExactArrayOk', WHERE WHAT IT READS IS OF BULK AT MOST 1048576: true; the input reads as it did. -/
def fnExactArrayOkUptoRow : OpenClaim := { program := "ytejgcpankckdkaa", sum := "7868c083121a226be6b2fef37a94f76c47a795708ec305f3df9ffb5f5a8ac15f", func := "loop.example/s02135/laws.FnExactArrayOk", spec := "fnExactArrayOk", apart := false, narrowed := true }
def FnExactArrayOkUptoSaid : Prop := fnExactArrayOkUptoRow.holds Try.pinned (OpenSpec.upto fnExactArrayOkSpec)

/-- 'laws.FnExactDiskOk', WHERE WHAT IT READS IS OF BULK AT MOST 1048576: true; the input reads as it did. -/
def fnExactDiskOkUptoRow : OpenClaim := { program := "ytejgcpankckdkaa", sum := "7868c083121a226be6b2fef37a94f76c47a795708ec305f3df9ffb5f5a8ac15f", func := "loop.example/s02135/laws.FnExactDiskOk", spec := "fnExactDiskOk", apart := false, narrowed := true }
def FnExactDiskOkUptoSaid : Prop := fnExactDiskOkUptoRow.holds Try.pinned (OpenSpec.upto fnExactDiskOkSpec)

/-- 'laws.FnExactEach1', WHERE WHAT IT READS IS OF BULK AT MOST 1048576: true; the input reads as it did. -/
def fnExactEach1UptoRow : OpenClaim := { program := "ytejgcpankckdkaa", sum := "7868c083121a226be6b2fef37a94f76c47a795708ec305f3df9ffb5f5a8ac15f", func := "loop.example/s02135/laws.FnExactEach1", spec := "fnExactEach1", unfollowed := true, recurses := true, apart := false, narrowed := true }
def FnExactEach1UptoSaid : Prop := fnExactEach1UptoRow.holds Try.pinned (OpenSpec.upto fnExactEach1Spec)

/-- 'laws.FnExactEach2', WHERE WHAT IT READS IS OF BULK AT MOST 1048576: true; the input reads as it did. -/
def fnExactEach2UptoRow : OpenClaim := { program := "ytejgcpankckdkaa", sum := "7868c083121a226be6b2fef37a94f76c47a795708ec305f3df9ffb5f5a8ac15f", func := "loop.example/s02135/laws.FnExactEach2", spec := "fnExactEach2", unfollowed := true, recurses := true, apart := false, narrowed := true }
def FnExactEach2UptoSaid : Prop := fnExactEach2UptoRow.holds Try.pinned (OpenSpec.upto fnExactEach2Spec)

/-- 'laws.FnExactOuter', WHERE WHAT IT READS IS OF BULK AT MOST 1048576: true; the input reads as it did. -/
def fnExactOuterUptoRow : OpenClaim := { program := "ytejgcpankckdkaa", sum := "7868c083121a226be6b2fef37a94f76c47a795708ec305f3df9ffb5f5a8ac15f", func := "loop.example/s02135/laws.FnExactOuter", spec := "fnExactOuter", unfollowed := true, recurses := true, apart := false, narrowed := true }
def FnExactOuterUptoSaid : Prop := fnExactOuterUptoRow.holds Try.pinned (OpenSpec.upto fnExactOuterSpec)

/-- 'laws.FnExactReduce', WHERE WHAT IT READS IS OF BULK AT MOST 1048576: true; the input reads as it did. -/
def fnExactReduceUptoRow : OpenClaim := { program := "ytejgcpankckdkaa", sum := "7868c083121a226be6b2fef37a94f76c47a795708ec305f3df9ffb5f5a8ac15f", func := "loop.example/s02135/laws.FnExactReduce", spec := "fnExactReduce", unfollowed := true, recurses := true, apart := false, narrowed := true }
def FnExactReduceUptoSaid : Prop := fnExactReduceUptoRow.holds Try.pinned (OpenSpec.upto fnExactReduceSpec)

/-- 'laws.FnExactScan', WHERE WHAT IT READS IS OF BULK AT MOST 1048576: true; the input reads as it did. -/
def fnExactScanUptoRow : OpenClaim := { program := "ytejgcpankckdkaa", sum := "7868c083121a226be6b2fef37a94f76c47a795708ec305f3df9ffb5f5a8ac15f", func := "loop.example/s02135/laws.FnExactScan", spec := "fnExactScan", unfollowed := true, recurses := true, apart := false, narrowed := true }
def FnExactScanUptoSaid : Prop := fnExactScanUptoRow.holds Try.pinned (OpenSpec.upto fnExactScanSpec)

/-- 'laws.FnExactInner', WHERE WHAT IT READS IS OF BULK AT MOST 1048576: true; the input reads as it did. -/
def fnExactInnerUptoRow : OpenClaim := { program := "ytejgcpankckdkaa", sum := "7868c083121a226be6b2fef37a94f76c47a795708ec305f3df9ffb5f5a8ac15f", func := "loop.example/s02135/laws.FnExactInner", spec := "fnExactInner", unfollowed := true, recurses := true, apart := false, narrowed := true }
def FnExactInnerUptoSaid : Prop := fnExactInnerUptoRow.holds Try.pinned (OpenSpec.upto fnExactInnerSpec)

/-- 'laws.FnExactRecover', WHERE WHAT IT READS IS OF BULK AT MOST 1048576: true; the input reads as it did. -/
def fnExactRecoverUptoRow : OpenClaim := { program := "ytejgcpankckdkaa", sum := "7868c083121a226be6b2fef37a94f76c47a795708ec305f3df9ffb5f5a8ac15f", func := "loop.example/s02135/laws.FnExactRecover", spec := "fnExactRecover", unfollowed := true, recurses := true, apart := false, narrowed := true }
def FnExactRecoverUptoSaid : Prop := fnExactRecoverUptoRow.holds Try.pinned (OpenSpec.upto fnExactRecoverSpec)

/-- 'laws.FnExactMonad', WHERE WHAT IT READS IS OF BULK AT MOST 1048576: true; the input reads as it did. -/
def fnExactMonadUptoRow : OpenClaim := { program := "ytejgcpankckdkaa", sum := "7868c083121a226be6b2fef37a94f76c47a795708ec305f3df9ffb5f5a8ac15f", func := "loop.example/s02135/laws.FnExactMonad", spec := "fnExactMonad", inPlace := ["internal/reflectlite.ValueOf", "internal/reflectlite.Swapper", "(internal/reflectlite.Value).Len"], unfollowed := true, recurses := true, apart := false, narrowed := true }
def FnExactMonadUptoSaid : Prop := fnExactMonadUptoRow.holds Try.pinned (OpenSpec.upto fnExactMonadSpec)

/-- 'laws.FnExactDyad', WHERE WHAT IT READS IS OF BULK AT MOST 1048576: true; the input reads as it did. -/
def fnExactDyadUptoRow : OpenClaim := { program := "ytejgcpankckdkaa", sum := "7868c083121a226be6b2fef37a94f76c47a795708ec305f3df9ffb5f5a8ac15f", func := "loop.example/s02135/laws.FnExactDyad", spec := "fnExactDyad", unfollowed := true, recurses := true, apart := false, narrowed := true }
def FnExactDyadUptoSaid : Prop := fnExactDyadUptoRow.holds Try.pinned (OpenSpec.upto fnExactDyadSpec)

end Rows
end Go.Proofs.Ytejgcpankckdkaa
