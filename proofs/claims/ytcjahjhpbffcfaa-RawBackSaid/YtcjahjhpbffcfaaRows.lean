/-
  No cell of these rows narrows 'for every input' (looked for: loops, veiled, ifaces, maps, wideKeys, modest, calm, conditions, laid).
  DERIVED. THE GIVEN ROWS OF THIS SEAT. 4 by the template 'for every input the law returns true; each argument reads behind the call as it read before'; 0 by the template 'total and deterministic' (their statements: YtcjahjhpbffcfaaTotals.lean).
  GIVEN WITH THE SEED: the statements are not yours to turn. If you find one false, say at which input.
  Laid BY PROGRAM, IN A SANDBOX (cutbox-rows.mjs): the forced cells as the released guide's own fill.sh prints them over the translation a5bfb9869bd03ead… (all of the seat's roots in one cut). By AI agents, Wed Nov 11 2026. No macro, syntax, notation, axiom, sorry.
-/
import Derived.Test.YtcjahjhpbffcfaaChecked
import GoSem.Claim
import GoSem.ClaimJoined
import GoSem.ClaimMapViews
import Derived.JoinedTies
import Derived.KernelRfl
namespace Go.Proofs.Ytcjahjhpbffcfaa
/- THE CELL 'sum', in the pinned program and in every row, IS THE sha256 OF THE DUMP (.gsa) THAT YtcjahjhpbffcfaaProg.lean LOADS. Nothing in Lean hashes anything: it is a label: what it is worth is what the hold of that sum in a sandbox is worth. -/
noncomputable def Try.pinned : Pinned := { name := "ytcjahjhpbffcfaa", sum := "a5bfb9869bd03eade1ccc9a115eb7ac822933435f3459563b8738e23c1de4a5d", checked := Try.checked }
namespace Rows
def none {H : Type} : Left H := { results := [], args := [] }

/-- 'abecedarylaw26.RawBack': WHATEVER THE INPUT: true; the input reads as it did. -/
def rawBackSpec : ChangeSpec := { name := "rawBack", fn := fun _ => fun
  | [d1, d2] => { results := [.lit (.bool true)], args := [d1, d2] }
  | _ => none }
def rawBackRow : OpenClaim := { program := "ytcjahjhpbffcfaa", sum := "a5bfb9869bd03eade1ccc9a115eb7ac822933435f3459563b8738e23c1de4a5d", func := "abecedary/abecedarylaw26.RawBack", spec := "rawBack", unfollowed := true, recurses := true, apart := false }
def RawBackSaid : Prop := rawBackRow.holds Try.pinned (OpenSpec.ofChange rawBackSpec)

/-- ITS FALSE NEIGHBOUR: 'it returns false'. Refute it at one input. -/
def rawBackWrong : ChangeSpec := { name := "rawBack", fn := fun _ => fun
  | [d1, d2] => { results := [.lit (.bool false)], args := [d1, d2] }
  | _ => none }
def RawBackWrongFalsely : Prop := rawBackRow.holds Try.pinned (OpenSpec.ofChange rawBackWrong)

/-- 'abecedarylaw26.RawKinds': WHATEVER THE INPUT: true; the input reads as it did. -/
def rawKindsSpec : ChangeSpec := { name := "rawKinds", fn := fun _ => fun
  | [d1, d2, d3] => { results := [.lit (.bool true)], args := [d1, d2, d3] }
  | _ => none }
def rawKindsRow : OpenClaim := { program := "ytcjahjhpbffcfaa", sum := "a5bfb9869bd03eade1ccc9a115eb7ac822933435f3459563b8738e23c1de4a5d", func := "abecedary/abecedarylaw26.RawKinds", spec := "rawKinds", unfollowed := true, recurses := true, apart := false }
def RawKindsSaid : Prop := rawKindsRow.holds Try.pinned (OpenSpec.ofChange rawKindsSpec)

/-- ITS FALSE NEIGHBOUR: 'it returns false'. Refute it at one input. -/
def rawKindsWrong : ChangeSpec := { name := "rawKinds", fn := fun _ => fun
  | [d1, d2, d3] => { results := [.lit (.bool false)], args := [d1, d2, d3] }
  | _ => none }
def RawKindsWrongFalsely : Prop := rawKindsRow.holds Try.pinned (OpenSpec.ofChange rawKindsWrong)

/-- 'abecedarylaw26.RawWrong': WHATEVER THE INPUT: true; the input reads as it did. -/
def rawWrongSpec : ChangeSpec := { name := "rawWrong", fn := fun _ => fun
  | [d1, d2] => { results := [.lit (.bool true)], args := [d1, d2] }
  | _ => none }
def rawWrongRow : OpenClaim := { program := "ytcjahjhpbffcfaa", sum := "a5bfb9869bd03eade1ccc9a115eb7ac822933435f3459563b8738e23c1de4a5d", func := "abecedary/abecedarylaw26.RawWrong", spec := "rawWrong", unfollowed := true, recurses := true, apart := false }
def RawWrongSaid : Prop := rawWrongRow.holds Try.pinned (OpenSpec.ofChange rawWrongSpec)

/-- ITS FALSE NEIGHBOUR: 'it returns false'. Refute it at one input. -/
def rawWrongWrong : ChangeSpec := { name := "rawWrong", fn := fun _ => fun
  | [d1, d2] => { results := [.lit (.bool false)], args := [d1, d2] }
  | _ => none }
def RawWrongWrongFalsely : Prop := rawWrongRow.holds Try.pinned (OpenSpec.ofChange rawWrongWrong)

/-- 'abecedarylaw26.RawNumbers': WHATEVER THE INPUT: true; the input reads as it did. -/
def rawNumbersSpec : ChangeSpec := { name := "rawNumbers", fn := fun _ => fun
  | [d1, d2, d3, d4] => { results := [.lit (.bool true)], args := [d1, d2, d3, d4] }
  | _ => none }
def rawNumbersRow : OpenClaim := { program := "ytcjahjhpbffcfaa", sum := "a5bfb9869bd03eade1ccc9a115eb7ac822933435f3459563b8738e23c1de4a5d", func := "abecedary/abecedarylaw26.RawNumbers", spec := "rawNumbers", unfollowed := true, recurses := true, apart := false }
def RawNumbersSaid : Prop := rawNumbersRow.holds Try.pinned (OpenSpec.ofChange rawNumbersSpec)

/-- ITS FALSE NEIGHBOUR: 'it returns false'. Refute it at one input. -/
def rawNumbersWrong : ChangeSpec := { name := "rawNumbers", fn := fun _ => fun
  | [d1, d2, d3, d4] => { results := [.lit (.bool false)], args := [d1, d2, d3, d4] }
  | _ => none }
def RawNumbersWrongFalsely : Prop := rawNumbersRow.holds Try.pinned (OpenSpec.ofChange rawNumbersWrong)

/- THE SECOND FORM. 'bulk': how many values and letters a reading holds, each counted each time it is reached (what is shared counts as often as it is met; a slice's spare places count too). A statement '..UptoSaid' is the law's where the arguments, and the package variables that the reading takes, are together of bulk at most 1048576: NARROWER than '..Said'. Prove '..Said' where nothing that the law and all that it calls make is longer than what came in: it says more and counts as full. Else prove '..UptoSaid'. A law counts once. -/
mutual
def uptoBulk {H : Type} : DataW H → Nat
  | .lit (.string bytes) => bytes.length + 1
  | .lit _ => 1
  | .nil => 1
  | .ptr d => uptoBulk d + 1
  | .slice elems spare => uptoBulkAll elems + uptoBulkAll spare + 1
  | .agg parts => uptoBulkAll parts + 1
  | .iface _ d => uptoBulk d + 1
  | .map entries => uptoBulkEntries entries + 1
  | .held _ => 1
def uptoBulkAll {H : Type} : List (DataW H) → Nat
  | [] => 0
  | d :: r => uptoBulk d + uptoBulkAll r
def uptoBulkEntries {H : Type} : List (Lit × DataW H) → Nat
  | [] => 0
  | x :: r => uptoBulkEntry x + uptoBulkEntries r
def uptoBulkEntry {H : Type} : Lit × DataW H → Nat
  | (.string bytes, d) => bytes.length + uptoBulk d + 1
  | (_, d) => uptoBulk d + 1
 end
def uptoSmall : (H : Type) → List (DataW H) → Bool := fun _ ds => decide (uptoBulkAll ds ≤ 1048576)
def OpenSpec.upto (s : _root_.Go.ChangeSpec) : _root_.Go.OpenSpec := { _root_.Go.OpenSpec.ofChange s with cond := some uptoSmall }

/-- 'abecedarylaw26.RawBack', WHERE WHAT IT READS IS OF BULK AT MOST 1048576: true; the input reads as it did. -/
def rawBackUptoRow : OpenClaim := { program := "ytcjahjhpbffcfaa", sum := "a5bfb9869bd03eade1ccc9a115eb7ac822933435f3459563b8738e23c1de4a5d", func := "abecedary/abecedarylaw26.RawBack", spec := "rawBack", unfollowed := true, recurses := true, apart := false, narrowed := true }
def RawBackUptoSaid : Prop := rawBackUptoRow.holds Try.pinned (OpenSpec.upto rawBackSpec)

/-- 'abecedarylaw26.RawKinds', WHERE WHAT IT READS IS OF BULK AT MOST 1048576: true; the input reads as it did. -/
def rawKindsUptoRow : OpenClaim := { program := "ytcjahjhpbffcfaa", sum := "a5bfb9869bd03eade1ccc9a115eb7ac822933435f3459563b8738e23c1de4a5d", func := "abecedary/abecedarylaw26.RawKinds", spec := "rawKinds", unfollowed := true, recurses := true, apart := false, narrowed := true }
def RawKindsUptoSaid : Prop := rawKindsUptoRow.holds Try.pinned (OpenSpec.upto rawKindsSpec)

/-- 'abecedarylaw26.RawWrong', WHERE WHAT IT READS IS OF BULK AT MOST 1048576: true; the input reads as it did. -/
def rawWrongUptoRow : OpenClaim := { program := "ytcjahjhpbffcfaa", sum := "a5bfb9869bd03eade1ccc9a115eb7ac822933435f3459563b8738e23c1de4a5d", func := "abecedary/abecedarylaw26.RawWrong", spec := "rawWrong", unfollowed := true, recurses := true, apart := false, narrowed := true }
def RawWrongUptoSaid : Prop := rawWrongUptoRow.holds Try.pinned (OpenSpec.upto rawWrongSpec)

/-- 'abecedarylaw26.RawNumbers', WHERE WHAT IT READS IS OF BULK AT MOST 1048576: true; the input reads as it did. -/
def rawNumbersUptoRow : OpenClaim := { program := "ytcjahjhpbffcfaa", sum := "a5bfb9869bd03eade1ccc9a115eb7ac822933435f3459563b8738e23c1de4a5d", func := "abecedary/abecedarylaw26.RawNumbers", spec := "rawNumbers", unfollowed := true, recurses := true, apart := false, narrowed := true }
def RawNumbersUptoSaid : Prop := rawNumbersUptoRow.holds Try.pinned (OpenSpec.upto rawNumbersSpec)

end Rows
end Go.Proofs.Ytcjahjhpbffcfaa
