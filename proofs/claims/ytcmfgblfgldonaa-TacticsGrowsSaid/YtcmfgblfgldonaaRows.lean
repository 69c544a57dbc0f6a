/-
  No cell of these rows narrows 'for every input' (looked for: loops, veiled, ifaces, maps, wideKeys, modest, calm, conditions, laid).
  DERIVED. THE GIVEN ROWS OF THIS SEAT. 8 by the template 'for every input the law returns true; each argument reads behind the call as it read before'; 0 by the template 'total and deterministic' (their statements: YtcmfgblfgldonaaTotals.lean).
  GIVEN WITH THE SEED: the statements are not yours to turn. If you find one false, say at which input.
  Laid BY PROGRAM, IN A SANDBOX (cutbox-rows.mjs): the forced cells as the released guide's own fill.sh prints them over the translation 4e2cff3176619546… (all of the seat's roots in one cut). By AI agents, Wed Nov 11 2026. No macro, syntax, notation, axiom, sorry.
-/
import Derived.Test.YtcmfgblfgldonaaChecked
import GoSem.Claim
import GoSem.ClaimJoined
import GoSem.ClaimMapViews
import Derived.JoinedTies
import Derived.KernelRfl
namespace Go.Proofs.Ytcmfgblfgldonaa
/- THE CELL 'sum', in the pinned program and in every row, IS THE sha256 OF THE DUMP (.gsa) THAT YtcmfgblfgldonaaProg.lean LOADS. Nothing in Lean hashes anything: it is a label: what it is worth is what the hold of that sum in a sandbox is worth. -/
noncomputable def Try.pinned : Pinned := { name := "ytcmfgblfgldonaa", sum := "4e2cff317661954658c015e2bcaac91b9f5a67b8b7269cd0c7515e4c686b29bb", checked := Try.checked }
namespace Rows
def none {H : Type} : Left H := { results := [], args := [] }

/-- 'langdoclaw23.TacticsCheck': WHATEVER THE INPUT: true; the input reads as it did. -/
def tacticsCheckSpec : ChangeSpec := { name := "tacticsCheck", fn := fun _ => fun
  | [d] => { results := [.lit (.bool true)], args := [d] }
  | _ => none }
def tacticsCheckRow : OpenClaim := { program := "ytcmfgblfgldonaa", sum := "4e2cff317661954658c015e2bcaac91b9f5a67b8b7269cd0c7515e4c686b29bb", func := "langdoc/langdoclaw23.TacticsCheck", spec := "tacticsCheck", unfollowed := true, recurses := true, apart := false }
def TacticsCheckSaid : Prop := tacticsCheckRow.holds Try.pinned (OpenSpec.ofChange tacticsCheckSpec)

/-- ITS FALSE NEIGHBOUR: 'it returns false'. Refute it at one input. -/
def tacticsCheckWrong : ChangeSpec := { name := "tacticsCheck", fn := fun _ => fun
  | [d] => { results := [.lit (.bool false)], args := [d] }
  | _ => none }
def TacticsCheckWrongFalsely : Prop := tacticsCheckRow.holds Try.pinned (OpenSpec.ofChange tacticsCheckWrong)

/-- 'langdoclaw23.TacticsAccepts': WHATEVER THE INPUT: true; the input reads as it did. -/
def tacticsAcceptsSpec : ChangeSpec := { name := "tacticsAccepts", fn := fun _ => fun
  | [d1, d2] => { results := [.lit (.bool true)], args := [d1, d2] }
  | _ => none }
def tacticsAcceptsRow : OpenClaim := { program := "ytcmfgblfgldonaa", sum := "4e2cff317661954658c015e2bcaac91b9f5a67b8b7269cd0c7515e4c686b29bb", func := "langdoc/langdoclaw23.TacticsAccepts", spec := "tacticsAccepts", unfollowed := true, recurses := true, apart := false }
def TacticsAcceptsSaid : Prop := tacticsAcceptsRow.holds Try.pinned (OpenSpec.ofChange tacticsAcceptsSpec)

/-- ITS FALSE NEIGHBOUR: 'it returns false'. Refute it at one input. -/
def tacticsAcceptsWrong : ChangeSpec := { name := "tacticsAccepts", fn := fun _ => fun
  | [d1, d2] => { results := [.lit (.bool false)], args := [d1, d2] }
  | _ => none }
def TacticsAcceptsWrongFalsely : Prop := tacticsAcceptsRow.holds Try.pinned (OpenSpec.ofChange tacticsAcceptsWrong)

/-- 'langdoclaw23.TacticsWords': WHATEVER THE INPUT: true; the input reads as it did. -/
def tacticsWordsSpec : ChangeSpec := { name := "tacticsWords", fn := fun _ => fun
  | [d1, d2] => { results := [.lit (.bool true)], args := [d1, d2] }
  | _ => none }
def tacticsWordsRow : OpenClaim := { program := "ytcmfgblfgldonaa", sum := "4e2cff317661954658c015e2bcaac91b9f5a67b8b7269cd0c7515e4c686b29bb", func := "langdoc/langdoclaw23.TacticsWords", spec := "tacticsWords", unfollowed := true, recurses := true, apart := false }
def TacticsWordsSaid : Prop := tacticsWordsRow.holds Try.pinned (OpenSpec.ofChange tacticsWordsSpec)

/-- ITS FALSE NEIGHBOUR: 'it returns false'. Refute it at one input. -/
def tacticsWordsWrong : ChangeSpec := { name := "tacticsWords", fn := fun _ => fun
  | [d1, d2] => { results := [.lit (.bool false)], args := [d1, d2] }
  | _ => none }
def TacticsWordsWrongFalsely : Prop := tacticsWordsRow.holds Try.pinned (OpenSpec.ofChange tacticsWordsWrong)

/-- 'langdoclaw23.TacticsClasses': WHATEVER THE INPUT: true; the input reads as it did. -/
def tacticsClassesSpec : ChangeSpec := { name := "tacticsClasses", fn := fun _ => fun
  | [d] => { results := [.lit (.bool true)], args := [d] }
  | _ => none }
def tacticsClassesRow : OpenClaim := { program := "ytcmfgblfgldonaa", sum := "4e2cff317661954658c015e2bcaac91b9f5a67b8b7269cd0c7515e4c686b29bb", func := "langdoc/langdoclaw23.TacticsClasses", spec := "tacticsClasses", unfollowed := true, recurses := true, apart := false }
def TacticsClassesSaid : Prop := tacticsClassesRow.holds Try.pinned (OpenSpec.ofChange tacticsClassesSpec)

/-- ITS FALSE NEIGHBOUR: 'it returns false'. Refute it at one input. -/
def tacticsClassesWrong : ChangeSpec := { name := "tacticsClasses", fn := fun _ => fun
  | [d] => { results := [.lit (.bool false)], args := [d] }
  | _ => none }
def TacticsClassesWrongFalsely : Prop := tacticsClassesRow.holds Try.pinned (OpenSpec.ofChange tacticsClassesWrong)

/-- 'langdoclaw23.TacticsFollows': WHATEVER THE INPUT: true; the input reads as it did. -/
def tacticsFollowsSpec : ChangeSpec := { name := "tacticsFollows", fn := fun _ => fun
  | [d1, d2, d3] => { results := [.lit (.bool true)], args := [d1, d2, d3] }
  | _ => none }
def tacticsFollowsRow : OpenClaim := { program := "ytcmfgblfgldonaa", sum := "4e2cff317661954658c015e2bcaac91b9f5a67b8b7269cd0c7515e4c686b29bb", func := "langdoc/langdoclaw23.TacticsFollows", spec := "tacticsFollows", unfollowed := true, recurses := true, apart := false }
def TacticsFollowsSaid : Prop := tacticsFollowsRow.holds Try.pinned (OpenSpec.ofChange tacticsFollowsSpec)

/-- ITS FALSE NEIGHBOUR: 'it returns false'. Refute it at one input. -/
def tacticsFollowsWrong : ChangeSpec := { name := "tacticsFollows", fn := fun _ => fun
  | [d1, d2, d3] => { results := [.lit (.bool false)], args := [d1, d2, d3] }
  | _ => none }
def TacticsFollowsWrongFalsely : Prop := tacticsFollowsRow.holds Try.pinned (OpenSpec.ofChange tacticsFollowsWrong)

/-- 'langdoclaw23.TacticsListed': WHATEVER THE INPUT: true; the input reads as it did. -/
def tacticsListedSpec : ChangeSpec := { name := "tacticsListed", fn := fun _ => fun
  | [d1, d2, d3] => { results := [.lit (.bool true)], args := [d1, d2, d3] }
  | _ => none }
def tacticsListedRow : OpenClaim := { program := "ytcmfgblfgldonaa", sum := "4e2cff317661954658c015e2bcaac91b9f5a67b8b7269cd0c7515e4c686b29bb", func := "langdoc/langdoclaw23.TacticsListed", spec := "tacticsListed", unfollowed := true, recurses := true, apart := false }
def TacticsListedSaid : Prop := tacticsListedRow.holds Try.pinned (OpenSpec.ofChange tacticsListedSpec)

/-- ITS FALSE NEIGHBOUR: 'it returns false'. Refute it at one input. -/
def tacticsListedWrong : ChangeSpec := { name := "tacticsListed", fn := fun _ => fun
  | [d1, d2, d3] => { results := [.lit (.bool false)], args := [d1, d2, d3] }
  | _ => none }
def TacticsListedWrongFalsely : Prop := tacticsListedRow.holds Try.pinned (OpenSpec.ofChange tacticsListedWrong)

/-- 'langdoclaw23.TacticsGrows': WHATEVER THE INPUT: true; the input reads as it did. -/
def tacticsGrowsSpec : ChangeSpec := { name := "tacticsGrows", fn := fun _ => fun
  | [d1, d2, d3] => { results := [.lit (.bool true)], args := [d1, d2, d3] }
  | _ => none }
def tacticsGrowsRow : OpenClaim := { program := "ytcmfgblfgldonaa", sum := "4e2cff317661954658c015e2bcaac91b9f5a67b8b7269cd0c7515e4c686b29bb", func := "langdoc/langdoclaw23.TacticsGrows", spec := "tacticsGrows", unfollowed := true, recurses := true, apart := false }
def TacticsGrowsSaid : Prop := tacticsGrowsRow.holds Try.pinned (OpenSpec.ofChange tacticsGrowsSpec)

/-- ITS FALSE NEIGHBOUR: 'it returns false'. Refute it at one input. -/
def tacticsGrowsWrong : ChangeSpec := { name := "tacticsGrows", fn := fun _ => fun
  | [d1, d2, d3] => { results := [.lit (.bool false)], args := [d1, d2, d3] }
  | _ => none }
def TacticsGrowsWrongFalsely : Prop := tacticsGrowsRow.holds Try.pinned (OpenSpec.ofChange tacticsGrowsWrong)

/-- 'langdoclaw23.TacticsEnds': WHATEVER THE INPUT: true; the input reads as it did. -/
def tacticsEndsSpec : ChangeSpec := { name := "tacticsEnds", fn := fun _ => fun
  | [d1, d2] => { results := [.lit (.bool true)], args := [d1, d2] }
  | _ => none }
def tacticsEndsRow : OpenClaim := { program := "ytcmfgblfgldonaa", sum := "4e2cff317661954658c015e2bcaac91b9f5a67b8b7269cd0c7515e4c686b29bb", func := "langdoc/langdoclaw23.TacticsEnds", spec := "tacticsEnds", unfollowed := true, recurses := true, apart := false }
def TacticsEndsSaid : Prop := tacticsEndsRow.holds Try.pinned (OpenSpec.ofChange tacticsEndsSpec)

/-- ITS FALSE NEIGHBOUR: 'it returns false'. Refute it at one input. -/
def tacticsEndsWrong : ChangeSpec := { name := "tacticsEnds", fn := fun _ => fun
  | [d1, d2] => { results := [.lit (.bool false)], args := [d1, d2] }
  | _ => none }
def TacticsEndsWrongFalsely : Prop := tacticsEndsRow.holds Try.pinned (OpenSpec.ofChange tacticsEndsWrong)

/- THE SECOND FORM. 'bulk': how many values and letters a reading holds, each counted each time it is reached (what is shared counts as often as it is met; a slice's spare places count too). A statement '..UptoSaid' is the law's where the arguments, and the package variables that the reading takes, are together of bulk at most 1048576: NARROWER than '..Said'. Prove '..Said' where nothing that the law and all that it calls make is longer than what came in: it says more and counts as full. Else prove '..UptoSaid'. A law counts once. -/
mutual
def uptoBulk {H : Type} : DataW H → Nat
  | .lit (.string bytes) => bytes.length + 1
  | .lit _ => 1
  | .nil => 1
  | .ptr d => uptoBulk d + 1
  | .slice elems spare => uptoBulkAll elems + uptoBulkAll spare + 1
  | .agg parts => uptoBulkAll parts + 1
  | .iface _ d => uptoBulk d + 1
  | .map entries => uptoBulkEntries entries + 1
  | .held _ => 1
def uptoBulkAll {H : Type} : List (DataW H) → Nat
  | [] => 0
  | d :: r => uptoBulk d + uptoBulkAll r
def uptoBulkEntries {H : Type} : List (Lit × DataW H) → Nat
  | [] => 0
  | x :: r => uptoBulkEntry x + uptoBulkEntries r
def uptoBulkEntry {H : Type} : Lit × DataW H → Nat
  | (.string bytes, d) => bytes.length + uptoBulk d + 1
  | (_, d) => uptoBulk d + 1
 end
def uptoSmall : (H : Type) → List (DataW H) → Bool := fun _ ds => decide (uptoBulkAll ds ≤ 1048576)
def OpenSpec.upto (s : _root_.Go.ChangeSpec) : _root_.Go.OpenSpec := { _root_.Go.OpenSpec.ofChange s with cond := some uptoSmall }

/-- 'langdoclaw23.TacticsCheck', WHERE WHAT IT READS IS OF BULK AT MOST 1048576: true; the input reads as it did. -/
def tacticsCheckUptoRow : OpenClaim := { program := "ytcmfgblfgldonaa", sum := "4e2cff317661954658c015e2bcaac91b9f5a67b8b7269cd0c7515e4c686b29bb", func := "langdoc/langdoclaw23.TacticsCheck", spec := "tacticsCheck", unfollowed := true, recurses := true, apart := false, narrowed := true }
def TacticsCheckUptoSaid : Prop := tacticsCheckUptoRow.holds Try.pinned (OpenSpec.upto tacticsCheckSpec)

/-- 'langdoclaw23.TacticsAccepts', WHERE WHAT IT READS IS OF BULK AT MOST 1048576: true; the input reads as it did. -/
def tacticsAcceptsUptoRow : OpenClaim := { program := "ytcmfgblfgldonaa", sum := "4e2cff317661954658c015e2bcaac91b9f5a67b8b7269cd0c7515e4c686b29bb", func := "langdoc/langdoclaw23.TacticsAccepts", spec := "tacticsAccepts", unfollowed := true, recurses := true, apart := false, narrowed := true }
def TacticsAcceptsUptoSaid : Prop := tacticsAcceptsUptoRow.holds Try.pinned (OpenSpec.upto tacticsAcceptsSpec)

/-- 'langdoclaw23.TacticsWords', WHERE WHAT IT READS IS OF BULK AT MOST 1048576: true; the input reads as it did. -/
def tacticsWordsUptoRow : OpenClaim := { program := "ytcmfgblfgldonaa", sum := "4e2cff317661954658c015e2bcaac91b9f5a67b8b7269cd0c7515e4c686b29bb", func := "langdoc/langdoclaw23.TacticsWords", spec := "tacticsWords", unfollowed := true, recurses := true, apart := false, narrowed := true }
def TacticsWordsUptoSaid : Prop := tacticsWordsUptoRow.holds Try.pinned (OpenSpec.upto tacticsWordsSpec)

/-- 'langdoclaw23.TacticsClasses', WHERE WHAT IT READS IS OF BULK AT MOST 1048576: true; the input reads as it did. -/
def tacticsClassesUptoRow : OpenClaim := { program := "ytcmfgblfgldonaa", sum := "4e2cff317661954658c015e2bcaac91b9f5a67b8b7269cd0c7515e4c686b29bb", func := "langdoc/langdoclaw23.TacticsClasses", spec := "tacticsClasses", unfollowed := true, recurses := true, apart := false, narrowed := true }
def TacticsClassesUptoSaid : Prop := tacticsClassesUptoRow.holds Try.pinned (OpenSpec.upto tacticsClassesSpec)

/-- 'langdoclaw23.TacticsFollows', WHERE WHAT IT READS IS OF BULK AT MOST 1048576: true; the input reads as it did. -/
def tacticsFollowsUptoRow : OpenClaim := { program := "ytcmfgblfgldonaa", sum := "4e2cff317661954658c015e2bcaac91b9f5a67b8b7269cd0c7515e4c686b29bb", func := "langdoc/langdoclaw23.TacticsFollows", spec := "tacticsFollows", unfollowed := true, recurses := true, apart := false, narrowed := true }
def TacticsFollowsUptoSaid : Prop := tacticsFollowsUptoRow.holds Try.pinned (OpenSpec.upto tacticsFollowsSpec)

/-- 'langdoclaw23.TacticsListed', WHERE WHAT IT READS IS OF BULK AT MOST 1048576: true; the input reads as it did. -/
def tacticsListedUptoRow : OpenClaim := { program := "ytcmfgblfgldonaa", sum := "4e2cff317661954658c015e2bcaac91b9f5a67b8b7269cd0c7515e4c686b29bb", func := "langdoc/langdoclaw23.TacticsListed", spec := "tacticsListed", unfollowed := true, recurses := true, apart := false, narrowed := true }
def TacticsListedUptoSaid : Prop := tacticsListedUptoRow.holds Try.pinned (OpenSpec.upto tacticsListedSpec)

/-- 'langdoclaw23.TacticsGrows', WHERE WHAT IT READS IS OF BULK AT MOST 1048576: true; the input reads as it did. -/
def tacticsGrowsUptoRow : OpenClaim := { program := "ytcmfgblfgldonaa", sum := "4e2cff317661954658c015e2bcaac91b9f5a67b8b7269cd0c7515e4c686b29bb", func := "langdoc/langdoclaw23.TacticsGrows", spec := "tacticsGrows", unfollowed := true, recurses := true, apart := false, narrowed := true }
def TacticsGrowsUptoSaid : Prop := tacticsGrowsUptoRow.holds Try.pinned (OpenSpec.upto tacticsGrowsSpec)

/-- 'langdoclaw23.TacticsEnds', WHERE WHAT IT READS IS OF BULK AT MOST 1048576: true; the input reads as it did. -/
def tacticsEndsUptoRow : OpenClaim := { program := "ytcmfgblfgldonaa", sum := "4e2cff317661954658c015e2bcaac91b9f5a67b8b7269cd0c7515e4c686b29bb", func := "langdoc/langdoclaw23.TacticsEnds", spec := "tacticsEnds", unfollowed := true, recurses := true, apart := false, narrowed := true }
def TacticsEndsUptoSaid : Prop := tacticsEndsUptoRow.holds Try.pinned (OpenSpec.upto tacticsEndsSpec)

end Rows
end Go.Proofs.Ytcmfgblfgldonaa
