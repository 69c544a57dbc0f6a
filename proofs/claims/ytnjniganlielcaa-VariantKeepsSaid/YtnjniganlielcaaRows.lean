/-
  No cell of these rows narrows 'for every input' (looked for: loops, veiled, ifaces, maps, wideKeys, modest, calm, conditions, laid).
  DERIVED. THE GIVEN ROWS OF THIS SEAT. 8 by the template 'for every input the law returns true; each argument reads behind the call as it read before'; 0 by the template 'total and deterministic' (their statements: YtnjniganlielcaaTotals.lean).
  GIVEN WITH THE SEED: the statements are not yours to turn. If you find one false, say at which input.
  Laid BY PROGRAM, IN A SANDBOX (cutbox-rows.mjs): the forced cells as the released guide's own fill.sh prints them over the translation 1a2922c1a326fbed… (all of the seat's roots in one cut). By AI agents, Wed Nov 11 2026. No macro, syntax, notation, axiom, sorry.
-/
import Derived.Test.YtnjniganlielcaaChecked
import GoSem.Claim
import GoSem.ClaimJoined
import GoSem.ClaimMapViews
import Derived.JoinedTies
import Derived.KernelRfl
namespace Go.Proofs.Ytnjniganlielcaa
/- THE CELL 'sum', in the pinned program and in every row, IS THE sha256 OF THE DUMP (.gsa) THAT YtnjniganlielcaaProg.lean LOADS. Nothing in Lean hashes anything: it is a label: what it is worth is what the hold of that sum in a sandbox is worth. -/
noncomputable def Try.pinned : Pinned := { name := "ytnjniganlielcaa", sum := "1a2922c1a326fbedabf971e21f095759687ad2e4d761308e4ba60dd52ac99770", checked := Try.checked }
namespace Rows
def none {H : Type} : Left H := { results := [], args := [] }

/-- 'langdoclaw27.VariantChecks': WHATEVER THE INPUT: true; the input reads as it did. -/
def variantChecksSpec : ChangeSpec := { name := "variantChecks", fn := fun _ => fun
  | [d] => { results := [.lit (.bool true)], args := [d] }
  | _ => none }
def variantChecksRow : OpenClaim := { program := "ytnjniganlielcaa", sum := "1a2922c1a326fbedabf971e21f095759687ad2e4d761308e4ba60dd52ac99770", func := "langdoc/langdoclaw27.VariantChecks", spec := "variantChecks", unfollowed := true, recurses := true, apart := false }
def VariantChecksSaid : Prop := variantChecksRow.holds Try.pinned (OpenSpec.ofChange variantChecksSpec)

/-- ITS FALSE NEIGHBOUR: 'it returns false'. Refute it at one input. -/
def variantChecksWrong : ChangeSpec := { name := "variantChecks", fn := fun _ => fun
  | [d] => { results := [.lit (.bool false)], args := [d] }
  | _ => none }
def VariantChecksWrongFalsely : Prop := variantChecksRow.holds Try.pinned (OpenSpec.ofChange variantChecksWrong)

/-- 'langdoclaw27.VariantMains': WHATEVER THE INPUT: true; the input reads as it did. -/
def variantMainsSpec : ChangeSpec := { name := "variantMains", fn := fun _ => fun
  | [d1, d2] => { results := [.lit (.bool true)], args := [d1, d2] }
  | _ => none }
def variantMainsRow : OpenClaim := { program := "ytnjniganlielcaa", sum := "1a2922c1a326fbedabf971e21f095759687ad2e4d761308e4ba60dd52ac99770", func := "langdoc/langdoclaw27.VariantMains", spec := "variantMains", unfollowed := true, recurses := true, apart := false }
def VariantMainsSaid : Prop := variantMainsRow.holds Try.pinned (OpenSpec.ofChange variantMainsSpec)

/-- ITS FALSE NEIGHBOUR: 'it returns false'. Refute it at one input. -/
def variantMainsWrong : ChangeSpec := { name := "variantMains", fn := fun _ => fun
  | [d1, d2] => { results := [.lit (.bool false)], args := [d1, d2] }
  | _ => none }
def VariantMainsWrongFalsely : Prop := variantMainsRow.holds Try.pinned (OpenSpec.ofChange variantMainsWrong)

/-- 'langdoclaw27.VariantSenses': WHATEVER THE INPUT: true; the input reads as it did. -/
def variantSensesSpec : ChangeSpec := { name := "variantSenses", fn := fun _ => fun
  | [d1, d2] => { results := [.lit (.bool true)], args := [d1, d2] }
  | _ => none }
def variantSensesRow : OpenClaim := { program := "ytnjniganlielcaa", sum := "1a2922c1a326fbedabf971e21f095759687ad2e4d761308e4ba60dd52ac99770", func := "langdoc/langdoclaw27.VariantSenses", spec := "variantSenses", unfollowed := true, recurses := true, apart := false }
def VariantSensesSaid : Prop := variantSensesRow.holds Try.pinned (OpenSpec.ofChange variantSensesSpec)

/-- ITS FALSE NEIGHBOUR: 'it returns false'. Refute it at one input. -/
def variantSensesWrong : ChangeSpec := { name := "variantSenses", fn := fun _ => fun
  | [d1, d2] => { results := [.lit (.bool false)], args := [d1, d2] }
  | _ => none }
def VariantSensesWrongFalsely : Prop := variantSensesRow.holds Try.pinned (OpenSpec.ofChange variantSensesWrong)

/-- 'langdoclaw27.VariantJoins': WHATEVER THE INPUT: true; the input reads as it did. -/
def variantJoinsSpec : ChangeSpec := { name := "variantJoins", fn := fun _ => fun
  | [d1, d2, d3] => { results := [.lit (.bool true)], args := [d1, d2, d3] }
  | _ => none }
def variantJoinsRow : OpenClaim := { program := "ytnjniganlielcaa", sum := "1a2922c1a326fbedabf971e21f095759687ad2e4d761308e4ba60dd52ac99770", func := "langdoc/langdoclaw27.VariantJoins", spec := "variantJoins", unfollowed := true, recurses := true, apart := false }
def VariantJoinsSaid : Prop := variantJoinsRow.holds Try.pinned (OpenSpec.ofChange variantJoinsSpec)

/-- ITS FALSE NEIGHBOUR: 'it returns false'. Refute it at one input. -/
def variantJoinsWrong : ChangeSpec := { name := "variantJoins", fn := fun _ => fun
  | [d1, d2, d3] => { results := [.lit (.bool false)], args := [d1, d2, d3] }
  | _ => none }
def VariantJoinsWrongFalsely : Prop := variantJoinsRow.holds Try.pinned (OpenSpec.ofChange variantJoinsWrong)

/-- 'langdoclaw27.VariantKeeps': WHATEVER THE INPUT: true; the input reads as it did. -/
def variantKeepsSpec : ChangeSpec := { name := "variantKeeps", fn := fun _ => fun
  | [d1, d2, d3] => { results := [.lit (.bool true)], args := [d1, d2, d3] }
  | _ => none }
def variantKeepsRow : OpenClaim := { program := "ytnjniganlielcaa", sum := "1a2922c1a326fbedabf971e21f095759687ad2e4d761308e4ba60dd52ac99770", func := "langdoc/langdoclaw27.VariantKeeps", spec := "variantKeeps", unfollowed := true, recurses := true, apart := false }
def VariantKeepsSaid : Prop := variantKeepsRow.holds Try.pinned (OpenSpec.ofChange variantKeepsSpec)

/-- ITS FALSE NEIGHBOUR: 'it returns false'. Refute it at one input. -/
def variantKeepsWrong : ChangeSpec := { name := "variantKeeps", fn := fun _ => fun
  | [d1, d2, d3] => { results := [.lit (.bool false)], args := [d1, d2, d3] }
  | _ => none }
def VariantKeepsWrongFalsely : Prop := variantKeepsRow.holds Try.pinned (OpenSpec.ofChange variantKeepsWrong)

/-- 'langdoclaw27.VariantOnce': WHATEVER THE INPUT: true; the input reads as it did. -/
def variantOnceSpec : ChangeSpec := { name := "variantOnce", fn := fun _ => fun
  | [d] => { results := [.lit (.bool true)], args := [d] }
  | _ => none }
def variantOnceRow : OpenClaim := { program := "ytnjniganlielcaa", sum := "1a2922c1a326fbedabf971e21f095759687ad2e4d761308e4ba60dd52ac99770", func := "langdoc/langdoclaw27.VariantOnce", spec := "variantOnce", unfollowed := true, recurses := true, apart := false }
def VariantOnceSaid : Prop := variantOnceRow.holds Try.pinned (OpenSpec.ofChange variantOnceSpec)

/-- ITS FALSE NEIGHBOUR: 'it returns false'. Refute it at one input. -/
def variantOnceWrong : ChangeSpec := { name := "variantOnce", fn := fun _ => fun
  | [d] => { results := [.lit (.bool false)], args := [d] }
  | _ => none }
def VariantOnceWrongFalsely : Prop := variantOnceRow.holds Try.pinned (OpenSpec.ofChange variantOnceWrong)

/-- 'langdoclaw27.VariantBack': WHATEVER THE INPUT: true; the input reads as it did. -/
def variantBackSpec : ChangeSpec := { name := "variantBack", fn := fun _ => fun
  | [d1, d2, d3] => { results := [.lit (.bool true)], args := [d1, d2, d3] }
  | _ => none }
def variantBackRow : OpenClaim := { program := "ytnjniganlielcaa", sum := "1a2922c1a326fbedabf971e21f095759687ad2e4d761308e4ba60dd52ac99770", func := "langdoc/langdoclaw27.VariantBack", spec := "variantBack", unfollowed := true, recurses := true, apart := false }
def VariantBackSaid : Prop := variantBackRow.holds Try.pinned (OpenSpec.ofChange variantBackSpec)

/-- ITS FALSE NEIGHBOUR: 'it returns false'. Refute it at one input. -/
def variantBackWrong : ChangeSpec := { name := "variantBack", fn := fun _ => fun
  | [d1, d2, d3] => { results := [.lit (.bool false)], args := [d1, d2, d3] }
  | _ => none }
def VariantBackWrongFalsely : Prop := variantBackRow.holds Try.pinned (OpenSpec.ofChange variantBackWrong)

/-- 'langdoclaw27.VariantOwn': WHATEVER THE INPUT: true; the input reads as it did. -/
def variantOwnSpec : ChangeSpec := { name := "variantOwn", fn := fun _ => fun
  | [d] => { results := [.lit (.bool true)], args := [d] }
  | _ => none }
def variantOwnRow : OpenClaim := { program := "ytnjniganlielcaa", sum := "1a2922c1a326fbedabf971e21f095759687ad2e4d761308e4ba60dd52ac99770", func := "langdoc/langdoclaw27.VariantOwn", spec := "variantOwn", unfollowed := true, recurses := true, apart := false }
def VariantOwnSaid : Prop := variantOwnRow.holds Try.pinned (OpenSpec.ofChange variantOwnSpec)

/-- ITS FALSE NEIGHBOUR: 'it returns false'. Refute it at one input. -/
def variantOwnWrong : ChangeSpec := { name := "variantOwn", fn := fun _ => fun
  | [d] => { results := [.lit (.bool false)], args := [d] }
  | _ => none }
def VariantOwnWrongFalsely : Prop := variantOwnRow.holds Try.pinned (OpenSpec.ofChange variantOwnWrong)

/- THE SECOND FORM. 'bulk': how many values and letters a reading holds, each counted each time it is reached (what is shared counts as often as it is met; a slice's spare places count too). A statement '..UptoSaid' is the law's where the arguments, and the package variables that the reading takes, are together of bulk at most 1048576: NARROWER than '..Said'. Prove '..Said' where nothing that the law and all that it calls make is longer than what came in: it says more and counts as full. Else prove '..UptoSaid'. A law counts once. -/
mutual
def uptoBulk {H : Type} : DataW H → Nat
  | .lit (.string bytes) => bytes.length + 1
  | .lit _ => 1
  | .nil => 1
  | .ptr d => uptoBulk d + 1
  | .slice elems spare => uptoBulkAll elems + uptoBulkAll spare + 1
  | .agg parts => uptoBulkAll parts + 1
  | .iface _ d => uptoBulk d + 1
  | .map entries => uptoBulkEntries entries + 1
  | .held _ => 1
def uptoBulkAll {H : Type} : List (DataW H) → Nat
  | [] => 0
  | d :: r => uptoBulk d + uptoBulkAll r
def uptoBulkEntries {H : Type} : List (Lit × DataW H) → Nat
  | [] => 0
  | x :: r => uptoBulkEntry x + uptoBulkEntries r
def uptoBulkEntry {H : Type} : Lit × DataW H → Nat
  | (.string bytes, d) => bytes.length + uptoBulk d + 1
  | (_, d) => uptoBulk d + 1
 end
def uptoSmall : (H : Type) → List (DataW H) → Bool := fun _ ds => decide (uptoBulkAll ds ≤ 1048576)
def OpenSpec.upto (s : _root_.Go.ChangeSpec) : _root_.Go.OpenSpec := { _root_.Go.OpenSpec.ofChange s with cond := some uptoSmall }

/-- 'langdoclaw27.VariantChecks', WHERE WHAT IT READS IS OF BULK AT MOST 1048576: true; the input reads as it did. -/
def variantChecksUptoRow : OpenClaim := { program := "ytnjniganlielcaa", sum := "1a2922c1a326fbedabf971e21f095759687ad2e4d761308e4ba60dd52ac99770", func := "langdoc/langdoclaw27.VariantChecks", spec := "variantChecks", unfollowed := true, recurses := true, apart := false, narrowed := true }
def VariantChecksUptoSaid : Prop := variantChecksUptoRow.holds Try.pinned (OpenSpec.upto variantChecksSpec)

/-- 'langdoclaw27.VariantMains', WHERE WHAT IT READS IS OF BULK AT MOST 1048576: true; the input reads as it did. -/
def variantMainsUptoRow : OpenClaim := { program := "ytnjniganlielcaa", sum := "1a2922c1a326fbedabf971e21f095759687ad2e4d761308e4ba60dd52ac99770", func := "langdoc/langdoclaw27.VariantMains", spec := "variantMains", unfollowed := true, recurses := true, apart := false, narrowed := true }
def VariantMainsUptoSaid : Prop := variantMainsUptoRow.holds Try.pinned (OpenSpec.upto variantMainsSpec)

/-- 'langdoclaw27.VariantSenses', WHERE WHAT IT READS IS OF BULK AT MOST 1048576: true; the input reads as it did. -/
def variantSensesUptoRow : OpenClaim := { program := "ytnjniganlielcaa", sum := "1a2922c1a326fbedabf971e21f095759687ad2e4d761308e4ba60dd52ac99770", func := "langdoc/langdoclaw27.VariantSenses", spec := "variantSenses", unfollowed := true, recurses := true, apart := false, narrowed := true }
def VariantSensesUptoSaid : Prop := variantSensesUptoRow.holds Try.pinned (OpenSpec.upto variantSensesSpec)

/-- 'langdoclaw27.VariantJoins', WHERE WHAT IT READS IS OF BULK AT MOST 1048576: true; the input reads as it did. -/
def variantJoinsUptoRow : OpenClaim := { program := "ytnjniganlielcaa", sum := "1a2922c1a326fbedabf971e21f095759687ad2e4d761308e4ba60dd52ac99770", func := "langdoc/langdoclaw27.VariantJoins", spec := "variantJoins", unfollowed := true, recurses := true, apart := false, narrowed := true }
def VariantJoinsUptoSaid : Prop := variantJoinsUptoRow.holds Try.pinned (OpenSpec.upto variantJoinsSpec)

/-- 'langdoclaw27.VariantKeeps', WHERE WHAT IT READS IS OF BULK AT MOST 1048576: true; the input reads as it did. -/
def variantKeepsUptoRow : OpenClaim := { program := "ytnjniganlielcaa", sum := "1a2922c1a326fbedabf971e21f095759687ad2e4d761308e4ba60dd52ac99770", func := "langdoc/langdoclaw27.VariantKeeps", spec := "variantKeeps", unfollowed := true, recurses := true, apart := false, narrowed := true }
def VariantKeepsUptoSaid : Prop := variantKeepsUptoRow.holds Try.pinned (OpenSpec.upto variantKeepsSpec)

/-- 'langdoclaw27.VariantOnce', WHERE WHAT IT READS IS OF BULK AT MOST 1048576: true; the input reads as it did. -/
def variantOnceUptoRow : OpenClaim := { program := "ytnjniganlielcaa", sum := "1a2922c1a326fbedabf971e21f095759687ad2e4d761308e4ba60dd52ac99770", func := "langdoc/langdoclaw27.VariantOnce", spec := "variantOnce", unfollowed := true, recurses := true, apart := false, narrowed := true }
def VariantOnceUptoSaid : Prop := variantOnceUptoRow.holds Try.pinned (OpenSpec.upto variantOnceSpec)

/-- 'langdoclaw27.VariantBack', WHERE WHAT IT READS IS OF BULK AT MOST 1048576: true; the input reads as it did. -/
def variantBackUptoRow : OpenClaim := { program := "ytnjniganlielcaa", sum := "1a2922c1a326fbedabf971e21f095759687ad2e4d761308e4ba60dd52ac99770", func := "langdoc/langdoclaw27.VariantBack", spec := "variantBack", unfollowed := true, recurses := true, apart := false, narrowed := true }
def VariantBackUptoSaid : Prop := variantBackUptoRow.holds Try.pinned (OpenSpec.upto variantBackSpec)

/-- 'langdoclaw27.VariantOwn', WHERE WHAT IT READS IS OF BULK AT MOST 1048576: true; the input reads as it did. -/
def variantOwnUptoRow : OpenClaim := { program := "ytnjniganlielcaa", sum := "1a2922c1a326fbedabf971e21f095759687ad2e4d761308e4ba60dd52ac99770", func := "langdoc/langdoclaw27.VariantOwn", spec := "variantOwn", unfollowed := true, recurses := true, apart := false, narrowed := true }
def VariantOwnUptoSaid : Prop := variantOwnUptoRow.holds Try.pinned (OpenSpec.upto variantOwnSpec)

end Rows
end Go.Proofs.Ytnjniganlielcaa
