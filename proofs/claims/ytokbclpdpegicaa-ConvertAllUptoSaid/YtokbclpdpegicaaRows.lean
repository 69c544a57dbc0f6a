/-
  No cell of these rows narrows 'for every input' (looked for: loops, veiled, ifaces, maps, wideKeys, modest, calm, conditions, laid).
  DERIVED. THE GIVEN ROWS OF THIS SEAT. 6 by the template 'for every input the law returns true; each argument reads behind the call as it read before'; 0 by the template 'total and deterministic' (their statements: YtokbclpdpegicaaTotals.lean).
  GIVEN WITH THE SEED: the statements are not yours to turn. If you find one false, say at which input.
  Laid BY PROGRAM, IN A SANDBOX (cutbox-rows.mjs): the forced cells as the released guide's own fill.sh prints them over the translation 3486364c7d36779d… (all of the seat's roots in one cut). By AI agents, Wed Nov 11 2026. No macro, syntax, notation, axiom, sorry.
-/
import Derived.Test.YtokbclpdpegicaaChecked
import GoSem.Claim
import GoSem.ClaimJoined
import GoSem.ClaimMapViews
import Derived.JoinedTies
import Derived.KernelRfl
namespace Go.Proofs.Ytokbclpdpegicaa
/- THE CELL 'sum', in the pinned program and in every row, IS THE sha256 OF THE DUMP (.gsa) THAT YtokbclpdpegicaaProg.lean LOADS. Nothing in Lean hashes anything: it is a label: what it is worth is what the hold of that sum in a sandbox is worth. -/
noncomputable def Try.pinned : Pinned := { name := "ytokbclpdpegicaa", sum := "3486364c7d36779d9f69a94b6c49bae93b1a3e83020b93fcd4163dbfb7ddf282", checked := Try.checked }
namespace Rows
def none {H : Type} : Left H := { results := [], args := [] }

/-- 'langdoclaw18.ConvertConverts': WHATEVER THE INPUT: true; the input reads as it did. -/
def convertConvertsSpec : ChangeSpec := { name := "convertConverts", fn := fun _ => fun
  | [d] => { results := [.lit (.bool true)], args := [d] }
  | _ => none }
def convertConvertsRow : OpenClaim := { program := "ytokbclpdpegicaa", sum := "3486364c7d36779d9f69a94b6c49bae93b1a3e83020b93fcd4163dbfb7ddf282", func := "langdoc/langdoclaw18.ConvertConverts", spec := "convertConverts", inPlace := ["internal/abi.NoEscape"], unfollowed := true, recurses := true, apart := false }
def ConvertConvertsSaid : Prop := convertConvertsRow.holds Try.pinned (OpenSpec.ofChange convertConvertsSpec)

/-- ITS FALSE NEIGHBOUR: 'it returns false'. Refute it at one input. -/
def convertConvertsWrong : ChangeSpec := { name := "convertConverts", fn := fun _ => fun
  | [d] => { results := [.lit (.bool false)], args := [d] }
  | _ => none }
def ConvertConvertsWrongFalsely : Prop := convertConvertsRow.holds Try.pinned (OpenSpec.ofChange convertConvertsWrong)

/-- 'langdoclaw18.ConvertSame': WHATEVER THE INPUT: true; the input reads as it did. -/
def convertSameSpec : ChangeSpec := { name := "convertSame", fn := fun _ => fun
  | [d] => { results := [.lit (.bool true)], args := [d] }
  | _ => none }
def convertSameRow : OpenClaim := { program := "ytokbclpdpegicaa", sum := "3486364c7d36779d9f69a94b6c49bae93b1a3e83020b93fcd4163dbfb7ddf282", func := "langdoc/langdoclaw18.ConvertSame", spec := "convertSame", inPlace := ["internal/abi.NoEscape"], unfollowed := true, recurses := true, apart := false }
def ConvertSameSaid : Prop := convertSameRow.holds Try.pinned (OpenSpec.ofChange convertSameSpec)

/-- ITS FALSE NEIGHBOUR: 'it returns false'. Refute it at one input. -/
def convertSameWrong : ChangeSpec := { name := "convertSame", fn := fun _ => fun
  | [d] => { results := [.lit (.bool false)], args := [d] }
  | _ => none }
def ConvertSameWrongFalsely : Prop := convertSameRow.holds Try.pinned (OpenSpec.ofChange convertSameWrong)

/-- 'langdoclaw18.ConvertNormal': WHATEVER THE INPUT: true; the input reads as it did. -/
def convertNormalSpec : ChangeSpec := { name := "convertNormal", fn := fun _ => fun
  | [d] => { results := [.lit (.bool true)], args := [d] }
  | _ => none }
def convertNormalRow : OpenClaim := { program := "ytokbclpdpegicaa", sum := "3486364c7d36779d9f69a94b6c49bae93b1a3e83020b93fcd4163dbfb7ddf282", func := "langdoc/langdoclaw18.ConvertNormal", spec := "convertNormal", inPlace := ["internal/abi.NoEscape"], unfollowed := true, recurses := true, apart := false }
def ConvertNormalSaid : Prop := convertNormalRow.holds Try.pinned (OpenSpec.ofChange convertNormalSpec)

/-- ITS FALSE NEIGHBOUR: 'it returns false'. Refute it at one input. -/
def convertNormalWrong : ChangeSpec := { name := "convertNormal", fn := fun _ => fun
  | [d] => { results := [.lit (.bool false)], args := [d] }
  | _ => none }
def ConvertNormalWrongFalsely : Prop := convertNormalRow.holds Try.pinned (OpenSpec.ofChange convertNormalWrong)

/-- 'langdoclaw18.ConvertAll': WHATEVER THE INPUT: true; the input reads as it did. -/
def convertAllSpec : ChangeSpec := { name := "convertAll", fn := fun _ => fun
  | [d] => { results := [.lit (.bool true)], args := [d] }
  | _ => none }
def convertAllRow : OpenClaim := { program := "ytokbclpdpegicaa", sum := "3486364c7d36779d9f69a94b6c49bae93b1a3e83020b93fcd4163dbfb7ddf282", func := "langdoc/langdoclaw18.ConvertAll", spec := "convertAll", inPlace := ["internal/abi.NoEscape"], unfollowed := true, recurses := true, apart := false }
def ConvertAllSaid : Prop := convertAllRow.holds Try.pinned (OpenSpec.ofChange convertAllSpec)

/-- ITS FALSE NEIGHBOUR: 'it returns false'. Refute it at one input. -/
def convertAllWrong : ChangeSpec := { name := "convertAll", fn := fun _ => fun
  | [d] => { results := [.lit (.bool false)], args := [d] }
  | _ => none }
def ConvertAllWrongFalsely : Prop := convertAllRow.holds Try.pinned (OpenSpec.ofChange convertAllWrong)

/-- 'langdoclaw18.ConvertExact': WHATEVER THE INPUT: true; the input reads as it did. -/
def convertExactSpec : ChangeSpec := { name := "convertExact", fn := fun _ => fun
  | [d] => { results := [.lit (.bool true)], args := [d] }
  | _ => none }
def convertExactRow : OpenClaim := { program := "ytokbclpdpegicaa", sum := "3486364c7d36779d9f69a94b6c49bae93b1a3e83020b93fcd4163dbfb7ddf282", func := "langdoc/langdoclaw18.ConvertExact", spec := "convertExact", inPlace := ["internal/abi.NoEscape"], unfollowed := true, recurses := true, apart := false }
def ConvertExactSaid : Prop := convertExactRow.holds Try.pinned (OpenSpec.ofChange convertExactSpec)

/-- ITS FALSE NEIGHBOUR: 'it returns false'. Refute it at one input. -/
def convertExactWrong : ChangeSpec := { name := "convertExact", fn := fun _ => fun
  | [d] => { results := [.lit (.bool false)], args := [d] }
  | _ => none }
def ConvertExactWrongFalsely : Prop := convertExactRow.holds Try.pinned (OpenSpec.ofChange convertExactWrong)

/-- 'langdoclaw18.ConvertTwice': WHATEVER THE INPUT: true; the input reads as it did. -/
def convertTwiceSpec : ChangeSpec := { name := "convertTwice", fn := fun _ => fun
  | [d] => { results := [.lit (.bool true)], args := [d] }
  | _ => none }
def convertTwiceRow : OpenClaim := { program := "ytokbclpdpegicaa", sum := "3486364c7d36779d9f69a94b6c49bae93b1a3e83020b93fcd4163dbfb7ddf282", func := "langdoc/langdoclaw18.ConvertTwice", spec := "convertTwice", inPlace := ["internal/abi.NoEscape"], unfollowed := true, recurses := true, apart := false }
def ConvertTwiceSaid : Prop := convertTwiceRow.holds Try.pinned (OpenSpec.ofChange convertTwiceSpec)

/-- ITS FALSE NEIGHBOUR: 'it returns false'. Refute it at one input. -/
def convertTwiceWrong : ChangeSpec := { name := "convertTwice", fn := fun _ => fun
  | [d] => { results := [.lit (.bool false)], args := [d] }
  | _ => none }
def ConvertTwiceWrongFalsely : Prop := convertTwiceRow.holds Try.pinned (OpenSpec.ofChange convertTwiceWrong)

/- THE SECOND FORM. 'bulk': how many values and letters a reading holds, each counted each time it is reached (what is shared counts as often as it is met; a slice's spare places count too). A statement '..UptoSaid' is the law's where the arguments, and the package variables that the reading takes, are together of bulk at most 1048576: NARROWER than '..Said'. Prove '..Said' where nothing that the law and all that it calls make is longer than what came in: it says more and counts as full. Else prove '..UptoSaid'. A law counts once. -/
mutual
def uptoBulk {H : Type} : DataW H → Nat
  | .lit (.string bytes) => bytes.length + 1
  | .lit _ => 1
  | .nil => 1
  | .ptr d => uptoBulk d + 1
  | .slice elems spare => uptoBulkAll elems + uptoBulkAll spare + 1
  | .agg parts => uptoBulkAll parts + 1
  | .iface _ d => uptoBulk d + 1
  | .map entries => uptoBulkEntries entries + 1
  | .held _ => 1
def uptoBulkAll {H : Type} : List (DataW H) → Nat
  | [] => 0
  | d :: r => uptoBulk d + uptoBulkAll r
def uptoBulkEntries {H : Type} : List (Lit × DataW H) → Nat
  | [] => 0
  | x :: r => uptoBulkEntry x + uptoBulkEntries r
def uptoBulkEntry {H : Type} : Lit × DataW H → Nat
  | (.string bytes, d) => bytes.length + uptoBulk d + 1
  | (_, d) => uptoBulk d + 1
 end
def uptoSmall : (H : Type) → List (DataW H) → Bool := fun _ ds => decide (uptoBulkAll ds ≤ 1048576)
def OpenSpec.upto (s : _root_.Go.ChangeSpec) : _root_.Go.OpenSpec := { _root_.Go.OpenSpec.ofChange s with cond := some uptoSmall }

/-- 'langdoclaw18.ConvertConverts', WHERE WHAT IT READS IS OF BULK AT MOST 1048576: true; the input reads as it did. -/
def convertConvertsUptoRow : OpenClaim := { program := "ytokbclpdpegicaa", sum := "3486364c7d36779d9f69a94b6c49bae93b1a3e83020b93fcd4163dbfb7ddf282", func := "langdoc/langdoclaw18.ConvertConverts", spec := "convertConverts", inPlace := ["internal/abi.NoEscape"], unfollowed := true, recurses := true, apart := false, narrowed := true }
def ConvertConvertsUptoSaid : Prop := convertConvertsUptoRow.holds Try.pinned (OpenSpec.upto convertConvertsSpec)

/-- 'langdoclaw18.ConvertSame', WHERE WHAT IT READS IS OF BULK AT MOST 1048576: true; the input reads as it did. -/
def convertSameUptoRow : OpenClaim := { program := "ytokbclpdpegicaa", sum := "3486364c7d36779d9f69a94b6c49bae93b1a3e83020b93fcd4163dbfb7ddf282", func := "langdoc/langdoclaw18.ConvertSame", spec := "convertSame", inPlace := ["internal/abi.NoEscape"], unfollowed := true, recurses := true, apart := false, narrowed := true }
def ConvertSameUptoSaid : Prop := convertSameUptoRow.holds Try.pinned (OpenSpec.upto convertSameSpec)

/-- 'langdoclaw18.ConvertNormal', WHERE WHAT IT READS IS OF BULK AT MOST 1048576: true; the input reads as it did. -/
def convertNormalUptoRow : OpenClaim := { program := "ytokbclpdpegicaa", sum := "3486364c7d36779d9f69a94b6c49bae93b1a3e83020b93fcd4163dbfb7ddf282", func := "langdoc/langdoclaw18.ConvertNormal", spec := "convertNormal", inPlace := ["internal/abi.NoEscape"], unfollowed := true, recurses := true, apart := false, narrowed := true }
def ConvertNormalUptoSaid : Prop := convertNormalUptoRow.holds Try.pinned (OpenSpec.upto convertNormalSpec)

/-- 'langdoclaw18.ConvertAll', WHERE WHAT IT READS IS OF BULK AT MOST 1048576: true; the input reads as it did. -/
def convertAllUptoRow : OpenClaim := { program := "ytokbclpdpegicaa", sum := "3486364c7d36779d9f69a94b6c49bae93b1a3e83020b93fcd4163dbfb7ddf282", func := "langdoc/langdoclaw18.ConvertAll", spec := "convertAll", inPlace := ["internal/abi.NoEscape"], unfollowed := true, recurses := true, apart := false, narrowed := true }
def ConvertAllUptoSaid : Prop := convertAllUptoRow.holds Try.pinned (OpenSpec.upto convertAllSpec)

/-- 'langdoclaw18.ConvertExact', WHERE WHAT IT READS IS OF BULK AT MOST 1048576: true; the input reads as it did. -/
def convertExactUptoRow : OpenClaim := { program := "ytokbclpdpegicaa", sum := "3486364c7d36779d9f69a94b6c49bae93b1a3e83020b93fcd4163dbfb7ddf282", func := "langdoc/langdoclaw18.ConvertExact", spec := "convertExact", inPlace := ["internal/abi.NoEscape"], unfollowed := true, recurses := true, apart := false, narrowed := true }
def ConvertExactUptoSaid : Prop := convertExactUptoRow.holds Try.pinned (OpenSpec.upto convertExactSpec)

/-- 'langdoclaw18.ConvertTwice', WHERE WHAT IT READS IS OF BULK AT MOST 1048576: true; the input reads as it did. -/
def convertTwiceUptoRow : OpenClaim := { program := "ytokbclpdpegicaa", sum := "3486364c7d36779d9f69a94b6c49bae93b1a3e83020b93fcd4163dbfb7ddf282", func := "langdoc/langdoclaw18.ConvertTwice", spec := "convertTwice", inPlace := ["internal/abi.NoEscape"], unfollowed := true, recurses := true, apart := false, narrowed := true }
def ConvertTwiceUptoSaid : Prop := convertTwiceUptoRow.holds Try.pinned (OpenSpec.upto convertTwiceSpec)

end Rows
end Go.Proofs.Ytokbclpdpegicaa
