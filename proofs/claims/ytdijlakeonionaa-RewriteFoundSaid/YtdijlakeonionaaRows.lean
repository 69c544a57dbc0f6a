/-
  No cell of these rows narrows 'for every input' (looked for: loops, veiled, ifaces, maps, wideKeys, modest, calm, conditions, laid).
  DERIVED. THE GIVEN ROWS OF THIS SEAT. 8 by the template 'for every input the law returns true; each argument reads behind the call as it read before'; 0 by the template 'total and deterministic' (their statements: YtdijlakeonionaaTotals.lean).
  GIVEN WITH THE SEED: the statements are not yours to turn. If you find one false, say at which input.
  Laid BY PROGRAM, IN A SANDBOX (cutbox-rows.mjs): the forced cells as the released guide's own fill.sh prints them over the translation 9b767a7235ec46a2… (all of the seat's roots in one cut). By AI agents, Wed Nov 11 2026. No macro, syntax, notation, axiom, sorry.
-/
import Derived.Test.YtdijlakeonionaaChecked
import GoSem.Claim
import GoSem.ClaimJoined
import GoSem.ClaimMapViews
import Derived.JoinedTies
import Derived.KernelRfl
namespace Go.Proofs.Ytdijlakeonionaa
/- THE CELL 'sum', in the pinned program and in every row, IS THE sha256 OF THE DUMP (.gsa) THAT YtdijlakeonionaaProg.lean LOADS. Nothing in Lean hashes anything: it is a label: what it is worth is what the hold of that sum in a sandbox is worth. -/
noncomputable def Try.pinned : Pinned := { name := "ytdijlakeonionaa", sum := "9b767a7235ec46a28314471c7489ed39956a2e66971aa5fd8e250ac9ac6e967e", checked := Try.checked }
namespace Rows
def none {H : Type} : Left H := { results := [], args := [] }

/-- 'langdoclaw22.RewriteChecks': WHATEVER THE INPUT: true; the input reads as it did. -/
def rewriteChecksSpec : ChangeSpec := { name := "rewriteChecks", fn := fun _ => fun
  | [d1, d2] => { results := [.lit (.bool true)], args := [d1, d2] }
  | _ => none }
def rewriteChecksRow : OpenClaim := { program := "ytdijlakeonionaa", sum := "9b767a7235ec46a28314471c7489ed39956a2e66971aa5fd8e250ac9ac6e967e", func := "langdoc/langdoclaw22.RewriteChecks", spec := "rewriteChecks", unfollowed := true, recurses := true, plainKeys := false, apart := false }
def RewriteChecksSaid : Prop := rewriteChecksRow.holds Try.pinned (OpenSpec.ofChange rewriteChecksSpec)

/-- ITS FALSE NEIGHBOUR: 'it returns false'. Refute it at one input. -/
def rewriteChecksWrong : ChangeSpec := { name := "rewriteChecks", fn := fun _ => fun
  | [d1, d2] => { results := [.lit (.bool false)], args := [d1, d2] }
  | _ => none }
def RewriteChecksWrongFalsely : Prop := rewriteChecksRow.holds Try.pinned (OpenSpec.ofChange rewriteChecksWrong)

/-- 'langdoclaw22.RewriteSites': WHATEVER THE INPUT: true; the input reads as it did. -/
def rewriteSitesSpec : ChangeSpec := { name := "rewriteSites", fn := fun _ => fun
  | [d1, d2, d3] => { results := [.lit (.bool true)], args := [d1, d2, d3] }
  | _ => none }
def rewriteSitesRow : OpenClaim := { program := "ytdijlakeonionaa", sum := "9b767a7235ec46a28314471c7489ed39956a2e66971aa5fd8e250ac9ac6e967e", func := "langdoc/langdoclaw22.RewriteSites", spec := "rewriteSites", unfollowed := true, recurses := true, plainKeys := false, apart := false }
def RewriteSitesSaid : Prop := rewriteSitesRow.holds Try.pinned (OpenSpec.ofChange rewriteSitesSpec)

/-- ITS FALSE NEIGHBOUR: 'it returns false'. Refute it at one input. -/
def rewriteSitesWrong : ChangeSpec := { name := "rewriteSites", fn := fun _ => fun
  | [d1, d2, d3] => { results := [.lit (.bool false)], args := [d1, d2, d3] }
  | _ => none }
def RewriteSitesWrongFalsely : Prop := rewriteSitesRow.holds Try.pinned (OpenSpec.ofChange rewriteSitesWrong)

/-- 'langdoclaw22.RewriteBacks': WHATEVER THE INPUT: true; the input reads as it did. -/
def rewriteBacksSpec : ChangeSpec := { name := "rewriteBacks", fn := fun _ => fun
  | [d1, d2, d3] => { results := [.lit (.bool true)], args := [d1, d2, d3] }
  | _ => none }
def rewriteBacksRow : OpenClaim := { program := "ytdijlakeonionaa", sum := "9b767a7235ec46a28314471c7489ed39956a2e66971aa5fd8e250ac9ac6e967e", func := "langdoc/langdoclaw22.RewriteBacks", spec := "rewriteBacks", unfollowed := true, recurses := true, plainKeys := false, apart := false }
def RewriteBacksSaid : Prop := rewriteBacksRow.holds Try.pinned (OpenSpec.ofChange rewriteBacksSpec)

/-- ITS FALSE NEIGHBOUR: 'it returns false'. Refute it at one input. -/
def rewriteBacksWrong : ChangeSpec := { name := "rewriteBacks", fn := fun _ => fun
  | [d1, d2, d3] => { results := [.lit (.bool false)], args := [d1, d2, d3] }
  | _ => none }
def RewriteBacksWrongFalsely : Prop := rewriteBacksRow.holds Try.pinned (OpenSpec.ofChange rewriteBacksWrong)

/-- 'langdoclaw22.RewriteCompiles': WHATEVER THE INPUT: true; the input reads as it did. -/
def rewriteCompilesSpec : ChangeSpec := { name := "rewriteCompiles", fn := fun _ => fun
  | [d1, d2, d3] => { results := [.lit (.bool true)], args := [d1, d2, d3] }
  | _ => none }
def rewriteCompilesRow : OpenClaim := { program := "ytdijlakeonionaa", sum := "9b767a7235ec46a28314471c7489ed39956a2e66971aa5fd8e250ac9ac6e967e", func := "langdoc/langdoclaw22.RewriteCompiles", spec := "rewriteCompiles", unfollowed := true, recurses := true, plainKeys := false, apart := false }
def RewriteCompilesSaid : Prop := rewriteCompilesRow.holds Try.pinned (OpenSpec.ofChange rewriteCompilesSpec)

/-- ITS FALSE NEIGHBOUR: 'it returns false'. Refute it at one input. -/
def rewriteCompilesWrong : ChangeSpec := { name := "rewriteCompiles", fn := fun _ => fun
  | [d1, d2, d3] => { results := [.lit (.bool false)], args := [d1, d2, d3] }
  | _ => none }
def RewriteCompilesWrongFalsely : Prop := rewriteCompilesRow.holds Try.pinned (OpenSpec.ofChange rewriteCompilesWrong)

/-- 'langdoclaw22.RewriteShortens': WHATEVER THE INPUT: true; the input reads as it did. -/
def rewriteShortensSpec : ChangeSpec := { name := "rewriteShortens", fn := fun _ => fun
  | [d1, d2, d3] => { results := [.lit (.bool true)], args := [d1, d2, d3] }
  | _ => none }
def rewriteShortensRow : OpenClaim := { program := "ytdijlakeonionaa", sum := "9b767a7235ec46a28314471c7489ed39956a2e66971aa5fd8e250ac9ac6e967e", func := "langdoc/langdoclaw22.RewriteShortens", spec := "rewriteShortens", unfollowed := true, recurses := true, plainKeys := false, apart := false }
def RewriteShortensSaid : Prop := rewriteShortensRow.holds Try.pinned (OpenSpec.ofChange rewriteShortensSpec)

/-- ITS FALSE NEIGHBOUR: 'it returns false'. Refute it at one input. -/
def rewriteShortensWrong : ChangeSpec := { name := "rewriteShortens", fn := fun _ => fun
  | [d1, d2, d3] => { results := [.lit (.bool false)], args := [d1, d2, d3] }
  | _ => none }
def RewriteShortensWrongFalsely : Prop := rewriteShortensRow.holds Try.pinned (OpenSpec.ofChange rewriteShortensWrong)

/-- 'langdoclaw22.RewriteFound': WHATEVER THE INPUT: true; the input reads as it did. -/
def rewriteFoundSpec : ChangeSpec := { name := "rewriteFound", fn := fun _ => fun
  | [d1, d2, d3] => { results := [.lit (.bool true)], args := [d1, d2, d3] }
  | _ => none }
def rewriteFoundRow : OpenClaim := { program := "ytdijlakeonionaa", sum := "9b767a7235ec46a28314471c7489ed39956a2e66971aa5fd8e250ac9ac6e967e", func := "langdoc/langdoclaw22.RewriteFound", spec := "rewriteFound", unfollowed := true, recurses := true, plainKeys := false, apart := false }
def RewriteFoundSaid : Prop := rewriteFoundRow.holds Try.pinned (OpenSpec.ofChange rewriteFoundSpec)

/-- ITS FALSE NEIGHBOUR: 'it returns false'. Refute it at one input. -/
def rewriteFoundWrong : ChangeSpec := { name := "rewriteFound", fn := fun _ => fun
  | [d1, d2, d3] => { results := [.lit (.bool false)], args := [d1, d2, d3] }
  | _ => none }
def RewriteFoundWrongFalsely : Prop := rewriteFoundRow.holds Try.pinned (OpenSpec.ofChange rewriteFoundWrong)

/-- 'langdoclaw22.RewriteRuns': WHATEVER THE INPUT: true; the input reads as it did. -/
def rewriteRunsSpec : ChangeSpec := { name := "rewriteRuns", fn := fun _ => fun
  | [d1, d2, d3] => { results := [.lit (.bool true)], args := [d1, d2, d3] }
  | _ => none }
def rewriteRunsRow : OpenClaim := { program := "ytdijlakeonionaa", sum := "9b767a7235ec46a28314471c7489ed39956a2e66971aa5fd8e250ac9ac6e967e", func := "langdoc/langdoclaw22.RewriteRuns", spec := "rewriteRuns", unfollowed := true, recurses := true, plainKeys := false, apart := false }
def RewriteRunsSaid : Prop := rewriteRunsRow.holds Try.pinned (OpenSpec.ofChange rewriteRunsSpec)

/-- ITS FALSE NEIGHBOUR: 'it returns false'. Refute it at one input. -/
def rewriteRunsWrong : ChangeSpec := { name := "rewriteRuns", fn := fun _ => fun
  | [d1, d2, d3] => { results := [.lit (.bool false)], args := [d1, d2, d3] }
  | _ => none }
def RewriteRunsWrongFalsely : Prop := rewriteRunsRow.holds Try.pinned (OpenSpec.ofChange rewriteRunsWrong)

/-- 'langdoclaw22.RewriteGoesOn': WHATEVER THE INPUT: true; the input reads as it did. -/
def rewriteGoesOnSpec : ChangeSpec := { name := "rewriteGoesOn", fn := fun _ => fun
  | [d1, d2, d3] => { results := [.lit (.bool true)], args := [d1, d2, d3] }
  | _ => none }
def rewriteGoesOnRow : OpenClaim := { program := "ytdijlakeonionaa", sum := "9b767a7235ec46a28314471c7489ed39956a2e66971aa5fd8e250ac9ac6e967e", func := "langdoc/langdoclaw22.RewriteGoesOn", spec := "rewriteGoesOn", unfollowed := true, recurses := true, plainKeys := false, apart := false }
def RewriteGoesOnSaid : Prop := rewriteGoesOnRow.holds Try.pinned (OpenSpec.ofChange rewriteGoesOnSpec)

/-- ITS FALSE NEIGHBOUR: 'it returns false'. Refute it at one input. -/
def rewriteGoesOnWrong : ChangeSpec := { name := "rewriteGoesOn", fn := fun _ => fun
  | [d1, d2, d3] => { results := [.lit (.bool false)], args := [d1, d2, d3] }
  | _ => none }
def RewriteGoesOnWrongFalsely : Prop := rewriteGoesOnRow.holds Try.pinned (OpenSpec.ofChange rewriteGoesOnWrong)

/- THE SECOND FORM. 'bulk': how many values and letters a reading holds, each counted each time it is reached (what is shared counts as often as it is met; a slice's spare places count too). A statement '..UptoSaid' is the law's where the arguments, and the package variables that the reading takes, are together of bulk at most 1048576: NARROWER than '..Said'. Prove '..Said' where nothing that the law and all that it calls make is longer than what came in: it says more and counts as full. Else prove '..UptoSaid'. A law counts once. -/
mutual
def uptoBulk {H : Type} : DataW H → Nat
  | .lit (.string bytes) => bytes.length + 1
  | .lit _ => 1
  | .nil => 1
  | .ptr d => uptoBulk d + 1
  | .slice elems spare => uptoBulkAll elems + uptoBulkAll spare + 1
  | .agg parts => uptoBulkAll parts + 1
  | .iface _ d => uptoBulk d + 1
  | .map entries => uptoBulkEntries entries + 1
  | .held _ => 1
def uptoBulkAll {H : Type} : List (DataW H) → Nat
  | [] => 0
  | d :: r => uptoBulk d + uptoBulkAll r
def uptoBulkEntries {H : Type} : List (Lit × DataW H) → Nat
  | [] => 0
  | x :: r => uptoBulkEntry x + uptoBulkEntries r
def uptoBulkEntry {H : Type} : Lit × DataW H → Nat
  | (.string bytes, d) => bytes.length + uptoBulk d + 1
  | (_, d) => uptoBulk d + 1
 end
def uptoSmall : (H : Type) → List (DataW H) → Bool := fun _ ds => decide (uptoBulkAll ds ≤ 1048576)
def OpenSpec.upto (s : _root_.Go.ChangeSpec) : _root_.Go.OpenSpec := { _root_.Go.OpenSpec.ofChange s with cond := some uptoSmall }

/-- 'langdoclaw22.RewriteChecks', WHERE WHAT IT READS IS OF BULK AT MOST 1048576: true; the input reads as it did. -/
def rewriteChecksUptoRow : OpenClaim := { program := "ytdijlakeonionaa", sum := "9b767a7235ec46a28314471c7489ed39956a2e66971aa5fd8e250ac9ac6e967e", func := "langdoc/langdoclaw22.RewriteChecks", spec := "rewriteChecks", unfollowed := true, recurses := true, plainKeys := false, apart := false, narrowed := true }
def RewriteChecksUptoSaid : Prop := rewriteChecksUptoRow.holds Try.pinned (OpenSpec.upto rewriteChecksSpec)

/-- 'langdoclaw22.RewriteSites', WHERE WHAT IT READS IS OF BULK AT MOST 1048576: true; the input reads as it did. -/
def rewriteSitesUptoRow : OpenClaim := { program := "ytdijlakeonionaa", sum := "9b767a7235ec46a28314471c7489ed39956a2e66971aa5fd8e250ac9ac6e967e", func := "langdoc/langdoclaw22.RewriteSites", spec := "rewriteSites", unfollowed := true, recurses := true, plainKeys := false, apart := false, narrowed := true }
def RewriteSitesUptoSaid : Prop := rewriteSitesUptoRow.holds Try.pinned (OpenSpec.upto rewriteSitesSpec)

/-- 'langdoclaw22.RewriteBacks', WHERE WHAT IT READS IS OF BULK AT MOST 1048576: true; the input reads as it did. -/
def rewriteBacksUptoRow : OpenClaim := { program := "ytdijlakeonionaa", sum := "9b767a7235ec46a28314471c7489ed39956a2e66971aa5fd8e250ac9ac6e967e", func := "langdoc/langdoclaw22.RewriteBacks", spec := "rewriteBacks", unfollowed := true, recurses := true, plainKeys := false, apart := false, narrowed := true }
def RewriteBacksUptoSaid : Prop := rewriteBacksUptoRow.holds Try.pinned (OpenSpec.upto rewriteBacksSpec)

/-- 'langdoclaw22.RewriteCompiles', WHERE WHAT IT READS IS OF BULK AT MOST 1048576: true; the input reads as it did. -/
def rewriteCompilesUptoRow : OpenClaim := { program := "ytdijlakeonionaa", sum := "9b767a7235ec46a28314471c7489ed39956a2e66971aa5fd8e250ac9ac6e967e", func := "langdoc/langdoclaw22.RewriteCompiles", spec := "rewriteCompiles", unfollowed := true, recurses := true, plainKeys := false, apart := false, narrowed := true }
def RewriteCompilesUptoSaid : Prop := rewriteCompilesUptoRow.holds Try.pinned (OpenSpec.upto rewriteCompilesSpec)

/-- 'langdoclaw22.RewriteShortens', WHERE WHAT IT READS IS OF BULK AT MOST 1048576: true; the input reads as it did. -/
def rewriteShortensUptoRow : OpenClaim := { program := "ytdijlakeonionaa", sum := "9b767a7235ec46a28314471c7489ed39956a2e66971aa5fd8e250ac9ac6e967e", func := "langdoc/langdoclaw22.RewriteShortens", spec := "rewriteShortens", unfollowed := true, recurses := true, plainKeys := false, apart := false, narrowed := true }
def RewriteShortensUptoSaid : Prop := rewriteShortensUptoRow.holds Try.pinned (OpenSpec.upto rewriteShortensSpec)

/-- 'langdoclaw22.RewriteFound', WHERE WHAT IT READS IS OF BULK AT MOST 1048576: true; the input reads as it did. -/
def rewriteFoundUptoRow : OpenClaim := { program := "ytdijlakeonionaa", sum := "9b767a7235ec46a28314471c7489ed39956a2e66971aa5fd8e250ac9ac6e967e", func := "langdoc/langdoclaw22.RewriteFound", spec := "rewriteFound", unfollowed := true, recurses := true, plainKeys := false, apart := false, narrowed := true }
def RewriteFoundUptoSaid : Prop := rewriteFoundUptoRow.holds Try.pinned (OpenSpec.upto rewriteFoundSpec)

/-- 'langdoclaw22.RewriteRuns', WHERE WHAT IT READS IS OF BULK AT MOST 1048576: true; the input reads as it did. -/
def rewriteRunsUptoRow : OpenClaim := { program := "ytdijlakeonionaa", sum := "9b767a7235ec46a28314471c7489ed39956a2e66971aa5fd8e250ac9ac6e967e", func := "langdoc/langdoclaw22.RewriteRuns", spec := "rewriteRuns", unfollowed := true, recurses := true, plainKeys := false, apart := false, narrowed := true }
def RewriteRunsUptoSaid : Prop := rewriteRunsUptoRow.holds Try.pinned (OpenSpec.upto rewriteRunsSpec)

/-- 'langdoclaw22.RewriteGoesOn', WHERE WHAT IT READS IS OF BULK AT MOST 1048576: true; the input reads as it did. -/
def rewriteGoesOnUptoRow : OpenClaim := { program := "ytdijlakeonionaa", sum := "9b767a7235ec46a28314471c7489ed39956a2e66971aa5fd8e250ac9ac6e967e", func := "langdoc/langdoclaw22.RewriteGoesOn", spec := "rewriteGoesOn", unfollowed := true, recurses := true, plainKeys := false, apart := false, narrowed := true }
def RewriteGoesOnUptoSaid : Prop := rewriteGoesOnUptoRow.holds Try.pinned (OpenSpec.upto rewriteGoesOnSpec)

end Rows
end Go.Proofs.Ytdijlakeonionaa
