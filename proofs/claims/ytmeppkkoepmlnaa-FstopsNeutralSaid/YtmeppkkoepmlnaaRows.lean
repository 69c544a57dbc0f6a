/-
  No cell of these rows narrows 'for every input' (looked for: loops, veiled, ifaces, maps, wideKeys, modest, calm, conditions, laid).
  DERIVED. THE GIVEN ROWS OF THIS SEAT. 11 by the template 'for every input the law returns true; each argument reads behind the call as it read before'; 0 by the template 'total and deterministic' (their statements: YtmeppkkoepmlnaaTotals.lean).
  GIVEN WITH THE SEED: the statements are not yours to turn. If you find one false, say at which input.
  Laid BY PROGRAM, IN A SANDBOX (cutbox-rows.mjs): the forced cells as the released guide's own fill.sh prints them over the translation 1c4f941ed64ecee5… (all of the seat's roots in one cut). By AI agents, Wed Nov 11 2026. No macro, syntax, notation, axiom, sorry.
-/
import Derived.Test.YtmeppkkoepmlnaaChecked
import GoSem.Claim
import GoSem.ClaimJoined
import GoSem.ClaimMapViews
import Derived.JoinedTies
import Derived.KernelRfl
namespace Go.Proofs.Ytmeppkkoepmlnaa
/- THE CELL 'sum', in the pinned program and in every row, IS THE sha256 OF THE DUMP (.gsa) THAT YtmeppkkoepmlnaaProg.lean LOADS. Nothing in Lean hashes anything: it is a label: what it is worth is what the hold of that sum in a sandbox is worth. -/
noncomputable def Try.pinned : Pinned := { name := "ytmeppkkoepmlnaa", sum := "1c4f941ed64ecee5533936a36d45e308a767ba2180698d13b3f6af48cf700ce5", checked := Try.checked }
namespace Rows
def none {H : Type} : Left H := { results := [], args := [] }

/-- 'langdoclaw21.FstopsPairs': WHATEVER THE INPUT: true; the input reads as it did. -/
def fstopsPairsSpec : ChangeSpec := { name := "fstopsPairs", fn := fun _ => fun
  | [d1, d2] => { results := [.lit (.bool true)], args := [d1, d2] }
  | _ => none }
def fstopsPairsRow : OpenClaim := { program := "ytmeppkkoepmlnaa", sum := "1c4f941ed64ecee5533936a36d45e308a767ba2180698d13b3f6af48cf700ce5", func := "langdoc/langdoclaw21.FstopsPairs", spec := "fstopsPairs", unfollowed := true, recurses := true, plainKeys := false, apart := false }
def FstopsPairsSaid : Prop := fstopsPairsRow.holds Try.pinned (OpenSpec.ofChange fstopsPairsSpec)

/-- ITS FALSE NEIGHBOUR: 'it returns false'. Refute it at one input. -/
def fstopsPairsWrong : ChangeSpec := { name := "fstopsPairs", fn := fun _ => fun
  | [d1, d2] => { results := [.lit (.bool false)], args := [d1, d2] }
  | _ => none }
def FstopsPairsWrongFalsely : Prop := fstopsPairsRow.holds Try.pinned (OpenSpec.ofChange fstopsPairsWrong)

/-- 'langdoclaw21.FstopsIdentity': WHATEVER THE INPUT: true; the input reads as it did. -/
def fstopsIdentitySpec : ChangeSpec := { name := "fstopsIdentity", fn := fun _ => fun
  | [d1, d2] => { results := [.lit (.bool true)], args := [d1, d2] }
  | _ => none }
def fstopsIdentityRow : OpenClaim := { program := "ytmeppkkoepmlnaa", sum := "1c4f941ed64ecee5533936a36d45e308a767ba2180698d13b3f6af48cf700ce5", func := "langdoc/langdoclaw21.FstopsIdentity", spec := "fstopsIdentity", unfollowed := true, recurses := true, plainKeys := false, apart := false }
def FstopsIdentitySaid : Prop := fstopsIdentityRow.holds Try.pinned (OpenSpec.ofChange fstopsIdentitySpec)

/-- ITS FALSE NEIGHBOUR: 'it returns false'. Refute it at one input. -/
def fstopsIdentityWrong : ChangeSpec := { name := "fstopsIdentity", fn := fun _ => fun
  | [d1, d2] => { results := [.lit (.bool false)], args := [d1, d2] }
  | _ => none }
def FstopsIdentityWrongFalsely : Prop := fstopsIdentityRow.holds Try.pinned (OpenSpec.ofChange fstopsIdentityWrong)

/-- 'langdoclaw21.FstopsStar': WHATEVER THE INPUT: true; the input reads as it did. -/
def fstopsStarSpec : ChangeSpec := { name := "fstopsStar", fn := fun _ => fun
  | [d1, d2] => { results := [.lit (.bool true)], args := [d1, d2] }
  | _ => none }
def fstopsStarRow : OpenClaim := { program := "ytmeppkkoepmlnaa", sum := "1c4f941ed64ecee5533936a36d45e308a767ba2180698d13b3f6af48cf700ce5", func := "langdoc/langdoclaw21.FstopsStar", spec := "fstopsStar", unfollowed := true, recurses := true, plainKeys := false, apart := false }
def FstopsStarSaid : Prop := fstopsStarRow.holds Try.pinned (OpenSpec.ofChange fstopsStarSpec)

/-- ITS FALSE NEIGHBOUR: 'it returns false'. Refute it at one input. -/
def fstopsStarWrong : ChangeSpec := { name := "fstopsStar", fn := fun _ => fun
  | [d1, d2] => { results := [.lit (.bool false)], args := [d1, d2] }
  | _ => none }
def FstopsStarWrongFalsely : Prop := fstopsStarRow.holds Try.pinned (OpenSpec.ofChange fstopsStarWrong)

/-- 'langdoclaw21.FstopsCompose': WHATEVER THE INPUT: true; the input reads as it did. -/
def fstopsComposeSpec : ChangeSpec := { name := "fstopsCompose", fn := fun _ => fun
  | [d1, d2, d3] => { results := [.lit (.bool true)], args := [d1, d2, d3] }
  | _ => none }
def fstopsComposeRow : OpenClaim := { program := "ytmeppkkoepmlnaa", sum := "1c4f941ed64ecee5533936a36d45e308a767ba2180698d13b3f6af48cf700ce5", func := "langdoc/langdoclaw21.FstopsCompose", spec := "fstopsCompose", unfollowed := true, recurses := true, plainKeys := false, apart := false }
def FstopsComposeSaid : Prop := fstopsComposeRow.holds Try.pinned (OpenSpec.ofChange fstopsComposeSpec)

/-- ITS FALSE NEIGHBOUR: 'it returns false'. Refute it at one input. -/
def fstopsComposeWrong : ChangeSpec := { name := "fstopsCompose", fn := fun _ => fun
  | [d1, d2, d3] => { results := [.lit (.bool false)], args := [d1, d2, d3] }
  | _ => none }
def FstopsComposeWrongFalsely : Prop := fstopsComposeRow.holds Try.pinned (OpenSpec.ofChange fstopsComposeWrong)

/-- 'langdoclaw21.FstopsInvert': WHATEVER THE INPUT: true; the input reads as it did. -/
def fstopsInvertSpec : ChangeSpec := { name := "fstopsInvert", fn := fun _ => fun
  | [d1, d2] => { results := [.lit (.bool true)], args := [d1, d2] }
  | _ => none }
def fstopsInvertRow : OpenClaim := { program := "ytmeppkkoepmlnaa", sum := "1c4f941ed64ecee5533936a36d45e308a767ba2180698d13b3f6af48cf700ce5", func := "langdoc/langdoclaw21.FstopsInvert", spec := "fstopsInvert", unfollowed := true, recurses := true, plainKeys := false, apart := false }
def FstopsInvertSaid : Prop := fstopsInvertRow.holds Try.pinned (OpenSpec.ofChange fstopsInvertSpec)

/-- ITS FALSE NEIGHBOUR: 'it returns false'. Refute it at one input. -/
def fstopsInvertWrong : ChangeSpec := { name := "fstopsInvert", fn := fun _ => fun
  | [d1, d2] => { results := [.lit (.bool false)], args := [d1, d2] }
  | _ => none }
def FstopsInvertWrongFalsely : Prop := fstopsInvertRow.holds Try.pinned (OpenSpec.ofChange fstopsInvertWrong)

/-- 'langdoclaw21.FstopsUnion': WHATEVER THE INPUT: true; the input reads as it did. -/
def fstopsUnionSpec : ChangeSpec := { name := "fstopsUnion", fn := fun _ => fun
  | [d1, d2, d3] => { results := [.lit (.bool true)], args := [d1, d2, d3] }
  | _ => none }
def fstopsUnionRow : OpenClaim := { program := "ytmeppkkoepmlnaa", sum := "1c4f941ed64ecee5533936a36d45e308a767ba2180698d13b3f6af48cf700ce5", func := "langdoc/langdoclaw21.FstopsUnion", spec := "fstopsUnion", unfollowed := true, recurses := true, plainKeys := false, apart := false }
def FstopsUnionSaid : Prop := fstopsUnionRow.holds Try.pinned (OpenSpec.ofChange fstopsUnionSpec)

/-- ITS FALSE NEIGHBOUR: 'it returns false'. Refute it at one input. -/
def fstopsUnionWrong : ChangeSpec := { name := "fstopsUnion", fn := fun _ => fun
  | [d1, d2, d3] => { results := [.lit (.bool false)], args := [d1, d2, d3] }
  | _ => none }
def FstopsUnionWrongFalsely : Prop := fstopsUnionRow.holds Try.pinned (OpenSpec.ofChange fstopsUnionWrong)

/-- 'langdoclaw21.FstopsConcat': WHATEVER THE INPUT: true; the input reads as it did. -/
def fstopsConcatSpec : ChangeSpec := { name := "fstopsConcat", fn := fun _ => fun
  | [d1, d2, d3] => { results := [.lit (.bool true)], args := [d1, d2, d3] }
  | _ => none }
def fstopsConcatRow : OpenClaim := { program := "ytmeppkkoepmlnaa", sum := "1c4f941ed64ecee5533936a36d45e308a767ba2180698d13b3f6af48cf700ce5", func := "langdoc/langdoclaw21.FstopsConcat", spec := "fstopsConcat", unfollowed := true, recurses := true, plainKeys := false, apart := false }
def FstopsConcatSaid : Prop := fstopsConcatRow.holds Try.pinned (OpenSpec.ofChange fstopsConcatSpec)

/-- ITS FALSE NEIGHBOUR: 'it returns false'. Refute it at one input. -/
def fstopsConcatWrong : ChangeSpec := { name := "fstopsConcat", fn := fun _ => fun
  | [d1, d2, d3] => { results := [.lit (.bool false)], args := [d1, d2, d3] }
  | _ => none }
def FstopsConcatWrongFalsely : Prop := fstopsConcatRow.holds Try.pinned (OpenSpec.ofChange fstopsConcatWrong)

/-- 'langdoclaw21.FstopsOrder': WHATEVER THE INPUT: true; the input reads as it did. -/
def fstopsOrderSpec : ChangeSpec := { name := "fstopsOrder", fn := fun _ => fun
  | [d1, d2, d3, d4] => { results := [.lit (.bool true)], args := [d1, d2, d3, d4] }
  | _ => none }
def fstopsOrderRow : OpenClaim := { program := "ytmeppkkoepmlnaa", sum := "1c4f941ed64ecee5533936a36d45e308a767ba2180698d13b3f6af48cf700ce5", func := "langdoc/langdoclaw21.FstopsOrder", spec := "fstopsOrder", unfollowed := true, recurses := true, plainKeys := false, apart := false }
def FstopsOrderSaid : Prop := fstopsOrderRow.holds Try.pinned (OpenSpec.ofChange fstopsOrderSpec)

/-- ITS FALSE NEIGHBOUR: 'it returns false'. Refute it at one input. -/
def fstopsOrderWrong : ChangeSpec := { name := "fstopsOrder", fn := fun _ => fun
  | [d1, d2, d3, d4] => { results := [.lit (.bool false)], args := [d1, d2, d3, d4] }
  | _ => none }
def FstopsOrderWrongFalsely : Prop := fstopsOrderRow.holds Try.pinned (OpenSpec.ofChange fstopsOrderWrong)

/-- 'langdoclaw21.FstopsLimits': WHATEVER THE INPUT: true; the input reads as it did. -/
def fstopsLimitsSpec : ChangeSpec := { name := "fstopsLimits", fn := fun _ => fun
  | [d1, d2] => { results := [.lit (.bool true)], args := [d1, d2] }
  | _ => none }
def fstopsLimitsRow : OpenClaim := { program := "ytmeppkkoepmlnaa", sum := "1c4f941ed64ecee5533936a36d45e308a767ba2180698d13b3f6af48cf700ce5", func := "langdoc/langdoclaw21.FstopsLimits", spec := "fstopsLimits", unfollowed := true, recurses := true, plainKeys := false, apart := false }
def FstopsLimitsSaid : Prop := fstopsLimitsRow.holds Try.pinned (OpenSpec.ofChange fstopsLimitsSpec)

/-- ITS FALSE NEIGHBOUR: 'it returns false'. Refute it at one input. -/
def fstopsLimitsWrong : ChangeSpec := { name := "fstopsLimits", fn := fun _ => fun
  | [d1, d2] => { results := [.lit (.bool false)], args := [d1, d2] }
  | _ => none }
def FstopsLimitsWrongFalsely : Prop := fstopsLimitsRow.holds Try.pinned (OpenSpec.ofChange fstopsLimitsWrong)

/-- 'langdoclaw21.FstopsThrough': WHATEVER THE INPUT: true; the input reads as it did. -/
def fstopsThroughSpec : ChangeSpec := { name := "fstopsThrough", fn := fun _ => fun
  | [d1, d2, d3, d4] => { results := [.lit (.bool true)], args := [d1, d2, d3, d4] }
  | _ => none }
def fstopsThroughRow : OpenClaim := { program := "ytmeppkkoepmlnaa", sum := "1c4f941ed64ecee5533936a36d45e308a767ba2180698d13b3f6af48cf700ce5", func := "langdoc/langdoclaw21.FstopsThrough", spec := "fstopsThrough", unfollowed := true, recurses := true, plainKeys := false, apart := false }
def FstopsThroughSaid : Prop := fstopsThroughRow.holds Try.pinned (OpenSpec.ofChange fstopsThroughSpec)

/-- ITS FALSE NEIGHBOUR: 'it returns false'. Refute it at one input. -/
def fstopsThroughWrong : ChangeSpec := { name := "fstopsThrough", fn := fun _ => fun
  | [d1, d2, d3, d4] => { results := [.lit (.bool false)], args := [d1, d2, d3, d4] }
  | _ => none }
def FstopsThroughWrongFalsely : Prop := fstopsThroughRow.holds Try.pinned (OpenSpec.ofChange fstopsThroughWrong)

/-- 'langdoclaw21.FstopsNeutral': WHATEVER THE INPUT: true; the input reads as it did. -/
def fstopsNeutralSpec : ChangeSpec := { name := "fstopsNeutral", fn := fun _ => fun
  | [d1, d2] => { results := [.lit (.bool true)], args := [d1, d2] }
  | _ => none }
def fstopsNeutralRow : OpenClaim := { program := "ytmeppkkoepmlnaa", sum := "1c4f941ed64ecee5533936a36d45e308a767ba2180698d13b3f6af48cf700ce5", func := "langdoc/langdoclaw21.FstopsNeutral", spec := "fstopsNeutral", unfollowed := true, recurses := true, plainKeys := false, apart := false }
def FstopsNeutralSaid : Prop := fstopsNeutralRow.holds Try.pinned (OpenSpec.ofChange fstopsNeutralSpec)

/-- ITS FALSE NEIGHBOUR: 'it returns false'. Refute it at one input. -/
def fstopsNeutralWrong : ChangeSpec := { name := "fstopsNeutral", fn := fun _ => fun
  | [d1, d2] => { results := [.lit (.bool false)], args := [d1, d2] }
  | _ => none }
def FstopsNeutralWrongFalsely : Prop := fstopsNeutralRow.holds Try.pinned (OpenSpec.ofChange fstopsNeutralWrong)

/- THE SECOND FORM. 'bulk': how many values and letters a reading holds, each counted each time it is reached (what is shared counts as often as it is met; a slice's spare places count too). A statement '..UptoSaid' is the law's where the arguments, and the package variables that the reading takes, are together of bulk at most 1048576: NARROWER than '..Said'. Prove '..Said' where nothing that the law and all that it calls make is longer than what came in: it says more and counts as full. Else prove '..UptoSaid'. A law counts once. -/
mutual
def uptoBulk {H : Type} : DataW H → Nat
  | .lit (.string bytes) => bytes.length + 1
  | .lit _ => 1
  | .nil => 1
  | .ptr d => uptoBulk d + 1
  | .slice elems spare => uptoBulkAll elems + uptoBulkAll spare + 1
  | .agg parts => uptoBulkAll parts + 1
  | .iface _ d => uptoBulk d + 1
  | .map entries => uptoBulkEntries entries + 1
  | .held _ => 1
def uptoBulkAll {H : Type} : List (DataW H) → Nat
  | [] => 0
  | d :: r => uptoBulk d + uptoBulkAll r
def uptoBulkEntries {H : Type} : List (Lit × DataW H) → Nat
  | [] => 0
  | x :: r => uptoBulkEntry x + uptoBulkEntries r
def uptoBulkEntry {H : Type} : Lit × DataW H → Nat
  | (.string bytes, d) => bytes.length + uptoBulk d + 1
  | (_, d) => uptoBulk d + 1
 end
def uptoSmall : (H : Type) → List (DataW H) → Bool := fun _ ds => decide (uptoBulkAll ds ≤ 1048576)
def OpenSpec.upto (s : _root_.Go.ChangeSpec) : _root_.Go.OpenSpec := { _root_.Go.OpenSpec.ofChange s with cond := some uptoSmall }

/-- 'langdoclaw21.FstopsPairs', WHERE WHAT IT READS IS OF BULK AT MOST 1048576: true; the input reads as it did. -/
def fstopsPairsUptoRow : OpenClaim := { program := "ytmeppkkoepmlnaa", sum := "1c4f941ed64ecee5533936a36d45e308a767ba2180698d13b3f6af48cf700ce5", func := "langdoc/langdoclaw21.FstopsPairs", spec := "fstopsPairs", unfollowed := true, recurses := true, plainKeys := false, apart := false, narrowed := true }
def FstopsPairsUptoSaid : Prop := fstopsPairsUptoRow.holds Try.pinned (OpenSpec.upto fstopsPairsSpec)

/-- 'langdoclaw21.FstopsIdentity', WHERE WHAT IT READS IS OF BULK AT MOST 1048576: true; the input reads as it did. -/
def fstopsIdentityUptoRow : OpenClaim := { program := "ytmeppkkoepmlnaa", sum := "1c4f941ed64ecee5533936a36d45e308a767ba2180698d13b3f6af48cf700ce5", func := "langdoc/langdoclaw21.FstopsIdentity", spec := "fstopsIdentity", unfollowed := true, recurses := true, plainKeys := false, apart := false, narrowed := true }
def FstopsIdentityUptoSaid : Prop := fstopsIdentityUptoRow.holds Try.pinned (OpenSpec.upto fstopsIdentitySpec)

/-- 'langdoclaw21.FstopsStar', WHERE WHAT IT READS IS OF BULK AT MOST 1048576: true; the input reads as it did. -/
def fstopsStarUptoRow : OpenClaim := { program := "ytmeppkkoepmlnaa", sum := "1c4f941ed64ecee5533936a36d45e308a767ba2180698d13b3f6af48cf700ce5", func := "langdoc/langdoclaw21.FstopsStar", spec := "fstopsStar", unfollowed := true, recurses := true, plainKeys := false, apart := false, narrowed := true }
def FstopsStarUptoSaid : Prop := fstopsStarUptoRow.holds Try.pinned (OpenSpec.upto fstopsStarSpec)

/-- 'langdoclaw21.FstopsCompose', WHERE WHAT IT READS IS OF BULK AT MOST 1048576: true; the input reads as it did. -/
def fstopsComposeUptoRow : OpenClaim := { program := "ytmeppkkoepmlnaa", sum := "1c4f941ed64ecee5533936a36d45e308a767ba2180698d13b3f6af48cf700ce5", func := "langdoc/langdoclaw21.FstopsCompose", spec := "fstopsCompose", unfollowed := true, recurses := true, plainKeys := false, apart := false, narrowed := true }
def FstopsComposeUptoSaid : Prop := fstopsComposeUptoRow.holds Try.pinned (OpenSpec.upto fstopsComposeSpec)

/-- 'langdoclaw21.FstopsInvert', WHERE WHAT IT READS IS OF BULK AT MOST 1048576: true; the input reads as it did. -/
def fstopsInvertUptoRow : OpenClaim := { program := "ytmeppkkoepmlnaa", sum := "1c4f941ed64ecee5533936a36d45e308a767ba2180698d13b3f6af48cf700ce5", func := "langdoc/langdoclaw21.FstopsInvert", spec := "fstopsInvert", unfollowed := true, recurses := true, plainKeys := false, apart := false, narrowed := true }
def FstopsInvertUptoSaid : Prop := fstopsInvertUptoRow.holds Try.pinned (OpenSpec.upto fstopsInvertSpec)

/-- 'langdoclaw21.FstopsUnion', WHERE WHAT IT READS IS OF BULK AT MOST 1048576: true; the input reads as it did. -/
def fstopsUnionUptoRow : OpenClaim := { program := "ytmeppkkoepmlnaa", sum := "1c4f941ed64ecee5533936a36d45e308a767ba2180698d13b3f6af48cf700ce5", func := "langdoc/langdoclaw21.FstopsUnion", spec := "fstopsUnion", unfollowed := true, recurses := true, plainKeys := false, apart := false, narrowed := true }
def FstopsUnionUptoSaid : Prop := fstopsUnionUptoRow.holds Try.pinned (OpenSpec.upto fstopsUnionSpec)

/-- 'langdoclaw21.FstopsConcat', WHERE WHAT IT READS IS OF BULK AT MOST 1048576: true; the input reads as it did. -/
def fstopsConcatUptoRow : OpenClaim := { program := "ytmeppkkoepmlnaa", sum := "1c4f941ed64ecee5533936a36d45e308a767ba2180698d13b3f6af48cf700ce5", func := "langdoc/langdoclaw21.FstopsConcat", spec := "fstopsConcat", unfollowed := true, recurses := true, plainKeys := false, apart := false, narrowed := true }
def FstopsConcatUptoSaid : Prop := fstopsConcatUptoRow.holds Try.pinned (OpenSpec.upto fstopsConcatSpec)

/-- 'langdoclaw21.FstopsOrder', WHERE WHAT IT READS IS OF BULK AT MOST 1048576: true; the input reads as it did. -/
def fstopsOrderUptoRow : OpenClaim := { program := "ytmeppkkoepmlnaa", sum := "1c4f941ed64ecee5533936a36d45e308a767ba2180698d13b3f6af48cf700ce5", func := "langdoc/langdoclaw21.FstopsOrder", spec := "fstopsOrder", unfollowed := true, recurses := true, plainKeys := false, apart := false, narrowed := true }
def FstopsOrderUptoSaid : Prop := fstopsOrderUptoRow.holds Try.pinned (OpenSpec.upto fstopsOrderSpec)

/-- 'langdoclaw21.FstopsLimits', WHERE WHAT IT READS IS OF BULK AT MOST 1048576: true; the input reads as it did. -/
def fstopsLimitsUptoRow : OpenClaim := { program := "ytmeppkkoepmlnaa", sum := "1c4f941ed64ecee5533936a36d45e308a767ba2180698d13b3f6af48cf700ce5", func := "langdoc/langdoclaw21.FstopsLimits", spec := "fstopsLimits", unfollowed := true, recurses := true, plainKeys := false, apart := false, narrowed := true }
def FstopsLimitsUptoSaid : Prop := fstopsLimitsUptoRow.holds Try.pinned (OpenSpec.upto fstopsLimitsSpec)

/-- 'langdoclaw21.FstopsThrough', WHERE WHAT IT READS IS OF BULK AT MOST 1048576: true; the input reads as it did. -/
def fstopsThroughUptoRow : OpenClaim := { program := "ytmeppkkoepmlnaa", sum := "1c4f941ed64ecee5533936a36d45e308a767ba2180698d13b3f6af48cf700ce5", func := "langdoc/langdoclaw21.FstopsThrough", spec := "fstopsThrough", unfollowed := true, recurses := true, plainKeys := false, apart := false, narrowed := true }
def FstopsThroughUptoSaid : Prop := fstopsThroughUptoRow.holds Try.pinned (OpenSpec.upto fstopsThroughSpec)

/-- 'langdoclaw21.FstopsNeutral', WHERE WHAT IT READS IS OF BULK AT MOST 1048576: true; the input reads as it did. -/
def fstopsNeutralUptoRow : OpenClaim := { program := "ytmeppkkoepmlnaa", sum := "1c4f941ed64ecee5533936a36d45e308a767ba2180698d13b3f6af48cf700ce5", func := "langdoc/langdoclaw21.FstopsNeutral", spec := "fstopsNeutral", unfollowed := true, recurses := true, plainKeys := false, apart := false, narrowed := true }
def FstopsNeutralUptoSaid : Prop := fstopsNeutralUptoRow.holds Try.pinned (OpenSpec.upto fstopsNeutralSpec)

end Rows
end Go.Proofs.Ytmeppkkoepmlnaa
