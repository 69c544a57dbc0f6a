/-
  No cell of these rows narrows 'for every input' (looked for: loops, veiled, ifaces, maps, wideKeys, modest, calm, conditions, laid).
  DERIVED. THE GIVEN ROWS OF THIS SEAT. 9 by the template 'for every input the law returns true; each argument reads behind the call as it read before'; 0 by the template 'total and deterministic' (their statements: YtmejihlplbeekaaTotals.lean).
  GIVEN WITH THE SEED: the statements are not yours to turn. If you find one false, say at which input.
  Laid BY PROGRAM, IN A SANDBOX (cutbox-rows.mjs): the forced cells as the released guide's own fill.sh prints them over the translation a4637fc8cb12130a… (all of the seat's roots in one cut). By AI agents, Wed Nov 11 2026. No macro, syntax, notation, axiom, sorry.
-/
import Derived.Test.YtmejihlplbeekaaChecked
import GoSem.Claim
import GoSem.ClaimJoined
import GoSem.ClaimMapViews
import Derived.JoinedTies
import Derived.KernelRfl
namespace Go.Proofs.Ytmejihlplbeekaa
/- THE CELL 'sum', in the pinned program and in every row, IS THE sha256 OF THE DUMP (.gsa) THAT YtmejihlplbeekaaProg.lean LOADS. Nothing in Lean hashes anything: it is a label: what it is worth is what the hold of that sum in a sandbox is worth. -/
noncomputable def Try.pinned : Pinned := { name := "ytmejihlplbeekaa", sum := "a4637fc8cb12130a160dd76bceb2bee8c4f11bc3910c91679376016e8dc6ff8c", checked := Try.checked }
namespace Rows
def none {H : Type} : Left H := { results := [], args := [] }

/-- 'langdoclaw20.FstCheck': WHATEVER THE INPUT: true; the input reads as it did. -/
def fstCheckSpec : ChangeSpec := { name := "fstCheck", fn := fun _ => fun
  | [d] => { results := [.lit (.bool true)], args := [d] }
  | _ => none }
def fstCheckRow : OpenClaim := { program := "ytmejihlplbeekaa", sum := "a4637fc8cb12130a160dd76bceb2bee8c4f11bc3910c91679376016e8dc6ff8c", func := "langdoc/langdoclaw20.FstCheck", spec := "fstCheck", unfollowed := true, recurses := true, plainKeys := false, apart := false }
def FstCheckSaid : Prop := fstCheckRow.holds Try.pinned (OpenSpec.ofChange fstCheckSpec)

/-- ITS FALSE NEIGHBOUR: 'it returns false'. Refute it at one input. -/
def fstCheckWrong : ChangeSpec := { name := "fstCheck", fn := fun _ => fun
  | [d] => { results := [.lit (.bool false)], args := [d] }
  | _ => none }
def FstCheckWrongFalsely : Prop := fstCheckRow.holds Try.pinned (OpenSpec.ofChange fstCheckWrong)

/-- 'langdoclaw20.FstLimits': WHATEVER THE INPUT: true; the input reads as it did. -/
def fstLimitsSpec : ChangeSpec := { name := "fstLimits", fn := fun _ => fun
  | [d] => { results := [.lit (.bool true)], args := [d] }
  | _ => none }
def fstLimitsRow : OpenClaim := { program := "ytmejihlplbeekaa", sum := "a4637fc8cb12130a160dd76bceb2bee8c4f11bc3910c91679376016e8dc6ff8c", func := "langdoc/langdoclaw20.FstLimits", spec := "fstLimits", unfollowed := true, recurses := true, plainKeys := false, apart := false }
def FstLimitsSaid : Prop := fstLimitsRow.holds Try.pinned (OpenSpec.ofChange fstLimitsSpec)

/-- ITS FALSE NEIGHBOUR: 'it returns false'. Refute it at one input. -/
def fstLimitsWrong : ChangeSpec := { name := "fstLimits", fn := fun _ => fun
  | [d] => { results := [.lit (.bool false)], args := [d] }
  | _ => none }
def FstLimitsWrongFalsely : Prop := fstLimitsRow.holds Try.pinned (OpenSpec.ofChange fstLimitsWrong)

/-- 'langdoclaw20.FstAccepts': WHATEVER THE INPUT: true; the input reads as it did. -/
def fstAcceptsSpec : ChangeSpec := { name := "fstAccepts", fn := fun _ => fun
  | [d1, d2, d3] => { results := [.lit (.bool true)], args := [d1, d2, d3] }
  | _ => none }
def fstAcceptsRow : OpenClaim := { program := "ytmejihlplbeekaa", sum := "a4637fc8cb12130a160dd76bceb2bee8c4f11bc3910c91679376016e8dc6ff8c", func := "langdoc/langdoclaw20.FstAccepts", spec := "fstAccepts", unfollowed := true, recurses := true, plainKeys := false, apart := false }
def FstAcceptsSaid : Prop := fstAcceptsRow.holds Try.pinned (OpenSpec.ofChange fstAcceptsSpec)

/-- ITS FALSE NEIGHBOUR: 'it returns false'. Refute it at one input. -/
def fstAcceptsWrong : ChangeSpec := { name := "fstAccepts", fn := fun _ => fun
  | [d1, d2, d3] => { results := [.lit (.bool false)], args := [d1, d2, d3] }
  | _ => none }
def FstAcceptsWrongFalsely : Prop := fstAcceptsRow.holds Try.pinned (OpenSpec.ofChange fstAcceptsWrong)

/-- 'langdoclaw20.FstOutputs': WHATEVER THE INPUT: true; the input reads as it did. -/
def fstOutputsSpec : ChangeSpec := { name := "fstOutputs", fn := fun _ => fun
  | [d1, d2, d3, d4] => { results := [.lit (.bool true)], args := [d1, d2, d3, d4] }
  | _ => none }
def fstOutputsRow : OpenClaim := { program := "ytmejihlplbeekaa", sum := "a4637fc8cb12130a160dd76bceb2bee8c4f11bc3910c91679376016e8dc6ff8c", func := "langdoc/langdoclaw20.FstOutputs", spec := "fstOutputs", unfollowed := true, recurses := true, plainKeys := false, apart := false }
def FstOutputsSaid : Prop := fstOutputsRow.holds Try.pinned (OpenSpec.ofChange fstOutputsSpec)

/-- ITS FALSE NEIGHBOUR: 'it returns false'. Refute it at one input. -/
def fstOutputsWrong : ChangeSpec := { name := "fstOutputs", fn := fun _ => fun
  | [d1, d2, d3, d4] => { results := [.lit (.bool false)], args := [d1, d2, d3, d4] }
  | _ => none }
def FstOutputsWrongFalsely : Prop := fstOutputsRow.holds Try.pinned (OpenSpec.ofChange fstOutputsWrong)

/-- 'langdoclaw20.FstUseful': WHATEVER THE INPUT: true; the input reads as it did. -/
def fstUsefulSpec : ChangeSpec := { name := "fstUseful", fn := fun _ => fun
  | [d] => { results := [.lit (.bool true)], args := [d] }
  | _ => none }
def fstUsefulRow : OpenClaim := { program := "ytmejihlplbeekaa", sum := "a4637fc8cb12130a160dd76bceb2bee8c4f11bc3910c91679376016e8dc6ff8c", func := "langdoc/langdoclaw20.FstUseful", spec := "fstUseful", unfollowed := true, recurses := true, plainKeys := false, apart := false }
def FstUsefulSaid : Prop := fstUsefulRow.holds Try.pinned (OpenSpec.ofChange fstUsefulSpec)

/-- ITS FALSE NEIGHBOUR: 'it returns false'. Refute it at one input. -/
def fstUsefulWrong : ChangeSpec := { name := "fstUseful", fn := fun _ => fun
  | [d] => { results := [.lit (.bool false)], args := [d] }
  | _ => none }
def FstUsefulWrongFalsely : Prop := fstUsefulRow.holds Try.pinned (OpenSpec.ofChange fstUsefulWrong)

/-- 'langdoclaw20.FstSame': WHATEVER THE INPUT: true; the input reads as it did. -/
def fstSameSpec : ChangeSpec := { name := "fstSame", fn := fun _ => fun
  | [d1, d2] => { results := [.lit (.bool true)], args := [d1, d2] }
  | _ => none }
def fstSameRow : OpenClaim := { program := "ytmejihlplbeekaa", sum := "a4637fc8cb12130a160dd76bceb2bee8c4f11bc3910c91679376016e8dc6ff8c", func := "langdoc/langdoclaw20.FstSame", spec := "fstSame", unfollowed := true, recurses := true, plainKeys := false, apart := false }
def FstSameSaid : Prop := fstSameRow.holds Try.pinned (OpenSpec.ofChange fstSameSpec)

/-- ITS FALSE NEIGHBOUR: 'it returns false'. Refute it at one input. -/
def fstSameWrong : ChangeSpec := { name := "fstSame", fn := fun _ => fun
  | [d1, d2] => { results := [.lit (.bool false)], args := [d1, d2] }
  | _ => none }
def FstSameWrongFalsely : Prop := fstSameRow.holds Try.pinned (OpenSpec.ofChange fstSameWrong)

/-- 'langdoclaw20.FstTrims': WHATEVER THE INPUT: true; the input reads as it did. -/
def fstTrimsSpec : ChangeSpec := { name := "fstTrims", fn := fun _ => fun
  | [d1, d2, d3] => { results := [.lit (.bool true)], args := [d1, d2, d3] }
  | _ => none }
def fstTrimsRow : OpenClaim := { program := "ytmejihlplbeekaa", sum := "a4637fc8cb12130a160dd76bceb2bee8c4f11bc3910c91679376016e8dc6ff8c", func := "langdoc/langdoclaw20.FstTrims", spec := "fstTrims", unfollowed := true, recurses := true, plainKeys := false, apart := false }
def FstTrimsSaid : Prop := fstTrimsRow.holds Try.pinned (OpenSpec.ofChange fstTrimsSpec)

/-- ITS FALSE NEIGHBOUR: 'it returns false'. Refute it at one input. -/
def fstTrimsWrong : ChangeSpec := { name := "fstTrims", fn := fun _ => fun
  | [d1, d2, d3] => { results := [.lit (.bool false)], args := [d1, d2, d3] }
  | _ => none }
def FstTrimsWrongFalsely : Prop := fstTrimsRow.holds Try.pinned (OpenSpec.ofChange fstTrimsWrong)

/-- 'langdoclaw20.FstListed': WHATEVER THE INPUT: true; the input reads as it did. -/
def fstListedSpec : ChangeSpec := { name := "fstListed", fn := fun _ => fun
  | [d1, d2, d3] => { results := [.lit (.bool true)], args := [d1, d2, d3] }
  | _ => none }
def fstListedRow : OpenClaim := { program := "ytmejihlplbeekaa", sum := "a4637fc8cb12130a160dd76bceb2bee8c4f11bc3910c91679376016e8dc6ff8c", func := "langdoc/langdoclaw20.FstListed", spec := "fstListed", unfollowed := true, recurses := true, plainKeys := false, apart := false }
def FstListedSaid : Prop := fstListedRow.holds Try.pinned (OpenSpec.ofChange fstListedSpec)

/-- ITS FALSE NEIGHBOUR: 'it returns false'. Refute it at one input. -/
def fstListedWrong : ChangeSpec := { name := "fstListed", fn := fun _ => fun
  | [d1, d2, d3] => { results := [.lit (.bool false)], args := [d1, d2, d3] }
  | _ => none }
def FstListedWrongFalsely : Prop := fstListedRow.holds Try.pinned (OpenSpec.ofChange fstListedWrong)

/-- 'langdoclaw20.FstGrows': WHATEVER THE INPUT: true; the input reads as it did. -/
def fstGrowsSpec : ChangeSpec := { name := "fstGrows", fn := fun _ => fun
  | [d1, d2, d3] => { results := [.lit (.bool true)], args := [d1, d2, d3] }
  | _ => none }
def fstGrowsRow : OpenClaim := { program := "ytmejihlplbeekaa", sum := "a4637fc8cb12130a160dd76bceb2bee8c4f11bc3910c91679376016e8dc6ff8c", func := "langdoc/langdoclaw20.FstGrows", spec := "fstGrows", unfollowed := true, recurses := true, plainKeys := false, apart := false }
def FstGrowsSaid : Prop := fstGrowsRow.holds Try.pinned (OpenSpec.ofChange fstGrowsSpec)

/-- ITS FALSE NEIGHBOUR: 'it returns false'. Refute it at one input. -/
def fstGrowsWrong : ChangeSpec := { name := "fstGrows", fn := fun _ => fun
  | [d1, d2, d3] => { results := [.lit (.bool false)], args := [d1, d2, d3] }
  | _ => none }
def FstGrowsWrongFalsely : Prop := fstGrowsRow.holds Try.pinned (OpenSpec.ofChange fstGrowsWrong)

/- THE SECOND FORM. 'bulk': how many values and letters a reading holds, each counted each time it is reached (what is shared counts as often as it is met; a slice's spare places count too). A statement '..UptoSaid' is the law's where the arguments, and the package variables that the reading takes, are together of bulk at most 1048576: NARROWER than '..Said'. Prove '..Said' where nothing that the law and all that it calls make is longer than what came in: it says more and counts as full. Else prove '..UptoSaid'. A law counts once. -/
mutual
def uptoBulk {H : Type} : DataW H → Nat
  | .lit (.string bytes) => bytes.length + 1
  | .lit _ => 1
  | .nil => 1
  | .ptr d => uptoBulk d + 1
  | .slice elems spare => uptoBulkAll elems + uptoBulkAll spare + 1
  | .agg parts => uptoBulkAll parts + 1
  | .iface _ d => uptoBulk d + 1
  | .map entries => uptoBulkEntries entries + 1
  | .held _ => 1
def uptoBulkAll {H : Type} : List (DataW H) → Nat
  | [] => 0
  | d :: r => uptoBulk d + uptoBulkAll r
def uptoBulkEntries {H : Type} : List (Lit × DataW H) → Nat
  | [] => 0
  | x :: r => uptoBulkEntry x + uptoBulkEntries r
def uptoBulkEntry {H : Type} : Lit × DataW H → Nat
  | (.string bytes, d) => bytes.length + uptoBulk d + 1
  | (_, d) => uptoBulk d + 1
 end
def uptoSmall : (H : Type) → List (DataW H) → Bool := fun _ ds => decide (uptoBulkAll ds ≤ 1048576)
def OpenSpec.upto (s : _root_.Go.ChangeSpec) : _root_.Go.OpenSpec := { _root_.Go.OpenSpec.ofChange s with cond := some uptoSmall }

/-- 'langdoclaw20.FstCheck', WHERE WHAT IT READS IS OF BULK AT MOST 1048576: true; the input reads as it did. -/
def fstCheckUptoRow : OpenClaim := { program := "ytmejihlplbeekaa", sum := "a4637fc8cb12130a160dd76bceb2bee8c4f11bc3910c91679376016e8dc6ff8c", func := "langdoc/langdoclaw20.FstCheck", spec := "fstCheck", unfollowed := true, recurses := true, plainKeys := false, apart := false, narrowed := true }
def FstCheckUptoSaid : Prop := fstCheckUptoRow.holds Try.pinned (OpenSpec.upto fstCheckSpec)

/-- 'langdoclaw20.FstLimits', WHERE WHAT IT READS IS OF BULK AT MOST 1048576: true; the input reads as it did. -/
def fstLimitsUptoRow : OpenClaim := { program := "ytmejihlplbeekaa", sum := "a4637fc8cb12130a160dd76bceb2bee8c4f11bc3910c91679376016e8dc6ff8c", func := "langdoc/langdoclaw20.FstLimits", spec := "fstLimits", unfollowed := true, recurses := true, plainKeys := false, apart := false, narrowed := true }
def FstLimitsUptoSaid : Prop := fstLimitsUptoRow.holds Try.pinned (OpenSpec.upto fstLimitsSpec)

/-- 'langdoclaw20.FstAccepts', WHERE WHAT IT READS IS OF BULK AT MOST 1048576: true; the input reads as it did. -/
def fstAcceptsUptoRow : OpenClaim := { program := "ytmejihlplbeekaa", sum := "a4637fc8cb12130a160dd76bceb2bee8c4f11bc3910c91679376016e8dc6ff8c", func := "langdoc/langdoclaw20.FstAccepts", spec := "fstAccepts", unfollowed := true, recurses := true, plainKeys := false, apart := false, narrowed := true }
def FstAcceptsUptoSaid : Prop := fstAcceptsUptoRow.holds Try.pinned (OpenSpec.upto fstAcceptsSpec)

/-- 'langdoclaw20.FstOutputs', WHERE WHAT IT READS IS OF BULK AT MOST 1048576: true; the input reads as it did. -/
def fstOutputsUptoRow : OpenClaim := { program := "ytmejihlplbeekaa", sum := "a4637fc8cb12130a160dd76bceb2bee8c4f11bc3910c91679376016e8dc6ff8c", func := "langdoc/langdoclaw20.FstOutputs", spec := "fstOutputs", unfollowed := true, recurses := true, plainKeys := false, apart := false, narrowed := true }
def FstOutputsUptoSaid : Prop := fstOutputsUptoRow.holds Try.pinned (OpenSpec.upto fstOutputsSpec)

/-- 'langdoclaw20.FstUseful', WHERE WHAT IT READS IS OF BULK AT MOST 1048576: true; the input reads as it did. -/
def fstUsefulUptoRow : OpenClaim := { program := "ytmejihlplbeekaa", sum := "a4637fc8cb12130a160dd76bceb2bee8c4f11bc3910c91679376016e8dc6ff8c", func := "langdoc/langdoclaw20.FstUseful", spec := "fstUseful", unfollowed := true, recurses := true, plainKeys := false, apart := false, narrowed := true }
def FstUsefulUptoSaid : Prop := fstUsefulUptoRow.holds Try.pinned (OpenSpec.upto fstUsefulSpec)

/-- 'langdoclaw20.FstSame', WHERE WHAT IT READS IS OF BULK AT MOST 1048576: true; the input reads as it did. -/
def fstSameUptoRow : OpenClaim := { program := "ytmejihlplbeekaa", sum := "a4637fc8cb12130a160dd76bceb2bee8c4f11bc3910c91679376016e8dc6ff8c", func := "langdoc/langdoclaw20.FstSame", spec := "fstSame", unfollowed := true, recurses := true, plainKeys := false, apart := false, narrowed := true }
def FstSameUptoSaid : Prop := fstSameUptoRow.holds Try.pinned (OpenSpec.upto fstSameSpec)

/-- 'langdoclaw20.FstTrims', WHERE WHAT IT READS IS OF BULK AT MOST 1048576: true; the input reads as it did. -/
def fstTrimsUptoRow : OpenClaim := { program := "ytmejihlplbeekaa", sum := "a4637fc8cb12130a160dd76bceb2bee8c4f11bc3910c91679376016e8dc6ff8c", func := "langdoc/langdoclaw20.FstTrims", spec := "fstTrims", unfollowed := true, recurses := true, plainKeys := false, apart := false, narrowed := true }
def FstTrimsUptoSaid : Prop := fstTrimsUptoRow.holds Try.pinned (OpenSpec.upto fstTrimsSpec)

/-- 'langdoclaw20.FstListed', WHERE WHAT IT READS IS OF BULK AT MOST 1048576: true; the input reads as it did. -/
def fstListedUptoRow : OpenClaim := { program := "ytmejihlplbeekaa", sum := "a4637fc8cb12130a160dd76bceb2bee8c4f11bc3910c91679376016e8dc6ff8c", func := "langdoc/langdoclaw20.FstListed", spec := "fstListed", unfollowed := true, recurses := true, plainKeys := false, apart := false, narrowed := true }
def FstListedUptoSaid : Prop := fstListedUptoRow.holds Try.pinned (OpenSpec.upto fstListedSpec)

/-- 'langdoclaw20.FstGrows', WHERE WHAT IT READS IS OF BULK AT MOST 1048576: true; the input reads as it did. -/
def fstGrowsUptoRow : OpenClaim := { program := "ytmejihlplbeekaa", sum := "a4637fc8cb12130a160dd76bceb2bee8c4f11bc3910c91679376016e8dc6ff8c", func := "langdoc/langdoclaw20.FstGrows", spec := "fstGrows", unfollowed := true, recurses := true, plainKeys := false, apart := false, narrowed := true }
def FstGrowsUptoSaid : Prop := fstGrowsUptoRow.holds Try.pinned (OpenSpec.upto fstGrowsSpec)

end Rows
end Go.Proofs.Ytmejihlplbeekaa
