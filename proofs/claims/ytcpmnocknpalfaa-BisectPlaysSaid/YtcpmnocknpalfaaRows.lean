/-
  No cell of these rows narrows 'for every input' (looked for: loops, veiled, ifaces, maps, wideKeys, modest, calm, conditions, laid).
  DERIVED. THE GIVEN ROWS OF THIS SEAT. 13 by the template 'for every input the law returns true; each argument reads behind the call as it read before'; 0 by the template 'total and deterministic' (their statements: YtcpmnocknpalfaaTotals.lean).
  GIVEN WITH THE SEED: the statements are not yours to turn. If you find one false, say at which input.
  Laid BY PROGRAM, IN A SANDBOX (cutbox-rows.mjs): the forced cells as the released guide's own fill.sh prints them over the translation 1b3683efc66ec2bc… (all of the seat's roots in one cut). By AI agents, Wed Nov 11 2026. No macro, syntax, notation, axiom, sorry.
-/
import Derived.Test.YtcpmnocknpalfaaChecked
import GoSem.Claim
import GoSem.ClaimJoined
import GoSem.ClaimMapViews
import Derived.JoinedTies
import Derived.KernelRfl
namespace Go.Proofs.Ytcpmnocknpalfaa
/- THE CELL 'sum', in the pinned program and in every row, IS THE sha256 OF THE DUMP (.gsa) THAT YtcpmnocknpalfaaProg.lean LOADS. Nothing in Lean hashes anything: it is a label: what it is worth is what the hold of that sum in a sandbox is worth. -/
noncomputable def Try.pinned : Pinned := { name := "ytcpmnocknpalfaa", sum := "1b3683efc66ec2bc81fc2b5facb02d2d28bac9bd8ee528ffeb15c3070caedec2", checked := Try.checked }
namespace Rows
def none {H : Type} : Left H := { results := [], args := [] }

/-- 'sleuthlaw14.DagBases': WHATEVER THE INPUT: true; the input reads as it did. -/
def dagBasesSpec : ChangeSpec := { name := "dagBases", fn := fun _ => fun
  | [d1, d2, d3] => { results := [.lit (.bool true)], args := [d1, d2, d3] }
  | _ => none }
def dagBasesRow : OpenClaim := { program := "ytcpmnocknpalfaa", sum := "1b3683efc66ec2bc81fc2b5facb02d2d28bac9bd8ee528ffeb15c3070caedec2", func := "sleuth/sleuthlaw14.DagBases", spec := "dagBases", apart := false }
def DagBasesSaid : Prop := dagBasesRow.holds Try.pinned (OpenSpec.ofChange dagBasesSpec)

/-- ITS FALSE NEIGHBOUR: 'it returns false'. Refute it at one input. -/
def dagBasesWrong : ChangeSpec := { name := "dagBases", fn := fun _ => fun
  | [d1, d2, d3] => { results := [.lit (.bool false)], args := [d1, d2, d3] }
  | _ => none }
def DagBasesWrongFalsely : Prop := dagBasesRow.holds Try.pinned (OpenSpec.ofChange dagBasesWrong)

/-- 'sleuthlaw14.DagGens': WHATEVER THE INPUT: true; the input reads as it did. -/
def dagGensSpec : ChangeSpec := { name := "dagGens", fn := fun _ => fun
  | [d] => { results := [.lit (.bool true)], args := [d] }
  | _ => none }
def dagGensRow : OpenClaim := { program := "ytcpmnocknpalfaa", sum := "1b3683efc66ec2bc81fc2b5facb02d2d28bac9bd8ee528ffeb15c3070caedec2", func := "sleuth/sleuthlaw14.DagGens", spec := "dagGens", apart := false }
def DagGensSaid : Prop := dagGensRow.holds Try.pinned (OpenSpec.ofChange dagGensSpec)

/-- ITS FALSE NEIGHBOUR: 'it returns false'. Refute it at one input. -/
def dagGensWrong : ChangeSpec := { name := "dagGens", fn := fun _ => fun
  | [d] => { results := [.lit (.bool false)], args := [d] }
  | _ => none }
def DagGensWrongFalsely : Prop := dagGensRow.holds Try.pinned (OpenSpec.ofChange dagGensWrong)

/-- 'sleuthlaw14.DagMeets': WHATEVER THE INPUT: true; the input reads as it did. -/
def dagMeetsSpec : ChangeSpec := { name := "dagMeets", fn := fun _ => fun
  | [d1, d2, d3] => { results := [.lit (.bool true)], args := [d1, d2, d3] }
  | _ => none }
def dagMeetsRow : OpenClaim := { program := "ytcpmnocknpalfaa", sum := "1b3683efc66ec2bc81fc2b5facb02d2d28bac9bd8ee528ffeb15c3070caedec2", func := "sleuth/sleuthlaw14.DagMeets", spec := "dagMeets", apart := false }
def DagMeetsSaid : Prop := dagMeetsRow.holds Try.pinned (OpenSpec.ofChange dagMeetsSpec)

/-- ITS FALSE NEIGHBOUR: 'it returns false'. Refute it at one input. -/
def dagMeetsWrong : ChangeSpec := { name := "dagMeets", fn := fun _ => fun
  | [d1, d2, d3] => { results := [.lit (.bool false)], args := [d1, d2, d3] }
  | _ => none }
def DagMeetsWrongFalsely : Prop := dagMeetsRow.holds Try.pinned (OpenSpec.ofChange dagMeetsWrong)

/-- 'sleuthlaw14.DagRanges': WHATEVER THE INPUT: true; the input reads as it did. -/
def dagRangesSpec : ChangeSpec := { name := "dagRanges", fn := fun _ => fun
  | [d1, d2, d3] => { results := [.lit (.bool true)], args := [d1, d2, d3] }
  | _ => none }
def dagRangesRow : OpenClaim := { program := "ytcpmnocknpalfaa", sum := "1b3683efc66ec2bc81fc2b5facb02d2d28bac9bd8ee528ffeb15c3070caedec2", func := "sleuth/sleuthlaw14.DagRanges", spec := "dagRanges", apart := false }
def DagRangesSaid : Prop := dagRangesRow.holds Try.pinned (OpenSpec.ofChange dagRangesSpec)

/-- ITS FALSE NEIGHBOUR: 'it returns false'. Refute it at one input. -/
def dagRangesWrong : ChangeSpec := { name := "dagRanges", fn := fun _ => fun
  | [d1, d2, d3] => { results := [.lit (.bool false)], args := [d1, d2, d3] }
  | _ => none }
def DagRangesWrongFalsely : Prop := dagRangesRow.holds Try.pinned (OpenSpec.ofChange dagRangesWrong)

/-- 'sleuthlaw14.DagAbove': WHATEVER THE INPUT: true; the input reads as it did. -/
def dagAboveSpec : ChangeSpec := { name := "dagAbove", fn := fun _ => fun
  | [d1, d2, d3] => { results := [.lit (.bool true)], args := [d1, d2, d3] }
  | _ => none }
def dagAboveRow : OpenClaim := { program := "ytcpmnocknpalfaa", sum := "1b3683efc66ec2bc81fc2b5facb02d2d28bac9bd8ee528ffeb15c3070caedec2", func := "sleuth/sleuthlaw14.DagAbove", spec := "dagAbove", apart := false }
def DagAboveSaid : Prop := dagAboveRow.holds Try.pinned (OpenSpec.ofChange dagAboveSpec)

/-- ITS FALSE NEIGHBOUR: 'it returns false'. Refute it at one input. -/
def dagAboveWrong : ChangeSpec := { name := "dagAbove", fn := fun _ => fun
  | [d1, d2, d3] => { results := [.lit (.bool false)], args := [d1, d2, d3] }
  | _ => none }
def DagAboveWrongFalsely : Prop := dagAboveRow.holds Try.pinned (OpenSpec.ofChange dagAboveWrong)

/-- 'sleuthlaw34.BisectBest': WHATEVER THE INPUT: true; the input reads as it did. -/
def bisectBestSpec : ChangeSpec := { name := "bisectBest", fn := fun _ => fun
  | [d1, d2] => { results := [.lit (.bool true)], args := [d1, d2] }
  | _ => none }
def bisectBestRow : OpenClaim := { program := "ytcpmnocknpalfaa", sum := "1b3683efc66ec2bc81fc2b5facb02d2d28bac9bd8ee528ffeb15c3070caedec2", func := "sleuth/sleuthlaw34.BisectBest", spec := "bisectBest", apart := false }
def BisectBestSaid : Prop := bisectBestRow.holds Try.pinned (OpenSpec.ofChange bisectBestSpec)

/-- ITS FALSE NEIGHBOUR: 'it returns false'. Refute it at one input. -/
def bisectBestWrong : ChangeSpec := { name := "bisectBest", fn := fun _ => fun
  | [d1, d2] => { results := [.lit (.bool false)], args := [d1, d2] }
  | _ => none }
def BisectBestWrongFalsely : Prop := bisectBestRow.holds Try.pinned (OpenSpec.ofChange bisectBestWrong)

/-- 'sleuthlaw34.BisectPlays': WHATEVER THE INPUT: true; the input reads as it did. -/
def bisectPlaysSpec : ChangeSpec := { name := "bisectPlays", fn := fun _ => fun
  | [d1, d2] => { results := [.lit (.bool true)], args := [d1, d2] }
  | _ => none }
def bisectPlaysRow : OpenClaim := { program := "ytcpmnocknpalfaa", sum := "1b3683efc66ec2bc81fc2b5facb02d2d28bac9bd8ee528ffeb15c3070caedec2", func := "sleuth/sleuthlaw34.BisectPlays", spec := "bisectPlays", apart := false }
def BisectPlaysSaid : Prop := bisectPlaysRow.holds Try.pinned (OpenSpec.ofChange bisectPlaysSpec)

/-- ITS FALSE NEIGHBOUR: 'it returns false'. Refute it at one input. -/
def bisectPlaysWrong : ChangeSpec := { name := "bisectPlays", fn := fun _ => fun
  | [d1, d2] => { results := [.lit (.bool false)], args := [d1, d2] }
  | _ => none }
def BisectPlaysWrongFalsely : Prop := bisectPlaysRow.holds Try.pinned (OpenSpec.ofChange bisectPlaysWrong)

/-- 'sleuthlaw34.BisectNone': WHATEVER THE INPUT: true; the input reads as it did. -/
def bisectNoneSpec : ChangeSpec := { name := "bisectNone", fn := fun _ => fun
  | [d1, d2, d3] => { results := [.lit (.bool true)], args := [d1, d2, d3] }
  | _ => none }
def bisectNoneRow : OpenClaim := { program := "ytcpmnocknpalfaa", sum := "1b3683efc66ec2bc81fc2b5facb02d2d28bac9bd8ee528ffeb15c3070caedec2", func := "sleuth/sleuthlaw34.BisectNone", spec := "bisectNone", apart := false }
def BisectNoneSaid : Prop := bisectNoneRow.holds Try.pinned (OpenSpec.ofChange bisectNoneSpec)

/-- ITS FALSE NEIGHBOUR: 'it returns false'. Refute it at one input. -/
def bisectNoneWrong : ChangeSpec := { name := "bisectNone", fn := fun _ => fun
  | [d1, d2, d3] => { results := [.lit (.bool false)], args := [d1, d2, d3] }
  | _ => none }
def BisectNoneWrongFalsely : Prop := bisectNoneRow.holds Try.pinned (OpenSpec.ofChange bisectNoneWrong)

/-- 'sleuthlaw15.OrderDates': WHATEVER THE INPUT: true; the input reads as it did. -/
def orderDatesSpec : ChangeSpec := { name := "orderDates", fn := fun _ => fun
  | [d1, d2] => { results := [.lit (.bool true)], args := [d1, d2] }
  | _ => none }
def orderDatesRow : OpenClaim := { program := "ytcpmnocknpalfaa", sum := "1b3683efc66ec2bc81fc2b5facb02d2d28bac9bd8ee528ffeb15c3070caedec2", func := "sleuth/sleuthlaw15.OrderDates", spec := "orderDates", unfollowed := true, recurses := true, apart := false }
def OrderDatesSaid : Prop := orderDatesRow.holds Try.pinned (OpenSpec.ofChange orderDatesSpec)

/-- ITS FALSE NEIGHBOUR: 'it returns false'. Refute it at one input. -/
def orderDatesWrong : ChangeSpec := { name := "orderDates", fn := fun _ => fun
  | [d1, d2] => { results := [.lit (.bool false)], args := [d1, d2] }
  | _ => none }
def OrderDatesWrongFalsely : Prop := orderDatesRow.holds Try.pinned (OpenSpec.ofChange orderDatesWrong)

/-- 'sleuthlaw15.OrderTopos': WHATEVER THE INPUT: true; the input reads as it did. -/
def orderToposSpec : ChangeSpec := { name := "orderTopos", fn := fun _ => fun
  | [d1, d2] => { results := [.lit (.bool true)], args := [d1, d2] }
  | _ => none }
def orderToposRow : OpenClaim := { program := "ytcpmnocknpalfaa", sum := "1b3683efc66ec2bc81fc2b5facb02d2d28bac9bd8ee528ffeb15c3070caedec2", func := "sleuth/sleuthlaw15.OrderTopos", spec := "orderTopos", unfollowed := true, recurses := true, apart := false }
def OrderToposSaid : Prop := orderToposRow.holds Try.pinned (OpenSpec.ofChange orderToposSpec)

/-- ITS FALSE NEIGHBOUR: 'it returns false'. Refute it at one input. -/
def orderToposWrong : ChangeSpec := { name := "orderTopos", fn := fun _ => fun
  | [d1, d2] => { results := [.lit (.bool false)], args := [d1, d2] }
  | _ => none }
def OrderToposWrongFalsely : Prop := orderToposRow.holds Try.pinned (OpenSpec.ofChange orderToposWrong)

/-- 'sleuthlaw15.OrderAuthors': WHATEVER THE INPUT: true; the input reads as it did. -/
def orderAuthorsSpec : ChangeSpec := { name := "orderAuthors", fn := fun _ => fun
  | [d1, d2, d3] => { results := [.lit (.bool true)], args := [d1, d2, d3] }
  | _ => none }
def orderAuthorsRow : OpenClaim := { program := "ytcpmnocknpalfaa", sum := "1b3683efc66ec2bc81fc2b5facb02d2d28bac9bd8ee528ffeb15c3070caedec2", func := "sleuth/sleuthlaw15.OrderAuthors", spec := "orderAuthors", unfollowed := true, recurses := true, apart := false }
def OrderAuthorsSaid : Prop := orderAuthorsRow.holds Try.pinned (OpenSpec.ofChange orderAuthorsSpec)

/-- ITS FALSE NEIGHBOUR: 'it returns false'. Refute it at one input. -/
def orderAuthorsWrong : ChangeSpec := { name := "orderAuthors", fn := fun _ => fun
  | [d1, d2, d3] => { results := [.lit (.bool false)], args := [d1, d2, d3] }
  | _ => none }
def OrderAuthorsWrongFalsely : Prop := orderAuthorsRow.holds Try.pinned (OpenSpec.ofChange orderAuthorsWrong)

/-- 'sleuthlaw15.OrderPlain': WHATEVER THE INPUT: true; the input reads as it did. -/
def orderPlainSpec : ChangeSpec := { name := "orderPlain", fn := fun _ => fun
  | [d1, d2] => { results := [.lit (.bool true)], args := [d1, d2] }
  | _ => none }
def orderPlainRow : OpenClaim := { program := "ytcpmnocknpalfaa", sum := "1b3683efc66ec2bc81fc2b5facb02d2d28bac9bd8ee528ffeb15c3070caedec2", func := "sleuth/sleuthlaw15.OrderPlain", spec := "orderPlain", unfollowed := true, recurses := true, apart := false }
def OrderPlainSaid : Prop := orderPlainRow.holds Try.pinned (OpenSpec.ofChange orderPlainSpec)

/-- ITS FALSE NEIGHBOUR: 'it returns false'. Refute it at one input. -/
def orderPlainWrong : ChangeSpec := { name := "orderPlain", fn := fun _ => fun
  | [d1, d2] => { results := [.lit (.bool false)], args := [d1, d2] }
  | _ => none }
def OrderPlainWrongFalsely : Prop := orderPlainRow.holds Try.pinned (OpenSpec.ofChange orderPlainWrong)

/-- 'sleuthlaw15.OrderHolds': WHATEVER THE INPUT: true; the input reads as it did. -/
def orderHoldsSpec : ChangeSpec := { name := "orderHolds", fn := fun _ => fun
  | [d1, d2] => { results := [.lit (.bool true)], args := [d1, d2] }
  | _ => none }
def orderHoldsRow : OpenClaim := { program := "ytcpmnocknpalfaa", sum := "1b3683efc66ec2bc81fc2b5facb02d2d28bac9bd8ee528ffeb15c3070caedec2", func := "sleuth/sleuthlaw15.OrderHolds", spec := "orderHolds", unfollowed := true, recurses := true, apart := false }
def OrderHoldsSaid : Prop := orderHoldsRow.holds Try.pinned (OpenSpec.ofChange orderHoldsSpec)

/-- ITS FALSE NEIGHBOUR: 'it returns false'. Refute it at one input. -/
def orderHoldsWrong : ChangeSpec := { name := "orderHolds", fn := fun _ => fun
  | [d1, d2] => { results := [.lit (.bool false)], args := [d1, d2] }
  | _ => none }
def OrderHoldsWrongFalsely : Prop := orderHoldsRow.holds Try.pinned (OpenSpec.ofChange orderHoldsWrong)

/- THE SECOND FORM. 'bulk': how many values and letters a reading holds, each counted each time it is reached (what is shared counts as often as it is met; a slice's spare places count too). A statement '..UptoSaid' is the law's where the arguments, and the package variables that the reading takes, are together of bulk at most 1048576: NARROWER than '..Said'. Prove '..Said' where nothing that the law and all that it calls make is longer than what came in: it says more and counts as full. Else prove '..UptoSaid'. A law counts once. -/
mutual
def uptoBulk {H : Type} : DataW H → Nat
  | .lit (.string bytes) => bytes.length + 1
  | .lit _ => 1
  | .nil => 1
  | .ptr d => uptoBulk d + 1
  | .slice elems spare => uptoBulkAll elems + uptoBulkAll spare + 1
  | .agg parts => uptoBulkAll parts + 1
  | .iface _ d => uptoBulk d + 1
  | .map entries => uptoBulkEntries entries + 1
  | .held _ => 1
def uptoBulkAll {H : Type} : List (DataW H) → Nat
  | [] => 0
  | d :: r => uptoBulk d + uptoBulkAll r
def uptoBulkEntries {H : Type} : List (Lit × DataW H) → Nat
  | [] => 0
  | x :: r => uptoBulkEntry x + uptoBulkEntries r
def uptoBulkEntry {H : Type} : Lit × DataW H → Nat
  | (.string bytes, d) => bytes.length + uptoBulk d + 1
  | (_, d) => uptoBulk d + 1
 end
def uptoSmall : (H : Type) → List (DataW H) → Bool := fun _ ds => decide (uptoBulkAll ds ≤ 1048576)
def OpenSpec.upto (s : _root_.Go.ChangeSpec) : _root_.Go.OpenSpec := { _root_.Go.OpenSpec.ofChange s with cond := some uptoSmall }

/-- 'sleuthlaw14.DagBases', WHERE WHAT IT READS IS OF BULK AT MOST 1048576: true; the input reads as it did. -/
def dagBasesUptoRow : OpenClaim := { program := "ytcpmnocknpalfaa", sum := "1b3683efc66ec2bc81fc2b5facb02d2d28bac9bd8ee528ffeb15c3070caedec2", func := "sleuth/sleuthlaw14.DagBases", spec := "dagBases", apart := false, narrowed := true }
def DagBasesUptoSaid : Prop := dagBasesUptoRow.holds Try.pinned (OpenSpec.upto dagBasesSpec)

/-- 'sleuthlaw14.DagGens', WHERE WHAT IT READS IS OF BULK AT MOST 1048576: true; the input reads as it did. -/
def dagGensUptoRow : OpenClaim := { program := "ytcpmnocknpalfaa", sum := "1b3683efc66ec2bc81fc2b5facb02d2d28bac9bd8ee528ffeb15c3070caedec2", func := "sleuth/sleuthlaw14.DagGens", spec := "dagGens", apart := false, narrowed := true }
def DagGensUptoSaid : Prop := dagGensUptoRow.holds Try.pinned (OpenSpec.upto dagGensSpec)

/-- 'sleuthlaw14.DagMeets', WHERE WHAT IT READS IS OF BULK AT MOST 1048576: true; the input reads as it did. -/
def dagMeetsUptoRow : OpenClaim := { program := "ytcpmnocknpalfaa", sum := "1b3683efc66ec2bc81fc2b5facb02d2d28bac9bd8ee528ffeb15c3070caedec2", func := "sleuth/sleuthlaw14.DagMeets", spec := "dagMeets", apart := false, narrowed := true }
def DagMeetsUptoSaid : Prop := dagMeetsUptoRow.holds Try.pinned (OpenSpec.upto dagMeetsSpec)

/-- 'sleuthlaw14.DagRanges', WHERE WHAT IT READS IS OF BULK AT MOST 1048576: true; the input reads as it did. -/
def dagRangesUptoRow : OpenClaim := { program := "ytcpmnocknpalfaa", sum := "1b3683efc66ec2bc81fc2b5facb02d2d28bac9bd8ee528ffeb15c3070caedec2", func := "sleuth/sleuthlaw14.DagRanges", spec := "dagRanges", apart := false, narrowed := true }
def DagRangesUptoSaid : Prop := dagRangesUptoRow.holds Try.pinned (OpenSpec.upto dagRangesSpec)

/-- 'sleuthlaw14.DagAbove', WHERE WHAT IT READS IS OF BULK AT MOST 1048576: true; the input reads as it did. -/
def dagAboveUptoRow : OpenClaim := { program := "ytcpmnocknpalfaa", sum := "1b3683efc66ec2bc81fc2b5facb02d2d28bac9bd8ee528ffeb15c3070caedec2", func := "sleuth/sleuthlaw14.DagAbove", spec := "dagAbove", apart := false, narrowed := true }
def DagAboveUptoSaid : Prop := dagAboveUptoRow.holds Try.pinned (OpenSpec.upto dagAboveSpec)

/-- 'sleuthlaw34.BisectBest', WHERE WHAT IT READS IS OF BULK AT MOST 1048576: true; the input reads as it did. -/
def bisectBestUptoRow : OpenClaim := { program := "ytcpmnocknpalfaa", sum := "1b3683efc66ec2bc81fc2b5facb02d2d28bac9bd8ee528ffeb15c3070caedec2", func := "sleuth/sleuthlaw34.BisectBest", spec := "bisectBest", apart := false, narrowed := true }
def BisectBestUptoSaid : Prop := bisectBestUptoRow.holds Try.pinned (OpenSpec.upto bisectBestSpec)

/-- 'sleuthlaw34.BisectPlays', WHERE WHAT IT READS IS OF BULK AT MOST 1048576: true; the input reads as it did. -/
def bisectPlaysUptoRow : OpenClaim := { program := "ytcpmnocknpalfaa", sum := "1b3683efc66ec2bc81fc2b5facb02d2d28bac9bd8ee528ffeb15c3070caedec2", func := "sleuth/sleuthlaw34.BisectPlays", spec := "bisectPlays", apart := false, narrowed := true }
def BisectPlaysUptoSaid : Prop := bisectPlaysUptoRow.holds Try.pinned (OpenSpec.upto bisectPlaysSpec)

/-- 'sleuthlaw34.BisectNone', WHERE WHAT IT READS IS OF BULK AT MOST 1048576: true; the input reads as it did. -/
def bisectNoneUptoRow : OpenClaim := { program := "ytcpmnocknpalfaa", sum := "1b3683efc66ec2bc81fc2b5facb02d2d28bac9bd8ee528ffeb15c3070caedec2", func := "sleuth/sleuthlaw34.BisectNone", spec := "bisectNone", apart := false, narrowed := true }
def BisectNoneUptoSaid : Prop := bisectNoneUptoRow.holds Try.pinned (OpenSpec.upto bisectNoneSpec)

/-- 'sleuthlaw15.OrderDates', WHERE WHAT IT READS IS OF BULK AT MOST 1048576: true; the input reads as it did. -/
def orderDatesUptoRow : OpenClaim := { program := "ytcpmnocknpalfaa", sum := "1b3683efc66ec2bc81fc2b5facb02d2d28bac9bd8ee528ffeb15c3070caedec2", func := "sleuth/sleuthlaw15.OrderDates", spec := "orderDates", unfollowed := true, recurses := true, apart := false, narrowed := true }
def OrderDatesUptoSaid : Prop := orderDatesUptoRow.holds Try.pinned (OpenSpec.upto orderDatesSpec)

/-- 'sleuthlaw15.OrderTopos', WHERE WHAT IT READS IS OF BULK AT MOST 1048576: true; the input reads as it did. -/
def orderToposUptoRow : OpenClaim := { program := "ytcpmnocknpalfaa", sum := "1b3683efc66ec2bc81fc2b5facb02d2d28bac9bd8ee528ffeb15c3070caedec2", func := "sleuth/sleuthlaw15.OrderTopos", spec := "orderTopos", unfollowed := true, recurses := true, apart := false, narrowed := true }
def OrderToposUptoSaid : Prop := orderToposUptoRow.holds Try.pinned (OpenSpec.upto orderToposSpec)

/-- 'sleuthlaw15.OrderAuthors', WHERE WHAT IT READS IS OF BULK AT MOST 1048576: true; the input reads as it did. -/
def orderAuthorsUptoRow : OpenClaim := { program := "ytcpmnocknpalfaa", sum := "1b3683efc66ec2bc81fc2b5facb02d2d28bac9bd8ee528ffeb15c3070caedec2", func := "sleuth/sleuthlaw15.OrderAuthors", spec := "orderAuthors", unfollowed := true, recurses := true, apart := false, narrowed := true }
def OrderAuthorsUptoSaid : Prop := orderAuthorsUptoRow.holds Try.pinned (OpenSpec.upto orderAuthorsSpec)

/-- 'sleuthlaw15.OrderPlain', WHERE WHAT IT READS IS OF BULK AT MOST 1048576: true; the input reads as it did. -/
def orderPlainUptoRow : OpenClaim := { program := "ytcpmnocknpalfaa", sum := "1b3683efc66ec2bc81fc2b5facb02d2d28bac9bd8ee528ffeb15c3070caedec2", func := "sleuth/sleuthlaw15.OrderPlain", spec := "orderPlain", unfollowed := true, recurses := true, apart := false, narrowed := true }
def OrderPlainUptoSaid : Prop := orderPlainUptoRow.holds Try.pinned (OpenSpec.upto orderPlainSpec)

/-- 'sleuthlaw15.OrderHolds', WHERE WHAT IT READS IS OF BULK AT MOST 1048576: true; the input reads as it did. -/
def orderHoldsUptoRow : OpenClaim := { program := "ytcpmnocknpalfaa", sum := "1b3683efc66ec2bc81fc2b5facb02d2d28bac9bd8ee528ffeb15c3070caedec2", func := "sleuth/sleuthlaw15.OrderHolds", spec := "orderHolds", unfollowed := true, recurses := true, apart := false, narrowed := true }
def OrderHoldsUptoSaid : Prop := orderHoldsUptoRow.holds Try.pinned (OpenSpec.upto orderHoldsSpec)

end Rows
end Go.Proofs.Ytcpmnocknpalfaa
