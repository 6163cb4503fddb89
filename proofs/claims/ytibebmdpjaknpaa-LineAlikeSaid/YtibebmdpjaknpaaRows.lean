/-
  No cell of these rows narrows 'for every input' (looked for: loops, veiled, ifaces, maps, wideKeys, modest, calm, conditions, laid).
  DERIVED. THE GIVEN ROWS OF THIS SEAT. 3 by the template 'for every input the law returns true; each argument reads behind the call as it read before'; 0 by the template 'total and deterministic' (their statements: YtibebmdpjaknpaaTotals.lean).
  GIVEN WITH THE SEED: the statements are not yours to turn. If you find one false, say at which input.
  Laid BY PROGRAM, IN A SANDBOX (cutbox-rows.mjs): the forced cells as the released guide's own fill.sh prints them over the translation dd5ff126365cd6ee… (all of the seat's roots in one cut). By AI agents, Wed Nov 11 2026. No macro, syntax, notation, axiom, sorry.
-/
import Derived.Test.YtibebmdpjaknpaaChecked
import GoSem.Claim
import GoSem.ClaimJoined
import GoSem.ClaimMapViews
import Derived.JoinedTies
import Derived.KernelRfl
namespace Go.Proofs.Ytibebmdpjaknpaa
/- THE CELL 'sum', in the pinned program and in every row, IS THE sha256 OF THE DUMP (.gsa) THAT YtibebmdpjaknpaaProg.lean LOADS. Nothing in Lean hashes anything: it is a label: what it is worth is what the hold of that sum in a sandbox is worth. -/
noncomputable def Try.pinned : Pinned := { name := "ytibebmdpjaknpaa", sum := "dd5ff126365cd6ee3a2b30e6f4e4f4eec01a47b526f08cc27b335af219da31cf", checked := Try.checked }
namespace Rows
def none {H : Type} : Left H := { results := [], args := [] }

/-- 'sleuthlaw20.LineNumbers': WHATEVER THE INPUT: true; the input reads as it did. -/
def lineNumbersSpec : ChangeSpec := { name := "lineNumbers", fn := fun _ => fun
  | [d1, d2] => { results := [.lit (.bool true)], args := [d1, d2] }
  | _ => none }
def lineNumbersRow : OpenClaim := { program := "ytibebmdpjaknpaa", sum := "dd5ff126365cd6ee3a2b30e6f4e4f4eec01a47b526f08cc27b335af219da31cf", func := "sleuth/sleuthlaw20.LineNumbers", spec := "lineNumbers", inPlace := ["internal/bytealg.IndexByte"], unfollowed := true, recurses := true, apart := false }
def LineNumbersSaid : Prop := lineNumbersRow.holds Try.pinned (OpenSpec.ofChange lineNumbersSpec)

/-- ITS FALSE NEIGHBOUR: 'it returns false'. Refute it at one input. -/
def lineNumbersWrong : ChangeSpec := { name := "lineNumbers", fn := fun _ => fun
  | [d1, d2] => { results := [.lit (.bool false)], args := [d1, d2] }
  | _ => none }
def LineNumbersWrongFalsely : Prop := lineNumbersRow.holds Try.pinned (OpenSpec.ofChange lineNumbersWrong)

/-- 'sleuthlaw20.LineAlike': WHATEVER THE INPUT: true; the input reads as it did. -/
def lineAlikeSpec : ChangeSpec := { name := "lineAlike", fn := fun _ => fun
  | [d1, d2] => { results := [.lit (.bool true)], args := [d1, d2] }
  | _ => none }
def lineAlikeRow : OpenClaim := { program := "ytibebmdpjaknpaa", sum := "dd5ff126365cd6ee3a2b30e6f4e4f4eec01a47b526f08cc27b335af219da31cf", func := "sleuth/sleuthlaw20.LineAlike", spec := "lineAlike", inPlace := ["internal/bytealg.IndexByte"], unfollowed := true, recurses := true, apart := false }
def LineAlikeSaid : Prop := lineAlikeRow.holds Try.pinned (OpenSpec.ofChange lineAlikeSpec)

/-- ITS FALSE NEIGHBOUR: 'it returns false'. Refute it at one input. -/
def lineAlikeWrong : ChangeSpec := { name := "lineAlike", fn := fun _ => fun
  | [d1, d2] => { results := [.lit (.bool false)], args := [d1, d2] }
  | _ => none }
def LineAlikeWrongFalsely : Prop := lineAlikeRow.holds Try.pinned (OpenSpec.ofChange lineAlikeWrong)

/-- 'sleuthlaw20.LineSplits': WHATEVER THE INPUT: true; the input reads as it did. -/
def lineSplitsSpec : ChangeSpec := { name := "lineSplits", fn := fun _ => fun
  | [d] => { results := [.lit (.bool true)], args := [d] }
  | _ => none }
def lineSplitsRow : OpenClaim := { program := "ytibebmdpjaknpaa", sum := "dd5ff126365cd6ee3a2b30e6f4e4f4eec01a47b526f08cc27b335af219da31cf", func := "sleuth/sleuthlaw20.LineSplits", spec := "lineSplits", inPlace := ["internal/bytealg.IndexByte", "internal/abi.NoEscape", "internal/bytealg.MakeNoZero"], unfollowed := true, recurses := true, apart := false }
def LineSplitsSaid : Prop := lineSplitsRow.holds Try.pinned (OpenSpec.ofChange lineSplitsSpec)

/-- ITS FALSE NEIGHBOUR: 'it returns false'. Refute it at one input. -/
def lineSplitsWrong : ChangeSpec := { name := "lineSplits", fn := fun _ => fun
  | [d] => { results := [.lit (.bool false)], args := [d] }
  | _ => none }
def LineSplitsWrongFalsely : Prop := lineSplitsRow.holds Try.pinned (OpenSpec.ofChange lineSplitsWrong)

/- THE SECOND FORM. 'bulk': how many values and letters a reading holds, each counted each time it is reached (what is shared counts as often as it is met; a slice's spare places count too). A statement '..UptoSaid' is the law's where the arguments, and the package variables that the reading takes, are together of bulk at most 1048576: NARROWER than '..Said'. Prove '..Said' where nothing that the law and all that it calls make is longer than what came in: it says more and counts as full. Else prove '..UptoSaid'. A law counts once. -/
mutual
def uptoBulk {H : Type} : DataW H → Nat
  | .lit (.string bytes) => bytes.length + 1
  | .lit _ => 1
  | .nil => 1
  | .ptr d => uptoBulk d + 1
  | .slice elems spare => uptoBulkAll elems + uptoBulkAll spare + 1
  | .agg parts => uptoBulkAll parts + 1
  | .iface _ d => uptoBulk d + 1
  | .map entries => uptoBulkEntries entries + 1
  | .held _ => 1
def uptoBulkAll {H : Type} : List (DataW H) → Nat
  | [] => 0
  | d :: r => uptoBulk d + uptoBulkAll r
def uptoBulkEntries {H : Type} : List (Lit × DataW H) → Nat
  | [] => 0
  | x :: r => uptoBulkEntry x + uptoBulkEntries r
def uptoBulkEntry {H : Type} : Lit × DataW H → Nat
  | (.string bytes, d) => bytes.length + uptoBulk d + 1
  | (_, d) => uptoBulk d + 1
 end
def uptoSmall : (H : Type) → List (DataW H) → Bool := fun _ ds => decide (uptoBulkAll ds ≤ 1048576)
def OpenSpec.upto (s : _root_.Go.ChangeSpec) : _root_.Go.OpenSpec := { _root_.Go.OpenSpec.ofChange s with cond := some uptoSmall }

/-- 'sleuthlaw20.LineNumbers', WHERE WHAT IT READS IS OF BULK AT MOST 1048576: true; the input reads as it did. -/
def lineNumbersUptoRow : OpenClaim := { program := "ytibebmdpjaknpaa", sum := "dd5ff126365cd6ee3a2b30e6f4e4f4eec01a47b526f08cc27b335af219da31cf", func := "sleuth/sleuthlaw20.LineNumbers", spec := "lineNumbers", inPlace := ["internal/bytealg.IndexByte"], unfollowed := true, recurses := true, apart := false, narrowed := true }
def LineNumbersUptoSaid : Prop := lineNumbersUptoRow.holds Try.pinned (OpenSpec.upto lineNumbersSpec)

/-- 'sleuthlaw20.LineAlike', WHERE WHAT IT READS IS OF BULK AT MOST 1048576: true; the input reads as it did. -/
def lineAlikeUptoRow : OpenClaim := { program := "ytibebmdpjaknpaa", sum := "dd5ff126365cd6ee3a2b30e6f4e4f4eec01a47b526f08cc27b335af219da31cf", func := "sleuth/sleuthlaw20.LineAlike", spec := "lineAlike", inPlace := ["internal/bytealg.IndexByte"], unfollowed := true, recurses := true, apart := false, narrowed := true }
def LineAlikeUptoSaid : Prop := lineAlikeUptoRow.holds Try.pinned (OpenSpec.upto lineAlikeSpec)

/-- 'sleuthlaw20.LineSplits', WHERE WHAT IT READS IS OF BULK AT MOST 1048576: true; the input reads as it did. -/
def lineSplitsUptoRow : OpenClaim := { program := "ytibebmdpjaknpaa", sum := "dd5ff126365cd6ee3a2b30e6f4e4f4eec01a47b526f08cc27b335af219da31cf", func := "sleuth/sleuthlaw20.LineSplits", spec := "lineSplits", inPlace := ["internal/bytealg.IndexByte", "internal/abi.NoEscape", "internal/bytealg.MakeNoZero"], unfollowed := true, recurses := true, apart := false, narrowed := true }
def LineSplitsUptoSaid : Prop := lineSplitsUptoRow.holds Try.pinned (OpenSpec.upto lineSplitsSpec)

end Rows
end Go.Proofs.Ytibebmdpjaknpaa
