/-
  No cell of these rows narrows 'for every input' (looked for: loops, veiled, ifaces, maps, wideKeys, modest, calm, conditions, laid).
  DERIVED. THE GIVEN ROWS OF THIS SEAT. 5 by the template 'for every input the law returns true; each argument reads behind the call as it read before'; 0 by the template 'total and deterministic' (their statements: YtdlmdjhnigbfpaaTotals.lean).
  GIVEN WITH THE SEED: the statements are not yours to turn. If you find one false, say at which input.
  Laid BY PROGRAM, IN A SANDBOX (cutbox-rows.mjs): the forced cells as the released guide's own fill.sh prints them over the translation 8672aa73e64b4f0c… (all of the seat's roots in one cut). By AI agents, Wed Nov 11 2026. No macro, syntax, notation, axiom, sorry.
-/
import Derived.Test.YtdlmdjhnigbfpaaChecked
import GoSem.Claim
import GoSem.ClaimJoined
import GoSem.ClaimMapViews
import Derived.JoinedTies
import Derived.KernelRfl
namespace Go.Proofs.Ytdlmdjhnigbfpaa
/- THE CELL 'sum', in the pinned program and in every row, IS THE sha256 OF THE DUMP (.gsa) THAT YtdlmdjhnigbfpaaProg.lean LOADS. Nothing in Lean hashes anything: it is a label: what it is worth is what the hold of that sum in a sandbox is worth. -/
noncomputable def Try.pinned : Pinned := { name := "ytdlmdjhnigbfpaa", sum := "8672aa73e64b4f0ca48a9d852b2d9cffe0c49df6dcd8bf154bbadc431dbf210f", checked := Try.checked }
namespace Rows
def none {H : Type} : Left H := { results := [], args := [] }

/-- 'sleuthlaw21.ScriptCommon': WHATEVER THE INPUT: true; the input reads as it did. -/
def scriptCommonSpec : ChangeSpec := { name := "scriptCommon", fn := fun _ => fun
  | [d1, d2, d3] => { results := [.lit (.bool true)], args := [d1, d2, d3] }
  | _ => none }
def scriptCommonRow : OpenClaim := { program := "ytdlmdjhnigbfpaa", sum := "8672aa73e64b4f0ca48a9d852b2d9cffe0c49df6dcd8bf154bbadc431dbf210f", func := "sleuth/sleuthlaw21.ScriptCommon", spec := "scriptCommon", unfollowed := true, recurses := true, apart := false }
def ScriptCommonSaid : Prop := scriptCommonRow.holds Try.pinned (OpenSpec.ofChange scriptCommonSpec)

/-- ITS FALSE NEIGHBOUR: 'it returns false'. Refute it at one input. -/
def scriptCommonWrong : ChangeSpec := { name := "scriptCommon", fn := fun _ => fun
  | [d1, d2, d3] => { results := [.lit (.bool false)], args := [d1, d2, d3] }
  | _ => none }
def ScriptCommonWrongFalsely : Prop := scriptCommonRow.holds Try.pinned (OpenSpec.ofChange scriptCommonWrong)

/-- 'sleuthlaw21.ScriptHunks': WHATEVER THE INPUT: true; the input reads as it did. -/
def scriptHunksSpec : ChangeSpec := { name := "scriptHunks", fn := fun _ => fun
  | [d1, d2, d3] => { results := [.lit (.bool true)], args := [d1, d2, d3] }
  | _ => none }
def scriptHunksRow : OpenClaim := { program := "ytdlmdjhnigbfpaa", sum := "8672aa73e64b4f0ca48a9d852b2d9cffe0c49df6dcd8bf154bbadc431dbf210f", func := "sleuth/sleuthlaw21.ScriptHunks", spec := "scriptHunks", unfollowed := true, recurses := true, apart := false }
def ScriptHunksSaid : Prop := scriptHunksRow.holds Try.pinned (OpenSpec.ofChange scriptHunksSpec)

/-- ITS FALSE NEIGHBOUR: 'it returns false'. Refute it at one input. -/
def scriptHunksWrong : ChangeSpec := { name := "scriptHunks", fn := fun _ => fun
  | [d1, d2, d3] => { results := [.lit (.bool false)], args := [d1, d2, d3] }
  | _ => none }
def ScriptHunksWrongFalsely : Prop := scriptHunksRow.holds Try.pinned (OpenSpec.ofChange scriptHunksWrong)

/-- 'sleuthlaw21.ScriptBack': WHATEVER THE INPUT: true; the input reads as it did. -/
def scriptBackSpec : ChangeSpec := { name := "scriptBack", fn := fun _ => fun
  | [d1, d2, d3] => { results := [.lit (.bool true)], args := [d1, d2, d3] }
  | _ => none }
def scriptBackRow : OpenClaim := { program := "ytdlmdjhnigbfpaa", sum := "8672aa73e64b4f0ca48a9d852b2d9cffe0c49df6dcd8bf154bbadc431dbf210f", func := "sleuth/sleuthlaw21.ScriptBack", spec := "scriptBack", unfollowed := true, recurses := true, apart := false }
def ScriptBackSaid : Prop := scriptBackRow.holds Try.pinned (OpenSpec.ofChange scriptBackSpec)

/-- ITS FALSE NEIGHBOUR: 'it returns false'. Refute it at one input. -/
def scriptBackWrong : ChangeSpec := { name := "scriptBack", fn := fun _ => fun
  | [d1, d2, d3] => { results := [.lit (.bool false)], args := [d1, d2, d3] }
  | _ => none }
def ScriptBackWrongFalsely : Prop := scriptBackRow.holds Try.pinned (OpenSpec.ofChange scriptBackWrong)

/-- 'sleuthlaw21.ScriptApplies': WHATEVER THE INPUT: true; the input reads as it did. -/
def scriptAppliesSpec : ChangeSpec := { name := "scriptApplies", fn := fun _ => fun
  | [d1, d2] => { results := [.lit (.bool true)], args := [d1, d2] }
  | _ => none }
def scriptAppliesRow : OpenClaim := { program := "ytdlmdjhnigbfpaa", sum := "8672aa73e64b4f0ca48a9d852b2d9cffe0c49df6dcd8bf154bbadc431dbf210f", func := "sleuth/sleuthlaw21.ScriptApplies", spec := "scriptApplies", unfollowed := true, recurses := true, apart := false }
def ScriptAppliesSaid : Prop := scriptAppliesRow.holds Try.pinned (OpenSpec.ofChange scriptAppliesSpec)

/-- ITS FALSE NEIGHBOUR: 'it returns false'. Refute it at one input. -/
def scriptAppliesWrong : ChangeSpec := { name := "scriptApplies", fn := fun _ => fun
  | [d1, d2] => { results := [.lit (.bool false)], args := [d1, d2] }
  | _ => none }
def ScriptAppliesWrongFalsely : Prop := scriptAppliesRow.holds Try.pinned (OpenSpec.ofChange scriptAppliesWrong)

/-- 'sleuthlaw21.ScriptEdits': WHATEVER THE INPUT: true; the input reads as it did. -/
def scriptEditsSpec : ChangeSpec := { name := "scriptEdits", fn := fun _ => fun
  | [d] => { results := [.lit (.bool true)], args := [d] }
  | _ => none }
def scriptEditsRow : OpenClaim := { program := "ytdlmdjhnigbfpaa", sum := "8672aa73e64b4f0ca48a9d852b2d9cffe0c49df6dcd8bf154bbadc431dbf210f", func := "sleuth/sleuthlaw21.ScriptEdits", spec := "scriptEdits", unfollowed := true, recurses := true, apart := false }
def ScriptEditsSaid : Prop := scriptEditsRow.holds Try.pinned (OpenSpec.ofChange scriptEditsSpec)

/-- ITS FALSE NEIGHBOUR: 'it returns false'. Refute it at one input. -/
def scriptEditsWrong : ChangeSpec := { name := "scriptEdits", fn := fun _ => fun
  | [d] => { results := [.lit (.bool false)], args := [d] }
  | _ => none }
def ScriptEditsWrongFalsely : Prop := scriptEditsRow.holds Try.pinned (OpenSpec.ofChange scriptEditsWrong)

/- THE SECOND FORM. 'bulk': how many values and letters a reading holds, each counted each time it is reached (what is shared counts as often as it is met; a slice's spare places count too). A statement '..UptoSaid' is the law's where the arguments, and the package variables that the reading takes, are together of bulk at most 1048576: NARROWER than '..Said'. Prove '..Said' where nothing that the law and all that it calls make is longer than what came in: it says more and counts as full. Else prove '..UptoSaid'. A law counts once. -/
mutual
def uptoBulk {H : Type} : DataW H → Nat
  | .lit (.string bytes) => bytes.length + 1
  | .lit _ => 1
  | .nil => 1
  | .ptr d => uptoBulk d + 1
  | .slice elems spare => uptoBulkAll elems + uptoBulkAll spare + 1
  | .agg parts => uptoBulkAll parts + 1
  | .iface _ d => uptoBulk d + 1
  | .map entries => uptoBulkEntries entries + 1
  | .held _ => 1
def uptoBulkAll {H : Type} : List (DataW H) → Nat
  | [] => 0
  | d :: r => uptoBulk d + uptoBulkAll r
def uptoBulkEntries {H : Type} : List (Lit × DataW H) → Nat
  | [] => 0
  | x :: r => uptoBulkEntry x + uptoBulkEntries r
def uptoBulkEntry {H : Type} : Lit × DataW H → Nat
  | (.string bytes, d) => bytes.length + uptoBulk d + 1
  | (_, d) => uptoBulk d + 1
 end
def uptoSmall : (H : Type) → List (DataW H) → Bool := fun _ ds => decide (uptoBulkAll ds ≤ 1048576)
def OpenSpec.upto (s : _root_.Go.ChangeSpec) : _root_.Go.OpenSpec := { _root_.Go.OpenSpec.ofChange s with cond := some uptoSmall }

/-- 'sleuthlaw21.ScriptCommon', WHERE WHAT IT READS IS OF BULK AT MOST 1048576: true; the input reads as it did. -/
def scriptCommonUptoRow : OpenClaim := { program := "ytdlmdjhnigbfpaa", sum := "8672aa73e64b4f0ca48a9d852b2d9cffe0c49df6dcd8bf154bbadc431dbf210f", func := "sleuth/sleuthlaw21.ScriptCommon", spec := "scriptCommon", unfollowed := true, recurses := true, apart := false, narrowed := true }
def ScriptCommonUptoSaid : Prop := scriptCommonUptoRow.holds Try.pinned (OpenSpec.upto scriptCommonSpec)

/-- 'sleuthlaw21.ScriptHunks', WHERE WHAT IT READS IS OF BULK AT MOST 1048576: true; the input reads as it did. -/
def scriptHunksUptoRow : OpenClaim := { program := "ytdlmdjhnigbfpaa", sum := "8672aa73e64b4f0ca48a9d852b2d9cffe0c49df6dcd8bf154bbadc431dbf210f", func := "sleuth/sleuthlaw21.ScriptHunks", spec := "scriptHunks", unfollowed := true, recurses := true, apart := false, narrowed := true }
def ScriptHunksUptoSaid : Prop := scriptHunksUptoRow.holds Try.pinned (OpenSpec.upto scriptHunksSpec)

/-- 'sleuthlaw21.ScriptBack', WHERE WHAT IT READS IS OF BULK AT MOST 1048576: true; the input reads as it did. -/
def scriptBackUptoRow : OpenClaim := { program := "ytdlmdjhnigbfpaa", sum := "8672aa73e64b4f0ca48a9d852b2d9cffe0c49df6dcd8bf154bbadc431dbf210f", func := "sleuth/sleuthlaw21.ScriptBack", spec := "scriptBack", unfollowed := true, recurses := true, apart := false, narrowed := true }
def ScriptBackUptoSaid : Prop := scriptBackUptoRow.holds Try.pinned (OpenSpec.upto scriptBackSpec)

/-- 'sleuthlaw21.ScriptApplies', WHERE WHAT IT READS IS OF BULK AT MOST 1048576: true; the input reads as it did. -/
def scriptAppliesUptoRow : OpenClaim := { program := "ytdlmdjhnigbfpaa", sum := "8672aa73e64b4f0ca48a9d852b2d9cffe0c49df6dcd8bf154bbadc431dbf210f", func := "sleuth/sleuthlaw21.ScriptApplies", spec := "scriptApplies", unfollowed := true, recurses := true, apart := false, narrowed := true }
def ScriptAppliesUptoSaid : Prop := scriptAppliesUptoRow.holds Try.pinned (OpenSpec.upto scriptAppliesSpec)

/-- 'sleuthlaw21.ScriptEdits', WHERE WHAT IT READS IS OF BULK AT MOST 1048576: true; the input reads as it did. -/
def scriptEditsUptoRow : OpenClaim := { program := "ytdlmdjhnigbfpaa", sum := "8672aa73e64b4f0ca48a9d852b2d9cffe0c49df6dcd8bf154bbadc431dbf210f", func := "sleuth/sleuthlaw21.ScriptEdits", spec := "scriptEdits", unfollowed := true, recurses := true, apart := false, narrowed := true }
def ScriptEditsUptoSaid : Prop := scriptEditsUptoRow.holds Try.pinned (OpenSpec.upto scriptEditsSpec)

end Rows
end Go.Proofs.Ytdlmdjhnigbfpaa
