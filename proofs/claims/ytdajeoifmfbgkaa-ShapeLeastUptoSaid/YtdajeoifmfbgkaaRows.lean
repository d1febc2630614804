/-
  NARROWER THAN 'FOR EVERY INPUT', by the rows' own cells (each row's printed sentence says how): RenewBack: loops · ShapeFits: loops · RenewTurns: loops · SolveChecks: loops · PageTypes: loops · ShapeLeast: loops · ShapeSame: loops.
  DERIVED. THE GIVEN ROWS OF THIS SEAT. 12 by the template 'for every input the law returns true; each argument reads behind the call as it read before'; 0 by the template 'total and deterministic' (their statements: YtdajeoifmfbgkaaTotals.lean).
  GIVEN WITH THE SEED: the statements are not yours to turn. If you find one false, say at which input.
  Laid BY PROGRAM, IN A SANDBOX (cutbox-rows.mjs): the forced cells as the released guide's own fill.sh prints them over the translation 014d3bbc9cefdb19… (all of the seat's roots in one cut). By AI agents, Wed Nov 11 2026. No macro, syntax, notation, axiom, sorry.
-/
import Derived.Test.YtdajeoifmfbgkaaChecked
import GoSem.Claim
import GoSem.ClaimJoined
import GoSem.ClaimMapViews
import Derived.JoinedTies
import Derived.KernelRfl
namespace Go.Proofs.Ytdajeoifmfbgkaa
/- THE CELL 'sum', in the pinned program and in every row, IS THE sha256 OF THE DUMP (.gsa) THAT YtdajeoifmfbgkaaProg.lean LOADS. Nothing in Lean hashes anything: it is a label: what it is worth is what the hold of that sum in a sandbox is worth. -/
noncomputable def Try.pinned : Pinned := { name := "ytdajeoifmfbgkaa", sum := "014d3bbc9cefdb1975fe4dd2d71b17befc11bd87fcb1b47fdc034b95cbfa341d", checked := Try.checked }
namespace Rows
def none {H : Type} : Left H := { results := [], args := [] }

/-- 'roadlaw5.ChunkCuts': WHATEVER THE INPUT: true; the input reads as it did. -/
def chunkCutsSpec : ChangeSpec := { name := "chunkCuts", fn := fun _ => fun
  | [d1, d2] => { results := [.lit (.bool true)], args := [d1, d2] }
  | _ => none }
def chunkCutsRow : OpenClaim := { program := "ytdajeoifmfbgkaa", sum := "014d3bbc9cefdb1975fe4dd2d71b17befc11bd87fcb1b47fdc034b95cbfa341d", func := "roadstead/roadlaw5.ChunkCuts", spec := "chunkCuts", unfollowed := true, recurses := true, plainKeys := false, apart := false }
def ChunkCutsSaid : Prop := chunkCutsRow.holds Try.pinned (OpenSpec.ofChange chunkCutsSpec)

/-- ITS FALSE NEIGHBOUR: 'it returns false'. Refute it at one input. -/
def chunkCutsWrong : ChangeSpec := { name := "chunkCuts", fn := fun _ => fun
  | [d1, d2] => { results := [.lit (.bool false)], args := [d1, d2] }
  | _ => none }
def ChunkCutsWrongFalsely : Prop := chunkCutsRow.holds Try.pinned (OpenSpec.ofChange chunkCutsWrong)

/-- 'roadlaw5.RenewBack': WHATEVER THE INPUT: true; the input reads as it did. -/
def renewBackSpec : ChangeSpec := { name := "renewBack", fn := fun _ => fun
  | [d1, d2, d3] => { results := [.lit (.bool true)], args := [d1, d2, d3] }
  | _ => none }
def renewBackRow : OpenClaim := { program := "ytdajeoifmfbgkaa", sum := "014d3bbc9cefdb1975fe4dd2d71b17befc11bd87fcb1b47fdc034b95cbfa341d", func := "roadstead/roadlaw5.RenewBack", spec := "renewBack", unfollowed := true, recurses := true, loops := true, plainKeys := false, apart := false }
def RenewBackSaid : Prop := renewBackRow.holds Try.pinned (OpenSpec.ofChange renewBackSpec)

/-- ITS FALSE NEIGHBOUR: 'it returns false'. Refute it at one input. -/
def renewBackWrong : ChangeSpec := { name := "renewBack", fn := fun _ => fun
  | [d1, d2, d3] => { results := [.lit (.bool false)], args := [d1, d2, d3] }
  | _ => none }
def RenewBackWrongFalsely : Prop := renewBackRow.holds Try.pinned (OpenSpec.ofChange renewBackWrong)

/-- 'roadlaw5.MarkSides': WHATEVER THE INPUT: true; the input reads as it did. -/
def markSidesSpec : ChangeSpec := { name := "markSides", fn := fun _ => fun
  | [d1, d2] => { results := [.lit (.bool true)], args := [d1, d2] }
  | _ => none }
def markSidesRow : OpenClaim := { program := "ytdajeoifmfbgkaa", sum := "014d3bbc9cefdb1975fe4dd2d71b17befc11bd87fcb1b47fdc034b95cbfa341d", func := "roadstead/roadlaw5.MarkSides", spec := "markSides", plainKeys := false, apart := false }
def MarkSidesSaid : Prop := markSidesRow.holds Try.pinned (OpenSpec.ofChange markSidesSpec)

/-- ITS FALSE NEIGHBOUR: 'it returns false'. Refute it at one input. -/
def markSidesWrong : ChangeSpec := { name := "markSides", fn := fun _ => fun
  | [d1, d2] => { results := [.lit (.bool false)], args := [d1, d2] }
  | _ => none }
def MarkSidesWrongFalsely : Prop := markSidesRow.holds Try.pinned (OpenSpec.ofChange markSidesWrong)

/-- 'roadlaw5.ShapeFits': WHATEVER THE INPUT: true; the input reads as it did. -/
def shapeFitsSpec : ChangeSpec := { name := "shapeFits", fn := fun _ => fun
  | [d1, d2, d3] => { results := [.lit (.bool true)], args := [d1, d2, d3] }
  | _ => none }
def shapeFitsRow : OpenClaim := { program := "ytdajeoifmfbgkaa", sum := "014d3bbc9cefdb1975fe4dd2d71b17befc11bd87fcb1b47fdc034b95cbfa341d", func := "roadstead/roadlaw5.ShapeFits", spec := "shapeFits", unfollowed := true, recurses := true, loops := true, plainKeys := false, apart := false }
def ShapeFitsSaid : Prop := shapeFitsRow.holds Try.pinned (OpenSpec.ofChange shapeFitsSpec)

/-- ITS FALSE NEIGHBOUR: 'it returns false'. Refute it at one input. -/
def shapeFitsWrong : ChangeSpec := { name := "shapeFits", fn := fun _ => fun
  | [d1, d2, d3] => { results := [.lit (.bool false)], args := [d1, d2, d3] }
  | _ => none }
def ShapeFitsWrongFalsely : Prop := shapeFitsRow.holds Try.pinned (OpenSpec.ofChange shapeFitsWrong)

/-- 'roadlaw5.RenewTurns': WHATEVER THE INPUT: true; the input reads as it did. -/
def renewTurnsSpec : ChangeSpec := { name := "renewTurns", fn := fun _ => fun
  | [d1, d2] => { results := [.lit (.bool true)], args := [d1, d2] }
  | _ => none }
def renewTurnsRow : OpenClaim := { program := "ytdajeoifmfbgkaa", sum := "014d3bbc9cefdb1975fe4dd2d71b17befc11bd87fcb1b47fdc034b95cbfa341d", func := "roadstead/roadlaw5.RenewTurns", spec := "renewTurns", unfollowed := true, recurses := true, loops := true, plainKeys := false, apart := false }
def RenewTurnsSaid : Prop := renewTurnsRow.holds Try.pinned (OpenSpec.ofChange renewTurnsSpec)

/-- ITS FALSE NEIGHBOUR: 'it returns false'. Refute it at one input. -/
def renewTurnsWrong : ChangeSpec := { name := "renewTurns", fn := fun _ => fun
  | [d1, d2] => { results := [.lit (.bool false)], args := [d1, d2] }
  | _ => none }
def RenewTurnsWrongFalsely : Prop := renewTurnsRow.holds Try.pinned (OpenSpec.ofChange renewTurnsWrong)

/-- 'roadlaw5.SolveChecks': WHATEVER THE INPUT: true; the input reads as it did. -/
def solveChecksSpec : ChangeSpec := { name := "solveChecks", fn := fun _ => fun
  | [d1, d2, d3] => { results := [.lit (.bool true)], args := [d1, d2, d3] }
  | _ => none }
def solveChecksRow : OpenClaim := { program := "ytdajeoifmfbgkaa", sum := "014d3bbc9cefdb1975fe4dd2d71b17befc11bd87fcb1b47fdc034b95cbfa341d", func := "roadstead/roadlaw5.SolveChecks", spec := "solveChecks", loops := true, plainKeys := false, apart := false }
def SolveChecksSaid : Prop := solveChecksRow.holds Try.pinned (OpenSpec.ofChange solveChecksSpec)

/-- ITS FALSE NEIGHBOUR: 'it returns false'. Refute it at one input. -/
def solveChecksWrong : ChangeSpec := { name := "solveChecks", fn := fun _ => fun
  | [d1, d2, d3] => { results := [.lit (.bool false)], args := [d1, d2, d3] }
  | _ => none }
def SolveChecksWrongFalsely : Prop := solveChecksRow.holds Try.pinned (OpenSpec.ofChange solveChecksWrong)

/-- 'roadlaw5.PageTypes': WHATEVER THE INPUT: true; the input reads as it did. -/
def pageTypesSpec : ChangeSpec := { name := "pageTypes", fn := fun _ => fun
  | [d] => { results := [.lit (.bool true)], args := [d] }
  | _ => none }
def pageTypesRow : OpenClaim := { program := "ytdajeoifmfbgkaa", sum := "014d3bbc9cefdb1975fe4dd2d71b17befc11bd87fcb1b47fdc034b95cbfa341d", func := "roadstead/roadlaw5.PageTypes", spec := "pageTypes", inPlace := ["internal/abi.NoEscape", "internal/bytealg.MakeNoZero"], unfollowed := true, recurses := true, loops := true, plainKeys := false, apart := false }
def PageTypesSaid : Prop := pageTypesRow.holds Try.pinned (OpenSpec.ofChange pageTypesSpec)

/-- ITS FALSE NEIGHBOUR: 'it returns false'. Refute it at one input. -/
def pageTypesWrong : ChangeSpec := { name := "pageTypes", fn := fun _ => fun
  | [d] => { results := [.lit (.bool false)], args := [d] }
  | _ => none }
def PageTypesWrongFalsely : Prop := pageTypesRow.holds Try.pinned (OpenSpec.ofChange pageTypesWrong)

/-- 'roadlaw5.ShapeLeast': WHATEVER THE INPUT: true; the input reads as it did. -/
def shapeLeastSpec : ChangeSpec := { name := "shapeLeast", fn := fun _ => fun
  | [d1, d2] => { results := [.lit (.bool true)], args := [d1, d2] }
  | _ => none }
def shapeLeastRow : OpenClaim := { program := "ytdajeoifmfbgkaa", sum := "014d3bbc9cefdb1975fe4dd2d71b17befc11bd87fcb1b47fdc034b95cbfa341d", func := "roadstead/roadlaw5.ShapeLeast", spec := "shapeLeast", unfollowed := true, recurses := true, loops := true, plainKeys := false, apart := false }
def ShapeLeastSaid : Prop := shapeLeastRow.holds Try.pinned (OpenSpec.ofChange shapeLeastSpec)

/-- ITS FALSE NEIGHBOUR: 'it returns false'. Refute it at one input. -/
def shapeLeastWrong : ChangeSpec := { name := "shapeLeast", fn := fun _ => fun
  | [d1, d2] => { results := [.lit (.bool false)], args := [d1, d2] }
  | _ => none }
def ShapeLeastWrongFalsely : Prop := shapeLeastRow.holds Try.pinned (OpenSpec.ofChange shapeLeastWrong)

/-- 'roadlaw5.SolveRight': WHATEVER THE INPUT: true; the input reads as it did. -/
def solveRightSpec : ChangeSpec := { name := "solveRight", fn := fun _ => fun
  | [d1, d2, d3] => { results := [.lit (.bool true)], args := [d1, d2, d3] }
  | _ => none }
def solveRightRow : OpenClaim := { program := "ytdajeoifmfbgkaa", sum := "014d3bbc9cefdb1975fe4dd2d71b17befc11bd87fcb1b47fdc034b95cbfa341d", func := "roadstead/roadlaw5.SolveRight", spec := "solveRight", unfollowed := true, recurses := true, plainKeys := false, apart := false }
def SolveRightSaid : Prop := solveRightRow.holds Try.pinned (OpenSpec.ofChange solveRightSpec)

/-- ITS FALSE NEIGHBOUR: 'it returns false'. Refute it at one input. -/
def solveRightWrong : ChangeSpec := { name := "solveRight", fn := fun _ => fun
  | [d1, d2, d3] => { results := [.lit (.bool false)], args := [d1, d2, d3] }
  | _ => none }
def SolveRightWrongFalsely : Prop := solveRightRow.holds Try.pinned (OpenSpec.ofChange solveRightWrong)

/-- 'roadlaw5.ChunkShelf': WHATEVER THE INPUT: true; the input reads as it did. -/
def chunkShelfSpec : ChangeSpec := { name := "chunkShelf", fn := fun _ => fun
  | [d] => { results := [.lit (.bool true)], args := [d] }
  | _ => none }
def chunkShelfRow : OpenClaim := { program := "ytdajeoifmfbgkaa", sum := "014d3bbc9cefdb1975fe4dd2d71b17befc11bd87fcb1b47fdc034b95cbfa341d", func := "roadstead/roadlaw5.ChunkShelf", spec := "chunkShelf", plainKeys := false, apart := false }
def ChunkShelfSaid : Prop := chunkShelfRow.holds Try.pinned (OpenSpec.ofChange chunkShelfSpec)

/-- ITS FALSE NEIGHBOUR: 'it returns false'. Refute it at one input. -/
def chunkShelfWrong : ChangeSpec := { name := "chunkShelf", fn := fun _ => fun
  | [d] => { results := [.lit (.bool false)], args := [d] }
  | _ => none }
def ChunkShelfWrongFalsely : Prop := chunkShelfRow.holds Try.pinned (OpenSpec.ofChange chunkShelfWrong)

/-- 'roadlaw5.ShapeSame': WHATEVER THE INPUT: true; the input reads as it did. -/
def shapeSameSpec : ChangeSpec := { name := "shapeSame", fn := fun _ => fun
  | [d1, d2, d3, d4] => { results := [.lit (.bool true)], args := [d1, d2, d3, d4] }
  | _ => none }
def shapeSameRow : OpenClaim := { program := "ytdajeoifmfbgkaa", sum := "014d3bbc9cefdb1975fe4dd2d71b17befc11bd87fcb1b47fdc034b95cbfa341d", func := "roadstead/roadlaw5.ShapeSame", spec := "shapeSame", unfollowed := true, recurses := true, loops := true, plainKeys := false, apart := false }
def ShapeSameSaid : Prop := shapeSameRow.holds Try.pinned (OpenSpec.ofChange shapeSameSpec)

/-- ITS FALSE NEIGHBOUR: 'it returns false'. Refute it at one input. -/
def shapeSameWrong : ChangeSpec := { name := "shapeSame", fn := fun _ => fun
  | [d1, d2, d3, d4] => { results := [.lit (.bool false)], args := [d1, d2, d3, d4] }
  | _ => none }
def ShapeSameWrongFalsely : Prop := shapeSameRow.holds Try.pinned (OpenSpec.ofChange shapeSameWrong)

/-- 'roadlaw5.MoveRuns': WHATEVER THE INPUT: true; the input reads as it did. -/
def moveRunsSpec : ChangeSpec := { name := "moveRuns", fn := fun _ => fun
  | [d1, d2, d3] => { results := [.lit (.bool true)], args := [d1, d2, d3] }
  | _ => none }
def moveRunsRow : OpenClaim := { program := "ytdajeoifmfbgkaa", sum := "014d3bbc9cefdb1975fe4dd2d71b17befc11bd87fcb1b47fdc034b95cbfa341d", func := "roadstead/roadlaw5.MoveRuns", spec := "moveRuns", unfollowed := true, recurses := true, plainKeys := false, apart := false }
def MoveRunsSaid : Prop := moveRunsRow.holds Try.pinned (OpenSpec.ofChange moveRunsSpec)

/-- ITS FALSE NEIGHBOUR: 'it returns false'. Refute it at one input. -/
def moveRunsWrong : ChangeSpec := { name := "moveRuns", fn := fun _ => fun
  | [d1, d2, d3] => { results := [.lit (.bool false)], args := [d1, d2, d3] }
  | _ => none }
def MoveRunsWrongFalsely : Prop := moveRunsRow.holds Try.pinned (OpenSpec.ofChange moveRunsWrong)

/- THE SECOND FORM. 'bulk': how many values and letters a reading holds, each counted each time it is reached (what is shared counts as often as it is met; a slice's spare places count too). A statement '..UptoSaid' is the law's where the arguments, and the package variables that the reading takes, are together of bulk at most 1048576: NARROWER than '..Said'. Prove '..Said' where nothing that the law and all that it calls make is longer than what came in: it says more and counts as full. Else prove '..UptoSaid'. A law counts once. -/
mutual
def uptoBulk {H : Type} : DataW H → Nat
  | .lit (.string bytes) => bytes.length + 1
  | .lit _ => 1
  | .nil => 1
  | .ptr d => uptoBulk d + 1
  | .slice elems spare => uptoBulkAll elems + uptoBulkAll spare + 1
  | .agg parts => uptoBulkAll parts + 1
  | .iface _ d => uptoBulk d + 1
  | .map entries => uptoBulkEntries entries + 1
  | .held _ => 1
def uptoBulkAll {H : Type} : List (DataW H) → Nat
  | [] => 0
  | d :: r => uptoBulk d + uptoBulkAll r
def uptoBulkEntries {H : Type} : List (Lit × DataW H) → Nat
  | [] => 0
  | x :: r => uptoBulkEntry x + uptoBulkEntries r
def uptoBulkEntry {H : Type} : Lit × DataW H → Nat
  | (.string bytes, d) => bytes.length + uptoBulk d + 1
  | (_, d) => uptoBulk d + 1
 end
def uptoSmall : (H : Type) → List (DataW H) → Bool := fun _ ds => decide (uptoBulkAll ds ≤ 1048576)
def OpenSpec.upto (s : _root_.Go.ChangeSpec) : _root_.Go.OpenSpec := { _root_.Go.OpenSpec.ofChange s with cond := some uptoSmall }

/-- 'roadlaw5.ChunkCuts', WHERE WHAT IT READS IS OF BULK AT MOST 1048576: true; the input reads as it did. -/
def chunkCutsUptoRow : OpenClaim := { program := "ytdajeoifmfbgkaa", sum := "014d3bbc9cefdb1975fe4dd2d71b17befc11bd87fcb1b47fdc034b95cbfa341d", func := "roadstead/roadlaw5.ChunkCuts", spec := "chunkCuts", unfollowed := true, recurses := true, plainKeys := false, apart := false, narrowed := true }
def ChunkCutsUptoSaid : Prop := chunkCutsUptoRow.holds Try.pinned (OpenSpec.upto chunkCutsSpec)

/-- 'roadlaw5.RenewBack', WHERE WHAT IT READS IS OF BULK AT MOST 1048576: true; the input reads as it did. -/
def renewBackUptoRow : OpenClaim := { program := "ytdajeoifmfbgkaa", sum := "014d3bbc9cefdb1975fe4dd2d71b17befc11bd87fcb1b47fdc034b95cbfa341d", func := "roadstead/roadlaw5.RenewBack", spec := "renewBack", unfollowed := true, recurses := true, loops := true, plainKeys := false, apart := false, narrowed := true }
def RenewBackUptoSaid : Prop := renewBackUptoRow.holds Try.pinned (OpenSpec.upto renewBackSpec)

/-- 'roadlaw5.MarkSides', WHERE WHAT IT READS IS OF BULK AT MOST 1048576: true; the input reads as it did. -/
def markSidesUptoRow : OpenClaim := { program := "ytdajeoifmfbgkaa", sum := "014d3bbc9cefdb1975fe4dd2d71b17befc11bd87fcb1b47fdc034b95cbfa341d", func := "roadstead/roadlaw5.MarkSides", spec := "markSides", plainKeys := false, apart := false, narrowed := true }
def MarkSidesUptoSaid : Prop := markSidesUptoRow.holds Try.pinned (OpenSpec.upto markSidesSpec)

/-- 'roadlaw5.ShapeFits', WHERE WHAT IT READS IS OF BULK AT MOST 1048576: true; the input reads as it did. -/
def shapeFitsUptoRow : OpenClaim := { program := "ytdajeoifmfbgkaa", sum := "014d3bbc9cefdb1975fe4dd2d71b17befc11bd87fcb1b47fdc034b95cbfa341d", func := "roadstead/roadlaw5.ShapeFits", spec := "shapeFits", unfollowed := true, recurses := true, loops := true, plainKeys := false, apart := false, narrowed := true }
def ShapeFitsUptoSaid : Prop := shapeFitsUptoRow.holds Try.pinned (OpenSpec.upto shapeFitsSpec)

/-- 'roadlaw5.RenewTurns', WHERE WHAT IT READS IS OF BULK AT MOST 1048576: true; the input reads as it did. -/
def renewTurnsUptoRow : OpenClaim := { program := "ytdajeoifmfbgkaa", sum := "014d3bbc9cefdb1975fe4dd2d71b17befc11bd87fcb1b47fdc034b95cbfa341d", func := "roadstead/roadlaw5.RenewTurns", spec := "renewTurns", unfollowed := true, recurses := true, loops := true, plainKeys := false, apart := false, narrowed := true }
def RenewTurnsUptoSaid : Prop := renewTurnsUptoRow.holds Try.pinned (OpenSpec.upto renewTurnsSpec)

/-- 'roadlaw5.SolveChecks', WHERE WHAT IT READS IS OF BULK AT MOST 1048576: true; the input reads as it did. -/
def solveChecksUptoRow : OpenClaim := { program := "ytdajeoifmfbgkaa", sum := "014d3bbc9cefdb1975fe4dd2d71b17befc11bd87fcb1b47fdc034b95cbfa341d", func := "roadstead/roadlaw5.SolveChecks", spec := "solveChecks", loops := true, plainKeys := false, apart := false, narrowed := true }
def SolveChecksUptoSaid : Prop := solveChecksUptoRow.holds Try.pinned (OpenSpec.upto solveChecksSpec)

/-- 'roadlaw5.PageTypes', WHERE WHAT IT READS IS OF BULK AT MOST 1048576: true; the input reads as it did. -/
def pageTypesUptoRow : OpenClaim := { program := "ytdajeoifmfbgkaa", sum := "014d3bbc9cefdb1975fe4dd2d71b17befc11bd87fcb1b47fdc034b95cbfa341d", func := "roadstead/roadlaw5.PageTypes", spec := "pageTypes", inPlace := ["internal/abi.NoEscape", "internal/bytealg.MakeNoZero"], unfollowed := true, recurses := true, loops := true, plainKeys := false, apart := false, narrowed := true }
def PageTypesUptoSaid : Prop := pageTypesUptoRow.holds Try.pinned (OpenSpec.upto pageTypesSpec)

/-- 'roadlaw5.ShapeLeast', WHERE WHAT IT READS IS OF BULK AT MOST 1048576: true; the input reads as it did. -/
def shapeLeastUptoRow : OpenClaim := { program := "ytdajeoifmfbgkaa", sum := "014d3bbc9cefdb1975fe4dd2d71b17befc11bd87fcb1b47fdc034b95cbfa341d", func := "roadstead/roadlaw5.ShapeLeast", spec := "shapeLeast", unfollowed := true, recurses := true, loops := true, plainKeys := false, apart := false, narrowed := true }
def ShapeLeastUptoSaid : Prop := shapeLeastUptoRow.holds Try.pinned (OpenSpec.upto shapeLeastSpec)

/-- 'roadlaw5.SolveRight', WHERE WHAT IT READS IS OF BULK AT MOST 1048576: true; the input reads as it did. -/
def solveRightUptoRow : OpenClaim := { program := "ytdajeoifmfbgkaa", sum := "014d3bbc9cefdb1975fe4dd2d71b17befc11bd87fcb1b47fdc034b95cbfa341d", func := "roadstead/roadlaw5.SolveRight", spec := "solveRight", unfollowed := true, recurses := true, plainKeys := false, apart := false, narrowed := true }
def SolveRightUptoSaid : Prop := solveRightUptoRow.holds Try.pinned (OpenSpec.upto solveRightSpec)

/-- 'roadlaw5.ChunkShelf', WHERE WHAT IT READS IS OF BULK AT MOST 1048576: true; the input reads as it did. -/
def chunkShelfUptoRow : OpenClaim := { program := "ytdajeoifmfbgkaa", sum := "014d3bbc9cefdb1975fe4dd2d71b17befc11bd87fcb1b47fdc034b95cbfa341d", func := "roadstead/roadlaw5.ChunkShelf", spec := "chunkShelf", plainKeys := false, apart := false, narrowed := true }
def ChunkShelfUptoSaid : Prop := chunkShelfUptoRow.holds Try.pinned (OpenSpec.upto chunkShelfSpec)

/-- 'roadlaw5.ShapeSame', WHERE WHAT IT READS IS OF BULK AT MOST 1048576: true; the input reads as it did. -/
def shapeSameUptoRow : OpenClaim := { program := "ytdajeoifmfbgkaa", sum := "014d3bbc9cefdb1975fe4dd2d71b17befc11bd87fcb1b47fdc034b95cbfa341d", func := "roadstead/roadlaw5.ShapeSame", spec := "shapeSame", unfollowed := true, recurses := true, loops := true, plainKeys := false, apart := false, narrowed := true }
def ShapeSameUptoSaid : Prop := shapeSameUptoRow.holds Try.pinned (OpenSpec.upto shapeSameSpec)

/-- 'roadlaw5.MoveRuns', WHERE WHAT IT READS IS OF BULK AT MOST 1048576: true; the input reads as it did. -/
def moveRunsUptoRow : OpenClaim := { program := "ytdajeoifmfbgkaa", sum := "014d3bbc9cefdb1975fe4dd2d71b17befc11bd87fcb1b47fdc034b95cbfa341d", func := "roadstead/roadlaw5.MoveRuns", spec := "moveRuns", unfollowed := true, recurses := true, plainKeys := false, apart := false, narrowed := true }
def MoveRunsUptoSaid : Prop := moveRunsUptoRow.holds Try.pinned (OpenSpec.upto moveRunsSpec)

end Rows
end Go.Proofs.Ytdajeoifmfbgkaa
