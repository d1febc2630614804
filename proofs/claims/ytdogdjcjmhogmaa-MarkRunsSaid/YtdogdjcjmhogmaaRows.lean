/-
  No cell of these rows narrows 'for every input' (looked for: loops, veiled, ifaces, maps, wideKeys, modest, calm, conditions, laid).
  DERIVED. THE GIVEN ROWS OF THIS SEAT. 5 by the template 'for every input the law returns true; each argument reads behind the call as it read before'; 0 by the template 'total and deterministic' (their statements: YtdogdjcjmhogmaaTotals.lean).
  GIVEN WITH THE SEED: the statements are not yours to turn. If you find one false, say at which input.
  Laid BY PROGRAM, IN A SANDBOX (cutbox-rows.mjs): the forced cells as the released guide's own fill.sh prints them over the translation 6b372694294979f4… (all of the seat's roots in one cut). By AI agents, Wed Nov 11 2026. No macro, syntax, notation, axiom, sorry.
-/
import Derived.Test.YtdogdjcjmhogmaaChecked
import GoSem.Claim
import GoSem.ClaimJoined
import GoSem.ClaimMapViews
import Derived.JoinedTies
import Derived.KernelRfl
namespace Go.Proofs.Ytdogdjcjmhogmaa
/- THE CELL 'sum', in the pinned program and in every row, IS THE sha256 OF THE DUMP (.gsa) THAT YtdogdjcjmhogmaaProg.lean LOADS. Nothing in Lean hashes anything: it is a label: what it is worth is what the hold of that sum in a sandbox is worth. -/
noncomputable def Try.pinned : Pinned := { name := "ytdogdjcjmhogmaa", sum := "6b372694294979f4c5b354c8468b09af33e5c9fec7082799d18383b9dba82daf", checked := Try.checked }
namespace Rows
def none {H : Type} : Left H := { results := [], args := [] }

/-- 'roadlaw5.MarkSides': WHATEVER THE INPUT: true; the input reads as it did. -/
def markSidesSpec : ChangeSpec := { name := "markSides", fn := fun _ => fun
  | [d1, d2] => { results := [.lit (.bool true)], args := [d1, d2] }
  | _ => none }
def markSidesRow : OpenClaim := { program := "ytdogdjcjmhogmaa", sum := "6b372694294979f4c5b354c8468b09af33e5c9fec7082799d18383b9dba82daf", func := "roadstead/roadlaw5.MarkSides", spec := "markSides", plainKeys := false, apart := false }
def MarkSidesSaid : Prop := markSidesRow.holds Try.pinned (OpenSpec.ofChange markSidesSpec)

/-- ITS FALSE NEIGHBOUR: 'it returns false'. Refute it at one input. -/
def markSidesWrong : ChangeSpec := { name := "markSides", fn := fun _ => fun
  | [d1, d2] => { results := [.lit (.bool false)], args := [d1, d2] }
  | _ => none }
def MarkSidesWrongFalsely : Prop := markSidesRow.holds Try.pinned (OpenSpec.ofChange markSidesWrong)

/-- 'roadlaw5.ChunkShelf': WHATEVER THE INPUT: true; the input reads as it did. -/
def chunkShelfSpec : ChangeSpec := { name := "chunkShelf", fn := fun _ => fun
  | [d] => { results := [.lit (.bool true)], args := [d] }
  | _ => none }
def chunkShelfRow : OpenClaim := { program := "ytdogdjcjmhogmaa", sum := "6b372694294979f4c5b354c8468b09af33e5c9fec7082799d18383b9dba82daf", func := "roadstead/roadlaw5.ChunkShelf", spec := "chunkShelf", plainKeys := false, apart := false }
def ChunkShelfSaid : Prop := chunkShelfRow.holds Try.pinned (OpenSpec.ofChange chunkShelfSpec)

/-- ITS FALSE NEIGHBOUR: 'it returns false'. Refute it at one input. -/
def chunkShelfWrong : ChangeSpec := { name := "chunkShelf", fn := fun _ => fun
  | [d] => { results := [.lit (.bool false)], args := [d] }
  | _ => none }
def ChunkShelfWrongFalsely : Prop := chunkShelfRow.holds Try.pinned (OpenSpec.ofChange chunkShelfWrong)

/-- 'roadlaw5.MoveRuns': WHATEVER THE INPUT: true; the input reads as it did. -/
def moveRunsSpec : ChangeSpec := { name := "moveRuns", fn := fun _ => fun
  | [d1, d2, d3] => { results := [.lit (.bool true)], args := [d1, d2, d3] }
  | _ => none }
def moveRunsRow : OpenClaim := { program := "ytdogdjcjmhogmaa", sum := "6b372694294979f4c5b354c8468b09af33e5c9fec7082799d18383b9dba82daf", func := "roadstead/roadlaw5.MoveRuns", spec := "moveRuns", unfollowed := true, recurses := true, plainKeys := false, apart := false }
def MoveRunsSaid : Prop := moveRunsRow.holds Try.pinned (OpenSpec.ofChange moveRunsSpec)

/-- ITS FALSE NEIGHBOUR: 'it returns false'. Refute it at one input. -/
def moveRunsWrong : ChangeSpec := { name := "moveRuns", fn := fun _ => fun
  | [d1, d2, d3] => { results := [.lit (.bool false)], args := [d1, d2, d3] }
  | _ => none }
def MoveRunsWrongFalsely : Prop := moveRunsRow.holds Try.pinned (OpenSpec.ofChange moveRunsWrong)

/-- 'roadlaw5.MarkRuns': WHATEVER THE INPUT: true; the input reads as it did. -/
def markRunsSpec : ChangeSpec := { name := "markRuns", fn := fun _ => fun
  | [d1, d2] => { results := [.lit (.bool true)], args := [d1, d2] }
  | _ => none }
def markRunsRow : OpenClaim := { program := "ytdogdjcjmhogmaa", sum := "6b372694294979f4c5b354c8468b09af33e5c9fec7082799d18383b9dba82daf", func := "roadstead/roadlaw5.MarkRuns", spec := "markRuns", unfollowed := true, recurses := true, plainKeys := false, apart := false }
def MarkRunsSaid : Prop := markRunsRow.holds Try.pinned (OpenSpec.ofChange markRunsSpec)

/-- ITS FALSE NEIGHBOUR: 'it returns false'. Refute it at one input. -/
def markRunsWrong : ChangeSpec := { name := "markRuns", fn := fun _ => fun
  | [d1, d2] => { results := [.lit (.bool false)], args := [d1, d2] }
  | _ => none }
def MarkRunsWrongFalsely : Prop := markRunsRow.holds Try.pinned (OpenSpec.ofChange markRunsWrong)

/-- 'roadlaw5.LayoutLays': WHATEVER THE INPUT: true; the input reads as it did. -/
def layoutLaysSpec : ChangeSpec := { name := "layoutLays", fn := fun _ => fun
  | [d1, d2] => { results := [.lit (.bool true)], args := [d1, d2] }
  | _ => none }
def layoutLaysRow : OpenClaim := { program := "ytdogdjcjmhogmaa", sum := "6b372694294979f4c5b354c8468b09af33e5c9fec7082799d18383b9dba82daf", func := "roadstead/roadlaw5.LayoutLays", spec := "layoutLays", inPlace := ["internal/bytealg.IndexByteString", "internal/bytealg.IndexString", "internal/abi.NoEscape", "internal/bytealg.MakeNoZero"], recurses := true, named := ["internal/bytealg.MaxLen"], plainKeys := false, apart := false }
def LayoutLaysSaid : Prop := layoutLaysRow.holds Try.pinned (OpenSpec.ofChange layoutLaysSpec)

/-- ITS FALSE NEIGHBOUR: 'it returns false'. Refute it at one input. -/
def layoutLaysWrong : ChangeSpec := { name := "layoutLays", fn := fun _ => fun
  | [d1, d2] => { results := [.lit (.bool false)], args := [d1, d2] }
  | _ => none }
def LayoutLaysWrongFalsely : Prop := layoutLaysRow.holds Try.pinned (OpenSpec.ofChange layoutLaysWrong)

/- THE SECOND FORM. 'bulk': how many values and letters a reading holds, each counted each time it is reached (what is shared counts as often as it is met; a slice's spare places count too). A statement '..UptoSaid' is the law's where the arguments, and the package variables that the reading takes, are together of bulk at most 1048576: NARROWER than '..Said'. Prove '..Said' where nothing that the law and all that it calls make is longer than what came in: it says more and counts as full. Else prove '..UptoSaid'. A law counts once. -/
mutual
def uptoBulk {H : Type} : DataW H → Nat
  | .lit (.string bytes) => bytes.length + 1
  | .lit _ => 1
  | .nil => 1
  | .ptr d => uptoBulk d + 1
  | .slice elems spare => uptoBulkAll elems + uptoBulkAll spare + 1
  | .agg parts => uptoBulkAll parts + 1
  | .iface _ d => uptoBulk d + 1
  | .map entries => uptoBulkEntries entries + 1
  | .held _ => 1
def uptoBulkAll {H : Type} : List (DataW H) → Nat
  | [] => 0
  | d :: r => uptoBulk d + uptoBulkAll r
def uptoBulkEntries {H : Type} : List (Lit × DataW H) → Nat
  | [] => 0
  | x :: r => uptoBulkEntry x + uptoBulkEntries r
def uptoBulkEntry {H : Type} : Lit × DataW H → Nat
  | (.string bytes, d) => bytes.length + uptoBulk d + 1
  | (_, d) => uptoBulk d + 1
 end
def uptoSmall : (H : Type) → List (DataW H) → Bool := fun _ ds => decide (uptoBulkAll ds ≤ 1048576)
def OpenSpec.upto (s : _root_.Go.ChangeSpec) : _root_.Go.OpenSpec := { _root_.Go.OpenSpec.ofChange s with cond := some uptoSmall }

/-- 'roadlaw5.MarkSides', WHERE WHAT IT READS IS OF BULK AT MOST 1048576: true; the input reads as it did. -/
def markSidesUptoRow : OpenClaim := { program := "ytdogdjcjmhogmaa", sum := "6b372694294979f4c5b354c8468b09af33e5c9fec7082799d18383b9dba82daf", func := "roadstead/roadlaw5.MarkSides", spec := "markSides", plainKeys := false, apart := false, narrowed := true }
def MarkSidesUptoSaid : Prop := markSidesUptoRow.holds Try.pinned (OpenSpec.upto markSidesSpec)

/-- 'roadlaw5.ChunkShelf', WHERE WHAT IT READS IS OF BULK AT MOST 1048576: true; the input reads as it did. -/
def chunkShelfUptoRow : OpenClaim := { program := "ytdogdjcjmhogmaa", sum := "6b372694294979f4c5b354c8468b09af33e5c9fec7082799d18383b9dba82daf", func := "roadstead/roadlaw5.ChunkShelf", spec := "chunkShelf", plainKeys := false, apart := false, narrowed := true }
def ChunkShelfUptoSaid : Prop := chunkShelfUptoRow.holds Try.pinned (OpenSpec.upto chunkShelfSpec)

/-- 'roadlaw5.MoveRuns', WHERE WHAT IT READS IS OF BULK AT MOST 1048576: true; the input reads as it did. -/
def moveRunsUptoRow : OpenClaim := { program := "ytdogdjcjmhogmaa", sum := "6b372694294979f4c5b354c8468b09af33e5c9fec7082799d18383b9dba82daf", func := "roadstead/roadlaw5.MoveRuns", spec := "moveRuns", unfollowed := true, recurses := true, plainKeys := false, apart := false, narrowed := true }
def MoveRunsUptoSaid : Prop := moveRunsUptoRow.holds Try.pinned (OpenSpec.upto moveRunsSpec)

/-- 'roadlaw5.MarkRuns', WHERE WHAT IT READS IS OF BULK AT MOST 1048576: true; the input reads as it did. -/
def markRunsUptoRow : OpenClaim := { program := "ytdogdjcjmhogmaa", sum := "6b372694294979f4c5b354c8468b09af33e5c9fec7082799d18383b9dba82daf", func := "roadstead/roadlaw5.MarkRuns", spec := "markRuns", unfollowed := true, recurses := true, plainKeys := false, apart := false, narrowed := true }
def MarkRunsUptoSaid : Prop := markRunsUptoRow.holds Try.pinned (OpenSpec.upto markRunsSpec)

/-- 'roadlaw5.LayoutLays', WHERE WHAT IT READS IS OF BULK AT MOST 1048576: true; the input reads as it did. -/
def layoutLaysUptoRow : OpenClaim := { program := "ytdogdjcjmhogmaa", sum := "6b372694294979f4c5b354c8468b09af33e5c9fec7082799d18383b9dba82daf", func := "roadstead/roadlaw5.LayoutLays", spec := "layoutLays", inPlace := ["internal/bytealg.IndexByteString", "internal/bytealg.IndexString", "internal/abi.NoEscape", "internal/bytealg.MakeNoZero"], recurses := true, named := ["internal/bytealg.MaxLen"], plainKeys := false, apart := false, narrowed := true }
def LayoutLaysUptoSaid : Prop := layoutLaysUptoRow.holds Try.pinned (OpenSpec.upto layoutLaysSpec)

end Rows
end Go.Proofs.Ytdogdjcjmhogmaa
