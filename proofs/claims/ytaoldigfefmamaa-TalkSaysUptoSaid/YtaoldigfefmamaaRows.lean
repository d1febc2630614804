/-
  No cell of these rows narrows 'for every input' (looked for: loops, veiled, ifaces, maps, wideKeys, modest, calm, conditions, laid).
  DERIVED. THE GIVEN ROWS OF THIS SEAT. 2 by the template 'for every input the law returns true; each argument reads behind the call as it read before'; 0 by the template 'total and deterministic' (their statements: YtaoldigfefmamaaTotals.lean).
  GIVEN WITH THE SEED: the statements are not yours to turn. If you find one false, say at which input.
  Laid BY PROGRAM, IN A SANDBOX (cutbox-rows.mjs): the forced cells as the released guide's own fill.sh prints them over the translation e161030836382e22… (all of the seat's roots in one cut). By AI agents, Wed Nov 11 2026. No macro, syntax, notation, axiom, sorry.
-/
import Derived.Test.YtaoldigfefmamaaChecked
import GoSem.Claim
import GoSem.ClaimJoined
import GoSem.ClaimMapViews
import Derived.JoinedTies
import Derived.KernelRfl
namespace Go.Proofs.Ytaoldigfefmamaa
/- THE CELL 'sum', in the pinned program and in every row, IS THE sha256 OF THE DUMP (.gsa) THAT YtaoldigfefmamaaProg.lean LOADS. Nothing in Lean hashes anything: it is a label: what it is worth is what the hold of that sum in a sandbox is worth. -/
noncomputable def Try.pinned : Pinned := { name := "ytaoldigfefmamaa", sum := "e161030836382e223330202a86c383ce2ff69682eb866f263c5ef16300178308", checked := Try.checked }
namespace Rows
def none {H : Type} : Left H := { results := [], args := [] }

/-- 'roadlaw2.TalkSays': WHATEVER THE INPUT: true; the input reads as it did. -/
def talkSaysSpec : ChangeSpec := { name := "talkSays", fn := fun _ => fun
  | [d1, d2, d3] => { results := [.lit (.bool true)], args := [d1, d2, d3] }
  | _ => none }
def talkSaysRow : OpenClaim := { program := "ytaoldigfefmamaa", sum := "e161030836382e223330202a86c383ce2ff69682eb866f263c5ef16300178308", func := "roadstead/roadlaw2.TalkSays", spec := "talkSays", unfollowed := true, recurses := true, apart := false }
def TalkSaysSaid : Prop := talkSaysRow.holds Try.pinned (OpenSpec.ofChange talkSaysSpec)

/-- ITS FALSE NEIGHBOUR: 'it returns false'. Refute it at one input. -/
def talkSaysWrong : ChangeSpec := { name := "talkSays", fn := fun _ => fun
  | [d1, d2, d3] => { results := [.lit (.bool false)], args := [d1, d2, d3] }
  | _ => none }
def TalkSaysWrongFalsely : Prop := talkSaysRow.holds Try.pinned (OpenSpec.ofChange talkSaysWrong)

/-- 'roadlaw5.MarkSides': WHATEVER THE INPUT: true; the input reads as it did. -/
def markSidesSpec : ChangeSpec := { name := "markSides", fn := fun _ => fun
  | [d1, d2] => { results := [.lit (.bool true)], args := [d1, d2] }
  | _ => none }
def markSidesRow : OpenClaim := { program := "ytaoldigfefmamaa", sum := "e161030836382e223330202a86c383ce2ff69682eb866f263c5ef16300178308", func := "roadstead/roadlaw5.MarkSides", spec := "markSides", apart := false }
def MarkSidesSaid : Prop := markSidesRow.holds Try.pinned (OpenSpec.ofChange markSidesSpec)

/-- ITS FALSE NEIGHBOUR: 'it returns false'. Refute it at one input. -/
def markSidesWrong : ChangeSpec := { name := "markSides", fn := fun _ => fun
  | [d1, d2] => { results := [.lit (.bool false)], args := [d1, d2] }
  | _ => none }
def MarkSidesWrongFalsely : Prop := markSidesRow.holds Try.pinned (OpenSpec.ofChange markSidesWrong)

/- THE SECOND FORM. 'bulk': how many values and letters a reading holds, each counted each time it is reached (what is shared counts as often as it is met; a slice's spare places count too). A statement '..UptoSaid' is the law's where the arguments, and the package variables that the reading takes, are together of bulk at most 1048576: NARROWER than '..Said'. Prove '..Said' where nothing that the law and all that it calls make is longer than what came in: it says more and counts as full. Else prove '..UptoSaid'. A law counts once. -/
mutual
def uptoBulk {H : Type} : DataW H → Nat
  | .lit (.string bytes) => bytes.length + 1
  | .lit _ => 1
  | .nil => 1
  | .ptr d => uptoBulk d + 1
  | .slice elems spare => uptoBulkAll elems + uptoBulkAll spare + 1
  | .agg parts => uptoBulkAll parts + 1
  | .iface _ d => uptoBulk d + 1
  | .map entries => uptoBulkEntries entries + 1
  | .held _ => 1
def uptoBulkAll {H : Type} : List (DataW H) → Nat
  | [] => 0
  | d :: r => uptoBulk d + uptoBulkAll r
def uptoBulkEntries {H : Type} : List (Lit × DataW H) → Nat
  | [] => 0
  | x :: r => uptoBulkEntry x + uptoBulkEntries r
def uptoBulkEntry {H : Type} : Lit × DataW H → Nat
  | (.string bytes, d) => bytes.length + uptoBulk d + 1
  | (_, d) => uptoBulk d + 1
 end
def uptoSmall : (H : Type) → List (DataW H) → Bool := fun _ ds => decide (uptoBulkAll ds ≤ 1048576)
def OpenSpec.upto (s : _root_.Go.ChangeSpec) : _root_.Go.OpenSpec := { _root_.Go.OpenSpec.ofChange s with cond := some uptoSmall }

/-- 'roadlaw2.TalkSays', WHERE WHAT IT READS IS OF BULK AT MOST 1048576: true; the input reads as it did. -/
def talkSaysUptoRow : OpenClaim := { program := "ytaoldigfefmamaa", sum := "e161030836382e223330202a86c383ce2ff69682eb866f263c5ef16300178308", func := "roadstead/roadlaw2.TalkSays", spec := "talkSays", unfollowed := true, recurses := true, apart := false, narrowed := true }
def TalkSaysUptoSaid : Prop := talkSaysUptoRow.holds Try.pinned (OpenSpec.upto talkSaysSpec)

/-- 'roadlaw5.MarkSides', WHERE WHAT IT READS IS OF BULK AT MOST 1048576: true; the input reads as it did. -/
def markSidesUptoRow : OpenClaim := { program := "ytaoldigfefmamaa", sum := "e161030836382e223330202a86c383ce2ff69682eb866f263c5ef16300178308", func := "roadstead/roadlaw5.MarkSides", spec := "markSides", apart := false, narrowed := true }
def MarkSidesUptoSaid : Prop := markSidesUptoRow.holds Try.pinned (OpenSpec.upto markSidesSpec)

end Rows
end Go.Proofs.Ytaoldigfefmamaa
