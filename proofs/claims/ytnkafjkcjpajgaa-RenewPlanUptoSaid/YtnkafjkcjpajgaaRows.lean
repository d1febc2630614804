/-
  NARROWER THAN 'FOR EVERY INPUT', by the rows' own cells (each row's printed sentence says how): RenewPlan: loops.
  DERIVED. THE GIVEN ROWS OF THIS SEAT. 6 by the template 'for every input the law returns true; each argument reads behind the call as it read before'; 0 by the template 'total and deterministic' (their statements: YtnkafjkcjpajgaaTotals.lean).
  GIVEN WITH THE SEED: the statements are not yours to turn. If you find one false, say at which input.
  Laid BY PROGRAM, IN A SANDBOX (cutbox-rows.mjs): the forced cells as the released guide's own fill.sh prints them over the translation a4ef360f6a51bd90… (all of the seat's roots in one cut). By AI agents, Wed Nov 11 2026. No macro, syntax, notation, axiom, sorry.
-/
import Derived.Test.YtnkafjkcjpajgaaChecked
import GoSem.Claim
import GoSem.ClaimJoined
import GoSem.ClaimMapViews
import Derived.JoinedTies
import Derived.KernelRfl
namespace Go.Proofs.Ytnkafjkcjpajgaa
/- THE CELL 'sum', in the pinned program and in every row, IS THE sha256 OF THE DUMP (.gsa) THAT YtnkafjkcjpajgaaProg.lean LOADS. Nothing in Lean hashes anything: it is a label: what it is worth is what the hold of that sum in a sandbox is worth. -/
noncomputable def Try.pinned : Pinned := { name := "ytnkafjkcjpajgaa", sum := "a4ef360f6a51bd9002e6be168c8e56d135d79fe09915eda93380fbb01d56ef9c", checked := Try.checked }
namespace Rows
def none {H : Type} : Left H := { results := [], args := [] }

/-- 'roadlaw5.VersionSets': WHATEVER THE INPUT: true; the input reads as it did. -/
def versionSetsSpec : ChangeSpec := { name := "versionSets", fn := fun _ => fun
  | [d1, d2] => { results := [.lit (.bool true)], args := [d1, d2] }
  | _ => none }
def versionSetsRow : OpenClaim := { program := "ytnkafjkcjpajgaa", sum := "a4ef360f6a51bd9002e6be168c8e56d135d79fe09915eda93380fbb01d56ef9c", func := "roadstead/roadlaw5.VersionSets", spec := "versionSets", unfollowed := true, recurses := true, apart := false }
def VersionSetsSaid : Prop := versionSetsRow.holds Try.pinned (OpenSpec.ofChange versionSetsSpec)

/-- ITS FALSE NEIGHBOUR: 'it returns false'. Refute it at one input. -/
def versionSetsWrong : ChangeSpec := { name := "versionSets", fn := fun _ => fun
  | [d1, d2] => { results := [.lit (.bool false)], args := [d1, d2] }
  | _ => none }
def VersionSetsWrongFalsely : Prop := versionSetsRow.holds Try.pinned (OpenSpec.ofChange versionSetsWrong)

/-- 'roadlaw5.VersionAlgebra': WHATEVER THE INPUT: true; the input reads as it did. -/
def versionAlgebraSpec : ChangeSpec := { name := "versionAlgebra", fn := fun _ => fun
  | [d1, d2] => { results := [.lit (.bool true)], args := [d1, d2] }
  | _ => none }
def versionAlgebraRow : OpenClaim := { program := "ytnkafjkcjpajgaa", sum := "a4ef360f6a51bd9002e6be168c8e56d135d79fe09915eda93380fbb01d56ef9c", func := "roadstead/roadlaw5.VersionAlgebra", spec := "versionAlgebra", unfollowed := true, recurses := true, apart := false }
def VersionAlgebraSaid : Prop := versionAlgebraRow.holds Try.pinned (OpenSpec.ofChange versionAlgebraSpec)

/-- ITS FALSE NEIGHBOUR: 'it returns false'. Refute it at one input. -/
def versionAlgebraWrong : ChangeSpec := { name := "versionAlgebra", fn := fun _ => fun
  | [d1, d2] => { results := [.lit (.bool false)], args := [d1, d2] }
  | _ => none }
def VersionAlgebraWrongFalsely : Prop := versionAlgebraRow.holds Try.pinned (OpenSpec.ofChange versionAlgebraWrong)

/-- 'roadlaw5.LockTurns': WHATEVER THE INPUT: true; the input reads as it did. -/
def lockTurnsSpec : ChangeSpec := { name := "lockTurns", fn := fun _ => fun
  | [d1, d2] => { results := [.lit (.bool true)], args := [d1, d2] }
  | _ => none }
def lockTurnsRow : OpenClaim := { program := "ytnkafjkcjpajgaa", sum := "a4ef360f6a51bd9002e6be168c8e56d135d79fe09915eda93380fbb01d56ef9c", func := "roadstead/roadlaw5.LockTurns", spec := "lockTurns", unfollowed := true, recurses := true, apart := false }
def LockTurnsSaid : Prop := lockTurnsRow.holds Try.pinned (OpenSpec.ofChange lockTurnsSpec)

/-- ITS FALSE NEIGHBOUR: 'it returns false'. Refute it at one input. -/
def lockTurnsWrong : ChangeSpec := { name := "lockTurns", fn := fun _ => fun
  | [d1, d2] => { results := [.lit (.bool false)], args := [d1, d2] }
  | _ => none }
def LockTurnsWrongFalsely : Prop := lockTurnsRow.holds Try.pinned (OpenSpec.ofChange lockTurnsWrong)

/-- 'roadlaw5.SolveBest': WHATEVER THE INPUT: true; the input reads as it did. -/
def solveBestSpec : ChangeSpec := { name := "solveBest", fn := fun _ => fun
  | [d1, d2, d3] => { results := [.lit (.bool true)], args := [d1, d2, d3] }
  | _ => none }
def solveBestRow : OpenClaim := { program := "ytnkafjkcjpajgaa", sum := "a4ef360f6a51bd9002e6be168c8e56d135d79fe09915eda93380fbb01d56ef9c", func := "roadstead/roadlaw5.SolveBest", spec := "solveBest", unfollowed := true, recurses := true, apart := false }
def SolveBestSaid : Prop := solveBestRow.holds Try.pinned (OpenSpec.ofChange solveBestSpec)

/-- ITS FALSE NEIGHBOUR: 'it returns false'. Refute it at one input. -/
def solveBestWrong : ChangeSpec := { name := "solveBest", fn := fun _ => fun
  | [d1, d2, d3] => { results := [.lit (.bool false)], args := [d1, d2, d3] }
  | _ => none }
def SolveBestWrongFalsely : Prop := solveBestRow.holds Try.pinned (OpenSpec.ofChange solveBestWrong)

/-- 'roadlaw5.LockAnew': WHATEVER THE INPUT: true; the input reads as it did. -/
def lockAnewSpec : ChangeSpec := { name := "lockAnew", fn := fun _ => fun
  | [d1, d2, d3, d4] => { results := [.lit (.bool true)], args := [d1, d2, d3, d4] }
  | _ => none }
def lockAnewRow : OpenClaim := { program := "ytnkafjkcjpajgaa", sum := "a4ef360f6a51bd9002e6be168c8e56d135d79fe09915eda93380fbb01d56ef9c", func := "roadstead/roadlaw5.LockAnew", spec := "lockAnew", unfollowed := true, recurses := true, apart := false }
def LockAnewSaid : Prop := lockAnewRow.holds Try.pinned (OpenSpec.ofChange lockAnewSpec)

/-- ITS FALSE NEIGHBOUR: 'it returns false'. Refute it at one input. -/
def lockAnewWrong : ChangeSpec := { name := "lockAnew", fn := fun _ => fun
  | [d1, d2, d3, d4] => { results := [.lit (.bool false)], args := [d1, d2, d3, d4] }
  | _ => none }
def LockAnewWrongFalsely : Prop := lockAnewRow.holds Try.pinned (OpenSpec.ofChange lockAnewWrong)

/-- 'roadlaw5.RenewPlan': WHATEVER THE INPUT: true; the input reads as it did. -/
def renewPlanSpec : ChangeSpec := { name := "renewPlan", fn := fun _ => fun
  | [d1, d2] => { results := [.lit (.bool true)], args := [d1, d2] }
  | _ => none }
def renewPlanRow : OpenClaim := { program := "ytnkafjkcjpajgaa", sum := "a4ef360f6a51bd9002e6be168c8e56d135d79fe09915eda93380fbb01d56ef9c", func := "roadstead/roadlaw5.RenewPlan", spec := "renewPlan", unfollowed := true, recurses := true, loops := true, apart := false }
def RenewPlanSaid : Prop := renewPlanRow.holds Try.pinned (OpenSpec.ofChange renewPlanSpec)

/-- ITS FALSE NEIGHBOUR: 'it returns false'. Refute it at one input. -/
def renewPlanWrong : ChangeSpec := { name := "renewPlan", fn := fun _ => fun
  | [d1, d2] => { results := [.lit (.bool false)], args := [d1, d2] }
  | _ => none }
def RenewPlanWrongFalsely : Prop := renewPlanRow.holds Try.pinned (OpenSpec.ofChange renewPlanWrong)

/- THE SECOND FORM. 'bulk': how many values and letters a reading holds, each counted each time it is reached (what is shared counts as often as it is met; a slice's spare places count too). A statement '..UptoSaid' is the law's where the arguments, and the package variables that the reading takes, are together of bulk at most 1048576: NARROWER than '..Said'. Prove '..Said' where nothing that the law and all that it calls make is longer than what came in: it says more and counts as full. Else prove '..UptoSaid'. A law counts once. -/
mutual
def uptoBulk {H : Type} : DataW H → Nat
  | .lit (.string bytes) => bytes.length + 1
  | .lit _ => 1
  | .nil => 1
  | .ptr d => uptoBulk d + 1
  | .slice elems spare => uptoBulkAll elems + uptoBulkAll spare + 1
  | .agg parts => uptoBulkAll parts + 1
  | .iface _ d => uptoBulk d + 1
  | .map entries => uptoBulkEntries entries + 1
  | .held _ => 1
def uptoBulkAll {H : Type} : List (DataW H) → Nat
  | [] => 0
  | d :: r => uptoBulk d + uptoBulkAll r
def uptoBulkEntries {H : Type} : List (Lit × DataW H) → Nat
  | [] => 0
  | x :: r => uptoBulkEntry x + uptoBulkEntries r
def uptoBulkEntry {H : Type} : Lit × DataW H → Nat
  | (.string bytes, d) => bytes.length + uptoBulk d + 1
  | (_, d) => uptoBulk d + 1
 end
def uptoSmall : (H : Type) → List (DataW H) → Bool := fun _ ds => decide (uptoBulkAll ds ≤ 1048576)
def OpenSpec.upto (s : _root_.Go.ChangeSpec) : _root_.Go.OpenSpec := { _root_.Go.OpenSpec.ofChange s with cond := some uptoSmall }

/-- 'roadlaw5.VersionSets', WHERE WHAT IT READS IS OF BULK AT MOST 1048576: true; the input reads as it did. -/
def versionSetsUptoRow : OpenClaim := { program := "ytnkafjkcjpajgaa", sum := "a4ef360f6a51bd9002e6be168c8e56d135d79fe09915eda93380fbb01d56ef9c", func := "roadstead/roadlaw5.VersionSets", spec := "versionSets", unfollowed := true, recurses := true, apart := false, narrowed := true }
def VersionSetsUptoSaid : Prop := versionSetsUptoRow.holds Try.pinned (OpenSpec.upto versionSetsSpec)

/-- 'roadlaw5.VersionAlgebra', WHERE WHAT IT READS IS OF BULK AT MOST 1048576: true; the input reads as it did. -/
def versionAlgebraUptoRow : OpenClaim := { program := "ytnkafjkcjpajgaa", sum := "a4ef360f6a51bd9002e6be168c8e56d135d79fe09915eda93380fbb01d56ef9c", func := "roadstead/roadlaw5.VersionAlgebra", spec := "versionAlgebra", unfollowed := true, recurses := true, apart := false, narrowed := true }
def VersionAlgebraUptoSaid : Prop := versionAlgebraUptoRow.holds Try.pinned (OpenSpec.upto versionAlgebraSpec)

/-- 'roadlaw5.LockTurns', WHERE WHAT IT READS IS OF BULK AT MOST 1048576: true; the input reads as it did. -/
def lockTurnsUptoRow : OpenClaim := { program := "ytnkafjkcjpajgaa", sum := "a4ef360f6a51bd9002e6be168c8e56d135d79fe09915eda93380fbb01d56ef9c", func := "roadstead/roadlaw5.LockTurns", spec := "lockTurns", unfollowed := true, recurses := true, apart := false, narrowed := true }
def LockTurnsUptoSaid : Prop := lockTurnsUptoRow.holds Try.pinned (OpenSpec.upto lockTurnsSpec)

/-- 'roadlaw5.SolveBest', WHERE WHAT IT READS IS OF BULK AT MOST 1048576: true; the input reads as it did. -/
def solveBestUptoRow : OpenClaim := { program := "ytnkafjkcjpajgaa", sum := "a4ef360f6a51bd9002e6be168c8e56d135d79fe09915eda93380fbb01d56ef9c", func := "roadstead/roadlaw5.SolveBest", spec := "solveBest", unfollowed := true, recurses := true, apart := false, narrowed := true }
def SolveBestUptoSaid : Prop := solveBestUptoRow.holds Try.pinned (OpenSpec.upto solveBestSpec)

/-- 'roadlaw5.LockAnew', WHERE WHAT IT READS IS OF BULK AT MOST 1048576: true; the input reads as it did. -/
def lockAnewUptoRow : OpenClaim := { program := "ytnkafjkcjpajgaa", sum := "a4ef360f6a51bd9002e6be168c8e56d135d79fe09915eda93380fbb01d56ef9c", func := "roadstead/roadlaw5.LockAnew", spec := "lockAnew", unfollowed := true, recurses := true, apart := false, narrowed := true }
def LockAnewUptoSaid : Prop := lockAnewUptoRow.holds Try.pinned (OpenSpec.upto lockAnewSpec)

/-- 'roadlaw5.RenewPlan', WHERE WHAT IT READS IS OF BULK AT MOST 1048576: true; the input reads as it did. -/
def renewPlanUptoRow : OpenClaim := { program := "ytnkafjkcjpajgaa", sum := "a4ef360f6a51bd9002e6be168c8e56d135d79fe09915eda93380fbb01d56ef9c", func := "roadstead/roadlaw5.RenewPlan", spec := "renewPlan", unfollowed := true, recurses := true, loops := true, apart := false, narrowed := true }
def RenewPlanUptoSaid : Prop := renewPlanUptoRow.holds Try.pinned (OpenSpec.upto renewPlanSpec)

end Rows
end Go.Proofs.Ytnkafjkcjpajgaa
