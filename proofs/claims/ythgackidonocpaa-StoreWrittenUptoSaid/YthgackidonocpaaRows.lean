/-
  NARROWER THAN 'FOR EVERY INPUT', by the rows' own cells (each row's printed sentence says how): ValueWritten: loops · ValueLetters: loops · ValueSaved: loops · ValueParcels: loops · StoreWritten: loops · RenewPlan: loops.
  DERIVED. THE GIVEN ROWS OF THIS SEAT. 10 by the template 'for every input the law returns true; each argument reads behind the call as it read before'; 0 by the template 'total and deterministic' (their statements: YthgackidonocpaaTotals.lean).
  GIVEN WITH THE SEED: the statements are not yours to turn. If you find one false, say at which input.
  Laid BY PROGRAM, IN A SANDBOX (cutbox-rows.mjs): the forced cells as the released guide's own fill.sh prints them over the translation 8443a340007a5980… (all of the seat's roots in one cut). By AI agents, Wed Nov 11 2026. No macro, syntax, notation, axiom, sorry.
-/
import Derived.Test.YthgackidonocpaaChecked
import GoSem.Claim
import GoSem.ClaimJoined
import GoSem.ClaimMapViews
import Derived.JoinedTies
import Derived.KernelRfl
namespace Go.Proofs.Ythgackidonocpaa
/- THE CELL 'sum', in the pinned program and in every row, IS THE sha256 OF THE DUMP (.gsa) THAT YthgackidonocpaaProg.lean LOADS. Nothing in Lean hashes anything: it is a label: what it is worth is what the hold of that sum in a sandbox is worth. -/
noncomputable def Try.pinned : Pinned := { name := "ythgackidonocpaa", sum := "8443a340007a59806df3589e6766fa20e3ec5b66d71cd5b01bb08248149b0bb3", checked := Try.checked }
namespace Rows
def none {H : Type} : Left H := { results := [], args := [] }

/-- 'roadlaw5.ValueWritten': WHATEVER THE INPUT: true; the input reads as it did. -/
def valueWrittenSpec : ChangeSpec := { name := "valueWritten", fn := fun _ => fun
  | [d] => { results := [.lit (.bool true)], args := [d] }
  | _ => none }
def valueWrittenRow : OpenClaim := { program := "ythgackidonocpaa", sum := "8443a340007a59806df3589e6766fa20e3ec5b66d71cd5b01bb08248149b0bb3", func := "roadstead/roadlaw5.ValueWritten", spec := "valueWritten", unfollowed := true, recurses := true, loops := true, plainKeys := false, apart := false }
def ValueWrittenSaid : Prop := valueWrittenRow.holds Try.pinned (OpenSpec.ofChange valueWrittenSpec)

/-- ITS FALSE NEIGHBOUR: 'it returns false'. Refute it at one input. -/
def valueWrittenWrong : ChangeSpec := { name := "valueWritten", fn := fun _ => fun
  | [d] => { results := [.lit (.bool false)], args := [d] }
  | _ => none }
def ValueWrittenWrongFalsely : Prop := valueWrittenRow.holds Try.pinned (OpenSpec.ofChange valueWrittenWrong)

/-- 'roadlaw5.ValueRead': WHATEVER THE INPUT: true; the input reads as it did. -/
def valueReadSpec : ChangeSpec := { name := "valueRead", fn := fun _ => fun
  | [d] => { results := [.lit (.bool true)], args := [d] }
  | _ => none }
def valueReadRow : OpenClaim := { program := "ythgackidonocpaa", sum := "8443a340007a59806df3589e6766fa20e3ec5b66d71cd5b01bb08248149b0bb3", func := "roadstead/roadlaw5.ValueRead", spec := "valueRead", unfollowed := true, recurses := true, plainKeys := false, apart := false }
def ValueReadSaid : Prop := valueReadRow.holds Try.pinned (OpenSpec.ofChange valueReadSpec)

/-- ITS FALSE NEIGHBOUR: 'it returns false'. Refute it at one input. -/
def valueReadWrong : ChangeSpec := { name := "valueRead", fn := fun _ => fun
  | [d] => { results := [.lit (.bool false)], args := [d] }
  | _ => none }
def ValueReadWrongFalsely : Prop := valueReadRow.holds Try.pinned (OpenSpec.ofChange valueReadWrong)

/-- 'roadlaw5.ValueLetters': WHATEVER THE INPUT: true; the input reads as it did. -/
def valueLettersSpec : ChangeSpec := { name := "valueLetters", fn := fun _ => fun
  | [d1, d2] => { results := [.lit (.bool true)], args := [d1, d2] }
  | _ => none }
def valueLettersRow : OpenClaim := { program := "ythgackidonocpaa", sum := "8443a340007a59806df3589e6766fa20e3ec5b66d71cd5b01bb08248149b0bb3", func := "roadstead/roadlaw5.ValueLetters", spec := "valueLetters", unfollowed := true, recurses := true, loops := true, plainKeys := false, apart := false }
def ValueLettersSaid : Prop := valueLettersRow.holds Try.pinned (OpenSpec.ofChange valueLettersSpec)

/-- ITS FALSE NEIGHBOUR: 'it returns false'. Refute it at one input. -/
def valueLettersWrong : ChangeSpec := { name := "valueLetters", fn := fun _ => fun
  | [d1, d2] => { results := [.lit (.bool false)], args := [d1, d2] }
  | _ => none }
def ValueLettersWrongFalsely : Prop := valueLettersRow.holds Try.pinned (OpenSpec.ofChange valueLettersWrong)

/-- 'roadlaw5.ValueSaved': WHATEVER THE INPUT: true; the input reads as it did. -/
def valueSavedSpec : ChangeSpec := { name := "valueSaved", fn := fun _ => fun
  | [d1, d2] => { results := [.lit (.bool true)], args := [d1, d2] }
  | _ => none }
def valueSavedRow : OpenClaim := { program := "ythgackidonocpaa", sum := "8443a340007a59806df3589e6766fa20e3ec5b66d71cd5b01bb08248149b0bb3", func := "roadstead/roadlaw5.ValueSaved", spec := "valueSaved", unfollowed := true, recurses := true, loops := true, plainKeys := false, apart := false }
def ValueSavedSaid : Prop := valueSavedRow.holds Try.pinned (OpenSpec.ofChange valueSavedSpec)

/-- ITS FALSE NEIGHBOUR: 'it returns false'. Refute it at one input. -/
def valueSavedWrong : ChangeSpec := { name := "valueSaved", fn := fun _ => fun
  | [d1, d2] => { results := [.lit (.bool false)], args := [d1, d2] }
  | _ => none }
def ValueSavedWrongFalsely : Prop := valueSavedRow.holds Try.pinned (OpenSpec.ofChange valueSavedWrong)

/-- 'roadlaw5.ValueParcels': WHATEVER THE INPUT: true; the input reads as it did. -/
def valueParcelsSpec : ChangeSpec := { name := "valueParcels", fn := fun _ => fun
  | [d1, d2] => { results := [.lit (.bool true)], args := [d1, d2] }
  | _ => none }
def valueParcelsRow : OpenClaim := { program := "ythgackidonocpaa", sum := "8443a340007a59806df3589e6766fa20e3ec5b66d71cd5b01bb08248149b0bb3", func := "roadstead/roadlaw5.ValueParcels", spec := "valueParcels", unfollowed := true, recurses := true, loops := true, plainKeys := false, apart := false }
def ValueParcelsSaid : Prop := valueParcelsRow.holds Try.pinned (OpenSpec.ofChange valueParcelsSpec)

/-- ITS FALSE NEIGHBOUR: 'it returns false'. Refute it at one input. -/
def valueParcelsWrong : ChangeSpec := { name := "valueParcels", fn := fun _ => fun
  | [d1, d2] => { results := [.lit (.bool false)], args := [d1, d2] }
  | _ => none }
def ValueParcelsWrongFalsely : Prop := valueParcelsRow.holds Try.pinned (OpenSpec.ofChange valueParcelsWrong)

/-- 'roadlaw5.StoreWritten': WHATEVER THE INPUT: true; the input reads as it did. -/
def storeWrittenSpec : ChangeSpec := { name := "storeWritten", fn := fun _ => fun
  | [d] => { results := [.lit (.bool true)], args := [d] }
  | _ => none }
def storeWrittenRow : OpenClaim := { program := "ythgackidonocpaa", sum := "8443a340007a59806df3589e6766fa20e3ec5b66d71cd5b01bb08248149b0bb3", func := "roadstead/roadlaw5.StoreWritten", spec := "storeWritten", unfollowed := true, recurses := true, loops := true, plainKeys := false, apart := false }
def StoreWrittenSaid : Prop := storeWrittenRow.holds Try.pinned (OpenSpec.ofChange storeWrittenSpec)

/-- ITS FALSE NEIGHBOUR: 'it returns false'. Refute it at one input. -/
def storeWrittenWrong : ChangeSpec := { name := "storeWritten", fn := fun _ => fun
  | [d] => { results := [.lit (.bool false)], args := [d] }
  | _ => none }
def StoreWrittenWrongFalsely : Prop := storeWrittenRow.holds Try.pinned (OpenSpec.ofChange storeWrittenWrong)

/-- 'roadlaw5.MarkRuns': WHATEVER THE INPUT: true; the input reads as it did. -/
def markRunsSpec : ChangeSpec := { name := "markRuns", fn := fun _ => fun
  | [d1, d2] => { results := [.lit (.bool true)], args := [d1, d2] }
  | _ => none }
def markRunsRow : OpenClaim := { program := "ythgackidonocpaa", sum := "8443a340007a59806df3589e6766fa20e3ec5b66d71cd5b01bb08248149b0bb3", func := "roadstead/roadlaw5.MarkRuns", spec := "markRuns", unfollowed := true, recurses := true, plainKeys := false, apart := false }
def MarkRunsSaid : Prop := markRunsRow.holds Try.pinned (OpenSpec.ofChange markRunsSpec)

/-- ITS FALSE NEIGHBOUR: 'it returns false'. Refute it at one input. -/
def markRunsWrong : ChangeSpec := { name := "markRuns", fn := fun _ => fun
  | [d1, d2] => { results := [.lit (.bool false)], args := [d1, d2] }
  | _ => none }
def MarkRunsWrongFalsely : Prop := markRunsRow.holds Try.pinned (OpenSpec.ofChange markRunsWrong)

/-- 'roadlaw5.RenewPlan': WHATEVER THE INPUT: true; the input reads as it did. -/
def renewPlanSpec : ChangeSpec := { name := "renewPlan", fn := fun _ => fun
  | [d1, d2] => { results := [.lit (.bool true)], args := [d1, d2] }
  | _ => none }
def renewPlanRow : OpenClaim := { program := "ythgackidonocpaa", sum := "8443a340007a59806df3589e6766fa20e3ec5b66d71cd5b01bb08248149b0bb3", func := "roadstead/roadlaw5.RenewPlan", spec := "renewPlan", unfollowed := true, recurses := true, loops := true, plainKeys := false, apart := false }
def RenewPlanSaid : Prop := renewPlanRow.holds Try.pinned (OpenSpec.ofChange renewPlanSpec)

/-- ITS FALSE NEIGHBOUR: 'it returns false'. Refute it at one input. -/
def renewPlanWrong : ChangeSpec := { name := "renewPlan", fn := fun _ => fun
  | [d1, d2] => { results := [.lit (.bool false)], args := [d1, d2] }
  | _ => none }
def RenewPlanWrongFalsely : Prop := renewPlanRow.holds Try.pinned (OpenSpec.ofChange renewPlanWrong)

/-- 'roadlaw5.LayoutLays': WHATEVER THE INPUT: true; the input reads as it did. -/
def layoutLaysSpec : ChangeSpec := { name := "layoutLays", fn := fun _ => fun
  | [d1, d2] => { results := [.lit (.bool true)], args := [d1, d2] }
  | _ => none }
def layoutLaysRow : OpenClaim := { program := "ythgackidonocpaa", sum := "8443a340007a59806df3589e6766fa20e3ec5b66d71cd5b01bb08248149b0bb3", func := "roadstead/roadlaw5.LayoutLays", spec := "layoutLays", inPlace := ["internal/bytealg.IndexByteString", "internal/bytealg.IndexString", "internal/abi.NoEscape", "internal/bytealg.MakeNoZero"], recurses := true, named := ["internal/bytealg.MaxLen"], plainKeys := false, apart := false }
def LayoutLaysSaid : Prop := layoutLaysRow.holds Try.pinned (OpenSpec.ofChange layoutLaysSpec)

/-- ITS FALSE NEIGHBOUR: 'it returns false'. Refute it at one input. -/
def layoutLaysWrong : ChangeSpec := { name := "layoutLays", fn := fun _ => fun
  | [d1, d2] => { results := [.lit (.bool false)], args := [d1, d2] }
  | _ => none }
def LayoutLaysWrongFalsely : Prop := layoutLaysRow.holds Try.pinned (OpenSpec.ofChange layoutLaysWrong)

/-- 'roadlaw5.VersionSets': WHATEVER THE INPUT: true; the input reads as it did. -/
def versionSetsSpec : ChangeSpec := { name := "versionSets", fn := fun _ => fun
  | [d1, d2] => { results := [.lit (.bool true)], args := [d1, d2] }
  | _ => none }
def versionSetsRow : OpenClaim := { program := "ythgackidonocpaa", sum := "8443a340007a59806df3589e6766fa20e3ec5b66d71cd5b01bb08248149b0bb3", func := "roadstead/roadlaw5.VersionSets", spec := "versionSets", unfollowed := true, recurses := true, plainKeys := false, apart := false }
def VersionSetsSaid : Prop := versionSetsRow.holds Try.pinned (OpenSpec.ofChange versionSetsSpec)

/-- ITS FALSE NEIGHBOUR: 'it returns false'. Refute it at one input. -/
def versionSetsWrong : ChangeSpec := { name := "versionSets", fn := fun _ => fun
  | [d1, d2] => { results := [.lit (.bool false)], args := [d1, d2] }
  | _ => none }
def VersionSetsWrongFalsely : Prop := versionSetsRow.holds Try.pinned (OpenSpec.ofChange versionSetsWrong)

/- THE SECOND FORM. 'bulk': how many values and letters a reading holds, each counted each time it is reached (what is shared counts as often as it is met; a slice's spare places count too). A statement '..UptoSaid' is the law's where the arguments, and the package variables that the reading takes, are together of bulk at most 1048576: NARROWER than '..Said'. Prove '..Said' where nothing that the law and all that it calls make is longer than what came in: it says more and counts as full. Else prove '..UptoSaid'. A law counts once. -/
mutual
def uptoBulk {H : Type} : DataW H → Nat
  | .lit (.string bytes) => bytes.length + 1
  | .lit _ => 1
  | .nil => 1
  | .ptr d => uptoBulk d + 1
  | .slice elems spare => uptoBulkAll elems + uptoBulkAll spare + 1
  | .agg parts => uptoBulkAll parts + 1
  | .iface _ d => uptoBulk d + 1
  | .map entries => uptoBulkEntries entries + 1
  | .held _ => 1
def uptoBulkAll {H : Type} : List (DataW H) → Nat
  | [] => 0
  | d :: r => uptoBulk d + uptoBulkAll r
def uptoBulkEntries {H : Type} : List (Lit × DataW H) → Nat
  | [] => 0
  | x :: r => uptoBulkEntry x + uptoBulkEntries r
def uptoBulkEntry {H : Type} : Lit × DataW H → Nat
  | (.string bytes, d) => bytes.length + uptoBulk d + 1
  | (_, d) => uptoBulk d + 1
 end
def uptoSmall : (H : Type) → List (DataW H) → Bool := fun _ ds => decide (uptoBulkAll ds ≤ 1048576)
def OpenSpec.upto (s : _root_.Go.ChangeSpec) : _root_.Go.OpenSpec := { _root_.Go.OpenSpec.ofChange s with cond := some uptoSmall }

/-- 'roadlaw5.ValueWritten', WHERE WHAT IT READS IS OF BULK AT MOST 1048576: true; the input reads as it did. -/
def valueWrittenUptoRow : OpenClaim := { program := "ythgackidonocpaa", sum := "8443a340007a59806df3589e6766fa20e3ec5b66d71cd5b01bb08248149b0bb3", func := "roadstead/roadlaw5.ValueWritten", spec := "valueWritten", unfollowed := true, recurses := true, loops := true, plainKeys := false, apart := false, narrowed := true }
def ValueWrittenUptoSaid : Prop := valueWrittenUptoRow.holds Try.pinned (OpenSpec.upto valueWrittenSpec)

/-- 'roadlaw5.ValueRead', WHERE WHAT IT READS IS OF BULK AT MOST 1048576: true; the input reads as it did. -/
def valueReadUptoRow : OpenClaim := { program := "ythgackidonocpaa", sum := "8443a340007a59806df3589e6766fa20e3ec5b66d71cd5b01bb08248149b0bb3", func := "roadstead/roadlaw5.ValueRead", spec := "valueRead", unfollowed := true, recurses := true, plainKeys := false, apart := false, narrowed := true }
def ValueReadUptoSaid : Prop := valueReadUptoRow.holds Try.pinned (OpenSpec.upto valueReadSpec)

/-- 'roadlaw5.ValueLetters', WHERE WHAT IT READS IS OF BULK AT MOST 1048576: true; the input reads as it did. -/
def valueLettersUptoRow : OpenClaim := { program := "ythgackidonocpaa", sum := "8443a340007a59806df3589e6766fa20e3ec5b66d71cd5b01bb08248149b0bb3", func := "roadstead/roadlaw5.ValueLetters", spec := "valueLetters", unfollowed := true, recurses := true, loops := true, plainKeys := false, apart := false, narrowed := true }
def ValueLettersUptoSaid : Prop := valueLettersUptoRow.holds Try.pinned (OpenSpec.upto valueLettersSpec)

/-- 'roadlaw5.ValueSaved', WHERE WHAT IT READS IS OF BULK AT MOST 1048576: true; the input reads as it did. -/
def valueSavedUptoRow : OpenClaim := { program := "ythgackidonocpaa", sum := "8443a340007a59806df3589e6766fa20e3ec5b66d71cd5b01bb08248149b0bb3", func := "roadstead/roadlaw5.ValueSaved", spec := "valueSaved", unfollowed := true, recurses := true, loops := true, plainKeys := false, apart := false, narrowed := true }
def ValueSavedUptoSaid : Prop := valueSavedUptoRow.holds Try.pinned (OpenSpec.upto valueSavedSpec)

/-- 'roadlaw5.ValueParcels', WHERE WHAT IT READS IS OF BULK AT MOST 1048576: true; the input reads as it did. -/
def valueParcelsUptoRow : OpenClaim := { program := "ythgackidonocpaa", sum := "8443a340007a59806df3589e6766fa20e3ec5b66d71cd5b01bb08248149b0bb3", func := "roadstead/roadlaw5.ValueParcels", spec := "valueParcels", unfollowed := true, recurses := true, loops := true, plainKeys := false, apart := false, narrowed := true }
def ValueParcelsUptoSaid : Prop := valueParcelsUptoRow.holds Try.pinned (OpenSpec.upto valueParcelsSpec)

/-- 'roadlaw5.StoreWritten', WHERE WHAT IT READS IS OF BULK AT MOST 1048576: true; the input reads as it did. -/
def storeWrittenUptoRow : OpenClaim := { program := "ythgackidonocpaa", sum := "8443a340007a59806df3589e6766fa20e3ec5b66d71cd5b01bb08248149b0bb3", func := "roadstead/roadlaw5.StoreWritten", spec := "storeWritten", unfollowed := true, recurses := true, loops := true, plainKeys := false, apart := false, narrowed := true }
def StoreWrittenUptoSaid : Prop := storeWrittenUptoRow.holds Try.pinned (OpenSpec.upto storeWrittenSpec)

/-- 'roadlaw5.MarkRuns', WHERE WHAT IT READS IS OF BULK AT MOST 1048576: true; the input reads as it did. -/
def markRunsUptoRow : OpenClaim := { program := "ythgackidonocpaa", sum := "8443a340007a59806df3589e6766fa20e3ec5b66d71cd5b01bb08248149b0bb3", func := "roadstead/roadlaw5.MarkRuns", spec := "markRuns", unfollowed := true, recurses := true, plainKeys := false, apart := false, narrowed := true }
def MarkRunsUptoSaid : Prop := markRunsUptoRow.holds Try.pinned (OpenSpec.upto markRunsSpec)

/-- 'roadlaw5.RenewPlan', WHERE WHAT IT READS IS OF BULK AT MOST 1048576: true; the input reads as it did. -/
def renewPlanUptoRow : OpenClaim := { program := "ythgackidonocpaa", sum := "8443a340007a59806df3589e6766fa20e3ec5b66d71cd5b01bb08248149b0bb3", func := "roadstead/roadlaw5.RenewPlan", spec := "renewPlan", unfollowed := true, recurses := true, loops := true, plainKeys := false, apart := false, narrowed := true }
def RenewPlanUptoSaid : Prop := renewPlanUptoRow.holds Try.pinned (OpenSpec.upto renewPlanSpec)

/-- 'roadlaw5.LayoutLays', WHERE WHAT IT READS IS OF BULK AT MOST 1048576: true; the input reads as it did. -/
def layoutLaysUptoRow : OpenClaim := { program := "ythgackidonocpaa", sum := "8443a340007a59806df3589e6766fa20e3ec5b66d71cd5b01bb08248149b0bb3", func := "roadstead/roadlaw5.LayoutLays", spec := "layoutLays", inPlace := ["internal/bytealg.IndexByteString", "internal/bytealg.IndexString", "internal/abi.NoEscape", "internal/bytealg.MakeNoZero"], recurses := true, named := ["internal/bytealg.MaxLen"], plainKeys := false, apart := false, narrowed := true }
def LayoutLaysUptoSaid : Prop := layoutLaysUptoRow.holds Try.pinned (OpenSpec.upto layoutLaysSpec)

/-- 'roadlaw5.VersionSets', WHERE WHAT IT READS IS OF BULK AT MOST 1048576: true; the input reads as it did. -/
def versionSetsUptoRow : OpenClaim := { program := "ythgackidonocpaa", sum := "8443a340007a59806df3589e6766fa20e3ec5b66d71cd5b01bb08248149b0bb3", func := "roadstead/roadlaw5.VersionSets", spec := "versionSets", unfollowed := true, recurses := true, plainKeys := false, apart := false, narrowed := true }
def VersionSetsUptoSaid : Prop := versionSetsUptoRow.holds Try.pinned (OpenSpec.upto versionSetsSpec)

end Rows
end Go.Proofs.Ythgackidonocpaa
