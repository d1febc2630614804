/-
  Texts of this proof, part 14: OpenSc.
-/
import Derived.Test.YtllgibfmddihgaaDoorQSchemeSays13
import Derived.Laws.Strings2
import Derived.Lib.AppendStr
import Derived.Lib.MinMax
namespace Go.Proofs.YtllgibfmddihgaaDoor.Mass
open Go.ChangeShapes Go.WideShapes Go.ChangeAt Go.RowKit Go.Deep
instance : Inhabited Sc := ⟨⟨[], default⟩⟩
section
variable {H : Type} {enc : TypeId × Value → H} {w : World} {base : Nat} {spare : Nat → Bool} {held : Bool}
theorem cn_Sc : Tryd.prog.cellsOf 87 = 4 := by kernel_rfl
theorem opensSc (fuel : Nat) : Opens enc Tryd.prog w base spare held 87 Sc.ts Sc.mass fuel := by
  intro cs x h
  obtain ⟨ys, n, hn, rfl, hlen, hyl, hf⟩ := DataW.trod_struct Tryd.underlying87 h
  rw [cn_Sc] at hlen
  obtain ⟨y0, y1, rfl⟩ := listN2 hyl
  have f0 : DataW.trod enc Tryd.prog w base spare held n 36 ((cs.drop 0).take (Tryd.prog.cellsOf 36)) = some y0 := hf 0 _ rfl
  rw [show Tryd.prog.cellsOf 36 = 1 by kernel_rfl] at f0
  have f1 : DataW.trod enc Tryd.prog w base spare held n 64 ((cs.drop 1).take (Tryd.prog.cellsOf 64)) = some y1 := hf 1 _ rfl
  rw [cn_Y] at f1
  obtain ⟨a0, r0, o0, m0⟩ := opens_slice strTs (fun s => s.size + 1) 1 (by omega) (fun _ => rfl) Tryd.underlying36 cn_str (fun m _ => opens_strz Tryd.underlying9) _ _ f0
  obtain ⟨a1, r1, o1, m1⟩ := opensY _ _ _ f1
  refine ⟨⟨a0, a1⟩, ?_, ?_, ?_⟩
  · have := rts_seg r0 (rts_seg r1 (rts_end hlen))
    simpa [Sc.ts, strRow] using this
  · have := one_seg o0 (one_seg o1 (one_end hlen))
    simpa using this
  · simp only [Sc.mass, strSize, List.map_cons, List.map_nil, Rows.uptoBulk, Rows.uptoBulkAll] at m0 m1 ⊢
    omega
end
end Go.Proofs.YtllgibfmddihgaaDoor.Mass
