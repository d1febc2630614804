/-
  ChunkCutsUptoSaid: where the arguments are of bulk at most the bound, ChunkCuts returns true and its arguments read afterwards as before. No further condition.
-/
import Derived.Test.YtdajeoifmfbgkaaChunkCuts
import Derived.Test.YtdajeoifmfbgkaaLaw
namespace Go.Proofs.Ytdajeoifmfbgkaa.chunkCuts
open Go.ChangeShapes Go.WideShapes Go.ChangeAt Go.RowKit

theorem packTo_sum : ∀ l : List (List UInt8), (packTo l).length = (l.map fun b => b.length + 2).sum
  | [] => rfl
  | b :: l => by
    have := packTo_sum l
    simp only [packTo, List.flatMap_cons, List.length_append, List.map_cons, List.sum_cons] at this ⊢
    rw [this]
    simp [pack1]

theorem cells_u8 : Try.prog.cellsOf 5 = 1 := by kernel_rfl
theorem cells_bytes : Try.prog.cellsOf 22 = 1 := by kernel_rfl

set_option maxRecDepth 100000 in
theorem contract (H : Type) (enc : TypeId × Value → H) (W : World) (base : Nat) (args : Array Value) (ds gs : List (DataW H)) (before : List MemPlace)
    (hval : ∀ (j : Nat) t v, Try.f3.params[j]? = some t → args[j]? = some v → Value.okWide Try.prog W .any base t v)
    (hW : DataW.Whole enc Try.prog Try.f3.params.toList Rows.chunkCutsSpec.vars false W args.toList ds gs before) (hk : Rows.uptoSmall H (ds ++ gs) = true) :
    Calls Try.prog 3 args W fun e W' => ∃ v, e = .returned v ∧ Rows.chunkCutsSpec.post enc Try.prog Try.f3 false true false false W args v W' := by
  have hW' := hW
  obtain ⟨p, q, hA0, hV, rfl, hfz, hnd⟩ := hW
  have hA : DataW.TrodAll enc Try.prog W 0 (fun _ => true) true Try.f3.params.toList args.toList ds p := hA0
  rw [Try.params3] at hA hval
  obtain ⟨v0, vs0, d0, ds0, p0, q0, hargs, rfl, rfl, h0, r0⟩ := trodAll_cons hA
  obtain ⟨v1, vs1, d1, ds1, p1, q1, rfl, rfl, rfl, h1, r1⟩ := trodAll_cons r0
  obtain ⟨rfl, rfl, rfl⟩ := trodAll_nil r1
  obtain rfl : args = #[v0, v1] := by cases args; simp_all
  obtain ⟨rfl, rfl⟩ := trodVars_none hV
  obtain ⟨a0, len0, cap0, rfl⟩ := okWide_slice Try.underlying22 (hval 0 22 v0 rfl rfl)
  obtain ⟨a1, len1, cap1, rfl⟩ := okWide_slice Try.underlying23 (hval 1 23 v1 rfl rfl)
  obtain ⟨fuel0, hf0⟩ := h0
  obtain ⟨fuel1, hf1⟩ := h1
  obtain ⟨A, n, c, bs, e0, hc, hbs, hr, hk0⟩ := open_bytes Try.underlying22 Try.underlying5 cells_u8 hf0
  obtain ⟨A2, n2, c2, vs, l, e1, hc2, hr2, hl, hk1, hk2⟩ := open_bytess Try.underlying23 Try.underlying22 Try.underlying5 cells_bytes cells_u8 hf1
  have e0' : Value.slice a0 len0 cap0 = .slice A n c := by simpa [Value.cells] using e0
  have e1' : Value.slice a1 len1 cap1 = .slice A2 n2 c2 := by simpa [Value.cells] using e1
  have hkk : Rows.uptoBulkAll ([d0, d1] ++ []) ≤ 1048576 := of_decide_eq_true hk
  simp only [List.append_nil, Rows.uptoBulkAll] at hkk
  rw [e0', e1'] at hW' ⊢
  dsimp only at hk0 hk1 hk2
  clear hA0 hA hval hargs
  refine (chunkCuts_walk A n c bs A2 n2 c2 vs l W hr (by omega) hc hr2 hl (by omega) (by rw [packTo_sum]; omega)).mono fun e W' ⟨he, hb⟩ => ?_
  subst he
  exact ⟨_, rfl, law_post hW' rfl rfl (by kernel_rfl) rfl rfl rfl hb⟩

set_option maxRecDepth 100000 in
theorem lifted (os : Os) (started : os.Started) (H : Type) (enc : TypeId × Value → H) (F : Stop.Interp) :
    ReturnsInHanded {} Try.checked os 3 .any ((Rows.OpenSpec.upto Rows.chunkCutsSpec).pre6 enc Try.prog Try.f3 Rows.chunkCutsUptoRow.domain false) (((Rows.OpenSpec.upto Rows.chunkCutsSpec).at F).post enc Try.prog Try.f3 false true false false) := by
  refine returnsInHanded_of_cond (C := Try.checked) (s := Rows.OpenSpec.upto Rows.chunkCutsSpec) (k := Rows.uptoSmall) rfl own started (by kernel_rfl) Try.func3
    (OpenSpec.witness (enc := enc) (C := Try.checked) (s := Rows.OpenSpec.upto Rows.chunkCutsSpec) (k := Rows.uptoSmall) rfl false ⟨#[], #[.slice none 0 0, .slice none 0 0], []⟩ 8 (by kernel_rfl) (by kernel_rfl) (by kernel_rfl)
      (x := ([.nil, .nil], [], [])) (by kernel_rfl) rfl (by kernel_rfl)) ?_
  intro W base args ds gs before hval hW _ hk _
  exact contract H enc W base args ds gs before hval hW hk

theorem proved : Rows.ChunkCutsUptoSaid :=
  OpenClaim.holds_of_cond 3 Try.f3 rfl rfl rfl rfl rfl rfl rfl ⟨rfl, rfl, rfl, rfl, rfl⟩ rfl rfl rfl rfl rfl (by kernel_rfl) Try.func3 (by kernel_rfl)
    (of_decide_eq_true (by kernel_rfl)) (by unfold Func.isWrapper; first | (rw [if_pos (by decide +kernel)]; kernel_rfl) | (rw [if_neg (by decide +kernel)]; exact ⟨rfl, rfl⟩))
    (fun os started H enc _ F => lifted os started H enc F)

end Go.Proofs.Ytdajeoifmfbgkaa.chunkCuts
