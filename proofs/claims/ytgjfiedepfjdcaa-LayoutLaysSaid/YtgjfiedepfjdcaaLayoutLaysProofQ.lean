/-
  LayoutLaysSaid: LayoutLays returns true for every input, and its arguments read afterwards asq before. No condition beyond the form's own reach.
-/
import Derived.Test.YtgjfiedepfjdcaaQLayoutLays12
import Derived.SizedLaws
namespace Go.Proofs.Ytgjfiedepfjdcaa.layoutLays
open Go.ChangeShapes Go.WideShapes Go.ChangeAt Go.RowKit
set_option maxRecDepth 100000 in
theorem contract (H : Type) (enc : TypeId × Value → H) (W : World) (base : Nat) (args : Array Value) (ds gs : List (DataW H)) (before : List MemPlace)
    (hval : ∀ (j : Nat) t v, Try.f3.params[j]? = some t → args[j]? = some v → Value.okWide Try.prog W .any base t v)
    (hW : DataW.Whole enc Try.prog Try.f3.params.toList Rows.layoutLaysSpec.vars false W args.toList ds gs before) (_hk : (DataW.weightsEach Try.prog (Try.f3.params.toList ++ Rows.layoutLaysSpec.plain.varTypes Try.prog) (ds ++ gs)).all (· ≤ reachBytes) = true) :
    Calls Try.prog 3 args W fun e W' => ∃ v, e = .returned v ∧ Rows.layoutLaysSpec.post enc Try.prog Try.f3 false true false false W args v W' := by
  have hW' := hW
  obtain ⟨p, q, hA0, hV, rfl, hfz, hnd⟩ := hW
  have hA : DataW.TrodAll enc Try.prog W 0 (fun _ => true) true Try.f3.params.toList args.toList ds p := hA0
  rw [Try.params3] at hA hval
  obtain ⟨v0, vs0, d0, ds0, p0, q0, hargs, rfl, rfl, h0, r0⟩ := trodAll_cons hA
  obtain ⟨v1, vs1, d1, ds1, p1, q1, rfl, rfl, rfl, h1, r1⟩ := trodAll_cons r0
  obtain ⟨rfl, rfl, rfl⟩ := trodAll_nil r1
  obtain rfl : args = #[v0, v1] := by cases args; simp_all
  obtain ⟨rfl, rfl⟩ := trodVars_none hV
  obtain ⟨a0, len0, cap0, rfl⟩ := okWide_slice Try.underlying22 (hval 0 22 v0 rfl rfl)
  obtain ⟨z1, rfl⟩ := okWide_int Try.underlying3 (hval 1 3 v1 rfl rfl)
  obtain ⟨fuel0, hf0⟩ := h0
  obtain ⟨fuel1, hf1⟩ := h1
  obtain ⟨d, hs0, -, _hb0⟩ := opensLps _ _ _ hf0
  obtain ⟨k, hs1, -, _hb1⟩ := (fun fuel => opens_int (fuel := fuel) Try.underlying3) _ _ _ hf1
  clear hA0 hA hval hargs
  have haf := layoutLays_af d k 
  have hRT : RTs (memOf W) [Lp.row d, .lit (.int .i64 k)] [.slice a0 len0 cap0, .int .i64 z1] := by
    simp only [RTs]
    refine ⟨_, _, rfl, ?_, _, _, rfl, ?_, rfl⟩
    · have h := hs0
      simp only [RTs] at h
      obtain ⟨x, r, hx, hr, hr2⟩ := h
      simp only [Value.cells] at hx
      injection (by simpa using hx : [_] = x :: r) with hx1 hx2
      rw [hx1]; exact hr
    · have h := hs1
      simp only [RTs] at h
      obtain ⟨x, r, hx, hr, hr2⟩ := h
      simp only [Value.cells] at hx
      injection (by simpa using hx : [_] = x :: r) with hx1 hx2
      rw [hx1]; exact hr
  refine (law_call haf hRT).mono fun e W' ⟨he, hb⟩ => ?_
  subst he
  exact ⟨_, rfl, law_post hW' rfl rfl (by kernel_rfl) rfl rfl rfl hb⟩
set_option maxRecDepth 100000 in
theorem lifted (os : Os) (started : os.Started) (H : Type) (enc : TypeId × Value → H) :
    ReturnsInHanded {} Try.checked os 3 .any (Rows.layoutLaysSpec.pre6 enc Try.prog Try.f3 Rows.layoutLaysRow.domain false) (Rows.layoutLaysSpec.post enc Try.prog Try.f3 false true false false) := by
  refine returnsInHanded_of_change_sized (C := Try.checked) own started (by kernel_rfl) Try.func3
    (ChangeSpec.witness6 (enc := enc) (C := Try.checked) false ⟨#[], #[.slice none 0 0, .int .i64 0], []⟩ 8 (by kernel_rfl) (by kernel_rfl) (by kernel_rfl) (by kernel_rfl)) ?_
  intro W base args ds gs before hval hW _ hk _
  exact contract H enc W base args ds gs before hval hW hk
theorem proved : Rows.LayoutLaysSaid :=
  OpenClaim.holds_of_wide 3 Try.f3 rfl rfl rfl rfl rfl rfl rfl ⟨rfl, rfl, rfl, rfl, rfl⟩ rfl rfl rfl rfl rfl (by kernel_rfl) Try.func3 (by kernel_rfl)
    (of_decide_eq_true (by kernel_rfl)) (by unfold Func.isWrapper; first | (rw [if_pos (by decide +kernel)]; kernel_rfl) | (rw [if_neg (by decide +kernel)]; exact ⟨rfl, rfl⟩))
    (fun os started H enc _ => lifted os started H enc)
end Go.Proofs.Ytgjfiedepfjdcaa.layoutLays
