/-
  RenewBackUptoSaid: where the arguments are of bulk at most the bound, RenewBack returns true and its arguments read afterwards as before. No further condition.
-/
import Derived.Test.YtdajeoifmfbgkaaTlaw2
import Derived.Test.YtdajeoifmfbgkaaOpenR
namespace Go.Proofs.Ytdajeoifmfbgkaa.renewBack
open Go.ChangeShapes Go.WideShapes Go.ChangeAt Go.RowKit

theorem sum_mem {α : Type} (μ : α → Nat) : ∀ {l : List α} {a : α}, a ∈ l → μ a ≤ (l.map μ).sum
  | [], _, h => by simp at h
  | x :: l, a, h => by
    simp only [List.map_cons, List.sum_cons]
    rcases List.mem_cons.1 h with rfl | h
    · omega
    · have := sum_mem μ h; omega
theorem V.size_pos : ∀ v : V, 1 ≤ v.size
  | .mk _ _ _ _ => by simp [V.size]
theorem len_sum {α : Type} (μ : α → Nat) (h : ∀ a, 1 ≤ μ a) : ∀ l : List α, l.length ≤ (l.map μ).sum
  | [] => by simp
  | x :: l => by have := h x; have := len_sum μ h l; simp only [List.map_cons, List.sum_cons, List.length_cons]; omega

set_option maxRecDepth 100000 in
theorem contract (H : Type) (enc : TypeId × Value → H) (W : World) (base : Nat) (args : Array Value) (ds gs : List (DataW H)) (before : List MemPlace)
    (hval : ∀ (j : Nat) t v, Try.f4.params[j]? = some t → args[j]? = some v → Value.okWide Try.prog W .any base t v)
    (hW : DataW.Whole enc Try.prog Try.f4.params.toList Rows.renewBackSpec.vars false W args.toList ds gs before) (hk : Rows.uptoSmall H (ds ++ gs) = true) :
    Calls Try.prog 4 args W fun e W' => ∃ v, e = .returned v ∧ Rows.renewBackSpec.post enc Try.prog Try.f4 false true false false W args v W' := by
  have hW' := hW
  obtain ⟨p, q, hA0, hV, rfl, hfz, hnd⟩ := hW
  have hA : DataW.TrodAll enc Try.prog W 0 (fun _ => true) true Try.f4.params.toList args.toList ds p := hA0
  rw [Try.params4] at hA hval
  obtain ⟨v0, vs0, d0, ds0, p0, q0, hargs, rfl, rfl, h0, r0⟩ := trodAll_cons hA
  obtain ⟨v1, vs1, d1, ds1, p1, q1, rfl, rfl, rfl, h1, r1⟩ := trodAll_cons r0
  obtain ⟨v2, vs2, d2, ds2, p2, q2, rfl, rfl, rfl, h2, r2⟩ := trodAll_cons r1
  obtain ⟨rfl, rfl, rfl⟩ := trodAll_nil r2
  obtain rfl : args = #[v0, v1, v2] := by cases args; simp_all
  obtain ⟨rfl, rfl⟩ := trodVars_none hV
  obtain ⟨c0, rfl, -⟩ := okWide_struct Try.underlying40 (hval 0 40 v0 rfl rfl)
  obtain ⟨c1, rfl, -⟩ := okWide_struct Try.underlying43 (hval 1 43 v1 rfl rfl)
  obtain ⟨a2, len2, cap2, rfl⟩ := okWide_slice Try.underlying37 (hval 2 37 v2 rfl rfl)
  obtain ⟨fuel0, hf0⟩ := h0
  obtain ⟨fuel2, hf2⟩ := h2
  obtain ⟨fuel1, hf1⟩ := h1
  obtain ⟨s, hs, -, hb0⟩ := opensSav _ _ _ hf0
  obtain ⟨l, hl, -, hb1⟩ := opensWay _ _ _ hf1
  obtain ⟨vs, hv, -, hb2⟩ := opensVs _ _ _ hf2
  have hkk : Rows.uptoBulkAll ([d0, d1, d2] ++ []) ≤ 1048576 := of_decide_eq_true hk
  simp only [List.append_nil, Rows.uptoBulkAll] at hkk
  dsimp only at hb0 hb1 hb2
  clear hA0 hA hval hargs
  obtain ⟨act, st, inp⟩ := s
  dsimp only at hb0
  have hm : ∀ m ∈ l, m.bulk ≤ 1048576 := fun m hm => by have := sum_mem Mov.bulk hm; omega
  have hfs : ∀ m ∈ l, (m.fields.map fun f => f.first.size).sum ≤ 1048576 ∧ m.lost.length ≤ 1048576 := fun m hmm => by have := hm m hmm; unfold Mov.bulk at this; omega
  have haf := renewBack_law act st inp l vs (fun m hmm => ⟨by have := (hfs m hmm).1; have := len_sum (fun f : Fld => f.first.size) (fun f => V.size_pos _) m.fields; omega, (hfs m hmm).2⟩)
    (fun v hv => by have := V.size_mem hv; omega) (by have := V.len_sizes st; omega) (fun v hv => by have := V.size_mem hv; omega) (by have := V.len_sizes vs; omega) (fun x hx => by have := sum_mem (fun x : Inp => x.val.size) hx; omega)
    (fun m hmm f hf => by have := (hfs m hmm).1; have := sum_mem (fun f : Fld => f.first.size) hf; omega)
  have hRT : RTs (memOf W) [Sav.t ⟨act, st, inp⟩, wayT l, V.row vs] [.agg c0, .agg c1, .slice a2 len2 cap2] := by
    simp only [RTs]
    refine ⟨_, _, rfl, ?_, _, _, rfl, ?_, _, _, rfl, ?_, rfl⟩
    · simp only [Sav.t, RT]
      exact ⟨c0.toList, by simp, by simpa [Value.cells, Sav.cells] using hs⟩
    · simp only [wayT, RT]
      exact ⟨c1.toList, by simp, by simpa [Value.cells] using hl⟩
    · have hv' : RTs (memOf W) [V.row vs] [.slice a2 len2 cap2] := by simpa [Value.cells] using hv
      simp only [RTs] at hv'
      obtain ⟨x, r, e, h1, _⟩ := hv'
      injection e with e _
      subst e
      exact h1
  refine (law_call haf hRT).mono fun e W' ⟨he, hb⟩ => ?_
  subst he
  exact ⟨_, rfl, law_post hW' rfl rfl (by kernel_rfl) rfl rfl rfl hb⟩

set_option maxRecDepth 100000 in
theorem lifted (os : Os) (started : os.Started) (H : Type) (enc : TypeId × Value → H) (F : Stop.Interp) :
    ReturnsInHanded {} Try.checked os 4 .any ((Rows.OpenSpec.upto Rows.renewBackSpec).pre6 enc Try.prog Try.f4 Rows.renewBackUptoRow.domain false) (((Rows.OpenSpec.upto Rows.renewBackSpec).at F).post enc Try.prog Try.f4 false true false false) := by
  refine returnsInHanded_of_cond (C := Try.checked) (s := Rows.OpenSpec.upto Rows.renewBackSpec) (k := Rows.uptoSmall) rfl own started (by kernel_rfl) Try.func4
    (OpenSpec.witness (enc := enc) (C := Try.checked) (s := Rows.OpenSpec.upto Rows.renewBackSpec) (k := Rows.uptoSmall) rfl false ⟨#[], #[.agg #[.string ⟨#[]⟩, .slice none 0 0, .slice none 0 0], .agg #[.slice none 0 0], .slice none 0 0], []⟩ 8 (by kernel_rfl) (by kernel_rfl) (by kernel_rfl)
      (x := ([.agg [.lit (.string []), .nil, .nil], .agg [.nil], .nil], [], [])) (by kernel_rfl) rfl (by kernel_rfl)) ?_
  intro W base args ds gs before hval hW _ hk _
  exact contract H enc W base args ds gs before hval hW hk

theorem proved : Rows.RenewBackUptoSaid :=
  OpenClaim.holds_of_cond 4 Try.f4 rfl rfl rfl rfl rfl rfl rfl ⟨rfl, rfl, rfl, rfl, rfl⟩ rfl rfl rfl rfl rfl (by kernel_rfl) Try.func4 (by kernel_rfl)
    (of_decide_eq_true (by kernel_rfl)) (by unfold Func.isWrapper; first | (rw [if_pos (by decide +kernel)]; kernel_rfl) | (rw [if_neg (by decide +kernel)]; exact ⟨rfl, rfl⟩))
    (fun os started H enc _ F => lifted os started H enc F)

end Go.Proofs.Ytdajeoifmfbgkaa.renewBack
