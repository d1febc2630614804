/-
  SolveChecksSaid: SolveChecks returns true for every input, and its arguments read afterwards as before. No condition beyond the form's own reach.
-/
import Derived.Test.YtdajeoifmfbgkaaSolveChecks
import Derived.Test.YtdajeoifmfbgkaaOpenUse
import Derived.Test.YtdajeoifmfbgkaaLaw
import Derived.SizedLaws
namespace Go.Proofs.Ytdajeoifmfbgkaa.solveChecks
open Go.ChangeShapes Go.WideShapes Go.ChangeAt Go.RowKit

theorem bytes_use : Try.prog.bytesOf 107 = 32 := by kernel_rfl

set_option maxRecDepth 100000 in
theorem reach {H : Type} {d0 d1 e0 e1 e3 e4 e5 e6 e7 : DataW H} {els sp : List (DataW H)}
    (h : (DataW.weightsEach Try.prog ([98, 73, 80] ++ []) ([d0, d1, .agg [e0, e1, .slice els sp, e3, e4, e5, e6, e7]] ++ [])).all (· ≤ reachBytes) = true) : els.length ≤ 4398046511104 := by
  simp only [List.append_nil, DataW.weightsEach, DataW.weights, Try.underlying80, Try.underlying73, List.all_append, List.all_cons, Bool.and_eq_true, decide_eq_true_eq, bytes_use, List.map_cons, List.map_nil] at h
  have h1 : (els.length + sp.length) * 32 ≤ reachBytes := h.2.2.2.2.1.1
  unfold reachBytes at h1
  omega

set_option maxRecDepth 100000 in
theorem contract (H : Type) (enc : TypeId × Value → H) (W : World) (base : Nat) (args : Array Value) (ds gs : List (DataW H)) (before : List MemPlace)
    (hval : ∀ (j : Nat) t v, Try.f8.params[j]? = some t → args[j]? = some v → Value.okWide Try.prog W .any base t v)
    (hW : DataW.Whole enc Try.prog Try.f8.params.toList Rows.solveChecksSpec.vars false W args.toList ds gs before)
    (hk : (DataW.weightsEach Try.prog (Try.f8.params.toList ++ Rows.solveChecksSpec.plain.varTypes Try.prog) (ds ++ gs)).all (· ≤ reachBytes) = true) :
    Calls Try.prog 8 args W fun e W' => ∃ v, e = .returned v ∧ Rows.solveChecksSpec.post enc Try.prog Try.f8 false true false false W args v W' := by
  have hW' := hW
  obtain ⟨p, q, hA0, hV, rfl, hfz, hnd⟩ := hW
  have hA : DataW.TrodAll enc Try.prog W 0 (fun _ => true) true Try.f8.params.toList args.toList ds p := hA0
  have hk' : (DataW.weightsEach Try.prog (Try.f8.params.toList ++ []) (ds ++ gs)).all (· ≤ reachBytes) = true := hk
  rw [Try.params8] at hA hval hk'
  obtain ⟨v0, vs0, d0, ds0, p0, q0, hargs, rfl, rfl, h0, r0⟩ := trodAll_cons hA
  obtain ⟨v1, vs1, d1, ds1, p1, q1, rfl, rfl, rfl, h1, r1⟩ := trodAll_cons r0
  obtain ⟨v2, vs2, d2, ds2, p2, q2, rfl, rfl, rfl, h2, r2⟩ := trodAll_cons r1
  obtain ⟨rfl, rfl, rfl⟩ := trodAll_nil r2
  obtain rfl : args = #[v0, v1, v2] := by cases args; simp_all
  obtain ⟨rfl, rfl⟩ := trodVars_none hV
  obtain ⟨a0, len0, cap0, rfl⟩ := okWide_slice Try.underlying98 (hval 0 98 v0 rfl rfl)
  obtain ⟨a1, len1, cap1, rfl⟩ := okWide_slice Try.underlying73 (hval 1 73 v1 rfl rfl)
  obtain ⟨pcs, rfl, -⟩ := okWide_struct Try.underlying80 (hval 2 80 v2 rfl rfl)
  obtain ⟨fuel0, hf0⟩ := h0
  obtain ⟨fuel1, hf1⟩ := h1
  obtain ⟨fuel2, hf2⟩ := h2
  obtain ⟨A1, n1, c1, x1, l, e1, -, -, hr1, hv1, hl⟩ := open_mods hf0
  obtain ⟨A2, n2, c2, x2, us, e2, -, -, hr2, hv2, hus, -⟩ := open_uses hf1
  obtain ⟨nm, ver, A3, n3, c3, x3, ps, z3, z4, z5, z6, z7, g0, g1, g2, g3, g4, g5, g6, g7, e3, hnm, -, -, hr3, hv3, -, hd, hsz⟩ := open_progUses hf2
  dsimp only at hd
  subst hd
  have hn3 : n3 ≤ 4398046511104 := by
    rcases hsz with ⟨h0, -⟩ | ⟨els, sp, rfl, hel⟩
    · omega
    · rw [← hel]; exact reach hk'
  have e1' : Value.slice a0 len0 cap0 = .slice A1 n1 c1 := by simpa [Value.cells] using e1
  have e2' : Value.slice a1 len1 cap1 = .slice A2 n2 c2 := by simpa [Value.cells] using e2
  have e3' : pcs = #[.string ⟨nm.toArray⟩, .int .i64 ver, .slice A3 n3 c3, z3, z4, z5, z6, z7] := by
    cases pcs
    simpa [Value.cells] using e3
  rw [e1', e2', e3'] at hW' ⊢
  clear hA0 hA hval hargs hk hk'
  refine (solveChecks_walk l hl us hus nm hnm ver ps z3 z4 z5 z6 z7 W _ A1 A2 A3 n1 c1 n2 c2 n3 c3 x1 x2 x3 hr1 hv1 hr2 hv2 hr3 hv3 hn3).mono fun e W' ⟨he, hb⟩ => ?_
  subst he
  exact ⟨_, rfl, law_post hW' rfl rfl (by kernel_rfl) rfl rfl rfl hb⟩

set_option maxRecDepth 100000 in
theorem lifted (os : Os) (started : os.Started) (H : Type) (enc : TypeId × Value → H) :
    ReturnsInHanded {} Try.checked os 8 .any (Rows.solveChecksSpec.pre6 enc Try.prog Try.f8 Rows.solveChecksRow.domain false) (Rows.solveChecksSpec.post enc Try.prog Try.f8 false true false false) := by
  refine returnsInHanded_of_change_sized (C := Try.checked) own started (by kernel_rfl) Try.func8
    (ChangeSpec.witness6 (enc := enc) (C := Try.checked) false ⟨#[], #[.slice none 0 0, .slice none 0 0, .agg #[.string ⟨#[]⟩, .int .i64 0, .slice none 0 0, .slice none 0 0, .slice none 0 0, .slice none 0 0, .slice none 0 0, .slice none 0 0]], []⟩ 8 (by kernel_rfl) (by kernel_rfl) (by kernel_rfl) (by kernel_rfl)) ?_
  intro W base args ds gs before hval hW _ hk _
  exact contract H enc W base args ds gs before hval hW hk

theorem proved : Rows.SolveChecksSaid :=
  OpenClaim.holds_of_wide 8 Try.f8 rfl rfl rfl rfl rfl rfl rfl ⟨rfl, rfl, rfl, rfl, rfl⟩ rfl rfl rfl rfl rfl (by kernel_rfl) Try.func8 (by kernel_rfl)
    (of_decide_eq_true (by kernel_rfl)) (by unfold Func.isWrapper; first | (rw [if_pos (by decide +kernel)]; kernel_rfl) | (rw [if_neg (by decide +kernel)]; exact ⟨rfl, rfl⟩))
    (fun os started H enc _ => lifted os started H enc)

end Go.Proofs.Ytdajeoifmfbgkaa.solveChecks
