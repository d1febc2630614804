/-
  SchemeSaysUptoCardSaid: where the arguments are of bulk at most the bound, SchemeSays returns true and its arguments read afterwards asq before; the card of that row, over the given tie.
-/
import Derived.Test.YtllgibfmddihgaaDoorQSchemeSays14
import Derived.Deep.DeepHandedRow
import Derived.Lib.LaidTab
import Derived.Test.YtllgibfmddihgaaDoorCards
import Derived.Test.YtllgibfmddihgaaDoorTie
namespace Go.Proofs.YtllgibfmddihgaaDoor.schemeSays
open Go.ChangeShapes Go.WideShapes Go.ChangeAt Go.RowKit
theorem gTab : Tryd.prog.globalNamed "internal/strconv.uint64pow10" = some 0 := by kernel_rfl
theorem gType : (Tryd.prog.globals[0]?).map (·.type) = some 273 := by kernel_rfl
theorem cellsT : Tryd.prog.cellsOf 273 = 20 := by kernel_rfl
theorem cellsE : Tryd.prog.cellsOf 263 = 1 := by kernel_rfl
theorem kept : (Rows.schemeSaysUptoRow.laid.filter fun x => x.1 == "internal/strconv.uint64pow10") = [("internal/strconv.uint64pow10", Lib.tabData .u64 Lib.pow10Tab)] := by kernel_rfl
/-- what the row's list gives: the table that strconv.Itoa looks into -/
theorem glob {W : World} (h : laidMetH Tryd.prog Rows.schemeSaysUptoRow.laid W) : Glob W := by
  have h1 := laidMetH.filter (fun x => x.1 == "internal/strconv.uint64pow10") h
  rw [kept] at h1
  have h2 : Lib.TabIs Tryd.prog W "internal/strconv.uint64pow10" .u64 Lib.pow10Tab := Lib.tabIs_of_head (rest := []) gTab gType Tryd.underlying273 Tryd.underlying263 cellsE cellsT h1
  unfold Lib.TabIs World.var? at h2
  rw [gTab] at h2
  intro x hx
  simp only [globTab, List.mem_singleton] at hx
  subst hx
  simp only [Option.bind_some] at h2
  dsimp only
  split at h2
  · rename_i cs t fr he
    injection h2 with h2
    exact ⟨t, fr, by rw [he, h2]⟩
  · cases h2
set_option maxRecDepth 100000 in
theorem contract (H : Type) (enc : TypeId × Value → H) (W : World) (base : Nat) (args : Array Value) (ds gs : List (DataW H)) (before : List MemPlace)
    (hval : ∀ (j : Nat) t v, Tryd.f6.params[j]? = some t → args[j]? = some v → Value.okWide Tryd.prog W .any base t v)
    (hW : DataW.Whole enc Tryd.prog Tryd.f6.params.toList Rows.schemeSaysSpec.vars false W args.toList ds gs before) (hk : Rows.uptoSmall H (ds ++ gs) = true) (hL : laidMetH Tryd.prog Rows.schemeSaysUptoRow.laid W) :
    Calls Tryd.prog 6 args W fun e W' => ∃ v, e = .returned v ∧ Rows.schemeSaysSpec.post enc Tryd.prog Tryd.f6 false true false false W args v W' := by
  have hG := glob hL
  have hW' := hW
  obtain ⟨p, q, hA0, hV, rfl, hfz, hnd⟩ := hW
  have hA : DataW.TrodAll enc Tryd.prog W 0 (fun _ => true) true Tryd.f6.params.toList args.toList ds p := hA0
  rw [Tryd.params6] at hA hval
  obtain ⟨v0, vs0, d0, ds0, p0, q0, hargs, rfl, rfl, h0, r0⟩ := trodAll_cons hA
  obtain ⟨v1, vs1, d1, ds1, p1, q1, rfl, rfl, rfl, h1, r1⟩ := trodAll_cons r0
  obtain ⟨v2, vs2, d2, ds2, p2, q2, rfl, rfl, rfl, h2, r2⟩ := trodAll_cons r1
  obtain ⟨v3, vs3, d3, ds3, p3, q3, rfl, rfl, rfl, h3, r3⟩ := trodAll_cons r2
  obtain ⟨v4, vs4, d4, ds4, p4, q4, rfl, rfl, rfl, h4, r4⟩ := trodAll_cons r3
  obtain ⟨rfl, rfl, rfl⟩ := trodAll_nil r4
  obtain rfl : args = #[v0, v1, v2, v3, v4] := by cases args; simp_all
  obtain ⟨rfl, rfl⟩ := trodVars_none hV
  obtain ⟨c0, rfl, -⟩ := okWide_struct Tryd.underlying87 (hval 0 87 v0 rfl rfl)
  obtain ⟨a1, len1, cap1, rfl⟩ := okWide_slice Tryd.underlying88 (hval 1 88 v1 rfl rfl)
  obtain ⟨c2, rfl, -⟩ := okWide_struct Tryd.underlying64 (hval 2 64 v2 rfl rfl)
  obtain ⟨a3, len3, cap3, rfl⟩ := okWide_slice Tryd.underlying37 (hval 3 37 v3 rfl rfl)
  obtain ⟨z4, rfl⟩ := okWide_int Tryd.underlying3 (hval 4 3 v4 rfl rfl)
  obtain ⟨fuel0, hf0⟩ := h0
  obtain ⟨fuel1, hf1⟩ := h1
  obtain ⟨fuel2, hf2⟩ := h2
  obtain ⟨fuel3, hf3⟩ := h3
  obtain ⟨fuel4, hf4⟩ := h4
  obtain ⟨s, hs0, -, hb0⟩ := Mass.opensSc _ _ _ hf0
  obtain ⟨env, hs1, -, hb1⟩ := opens_slice Sc.ts Sc.mass 4 (by omega) Sc.ts_len Tryd.underlying88 Mass.cn_Sc (fun m _ => Mass.opensSc m) _ _ hf1
  obtain ⟨y, hs2, -, hb2⟩ := Mass.opensY _ _ _ hf2
  obtain ⟨l, hs3, -, hb3⟩ := opens_slice Y.ts Y.mass 3 (by omega) Y.ts_len Tryd.underlying37 cn_Y (fun m _ => Mass.opensY m) _ _ hf3
  obtain ⟨n, hs4, -, hb4⟩ := Mass.opens_far Tryd.underlying3 _ _ hf4
  have hkk : Rows.uptoBulkAll ([d0, d1, d2, d3, d4] ++ []) ≤ 1048576 := of_decide_eq_true hk
  simp only [List.append_nil, Rows.uptoBulkAll] at hkk
  dsimp only at hb0 hb1 hb2 hb3 hb4
  clear hA0 hA hval hargs
  have haf := schemeSays_law s env y l n (by omega) (by omega) (by omega) (by omega)
  have hRT : RTs (memOf W) [s.t, Sc.row env, y.t, Y.row l, .lit (.int .i64 n)] [.agg c0, .slice a1 len1 cap1, .agg c2, .slice a3 len3 cap3, .int .i64 z4] := by
    simp only [RTs]
    refine ⟨_, _, rfl, ?_, _, _, rfl, ?_, _, _, rfl, ?_, _, _, rfl, ?_, _, _, rfl, ?_, rfl⟩
    · simp only [Sc.t, RT]
      exact ⟨c0.toList, by simp, by simpa [Value.cells] using hs0⟩
    · have h := hs1
      simp only [RTs] at h
      obtain ⟨x, r, hx, hr, hr2⟩ := h
      simp only [Value.cells] at hx
      subst hr2
      simp only [List.cons.injEq, and_true] at hx
      subst hx
      exact hr
    · simp only [Y.t, RT]
      exact ⟨c2.toList, by simp, by simpa [Value.cells] using hs2⟩
    · have h := hs3
      simp only [RTs] at h
      obtain ⟨x, r, hx, hr, hr2⟩ := h
      simp only [Value.cells] at hx
      subst hr2
      simp only [List.cons.injEq, and_true] at hx
      subst hx
      simpa [Y.row, Y.all_eq] using hr
    · have h := hs4
      simp only [RTs] at h
      obtain ⟨x, r, hx, hr, hr2⟩ := h
      simp only [Value.cells] at hx
      subst hr2
      simp only [List.cons.injEq, and_true] at hx
      subst hx
      exact hr
  refine (law_call haf hRT hG).mono fun e W' ⟨he, hb⟩ => ?_
  subst he
  exact ⟨_, rfl, law_post hW' rfl rfl (by kernel_rfl) rfl rfl rfl hb⟩
/-- a world for the witness: the settled one, each table holding what its initialiser lays -/
def litCells : DataW Unit → Array Value
  | .agg l => (l.map fun | .lit (.int k z) => Value.int k z | _ => .int .i64 0).toArray
  | _ => #[]
def putTab (h : Array Obj) (g : Nat) (d : DataW Unit) : Array Obj := h.modify g fun
  | .cells _ t fr => .cells (litCells d) t fr
  | o => o
def empty0 : Value := .agg #[.slice none 0 0, .int .i64 0, .string ⟨#[]⟩, .slice none 0 0]
def emptyD0 {H : Type} : DataW H := .agg [.nil, .agg [.lit (.int .i64 0), .lit (.string []), .nil]]
def empty1 : Value := .slice none 0 0
def emptyD1 {H : Type} : DataW H := .nil
def empty2 : Value := .agg #[.int .i64 0, .string ⟨#[]⟩, .slice none 0 0]
def emptyD2 {H : Type} : DataW H := .agg [.lit (.int .i64 0), .lit (.string []), .nil]
def empty3 : Value := .slice none 0 0
def emptyD3 {H : Type} : DataW H := .nil
def empty4 : Value := .int .i64 0
def emptyD4 {H : Type} : DataW H := .lit (.int .i64 0)
noncomputable def laidWorld (os : Os) : World :=
  { World.holding Tryd.prog os ⟨#[], #[], []⟩ with heap := putTab (putTab (putTab (World.holding Tryd.prog os ⟨#[], #[], []⟩).heap 0 Rows.laid_internal_strconv_uint64pow10) 1 Rows.laid_math_bits_deBruijn32tab) 2 Rows.laid_math_bits_deBruijn64tab }
theorem laid_met (os : Os) : laidMet Tryd.prog Rows.schemeSaysUptoRow.laid ((laidWorld os).forCall (fun _ _ => 0) ⟨#[], #[empty0, empty1, empty2, empty3, empty4], []⟩).memory :=
  laidMet_of_run' 8 (by kernel_rfl) (by kernel_rfl)
theorem reads (os : Os) {H : Type} (enc : TypeId × Value → H) : ∃ places, DataW.whole enc Tryd.prog ((laidWorld os).forCall (fun _ _ => 0) ⟨#[], #[empty0, empty1, empty2, empty3, empty4], []⟩).memory Tryd.f6.params.toList Rows.schemeSaysSpec.vars false #[empty0, empty1, empty2, empty3, empty4].toList 8 = some ([emptyD0, emptyD1, emptyD2, emptyD3, emptyD4], [], places) :=
  ⟨[], by kernel_rfl⟩
set_option maxRecDepth 100000 in
theorem lifted (os : Os) (started : os.Started) (H : Type) (enc : TypeId × Value → H) (F : Stop.Interp) :
    ReturnsInHanded {} Tryd.checked os 6 .any ((Rows.OpenSpec.upto Rows.schemeSaysSpec).preRow enc Tryd.prog Tryd.f6 Rows.schemeSaysUptoRow.domain false Rows.schemeSaysUptoRow.laid) (((Rows.OpenSpec.upto Rows.schemeSaysSpec).at F).post enc Tryd.prog Tryd.f6 false true false false) := by
  obtain ⟨places, hx⟩ := reads os enc
  refine returnsInHanded_of_row (C := Tryd.checked) (s := Rows.OpenSpec.upto Rows.schemeSaysSpec) own started (by kernel_rfl) Tryd.func6
    (witness_row_at (enc := enc) (C := Tryd.checked) false (laidWorld os) #[empty0, empty1, empty2, empty3, empty4] rfl (by kernel_rfl) (by kernel_rfl) (by kernel_rfl)
      (OpenSpec.preRow_of_cond 8 hx (by kernel_rfl) (fun k hk => by cases hk; kernel_rfl) (by kernel_rfl) (laid_met os))) ?_
  intro W base args ds gs before hval hW _ hcond _ hL _ _
  exact contract H enc W base args ds gs before hval hW (hcond _ rfl) hL
theorem said : Rows.SchemeSaysUptoSaid :=
  OpenClaim.holds_of_cond 6 Tryd.f6 rfl rfl rfl rfl rfl rfl rfl ⟨rfl, rfl, rfl, rfl, rfl⟩ rfl rfl rfl rfl rfl (by kernel_rfl) Tryd.func6 (by kernel_rfl)
    (of_decide_eq_true (by kernel_rfl)) (by unfold Func.isWrapper; first | (rw [if_pos (by decide +kernel)]; kernel_rfl) | (rw [if_neg (by decide +kernel)]; exact ⟨rfl, rfl⟩))
    (fun os started H enc _ F => by rw [OpenClaim.pre_eq_preRow]; exact lifted os started H enc F)
theorem plain (f : FuncId) (fn : Func) (hf : Tryd.pinned.checked.prog.funcNamed "roadstead/roadlaw2.SchemeSays" = some f) (hfn : Tryd.pinned.checked.prog.funcs[f]? = some fn) :
    false = Tryd.pinned.checked.prog.looks [] ∧ ∀ (j : Nat) t, fn.params[j]? = some t → Tryd.pinned.checked.prog.wantsStandIn t = false := by
  obtain rfl : f = 6 := Option.some.inj ((show Tryd.prog.funcNamed "roadstead/roadlaw2.SchemeSays" = some 6 by kernel_rfl).symm.trans hf) |>.symm
  obtain rfl : fn = Tryd.f6 := (Option.some.inj (Tryd.func6.symm.trans hfn)).symm
  refine ⟨by kernel_rfl, fun j t ht => ?_⟩
  rw [Tryd.params6] at ht
  have hm := Array.mem_of_getElem? ht
  simp only [List.mem_toArray, List.mem_cons, List.not_mem_nil, or_false] at hm
  rcases hm with rfl | rfl | rfl | rfl | rfl
  · exact (show Tryd.prog.wantsStandIn 87 = false by kernel_rfl)
  · exact (show Tryd.prog.wantsStandIn 88 = false by kernel_rfl)
  · exact (show Tryd.prog.wantsStandIn 64 = false by kernel_rfl)
  · exact (show Tryd.prog.wantsStandIn 37 = false by kernel_rfl)
  · exact (show Tryd.prog.wantsStandIn 3 = false by kernel_rfl)
theorem proved : Rows.SchemeSaysUptoCardSaid :=
  Claim7.holds_tied_plain_at .later [] _ _ _ _ said (fun _ h => by cases h) (by kernel_rfl) (fun _ h => by cases h) schemeSaysUpto_row_tie rfl ⟨rfl, rfl⟩ (by kernel_rfl) rfl plain (by kernel_rfl)
end Go.Proofs.YtllgibfmddihgaaDoor.schemeSays
