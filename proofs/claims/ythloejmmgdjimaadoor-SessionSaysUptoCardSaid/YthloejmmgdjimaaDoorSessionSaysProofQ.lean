/-
  SessionSaysUptoCardSaid: where the arguments are of bulk at most the bound, SessionSays returns true and its arguments read afterwards asq before; the card of that row, over the given tie.
-/
import Derived.Test.YthloejmmgdjimaaDoorQSessionSays13
import Derived.Deep.DeepHandedRow
import Derived.Lib.LaidTab
import Derived.Test.YthloejmmgdjimaaDoorCards
import Derived.Test.YthloejmmgdjimaaDoorTie
namespace Go.Proofs.YthloejmmgdjimaaDoor.sessionSays
open Go.ChangeShapes Go.WideShapes Go.ChangeAt Go.RowKit
theorem gTab : Tryd.prog.globalNamed "internal/strconv.uint64pow10" = some 0 := by kernel_rfl
theorem gType : (Tryd.prog.globals[0]?).map (·.type) = some 89 := by kernel_rfl
theorem cellsT : Tryd.prog.cellsOf 89 = 20 := by kernel_rfl
theorem cellsE : Tryd.prog.cellsOf 82 = 1 := by kernel_rfl
theorem kept : (Rows.sessionSaysUptoRow.laid.filter fun x => x.1 == "internal/strconv.uint64pow10") = [("internal/strconv.uint64pow10", Lib.tabData .u64 Lib.pow10Tab)] := by kernel_rfl
/-- what the row's list gives: the table that strconv.Itoa looks into -/
theorem glob {W : World} (h : laidMetH Tryd.prog Rows.sessionSaysUptoRow.laid W) : Glob W := by
  have h1 := laidMetH.filter (fun x => x.1 == "internal/strconv.uint64pow10") h
  rw [kept] at h1
  have h2 : Lib.TabIs Tryd.prog W "internal/strconv.uint64pow10" .u64 Lib.pow10Tab := Lib.tabIs_of_head (rest := []) gTab gType Tryd.underlying89 Tryd.underlying82 cellsE cellsT h1
  unfold Lib.TabIs World.var? at h2
  rw [gTab] at h2
  intro x hx
  simp only [globTab, List.mem_singleton] at hx
  subst hx
  simp only [Option.bind_some] at h2
  dsimp only
  split at h2
  · rename_i cs t fr he
    injection h2 with h2
    exact ⟨t, fr, by rw [he, h2]⟩
  · cases h2
set_option maxRecDepth 100000 in
theorem contract (H : Type) (enc : TypeId × Value → H) (W : World) (base : Nat) (args : Array Value) (ds gs : List (DataW H)) (before : List MemPlace)
    (hval : ∀ (j : Nat) t v, Tryd.f3.params[j]? = some t → args[j]? = some v → Value.okWide Tryd.prog W .any base t v)
    (hW : DataW.Whole enc Tryd.prog Tryd.f3.params.toList Rows.sessionSaysSpec.vars false W args.toList ds gs before) (hk : Rows.uptoSmall H (ds ++ gs) = true) (hL : laidMetH Tryd.prog Rows.sessionSaysUptoRow.laid W) :
    Calls Tryd.prog 3 args W fun e W' => ∃ v, e = .returned v ∧ Rows.sessionSaysSpec.post enc Tryd.prog Tryd.f3 false true false false W args v W' := by
  have hG := glob hL
  have hW' := hW
  obtain ⟨p, q, hA0, hV, rfl, hfz, hnd⟩ := hW
  have hA : DataW.TrodAll enc Tryd.prog W 0 (fun _ => true) true Tryd.f3.params.toList args.toList ds p := hA0
  rw [Tryd.params3] at hA hval
  obtain ⟨v0, vs0, d0, ds0, p0, q0, hargs, rfl, rfl, h0, r0⟩ := trodAll_cons hA
  obtain ⟨v1, vs1, d1, ds1, p1, q1, rfl, rfl, rfl, h1, r1⟩ := trodAll_cons r0
  obtain ⟨v2, vs2, d2, ds2, p2, q2, rfl, rfl, rfl, h2, r2⟩ := trodAll_cons r1
  obtain ⟨rfl, rfl, rfl⟩ := trodAll_nil r2
  obtain rfl : args = #[v0, v1, v2] := by cases args; simp_all
  obtain ⟨rfl, rfl⟩ := trodVars_none hV
  obtain ⟨a0, len0, cap0, rfl⟩ := okWide_slice Tryd.underlying22 (hval 0 22 v0 rfl rfl)
  obtain ⟨a1, len1, cap1, rfl⟩ := okWide_slice Tryd.underlying22 (hval 1 22 v1 rfl rfl)
  obtain ⟨a2, len2, cap2, rfl⟩ := okWide_slice Tryd.underlying23 (hval 2 23 v2 rfl rfl)
  obtain ⟨fuel0, hf0⟩ := h0
  obtain ⟨fuel1, hf1⟩ := h1
  obtain ⟨fuel2, hf2⟩ := h2
  obtain ⟨a, hs0, -, hb0⟩ := opensSes _ _ _ hf0
  obtain ⟨b, hs1, -, hb1⟩ := opensSes _ _ _ hf1
  obtain ⟨ws, hs2, -, hb2⟩ := opensWds _ _ _ hf2
  have hkk : Rows.uptoBulkAll ([d0, d1, d2] ++ []) ≤ 1048576 := of_decide_eq_true hk
  simp only [List.append_nil, Rows.uptoBulkAll] at hkk
  dsimp only at hb0 hb1 hb2
  clear hA0 hA hval hargs
  have haf := sessionSays_law a b ws (se_len (by omega)) (se_len (by omega)) (se_br (by omega)) (se_br (by omega)) (by omega)
  have hRT : RTs (memOf W) [seRow a, seRow b, wdRow ws] [.slice a0 len0 cap0, .slice a1 len1 cap1, .slice a2 len2 cap2] := by
    simp only [RTs]
    refine ⟨_, _, rfl, ?_, _, _, rfl, ?_, _, _, rfl, ?_, rfl⟩
    · have h := hs0
      simp only [RTs] at h
      obtain ⟨x, r, hx, hr, hr2⟩ := h
      simp only [Value.cells] at hx
      subst hr2
      simp only [List.cons.injEq, and_true] at hx
      subst hx
      exact hr
    · have h := hs1
      simp only [RTs] at h
      obtain ⟨x, r, hx, hr, hr2⟩ := h
      simp only [Value.cells] at hx
      subst hr2
      simp only [List.cons.injEq, and_true] at hx
      subst hx
      exact hr
    · have h := hs2
      simp only [RTs] at h
      obtain ⟨x, r, hx, hr, hr2⟩ := h
      simp only [Value.cells] at hx
      subst hr2
      simp only [List.cons.injEq, and_true] at hx
      subst hx
      exact hr
  refine (law_call haf hRT hG).mono fun e W' ⟨he, hb⟩ => ?_
  subst he
  exact ⟨_, rfl, law_post hW' rfl rfl (by kernel_rfl) rfl rfl rfl hb⟩
/-- a world for the witness: the settled one, each table holding what its initialiser lays -/
def litCells : DataW Unit → Array Value
  | .agg l => (l.map fun | .lit (.int k z) => Value.int k z | _ => .int .i64 0).toArray
  | _ => #[]
def putTab (h : Array Obj) (g : Nat) (d : DataW Unit) : Array Obj := h.modify g fun
  | .cells _ t fr => .cells (litCells d) t fr
  | o => o
def empty0 : Value := .slice none 0 0
def emptyD0 {H : Type} : DataW H := .nil
def empty1 : Value := .slice none 0 0
def emptyD1 {H : Type} : DataW H := .nil
def empty2 : Value := .slice none 0 0
def emptyD2 {H : Type} : DataW H := .nil
noncomputable def laidWorld (os : Os) : World :=
  { World.holding Tryd.prog os ⟨#[], #[], []⟩ with heap := putTab (putTab (putTab (World.holding Tryd.prog os ⟨#[], #[], []⟩).heap 0 Rows.laid_internal_strconv_uint64pow10) 1 Rows.laid_math_bits_deBruijn32tab) 2 Rows.laid_math_bits_deBruijn64tab }
theorem laid_met (os : Os) : laidMet Tryd.prog Rows.sessionSaysUptoRow.laid ((laidWorld os).forCall (fun _ _ => 0) ⟨#[], #[empty0, empty1, empty2], []⟩).memory :=
  laidMet_of_run' 8 (by kernel_rfl) (by kernel_rfl)
theorem reads (os : Os) {H : Type} (enc : TypeId × Value → H) : ∃ places, DataW.whole enc Tryd.prog ((laidWorld os).forCall (fun _ _ => 0) ⟨#[], #[empty0, empty1, empty2], []⟩).memory Tryd.f3.params.toList Rows.sessionSaysSpec.vars false #[empty0, empty1, empty2].toList 8 = some ([emptyD0, emptyD1, emptyD2], [], places) :=
  ⟨[], by kernel_rfl⟩
set_option maxRecDepth 100000 in
theorem lifted (os : Os) (started : os.Started) (H : Type) (enc : TypeId × Value → H) (F : Stop.Interp) :
    ReturnsInHanded {} Tryd.checked os 3 .any ((Rows.OpenSpec.upto Rows.sessionSaysSpec).preRow enc Tryd.prog Tryd.f3 Rows.sessionSaysUptoRow.domain false Rows.sessionSaysUptoRow.laid) (((Rows.OpenSpec.upto Rows.sessionSaysSpec).at F).post enc Tryd.prog Tryd.f3 false true false false) := by
  obtain ⟨places, hx⟩ := reads os enc
  refine returnsInHanded_of_row (C := Tryd.checked) (s := Rows.OpenSpec.upto Rows.sessionSaysSpec) own started (by kernel_rfl) Tryd.func3
    (witness_row_at (enc := enc) (C := Tryd.checked) false (laidWorld os) #[empty0, empty1, empty2] rfl (by kernel_rfl) (by kernel_rfl) (by kernel_rfl)
      (OpenSpec.preRow_of_cond 8 hx (by kernel_rfl) (fun k hk => by cases hk; kernel_rfl) (by kernel_rfl) (laid_met os))) ?_
  intro W base args ds gs before hval hW _ hcond _ hL _ _
  exact contract H enc W base args ds gs before hval hW (hcond _ rfl) hL
theorem said : Rows.SessionSaysUptoSaid :=
  OpenClaim.holds_of_cond 3 Tryd.f3 rfl rfl rfl rfl rfl rfl rfl ⟨rfl, rfl, rfl, rfl, rfl⟩ rfl rfl rfl rfl rfl (by kernel_rfl) Tryd.func3 (by kernel_rfl)
    (of_decide_eq_true (by kernel_rfl)) (by unfold Func.isWrapper; first | (rw [if_pos (by decide +kernel)]; kernel_rfl) | (rw [if_neg (by decide +kernel)]; exact ⟨rfl, rfl⟩))
    (fun os started H enc _ F => by rw [OpenClaim.pre_eq_preRow]; exact lifted os started H enc F)
theorem plain (f : FuncId) (fn : Func) (hf : Tryd.pinned.checked.prog.funcNamed "roadstead/roadlaw2.SessionSays" = some f) (hfn : Tryd.pinned.checked.prog.funcs[f]? = some fn) :
    false = Tryd.pinned.checked.prog.looks [] ∧ ∀ (j : Nat) t, fn.params[j]? = some t → Tryd.pinned.checked.prog.wantsStandIn t = false := by
  obtain rfl : f = 3 := Option.some.inj ((show Tryd.prog.funcNamed "roadstead/roadlaw2.SessionSays" = some 3 by kernel_rfl).symm.trans hf) |>.symm
  obtain rfl : fn = Tryd.f3 := (Option.some.inj (Tryd.func3.symm.trans hfn)).symm
  refine ⟨by kernel_rfl, fun j t ht => ?_⟩
  rw [Tryd.params3] at ht
  have hm := Array.mem_of_getElem? ht
  simp only [List.mem_toArray, List.mem_cons, List.not_mem_nil, or_false] at hm
  rcases hm with rfl | rfl | rfl
  · exact (show Tryd.prog.wantsStandIn 22 = false by kernel_rfl)
  · exact (show Tryd.prog.wantsStandIn 22 = false by kernel_rfl)
  · exact (show Tryd.prog.wantsStandIn 23 = false by kernel_rfl)
theorem proved : Rows.SessionSaysUptoCardSaid :=
  Claim7.holds_tied_plain_at .later [] _ _ _ _ said (fun _ h => by cases h) (by kernel_rfl) (fun _ h => by cases h) sessionSaysUpto_row_tie rfl ⟨rfl, rfl⟩ (by kernel_rfl) rfl plain (by kernel_rfl)
end Go.Proofs.YthloejmmgdjimaaDoor.sessionSays
