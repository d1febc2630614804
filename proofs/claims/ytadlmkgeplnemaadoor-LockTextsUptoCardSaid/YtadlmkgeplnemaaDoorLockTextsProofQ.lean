/-
  LockTextsUptoCardSaid: where the arguments are of bulk at most the bound, LockTexts returns true and its arguments read afterwards asq before; the card of that row, over the given tie.
-/
import Derived.Test.YtadlmkgeplnemaaDoorQLockTexts9
import Derived.Deep.DeepHandedRow
import Derived.Lib.LaidTab
import Derived.Shelf.Vars
import Derived.Stop.ErrReads
import Derived.Stop.LaidErr
import Derived.Test.YtadlmkgeplnemaaDoorCards
import Derived.Test.YtadlmkgeplnemaaDoorTie
namespace Go.Proofs.YtadlmkgeplnemaaDoor.lockTexts
open Go.ChangeShapes Go.WideShapes Go.ChangeAt Go.RowKit
theorem gTab : Tryd.prog.globalNamed "internal/strconv.uint64pow10" = some 3 := by kernel_rfl
theorem gType : (Tryd.prog.globals[3]?).map (·.type) = some 118 := by kernel_rfl
theorem cellsT : Tryd.prog.cellsOf 118 = 20 := by kernel_rfl
theorem cellsE : Tryd.prog.cellsOf 97 = 1 := by kernel_rfl
theorem kept : (Rows.lockTextsUptoRow.laid.filter fun x => x.1 == "internal/strconv.uint64pow10") = [("internal/strconv.uint64pow10", Lib.tabData .u64 Lib.pow10Tab)] := by kernel_rfl
theorem gSyn : Tryd.prog.globalNamed "strconv.ErrSyntax" = some 1 := by kernel_rfl
theorem gSynT : (Tryd.prog.globals[1]?).map (·.type) = some 62 := by kernel_rfl
theorem gRng : Tryd.prog.globalNamed "strconv.ErrRange" = some 2 := by kernel_rfl
theorem gRngT : (Tryd.prog.globals[2]?).map (·.type) = some 62 := by kernel_rfl
theorem cells9 : Tryd.prog.cellsOf 9 = 1 := by kernel_rfl
theorem cellsS : Tryd.prog.cellsOf 125 = 1 := by kernel_rfl
theorem star : "*" ++ "errors.errorString" = "*errors.errorString" := by decide
theorem rowE (u : TypeId) (h : Tryd.prog.typeName? 3 u = some "*errors.errorString") : u = 123 :=
  typeName_ptr_named (nm := "errors.errorString") (by rw [star]; kernel_rfl) (by kernel_rfl) (by decide) u (by rw [star]; exact h)
theorem keptS : (Rows.lockTextsUptoRow.laid.filter fun x => x.1 == "strconv.ErrSyntax") = [("strconv.ErrSyntax", Rows.laid_strconv_ErrSyntax)] := by kernel_rfl
theorem keptR : (Rows.lockTextsUptoRow.laid.filter fun x => x.1 == "strconv.ErrRange") = [("strconv.ErrRange", Rows.laid_strconv_ErrRange)] := by kernel_rfl
theorem of_var {W : World} {n : String} {g : Nat} {cs : Array Value} (hg : Tryd.prog.globalNamed n = some g) (h : W.var? Tryd.prog n = some cs) : ∃ t fr, W.heap[g]? = some (.cells cs t fr) := by
  unfold World.var? at h
  rw [hg] at h
  simp only [Option.bind_some] at h
  split at h
  · rename_i cs' t fr he
    injection h with h
    exact ⟨t, fr, by rw [he, h]⟩
  · cases h
/-- what the row's list and the world's shape give: the table that strconv.Itoa looks into, a number, two errors -/
theorem glob {W : World} (h : laidMetH Tryd.prog Rows.lockTextsUptoRow.laid W) (hsh : W.ShapedOpen Tryd.prog) : Glob W := by
  have h1 := laidMetH.filter (fun x => x.1 == "internal/strconv.uint64pow10") h
  rw [kept] at h1
  have h2 : Lib.TabIs Tryd.prog W "internal/strconv.uint64pow10" .u64 Lib.pow10Tab := Lib.tabIs_of_head (rest := []) gTab gType Tryd.underlying118 Tryd.underlying97 cellsE cellsT h1
  obtain ⟨t1, f1, e1⟩ := of_var gTab h2
  have h3 := laidMetH.filter (fun x => x.1 == "strconv.ErrSyntax") h
  rw [keptS] at h3
  obtain ⟨aS, sS, hvs, -, -, -⟩ := laid_sentinel (r := []) h3 gSyn gSynT Tryd.underlying62 rowE Tryd.underlying123 Tryd.underlying125 rfl rfl Tryd.underlying9 cellsS cells9
  obtain ⟨t2, f2, e2⟩ := of_var gSyn hvs
  have h4 := laidMetH.filter (fun x => x.1 == "strconv.ErrRange") h
  rw [keptR] at h4
  obtain ⟨aR, sR, hvr, -, -, -⟩ := laid_sentinel (r := []) h4 gRng gRngT Tryd.underlying62 rowE Tryd.underlying123 Tryd.underlying125 rfl rfl Tryd.underlying9 cellsS cells9
  obtain ⟨t3, f3, e3⟩ := of_var gRng hvr
  obtain ⟨m, hm⟩ := cell_of_shapedOpen_int (zero := #[.int .i64 0]) (t := 3) (g := 0) hsh (of_decide_eq_true (by kernel_rfl)) (by kernel_rfl) rfl (by kernel_rfl) (by kernel_rfl) Tryd.underlying3
  obtain ⟨cs, hh, hz, -⟩ := hsh.1 0 #[.int .i64 0] 3 (of_decide_eq_true (by kernel_rfl)) (by kernel_rfl)
  have hcs : cs = #[.int .i64 m] := by
    have hz : cs.size = 1 := hz
    simp [World.cell?, hh] at hm
    apply Array.ext
    · rw [hz]; rfl
    · intro i h5 h6
      have h0 : i = 0 := by omega
      subst h0
      have := Array.getElem?_eq_some_iff.1 hm
      obtain ⟨_, h7⟩ := this
      rw [h7]; rfl
  intro x hx
  simp only [globTab, List.mem_cons, List.not_mem_nil, or_false] at hx
  rcases hx with rfl | rfl | rfl | rfl
  · exact ⟨_, t1, f1, rfl, e1⟩
  · exact ⟨cs, _, _, ⟨m, hcs⟩, hh⟩
  · exact ⟨_, t2, f2, ⟨_, rfl, .inr ⟨_, _, rfl⟩⟩, e2⟩
  · exact ⟨_, t3, f3, ⟨_, rfl, .inr ⟨_, _, rfl⟩⟩, e3⟩
set_option maxRecDepth 100000 in
theorem contract (H : Type) (enc : TypeId × Value → H) (W : World) (base : Nat) (args : Array Value) (ds gs : List (DataW H)) (before : List MemPlace)
    (hval : ∀ (j : Nat) t v, Tryd.f3.params[j]? = some t → args[j]? = some v → Value.okWide Tryd.prog W .any base t v)
    (hW : DataW.Whole enc Tryd.prog Tryd.f3.params.toList Rows.lockTextsSpec.vars false W args.toList ds gs before) (hk : Rows.uptoSmall H (ds ++ gs) = true) (hL : laidMetH Tryd.prog Rows.lockTextsUptoRow.laid W) (hsh : W.ShapedOpen Tryd.prog) :
    Calls Tryd.prog 3 args W fun e W' => ∃ v, e = .returned v ∧ Rows.lockTextsSpec.post enc Tryd.prog Tryd.f3 false true false false W args v W' := by
  have hG := glob hL hsh
  have hW' := hW
  obtain ⟨p, q, hA0, hV, rfl, hfz, hnd⟩ := hW
  have hA : DataW.TrodAll enc Tryd.prog W 0 (fun _ => true) true Tryd.f3.params.toList args.toList ds p := hA0
  rw [Tryd.params3] at hA hval
  obtain ⟨v0, vs0, d0, ds0, p0, q0, hargs, rfl, rfl, h0, r0⟩ := trodAll_cons hA
  obtain ⟨v1, vs1, d1, ds1, p1, q1, rfl, rfl, rfl, h1, r1⟩ := trodAll_cons r0
  obtain ⟨rfl, rfl, rfl⟩ := trodAll_nil r1
  obtain rfl : args = #[v0, v1] := by cases args; simp_all
  obtain ⟨rfl, rfl⟩ := trodVars_none hV
  obtain ⟨a0, len0, cap0, rfl⟩ := okWide_slice Tryd.underlying22 (hval 0 22 v0 rfl rfl)
  obtain ⟨z1, rfl⟩ := okWide_string Tryd.underlying9 (hval 1 9 v1 rfl rfl)
  obtain ⟨fuel0, hf0⟩ := h0
  obtain ⟨fuel1, hf1⟩ := h1
  obtain ⟨l, hs0, -, hb0⟩ := opensPkl _ _ _ hf0
  obtain ⟨s, hs1, -, hb1⟩ := opens_strz Tryd.underlying9 _ _ hf1
  have hkk : Rows.uptoBulkAll ([d0, d1] ++ []) ≤ 1048576 := of_decide_eq_true hk
  simp only [List.append_nil, Rows.uptoBulkAll] at hkk
  dsimp only at hb0 hb1
  clear hA0 hA hval hargs
  have haf := lockTexts_law l s (fun p hp => by have := Pk.name_le hp; omega) (by omega)
  have hRT : RTs (memOf W) [Pk.row l, .lit (.string s)] [.slice a0 len0 cap0, .string z1] := by
    simp only [RTs]
    refine ⟨_, _, rfl, ?_, _, _, rfl, ?_, rfl⟩
    · have h := hs0
      simp only [RTs] at h
      obtain ⟨x, r, hx, hr, hr2⟩ := h
      simp only [Value.cells] at hx
      subst hr2
      simp only [List.cons.injEq, and_true] at hx
      subst hx
      exact hr
    · have h := hs1
      simp only [RTs] at h
      obtain ⟨x, r, hx, hr, hr2⟩ := h
      simp only [Value.cells] at hx
      subst hr2
      simp only [List.cons.injEq, and_true] at hx
      subst hx
      exact hr
  refine (law_call haf hRT hG).mono fun e W' ⟨he, hb⟩ => ?_
  subst he
  exact ⟨_, rfl, law_post hW' rfl rfl (by kernel_rfl) rfl rfl rfl hb⟩
/-- a world for the witness: the settled one, each listed variable holding what its initialiser lays -/
def litCell : DataW Unit → List Value
  | .lit (.int k z) => [.int k z]
  | .agg l => l.flatMap fun | .lit (.int k z) => [Value.int k z] | _ => []
  | _ => []
def litCells : DataW Unit → Array Value
  | .agg l => (l.flatMap litCell).toArray
  | _ => #[]
def putTab (h : Array Obj) (g : Nat) (d : DataW Unit) : Array Obj := h.modify g fun
  | .cells _ t fr => .cells (litCells d) t fr
  | o => o
def putErr (h : Array Obj) (g b : Nat) : Array Obj := h.modify g fun
  | .cells _ t fr => .cells #[.iface 123 (.pointer (some ⟨b, 0, none⟩))] t fr
  | o => o
noncomputable def low : Nat := (World.holding Tryd.prog default ⟨#[], #[], []⟩).heap.size
def rngS : ByteArray := ⟨#[118, 97, 108, 117, 101, 32, 111, 117, 116, 32, 111, 102, 32, 114, 97, 110, 103, 101]⟩
def synS : ByteArray := ⟨#[105, 110, 118, 97, 108, 105, 100, 32, 115, 121, 110, 116, 97, 120]⟩
def empty0 : Value := .slice none 0 0
def emptyD0 {H : Type} : DataW H := .nil
def empty1 : Value := .string ⟨#[]⟩
def emptyD1 {H : Type} : DataW H := .lit (.string [])
noncomputable def laidWorld (os : Os) : World :=
  let w0 := World.holding Tryd.prog os ⟨#[.cells #[.string rngS] 125, .cells #[.string synS] 125], #[], []⟩
  { w0 with heap := putErr (putErr (putTab (putTab (putTab (putTab (putTab w0.heap 3 Rows.laid_internal_strconv_uint64pow10) 6 Rows.laid_math_bits_deBruijn32tab) 7 Rows.laid_math_bits_deBruijn64tab) 5 Rows.laid_unicode_utf8_acceptRanges) 4 Rows.laid_unicode_utf8_first) 2 low) 1 (low + 1) }
theorem laid_met (os : Os) : laidMet Tryd.prog Rows.lockTextsUptoRow.laid ((laidWorld os).forCall (fun _ _ => 0) ⟨#[], #[empty0, empty1], []⟩).memory :=
  laidMet_of_run' 8 (by kernel_rfl) (by kernel_rfl)
theorem reads (os : Os) {H : Type} (enc : TypeId × Value → H) : ∃ places, DataW.whole enc Tryd.prog ((laidWorld os).forCall (fun _ _ => 0) ⟨#[], #[empty0, empty1], []⟩).memory Tryd.f3.params.toList Rows.lockTextsSpec.vars false #[empty0, empty1].toList 8 = some ([emptyD0, emptyD1], [], places) :=
  ⟨[], by kernel_rfl⟩
set_option maxRecDepth 100000 in
theorem lifted (os : Os) (started : os.Started) (H : Type) (enc : TypeId × Value → H) (F : Stop.Interp) :
    ReturnsInHanded {} Tryd.checked os 3 .any ((Rows.OpenSpec.upto Rows.lockTextsSpec).preRow enc Tryd.prog Tryd.f3 Rows.lockTextsUptoRow.domain false Rows.lockTextsUptoRow.laid) (((Rows.OpenSpec.upto Rows.lockTextsSpec).at F).post enc Tryd.prog Tryd.f3 false true false false) := by
  obtain ⟨places, hx⟩ := reads os enc
  refine returnsInHanded_of_row (C := Tryd.checked) (s := Rows.OpenSpec.upto Rows.lockTextsSpec) own started (by kernel_rfl) Tryd.func3
    (witness_row_at (enc := enc) (C := Tryd.checked) false (laidWorld os) #[empty0, empty1] rfl (by kernel_rfl) (by kernel_rfl) (by kernel_rfl)
      (OpenSpec.preRow_of_cond 8 hx (by kernel_rfl) (fun k hk => by cases hk; kernel_rfl) (by kernel_rfl) (laid_met os))) ?_
  intro W base args ds gs before hval hW _ hcond _ hL hsh _
  exact contract H enc W base args ds gs before hval hW (hcond _ rfl) hL hsh
theorem said : Rows.LockTextsUptoSaid :=
  OpenClaim.holds_of_cond 3 Tryd.f3 rfl rfl rfl rfl rfl rfl rfl ⟨rfl, rfl, rfl, rfl, rfl⟩ rfl rfl rfl rfl rfl (by kernel_rfl) Tryd.func3 (by kernel_rfl)
    (of_decide_eq_true (by kernel_rfl)) (by unfold Func.isWrapper; first | (rw [if_pos (by decide +kernel)]; kernel_rfl) | (rw [if_neg (by decide +kernel)]; exact ⟨rfl, rfl⟩))
    (fun os started H enc _ F => by rw [OpenClaim.pre_eq_preRow]; exact lifted os started H enc F)
theorem plain (f : FuncId) (fn : Func) (hf : Tryd.pinned.checked.prog.funcNamed "roadstead/roadlaw5.LockTexts" = some f) (hfn : Tryd.pinned.checked.prog.funcs[f]? = some fn) :
    true = Tryd.pinned.checked.prog.looks [] ∧ ∀ (j : Nat) t, fn.params[j]? = some t → Tryd.pinned.checked.prog.wantsStandIn t = false := by
  obtain rfl : f = 3 := Option.some.inj ((show Tryd.prog.funcNamed "roadstead/roadlaw5.LockTexts" = some 3 by kernel_rfl).symm.trans hf) |>.symm
  obtain rfl : fn = Tryd.f3 := (Option.some.inj (Tryd.func3.symm.trans hfn)).symm
  refine ⟨by kernel_rfl, fun j t ht => ?_⟩
  rw [Tryd.params3] at ht
  have hm := Array.mem_of_getElem? ht
  simp only [List.mem_toArray, List.mem_cons, List.not_mem_nil, or_false] at hm
  rcases hm with rfl | rfl
  · exact (show Tryd.prog.wantsStandIn 22 = false by kernel_rfl)
  · exact (show Tryd.prog.wantsStandIn 9 = false by kernel_rfl)
theorem proved : Rows.LockTextsUptoCardSaid :=
  Claim7.holds_tied_plain_at .later [] _ _ _ _ said (fun _ h => by cases h) (by kernel_rfl) (fun _ h => by cases h) lockTextsUpto_row_tie rfl ⟨rfl, rfl⟩ (by kernel_rfl) rfl plain (by kernel_rfl)
end Go.Proofs.YtadlmkgeplnemaaDoor.lockTexts
