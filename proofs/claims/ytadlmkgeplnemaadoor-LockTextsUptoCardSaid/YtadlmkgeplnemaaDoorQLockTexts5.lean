/-
  Texts of this proof, part 5: Ab55 Ab56 Ab57 Ab25 Lka Vaa Lkb.
-/
import Derived.Test.YtadlmkgeplnemaaDoorQLockTexts4
import Derived.ChangeKeysEq
import Derived.Laws.IdiomRangeMap
import Derived.Lib.AppendZerosOnto
import Derived.Lib.AtoiAll
import Derived.Lib.ItoaNum
import Derived.Lib.Join
import Derived.Lib.MinMax
import Derived.Lib.SplitLaws
import Derived.Lib.Strings
import Derived.MapKept
import Derived.RangeFuncFrom
import Derived.Shelf.Abstract
import Derived.Sort.LoopGhostIn
import Derived.TacticsIn
namespace Go.Proofs.YtadlmkgeplnemaaDoor
open Go.RowKit
abbrev wid (rd : Option Nat) : Fence := { Fence.wide with round := rd }
section
variable {P : Program} {F : Frm}
theorem act_put_defers (a : Act) (d : Option Tmp) (v : Value) : (a.put d v).defers = a.defers := by cases d <;> rfl
theorem act_put_with (a : Act) (ds : List Deferred) (d : Option Tmp) (v : Value) : ({ a with defers := ds } : Act).put d v = { a.put d v with defers := ds } := by cases d <;> rfl
theorem act_eval_with (a : Act) (ds : List Deferred) : ({ a with defers := ds } : Act).eval = a.eval := by funext x; cases x <;> rfl
theorem act_self {a : Act} {ds : List Deferred} (h : a.defers = ds) : ({ a with defers := ds } : Act) = a := by cases a; simp at h; simp [h]
/-- what lies behind a list of operations: nothing but its normal end, nothing deferred -/
structure Calm (Q : Exit → Act → World → Prop) : Prop where
  n : ∀ a w, Q .normal a w → a.defers = []
  o : ∀ e a w, Q e a w → e = .normal
theorem upon_nd {o : Oper} {next : Act → World → Prop} {Q : Exit → Act → World → Prop} (hQ : Calm Q) (hn : ∀ a w, next a w → a.defers = []) {a : Act} {r : Result Next} (h : o.upon P a next Q r) : a.defers = [] := by
  unfold Oper.upon at h
  split at h
  · have := hn _ _ h; rwa [act_put_defers] at this
  · have := hn _ _ h; rwa [act_put_defers] at this
  · have := hn _ _ h; rw [act_put_defers] at this; cases this
  · obtain ⟨e, w', fr, hR, _⟩ := h []
    cases e with
    | returned v => have := hn _ _ hR; rwa [act_put_defers] at this
    | panicked c => have := hQ.o _ _ _ hR; cases this
    | outgrown => obtain ⟨a', w2, h2⟩ := hR; have := hQ.o _ _ _ h2; cases this
  · obtain ⟨v, w', hR, _⟩ := h default []
    have := hn _ _ hR; rwa [act_put_defers] at this
  · have := hQ.o _ _ _ h; cases this
  · exact h.elim
theorem list_nd {ops : Array Oper} {Q : Exit → Act → World → Prop} (hQ : Calm Q) : ∀ (rest : List Oper) (a : Act) (w : World), wpList P ops Q rest a w → a.defers = []
  | [], a, w, h => hQ.n a w h
  | o :: rest, a, w, h => by
    unfold wpList at h
    split at h
    · rcases h with h | ⟨_, a', w', h⟩
      · exact upon_nd hQ (fun a w => list_nd hQ rest a w) h
      · have := hQ.o _ _ _ h; cases this
    · have := list_nd hQ rest _ _ h
      rwa [act_put_defers] at this
theorem calls_wid {rd : Option Nat} {n : Nat} {f : FuncId} {args : Array Value} {w : World} {R : Ending → World → Prop} (h : Calls P f args w R) : CallsIn (wid rd) n P f args w R :=
  (callsIn_wide (n := n)).2 h
theorem upon_in {rd : Option Nat} {ds : List Deferred} {o : Oper} {next next' : Act → World → Prop} {Q Q' : Exit → Act → World → Prop} (hQ : Calm Q) (hnx : ∀ a w, next a w → a.defers = [] ∧ next' { a with defers := ds } w) {a : Act} {w : World}
    (h : o.wp P a w next Q) : o.wpIn (wid rd) 0 P { a with defers := ds } w next' Q' := by
  refine ⟨fun f _ => trivial, ?_⟩
  unfold Oper.wp at h
  have hno : ∀ c, o.op ≠ .defer c := by
    intro c hc
    have he : (execOp a.eval o).run P w = (do pure (Next.defer (← resolve a.eval c o.type)) : Sem Next).run P w := by
      unfold execOp
      rw [hc]
    rw [he, Sem.run_bind] at h
    cases hr : (resolve a.eval c o.type).run P w with
    | ok d w1 =>
      rw [hr] at h
      simp only [Result.andThen, Sem.run_pure] at h
      have := (hnx _ _ h).1
      rw [act_put_defers] at this
      cases this
    | halt r w1 =>
      rw [hr] at h
      simp only [Result.andThen] at h
      unfold Oper.upon at h
      split at h <;> first | (have := hQ.o _ _ _ h; cases this; done) | (rename_i heq; cases heq; done) | exact h.elim
  rw [Oper.semAt_eq _ _ _ hno, act_eval_with]
  generalize (execOp a.eval o).run P w = r at h
  unfold Oper.upon at h
  split at h
  · rw [Oper.uponIn_value, act_put_with]; exact (hnx _ _ h).2
  · rw [Oper.uponIn_skip, act_put_with]; exact (hnx _ _ h).2
  · have := (hnx _ _ h).1; rw [act_put_defers] at this; cases this
  · rw [Oper.uponIn_enter]
    refine ⟨fun hd => (by cases hd), calls_wid (h.mono ?_)⟩
    intro e w' hR
    cases e with
    | returned v => have := (hnx _ _ hR).2; rw [← act_put_with] at this; exact this
    | panicked c => have := hQ.o _ _ _ hR; cases this
    | outgrown => obtain ⟨a', w2, h2⟩ := hR; have := hQ.o _ _ _ h2; cases this
  · rw [Oper.uponIn_row]
    refine ⟨fun hd => (by cases hd), fun c cs _ => ?_⟩
    obtain ⟨v, w', hR, hs⟩ := h c cs
    exact ⟨v, w', by have := (hnx _ _ hR).2; rw [← act_put_with] at this; exact this, stepsIn_wide.2 hs⟩
  · have := hQ.o _ _ _ h; cases this
  · exact h.elim
theorem list_in {rd : Option Nat} {ds : List Deferred} {ops : Array Oper} {Q Q' : Exit → Act → World → Prop} (hQ : Calm Q) (hn : ∀ a w, Q .normal a w → Q' .normal { a with defers := ds } w) :
    ∀ (rest : List Oper) (a : Act) (w : World), wpList P ops Q rest a w → wpListIn (wid rd) 0 P ops Q' rest { a with defers := ds } w
  | [], a, w, h => hn a w h
  | o :: rest, a, w, h => by
    unfold wpList at h
    unfold wpListIn
    split at h
    · rename_i hw
      rw [if_pos hw]
      rcases h with h | ⟨_, a', w', h⟩
      · exact upon_in hQ (fun a w h => ⟨list_nd hQ rest a w h, list_in hQ hn rest a w h⟩) h
      · have := hQ.o _ _ _ h; cases this
    · rename_i hw
      rw [if_neg hw]
      refine ⟨fun f _ => trivial, ?_⟩
      rw [act_put_with]
      exact list_in hQ hn rest _ _ h
/-- code, in a round or not, of an activation that carries marks -/
structure AP (rd : Option Nat) (P : Program) (F : Frm) (c : Code) (Q : Exit → List Deferred → AS → Prop) (ds : List Deferred) (σ : AS) : Prop where
  out : ∀ (M : Mm) (a : Act) (w : World), Rep F M σ { a with defers := [] } w → a.defers = ds → c.wpIn (wid rd) 0 P (fun e a' w' => ∃ M' σ', Q e a'.defers σ' ∧ Rep F M' σ' { a' with defers := [] } w') a w
def thenP (next : List Deferred → AS → Prop) (Q : Exit → List Deferred → AS → Prop) (e : Exit) (ds : List Deferred) (σ : AS) : Prop :=
  match e with
  | .normal => next ds σ
  | e => Q e ds σ
def inBlkP (id : Nat) (Q : Exit → List Deferred → AS → Prop) (e : Exit) (ds : List Deferred) (σ : AS) : Prop :=
  match e with
  | .exit id' => cond (Nat.beq id' id) (Q .normal ds σ) (Q (.exit id') ds σ)
  | e => Q e ds σ
variable {rd : Option Nat} {Q Q' : Exit → List Deferred → AS → Prop} {ds : List Deferred} {σ τ : AS}
theorem AP.mono {c : Code} (h : AP rd P F c Q ds σ) (hq : ∀ e ds σ', Q e ds σ' → Q' e ds σ') : AP rd P F c Q' ds σ :=
  ⟨fun M a w hr hd => wpIn_mono (h.out M a w hr hd) fun _ _ _ ⟨M', σ', h1, h2⟩ => ⟨M', σ', hq _ _ _ h1, h2⟩⟩
theorem ap_region {id : Nat} {l : List Oper} (h : AL P F l.toArray (Q .normal ds) l σ) : AP rd P F (.region id l.toArray false) Q ds σ := by
  refine ⟨fun M a w hr hd => wpIn_region_lit ?_⟩
  have h1 := h.out M { a with defers := [] } w hr (fun e a' w' => e = .normal ∧ a'.defers = [] ∧ ∃ M' σ', Q .normal ds σ' ∧ Rep F M' σ' a' w') fun M' σ' _ _ hq hr' => ⟨rfl, hr'.defers, M', σ', hq, hr'⟩
  have h2 := list_in (rd := rd) (ds := ds) (Q' := fun e a' w' => ∃ M' σ', Q e a'.defers σ' ∧ Rep F M' σ' { a' with defers := [] } w') ⟨fun _ _ h => h.2.1, fun _ _ _ h => h.1⟩
    (fun a' w' ⟨_, h3, M', σ', h4, h5⟩ => ⟨M', σ', h4, by dsimp only; rw [act_self h3]; exact h5⟩) l _ _ h1
  rwa [show ({ ({ a with defers := [] } : Act) with defers := ds } : Act) = a from act_self hd] at h2
theorem ap_skip (h : Q .normal ds σ) : AP rd P F .skip Q ds σ := ⟨fun M _ _ hr hd => wpIn_skip ⟨M, σ, by rw [hd]; exact h, hr⟩⟩
theorem ap_ret (h : Q .ret ds σ) : AP rd P F .ret Q ds σ := ⟨fun M _ _ hr hd => wpIn_ret ⟨M, σ, by rw [hd]; exact h, hr⟩⟩
theorem ap_exit {id : Nat} (h : Q (.exit id) ds σ) : AP rd P F (.exit id) Q ds σ := ⟨fun M _ _ hr hd => wpIn_exit ⟨M, σ, by rw [hd]; exact h, hr⟩⟩
theorem ap_seq {x y : Code} (h : AP rd P F x (thenP (AP rd P F y Q) Q) ds σ) : AP rd P F (.seq x y) Q ds σ := by
  refine ⟨fun M a w hr hd => ?_⟩
  refine wpIn_seq (wpIn_mono (h.out M a w hr hd) ?_)
  rintro e a' w' ⟨M', σ', h1, h2⟩
  cases e <;> first | exact h1.out M' a' w' h2 rfl | exact ⟨M', σ', h1, h2⟩
theorem ap_block {id : Nat} {x : Code} (h : AP rd P F x (inBlkP id Q) ds σ) : AP rd P F (.block id x) Q ds σ := by
  refine ⟨fun M a w hr hd => ?_⟩
  refine wpIn_block (wpIn_mono (h.out M a w hr hd) ?_)
  rintro e a' w' ⟨M', σ', h1, h2⟩
  cases e with
  | exit id' =>
    simp only [Exit.inBlock]
    by_cases hi : id' = id
    · subst hi
      rw [if_pos rfl]
      simp only [inBlkP, Nat.beq_refl, cond_true] at h1
      exact ⟨M', σ', h1, h2⟩
    · have hb : Nat.beq id' id = false := by
        cases hc : Nat.beq id' id with
        | false => rfl
        | true => exact absurd (Nat.eq_of_beq_eq_true hc) hi
      rw [if_neg hi]
      simp only [inBlkP, hb, cond_false] at h1
      exact ⟨M', σ', h1, h2⟩
  | _ => exact ⟨M', σ', h1, h2⟩
theorem ap_cond {c : Operand} {x y : Code} {t : Bool} (hc : σ.ev c = .c (.lit (.bool t))) (ht : t = true → AP rd P F x Q ds σ) (hf : t = false → AP rd P F y Q ds σ) : AP rd P F (.cond c x y) Q ds σ := by
  refine ⟨fun M a w hr hd => ?_⟩
  have h := hr.ev c
  rw [hc, act_eval_with] at h
  simp only [RA, RT] at h
  exact wpIn_cond_split h (fun e => (ht e).out M a w hr hd) (fun e => (hf e).out M a w hr hd)
theorem ap_wk {c : Code} (h : Wk F σ τ) (hc : AP rd P F c Q ds τ) : AP rd P F c Q ds σ := ⟨fun M a w hr hd => let ⟨M', hr'⟩ := h M _ w hr; hc.out M' a w hr' hd⟩
theorem ap_loop {c : Code} {A : Type} (st : A → AS) (I : A → Prop) (μ : A → Nat) (x₀ : A) (h₀ : I x₀) (hσ : Wk F σ (st x₀))
    (round : ∀ x, I x → AP rd P F c (thenP (fun ds' σ' => ds' = ds ∧ ∃ y, I y ∧ μ y < μ x ∧ Wk F σ' (st y)) Q) ds (st x)) : AP rd P F (.loop c) Q ds σ := by
  refine ⟨fun M a w hr hd => ?_⟩
  obtain ⟨M₁, hr₁⟩ := hσ M _ w hr
  refine wpIn_loop_ghost (fun n a w => ∃ x M, I x ∧ μ x = n ∧ a.defers = ds ∧ Rep F M (st x) { a with defers := [] } w) (μ x₀) ⟨x₀, M₁, h₀, rfl, hd, hr₁⟩ ?_
  rintro n a w ⟨x, M, hx, rfl, hd, hr⟩
  refine wpIn_mono ((round x hx).out M a w hr hd) ?_
  rintro e a' w' ⟨M', σ', h1, h2⟩
  cases e with
  | normal =>
    obtain ⟨h3, y, hy, hlt, hw⟩ := h1
    obtain ⟨M2, hr2⟩ := hw M' _ w' h2
    exact ⟨μ y, hlt, y, M2, hy, rfl, h3, hr2⟩
  | _ => exact ⟨M', σ', h1, h2⟩
theorem ap_of {c : Code} {Q : Exit → AS → Prop} (h : AC P F c Q σ) : AP none P F c (fun e ds σ' => ds = [] ∧ Q e σ') [] σ := by
  refine ⟨fun M a w hr hd => ?_⟩
  rw [act_self hd] at hr
  refine wpIn_mono (wpIn_wide.2 (h.out M a w hr)) ?_
  rintro e a' w' ⟨M', σ', h1, h2⟩
  exact ⟨M', σ', ⟨h2.defers, h1⟩, by rw [act_self h2.defers]; exact h2⟩
end
end Go.Proofs.YtadlmkgeplnemaaDoor
namespace Go.Proofs.YtadlmkgeplnemaaDoor
open Go.RowKit
def Frm.re (F : Frm) (M : Mm) : Frm := ⟨F.w0, F.X, M, F.G, F.GX⟩
section
variable {P : Program} {F : Frm} {L : Tab}
theorem HeapOk.re {M : Mm} {hp : List Blk} {w : World} (h : HeapOk F M hp w) : HeapOk (F.re M) M hp w :=
  ⟨h.mem, Ext.refl _ _, ⟨h.frm.os, h.frm.tape, h.frm.output, h.frm.size, h.frm.block⟩, h.at_, h.sep, h.out⟩
theorem HeapOk.of_re {M0 M : Mm} {hp : List Blk} {w : World} (h : HeapOk (F.re M0) M hp w) (h0 : Ext F.may F.M0 M0) : HeapOk F M hp w :=
  ⟨h.mem, h0.trans h.ext, ⟨h.frm.os, h.frm.tape, h.frm.output, h.frm.size, h.frm.block⟩, h.at_, h.sep, h.out⟩
theorem HeapOk.putObj {M : Mm} {hp : List Blk} {w : World} (hh : HeapOk F M hp w) {i l : Nat} {o : Obj} (hi : hp[i]? = some (.obj l o)) (o' : Obj) {x' : Blk} (hx : x' = .obj l o' ∨ x' = .dead) : HeapOk F M (hp.set i x') (w.putObj l o') := by
  have hlt := (List.getElem?_eq_some_iff.1 hi).1
  have hl : l < w.heap.size := (hh.at_ i _ hi).lt rfl
  refine hh.step i rfl rfl rfl (by simp) (fun b hb hne => World.putObj_heap_other fun e => hne _ hi (by rw [e]; rfl)) (Ext.refl _ _) (fun p v h1 h2 => by rw [h2] at h1; cases h1) (fun j hj => List.getElem?_set_ne (Ne.symm hj)) (fun x2 hx2 => ?_)
  rw [List.getElem?_set_self hlt] at hx2
  injection hx2 with hx2
  subst hx2
  rcases hx with rfl | rfl
  · exact ⟨World.putObj_heap_same hl, fun b hb => .inl ⟨_, hi, hb⟩⟩
  · exact ⟨trivial, fun b hb => by cases hb⟩
theorem HeapOk.pushObj {M : Mm} {hp : List Blk} {w : World} (hh : HeapOk F M hp w) (o : Obj) : HeapOk F M (hp ++ [.obj w.heap.size o]) (w.alloc o) := by
  refine push_row (w' := w.alloc o) hh rfl rfl rfl (by simp) (fun b hb => Below.heap_alloc _ _ _ hb) (Ext.refl _ _) (fun p v h1 h2 => by rw [h2] at h1; cases h1) (World.alloc_heap_new w o) (fun b hb => ?_)
  obtain rfl : w.heap.size = b := by simpa [Blk.blk] using hb
  refine ⟨Nat.le_refl _, fun p hp => ?_⟩
  cases hq : M p with
  | none => rfl
  | some u =>
    have h2 := World.block_lt_of_cell? _ _ (hh.mem _ _ hq).1
    omega
theorem init_ra {M : Mm} {zs : List AV} {vs : List Value} {N : Nat} (hav : RAs M zs vs) (hN : zs.length ≤ N) (i : Nat) : RA M (initT N zs i) ((vs.toArray ++ Array.replicate (N - vs.toArray.size) undef).getD i undef) := by
  have hlen := hav.len
  simp only [initT]
  by_cases hi : i < zs.length
  · have : Nat.blt i N = true := Nat.ble_eq_true_of_le (by omega)
    rw [this, cond_true]
    have h1 : zs[i]? = some zs[i] := List.getElem?_eq_getElem hi
    obtain ⟨x, hx, hra⟩ := hav.get h1
    rw [List.getD_eq_getElem?_getD, h1]
    have h2 : i < vs.length := by omega
    have h3 : vs[i] = x := by rw [List.getElem?_eq_getElem h2] at hx; injection hx
    simp [Array.getD_eq_getD_getElem?, Array.getElem?_append, h2, h3]
    exact hra
  · have h1 : zs.getD i (.c (.lit undef)) = .c (.lit undef) := by
      rw [List.getD_eq_getElem?_getD, List.getElem?_eq_none (by omega)]; rfl
    rw [h1]
    have h2 : ¬ i < vs.length := by omega
    have h3 : (vs.toArray ++ Array.replicate (N - vs.toArray.size) undef).getD i undef = undef := by
      simp [Array.getD_eq_getD_getElem?, Array.getElem?_append, h2, Array.getElem?_replicate]
      split <;> rfl
    rw [h3]
    cases Nat.blt i N <;> simp only [cond_true, cond_false, RA, RT]
/-- the mark of the block for the rounds' deferred calls -/
abbrev mkD (D : Nat) : Deferred := { target := .collected D, args := #[] }
/-- the record of a loop -/
abbrev recL (st : LoopState) (pe : Option Code) (fnm : FuncId) (tm : Array Value) (ps : Array Tmp) (assign body : Code) (D : Nat) : Obj := .loop { state := st, pending := pe, fn := fnm, tmps := tm, params := ps, assign := assign, body := body, defers := D }
/-- what follows the iterator's end: nothing pending, or the jump by which a round was left -/
def JQ (Q : Exit → List Deferred → AS → Prop) (D : Nat) (σ : AS) : Option Code → Prop
  | none => Q .normal [mkD D] σ
  | some .ret => Q .ret [mkD D] σ
  | some (.exit id) => Q (.exit id) [mkD D] σ
  | _ => False
theorem ap_range {g : Operand} {ps : Array Tmp} {assign body : Code} {Q : Exit → List Deferred → AS → Prop} {τ : Nat → AV} {hp : List Blk} {N : Nat} {gf : FuncId} {fn : Func} {c : Code} {n2 : Nat} {cap : List AV}
    (hf : P.funcs[gf]? = some fn) (hNt : fn.ntmps = n2) (hres : fn.results = #[]) (hb : fn.body = some c) (hnm : (fn.name == "runtime.NumGoroutine") = false) (hg : (⟨τ, hp, N⟩ : AS).ev g = .fn (.func gf) cap) (hN2 : cap.length + 1 ≤ n2)
    (h : ∀ (M0 : Mm) (fnm : FuncId) (tm : Array Value) (D l : Nat), (∀ i, RA M0 (τ i) (tm.getD i undef)) → tm.size = N →
      AP none P (F.re M0) c (fun e ds σ' => (e = .normal ∨ e = .ret) ∧ ds = [] ∧ ∃ hp2 st pend, σ'.hp = hp2 ++ [.obj D (.deferred (some [])), .obj l (recL st pend fnm tm ps assign body D)] ∧ st ≠ .busy ∧ JQ Q D ⟨τ, hp2 ++ [.obj D (.deferred (some [])), .dead], N⟩ pend) []
        ⟨initT n2 (.fn (.yield l) [] :: cap), hp ++ [.obj D (.deferred (some [])), .obj l (recL .ready none fnm tm ps assign body D)], n2⟩) :
    AP none P F (.rangeFunc g ps assign body) Q [] ⟨τ, hp, N⟩ := by
  refine ⟨fun M a w hr hd => wpIn_rangeFunc fun fnm _ => ?_⟩
  have hgv := hr.ev g
  rw [hg, act_eval_with] at hgv
  simp only [RA] at hgv
  obtain ⟨cs, hgv, hcs⟩ := hgv
  have hsz : a.tmps.size = N := hr.size
  have hh1 := hr.heap.pushObj (.deferred (some []))
  have hh2 := hh1.pushObj (recL .ready none fnm a.tmps ps assign body w.heap.size)
  rw [World.size_alloc, List.append_assoc, List.singleton_append] at hh2
  have hent := run_enterLoop_outer (P := P) (w := w) fnm a.tmps ps assign body
  generalize hw2 : (w.alloc (.deferred (some []))).alloc (recL .ready none fnm a.tmps ps assign body w.heap.size) = w2 at *
  refine ⟨w.heap.size + 1, [mkD w.heap.size], w2, { target := .fn (.func gf) cs.toArray, args := #[.func (.yield (w.heap.size + 1)) #[] #[]] }, w2, gf, #[.func (.yield (w.heap.size + 1)) #[] #[]] ++ cs.toArray, w2, hent, ?_, fun _ _ => trivial, ?_, fun hd => (by cases hd), ?_⟩
  · simp only [resolve, hgv]
    simp [go_sem]
  · simp [invoke, go_sem]
    exact enters_of hf hnm hb _ _
  · have hav : RAs M (.fn (.yield (w.heap.size + 1)) [] :: cap) (.func (.yield (w.heap.size + 1)) #[] #[] :: cs) := by
      simp only [RAs, RA]
      exact ⟨_, _, rfl, ⟨[], rfl, rfl⟩, hcs⟩
    have hrun := h M fnm a.tmps w.heap.size (w.heap.size + 1) (fun i => hr.tmps i) hsz
    rw [show #[.func (.yield (w.heap.size + 1)) #[] #[]] ++ cs.toArray = (.func (.yield (w.heap.size + 1)) #[] #[] :: cs : List Value).toArray by simp]
    refine calls_wid (calls_of_wp hf hb (wp_mono (wpIn_wide.1 (hrun.out M _ w2 ⟨fun i => ?_, ?_, rfl, hh2.re⟩ rfl)) ?_))
    · have := init_ra (N := n2) hav (by simpa using hN2) i
      rw [hNt]
      exact this
    · have := hcs.len
      simp [hNt]; omega
    · rintro e a' w' ⟨M', σ', ⟨he, hds, hp2, st, pend, hhp, hst, hJ⟩, hr'⟩
      have hh' := hr'.heap
      rw [hhp] at hh'
      have hx : Ext F.may M M' := hh'.ext
      have hL : w'.heap[w.heap.size + 1]? = some (recL st pend fnm a.tmps ps assign body w.heap.size) := hh'.at_ (hp2.length + 1) (.obj (w.heap.size + 1) (recL st pend fnm a.tmps ps assign body w.heap.size)) (by simp)
      have hend := run_endLoop (P := P) hL hst
      have hh3 := (hh'.putObj (i := hp2.length + 1) (l := w.heap.size + 1) (o := recL st pend fnm a.tmps ps assign body w.heap.size) (by simp) (recL .exhausted pend fnm a.tmps ps assign body w.heap.size) (x' := .dead) (.inr rfl)).of_re hr.heap.ext
      rw [show (hp2 ++ [Blk.obj w.heap.size (.deferred (some [])), Blk.obj (w.heap.size + 1) (recL st pend fnm a.tmps ps assign body w.heap.size)]).set (hp2.length + 1) .dead = hp2 ++ [.obj w.heap.size (.deferred (some [])), .dead] by simp] at hh3
      have hrep : Rep F M' ⟨τ, hp2 ++ [.obj w.heap.size (.deferred (some [])), .dead], N⟩ { ({ a with defers := [mkD w.heap.size] ++ a.defers } : Act) with defers := [] } (w'.putObj (w.heap.size + 1) (recL .exhausted pend fnm a.tmps ps assign body w.heap.size)) :=
        ⟨fun i => RA.mono hx.sub _ _ (hr.tmps i), hsz, rfl, hh3⟩
      have hfin : a'.defers = [] ∧ ∃ v, (results fn a'.tmps).run P w' = .ok v w' ∧ rangePost (wid none) 0 P (w.heap.size + 1) (fun e a' w' => ∃ M' σ', Q e a'.defers σ' ∧ Rep F M' σ' { a' with defers := [] } w') { a with defers := [mkD w.heap.size] ++ a.defers } (.returned v) w' := by
        refine ⟨hds, .tuple #[], by simp [results, hres], pend, _, hend, ?_⟩
        have hdd : ({ a with defers := [mkD w.heap.size] ++ a.defers } : Act).defers = [mkD w.heap.size] := by dsimp only; rw [hd]; rfl
        cases pend with
        | none => exact ⟨M', _, by rw [hdd]; exact hJ, hrep⟩
        | some cd =>
          cases cd <;> first | exact hJ.elim | exact wpIn_ret ⟨M', _, by rw [hdd]; exact hJ, hrep⟩ | exact wpIn_exit ⟨M', _, by rw [hdd]; exact hJ, hrep⟩
      rcases he with rfl | rfl <;> exact hfin
/-- a list of operations of an activation of a plain function that may call yield -/
structure ALP (P : Program) (F : Frm) (ops : Array Oper) (K : AS → Prop) (rest : List Oper) (σ : AS) : Prop where
  out : ∀ (M : Mm) (a : Act) (w : World), Rep F M σ a w → ∀ Q : Exit → Act → World → Prop, (∀ M' σ' a' w', K σ' → Rep F M' σ' a' w' → Q .normal a' w') → wpListIn (wid none) 0 P ops Q rest a w
theorem alp_nil {ops : Array Oper} {K : AS → Prop} {σ : AS} (h : K σ) : ALP P F ops K [] σ := ⟨fun M a w hr Q hQ => hQ M σ a w h hr⟩
theorem alp_plain {ops : Array Oper} {K : AS → Prop} {σ : AS} {rest : List Oper} {d : Option Tmp} {op : Op} {ty : TypeId} {pos : String} {aft : Array Edge}
    (h : LO P F ⟨d, op, ty, pos, aft, none⟩ σ.ev σ.hp fun v hp' => ALP P F ops K rest (σ.st d v hp')) : ALP P F ops K (⟨d, op, ty, pos, aft, none⟩ :: rest) σ := by
  refine ⟨fun M a w hr Q hQ => ?_⟩
  unfold wpListIn
  rw [if_pos (by simp [Region.wanted])]
  have h1 := (h.out M a.eval w (fun x _ => hr.ev x) hr.heap).wp (K := fun a' w' => a'.defers = [] ∧ wpListIn (wid none) 0 P ops Q rest a' w') (fun _ _ _ => False) fun u w' ⟨M', v, hp', h1, h2, h3, h4⟩ => by
    have hr' := hr.st h2.sub h3 d h4
    exact ⟨hr'.defers, h1.out M' _ _ hr' Q hQ⟩
  have h2 := upon_in (rd := none) (ds := []) (Q' := Q) (next' := wpListIn (wid none) 0 P ops Q rest) ⟨fun _ _ h => h.elim, fun _ _ _ h => h.elim⟩ (fun a' w' hh => ⟨hh.1, by rw [act_self hh.1]; exact hh.2⟩) h1
  rwa [act_self hr.defers] at h2
theorem ap_regionY {id : Nat} {l : List Oper} {Q : Exit → List Deferred → AS → Prop} {σ : AS} (h : ALP P F l.toArray (Q .normal []) l σ) : AP none P F (.region id l.toArray false) Q [] σ := by
  refine ⟨fun M a w hr hd => wpIn_region_lit ?_⟩
  rw [act_self hd] at hr
  exact h.out M a w hr _ fun M' σ' a' w' hq hr' => ⟨M', σ', by rw [hr'.defers]; exact hq, by rw [act_self hr'.defers]; exact hr'⟩
/-- what a round's end leaves, and what yield hands back -/
def RK (K : AV → List Blk → Prop) (i l : Nat) (fnm : FuncId) (tm : Array Value) (ps : Array Tmp) (assign body : Code) (D : Nat) (e : Exit) (σ : AS) : Prop :=
  match e with
  | .normal => K (.c (.lit (.bool true))) (σ.hp.set i (.obj l (recL .ready none fnm tm ps assign body D)))
  | .ret => K (.c (.lit (.bool false))) (σ.hp.set i (.obj l (recL .done (some .ret) fnm tm ps assign body D)))
  | .exit id => K (.c (.lit (.bool false))) (σ.hp.set i (.obj l (recL .done (some (.exit id)) fnm tm ps assign body D)))
  | _ => False
theorem alp_yield {ops : Array Oper} {K : AS → Prop} {σ : AS} {rest : List Oper} {d : Option Tmp} {ty : TypeId} {pos : String} {aft : Array Edge} {x y : Operand} {ats : Array TypeId} {l i p : Nat} {t : T} {fnm : FuncId} {tm : Array Value} {assign body : Code} {D Nc : Nat} {τc : Nat → AV}
    (hy : σ.ev y = .fn (.yield l) []) (hx : σ.ev x = .c t) (hi : σ.hp[i]? = some (.obj l (recL .ready none fnm tm #[p] assign body D))) (htm : ∀ j, RA F.M0 (τc j) (tm.getD j undef)) (hNc : tm.size = Nc)
    (h : ∀ M1 : Mm, AP (some l) P (F.re M1) assign (fun e ds σ1 => e = .normal ∧ ds = [] ∧ σ1.hp[i]? = some (.obj l (recL .ready none fnm tm #[p] assign body D)) ∧
        AP (some l) P (F.re M1) body (fun e2 ds2 σ2 => ds2 = [] ∧ σ2.hp[i]? = some (.obj l (recL .busy none fnm tm #[p] assign body D)) ∧ RK (fun v hp' => ALP P F ops K rest (σ.st d v hp')) i l fnm tm #[p] assign body D e2 σ2) [] ⟨σ1.tmps, σ1.hp.set i (.obj l (recL .busy none fnm tm #[p] assign body D)), σ1.N⟩) [] ⟨upd Nc p (.c t) τc, σ.hp, Nc⟩) :
    ALP P F ops K (⟨d, .call { callee := .value y, args := #[x], argTypes := ats }, ty, pos, aft, none⟩ :: rest) σ := by
  refine ⟨fun M a w hr Q hQ => ?_⟩
  unfold wpListIn
  rw [if_pos (by simp [Region.wanted])]
  have hyv := hr.ev y
  rw [hy] at hyv
  simp only [RA, RAs] at hyv
  obtain ⟨cs0, hyv, rfl⟩ := hyv
  have hxv := hr.ev x
  rw [hx] at hxv
  have hL : w.heap[l]? = some (recL .ready none fnm tm #[p] assign body D) := hr.heap.at_ i _ hi
  refine ⟨fun f _ => trivial, ?_⟩
  have hex : (Oper.semAt none a.eval ⟨d, .call { callee := .value y, args := #[x], argTypes := ats }, ty, pos, aft, none⟩).run P w = .ok (.round l fnm (tm.setIfInBounds p (a.eval x)) assign body) w := by
    have h1 := run_yield (P := P) (args := #[a.eval x]) hL (by simp)
    simp only [Oper.semAt_none]
    simp [execOp, resolve, hyv, Deferred.ofValue, invoke]
    simpa using h1
  show Oper.uponIn _ _ _ _ _ _ _ ((Oper.semAt none a.eval _).run P w)
  rw [hex, Oper.uponIn_round]
  refine ⟨fun hd => (by cases hd), ?_⟩
  refine roundIn_of_wpIn (F := wid none) trivial ?_
  have hsub : Sub F.M0 M := hr.heap.ext.sub
  have hrep : Rep (F.re M) M ⟨upd Nc p (.c t) τc, σ.hp, Nc⟩ { ({ tmps := tm.setIfInBounds p (a.eval x), defers := [] } : Act) with defers := [] } w := by
    refine ⟨fun j => ?_, by simp [hNc], rfl, hr.heap.re⟩
    have h1 := RA.mono hsub _ _ (htm j)
    simp only [upd]
    by_cases hj : j = p
    · subst hj
      rw [Nat.beq_refl, Bool.true_and]
      by_cases hlt : j < Nc
      · have : Nat.blt j Nc = true := Nat.ble_eq_true_of_le hlt
        rw [this, cond_true]
        have : (tm.setIfInBounds j (a.eval x)).getD j undef = a.eval x := by simp [Array.getD_eq_getD_getElem?, hNc, hlt]
        try dsimp only
        rw [this]
        exact hxv
      · have : Nat.blt j Nc = false := by
          cases hc : Nat.blt j Nc with
          | false => rfl
          | true => exact absurd (Nat.le_of_ble_eq_true hc) (by omega)
        rw [this, cond_false]
        have : (tm.setIfInBounds j (a.eval x)).getD j undef = tm.getD j undef := by simp [Array.getD_eq_getD_getElem?, hNc, hlt]
        try dsimp only
        rw [this]
        exact h1
    · have : Nat.beq j p = false := by
        cases hc : Nat.beq j p with
        | false => rfl
        | true => exact absurd (Nat.eq_of_beq_eq_true hc) hj
      rw [this, Bool.false_and, cond_false]
      have : (tm.setIfInBounds p (a.eval x)).getD j undef = tm.getD j undef := by simp [Array.getD_eq_getD_getElem?, Array.getElem?_setIfInBounds_ne (Ne.symm hj)]
      try dsimp only
      rw [this]
      exact h1
  refine wpIn_mono ((h M).out M _ w hrep rfl) ?_
  rintro e a1 w1 ⟨M1, σ1, ⟨rfl, hds1, hi1, hbody⟩, hr1⟩
  have hL1 : w1.heap[l]? = some (recL .ready none fnm tm #[p] assign body D) := hr1.heap.at_ i _ hi1
  have hlt1 := (List.getElem?_eq_some_iff.1 hi1).1
  refine ⟨_, run_beginRound hL1 rfl, ?_⟩
  have hh1 := hr1.heap.putObj hi1 (recL .busy none fnm tm #[p] assign body D) (.inl rfl)
  refine wpIn_mono (hbody.out M1 a1 _ ⟨hr1.tmps, hr1.size, rfl, hh1⟩ hds1) ?_
  rintro e2 a2 w2 ⟨M2, σ2, ⟨hds2, hi2, hK⟩, hr2⟩
  have hL2 : w2.heap[l]? = some (recL .busy none fnm tm #[p] assign body D) := hr2.heap.at_ i _ hi2
  have hfin : ∀ (jump : Option Code) (st : LoopState) (b : Bool), st = (if jump.isNone then .ready else .done) → b = jump.isNone → ALP P F ops K rest (σ.st d (.c (.lit (.bool b))) (σ2.hp.set i (.obj l (recL st jump fnm tm #[p] assign body D)))) →
      ∃ v w', (Instr.endRound l jump).run P w2 = .ok v w' ∧ (match (Ending.returned v : Ending), w' with
        | .returned v, w'' => wpListIn (wid none) 0 P ops Q rest (a.put d v) w''
        | .panicked chain, w'' => Q (.panic chain) a w''
        | .outgrown, _ => LetsOut Q) := by
    intro jump st b hst hb hK
    have hend := run_endRound (P := P) jump hL2
    refine ⟨_, _, hend, ?_⟩
    dsimp only
    have hh2 := (hr2.heap.putObj hi2 (recL st jump fnm tm #[p] assign body D) (.inl rfl)).of_re hr.heap.ext
    subst hst hb
    exact hK.out M2 _ _ (hr.st (show Sub M M2 from (hr2.heap.ext : Ext F.may M M2).sub) hh2 d (v := .c (.lit (.bool jump.isNone))) (by simp only [RA, RT])) Q hQ
  cases e2 with
  | normal => exact hfin none .ready true rfl rfl hK
  | ret => exact hfin (some .ret) .done false rfl rfl hK
  | exit id => exact hfin (some (.exit id)) .done false rfl rfl hK
  | goto t => exact hK.elim
  | panic ch => exact hK.elim
  | outgrown => exact hK.elim
/-- the end of a function that holds a range over a function -/
def FinP (L : Tab) (res : List ResultVar) (R : T → Prop) (e : Exit) (ds : List Deferred) (σ : AS) : Prop :=
  (ds = [] ∧ Fin L res R e σ) ∨ ∃ i D, ds = [mkD D] ∧ σ.hp[i]? = some (.obj D (.deferred (some []))) ∧ Fin L res R e ⟨σ.tmps, σ.hp.set i .dead, σ.N⟩
theorem af_enterP {f : FuncId} {fn : Func} {c : Code} {args : List T} {zs : List AV} {R : T → Prop} {N : Nat} {res : List ResultVar} (hL : TabOk P L) (hf : P.funcs[f]? = some fn) (hNt : fn.ntmps = N) (hres : fn.results = res.toArray) (hb : fn.body = some c) (hn : (fn.name == "runtime.NumGoroutine") = false) (ha : evl (args.map .c) = some zs) (hN : Nat.ble zs.length N = true)
    (h : ∀ F, (∀ b, ¬ F.X b) → AP none P F c (FinP L res R) [] ⟨initT N zs, [], N⟩) : AF P f args R := by
  have hNl := Nat.le_of_ble_eq_true hN
  refine ⟨⟨fn, hf, hn, by rw [hb]; rfl⟩, fun M w vs hG hM hvs => ?_⟩
  have hav := RAs.ofT hvs
  rw [← evl_eq ha] at hav
  have hlen := hav.len
  refine (callsIn_wide (n := 0)).1 (callsIn_of_wp_marks hf hb trivial (wpIn_mono ((h ⟨w, fun _ => False, M, hG, fun _ _ h => h⟩ (fun _ h => h)).out M _ w ⟨fun i => ?_, ?_, rfl, ?_⟩ rfl) ?_))
  · have := init_ra (N := N) hav hNl i
    rw [hNt]
    exact this
  · simp [hNt]; omega
  · exact ⟨hM, Ext.refl _ _, ⟨rfl, rfl, rfl, Nat.le_refl _, fun _ _ _ => rfl⟩, fun i x hx => by simp at hx, fun i j x y b hx => by simp at hx, fun i x b hx => by simp at hx⟩
  · rintro e a' w' ⟨M', σ', hfin, hr⟩
    have key : ∀ (σ2 : AS) (w2 : World), Fin L res R e σ2 → Rep ⟨w, fun _ => False, M, hG, fun _ _ h => h⟩ M' σ2 { a' with defers := [] } w2 → (e = .normal ∨ e = .ret) ∧ ∃ v, (results fn a'.tmps).run P w2 = .ok v w2 ∧ ∃ v' r M', Ending.returned v = .returned v' ∧ R r ∧ Ext (fr w.heap.size) M M' ∧ MemOk M' w2 ∧ RT M' r v' ∧ Below w.heap.size w w2 := by
      rintro σ2 w2 ⟨⟨he, ts, ho, hR⟩⟩ hr
      have hB : ∀ (i : Nat) x b, σ2.hp[i]? = some x → x.blk = some b → w.heap.size ≤ b := by
        intro i x b hx hxb
        rcases (hr.heap.out i x b hx hxb).1 with h1 | h1
        · exact h1.elim
        · exact h1
      rw [show res = fn.results.toList by rw [hres]] at ho
      obtain ⟨u, hu, hRT⟩ := results_sound hL hr hB ho
      exact ⟨he, u, hu, u, outT ts, frz M' w.heap.size w2, rfl, hR, (hr.heap.ext.to (fun _ h => h.elim (fun h => h.elim) id)).trans (frz_ext _ _), frz_ok hr.heap.mem _, hRT, ⟨hr.heap.frm.os, hr.heap.frm.tape, hr.heap.frm.output, hr.heap.frm.size, fun k hk => hr.heap.frm.block k hk (fun h => h)⟩⟩
    have main : (e = .normal ∨ e = .ret) ∧ LeavesInM (wid none) 0 P fn a'.tmps (fun e w' => ∃ v' r M', e = Ending.returned v' ∧ R r ∧ Ext (fr w.heap.size) M M' ∧ MemOk M' w' ∧ RT M' r v' ∧ Below w.heap.size w w') a'.defers .returning w' := by
      rcases hfin with ⟨hds, hf1⟩ | ⟨i, D, hds, hi, hf1⟩
      · obtain ⟨he, v, h1, h2⟩ := key σ' w' hf1 hr
        rw [hds]
        exact ⟨he, v, h1, h2⟩
      · have hK : w'.heap[D]? = some (.deferred (some [])) := hr.heap.at_ i _ hi
        have hh2 := hr.heap.putObj hi (.deferred none) (x' := .dead) (.inr rfl)
        obtain ⟨he, v, h1, h2⟩ := key ⟨σ'.tmps, σ'.hp.set i .dead, σ'.N⟩ (w'.putObj D (.deferred none)) hf1 ⟨hr.tmps, hr.size, rfl, hh2⟩
        rw [hds]
        exact ⟨he, by simp, .inl ⟨D, _, rfl, run_takeDeferred hK, v, h1, h2⟩⟩
    obtain ⟨he, hm⟩ := main
    rcases he with rfl | rfl <;> exact hm
end
end Go.Proofs.YtadlmkgeplnemaaDoor
namespace Go.Proofs.YtadlmkgeplnemaaDoor
open Go.RowKit
section
variable {P : Program} {F : Frm} {L : Tab} {rd : Option Nat} {Q : Exit → List Deferred → AS → Prop} {ds : List Deferred} {τ τ' : Nat → AV} {hp hp' : List Blk} {N : Nat}
theorem ap_ac {c : Code} {σ : AS} (h : AC P F c (fun e σ' => Q e [] σ') σ) : AP none P F c Q [] σ := (ap_of h).mono fun _ _ _ ⟨h1, h2⟩ => by subst h1; exact h2
theorem apIf {c : Operand} {x y : Code} {t : Bool} (ht : t = true → AP rd P F x Q ds ⟨τ, hp, N⟩) (hf : t = false → AP rd P F y Q ds ⟨τ, hp, N⟩) (hc : evT τ c = .c (.lit (.bool t)) := by exact rfl) : AP rd P F (.cond c x y) Q ds ⟨τ, hp, N⟩ := ap_cond (by rw [evT_eq]; exact hc) ht hf
theorem apT {c : Operand} {x y : Code} {t : Bool} (h : AP rd P F x Q ds ⟨τ, hp, N⟩) (hc : evT τ c = .c (.lit (.bool t)) := by exact rfl) (ht : t = true := by first | exact rfl | assumption | exact neg_t (by assumption)) : AP rd P F (.cond c x y) Q ds ⟨τ, hp, N⟩ := apIf (fun _ => h) (fun h => by rw [ht] at h; cases h) hc
theorem apF {c : Operand} {x y : Code} {t : Bool} (h : AP rd P F y Q ds ⟨τ, hp, N⟩) (hc : evT τ c = .c (.lit (.bool t)) := by exact rfl) (ht : t = false := by first | exact rfl | assumption | exact neg_f (by assumption)) : AP rd P F (.cond c x y) Q ds ⟨τ, hp, N⟩ := apIf (fun h => by rw [ht] at h; cases h) (fun _ => h) hc
theorem x_loopP {c : Code} {A : Type} (W : List Nat) (slots : A → List (Nat × AV)) (hps : A → List Blk) (I : A → Prop) (μ : A → Nat) (x₀ : A) (h₀ : I x₀) (hl : HasT τ (slots x₀)) (hh : hp = hps x₀)
    (round : ∀ x, I x → AP rd P F c (thenP (fun ds' σ' => ds' = ds ∧ ∃ y, I y ∧ μ y < μ x ∧ Wk F σ' ⟨atT τ W (slots y), hps y, N⟩) Q) ds ⟨atT τ W (slots x), hps x, N⟩) : AP rd P F (.loop c) Q ds ⟨τ, hp, N⟩ :=
  ap_loop (fun x => ⟨atT τ W (slots x), hps x, N⟩) I μ x₀ h₀ (x_wk hl hh ag_refl) round
theorem alpOp {ops : Array Oper} {K : AS → Prop} {rest : List Oper} {t : Tmp} {op : Op} {ty : TypeId} {pos : String} {aft : Array Edge} (h : LO P F ⟨some t, op, ty, pos, aft, none⟩ (evT τ) hp fun v hp' => ALP P F ops K rest ⟨upd N t v τ, hp', N⟩) : ALP P F ops K (⟨some t, op, ty, pos, aft, none⟩ :: rest) ⟨τ, hp, N⟩ :=
  alp_plain (by rw [evT_eq]; exact h)
theorem alpYield {ops : Array Oper} {K : AS → Prop} {rest : List Oper} {d : Tmp} {ty : TypeId} {pos : String} {aft : Array Edge} {x y : Operand} {ats : Array TypeId} {l p : Nat} {t : T} {fnm : FuncId} {tm : Array Value} {assign body : Code} {D Nc : Nat} {τc : Nat → AV} (i : Nat)
    (htm : ∀ j, RA F.M0 (τc j) (tm.getD j undef)) (hNc : tm.size = Nc)
    (h : ∀ M1 : Mm, AP (some l) P (F.re M1) assign (fun e ds σ1 => e = .normal ∧ ds = [] ∧ σ1.hp[i]? = some (.obj l (recL .ready none fnm tm #[p] assign body D)) ∧
        AP (some l) P (F.re M1) body (fun e2 ds2 σ2 => ds2 = [] ∧ σ2.hp[i]? = some (.obj l (recL .busy none fnm tm #[p] assign body D)) ∧ RK (fun v hp' => ALP P F ops K rest ⟨upd N d v τ, hp', N⟩) i l fnm tm #[p] assign body D e2 σ2) [] ⟨σ1.tmps, σ1.hp.set i (.obj l (recL .busy none fnm tm #[p] assign body D)), σ1.N⟩) [] ⟨upd Nc p (.c t) τc, hp, Nc⟩)
    (hy : evT τ y = .fn (.yield l) [] := by exact rfl) (hx : evT τ x = .c t := by exact rfl) (hi : hp[i]? = some (.obj l (recL .ready none fnm tm #[p] assign body D)) := by exact rfl) :
    ALP P F ops K (⟨some d, .call { callee := .value y, args := #[x], argTypes := ats }, ty, pos, aft, none⟩ :: rest) ⟨τ, hp, N⟩ :=
  alp_yield (τc := τc) (by rw [evT_eq]; exact hy) (by rw [evT_eq]; exact hx) hi htm hNc h
theorem finP {res : List ResultVar} {R : T → Prop} {e : Exit} (i D : Nat) (h : Fin L res R e ⟨τ, hp', N⟩) (hi : hp[i]? = some (.obj D (.deferred (some []))) := by exact rfl) (hf : evl (hp.set i .dead) = some hp' := by exact rfl) : FinP L res R e [mkD D] ⟨τ, hp, N⟩ :=
  .inr ⟨i, D, rfl, hi, by rw [evl_eq hf] at h; exact h⟩
end
end Go.Proofs.YtadlmkgeplnemaaDoor
namespace Go.Proofs.YtadlmkgeplnemaaDoor
open Go.RowKit
section
variable {F : Frm} {τ : Nat → AV} {hp : List Blk} {N : Nat}
theorem wk_fzc (i j : Nat) {q b : Nat} {v : Value} {e t : TypeId} {sz n : Nat} {ts : List T} {cs cs' : List AV} {hp' : List Blk} (hi : hp[i]? = some (.box b t cs)) (hj : cs[j]? = some (.own q v)) (hq : hp[q]? = some (.row v e sz n ts)) (hiq : Nat.beq i q = false) (hc : evl (cs.set j (.c (.row n sz ts))) = some cs') (hf : evl ((hp.set q .dead).set i (.box b t cs')) = some hp') : Wk F ⟨τ, hp, N⟩ ⟨τ, hp', N⟩ := by
  intro M a w hr
  have hne : i ≠ q := fun e => by rw [e, Nat.beq_refl] at hiq; cases hiq
  obtain ⟨h1, h2⟩ := heap_frz hr.heap hq
  have hi' : (hp.set q .dead)[i]? = some (.box b t cs) := by rw [List.getElem?_set_ne (Ne.symm hne)]; exact hi
  have hlt : i < (hp.set q .dead).length := (List.getElem?_eq_some_iff.1 hi').1
  have h3 : HeapOk F (frB M v.ownBlock w) ((hp.set q .dead).set i (.box b t cs')) w := by
    refine h1.step i rfl rfl rfl (Nat.le_refl _) (fun _ _ _ => rfl) (Ext.refl _ _) (fun p v h1 h2 => by rw [h2] at h1; cases h1) (fun m hm => by rw [List.getElem?_set_ne (Ne.symm hm)]) (fun x' hx' => ?_)
    rw [List.getElem?_set_self hlt] at hx'
    obtain rfl : Blk.box b t cs' = x' := by injection hx'
    obtain ⟨xs, g1, g2, g3⟩ := h1.at_ i _ hi'
    refine ⟨⟨xs, g1, ?_, g3⟩, fun b' hb' => .inl ⟨_, hi', hb'⟩⟩
    rw [evl_eq hc]
    obtain ⟨x, hx, hxr⟩ := g2.get hj
    simp only [RA] at hxr
    have hjl : j < xs.length := (List.getElem?_eq_some_iff.1 hx).1
    have hxj : xs[j] = x := by rw [List.getElem?_eq_getElem hjl] at hx; injection hx
    have : RAs (frB M v.ownBlock w) (cs.set j (.c (.row n sz ts))) (xs.set j x) := RAs.set j g2 (by simp only [RA]; rw [hxr.1]; exact h2)
    rwa [show xs.set j x = xs from by rw [← hxj]; exact List.set_getElem_self hjl] at this
  exact ⟨_, fun k => RA.mono (frB_sub _ _ _) _ _ (hr.tmps k), hr.size, hr.defers, by rw [evl_eq hf]; exact h3⟩
end
end Go.Proofs.YtadlmkgeplnemaaDoor
namespace Go.Proofs.YtadlmkgeplnemaaDoor
open Go
theorem dig_byte {d : Nat} (h : d < 10) : (UInt8.ofNat (48 + d)).toNat = 48 + d := by
  rw [UInt8.toNat_ofNat']
  omega
theorem pu_app : ∀ (a b : List UInt8) (acc : Nat), Lib.parseUint10 acc (a ++ b) = match Lib.parseUint10 acc a with | .ok u => Lib.parseUint10 u b | .syntax => .syntax | .range => .range
  | [], b, acc => by rw [List.nil_append, Lib.parseUint10]
  | c :: r, b, acc => by
    rw [List.cons_append]
    simp only [Lib.parseUint10]
    split
    · split
      · rfl
      · split
        · rfl
        · exact pu_app r b _
    · rfl
theorem pu_one {acc d : Nat} (hd : d < 10) (ha : acc * 10 + d < 18446744073709551616) (h2 : acc < 1844674407370955162) : Lib.parseUint10 acc [UInt8.ofNat (48 + d)] = .ok (acc * 10 + d) := by
  simp only [Lib.parseUint10, dig_byte hd]
  rw [if_pos (by omega), if_neg (by omega), if_neg (by omega)]
  rw [show 48 + d - 48 = d by omega]
theorem pu_dec (u : Nat) (h : u < 9223372036854775808) : Lib.parseUint10 0 (Lib.decDigits u) = .ok u := by
  induction u using Nat.strongRecOn with
  | _ u ih =>
    rw [Lib.decDigits]
    by_cases h1 : u < 10
    · rw [dif_pos h1, pu_one h1 (by omega) (by omega)]
      congr 1
      omega
    · rw [dif_neg h1, pu_app, ih (u / 10) (by omega) (by omega)]
      dsimp only
      rw [pu_one (by omega) (by omega) (by omega)]
      congr 1
      omega
theorem dec_mem (u : Nat) : ∀ x ∈ Lib.decDigits u, 48 ≤ x.toNat ∧ x.toNat ≤ 57 := by
  induction u using Nat.strongRecOn with
  | _ u ih =>
    intro x hx
    rw [Lib.decDigits] at hx
    by_cases h1 : u < 10
    · rw [dif_pos h1, List.mem_singleton] at hx
      rw [hx, dig_byte h1]
      omega
    · rw [dif_neg h1] at hx
      rcases List.mem_append.1 hx with h | h
      · exact ih (u / 10) (by omega) x h
      · rw [List.mem_singleton] at h
        rw [h, dig_byte (by omega)]
        omega
theorem dec_ne (u : Nat) : Lib.decDigits u ≠ [] := by
  rw [Lib.decDigits]
  split
  · simp
  · simp
theorem itoa_nat {v : Int} (h : 0 ≤ v) : Lib.itoa v = Lib.decDigits v.toNat := by
  unfold Lib.itoa
  rw [if_neg (by omega)]
theorem itoa_mem {v : Int} (h : 0 ≤ v) : ∀ x ∈ Lib.itoa v, 48 ≤ x.toNat ∧ x.toNat ≤ 57 := by
  rw [itoa_nat h]
  exact dec_mem _
theorem atoi_itoa {v : Int} (h : 0 ≤ v) (h2 : v ≤ 9223372036854775807) : Lib.atoiAll (Lib.itoa v) = .ok v := by
  rw [itoa_nat h]
  have hm := dec_mem v.toNat
  have hp := pu_dec v.toNat (by omega)
  have hne := dec_ne v.toNat
  generalize Lib.decDigits v.toNat = l at *
  cases l with
  | nil => exact absurd rfl hne
  | cons c r =>
    have hc := hm c (by simp)
    unfold Lib.atoiAll Lib.parseMag
    dsimp only
    rw [if_neg (show ¬ (c.toNat = 43 ∨ c.toNat = 45) by omega), if_neg (by simp), hp]
    dsimp only
    have hn : ¬ c.toNat = 45 := by omega
    rw [if_neg (by omega), if_neg (by omega), if_neg hn]
    congr 1
    omega
theorem index_miss {c : UInt8} : ∀ {a : List UInt8}, c ∉ a → Lib.index a [c] = -1
  | [], _ => rfl
  | b :: a, h => by
    have h1 : ¬ c = b := fun e => h (by rw [e]; simp)
    have h2 := index_miss (c := c) (a := a) fun hm => h (by simp [hm])
    rw [Lib.index, if_neg (by simp [h1]), h2]
    rfl
theorem index_hit {c : UInt8} : ∀ {a b : List UInt8}, c ∉ a → Lib.index (a ++ c :: b) [c] = (a.length : Int)
  | [], b, _ => by simp [Lib.index]
  | x :: a, b, h => by
    have h1 : ¬ c = x := fun e => h (by rw [e]; simp)
    have h2 := index_hit (c := c) (a := a) (b := b) fun hm => h (by simp [hm])
    rw [List.cons_append, Lib.index, if_neg (by simp [h1]), h2, if_neg (by simp)]
    simp
theorem ixb_hit {c : UInt8} : ∀ {a b : List UInt8}, c ∉ a → Lib.indexByte (a ++ c :: b) c = (a.length : Int)
  | [], b, _ => by simp [Lib.indexByte]
  | x :: a, b, h => by
    have h1 : ¬ x = c := fun e => h (by rw [e]; simp)
    have h2 := ixb_hit (c := c) (a := a) (b := b) fun hm => h (by simp [hm])
    rw [List.cons_append, Lib.indexByte, if_neg (by simp [h1]), h2, if_neg (by simp)]
    simp
def linesOf (s : List UInt8) : List (List UInt8) :=
  if h : s = [] then [] else if 0 ≤ Lib.indexByte s 10 then s.take ((Lib.indexByte s 10).toNat + 1) :: linesOf (s.drop ((Lib.indexByte s 10).toNat + 1)) else [s]
termination_by s.length
decreasing_by
  have := List.length_pos_iff.2 h
  simp only [List.length_drop]
  omega
theorem linesOf_nil : linesOf [] = [] := by rw [linesOf, dif_pos rfl]
theorem linesOf_app {a b : List UInt8} (h : (10 : UInt8) ∉ a) : linesOf (a ++ 10 :: b) = (a ++ [10]) :: linesOf b := by
  rw [linesOf, dif_neg (by simp), ixb_hit h, if_pos (by omega)]
  rw [show ((a.length : Int)).toNat + 1 = (a ++ [10]).length by simp, show a ++ (10 : UInt8) :: b = (a ++ [10]) ++ b by simp, List.take_left, List.drop_left]
abbrev Ln := List UInt8 × Int
def lnL (p : Ln) : List UInt8 := p.1 ++ 32 :: (Lib.itoa p.2 ++ [10])
def txL (l : List Ln) : List UInt8 := l.flatMap lnL
structure LnOk (p : Ln) : Prop where
  name : ∀ x ∈ p.1, x.toNat ≠ 10 ∧ x.toNat ≠ 32
  low : 0 ≤ p.2
  high : p.2 ≤ 9223372036854775807
theorem LnOk.n10 {p : Ln} (h : LnOk p) : (10 : UInt8) ∉ p.1 ++ 32 :: Lib.itoa p.2 := by
  intro hm
  rcases List.mem_append.1 hm with h1 | h1
  · exact (h.name _ h1).1 rfl
  · rcases List.mem_cons.1 h1 with h2 | h2
    · cases h2
    · have := itoa_mem h.low _ h2
      have h3 : (10 : UInt8).toNat = 10 := rfl
      omega
theorem LnOk.n32 {p : Ln} (h : LnOk p) : (32 : UInt8) ∉ p.1 := fun hm => (h.name _ hm).2 rfl
theorem LnOk.d32 {p : Ln} (h : LnOk p) : (32 : UInt8) ∉ Lib.itoa p.2 := fun hm => by
  have := itoa_mem h.low _ hm
  have h3 : (32 : UInt8).toNat = 32 := rfl
  omega
theorem ln_eq (p : Ln) : lnL p = (p.1 ++ 32 :: Lib.itoa p.2) ++ 10 :: [] := by simp [lnL]
/-- what the program makes of a line -/
def lineR (line : List UInt8) : Option Ln := match Lib.atoiAll (Lib.cut (Lib.trimSuffix line [10]) [32]).2.1 with | .ok v => some ((Lib.cut (Lib.trimSuffix line [10]) [32]).1, v) | _ => none
def readR : List (List UInt8) → List Ln → Option (List Ln)
  | [], acc => some acc
  | line :: r, acc => match lineR line with | none => none | some p => if acc.length = 30 then none else readR r (acc ++ [p])
theorem trim_ln (a : List UInt8) : Lib.trimSuffix (a ++ [10]) [10] = a := by
  unfold Lib.trimSuffix Lib.hasSuffix
  rw [if_pos (by simp)]
  simp
theorem cut_ln {a b : List UInt8} (h : (32 : UInt8) ∉ a) : Lib.cut (a ++ 32 :: b) [32] = (a, b, true) := by
  unfold Lib.cut
  rw [index_hit h, if_pos (by omega)]
  simp
theorem lineR_ln {p : Ln} (h : LnOk p) : lineR (lnL p) = some p := by
  unfold lineR
  rw [ln_eq, trim_ln, cut_ln h.n32]
  dsimp only
  rw [atoi_itoa h.low h.high]
theorem readR_tx : ∀ (l acc : List Ln), (∀ p ∈ l, LnOk p) → acc.length + l.length ≤ 30 → readR (linesOf (txL l)) acc = some (acc ++ l)
  | [], acc, _, _ => by rw [show txL [] = [] from rfl, linesOf_nil, readR, List.append_nil]
  | p :: l, acc, h, hn => by
    have hp := h p (by simp)
    rw [List.length_cons] at hn
    rw [show txL (p :: l) = (p.1 ++ 32 :: Lib.itoa p.2) ++ 10 :: txL l by simp [txL, lnL], linesOf_app hp.n10, ← ln_eq, readR, lineR_ln hp]
    dsimp only
    rw [if_neg (by omega), readR_tx l (acc ++ [p]) (fun q hq => h q (by simp [hq])) (by simp; omega), List.append_assoc]
    rfl
/-- what the reference makes of a text -/
def fieldsR (line : List UInt8) : Option Ln := match Lib.split line [32] with | [a, b] => (match Lib.atoiAll b with | .ok v => some (a, v) | _ => none) | _ => none
def parseR (s : List UInt8) (acc : List Ln) : Option (List Ln) :=
  if h : s = [] then some acc else if 0 ≤ Lib.index s [10] then (match fieldsR (s.take (Lib.index s [10]).toNat) with | none => none | some p => parseR (s.drop ((Lib.index s [10]).toNat + 1)) (acc ++ [p])) else none
termination_by s.length
decreasing_by
  have := List.length_pos_iff.2 h
  simp only [List.length_drop]
  omega
theorem split_two {a b : List UInt8} (ha : (32 : UInt8) ∉ a) (hb : (32 : UInt8) ∉ b) : Lib.split (a ++ 32 :: b) [32] = [a, b] := by
  unfold Lib.split
  rw [Lib.count_one, List.count_append, List.count_cons_self, List.count_eq_zero.2 ha, List.count_eq_zero.2 hb]
  rw [show 0 + (0 + 1) = 0 + 1 from rfl, Lib.splitK, index_hit ha, if_neg (by simp)]
  simp [Lib.splitK]
theorem parseR_tx : ∀ (l acc : List Ln), (∀ p ∈ l, LnOk p) → parseR (txL l) acc = some (acc ++ l)
  | [], acc, _ => by rw [show txL [] = [] from rfl, parseR, dif_pos rfl, List.append_nil]
  | p :: l, acc, h => by
    have hp := h p (by simp)
    have hne : txL (p :: l) ≠ [] := by simp [txL, lnL]
    have he : txL (p :: l) = (p.1 ++ 32 :: Lib.itoa p.2) ++ 10 :: txL l := by simp [txL, lnL]
    rw [parseR, dif_neg hne, he, index_hit hp.n10, if_pos (by omega), Int.toNat_natCast, List.take_left]
    rw [show (p.1 ++ 32 :: Lib.itoa p.2).length + 1 = ((p.1 ++ 32 :: Lib.itoa p.2) ++ [10]).length by simp; omega, show (p.1 ++ 32 :: Lib.itoa p.2) ++ (10 : UInt8) :: txL l = ((p.1 ++ 32 :: Lib.itoa p.2) ++ [10]) ++ txL l by simp, List.drop_left]
    have hf : fieldsR (p.1 ++ 32 :: Lib.itoa p.2) = some p := by
      unfold fieldsR
      rw [split_two hp.n32 hp.d32]
      dsimp only
      rw [atoi_itoa hp.low hp.high]
    rw [hf]
    dsimp only
    rw [parseR_tx l (acc ++ [p]) (fun q hq => h q (by simp [hq])), List.append_assoc]
    rfl
end Go.Proofs.YtadlmkgeplnemaaDoor
namespace Go.Proofs.YtadlmkgeplnemaaDoor
open Go.RowKit
abbrev Rg := Int × Int
def inB (l : List Rg) (v : Int) : Bool := l.any fun r => decide (r.1 ≤ v) && decide (v ≤ r.2)
def Canon (l : List Rg) : Prop := l.Pairwise (fun a b => a.2 + 1 < b.1) ∧ ∀ r ∈ l, r.1 ≤ r.2
theorem Canon.nil : Canon [] := ⟨List.Pairwise.nil, fun _ h => by cases h⟩
theorem Canon.snoc {l : List Rg} {r : Rg} (h : Canon l) (hr : r.1 ≤ r.2) (hl : ∀ q ∈ l, q.2 + 1 < r.1) : Canon (l ++ [r]) :=
  ⟨List.pairwise_append.2 ⟨h.1, List.pairwise_singleton _ _, fun a ha b hb => by rw [List.mem_singleton.1 hb]; exact hl a ha⟩, fun q hq => by
    rcases List.mem_append.1 hq with hq | hq
    · exact h.2 q hq
    · rw [List.mem_singleton.1 hq]; exact hr⟩
theorem Canon.init {l : List Rg} {r : Rg} (h : Canon (l ++ [r])) : Canon l ∧ (∀ q ∈ l, q.2 + 1 < r.1) ∧ r.1 ≤ r.2 := by
  obtain ⟨h1, h2⟩ := h
  obtain ⟨h3, -, h4⟩ := List.pairwise_append.1 h1
  exact ⟨⟨h3, fun q hq => h2 q (List.mem_append_left _ hq)⟩, fun q hq => h4 q hq r (by simp), h2 r (by simp)⟩
theorem Canon.grow {l : List Rg} {r : Rg} (h : Canon (l ++ [r])) {z : Int} (hz : r.2 ≤ z) : Canon (l ++ [(r.1, z)]) := by
  obtain ⟨h1, h2, h3⟩ := h.init
  exact h1.snoc (by simp only; omega) h2
theorem Canon.tail {a : Rg} {l : List Rg} (h : Canon (a :: l)) : Canon l ∧ (∀ b ∈ l, a.2 + 1 < b.1) ∧ a.1 ≤ a.2 := by
  obtain ⟨h1, h2⟩ := h
  obtain ⟨h3, h4⟩ := List.pairwise_cons.1 h1
  exact ⟨⟨h4, fun r hr => h2 r (List.mem_cons_of_mem _ hr)⟩, h3, h2 a (by simp)⟩
end Go.Proofs.YtadlmkgeplnemaaDoor
namespace Go.Proofs.YtadlmkgeplnemaaDoor
open Go
structure RgN (r : Int × Int) : Prop where
  l1 : 0 ≤ r.1
  h1 : r.1 ≤ 9223372036854775807
  l2 : 0 ≤ r.2
  h2 : r.2 ≤ 9223372036854775807
theorem dec_len : ∀ (k u : Nat), u < 10 ^ (k + 1) → (Lib.decDigits u).length ≤ k + 1
  | 0, u, h => by
    rw [Lib.decDigits, dif_pos (by omega)]
    simp
  | k + 1, u, h => by
    rw [Lib.decDigits]
    split
    · simp
    · have := dec_len k (u / 10) (by rw [Nat.pow_succ] at h; omega)
      rw [List.length_append, List.length_singleton]
      omega
theorem itoa_len {v : Int} (h : 0 ≤ v) (h2 : v ≤ 9223372036854775807) : (Lib.itoa v).length ≤ 19 := by
  rw [itoa_nat h]
  exact dec_len 18 v.toNat (by omega)
end Go.Proofs.YtadlmkgeplnemaaDoor
