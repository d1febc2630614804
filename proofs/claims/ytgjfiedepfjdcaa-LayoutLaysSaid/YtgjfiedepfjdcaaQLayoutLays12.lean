/-
  Texts of this proof, part 12: Law OpenT OpenLp.
-/
import Derived.Test.YtgjfiedepfjdcaaQLayoutLays11
import Derived.Laws.IdiomRangeMap
import Derived.Laws.Strings2
import Derived.WideKeyEntry
namespace Go.Proofs.Ytgjfiedepfjdcaa
open Go.ChangeShapes Go.WideShapes Go.ChangeAt Go.RowKit
theorem own : ownKnob Try.prog.godebug = none := by kernel_rfl
theorem laidOut : laidOutB Try.prog = true := by kernel_rfl
section
variable {H : Type} {enc : TypeId × Value → H}
theorem trodAll_below {P : Program} (hl : laidOutB P = true) {W W' : World} (hb : Below W.heap.size W W') (ts : List TypeId) : ∀ (vs : List Value) (ds : List (DataW H)) (ps : List MemPlace),
    (ts.all fun t => P.readableRec t && decide (t < P.types.size)) = true → DataW.TrodAll enc P W 0 (fun _ => true) true ts vs ds ps → (∀ x ∈ ps, x.block < W.heap.size) →
    DataW.TrodAll enc P W' 0 (fun b => decide (b < W.heap.size)) true ts vs ds ps := by
  induction ts with
  | nil =>
    intro vs ds ps _ h _
    obtain ⟨rfl, rfl, rfl⟩ := trodAll_nil h
    rfl
  | cons t ts ih =>
    intro vs ds ps hr h hlt
    obtain ⟨v, vs', d, ds', p, q, rfl, rfl, rfl, h0, h1⟩ := trodAll_cons h
    simp only [List.all_cons, Bool.and_eq_true, decide_eq_true_eq] at hr
    refine ⟨p, q, Below.trod hl hr.1.1 hr.1.2 h0 hb fun x hx => hlt x (List.mem_append_left _ hx), ?_, rfl⟩
    exact ih vs' ds' q hr.2 h1 fun x hx => hlt x (List.mem_append_right _ hx)
theorem law_post {f : Func} {s : ChangeSpec} {W W' : World} {args : Array Value} {ds gs : List (DataW H)} {before : List MemPlace}
    (hW : DataW.Whole enc Try.prog f.params.toList s.vars false W args.toList ds gs before) (hv : s.vars = []) (hrt : f.resultTypes = #[4])
    (hr : (f.params.toList.all fun t => Try.prog.readableRec t && decide (t < Try.prog.types.size)) = true)
    (hres : (s.fn H (ds ++ gs)).results = [.lit (.bool true)]) (hargs : (s.fn H (ds ++ gs)).args = ds) (hvars : (s.fn H (ds ++ gs)).vars = []) (hb : Below W.heap.size W W') :
    s.post enc Try.prog f false true false false W args (.bool true) W' := by
  have hlt : ∀ p ∈ before, p.block < W.heap.size := fun p hp => hW.lt p hp
  have hW' := hW
  obtain ⟨p, q, hA, hV, rfl, _, _⟩ := hW'
  rw [hv] at hV
  obtain ⟨rfl, rfl⟩ := trodVars_none hV
  rw [List.append_nil] at hlt
  refine ⟨ds, [], _, [], p, [], hW, ?_, ?_, ?_, hb.frame _ |> World.keptBut_mono (fun x hx => ⟨hx, ?_⟩), fun h => by cases h⟩
  · rw [hrt, hres]
    exact trodAll_mk1 (shut_bool Try.underlying4 true)
  · rw [hargs]
    exact trodAll_below laidOut hb _ _ _ _ hr hA hlt
  · rw [hvars, hv]
    rfl
  · rw [List.append_nil] at hx
    exact .inr (.inl hx)
end
end Go.Proofs.Ytgjfiedepfjdcaa
namespace Go.Proofs.Ytgjfiedepfjdcaa
open Go.ChangeShapes Go.WideShapes Go.ChangeAt Go.RowKit Go.Deep
/-- all memory of a world -/
def memOf (w : World) : Mm := frz (fun _ => none) 0 w
theorem memOf_ok (w : World) : MemOk (memOf w) w := frz_ok (fun p v h => by cases h) 0
theorem memOf_at {w : World} {p : Addr} {v : Value} (h : w.cell? p = some v) (h1 : v.oneCell' = true) : memOf w p = some v := frz_new rfl (Nat.zero_le _) h h1
section
variable {H : Type} {enc : TypeId × Value → H} {P : Program} {w : World} {base : Nat} {spare : Nat → Bool} {held : Bool}
def Opens (enc : TypeId × Value → H) (P : Program) (w : World) (base : Nat) (spare : Nat → Bool) (held : Bool) (t : TypeId) {α : Type} (f : α → List T) (μ : α → Nat) (fuel : Nat) : Prop :=
  ∀ (cs : List Value) (x : DataW H × List MemPlace), DataW.trod enc P w base spare held fuel t cs = some x → ∃ a, RTs (memOf w) (f a) cs ∧ OneAll cs ∧ μ a ≤ Rows.uptoBulk x.1
theorem sum_le {α : Type} (μ : α → Nat) : ∀ (l : List α) (ds : List (DataW H)), l.length = ds.length → (∀ (i : Nat) (a : α) (d : DataW H), l[i]? = some a → ds[i]? = some d → μ a ≤ Rows.uptoBulk d) → (l.map μ).sum ≤ Rows.uptoBulkAll ds
  | [], [], _, _ => by simp [Rows.uptoBulkAll]
  | a :: l, d :: ds, hl, h => by
    have h1 := h 0 a d rfl rfl
    have h2 := sum_le μ l ds (by simpa using hl) fun i a d ha hd => h (i + 1) a d (by simpa using ha) (by simpa using hd)
    simp only [List.map_cons, List.sum_cons, Rows.uptoBulkAll]
    omega
  | [], _ :: _, hl, _ => by simp at hl
  | _ :: _, [], hl, _ => by simp at hl
theorem snoc_ind {α : Type} {p : List α → Prop} (h0 : p []) (h1 : ∀ l x, p l → p (l ++ [x])) (l : List α) : p l := by
  have : ∀ n (l : List α), l.length = n → p l := by
    intro n
    induction n with
    | zero => intro l hl; rw [List.eq_nil_of_length_eq_zero hl]; exact h0
    | succ n ih =>
      intro l hl
      have hne : l ≠ [] := fun e => by rw [e] at hl; cases hl
      rw [← List.dropLast_concat_getLast hne]
      exact h1 _ _ (ih _ (by simp [hl]))
  exact this l.length l rfl
theorem rows_of {α : Type} (f : α → List T) (sz : Nat) (hf : ∀ a, (f a).length = sz) {a : Addr} : ∀ (l : List α) (C : Nat → List Value), (∀ (i : Nat) (x : α), l[i]? = some x → RTs (memOf w) (f x) (C i) ∧ OneAll (C i) ∧ ∀ j u, (C i)[j]? = some u → w.cell? (a.add (i * sz + j)) = some u) →
    ∃ xs : List Value, xs.length = l.length * sz ∧ At (memOf w) a xs ∧ RTs (memOf w) (l.flatMap f) xs := by
  intro l
  induction l using snoc_ind with
  | h0 => exact fun _ _ => ⟨[], by simp, fun j x h => by simp at h, by simp [RTs]⟩
  | h1 l x ih =>
    intro C h
    obtain ⟨xs, h1, h2, h3⟩ := ih C fun i y hy => h i y (by rw [List.getElem?_append_left (List.getElem?_eq_some_iff.1 hy).1]; exact hy)
    obtain ⟨g1, g2, g3⟩ := h l.length x (by simp)
    have hcl := g1.len
    rw [hf] at hcl
    refine ⟨xs ++ C l.length, by simp [h1, hcl, Nat.add_mul], fun j u hu => ?_, ?_⟩
    · rw [List.getElem?_append] at hu
      split at hu
      · exact h2 j u hu
      · have := g3 _ u hu
        rw [show l.length * sz + (j - xs.length) = j by omega] at this
        exact memOf_at this (g2 u (List.mem_of_getElem? hu))
    · rw [List.flatMap_append]
      refine h3.app ?_
      simpa using g1
theorem opens_slice {α : Type} [Inhabited α] {t e : TypeId} (f : α → List T) (μ : α → Nat) (sz : Nat) (hsz : 0 < sz) (hf : ∀ a, (f a).length = sz) {fuel : Nat} (ht : P.underlying t = some (.slice e)) (hC : P.cellsOf e = sz)
    (hel : ∀ n, n < fuel → Opens enc P w base spare held e f μ n) : Opens enc P w base spare held t (fun l : List α => [.row l.length sz (l.flatMap f)]) (fun l => (l.map μ).sum + 1) fuel := by
  intro cs x h
  rcases DataW.trod_slice ht h with ⟨rfl, rfl⟩ | ⟨a, len, cap, elems, rest, n, hn, rfl, rfl, hb, hl, hm, hlen, hi, _, _⟩
  · refine ⟨[], ?_, fun u hu => by simp at hu; subst hu; rfl, by simp [Rows.uptoBulk]⟩
    simp only [RTs]
    exact ⟨_, _, rfl, rt_nil hsz (by simp only [RT]), rfl⟩
  · rw [hC] at hi
    have hv : ∀ i, i < len → ∃ p : α × List Value, (p.2.length = sz ∧ ∀ j u, p.2[j]? = some u → w.cell? (a.add (i * sz + j)) = some u) ∧ RTs (memOf w) (f p.1) p.2 ∧ OneAll p.2 ∧ ∀ y, elems[i]? = some y → μ p.1 ≤ Rows.uptoBulk y.1 := by
      intro i hil
      have hk := hi i hil
      rw [List.getElem?_eq_getElem (by omega)] at hk
      obtain ⟨cs', h1, h2⟩ := Option.bind_eq_some_iff.1 hk
      obtain ⟨el, h3, h4, h5⟩ := hel n (by omega) _ _ h2
      obtain ⟨_, hlen', hcell⟩ := World.cells?_some h1
      refine ⟨(el, cs'), ⟨hlen', fun j u hu => ?_⟩, h3, h4, fun y hy => ?_⟩
      · have hj : j < sz := by rw [← hlen']; exact (List.getElem?_eq_some_iff.1 hu).1
        rw [← hu, ← hcell j hj, add_add']
      · rw [List.getElem?_eq_getElem (by omega)] at hy
        injection hy with hy
        rw [← hy]; exact h5
    obtain ⟨G, hG⟩ := choose_lt (α := α × List Value) hv
    obtain ⟨xs, g1, g2, g3⟩ := rows_of (w := w) (a := a) f sz hf ((List.range len).map fun i => (G i).1) (fun i => (G i).2) (fun i x hx => by
      have hil : i < len := by have := (List.getElem?_eq_some_iff.1 hx).1; simpa using this
      simp [hil] at hx
      obtain ⟨k1, k2, k3, _⟩ := hG i hil
      rw [← hx]
      exact ⟨k2, k3, k1.2⟩)
    refine ⟨(List.range len).map fun i => (G i).1, ?_, fun u hu => by simp at hu; subst hu; rfl, ?_⟩
    · simp only [RTs]
      refine ⟨_, _, rfl, ?_, rfl⟩
      simp only [RT]
      exact ⟨some a, cap, xs, by simp, by simpa using hl, by simp; omega, hsz, g1, fun _ => ⟨a, rfl, g2⟩, g3⟩
    · have := sum_le μ ((List.range len).map fun i => (G i).1) (elems.map (·.1)) (by simp [hlen]) (fun i y d hy hd => by
        have hil : i < len := by have := (List.getElem?_eq_some_iff.1 hy).1; simpa using this
        simp [hil] at hy
        rw [List.getElem?_map] at hd
        obtain ⟨z, hz, rfl⟩ := Option.map_eq_some_iff.1 hd
        rw [← hy]
        exact (hG i hil).2.2.2 z hz)
      simp only [Rows.uptoBulk]
      omega
theorem opens_int {t : TypeId} {k : IntKind} {fuel : Nat} (ht : P.underlying t = some (.int k)) : Opens enc P w base spare held t (fun i : Int => [.lit (.int k i)]) (fun _ => 1) fuel := by
  intro cs x h
  obtain ⟨i, rfl, rfl, _⟩ := DataW.trod_int ht h
  exact ⟨i, by simp [RTs, RT], fun u hu => by simp at hu; subst hu; rfl, bulk_one _⟩
theorem opens_str {t : TypeId} {fuel : Nat} (ht : P.underlying t = some .string) : Opens enc P w base spare held t (fun s : ByteArray => [.lit (.string s)]) (fun _ => 1) fuel := by
  intro cs x h
  obtain ⟨i, rfl, rfl, _⟩ := DataW.trod_string ht h
  exact ⟨i, by simp [RTs, RT], fun u hu => by simp at hu; subst hu; rfl, bulk_one _⟩
end
/-- from a walk to the call: every law that takes trees and tells true -/
theorem law_call {P : Program} {f : FuncId} {ts : List T} {vs : List Value} {W : World} (h : AF P f ts (· = .lit (.bool true))) (hv : RTs (memOf W) ts vs) (hG : Glob W := by first | assumption | (intro x h; simp [globTab] at h)) : Calls P f vs.toArray W fun e W' => e = .returned (.bool true) ∧ Below W.heap.size W W' :=
  (h.2 (memOf W) W vs hG (memOf_ok W) hv).mono fun e w' ⟨v, r, M', he, hr, _, _, hrt, hb⟩ => by
    subst hr
    simp only [RT] at hrt
    rw [he, hrt]
    exact ⟨rfl, hb⟩
end Go.Proofs.Ytgjfiedepfjdcaa
namespace Go.Proofs.Ytgjfiedepfjdcaa
open Go.ChangeShapes Go.WideShapes Go.ChangeAt Go.RowKit Go.Deep
theorem rts_seg {M : Mm} {ts us : List T} {cs : List Value} {o c : Nat} (h : RTs M ts ((cs.drop o).take c)) (h' : RTs M us (cs.drop (o + c))) : RTs M (ts ++ us) (cs.drop o) := by
  have := h.app h'
  rwa [← List.drop_drop, List.take_append_drop] at this
theorem rts_end {M : Mm} {cs : List Value} {o : Nat} (h : cs.length = o) : RTs M [] (cs.drop o) := by rw [← h, List.drop_length]; simp [RTs]
theorem one_seg {cs : List Value} {o c : Nat} (h : OneAll ((cs.drop o).take c)) (h' : OneAll (cs.drop (o + c))) : OneAll (cs.drop o) := by
  have := h.app h'
  rwa [← List.drop_drop, List.take_append_drop] at this
theorem one_end {cs : List Value} {o : Nat} (h : cs.length = o) : OneAll (cs.drop o) := by rw [← h, List.drop_length]; intro x hx; simp at hx
def lpMass (_ : Lp) : Nat := 1
theorem listQ3 {α : Type} {l : List α} (h : l.length = 3) : ∃ a b c, l = [a, b, c] := match l, h with | [a, b, c], _ => ⟨a, b, c, rfl⟩
theorem cn_int : Try.prog.cellsOf 3 = 1 := by kernel_rfl
theorem cn_str : Try.prog.cellsOf 9 = 1 := by kernel_rfl
section
variable {H : Type} {enc : TypeId × Value → H} {w : World} {base : Nat} {spare : Nat → Bool} {held : Bool}
theorem cn_lp : Try.prog.cellsOf 27 = 3 := by kernel_rfl
theorem opensLp (fuel : Nat) : Opens enc Try.prog w base spare held 27 Lp.ts lpMass fuel := by
  intro cs x h
  obtain ⟨ys, n, hn, rfl, hlen, hyl, hf⟩ := DataW.trod_struct Try.underlying27 h
  rw [cn_lp] at hlen
  obtain ⟨y0, y1, y2, rfl⟩ := listQ3 hyl
  have f0 : DataW.trod enc Try.prog w base spare held n 3 ((cs.drop 0).take (Try.prog.cellsOf 3)) = some y0 := hf 0 _ rfl
  rw [cn_int] at f0
  have f1 : DataW.trod enc Try.prog w base spare held n 3 ((cs.drop 1).take (Try.prog.cellsOf 3)) = some y1 := hf 1 _ rfl
  rw [cn_int] at f1
  have f2 : DataW.trod enc Try.prog w base spare held n 9 ((cs.drop 2).take (Try.prog.cellsOf 9)) = some y2 := hf 2 _ rfl
  rw [cn_str] at f2
  obtain ⟨a0, r0, o0, m0⟩ := opens_int Try.underlying3 _ _ f0
  obtain ⟨a1, r1, o1, m1⟩ := opens_int Try.underlying3 _ _ f1
  obtain ⟨a2, r2, o2, m2⟩ := opens_str Try.underlying9 _ _ f2
  refine ⟨⟨a0, a1, a2⟩, ?_, ?_, ?_⟩
  · have := rts_seg r0 (rts_seg r1 (rts_seg r2 (rts_end hlen)))
    simpa [Lp.ts, lpMass] using this
  · have := one_seg o0 (one_seg o1 (one_seg o2 (one_end hlen)))
    simpa using this
  · simp only [Lp.ts, lpMass, List.map_cons, List.map_nil, Rows.uptoBulk, Rows.uptoBulkAll] at m0 m1 m2 ⊢
    omega
theorem opensLps (fuel : Nat) : Opens enc Try.prog w base spare held 22 (fun l : List Lp => [Lp.row l]) (fun l => (l.map lpMass).sum + 1) fuel :=
  opens_slice Lp.ts lpMass 3 (by omega) Lp.ts_len Try.underlying22 cn_lp (fun m _ => opensLp m)
end
end Go.Proofs.Ytgjfiedepfjdcaa
