/-
  Texts of this proof, part 13: Wsn Open Law OpenT OpenY OpenM OpenSs.
-/
import Derived.Test.YtldhlbjengpdbaaQScopeSays12
import Derived.Deep.Slices
import Derived.JoinedCond
import Derived.Laws.IdiomRangeMap
import Derived.Lib.AppendStr
import Derived.Lib.MinMax
import Derived.OpenShut
import Derived.ProofKit
import Derived.Test.YtldhlbjengpdbaaRows
namespace Go.Proofs.Ytldhlbjengpdbaa
open Go.RowKit
theorem eqByL_self : ∀ l : List ByteArray, eqBy eqStr l l = true
  | [] => rfl
  | a :: l => by rw [eqBy, eqByL_self l]; simp [eqStr]
theorem twB_two (s : ByteArray) : twB [s, s] = true := by simp [twB, twF, hasS]
theorem twF_step {l : List ByteArray} {k : Nat} {s : ByteArray} (hs : l[k]? = some s) (w z : Bool) (h : (w || twF (l.take k) (l.drop k)) = z) : ((w || hasS (l.take k) s) || twF (l.take (k + 1)) (l.drop (k + 1))) = z := by
  obtain ⟨h1, rfl⟩ := List.getElem?_eq_some_iff.1 hs
  rw [List.drop_eq_getElem_cons h1, twF, ← List.take_succ_eq_append_getElem h1] at h
  rw [Bool.or_assoc]
  exact h
set_option maxRecDepth 100000 in
set_option maxHeartbeats 8000000 in
theorem scopeSays_law (p : Pr) (l : List ByteArray) (h : l.length + p.mass ≤ 1048576) : AF Try.prog 3 [p.t, strRow l] (· = .lit (.bool true)) := by
  have hp : p.mass ≤ 1048576 := by omega
  have hll : l.length ≤ 1048576 := by omega
  have hsm := small_af p (Nat.le_trans p.count_le hp) (Nat.le_trans p.bodies_le hp)
  have hpr := program_af p hp
  have hso := scopeOf_af p hp
  have hli := lists_af p hp
  have m1 := makers_af p (Nat.le_trans p.makers_le hp)
  have m2 := calls_af p (Nat.le_trans p.calls_le hp)
  have m3 := acts_af p (Nat.le_trans p.acts_le hp)
  have q1 := eqStrs_af p.makers p.makers
  have q2 := eqStrs_af p.calls p.calls
  have q3 := eqStrs_af p.acts p.acts
  rw [eqByL_self] at q1 q2 q3
  have hbo := bodiesOf_af p (Nat.le_trans p.bodies_le hp)
  have hx : ∀ e ∈ p.bodies, AF Try.prog 13 [p.t, strRow l, e.t] (· = .tup [.lit (.int .i64 (errT (e.sc p.env l)).1), .lit (.int .i64 (errT (e.sc p.env l)).2)]) := fun e he => scopeE_af p hp l e (by have := Nat.le_trans (sum_mem' Ex.mass he) p.masses; omega)
  have hy : ∀ e ∈ p.bodies, AF Try.prog 14 [p.t, strRow l, e.t] (· = wrS (errT (e.sc p.env l))) := fun e he => scopeR_af p hp l e (by have := Nat.le_trans (sum_mem' Ex.mass he) p.masses; omega)
  have htw := twice_af l hll
  have ht2 := twice_af [⟨#[97]⟩, ⟨#[97]⟩] (by simp)
  rw [twB_two] at ht2
  clear h hp
  generalize hz : twB l = z at htw
  replace hz : (false || twF (l.take 0) (l.drop 0)) = z := by rw [Bool.false_or, List.take_zero, List.drop_zero]; exact hz
  generalize decide ((p.count : Int) ≤ 400) = cp at *
  generalize p.env = E at *
  generalize p.bodies = W at *
  generalize p.makers = LM at *
  generalize p.calls = LC at *
  generalize p.acts = LA at *
  generalize errT (progS p) = er at *
  obtain ⟨e1, e2⟩ := er
  dsimp only [wrS] at hpr hso
  have d1 : decide (e1 = e1) = true := by simp
  have d2 : decide (e2 = e2) = true := by simp
  obtain ⟨pn, vr, us, ds, trs, ims, fus, acs⟩ := p
  refine af_enter tok Try.func3 Try.ntmps3 Try.results3 rfl (by kernel_rfl) rfl rfl fun F hX => ?_
  repeat (first | refine gG ?_ | refine zN1 (fun hlen => ?_) | refine zN2 (fun hlen => ?_) | refine zAl (fun _ => ?_) | refine zBf ?_)
  refine zCall (hsm) ?_
  rintro _ rfl
  clear hsm
  cases cp
  · repeat (first | refine gG ?_ | refine zN1 (fun hlen => ?_) | refine zN2 (fun hlen => ?_) | refine zAl (fun _ => ?_) | refine zBx (fun _ => ?_))
    first | refine zR ?_ | refine zQ ?_
    rfl
  repeat (first | refine gG ?_ | refine zN1 (fun hlen => ?_) | refine zN2 (fun hlen => ?_) | refine zAl (fun _ => ?_) | refine zBx (fun _ => ?_))
  refine zCall (hpr) ?_
  rintro _ rfl
  clear hpr
  repeat (first | refine gG ?_ | refine zN1 (fun hlen => ?_) | refine zN2 (fun hlen => ?_) | refine zAl (fun _ => ?_) | refine zBx (fun _ => ?_))
  refine zCall (hso) ?_
  rintro _ rfl
  clear hso
  repeat (first | refine gG ?_ | refine zN1 (fun hlen => ?_) | refine zN2 (fun hlen => ?_) | refine zAl (fun _ => ?_) | refine zBx (fun _ => ?_))
  refine zCall (hli) ?_
  rintro _ rfl
  clear hli
  rename_i b7
  repeat (first | refine gG ?_ | refine zN1 (fun hlen => ?_) | refine zN2 (fun hlen => ?_) | refine zAl (fun _ => ?_) | refine zBx (fun _ => ?_))
  refine zCall (m1) ?_
  rintro _ rfl
  repeat (first | refine gG ?_ | refine zN1 (fun hlen => ?_) | refine zN2 (fun hlen => ?_) | refine zAl (fun _ => ?_) | refine zBx (fun _ => ?_))
  refine zCall (q1) ?_
  rintro _ rfl
  repeat (first | refine gG ?_ | refine zN1 (fun hlen => ?_) | refine zN2 (fun hlen => ?_) | refine zAl (fun _ => ?_) | refine zBx (fun _ => ?_))
  refine zCall (m2) ?_
  rintro _ rfl
  repeat (first | refine gG ?_ | refine zN1 (fun hlen => ?_) | refine zN2 (fun hlen => ?_) | refine zAl (fun _ => ?_) | refine zBx (fun _ => ?_))
  refine zCall (q2) ?_
  rintro _ rfl
  repeat (first | refine gG ?_ | refine zN1 (fun hlen => ?_) | refine zN2 (fun hlen => ?_) | refine zAl (fun _ => ?_) | refine zBx (fun _ => ?_))
  refine zCall (m3) ?_
  rintro _ rfl
  repeat (first | refine gG ?_ | refine zN1 (fun hlen => ?_) | refine zN2 (fun hlen => ?_) | refine zAl (fun _ => ?_) | refine zBx (fun _ => ?_))
  refine zCall (q3) ?_
  rintro _ rfl
  clear m1 m2 m3 q1 q2 q3
  repeat (first | refine gG ?_ | refine zN1 (fun hlen => ?_) | refine zN2 (fun hlen => ?_) | refine zAl (fun _ => ?_) | refine zBx (fun _ => ?_))
  refine zCall (hbo) ?_
  rintro _ rfl
  clear hbo
  repeat (first | refine gG ?_ | refine zN1 (fun hlen => ?_) | refine zN2 (fun hlen => ?_) | refine zAl (fun _ => ?_) | refine zBx (fun _ => ?_))
  refine x_loop [4, 12, 13, 14, 15, 69, 70, 71, 72, 73, 74, 75, 76, 77, 78, 79, 80, 81, 82, 83, 84, 85, 86, 87, 88, 89, 90, 91, 92, 93, 94] (fun k : Nat => [(69, .c (.lit (.int .i64 (k : Nat))))]) (fun _ => [.box b7 36 [.c (.lit (.int .i64 e1)), .c (.lit (.int .i64 e2))]]) (fun k => k ≤ W.length) (fun k => W.length - k) 0 (Nat.zero_le _) ⟨rfl, trivial⟩ rfl ?_
  rintro k hk
  repeat (first | refine gG ?_ | refine zN1 (fun hlen => ?_) | refine zN2 (fun hlen => ?_) | refine zAl (fun _ => ?_) | refine zBx (fun _ => ?_))
  refine x_cond rfl (fun h => ?_) (fun h => ?_)
  · have hk' : k < W.length := by simpa using h
    obtain ⟨a, ha⟩ := nth hk'
    have hxa := hx a (List.mem_of_getElem? ha)
    have hya := hy a (List.mem_of_getElem? ha)
    have hat := Ex.at ha
    clear h ha hx hy hz htw ht2
    generalize errT (a.sc E l) = er at *
    obtain ⟨f1, f2⟩ := er
    dsimp only [wrS] at hxa hya
    have g1 : decide (f1 = f1) = true := by simp
    have g2 : decide (f2 = f2) = true := by simp
    obtain ⟨ka, na, ta, nsa, ysa, la, rsa, qa⟩ := a
    repeat (first | refine gG ?_ | refine zN1 (fun hlen => ?_) | refine zN2 (fun hlen => ?_) | refine zAl (fun _ => ?_) | refine zBx (fun _ => ?_))
    refine zIx (k) (hk') ?_
    repeat (first | refine gG ?_ | refine zN1 (fun hlen => ?_) | refine zN2 (fun hlen => ?_) | refine zAl (fun _ => ?_) | refine zBx (fun _ => ?_))
    refine zEl (hat) (Ex.ts_len _) ?_
    repeat (first | refine gG ?_ | refine zN1 (fun hlen => ?_) | refine zN2 (fun hlen => ?_) | refine zAl (fun _ => ?_) | refine zBx (fun _ => ?_))
    refine zCall (hxa) ?_
    rintro _ rfl
    repeat (first | refine gG ?_ | refine zN1 (fun hlen => ?_) | refine zN2 (fun hlen => ?_) | refine zAl (fun _ => ?_) | refine zBx (fun _ => ?_))
    refine zCall (hya) ?_
    rintro _ rfl
    repeat (first | refine gG ?_ | refine zN1 (fun hlen => ?_) | refine zN2 (fun hlen => ?_) | refine zAl (fun _ => ?_) | refine zBx (fun _ => ?_))
    exact ⟨k + 1, hk', by omega, x_wkd 1 ⟨rfl, trivial⟩ rfl (by repeat (first | exact ag_refl | refine ag_upd rfl ?_ | refine ag_at rfl rfl ?_))⟩
  have hk' : k = W.length := by have : ¬ k < W.length := by simpa using h
                                omega
  subst hk'
  clear h hk hx hy
  repeat (first | refine gG ?_ | refine zN1 (fun hlen => ?_) | refine zN2 (fun hlen => ?_) | refine zAl (fun _ => ?_) | refine zBx (fun _ => ?_))
  refine x_loop [16, 17, 18, 97, 98, 99, 100, 101, 102, 103, 104, 105, 106, 107, 108, 109, 110] (fun y : Nat × Bool => [(97, .c (.lit (.int .i64 (y.1 : Nat)))), (16, .c (.lit (.bool y.2)))]) (fun _ => [.box b7 36 [.c (.lit (.int .i64 e1)), .c (.lit (.int .i64 e2))]]) (fun y => y.1 ≤ l.length ∧ (y.2 || twF (l.take y.1) (l.drop y.1)) = z) (fun y => l.length - y.1) (0, false) ⟨Nat.zero_le _, hz⟩ ⟨rfl, rfl, trivial⟩ rfl ?_
  clear hz
  rintro ⟨k, w⟩ ⟨hk, hw⟩
  dsimp only at hk hw ⊢
  repeat (first | refine gG ?_ | refine zN1 (fun hlen => ?_) | refine zN2 (fun hlen => ?_) | refine zAl (fun _ => ?_) | refine zBx (fun _ => ?_))
  refine x_cond rfl (fun h => ?_) (fun h => ?_)
  · have hk' : k < l.length := by simpa using h
    obtain ⟨s, hs⟩ := nth hk'
    have hat := str_at1 hs
    have hct := contains_af (l.take k) s
    replace hw := twF_step hs w z hw
    clear h hs htw ht2
    cases w
    · rw [Bool.false_or] at hw
      repeat (first | refine gG ?_ | refine zN1 (fun hlen => ?_) | refine zN2 (fun hlen => ?_) | refine zAl (fun _ => ?_) | refine zBx (fun _ => ?_))
      refine zIx k hk' ?_
      repeat (first | refine gG ?_ | refine zN1 (fun hlen => ?_) | refine zN2 (fun hlen => ?_) | refine zAl (fun _ => ?_) | refine zBx (fun _ => ?_))
      refine zEl1 hat ?_
      repeat (first | refine gG ?_ | refine zN1 (fun hlen => ?_) | refine zN2 (fun hlen => ?_) | refine zAl (fun _ => ?_) | refine zBx (fun _ => ?_))
      refine zPhf (f := strTs) (l := l) k (Nat.le_of_lt hk') (fun _ => rfl) ?_
      repeat (first | refine gG ?_ | refine zN1 (fun hlen => ?_) | refine zN2 (fun hlen => ?_) | refine zAl (fun _ => ?_) | refine zBx (fun _ => ?_))
      refine zCall (hct) ?_
      rintro _ rfl
      repeat (first | refine gG ?_ | refine zN1 (fun hlen => ?_) | refine zN2 (fun hlen => ?_) | refine zAl (fun _ => ?_) | refine zBx (fun _ => ?_))
      exact ⟨(k + 1, _), ⟨hk', hw⟩, by simp only; omega, x_wkd 1 ⟨rfl, rfl, trivial⟩ rfl (by repeat (first | exact ag_refl | refine ag_upd rfl ?_ | refine ag_at rfl rfl ?_))⟩
    · rw [Bool.true_or] at hw
      repeat (first | refine gG ?_ | refine zN1 (fun hlen => ?_) | refine zN2 (fun hlen => ?_) | refine zAl (fun _ => ?_) | refine zBx (fun _ => ?_))
      refine zIx k hk' ?_
      repeat (first | refine gG ?_ | refine zN1 (fun hlen => ?_) | refine zN2 (fun hlen => ?_) | refine zAl (fun _ => ?_) | refine zBx (fun _ => ?_))
      refine zEl1 hat ?_
      repeat (first | refine gG ?_ | refine zN1 (fun hlen => ?_) | refine zN2 (fun hlen => ?_) | refine zAl (fun _ => ?_) | refine zBx (fun _ => ?_))
      exact ⟨(k + 1, true), ⟨hk', hw⟩, by simp only; omega, x_wkd 1 ⟨rfl, rfl, trivial⟩ rfl (by repeat (first | exact ag_refl | refine ag_upd rfl ?_ | refine ag_at rfl rfl ?_))⟩
  have hk' : k = l.length := by have : ¬ k < l.length := by simpa using h
                                omega
  subst hk'
  rw [List.drop_length, twF, Bool.or_false] at hw
  subst hw
  clear h hk
  have dw : decide (w = w) = true := by simp
  repeat (first | refine gG ?_ | refine zN1 (fun hlen => ?_) | refine zN2 (fun hlen => ?_) | refine zAl (fun _ => ?_) | refine zBx (fun _ => ?_))
  refine zCall (htw) ?_
  rintro _ rfl
  repeat (first | refine gG ?_ | refine zN1 (fun hlen => ?_) | refine zN2 (fun hlen => ?_) | refine zAl (fun _ => ?_) | refine zBx (fun _ => ?_))
  refine lo_eqbr dw ?_
  repeat (first | refine gG ?_ | refine zN1 (fun hlen => ?_) | refine zN2 (fun hlen => ?_) | refine zAl (fun _ => ?_) | refine zBx (fun _ => ?_))
  refine zCall (ht2) ?_
  rintro _ rfl
  repeat (first | refine gG ?_ | refine zN1 (fun hlen => ?_) | refine zN2 (fun hlen => ?_) | refine zAl (fun _ => ?_) | refine zBx (fun _ => ?_))
  first | refine zR ?_ | refine zQ ?_
  rfl
end Go.Proofs.Ytldhlbjengpdbaa
namespace Go.Proofs.Ytldhlbjengpdbaa
open Go.ChangeShapes Go.WideShapes Go.ChangeAt Go.RowKit Go.Deep
section
variable {H : Type} {enc : TypeId × Value → H} {P : Program} {w : World} {base : Nat} {spare : Nat → Bool} {held : Bool}
theorem bulk_one (d : DataW H) : 1 ≤ Rows.uptoBulk d := by
  cases d with
  | lit l => cases l <;> simp [Rows.uptoBulk]
  | _ => simp [Rows.uptoBulk]
end
end Go.Proofs.Ytldhlbjengpdbaa
namespace Go.Proofs.Ytldhlbjengpdbaa
open Go.ChangeShapes Go.WideShapes Go.ChangeAt Go.RowKit
theorem own : ownKnob Try.prog.godebug = none := by kernel_rfl
theorem laidOut : laidOutB Try.prog = true := by kernel_rfl
section
variable {H : Type} {enc : TypeId × Value → H}
theorem trodAll_below {P : Program} (hl : laidOutB P = true) {W W' : World} (hb : Below W.heap.size W W') (ts : List TypeId) : ∀ (vs : List Value) (ds : List (DataW H)) (ps : List MemPlace),
    (ts.all fun t => P.readableRec t && decide (t < P.types.size)) = true → DataW.TrodAll enc P W 0 (fun _ => true) true ts vs ds ps → (∀ x ∈ ps, x.block < W.heap.size) →
    DataW.TrodAll enc P W' 0 (fun b => decide (b < W.heap.size)) true ts vs ds ps := by
  induction ts with
  | nil =>
    intro vs ds ps _ h _
    obtain ⟨rfl, rfl, rfl⟩ := trodAll_nil h
    rfl
  | cons t ts ih =>
    intro vs ds ps hr h hlt
    obtain ⟨v, vs', d, ds', p, q, rfl, rfl, rfl, h0, h1⟩ := trodAll_cons h
    simp only [List.all_cons, Bool.and_eq_true, decide_eq_true_eq] at hr
    refine ⟨p, q, Below.trod hl hr.1.1 hr.1.2 h0 hb fun x hx => hlt x (List.mem_append_left _ hx), ?_, rfl⟩
    exact ih vs' ds' q hr.2 h1 fun x hx => hlt x (List.mem_append_right _ hx)
theorem law_post {f : Func} {s : ChangeSpec} {W W' : World} {args : Array Value} {ds gs : List (DataW H)} {before : List MemPlace}
    (hW : DataW.Whole enc Try.prog f.params.toList s.vars false W args.toList ds gs before) (hv : s.vars = []) (hrt : f.resultTypes = #[4])
    (hr : (f.params.toList.all fun t => Try.prog.readableRec t && decide (t < Try.prog.types.size)) = true)
    (hres : (s.fn H (ds ++ gs)).results = [.lit (.bool true)]) (hargs : (s.fn H (ds ++ gs)).args = ds) (hvars : (s.fn H (ds ++ gs)).vars = []) (hb : Below W.heap.size W W') :
    s.post enc Try.prog f false true false false W args (.bool true) W' := by
  have hlt : ∀ p ∈ before, p.block < W.heap.size := fun p hp => hW.lt p hp
  have hW' := hW
  obtain ⟨p, q, hA, hV, rfl, _, _⟩ := hW'
  rw [hv] at hV
  obtain ⟨rfl, rfl⟩ := trodVars_none hV
  rw [List.append_nil] at hlt
  refine ⟨ds, [], _, [], p, [], hW, ?_, ?_, ?_, hb.frame _ |> World.keptBut_mono (fun x hx => ⟨hx, ?_⟩), fun h => by cases h⟩
  · rw [hrt, hres]
    exact trodAll_mk1 (shut_bool Try.underlying4 true)
  · rw [hargs]
    exact trodAll_below laidOut hb _ _ _ _ hr hA hlt
  · rw [hvars, hv]
    rfl
  · rw [List.append_nil] at hx
    exact .inr (.inl hx)
end
end Go.Proofs.Ytldhlbjengpdbaa
namespace Go.Proofs.Ytldhlbjengpdbaa
open Go.ChangeShapes Go.WideShapes Go.ChangeAt Go.RowKit Go.Deep
/-- all memory of a world -/
def memOf (w : World) : Mm := frz (fun _ => none) 0 w
theorem memOf_ok (w : World) : MemOk (memOf w) w := frz_ok (fun p v h => by cases h) 0
theorem memOf_at {w : World} {p : Addr} {v : Value} (h : w.cell? p = some v) (h1 : v.oneCell' = true) : memOf w p = some v := frz_new rfl (Nat.zero_le _) h h1
section
variable {H : Type} {enc : TypeId × Value → H} {P : Program} {w : World} {base : Nat} {spare : Nat → Bool} {held : Bool}
def Opens (enc : TypeId × Value → H) (P : Program) (w : World) (base : Nat) (spare : Nat → Bool) (held : Bool) (t : TypeId) {α : Type} (f : α → List T) (μ : α → Nat) (fuel : Nat) : Prop :=
  ∀ (cs : List Value) (x : DataW H × List MemPlace), DataW.trod enc P w base spare held fuel t cs = some x → ∃ a, RTs (memOf w) (f a) cs ∧ OneAll cs ∧ μ a ≤ Rows.uptoBulk x.1
theorem sum_le {α : Type} (μ : α → Nat) : ∀ (l : List α) (ds : List (DataW H)), l.length = ds.length → (∀ (i : Nat) (a : α) (d : DataW H), l[i]? = some a → ds[i]? = some d → μ a ≤ Rows.uptoBulk d) → (l.map μ).sum ≤ Rows.uptoBulkAll ds
  | [], [], _, _ => by simp [Rows.uptoBulkAll]
  | a :: l, d :: ds, hl, h => by
    have h1 := h 0 a d rfl rfl
    have h2 := sum_le μ l ds (by simpa using hl) fun i a d ha hd => h (i + 1) a d (by simpa using ha) (by simpa using hd)
    simp only [List.map_cons, List.sum_cons, Rows.uptoBulkAll]
    omega
  | [], _ :: _, hl, _ => by simp at hl
  | _ :: _, [], hl, _ => by simp at hl
theorem snoc_ind {α : Type} {p : List α → Prop} (h0 : p []) (h1 : ∀ l x, p l → p (l ++ [x])) (l : List α) : p l := by
  have : ∀ n (l : List α), l.length = n → p l := by
    intro n
    induction n with
    | zero => intro l hl; rw [List.eq_nil_of_length_eq_zero hl]; exact h0
    | succ n ih =>
      intro l hl
      have hne : l ≠ [] := fun e => by rw [e] at hl; cases hl
      rw [← List.dropLast_concat_getLast hne]
      exact h1 _ _ (ih _ (by simp [hl]))
  exact this l.length l rfl
theorem rows_of {α : Type} (f : α → List T) (sz : Nat) (hf : ∀ a, (f a).length = sz) {a : Addr} : ∀ (l : List α) (C : Nat → List Value), (∀ (i : Nat) (x : α), l[i]? = some x → RTs (memOf w) (f x) (C i) ∧ OneAll (C i) ∧ ∀ j u, (C i)[j]? = some u → w.cell? (a.add (i * sz + j)) = some u) →
    ∃ xs : List Value, xs.length = l.length * sz ∧ At (memOf w) a xs ∧ RTs (memOf w) (l.flatMap f) xs := by
  intro l
  induction l using snoc_ind with
  | h0 => exact fun _ _ => ⟨[], by simp, fun j x h => by simp at h, by simp [RTs]⟩
  | h1 l x ih =>
    intro C h
    obtain ⟨xs, h1, h2, h3⟩ := ih C fun i y hy => h i y (by rw [List.getElem?_append_left (List.getElem?_eq_some_iff.1 hy).1]; exact hy)
    obtain ⟨g1, g2, g3⟩ := h l.length x (by simp)
    have hcl := g1.len
    rw [hf] at hcl
    refine ⟨xs ++ C l.length, by simp [h1, hcl, Nat.add_mul], fun j u hu => ?_, ?_⟩
    · rw [List.getElem?_append] at hu
      split at hu
      · exact h2 j u hu
      · have := g3 _ u hu
        rw [show l.length * sz + (j - xs.length) = j by omega] at this
        exact memOf_at this (g2 u (List.mem_of_getElem? hu))
    · rw [List.flatMap_append]
      refine h3.app ?_
      simpa using g1
theorem opens_slice {α : Type} [Inhabited α] {t e : TypeId} (f : α → List T) (μ : α → Nat) (sz : Nat) (hsz : 0 < sz) (hf : ∀ a, (f a).length = sz) {fuel : Nat} (ht : P.underlying t = some (.slice e)) (hC : P.cellsOf e = sz)
    (hel : ∀ n, n < fuel → Opens enc P w base spare held e f μ n) : Opens enc P w base spare held t (fun l : List α => [.row l.length sz (l.flatMap f)]) (fun l => (l.map μ).sum + 1) fuel := by
  intro cs x h
  rcases DataW.trod_slice ht h with ⟨rfl, rfl⟩ | ⟨a, len, cap, elems, rest, n, hn, rfl, rfl, hb, hl, hm, hlen, hi, _, _⟩
  · refine ⟨[], ?_, fun u hu => by simp at hu; subst hu; rfl, by simp [Rows.uptoBulk]⟩
    simp only [RTs]
    exact ⟨_, _, rfl, rt_nil hsz (by simp only [RT]), rfl⟩
  · rw [hC] at hi
    have hv : ∀ i, i < len → ∃ p : α × List Value, (p.2.length = sz ∧ ∀ j u, p.2[j]? = some u → w.cell? (a.add (i * sz + j)) = some u) ∧ RTs (memOf w) (f p.1) p.2 ∧ OneAll p.2 ∧ ∀ y, elems[i]? = some y → μ p.1 ≤ Rows.uptoBulk y.1 := by
      intro i hil
      have hk := hi i hil
      rw [List.getElem?_eq_getElem (by omega)] at hk
      obtain ⟨cs', h1, h2⟩ := Option.bind_eq_some_iff.1 hk
      obtain ⟨el, h3, h4, h5⟩ := hel n (by omega) _ _ h2
      obtain ⟨_, hlen', hcell⟩ := World.cells?_some h1
      refine ⟨(el, cs'), ⟨hlen', fun j u hu => ?_⟩, h3, h4, fun y hy => ?_⟩
      · have hj : j < sz := by rw [← hlen']; exact (List.getElem?_eq_some_iff.1 hu).1
        rw [← hu, ← hcell j hj, add_add']
      · rw [List.getElem?_eq_getElem (by omega)] at hy
        injection hy with hy
        rw [← hy]; exact h5
    obtain ⟨G, hG⟩ := choose_lt (α := α × List Value) hv
    obtain ⟨xs, g1, g2, g3⟩ := rows_of (w := w) (a := a) f sz hf ((List.range len).map fun i => (G i).1) (fun i => (G i).2) (fun i x hx => by
      have hil : i < len := by have := (List.getElem?_eq_some_iff.1 hx).1; simpa using this
      simp [hil] at hx
      obtain ⟨k1, k2, k3, _⟩ := hG i hil
      rw [← hx]
      exact ⟨k2, k3, k1.2⟩)
    refine ⟨(List.range len).map fun i => (G i).1, ?_, fun u hu => by simp at hu; subst hu; rfl, ?_⟩
    · simp only [RTs]
      refine ⟨_, _, rfl, ?_, rfl⟩
      simp only [RT]
      exact ⟨some a, cap, xs, by simp, by simpa using hl, by simp; omega, hsz, g1, fun _ => ⟨a, rfl, g2⟩, g3⟩
    · have := sum_le μ ((List.range len).map fun i => (G i).1) (elems.map (·.1)) (by simp [hlen]) (fun i y d hy hd => by
        have hil : i < len := by have := (List.getElem?_eq_some_iff.1 hy).1; simpa using this
        simp [hil] at hy
        rw [List.getElem?_map] at hd
        obtain ⟨z, hz, rfl⟩ := Option.map_eq_some_iff.1 hd
        rw [← hy]
        exact (hG i hil).2.2.2 z hz)
      simp only [Rows.uptoBulk]
      omega
theorem opens_int {t : TypeId} {k : IntKind} {fuel : Nat} (ht : P.underlying t = some (.int k)) : Opens enc P w base spare held t (fun i : Int => [.lit (.int k i)]) (fun _ => 1) fuel := by
  intro cs x h
  obtain ⟨i, rfl, rfl, _⟩ := DataW.trod_int ht h
  exact ⟨i, by simp [RTs, RT], fun u hu => by simp at hu; subst hu; rfl, bulk_one _⟩
end
/-- from a walk to the call: every law that takes trees and tells true -/
theorem law_call {P : Program} {f : FuncId} {ts : List T} {vs : List Value} {W : World} (h : AF P f ts (· = .lit (.bool true))) (hv : RTs (memOf W) ts vs) (hG : Glob W := by first | assumption | (intro x h; simp [globTab] at h)) : Calls P f vs.toArray W fun e W' => e = .returned (.bool true) ∧ Below W.heap.size W W' :=
  (h.2 (memOf W) W vs hG (memOf_ok W) hv).mono fun e w' ⟨v, r, M', he, hr, _, _, hrt, hb⟩ => by
    subst hr
    simp only [RT] at hrt
    rw [he, hrt]
    exact ⟨rfl, hb⟩
end Go.Proofs.Ytldhlbjengpdbaa
namespace Go.Proofs.Ytldhlbjengpdbaa
open Go.ChangeShapes Go.WideShapes Go.ChangeAt Go.RowKit Go.Deep
theorem listN2 {α : Type} {l : List α} (h : l.length = 2) : ∃ a b, l = [a, b] := match l, h with | [a, b], _ => ⟨a, b, rfl⟩
theorem listN3 {α : Type} {l : List α} (h : l.length = 3) : ∃ a b c, l = [a, b, c] := match l, h with | [a, b, c], _ => ⟨a, b, c, rfl⟩
theorem listN4 {α : Type} {l : List α} (h : l.length = 4) : ∃ a b c d, l = [a, b, c, d] := match l, h with | [a, b, c, d], _ => ⟨a, b, c, d, rfl⟩
theorem listN5 {α : Type} {l : List α} (h : l.length = 5) : ∃ a b c d e, l = [a, b, c, d, e] := match l, h with | [a, b, c, d, e], _ => ⟨a, b, c, d, e, rfl⟩
theorem listN6 {α : Type} {l : List α} (h : l.length = 6) : ∃ a b c d e f, l = [a, b, c, d, e, f] := match l, h with | [a, b, c, d, e, f], _ => ⟨a, b, c, d, e, f, rfl⟩
theorem listN8 {α : Type} {l : List α} (h : l.length = 8) : ∃ a b c d e f g i, l = [a, b, c, d, e, f, g, i] := match l, h with | [a, b, c, d, e, f, g, i], _ => ⟨a, b, c, d, e, f, g, i, rfl⟩
theorem rts_seg {M : Mm} {ts us : List T} {cs : List Value} {o c : Nat} (h : RTs M ts ((cs.drop o).take c)) (h' : RTs M us (cs.drop (o + c))) : RTs M (ts ++ us) (cs.drop o) := by
  have := h.app h'
  rwa [← List.drop_drop, List.take_append_drop] at this
theorem rts_end {M : Mm} {cs : List Value} {o : Nat} (h : cs.length = o) : RTs M [] (cs.drop o) := by rw [← h, List.drop_length]; simp [RTs]
theorem one_seg {cs : List Value} {o c : Nat} (h : OneAll ((cs.drop o).take c)) (h' : OneAll (cs.drop (o + c))) : OneAll (cs.drop o) := by
  have := h.app h'
  rwa [← List.drop_drop, List.take_append_drop] at this
theorem one_end {cs : List Value} {o : Nat} (h : cs.length = o) : OneAll (cs.drop o) := by rw [← h, List.drop_length]; intro x hx; simp at hx
section
variable {H : Type} {enc : TypeId × Value → H} {P : Program} {w : World} {base : Nat} {spare : Nat → Bool} {held : Bool}
theorem opens_strz {t : TypeId} {fuel : Nat} (ht : P.underlying t = some .string) : Opens enc P w base spare held t (fun s : ByteArray => [.lit (.string s)]) (fun s => s.size + 1) fuel := by
  intro cs x h
  obtain ⟨i, rfl, rfl, _⟩ := DataW.trod_string ht h
  exact ⟨i, by simp [RTs, RT], fun u hu => by simp at hu; subst hu; rfl, by simp [Rows.uptoBulk]⟩
theorem cn_int : Try.prog.cellsOf 3 = 1 := by kernel_rfl
theorem cn_str : Try.prog.cellsOf 9 = 1 := by kernel_rfl
theorem cn_Y : Try.prog.cellsOf 57 = 3 := by kernel_rfl
theorem opensY : ∀ fuel, Opens enc Try.prog w base spare held 57 Y.ts Y.size fuel := by
  intro fuel
  induction fuel using Nat.strongRecOn with
  | _ fuel ih =>
    intro cs x h
    obtain ⟨ys, n, hn, rfl, hlen, hyl, hf⟩ := DataW.trod_struct Try.underlying57 h
    rw [cn_Y] at hlen
    obtain ⟨y0, y1, y2, rfl⟩ := listN3 hyl
    have f0 : DataW.trod enc Try.prog w base spare held n 3 ((cs.drop 0).take (Try.prog.cellsOf 3)) = some y0 := hf 0 _ rfl
    have f1 : DataW.trod enc Try.prog w base spare held n 9 ((cs.drop 1).take (Try.prog.cellsOf 9)) = some y1 := hf 1 _ rfl
    have f2 : DataW.trod enc Try.prog w base spare held n 44 ((cs.drop 2).take (Try.prog.cellsOf 44)) = some y2 := hf 2 _ rfl
    rw [cn_int] at f0
    rw [cn_str] at f1
    rw [show Try.prog.cellsOf 44 = 1 by kernel_rfl] at f2
    obtain ⟨a0, r0, o0, -⟩ := opens_int Try.underlying3 _ _ f0
    obtain ⟨a1, r1, o1, m1⟩ := opens_strz Try.underlying9 _ _ f1
    obtain ⟨a2, r2, o2, m2⟩ := opens_slice Y.ts Y.size 3 (by omega) Y.ts_len Try.underlying44 cn_Y (fun m hm => ih m (by omega)) _ _ f2
    refine ⟨.mk a0 a1 a2, ?_, ?_, ?_⟩
    · have := rts_seg r0 (rts_seg r1 (rts_seg r2 (rts_end hlen)))
      simpa [Y.ts, Y.all_eq] using this
    · have := one_seg o0 (one_seg o1 (one_seg o2 (one_end hlen)))
      simpa using this
    · simp only [Y.size, Y.sizes_sum, List.map_cons, List.map_nil, Rows.uptoBulk, Rows.uptoBulkAll] at m1 m2 ⊢
      omega
end
end Go.Proofs.Ytldhlbjengpdbaa
namespace Go.Proofs.Ytldhlbjengpdbaa.Mass
open Go.ChangeShapes Go.WideShapes Go.ChangeAt Go.RowKit Go.Deep
instance : Inhabited V := ⟨.mk 0 0 ⟨#[]⟩ []⟩
section
variable {H : Type} {enc : TypeId × Value → H} {P : Program} {w : World} {base : Nat} {spare : Nat → Bool} {held : Bool}
theorem opens_far {t : TypeId} {fuel : Nat} (ht : P.underlying t = some (.int .i64)) : Opens enc P w base spare held t (fun i : Int => [.lit (.int .i64 i)]) far fuel := by
  intro cs x h
  obtain ⟨i, rfl, rfl, hw⟩ := DataW.trod_int ht h
  have hin : inI i := by
    unfold inI
    simp [Lit.wf, IntKind.min, IntKind.max, IntKind.bits, IntKind.signed] at hw
    omega
  exact ⟨i, by simp [RTs, RT], fun u hu => by simp at hu; subst hu; rfl, by unfold far; rw [if_pos hin]; exact bulk_one _⟩
end
section
variable {H : Type} {enc : TypeId × Value → H} {w : World} {base : Nat} {spare : Nat → Bool} {held : Bool}
theorem opensY : ∀ fuel, Opens enc Try.prog w base spare held 57 Y.ts Y.mass fuel := by
  intro fuel
  induction fuel using Nat.strongRecOn with
  | _ fuel ih =>
    intro cs x h
    obtain ⟨ys, n, hn, rfl, hlen, hyl, hf⟩ := DataW.trod_struct Try.underlying57 h
    rw [cn_Y] at hlen
    obtain ⟨y0, y1, y2, rfl⟩ := listN3 hyl
    have f0 : DataW.trod enc Try.prog w base spare held n 3 ((cs.drop 0).take (Try.prog.cellsOf 3)) = some y0 := hf 0 _ rfl
    have f1 : DataW.trod enc Try.prog w base spare held n 9 ((cs.drop 1).take (Try.prog.cellsOf 9)) = some y1 := hf 1 _ rfl
    have f2 : DataW.trod enc Try.prog w base spare held n 44 ((cs.drop 2).take (Try.prog.cellsOf 44)) = some y2 := hf 2 _ rfl
    rw [cn_int] at f0
    rw [cn_str] at f1
    rw [show Try.prog.cellsOf 44 = 1 by kernel_rfl] at f2
    obtain ⟨a0, r0, o0, m0⟩ := opens_far Try.underlying3 _ _ f0
    obtain ⟨a1, r1, o1, m1⟩ := opens_strz Try.underlying9 _ _ f1
    obtain ⟨a2, r2, o2, m2⟩ := opens_slice Y.ts Y.mass 3 (by omega) Y.ts_len Try.underlying44 cn_Y (fun m hm => ih m (by omega)) _ _ f2
    refine ⟨.mk a0 a1 a2, ?_, ?_, ?_⟩
    · have := rts_seg r0 (rts_seg r1 (rts_seg r2 (rts_end hlen)))
      simpa [Y.ts, Y.all_eq] using this
    · have := one_seg o0 (one_seg o1 (one_seg o2 (one_end hlen)))
      simpa using this
    · simp only [Y.mass, Y.masses_sum, List.map_cons, List.map_nil, Rows.uptoBulk, Rows.uptoBulkAll] at m0 m1 m2 ⊢
      omega
theorem cn_Pat : Try.prog.cellsOf 83 = 4 := by kernel_rfl
theorem opensPat : ∀ fuel, Opens enc Try.prog w base spare held 83 V.ts V.mass fuel := by
  intro fuel
  induction fuel using Nat.strongRecOn with
  | _ fuel ih =>
    intro cs x h
    obtain ⟨ys, n, hn, rfl, hlen, hyl, hf⟩ := DataW.trod_struct Try.underlying83 h
    rw [cn_Pat] at hlen
    obtain ⟨y0, y1, y2, y3, rfl⟩ := listN4 hyl
    have f0 : DataW.trod enc Try.prog w base spare held n 3 ((cs.drop 0).take (Try.prog.cellsOf 3)) = some y0 := hf 0 _ rfl
    have f1 : DataW.trod enc Try.prog w base spare held n 3 ((cs.drop 1).take (Try.prog.cellsOf 3)) = some y1 := hf 1 _ rfl
    have f2 : DataW.trod enc Try.prog w base spare held n 9 ((cs.drop 2).take (Try.prog.cellsOf 9)) = some y2 := hf 2 _ rfl
    have f3 : DataW.trod enc Try.prog w base spare held n 81 ((cs.drop 3).take (Try.prog.cellsOf 81)) = some y3 := hf 3 _ rfl
    rw [cn_int] at f0 f1
    rw [cn_str] at f2
    rw [show Try.prog.cellsOf 81 = 1 by kernel_rfl] at f3
    obtain ⟨a0, r0, o0, m0⟩ := opens_far Try.underlying3 _ _ f0
    obtain ⟨a1, r1, o1, m1⟩ := opens_far Try.underlying3 _ _ f1
    obtain ⟨a2, r2, o2, m2⟩ := opens_strz Try.underlying9 _ _ f2
    obtain ⟨a3, r3, o3, m3⟩ := opens_slice V.ts V.mass 4 (by omega) V.ts_len Try.underlying81 cn_Pat (fun m hm => ih m (by omega)) _ _ f3
    refine ⟨.mk a0 a1 a2 a3, ?_, ?_, ?_⟩
    · have := rts_seg r0 (rts_seg r1 (rts_seg r2 (rts_seg r3 (rts_end hlen))))
      simpa [V.ts, V.all_eq] using this
    · have := one_seg o0 (one_seg o1 (one_seg o2 (one_seg o3 (one_end hlen))))
      simpa using this
    · simp only [V.mass, V.masses_sum, List.map_cons, List.map_nil, Rows.uptoBulk, Rows.uptoBulkAll] at m0 m1 m2 m3 ⊢
      omega
theorem cn_Ex : Try.prog.cellsOf 47 = 8 := by kernel_rfl
theorem cn_Ar : Try.prog.cellsOf 85 = 12 := by kernel_rfl
theorem opensAr {fuel : Nat} (ih : ∀ m, m < fuel → Opens enc Try.prog w base spare held 47 Ex.ts Ex.mass m) : Opens enc Try.prog w base spare held 85 Ar.ts Ar.mass fuel := by
  intro cs x h
  obtain ⟨ys, n, hn, rfl, hlen, hyl, hf⟩ := DataW.trod_struct Try.underlying85 h
  rw [cn_Ar] at hlen
  obtain ⟨y0, y1, rfl⟩ := listN2 hyl
  have f0 : DataW.trod enc Try.prog w base spare held n 83 ((cs.drop 0).take (Try.prog.cellsOf 83)) = some y0 := hf 0 _ rfl
  have f1 : DataW.trod enc Try.prog w base spare held n 47 ((cs.drop 4).take (Try.prog.cellsOf 47)) = some y1 := hf 1 _ rfl
  rw [cn_Pat] at f0
  rw [cn_Ex] at f1
  obtain ⟨a0, r0, o0, m0⟩ := opensPat _ _ _ f0
  obtain ⟨a1, r1, o1, m1⟩ := ih n (by omega) _ _ f1
  refine ⟨.mk a0 a1, ?_, ?_, ?_⟩
  · have := rts_seg r0 (rts_seg r1 (rts_end hlen))
    simpa [Ar.ts] using this
  · have := one_seg o0 (one_seg o1 (one_end hlen))
    simpa using this
  · simp only [Ar.mass, List.map_cons, List.map_nil, Rows.uptoBulk, Rows.uptoBulkAll] at m0 m1 ⊢
    omega
theorem opensEx : ∀ fuel, Opens enc Try.prog w base spare held 47 Ex.ts Ex.mass fuel := by
  intro fuel
  induction fuel using Nat.strongRecOn with
  | _ fuel ih =>
    intro cs x h
    obtain ⟨ys, n, hn, rfl, hlen, hyl, hf⟩ := DataW.trod_struct Try.underlying47 h
    rw [cn_Ex] at hlen
    obtain ⟨y0, y1, y2, y3, y4, y5, y6, y7, rfl⟩ := listN8 hyl
    have f0 : DataW.trod enc Try.prog w base spare held n 3 ((cs.drop 0).take (Try.prog.cellsOf 3)) = some y0 := hf 0 _ rfl
    rw [show Try.prog.cellsOf 3 = 1 by kernel_rfl] at f0
    have f1 : DataW.trod enc Try.prog w base spare held n 3 ((cs.drop 1).take (Try.prog.cellsOf 3)) = some y1 := hf 1 _ rfl
    rw [show Try.prog.cellsOf 3 = 1 by kernel_rfl] at f1
    have f2 : DataW.trod enc Try.prog w base spare held n 9 ((cs.drop 2).take (Try.prog.cellsOf 9)) = some y2 := hf 2 _ rfl
    rw [show Try.prog.cellsOf 9 = 1 by kernel_rfl] at f2
    have f3 : DataW.trod enc Try.prog w base spare held n 30 ((cs.drop 3).take (Try.prog.cellsOf 30)) = some y3 := hf 3 _ rfl
    rw [show Try.prog.cellsOf 30 = 1 by kernel_rfl] at f3
    have f4 : DataW.trod enc Try.prog w base spare held n 44 ((cs.drop 4).take (Try.prog.cellsOf 44)) = some y4 := hf 4 _ rfl
    rw [show Try.prog.cellsOf 44 = 1 by kernel_rfl] at f4
    have f5 : DataW.trod enc Try.prog w base spare held n 42 ((cs.drop 5).take (Try.prog.cellsOf 42)) = some y5 := hf 5 _ rfl
    rw [show Try.prog.cellsOf 42 = 1 by kernel_rfl] at f5
    have f6 : DataW.trod enc Try.prog w base spare held n 45 ((cs.drop 6).take (Try.prog.cellsOf 45)) = some y6 := hf 6 _ rfl
    rw [show Try.prog.cellsOf 45 = 1 by kernel_rfl] at f6
    have f7 : DataW.trod enc Try.prog w base spare held n 3 ((cs.drop 7).take (Try.prog.cellsOf 3)) = some y7 := hf 7 _ rfl
    rw [show Try.prog.cellsOf 3 = 1 by kernel_rfl] at f7
    obtain ⟨a0, r0, o0, m0⟩ := opens_far Try.underlying3 _ _ f0
    obtain ⟨a1, r1, o1, m1⟩ := opens_far Try.underlying3 _ _ f1
    obtain ⟨a2, r2, o2, m2⟩ := opens_strz Try.underlying9 _ _ f2
    obtain ⟨a3, r3, o3, m3⟩ := opens_slice strTs (fun s => s.size + 1) 1 (by omega) (fun _ => rfl) Try.underlying30 cn_str (fun m _ => opens_strz Try.underlying9) _ _ f3
    obtain ⟨a4, r4, o4, m4⟩ := opens_slice Y.ts Y.mass 3 (by omega) Y.ts_len Try.underlying44 cn_Y (fun m _ => opensY m) _ _ f4
    obtain ⟨a5, r5, o5, m5⟩ := opens_slice Ex.ts Ex.mass 8 (by omega) Ex.ts_len Try.underlying42 cn_Ex (fun m hm => ih m (by omega)) _ _ f5
    obtain ⟨a6, r6, o6, m6⟩ := opens_slice Ar.ts Ar.mass 12 (by omega) Ar.ts_len Try.underlying45 cn_Ar (fun m hm => opensAr (fun j hj => ih j (by omega))) _ _ f6
    obtain ⟨a7, r7, o7, m7⟩ := opens_far Try.underlying3 _ _ f7
    refine ⟨.mk a0 a1 a2 a3 a4 a5 a6 a7, ?_, ?_, ?_⟩
    · have := rts_seg r0 (rts_seg r1 (rts_seg r2 (rts_seg r3 (rts_seg r4 (rts_seg r5 (rts_seg r6 (rts_seg r7 (rts_end hlen))))))))
      simpa [Ex.ts, Ex.all_eq, Ar.all_eq, Y.row, Y.all_eq, strRow] using this
    · have := one_seg o0 (one_seg o1 (one_seg o2 (one_seg o3 (one_seg o4 (one_seg o5 (one_seg o6 (one_seg o7 (one_end hlen))))))))
      simpa using this
    · simp only [Ex.mass, strSize, Y.masses_sum, Ex.masses_sum, Ar.masses_sum, List.map_cons, List.map_nil, Rows.uptoBulk, Rows.uptoBulkAll] at m0 m1 m2 m3 m4 m5 m6 m7 ⊢
      omega
theorem cn_Us : Try.prog.cellsOf 70 = 3 := by kernel_rfl
theorem opensUs (fuel : Nat) : Opens enc Try.prog w base spare held 70 Us.ts Us.mass fuel := by
  intro cs x h
  obtain ⟨ys, n, hn, rfl, hlen, hyl, hf⟩ := DataW.trod_struct Try.underlying70 h
  rw [cn_Us] at hlen
  obtain ⟨y0, y1, y2, rfl⟩ := listN3 hyl
  have f0 : DataW.trod enc Try.prog w base spare held n 9 ((cs.drop 0).take (Try.prog.cellsOf 9)) = some y0 := hf 0 _ rfl
  rw [show Try.prog.cellsOf 9 = 1 by kernel_rfl] at f0
  have f1 : DataW.trod enc Try.prog w base spare held n 3 ((cs.drop 1).take (Try.prog.cellsOf 3)) = some y1 := hf 1 _ rfl
  rw [show Try.prog.cellsOf 3 = 1 by kernel_rfl] at f1
  have f2 : DataW.trod enc Try.prog w base spare held n 3 ((cs.drop 2).take (Try.prog.cellsOf 3)) = some y2 := hf 2 _ rfl
  rw [show Try.prog.cellsOf 3 = 1 by kernel_rfl] at f2
  obtain ⟨a0, r0, o0, m0⟩ := opens_strz Try.underlying9 _ _ f0
  obtain ⟨a1, r1, o1, m1⟩ := opens_far Try.underlying3 _ _ f1
  obtain ⟨a2, r2, o2, m2⟩ := opens_far Try.underlying3 _ _ f2
  refine ⟨⟨a0, a1, a2⟩, ?_, ?_, ?_⟩
  · have := rts_seg r0 (rts_seg r1 (rts_seg r2 (rts_end hlen)))
    simpa [Us.ts] using this
  · have := one_seg o0 (one_seg o1 (one_seg o2 (one_end hlen)))
    simpa using this
  · simp only [Us.mass, List.map_cons, List.map_nil, Rows.uptoBulk, Rows.uptoBulkAll] at m0 m1 m2 ⊢
    omega
theorem cn_Mk : Try.prog.cellsOf 77 = 2 := by kernel_rfl
theorem opensMk (fuel : Nat) : Opens enc Try.prog w base spare held 77 Mk.ts Mk.mass fuel := by
  intro cs x h
  obtain ⟨ys, n, hn, rfl, hlen, hyl, hf⟩ := DataW.trod_struct Try.underlying77 h
  rw [cn_Mk] at hlen
  obtain ⟨y0, y1, rfl⟩ := listN2 hyl
  have f0 : DataW.trod enc Try.prog w base spare held n 9 ((cs.drop 0).take (Try.prog.cellsOf 9)) = some y0 := hf 0 _ rfl
  rw [show Try.prog.cellsOf 9 = 1 by kernel_rfl] at f0
  have f1 : DataW.trod enc Try.prog w base spare held n 44 ((cs.drop 1).take (Try.prog.cellsOf 44)) = some y1 := hf 1 _ rfl
  rw [show Try.prog.cellsOf 44 = 1 by kernel_rfl] at f1
  obtain ⟨a0, r0, o0, m0⟩ := opens_strz Try.underlying9 _ _ f0
  obtain ⟨a1, r1, o1, m1⟩ := opens_slice Y.ts Y.mass 3 (by omega) Y.ts_len Try.underlying44 cn_Y (fun m _ => opensY m) _ _ f1
  refine ⟨⟨a0, a1⟩, ?_, ?_, ?_⟩
  · have := rts_seg r0 (rts_seg r1 (rts_end hlen))
    simpa [Mk.ts, Y.all_eq, Y.row] using this
  · have := one_seg o0 (one_seg o1 (one_end hlen))
    simpa using this
  · simp only [Mk.mass, List.map_cons, List.map_nil, Rows.uptoBulk, Rows.uptoBulkAll] at m0 m1 ⊢
    omega
theorem cn_Da : Try.prog.cellsOf 73 = 3 := by kernel_rfl
theorem opensDa (fuel : Nat) : Opens enc Try.prog w base spare held 73 Da.ts Da.mass fuel := by
  intro cs x h
  obtain ⟨ys, n, hn, rfl, hlen, hyl, hf⟩ := DataW.trod_struct Try.underlying73 h
  rw [cn_Da] at hlen
  obtain ⟨y0, y1, y2, rfl⟩ := listN3 hyl
  have f0 : DataW.trod enc Try.prog w base spare held n 9 ((cs.drop 0).take (Try.prog.cellsOf 9)) = some y0 := hf 0 _ rfl
  rw [show Try.prog.cellsOf 9 = 1 by kernel_rfl] at f0
  have f1 : DataW.trod enc Try.prog w base spare held n 30 ((cs.drop 1).take (Try.prog.cellsOf 30)) = some y1 := hf 1 _ rfl
  rw [show Try.prog.cellsOf 30 = 1 by kernel_rfl] at f1
  have f2 : DataW.trod enc Try.prog w base spare held n 71 ((cs.drop 2).take (Try.prog.cellsOf 71)) = some y2 := hf 2 _ rfl
  rw [show Try.prog.cellsOf 71 = 1 by kernel_rfl] at f2
  obtain ⟨a0, r0, o0, m0⟩ := opens_strz Try.underlying9 _ _ f0
  obtain ⟨a1, r1, o1, m1⟩ := opens_slice strTs (fun s => s.size + 1) 1 (by omega) (fun _ => rfl) Try.underlying30 cn_str (fun m _ => opens_strz Try.underlying9) _ _ f1
  obtain ⟨a2, r2, o2, m2⟩ := opens_slice Mk.ts Mk.mass 2 (by omega) Mk.ts_len Try.underlying71 cn_Mk (fun m _ => opensMk m) _ _ f2
  refine ⟨⟨a0, a1, a2⟩, ?_, ?_, ?_⟩
  · have := rts_seg r0 (rts_seg r1 (rts_seg r2 (rts_end hlen)))
    simpa [Da.ts, Mk.row, strRow] using this
  · have := one_seg o0 (one_seg o1 (one_seg o2 (one_end hlen)))
    simpa using this
  · simp only [Da.mass, strSize, List.map_cons, List.map_nil, Rows.uptoBulk, Rows.uptoBulkAll] at m0 m1 m2 ⊢
    omega
theorem cn_Fu : Try.prog.cellsOf 59 = 15 := by kernel_rfl
theorem opensFu (fuel : Nat) : Opens enc Try.prog w base spare held 59 Fu.ts Fu.mass fuel := by
  intro cs x h
  obtain ⟨ys, n, hn, rfl, hlen, hyl, hf⟩ := DataW.trod_struct Try.underlying59 h
  rw [cn_Fu] at hlen
  obtain ⟨y0, y1, y2, y3, y4, y5, rfl⟩ := listN6 hyl
  have f0 : DataW.trod enc Try.prog w base spare held n 9 ((cs.drop 0).take (Try.prog.cellsOf 9)) = some y0 := hf 0 _ rfl
  rw [show Try.prog.cellsOf 9 = 1 by kernel_rfl] at f0
  have f1 : DataW.trod enc Try.prog w base spare held n 30 ((cs.drop 1).take (Try.prog.cellsOf 30)) = some y1 := hf 1 _ rfl
  rw [show Try.prog.cellsOf 30 = 1 by kernel_rfl] at f1
  have f2 : DataW.trod enc Try.prog w base spare held n 30 ((cs.drop 2).take (Try.prog.cellsOf 30)) = some y2 := hf 2 _ rfl
  rw [show Try.prog.cellsOf 30 = 1 by kernel_rfl] at f2
  have f3 : DataW.trod enc Try.prog w base spare held n 44 ((cs.drop 3).take (Try.prog.cellsOf 44)) = some y3 := hf 3 _ rfl
  rw [show Try.prog.cellsOf 44 = 1 by kernel_rfl] at f3
  have f4 : DataW.trod enc Try.prog w base spare held n 57 ((cs.drop 4).take (Try.prog.cellsOf 57)) = some y4 := hf 4 _ rfl
  rw [show Try.prog.cellsOf 57 = 3 by kernel_rfl] at f4
  have f5 : DataW.trod enc Try.prog w base spare held n 47 ((cs.drop 7).take (Try.prog.cellsOf 47)) = some y5 := hf 5 _ rfl
  rw [show Try.prog.cellsOf 47 = 8 by kernel_rfl] at f5
  obtain ⟨a0, r0, o0, m0⟩ := opens_strz Try.underlying9 _ _ f0
  obtain ⟨a1, r1, o1, m1⟩ := opens_slice strTs (fun s => s.size + 1) 1 (by omega) (fun _ => rfl) Try.underlying30 cn_str (fun m _ => opens_strz Try.underlying9) _ _ f1
  obtain ⟨a2, r2, o2, m2⟩ := opens_slice strTs (fun s => s.size + 1) 1 (by omega) (fun _ => rfl) Try.underlying30 cn_str (fun m _ => opens_strz Try.underlying9) _ _ f2
  obtain ⟨a3, r3, o3, m3⟩ := opens_slice Y.ts Y.mass 3 (by omega) Y.ts_len Try.underlying44 cn_Y (fun m _ => opensY m) _ _ f3
  obtain ⟨a4, r4, o4, m4⟩ := opensY _ _ _ f4
  obtain ⟨a5, r5, o5, m5⟩ := opensEx _ _ _ f5
  refine ⟨⟨a0, a1, a2, a3, a4, a5⟩, ?_, ?_, ?_⟩
  · have := rts_seg r0 (rts_seg r1 (rts_seg r2 (rts_seg r3 (rts_seg r4 (rts_seg r5 (rts_end hlen))))))
    simpa [Fu.ts, Y.all_eq, Y.row, strRow] using this
  · have := one_seg o0 (one_seg o1 (one_seg o2 (one_seg o3 (one_seg o4 (one_seg o5 (one_end hlen))))))
    simpa using this
  · simp only [Fu.mass, strSize, List.map_cons, List.map_nil, Rows.uptoBulk, Rows.uptoBulkAll] at m0 m1 m2 m3 m4 m5 ⊢
    omega
theorem cn_Tr : Try.prog.cellsOf 55 = 2 := by kernel_rfl
theorem opensTr (fuel : Nat) : Opens enc Try.prog w base spare held 55 Tr.ts Tr.mass fuel := by
  intro cs x h
  obtain ⟨ys, n, hn, rfl, hlen, hyl, hf⟩ := DataW.trod_struct Try.underlying55 h
  rw [cn_Tr] at hlen
  obtain ⟨y0, y1, rfl⟩ := listN2 hyl
  have f0 : DataW.trod enc Try.prog w base spare held n 9 ((cs.drop 0).take (Try.prog.cellsOf 9)) = some y0 := hf 0 _ rfl
  rw [show Try.prog.cellsOf 9 = 1 by kernel_rfl] at f0
  have f1 : DataW.trod enc Try.prog w base spare held n 26 ((cs.drop 1).take (Try.prog.cellsOf 26)) = some y1 := hf 1 _ rfl
  rw [show Try.prog.cellsOf 26 = 1 by kernel_rfl] at f1
  obtain ⟨a0, r0, o0, m0⟩ := opens_strz Try.underlying9 _ _ f0
  obtain ⟨a1, r1, o1, m1⟩ := opens_slice Fu.ts Fu.mass 15 (by omega) Fu.ts_len Try.underlying26 cn_Fu (fun m _ => opensFu m) _ _ f1
  refine ⟨⟨a0, a1⟩, ?_, ?_, ?_⟩
  · have := rts_seg r0 (rts_seg r1 (rts_end hlen))
    simpa [Tr.ts, Fu.row] using this
  · have := one_seg o0 (one_seg o1 (one_end hlen))
    simpa using this
  · simp only [Tr.mass, List.map_cons, List.map_nil, Rows.uptoBulk, Rows.uptoBulkAll] at m0 m1 ⊢
    omega
theorem cn_Im : Try.prog.cellsOf 63 = 3 := by kernel_rfl
theorem opensIm (fuel : Nat) : Opens enc Try.prog w base spare held 63 Im.ts Im.mass fuel := by
  intro cs x h
  obtain ⟨ys, n, hn, rfl, hlen, hyl, hf⟩ := DataW.trod_struct Try.underlying63 h
  rw [cn_Im] at hlen
  obtain ⟨y0, y1, y2, rfl⟩ := listN3 hyl
  have f0 : DataW.trod enc Try.prog w base spare held n 9 ((cs.drop 0).take (Try.prog.cellsOf 9)) = some y0 := hf 0 _ rfl
  rw [show Try.prog.cellsOf 9 = 1 by kernel_rfl] at f0
  have f1 : DataW.trod enc Try.prog w base spare held n 9 ((cs.drop 1).take (Try.prog.cellsOf 9)) = some y1 := hf 1 _ rfl
  rw [show Try.prog.cellsOf 9 = 1 by kernel_rfl] at f1
  have f2 : DataW.trod enc Try.prog w base spare held n 26 ((cs.drop 2).take (Try.prog.cellsOf 26)) = some y2 := hf 2 _ rfl
  rw [show Try.prog.cellsOf 26 = 1 by kernel_rfl] at f2
  obtain ⟨a0, r0, o0, m0⟩ := opens_strz Try.underlying9 _ _ f0
  obtain ⟨a1, r1, o1, m1⟩ := opens_strz Try.underlying9 _ _ f1
  obtain ⟨a2, r2, o2, m2⟩ := opens_slice Fu.ts Fu.mass 15 (by omega) Fu.ts_len Try.underlying26 cn_Fu (fun m _ => opensFu m) _ _ f2
  refine ⟨⟨a0, a1, a2⟩, ?_, ?_, ?_⟩
  · have := rts_seg r0 (rts_seg r1 (rts_seg r2 (rts_end hlen)))
    simpa [Im.ts, Fu.row] using this
  · have := one_seg o0 (one_seg o1 (one_seg o2 (one_end hlen)))
    simpa using this
  · simp only [Im.mass, List.map_cons, List.map_nil, Rows.uptoBulk, Rows.uptoBulkAll] at m0 m1 m2 ⊢
    omega
theorem cn_Ac : Try.prog.cellsOf 68 = 14 := by kernel_rfl
theorem opensAc (fuel : Nat) : Opens enc Try.prog w base spare held 68 Ac.ts Ac.mass fuel := by
  intro cs x h
  obtain ⟨ys, n, hn, rfl, hlen, hyl, hf⟩ := DataW.trod_struct Try.underlying68 h
  rw [cn_Ac] at hlen
  obtain ⟨y0, y1, y2, y3, y4, rfl⟩ := listN5 hyl
  have f0 : DataW.trod enc Try.prog w base spare held n 9 ((cs.drop 0).take (Try.prog.cellsOf 9)) = some y0 := hf 0 _ rfl
  rw [show Try.prog.cellsOf 9 = 1 by kernel_rfl] at f0
  have f1 : DataW.trod enc Try.prog w base spare held n 30 ((cs.drop 1).take (Try.prog.cellsOf 30)) = some y1 := hf 1 _ rfl
  rw [show Try.prog.cellsOf 30 = 1 by kernel_rfl] at f1
  have f2 : DataW.trod enc Try.prog w base spare held n 44 ((cs.drop 2).take (Try.prog.cellsOf 44)) = some y2 := hf 2 _ rfl
  rw [show Try.prog.cellsOf 44 = 1 by kernel_rfl] at f2
  have f3 : DataW.trod enc Try.prog w base spare held n 57 ((cs.drop 3).take (Try.prog.cellsOf 57)) = some y3 := hf 3 _ rfl
  rw [show Try.prog.cellsOf 57 = 3 by kernel_rfl] at f3
  have f4 : DataW.trod enc Try.prog w base spare held n 47 ((cs.drop 6).take (Try.prog.cellsOf 47)) = some y4 := hf 4 _ rfl
  rw [show Try.prog.cellsOf 47 = 8 by kernel_rfl] at f4
  obtain ⟨a0, r0, o0, m0⟩ := opens_strz Try.underlying9 _ _ f0
  obtain ⟨a1, r1, o1, m1⟩ := opens_slice strTs (fun s => s.size + 1) 1 (by omega) (fun _ => rfl) Try.underlying30 cn_str (fun m _ => opens_strz Try.underlying9) _ _ f1
  obtain ⟨a2, r2, o2, m2⟩ := opens_slice Y.ts Y.mass 3 (by omega) Y.ts_len Try.underlying44 cn_Y (fun m _ => opensY m) _ _ f2
  obtain ⟨a3, r3, o3, m3⟩ := opensY _ _ _ f3
  obtain ⟨a4, r4, o4, m4⟩ := opensEx _ _ _ f4
  refine ⟨⟨a0, a1, a2, a3, a4⟩, ?_, ?_, ?_⟩
  · have := rts_seg r0 (rts_seg r1 (rts_seg r2 (rts_seg r3 (rts_seg r4 (rts_end hlen)))))
    simpa [Ac.ts, Y.all_eq, Y.row, strRow] using this
  · have := one_seg o0 (one_seg o1 (one_seg o2 (one_seg o3 (one_seg o4 (one_end hlen)))))
    simpa using this
  · simp only [Ac.mass, strSize, List.map_cons, List.map_nil, Rows.uptoBulk, Rows.uptoBulkAll] at m0 m1 m2 m3 m4 ⊢
    omega
theorem cn_Pr : Try.prog.cellsOf 29 = 8 := by kernel_rfl
theorem opensPr (fuel : Nat) : Opens enc Try.prog w base spare held 29 Pr.ts Pr.mass fuel := by
  intro cs x h
  obtain ⟨ys, n, hn, rfl, hlen, hyl, hf⟩ := DataW.trod_struct Try.underlying29 h
  rw [cn_Pr] at hlen
  obtain ⟨y0, y1, y2, y3, y4, y5, y6, y7, rfl⟩ := listN8 hyl
  have f0 : DataW.trod enc Try.prog w base spare held n 9 ((cs.drop 0).take (Try.prog.cellsOf 9)) = some y0 := hf 0 _ rfl
  rw [show Try.prog.cellsOf 9 = 1 by kernel_rfl] at f0
  have f1 : DataW.trod enc Try.prog w base spare held n 3 ((cs.drop 1).take (Try.prog.cellsOf 3)) = some y1 := hf 1 _ rfl
  rw [show Try.prog.cellsOf 3 = 1 by kernel_rfl] at f1
  have f2 : DataW.trod enc Try.prog w base spare held n 22 ((cs.drop 2).take (Try.prog.cellsOf 22)) = some y2 := hf 2 _ rfl
  rw [show Try.prog.cellsOf 22 = 1 by kernel_rfl] at f2
  have f3 : DataW.trod enc Try.prog w base spare held n 23 ((cs.drop 3).take (Try.prog.cellsOf 23)) = some y3 := hf 3 _ rfl
  rw [show Try.prog.cellsOf 23 = 1 by kernel_rfl] at f3
  have f4 : DataW.trod enc Try.prog w base spare held n 24 ((cs.drop 4).take (Try.prog.cellsOf 24)) = some y4 := hf 4 _ rfl
  rw [show Try.prog.cellsOf 24 = 1 by kernel_rfl] at f4
  have f5 : DataW.trod enc Try.prog w base spare held n 25 ((cs.drop 5).take (Try.prog.cellsOf 25)) = some y5 := hf 5 _ rfl
  rw [show Try.prog.cellsOf 25 = 1 by kernel_rfl] at f5
  have f6 : DataW.trod enc Try.prog w base spare held n 26 ((cs.drop 6).take (Try.prog.cellsOf 26)) = some y6 := hf 6 _ rfl
  rw [show Try.prog.cellsOf 26 = 1 by kernel_rfl] at f6
  have f7 : DataW.trod enc Try.prog w base spare held n 27 ((cs.drop 7).take (Try.prog.cellsOf 27)) = some y7 := hf 7 _ rfl
  rw [show Try.prog.cellsOf 27 = 1 by kernel_rfl] at f7
  obtain ⟨a0, r0, o0, m0⟩ := opens_strz Try.underlying9 _ _ f0
  obtain ⟨a1, r1, o1, m1⟩ := opens_far Try.underlying3 _ _ f1
  obtain ⟨a2, r2, o2, m2⟩ := opens_slice Us.ts Us.mass 3 (by omega) Us.ts_len Try.underlying22 cn_Us (fun m _ => opensUs m) _ _ f2
  obtain ⟨a3, r3, o3, m3⟩ := opens_slice Da.ts Da.mass 3 (by omega) Da.ts_len Try.underlying23 cn_Da (fun m _ => opensDa m) _ _ f3
  obtain ⟨a4, r4, o4, m4⟩ := opens_slice Tr.ts Tr.mass 2 (by omega) Tr.ts_len Try.underlying24 cn_Tr (fun m _ => opensTr m) _ _ f4
  obtain ⟨a5, r5, o5, m5⟩ := opens_slice Im.ts Im.mass 3 (by omega) Im.ts_len Try.underlying25 cn_Im (fun m _ => opensIm m) _ _ f5
  obtain ⟨a6, r6, o6, m6⟩ := opens_slice Fu.ts Fu.mass 15 (by omega) Fu.ts_len Try.underlying26 cn_Fu (fun m _ => opensFu m) _ _ f6
  obtain ⟨a7, r7, o7, m7⟩ := opens_slice Ac.ts Ac.mass 14 (by omega) Ac.ts_len Try.underlying27 cn_Ac (fun m _ => opensAc m) _ _ f7
  refine ⟨⟨a0, a1, a2, a3, a4, a5, a6, a7⟩, ?_, ?_, ?_⟩
  · have := rts_seg r0 (rts_seg r1 (rts_seg r2 (rts_seg r3 (rts_seg r4 (rts_seg r5 (rts_seg r6 (rts_seg r7 (rts_end hlen))))))))
    simpa [Pr.ts, Ac.row, Da.row, Fu.row, Im.row, Tr.row, Us.row] using this
  · have := one_seg o0 (one_seg o1 (one_seg o2 (one_seg o3 (one_seg o4 (one_seg o5 (one_seg o6 (one_seg o7 (one_end hlen))))))))
    simpa using this
  · simp only [Pr.mass, List.map_cons, List.map_nil, Rows.uptoBulk, Rows.uptoBulkAll] at m0 m1 m2 m3 m4 m5 m6 m7 ⊢
    omega
end
end Go.Proofs.Ytldhlbjengpdbaa.Mass
namespace Go.Proofs.Ytldhlbjengpdbaa
open Go.ChangeShapes Go.WideShapes Go.ChangeAt Go.RowKit Go.Deep
section
variable {H : Type} {enc : TypeId × Value → H} {w : World} {base : Nat} {spare : Nat → Bool} {held : Bool}
theorem cnSs : Try.prog.cellsOf 9 = 1 := by kernel_rfl
theorem opensSs (fuel : Nat) : Opens enc Try.prog w base spare held 30 (fun l : List ByteArray => [strRow l]) (fun l => strSize l + 1) fuel :=
  opens_slice strTs (fun s => s.size + 1) 1 (by omega) (fun _ => rfl) Try.underlying30 cnSs (fun m _ => opens_strz Try.underlying9)
end
end Go.Proofs.Ytldhlbjengpdbaa
