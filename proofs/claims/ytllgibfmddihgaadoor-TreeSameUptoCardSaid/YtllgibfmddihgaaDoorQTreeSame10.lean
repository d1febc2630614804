/-
  Texts of this proof, part 10: Tml Open Law OpenT OpenY OpenM.
-/
import Derived.Test.YtllgibfmddihgaaDoorQTreeSame9
import Derived.Deep.Slices
import Derived.JoinedCond
import Derived.Laws.Strings2
import Derived.Lib.AppendStr
import Derived.Lib.MinMax
import Derived.MapKept
import Derived.OpenShut
import Derived.ProofKit
import Derived.Test.YtllgibfmddihgaaDoorRows
namespace Go.Proofs.YtllgibfmddihgaaDoor
open Go.RowKit
theorem lo_neb {P : Program} {F : Frm} {d : Option Tmp} {ty : TypeId} {pos : String} {aft : Array Edge} {g : Option (Nat × Bool)} {ρ : Operand → AV} {hp : List Blk} {K : AV → List Blk → Prop} {t t' : TypeId} {x y : Operand} {a b r : Bool} (hu : P.underlying t = some .bool) (h : K (.c (.lit (.bool r))) hp) (hx : ρ x = .c (.lit (.bool a)) := by exact rfl) (hy : ρ y = .c (.lit (.bool b)) := by exact rfl) (hr : (!decide (a = b)) = r := by simp) : LO P F ⟨d, .binOp .neq t x y t', ty, pos, aft, g⟩ ρ hp K :=
  lo_bin hx hy guard_bool (fun w => by subst hr; cases a <;> cases b <;> simp [binOp, run_equal_bool w t _ _ hu]) h
theorem lo_eqsr {P : Program} {F : Frm} {d : Option Tmp} {ty : TypeId} {pos : String} {aft : Array Edge} {g : Option (Nat × Bool)} {ρ : Operand → AV} {hp : List Blk} {K : AV → List Blk → Prop} {t t' : TypeId} {x y : Operand} {a b : ByteArray} {r : Bool} (hr : decide (a = b) = r) (h : K (.c (.lit (.bool r))) hp) (hx : ρ x = .c (.lit (.string a)) := by exact rfl) (hy : ρ y = .c (.lit (.string b)) := by exact rfl) : LO P F ⟨d, .binOp .eql t x y t', ty, pos, aft, g⟩ ρ hp K :=
  lo_eqs hx hy (hr ▸ h)
theorem lo_nesr {P : Program} {F : Frm} {d : Option Tmp} {ty : TypeId} {pos : String} {aft : Array Edge} {g : Option (Nat × Bool)} {ρ : Operand → AV} {hp : List Blk} {K : AV → List Blk → Prop} {t t' : TypeId} {x y : Operand} {a b : ByteArray} {r : Bool} (h : K (.c (.lit (.bool r))) hp) (hx : ρ x = .c (.lit (.string a)) := by exact rfl) (hy : ρ y = .c (.lit (.string b)) := by exact rfl) (hr : (!decide (a = b)) = r := by simp) : LO P F ⟨d, .binOp .neq t x y t', ty, pos, aft, g⟩ ρ hp K :=
  lo_nes hx hy (hr ▸ h)
theorem ubool : Tryd.prog.underlying 4 = some .bool := Tryd.underlying4
theorem mark_dec {α : Type} {enc : α → List UInt8} {eq : α → α → Bool} {a : α} (h : Code enc eq a) (b : α) : decide (bs (enc a) = bs (enc b)) = eq a b := by
  rw [h.iff b]
  by_cases he : enc a = enc b
  · simp [he]
  · have : bs (enc a) ≠ bs (enc b) := fun e => he (bs_inj e)
    simp [he, this]
set_option maxRecDepth 100000 in
set_option maxHeartbeats 16000000 in
theorem treeSame_law (p q : Pr) (hp : p.mass ≤ 1048576) (hq : q.mass ≤ 1048576) : AF Tryd.prog 3 [p.t, q.t] (· = .lit (.bool true)) := by
  have hsp := small_af p (Nat.le_trans p.count_le hp) (Nat.le_trans p.bodies_le hp)
  have hsq := small_af q (Nat.le_trans q.count_le hq) (Nat.le_trans q.bodies_le hq)
  have hb1 := bodies_af p (Nat.le_trans p.bodies_le hp)
  have hb2 := bodiesOf_af p (Nat.le_trans p.bodies_le hp)
  have hpp := same_af p p
  rw [p.code.self] at hpp
  have hpq := same_af p q
  have hmp := mark_af p (p.mass_ok hp) (by have := p.mark_le hp; omega)
  have hmq := mark_af q (q.mass_ok hq) (by have := q.mark_le hq; omega)
  have hdec := mark_dec p.code q
  have hms : ∀ e ∈ p.bodies, e.mass ≤ 1048576 := fun e he => by
    have h1 := sum_mem' Ex.mass he
    have h2 := p.masses
    omega
  clear hp hq
  generalize bs p.mark = mp at *
  generalize bs q.mark = mq at *
  generalize p.same q = sm at *
  generalize p.bodies = bl at *
  generalize decide ((p.count : Int) ≤ 400) = cp at *
  generalize decide ((q.count : Int) ≤ 400) = cq at *
  obtain ⟨nm, vr, us, ds, trs, ims, fus, acs⟩ := p
  obtain ⟨nm', vr', us', ds', trs', ims', fus', acs'⟩ := q
  refine af_enter tok Tryd.func3 Tryd.ntmps3 Tryd.results3 rfl (by kernel_rfl) rfl rfl fun F hX => ?_
  repeat (first | refine gG ?_ | refine zN1 (fun hlen => ?_) | refine zN2 (fun hlen => ?_) | refine zAl (fun _ => ?_) | refine zBf ?_)
  refine zCall hsp ?_
  rintro _ rfl
  cases cp
  · repeat (first | refine gG ?_ | refine zN1 (fun hlen => ?_) | refine zN2 (fun hlen => ?_) | refine zAl (fun _ => ?_) | refine zBx (fun _ => ?_))
    first | refine zR ?_ | refine zQ ?_
    rfl
  repeat (first | refine gG ?_ | refine zN1 (fun hlen => ?_) | refine zN2 (fun hlen => ?_) | refine zAl (fun _ => ?_) | refine zBx (fun _ => ?_))
  refine zCall hsq ?_
  rintro _ rfl
  cases cq
  · repeat (first | refine gG ?_ | refine zN1 (fun hlen => ?_) | refine zN2 (fun hlen => ?_) | refine zAl (fun _ => ?_) | refine zBx (fun _ => ?_))
    first | refine zR ?_ | refine zQ ?_
    rfl
  repeat (first | refine gG ?_ | refine zN1 (fun hlen => ?_) | refine zN2 (fun hlen => ?_) | refine zAl (fun _ => ?_) | refine zBx (fun _ => ?_))
  refine ac_draw [1, 1, 1, 1, 1, 1] [0, 1, 2, 3, 4, 5] (by kernel_rfl) (by kernel_rfl) ?_
  refine gW ?_
  apply w_q; (focus exact rfl); (focus exact rfl); focus (intro _; (refine zCall hb1 ?_; rintro _ rfl); exact det_refl)
  refine gW ?_
  apply w_q; (focus exact rfl); (focus exact rfl); focus (intro _; (refine zCall hb2 ?_; rintro _ rfl); exact det_refl)
  refine gW ?_
  refine w_nil ?_
  repeat (first | refine gG ?_ | refine zN1 (fun hlen => ?_) | refine zN2 (fun hlen => ?_) | refine zAl (fun _ => ?_) | refine zBx (fun _ => ?_))
  refine ac_draw [1, 1, 1, 1, 1, 1, 1, 1, 1, 1, 1, 1, 1, 1, 1, 1, 1, 1, 1, 1, 1, 1] [0, 1, 2, 3, 4, 5, 6, 7, 8, 9, 10, 11, 12, 13, 14, 15, 16, 17, 18, 19, 20, 21] (by kernel_rfl) (by kernel_rfl) ?_
  refine gW ?_
  apply w_q; (focus exact rfl); (focus exact rfl); focus (intro _; (refine zCall hpq ?_; rintro _ rfl); exact det_refl)
  refine gW ?_
  apply w_q; (focus exact rfl); (focus exact rfl); focus (intro _; (refine zCall hmp ?_; rintro _ rfl); exact det_refl)
  refine gW ?_
  apply w_q; (focus exact rfl); (focus exact rfl); focus (intro _; (refine zCall hmq ?_; rintro _ rfl); exact det_refl)
  apply w_q; (focus exact rfl); (focus exact rfl); focus (intro _; (refine lo_eqsr hdec ?_); exact det_refl)
  apply w_q; (focus exact rfl); (focus exact rfl); focus (intro _; (refine lo_neb (r := false) ubool ?_); exact det_refl)
  refine gW ?_
  try (first | (apply w_un; (focus exact rfl); (focus exact rfl); (focus exact rfl); (focus exact rfl)) | (apply w_no; (focus exact rfl); (focus exact rfl); (focus exact rfl); (focus exact rfl); focus (first | rfl | assumption | exact neg_t (by assumption) | exact neg_f (by assumption))) | (apply w_qg; (focus exact rfl); (focus exact rfl); (focus exact rfl); (focus exact rfl); (focus (first | rfl | assumption | exact neg_t (by assumption) | exact neg_f (by assumption))); (focus (intro _; (refine zCall hpp ?_; rintro _ rfl); exact det_refl))))
  try refine gW ?_
  refine w_nil ?_
  repeat (first | refine gG ?_ | refine zN1 (fun hlen => ?_) | refine zN2 (fun hlen => ?_) | refine zAl (fun _ => ?_) | refine zBx (fun _ => ?_))
  refine x_cond rfl (fun h => absurd h (by simp)) (fun _ => ?_)
  repeat (first | refine gG ?_ | refine zN1 (fun hlen => ?_) | refine zN2 (fun hlen => ?_) | refine zAl (fun _ => ?_) | refine zBx (fun _ => ?_))
  refine x_loop [4, 7, 9, 46, 47, 48, 49, 50, 51, 52, 53, 54, 55, 56, 57, 58, 59, 60, 61, 62, 63, 64, 65, 66, 67, 68, 69, 70, 71, 72, 73, 74, 75, 76, 77, 78, 79, 80, 81, 82] (fun k : Nat => [(46, .c (.lit (.int .i64 (k : Nat))))]) (fun _ => []) (fun k => k ≤ bl.length) (fun k => bl.length - k) 0 (Nat.zero_le _) ⟨rfl, trivial⟩ rfl ?_
  intro k hk
  repeat (first | refine gG ?_ | refine zN1 (fun hlen => ?_) | refine zN2 (fun hlen => ?_) | refine zAl (fun _ => ?_) | refine zBx (fun _ => ?_))
  refine x_cond rfl (fun h => ?_) (fun h => ?_)
  · have hk' : k < bl.length := by simpa using h
    obtain ⟨a, ha⟩ := nth hk'
    have hma := hms a (List.mem_of_getElem? ha)
    have hea := exprMark_af a (a.mass_ok hma) (by have := a.mark_le hma; omega)
    have hsa : ∀ x ∈ bl, AF Tryd.prog 15 [a.t, x.t] (· = .lit (.bool (a.same x))) := fun x _ => sameExpr_af a x
    have hda : ∀ x ∈ bl, decide (bs a.mark = bs x.mark) = a.same x := fun x _ => mark_dec a.code x
    have hat := Ex.at ha
    clear h hma
    generalize bs a.mark = ma at *
    generalize a.same = sa at *
    clear ha
    obtain ⟨ka, na, ta, nsa, ysa, la, rsa, pa⟩ := a
    repeat (first | refine gG ?_ | refine zN1 (fun hlen => ?_) | refine zN2 (fun hlen => ?_) | refine zAl (fun _ => ?_) | refine zBx (fun _ => ?_))
    refine ac_draw [1, 1, 1, 1, 1, 1, 1, 1, 1, 1, 1] [0, 1, 2, 3, 4, 5, 6, 7, 8, 9, 10] (by kernel_rfl) (by kernel_rfl) ?_
    refine gW ?_
    apply w_q; (focus exact rfl); (focus exact rfl); focus (intro _; (refine zIx k hk' ?_); exact det_refl)
    apply w_q; (focus exact rfl); (focus exact rfl); focus (intro _; (refine zEl hat (Ex.ts_len _) ?_); exact det_refl)
    apply w_q; (focus exact rfl); (focus exact rfl); focus (intro _; (refine zCall hea ?_; rintro _ rfl); exact det_refl)
    refine gW ?_
    apply w_q; (focus exact rfl); (focus exact rfl); focus (intro _; (refine zIx k hk' ?_); exact det_refl)
    apply w_q; (focus exact rfl); (focus exact rfl); focus (intro _; (refine zEl hat (Ex.ts_len _) ?_); exact det_refl)
    apply w_q; (focus exact rfl); (focus exact rfl); focus (intro _; (refine zCall hea ?_; rintro _ rfl); exact det_refl)
    apply w_q; (focus exact rfl); (focus exact rfl); focus (intro _; (refine lo_nesr (r := false) ?_); exact det_refl)
    refine w_nil ?_
    repeat (first | refine gG ?_ | refine zN1 (fun hlen => ?_) | refine zN2 (fun hlen => ?_) | refine zAl (fun _ => ?_) | refine zBx (fun _ => ?_))
    refine x_drop 0 rfl ?_
    refine x_loop [4, 9, 62, 63, 64, 65, 66, 67, 68, 69, 70, 71, 72, 73, 74, 75, 76, 77, 78, 79, 80, 81] (fun j : Nat => [(62, .c (.lit (.int .i64 (j : Nat))))]) (fun _ => []) (fun j => j ≤ bl.length) (fun j => bl.length - j) 0 (Nat.zero_le _) ⟨rfl, trivial⟩ rfl ?_
    intro j hj
    repeat (first | refine gG ?_ | refine zN1 (fun hlen => ?_) | refine zN2 (fun hlen => ?_) | refine zAl (fun _ => ?_) | refine zBx (fun _ => ?_))
    refine x_cond rfl (fun h => ?_) (fun h => ?_)
    · have hj' : j < bl.length := by simpa using h
      obtain ⟨x, hx⟩ := nth hj'
      have hxm := List.mem_of_getElem? hx
      have hmx := hms x hxm
      have hex := exprMark_af x (x.mass_ok hmx) (by have := x.mark_le hmx; omega)
      have hsx := hsa x hxm
      have hdx := hda x hxm
      have hxt := Ex.at hx
      clear h hxm hmx hsa hda hx
      generalize bs x.mark = mx at *
      generalize sa x = sx at *
      obtain ⟨kx, nx, tx, nsx, ysx, lx, rsx, px⟩ := x
      repeat (first | refine gG ?_ | refine zN1 (fun hlen => ?_) | refine zN2 (fun hlen => ?_) | refine zAl (fun _ => ?_) | refine zBx (fun _ => ?_))
      refine zIx (j) (hj') ?_
      repeat (first | refine gG ?_ | refine zN1 (fun hlen => ?_) | refine zN2 (fun hlen => ?_) | refine zAl (fun _ => ?_) | refine zBx (fun _ => ?_))
      refine zEl (hxt) (Ex.ts_len _) ?_
      repeat (first | refine gG ?_ | refine zN1 (fun hlen => ?_) | refine zN2 (fun hlen => ?_) | refine zAl (fun _ => ?_) | refine zBx (fun _ => ?_))
      rename_i b
      refine ac_draw [1, 1, 1, 1, 1, 1, 1, 1, 1, 1, 1, 1, 1, 1, 1] [0, 1, 2, 3, 4, 5, 6, 7, 8, 9, 10, 11, 12, 13, 14] (by kernel_rfl) (by kernel_rfl) ?_
      refine gW ?_
      apply w_q; (focus exact rfl); (focus exact rfl); focus (intro _; (refine zIx k hk' ?_); exact det_refl)
      apply w_q; (focus exact rfl); (focus exact rfl); focus (intro _; (refine zEl hat (Ex.ts_len _) ?_); exact det_refl)
      refine gW ?_
      apply w_q; (focus exact rfl); (focus exact rfl); focus (intro _; (refine zCall hsx ?_; rintro _ rfl); exact det_refl)
      refine gW ?_
      apply w_q; (focus exact rfl); (focus exact rfl); focus (intro _; (refine zIx k hk' ?_); exact det_refl)
      apply w_q; (focus exact rfl); (focus exact rfl); focus (intro _; (refine zEl hat (Ex.ts_len _) ?_); exact det_refl)
      apply w_q; (focus exact rfl); (focus exact rfl); focus (intro _; (refine zCall hea ?_; rintro _ rfl); exact det_refl)
      refine gW ?_
      apply w_q; (focus exact rfl); (focus exact rfl); focus (intro _; (refine zCall hex ?_; rintro _ rfl); exact det_refl)
      apply w_q; (focus exact rfl); (focus exact rfl); focus (intro _; (refine lo_eqsr hdx ?_); exact det_refl)
      apply w_q; (focus exact rfl); (focus exact rfl); focus (intro _; (refine lo_neb (r := false) ubool ?_); exact det_refl)
      refine w_nil ?_
      repeat (first | refine gG ?_ | refine zN1 (fun hlen => ?_) | refine zN2 (fun hlen => ?_) | refine zAl (fun _ => ?_) | refine zBx (fun _ => ?_))
      exact ⟨j + 1, hj', by omega, x_wkd 0 ⟨rfl, trivial⟩ rfl (by repeat (first | exact ag_refl | refine ag_upd rfl ?_ | refine ag_at rfl rfl ?_))⟩
    · have hj' : j = bl.length := by
        have : ¬ j < bl.length := by simpa using h
        omega
      clear h hsa hda
      repeat (first | refine gG ?_ | refine zN1 (fun hlen => ?_) | refine zN2 (fun hlen => ?_) | refine zAl (fun _ => ?_) | refine zBx (fun _ => ?_))
      exact ⟨k + 1, hk', by omega, x_wkd 0 ⟨rfl, trivial⟩ rfl (by repeat (first | exact ag_refl | refine ag_upd rfl ?_ | refine ag_at rfl rfl ?_))⟩
  · repeat (first | refine gG ?_ | refine zN1 (fun hlen => ?_) | refine zN2 (fun hlen => ?_) | refine zAl (fun _ => ?_) | refine zBx (fun _ => ?_))
    first | refine zR ?_ | refine zQ ?_
    rfl
end Go.Proofs.YtllgibfmddihgaaDoor
namespace Go.Proofs.YtllgibfmddihgaaDoor
open Go.ChangeShapes Go.WideShapes Go.ChangeAt Go.RowKit Go.Deep
section
variable {H : Type} {enc : TypeId × Value → H} {P : Program} {w : World} {base : Nat} {spare : Nat → Bool} {held : Bool}
theorem bulk_one (d : DataW H) : 1 ≤ Rows.uptoBulk d := by
  cases d with
  | lit l => cases l <;> simp [Rows.uptoBulk]
  | _ => simp [Rows.uptoBulk]
end
end Go.Proofs.YtllgibfmddihgaaDoor
namespace Go.Proofs.YtllgibfmddihgaaDoor
open Go.ChangeShapes Go.WideShapes Go.ChangeAt Go.RowKit
theorem own : ownKnob Tryd.prog.godebug = none := by kernel_rfl
theorem laidOut : laidOutB Tryd.prog = true := by kernel_rfl
section
variable {H : Type} {enc : TypeId × Value → H}
theorem trodAll_below {P : Program} (hl : laidOutB P = true) {W W' : World} (hb : Below W.heap.size W W') (ts : List TypeId) : ∀ (vs : List Value) (ds : List (DataW H)) (ps : List MemPlace),
    (ts.all fun t => P.readableRec t && decide (t < P.types.size)) = true → DataW.TrodAll enc P W 0 (fun _ => true) true ts vs ds ps → (∀ x ∈ ps, x.block < W.heap.size) →
    DataW.TrodAll enc P W' 0 (fun b => decide (b < W.heap.size)) true ts vs ds ps := by
  induction ts with
  | nil =>
    intro vs ds ps _ h _
    obtain ⟨rfl, rfl, rfl⟩ := trodAll_nil h
    rfl
  | cons t ts ih =>
    intro vs ds ps hr h hlt
    obtain ⟨v, vs', d, ds', p, q, rfl, rfl, rfl, h0, h1⟩ := trodAll_cons h
    simp only [List.all_cons, Bool.and_eq_true, decide_eq_true_eq] at hr
    refine ⟨p, q, Below.trod hl hr.1.1 hr.1.2 h0 hb fun x hx => hlt x (List.mem_append_left _ hx), ?_, rfl⟩
    exact ih vs' ds' q hr.2 h1 fun x hx => hlt x (List.mem_append_right _ hx)
theorem law_post {f : Func} {s : ChangeSpec} {W W' : World} {args : Array Value} {ds gs : List (DataW H)} {before : List MemPlace}
    (hW : DataW.Whole enc Tryd.prog f.params.toList s.vars false W args.toList ds gs before) (hv : s.vars = []) (hrt : f.resultTypes = #[4])
    (hr : (f.params.toList.all fun t => Tryd.prog.readableRec t && decide (t < Tryd.prog.types.size)) = true)
    (hres : (s.fn H (ds ++ gs)).results = [.lit (.bool true)]) (hargs : (s.fn H (ds ++ gs)).args = ds) (hvars : (s.fn H (ds ++ gs)).vars = []) (hb : Below W.heap.size W W') :
    s.post enc Tryd.prog f false true false false W args (.bool true) W' := by
  have hlt : ∀ p ∈ before, p.block < W.heap.size := fun p hp => hW.lt p hp
  have hW' := hW
  obtain ⟨p, q, hA, hV, rfl, _, _⟩ := hW'
  rw [hv] at hV
  obtain ⟨rfl, rfl⟩ := trodVars_none hV
  rw [List.append_nil] at hlt
  refine ⟨ds, [], _, [], p, [], hW, ?_, ?_, ?_, hb.frame _ |> World.keptBut_mono (fun x hx => ⟨hx, ?_⟩), fun h => by cases h⟩
  · rw [hrt, hres]
    exact trodAll_mk1 (shut_bool Tryd.underlying4 true)
  · rw [hargs]
    exact trodAll_below laidOut hb _ _ _ _ hr hA hlt
  · rw [hvars, hv]
    rfl
  · rw [List.append_nil] at hx
    exact .inr (.inl hx)
end
end Go.Proofs.YtllgibfmddihgaaDoor
namespace Go.Proofs.YtllgibfmddihgaaDoor
open Go.ChangeShapes Go.WideShapes Go.ChangeAt Go.RowKit Go.Deep
/-- all memory of a world -/
def memOf (w : World) : Mm := frz (fun _ => none) 0 w
theorem memOf_ok (w : World) : MemOk (memOf w) w := frz_ok (fun p v h => by cases h) 0
theorem memOf_at {w : World} {p : Addr} {v : Value} (h : w.cell? p = some v) (h1 : v.oneCell' = true) : memOf w p = some v := frz_new rfl (Nat.zero_le _) h h1
section
variable {H : Type} {enc : TypeId × Value → H} {P : Program} {w : World} {base : Nat} {spare : Nat → Bool} {held : Bool}
def Opens (enc : TypeId × Value → H) (P : Program) (w : World) (base : Nat) (spare : Nat → Bool) (held : Bool) (t : TypeId) {α : Type} (f : α → List T) (μ : α → Nat) (fuel : Nat) : Prop :=
  ∀ (cs : List Value) (x : DataW H × List MemPlace), DataW.trod enc P w base spare held fuel t cs = some x → ∃ a, RTs (memOf w) (f a) cs ∧ OneAll cs ∧ μ a ≤ Rows.uptoBulk x.1
theorem sum_le {α : Type} (μ : α → Nat) : ∀ (l : List α) (ds : List (DataW H)), l.length = ds.length → (∀ (i : Nat) (a : α) (d : DataW H), l[i]? = some a → ds[i]? = some d → μ a ≤ Rows.uptoBulk d) → (l.map μ).sum ≤ Rows.uptoBulkAll ds
  | [], [], _, _ => by simp [Rows.uptoBulkAll]
  | a :: l, d :: ds, hl, h => by
    have h1 := h 0 a d rfl rfl
    have h2 := sum_le μ l ds (by simpa using hl) fun i a d ha hd => h (i + 1) a d (by simpa using ha) (by simpa using hd)
    simp only [List.map_cons, List.sum_cons, Rows.uptoBulkAll]
    omega
  | [], _ :: _, hl, _ => by simp at hl
  | _ :: _, [], hl, _ => by simp at hl
theorem snoc_ind {α : Type} {p : List α → Prop} (h0 : p []) (h1 : ∀ l x, p l → p (l ++ [x])) (l : List α) : p l := by
  have : ∀ n (l : List α), l.length = n → p l := by
    intro n
    induction n with
    | zero => intro l hl; rw [List.eq_nil_of_length_eq_zero hl]; exact h0
    | succ n ih =>
      intro l hl
      have hne : l ≠ [] := fun e => by rw [e] at hl; cases hl
      rw [← List.dropLast_concat_getLast hne]
      exact h1 _ _ (ih _ (by simp [hl]))
  exact this l.length l rfl
theorem rows_of {α : Type} (f : α → List T) (sz : Nat) (hf : ∀ a, (f a).length = sz) {a : Addr} : ∀ (l : List α) (C : Nat → List Value), (∀ (i : Nat) (x : α), l[i]? = some x → RTs (memOf w) (f x) (C i) ∧ OneAll (C i) ∧ ∀ j u, (C i)[j]? = some u → w.cell? (a.add (i * sz + j)) = some u) →
    ∃ xs : List Value, xs.length = l.length * sz ∧ At (memOf w) a xs ∧ RTs (memOf w) (l.flatMap f) xs := by
  intro l
  induction l using snoc_ind with
  | h0 => exact fun _ _ => ⟨[], by simp, fun j x h => by simp at h, by simp [RTs]⟩
  | h1 l x ih =>
    intro C h
    obtain ⟨xs, h1, h2, h3⟩ := ih C fun i y hy => h i y (by rw [List.getElem?_append_left (List.getElem?_eq_some_iff.1 hy).1]; exact hy)
    obtain ⟨g1, g2, g3⟩ := h l.length x (by simp)
    have hcl := g1.len
    rw [hf] at hcl
    refine ⟨xs ++ C l.length, by simp [h1, hcl, Nat.add_mul], fun j u hu => ?_, ?_⟩
    · rw [List.getElem?_append] at hu
      split at hu
      · exact h2 j u hu
      · have := g3 _ u hu
        rw [show l.length * sz + (j - xs.length) = j by omega] at this
        exact memOf_at this (g2 u (List.mem_of_getElem? hu))
    · rw [List.flatMap_append]
      refine h3.app ?_
      simpa using g1
theorem opens_slice {α : Type} [Inhabited α] {t e : TypeId} (f : α → List T) (μ : α → Nat) (sz : Nat) (hsz : 0 < sz) (hf : ∀ a, (f a).length = sz) {fuel : Nat} (ht : P.underlying t = some (.slice e)) (hC : P.cellsOf e = sz)
    (hel : ∀ n, n < fuel → Opens enc P w base spare held e f μ n) : Opens enc P w base spare held t (fun l : List α => [.row l.length sz (l.flatMap f)]) (fun l => (l.map μ).sum + 1) fuel := by
  intro cs x h
  rcases DataW.trod_slice ht h with ⟨rfl, rfl⟩ | ⟨a, len, cap, elems, rest, n, hn, rfl, rfl, hb, hl, hm, hlen, hi, _, _⟩
  · refine ⟨[], ?_, fun u hu => by simp at hu; subst hu; rfl, by simp [Rows.uptoBulk]⟩
    simp only [RTs]
    exact ⟨_, _, rfl, rt_nil hsz (by simp only [RT]), rfl⟩
  · rw [hC] at hi
    have hv : ∀ i, i < len → ∃ p : α × List Value, (p.2.length = sz ∧ ∀ j u, p.2[j]? = some u → w.cell? (a.add (i * sz + j)) = some u) ∧ RTs (memOf w) (f p.1) p.2 ∧ OneAll p.2 ∧ ∀ y, elems[i]? = some y → μ p.1 ≤ Rows.uptoBulk y.1 := by
      intro i hil
      have hk := hi i hil
      rw [List.getElem?_eq_getElem (by omega)] at hk
      obtain ⟨cs', h1, h2⟩ := Option.bind_eq_some_iff.1 hk
      obtain ⟨el, h3, h4, h5⟩ := hel n (by omega) _ _ h2
      obtain ⟨_, hlen', hcell⟩ := World.cells?_some h1
      refine ⟨(el, cs'), ⟨hlen', fun j u hu => ?_⟩, h3, h4, fun y hy => ?_⟩
      · have hj : j < sz := by rw [← hlen']; exact (List.getElem?_eq_some_iff.1 hu).1
        rw [← hu, ← hcell j hj, add_add']
      · rw [List.getElem?_eq_getElem (by omega)] at hy
        injection hy with hy
        rw [← hy]; exact h5
    obtain ⟨G, hG⟩ := choose_lt (α := α × List Value) hv
    obtain ⟨xs, g1, g2, g3⟩ := rows_of (w := w) (a := a) f sz hf ((List.range len).map fun i => (G i).1) (fun i => (G i).2) (fun i x hx => by
      have hil : i < len := by have := (List.getElem?_eq_some_iff.1 hx).1; simpa using this
      simp [hil] at hx
      obtain ⟨k1, k2, k3, _⟩ := hG i hil
      rw [← hx]
      exact ⟨k2, k3, k1.2⟩)
    refine ⟨(List.range len).map fun i => (G i).1, ?_, fun u hu => by simp at hu; subst hu; rfl, ?_⟩
    · simp only [RTs]
      refine ⟨_, _, rfl, ?_, rfl⟩
      simp only [RT]
      exact ⟨some a, cap, xs, by simp, by simpa using hl, by simp; omega, hsz, g1, fun _ => ⟨a, rfl, g2⟩, g3⟩
    · have := sum_le μ ((List.range len).map fun i => (G i).1) (elems.map (·.1)) (by simp [hlen]) (fun i y d hy hd => by
        have hil : i < len := by have := (List.getElem?_eq_some_iff.1 hy).1; simpa using this
        simp [hil] at hy
        rw [List.getElem?_map] at hd
        obtain ⟨z, hz, rfl⟩ := Option.map_eq_some_iff.1 hd
        rw [← hy]
        exact (hG i hil).2.2.2 z hz)
      simp only [Rows.uptoBulk]
      omega
theorem opens_int {t : TypeId} {k : IntKind} {fuel : Nat} (ht : P.underlying t = some (.int k)) : Opens enc P w base spare held t (fun i : Int => [.lit (.int k i)]) (fun _ => 1) fuel := by
  intro cs x h
  obtain ⟨i, rfl, rfl, _⟩ := DataW.trod_int ht h
  exact ⟨i, by simp [RTs, RT], fun u hu => by simp at hu; subst hu; rfl, bulk_one _⟩
end
/-- from a walk to the call: every law that takes trees and tells true -/
theorem law_call {P : Program} {f : FuncId} {ts : List T} {vs : List Value} {W : World} (h : AF P f ts (· = .lit (.bool true))) (hv : RTs (memOf W) ts vs) (hG : Glob W := by first | assumption | (intro x h; simp [globTab] at h)) : Calls P f vs.toArray W fun e W' => e = .returned (.bool true) ∧ Below W.heap.size W W' :=
  (h.2 (memOf W) W vs hG (memOf_ok W) hv).mono fun e w' ⟨v, r, M', he, hr, _, _, hrt, hb⟩ => by
    subst hr
    simp only [RT] at hrt
    rw [he, hrt]
    exact ⟨rfl, hb⟩
end Go.Proofs.YtllgibfmddihgaaDoor
namespace Go.Proofs.YtllgibfmddihgaaDoor
open Go.ChangeShapes Go.WideShapes Go.ChangeAt Go.RowKit Go.Deep
theorem listN2 {α : Type} {l : List α} (h : l.length = 2) : ∃ a b, l = [a, b] := match l, h with | [a, b], _ => ⟨a, b, rfl⟩
theorem listN3 {α : Type} {l : List α} (h : l.length = 3) : ∃ a b c, l = [a, b, c] := match l, h with | [a, b, c], _ => ⟨a, b, c, rfl⟩
theorem listN4 {α : Type} {l : List α} (h : l.length = 4) : ∃ a b c d, l = [a, b, c, d] := match l, h with | [a, b, c, d], _ => ⟨a, b, c, d, rfl⟩
theorem listN5 {α : Type} {l : List α} (h : l.length = 5) : ∃ a b c d e, l = [a, b, c, d, e] := match l, h with | [a, b, c, d, e], _ => ⟨a, b, c, d, e, rfl⟩
theorem listN6 {α : Type} {l : List α} (h : l.length = 6) : ∃ a b c d e f, l = [a, b, c, d, e, f] := match l, h with | [a, b, c, d, e, f], _ => ⟨a, b, c, d, e, f, rfl⟩
theorem listN8 {α : Type} {l : List α} (h : l.length = 8) : ∃ a b c d e f g i, l = [a, b, c, d, e, f, g, i] := match l, h with | [a, b, c, d, e, f, g, i], _ => ⟨a, b, c, d, e, f, g, i, rfl⟩
theorem rts_seg {M : Mm} {ts us : List T} {cs : List Value} {o c : Nat} (h : RTs M ts ((cs.drop o).take c)) (h' : RTs M us (cs.drop (o + c))) : RTs M (ts ++ us) (cs.drop o) := by
  have := h.app h'
  rwa [← List.drop_drop, List.take_append_drop] at this
theorem rts_end {M : Mm} {cs : List Value} {o : Nat} (h : cs.length = o) : RTs M [] (cs.drop o) := by rw [← h, List.drop_length]; simp [RTs]
theorem one_seg {cs : List Value} {o c : Nat} (h : OneAll ((cs.drop o).take c)) (h' : OneAll (cs.drop (o + c))) : OneAll (cs.drop o) := by
  have := h.app h'
  rwa [← List.drop_drop, List.take_append_drop] at this
theorem one_end {cs : List Value} {o : Nat} (h : cs.length = o) : OneAll (cs.drop o) := by rw [← h, List.drop_length]; intro x hx; simp at hx
section
variable {H : Type} {enc : TypeId × Value → H} {P : Program} {w : World} {base : Nat} {spare : Nat → Bool} {held : Bool}
theorem opens_strz {t : TypeId} {fuel : Nat} (ht : P.underlying t = some .string) : Opens enc P w base spare held t (fun s : ByteArray => [.lit (.string s)]) (fun s => s.size + 1) fuel := by
  intro cs x h
  obtain ⟨i, rfl, rfl, _⟩ := DataW.trod_string ht h
  exact ⟨i, by simp [RTs, RT], fun u hu => by simp at hu; subst hu; rfl, by simp [Rows.uptoBulk]⟩
theorem cn_int : Tryd.prog.cellsOf 3 = 1 := by kernel_rfl
theorem cn_str : Tryd.prog.cellsOf 9 = 1 := by kernel_rfl
theorem cn_Y : Tryd.prog.cellsOf 64 = 3 := by kernel_rfl
theorem opensY : ∀ fuel, Opens enc Tryd.prog w base spare held 64 Y.ts Y.size fuel := by
  intro fuel
  induction fuel using Nat.strongRecOn with
  | _ fuel ih =>
    intro cs x h
    obtain ⟨ys, n, hn, rfl, hlen, hyl, hf⟩ := DataW.trod_struct Tryd.underlying64 h
    rw [cn_Y] at hlen
    obtain ⟨y0, y1, y2, rfl⟩ := listN3 hyl
    have f0 : DataW.trod enc Tryd.prog w base spare held n 3 ((cs.drop 0).take (Tryd.prog.cellsOf 3)) = some y0 := hf 0 _ rfl
    have f1 : DataW.trod enc Tryd.prog w base spare held n 9 ((cs.drop 1).take (Tryd.prog.cellsOf 9)) = some y1 := hf 1 _ rfl
    have f2 : DataW.trod enc Tryd.prog w base spare held n 37 ((cs.drop 2).take (Tryd.prog.cellsOf 37)) = some y2 := hf 2 _ rfl
    rw [cn_int] at f0
    rw [cn_str] at f1
    rw [show Tryd.prog.cellsOf 37 = 1 by kernel_rfl] at f2
    obtain ⟨a0, r0, o0, -⟩ := opens_int Tryd.underlying3 _ _ f0
    obtain ⟨a1, r1, o1, m1⟩ := opens_strz Tryd.underlying9 _ _ f1
    obtain ⟨a2, r2, o2, m2⟩ := opens_slice Y.ts Y.size 3 (by omega) Y.ts_len Tryd.underlying37 cn_Y (fun m hm => ih m (by omega)) _ _ f2
    refine ⟨.mk a0 a1 a2, ?_, ?_, ?_⟩
    · have := rts_seg r0 (rts_seg r1 (rts_seg r2 (rts_end hlen)))
      simpa [Y.ts, Y.all_eq] using this
    · have := one_seg o0 (one_seg o1 (one_seg o2 (one_end hlen)))
      simpa using this
    · simp only [Y.size, Y.sizes_sum, List.map_cons, List.map_nil, Rows.uptoBulk, Rows.uptoBulkAll] at m1 m2 ⊢
      omega
end
end Go.Proofs.YtllgibfmddihgaaDoor
namespace Go.Proofs.YtllgibfmddihgaaDoor.Mass
open Go.ChangeShapes Go.WideShapes Go.ChangeAt Go.RowKit Go.Deep
instance : Inhabited V := ⟨.mk 0 0 ⟨#[]⟩ []⟩
section
variable {H : Type} {enc : TypeId × Value → H} {P : Program} {w : World} {base : Nat} {spare : Nat → Bool} {held : Bool}
theorem opens_far {t : TypeId} {fuel : Nat} (ht : P.underlying t = some (.int .i64)) : Opens enc P w base spare held t (fun i : Int => [.lit (.int .i64 i)]) far fuel := by
  intro cs x h
  obtain ⟨i, rfl, rfl, hw⟩ := DataW.trod_int ht h
  have hin : inI i := by
    unfold inI
    simp [Lit.wf, IntKind.min, IntKind.max, IntKind.bits, IntKind.signed] at hw
    omega
  exact ⟨i, by simp [RTs, RT], fun u hu => by simp at hu; subst hu; rfl, by unfold far; rw [if_pos hin]; exact bulk_one _⟩
end
section
variable {H : Type} {enc : TypeId × Value → H} {w : World} {base : Nat} {spare : Nat → Bool} {held : Bool}
theorem opensY : ∀ fuel, Opens enc Tryd.prog w base spare held 64 Y.ts Y.mass fuel := by
  intro fuel
  induction fuel using Nat.strongRecOn with
  | _ fuel ih =>
    intro cs x h
    obtain ⟨ys, n, hn, rfl, hlen, hyl, hf⟩ := DataW.trod_struct Tryd.underlying64 h
    rw [cn_Y] at hlen
    obtain ⟨y0, y1, y2, rfl⟩ := listN3 hyl
    have f0 : DataW.trod enc Tryd.prog w base spare held n 3 ((cs.drop 0).take (Tryd.prog.cellsOf 3)) = some y0 := hf 0 _ rfl
    have f1 : DataW.trod enc Tryd.prog w base spare held n 9 ((cs.drop 1).take (Tryd.prog.cellsOf 9)) = some y1 := hf 1 _ rfl
    have f2 : DataW.trod enc Tryd.prog w base spare held n 37 ((cs.drop 2).take (Tryd.prog.cellsOf 37)) = some y2 := hf 2 _ rfl
    rw [cn_int] at f0
    rw [cn_str] at f1
    rw [show Tryd.prog.cellsOf 37 = 1 by kernel_rfl] at f2
    obtain ⟨a0, r0, o0, m0⟩ := opens_far Tryd.underlying3 _ _ f0
    obtain ⟨a1, r1, o1, m1⟩ := opens_strz Tryd.underlying9 _ _ f1
    obtain ⟨a2, r2, o2, m2⟩ := opens_slice Y.ts Y.mass 3 (by omega) Y.ts_len Tryd.underlying37 cn_Y (fun m hm => ih m (by omega)) _ _ f2
    refine ⟨.mk a0 a1 a2, ?_, ?_, ?_⟩
    · have := rts_seg r0 (rts_seg r1 (rts_seg r2 (rts_end hlen)))
      simpa [Y.ts, Y.all_eq] using this
    · have := one_seg o0 (one_seg o1 (one_seg o2 (one_end hlen)))
      simpa using this
    · simp only [Y.mass, Y.masses_sum, List.map_cons, List.map_nil, Rows.uptoBulk, Rows.uptoBulkAll] at m0 m1 m2 ⊢
      omega
theorem cn_Pat : Tryd.prog.cellsOf 109 = 4 := by kernel_rfl
theorem opensPat : ∀ fuel, Opens enc Tryd.prog w base spare held 109 V.ts V.mass fuel := by
  intro fuel
  induction fuel using Nat.strongRecOn with
  | _ fuel ih =>
    intro cs x h
    obtain ⟨ys, n, hn, rfl, hlen, hyl, hf⟩ := DataW.trod_struct Tryd.underlying109 h
    rw [cn_Pat] at hlen
    obtain ⟨y0, y1, y2, y3, rfl⟩ := listN4 hyl
    have f0 : DataW.trod enc Tryd.prog w base spare held n 3 ((cs.drop 0).take (Tryd.prog.cellsOf 3)) = some y0 := hf 0 _ rfl
    have f1 : DataW.trod enc Tryd.prog w base spare held n 3 ((cs.drop 1).take (Tryd.prog.cellsOf 3)) = some y1 := hf 1 _ rfl
    have f2 : DataW.trod enc Tryd.prog w base spare held n 9 ((cs.drop 2).take (Tryd.prog.cellsOf 9)) = some y2 := hf 2 _ rfl
    have f3 : DataW.trod enc Tryd.prog w base spare held n 107 ((cs.drop 3).take (Tryd.prog.cellsOf 107)) = some y3 := hf 3 _ rfl
    rw [cn_int] at f0 f1
    rw [cn_str] at f2
    rw [show Tryd.prog.cellsOf 107 = 1 by kernel_rfl] at f3
    obtain ⟨a0, r0, o0, m0⟩ := opens_far Tryd.underlying3 _ _ f0
    obtain ⟨a1, r1, o1, m1⟩ := opens_far Tryd.underlying3 _ _ f1
    obtain ⟨a2, r2, o2, m2⟩ := opens_strz Tryd.underlying9 _ _ f2
    obtain ⟨a3, r3, o3, m3⟩ := opens_slice V.ts V.mass 4 (by omega) V.ts_len Tryd.underlying107 cn_Pat (fun m hm => ih m (by omega)) _ _ f3
    refine ⟨.mk a0 a1 a2 a3, ?_, ?_, ?_⟩
    · have := rts_seg r0 (rts_seg r1 (rts_seg r2 (rts_seg r3 (rts_end hlen))))
      simpa [V.ts, V.all_eq] using this
    · have := one_seg o0 (one_seg o1 (one_seg o2 (one_seg o3 (one_end hlen))))
      simpa using this
    · simp only [V.mass, V.masses_sum, List.map_cons, List.map_nil, Rows.uptoBulk, Rows.uptoBulkAll] at m0 m1 m2 m3 ⊢
      omega
theorem cn_Ex : Tryd.prog.cellsOf 40 = 8 := by kernel_rfl
theorem cn_Ar : Tryd.prog.cellsOf 111 = 12 := by kernel_rfl
theorem opensAr {fuel : Nat} (ih : ∀ m, m < fuel → Opens enc Tryd.prog w base spare held 40 Ex.ts Ex.mass m) : Opens enc Tryd.prog w base spare held 111 Ar.ts Ar.mass fuel := by
  intro cs x h
  obtain ⟨ys, n, hn, rfl, hlen, hyl, hf⟩ := DataW.trod_struct Tryd.underlying111 h
  rw [cn_Ar] at hlen
  obtain ⟨y0, y1, rfl⟩ := listN2 hyl
  have f0 : DataW.trod enc Tryd.prog w base spare held n 109 ((cs.drop 0).take (Tryd.prog.cellsOf 109)) = some y0 := hf 0 _ rfl
  have f1 : DataW.trod enc Tryd.prog w base spare held n 40 ((cs.drop 4).take (Tryd.prog.cellsOf 40)) = some y1 := hf 1 _ rfl
  rw [cn_Pat] at f0
  rw [cn_Ex] at f1
  obtain ⟨a0, r0, o0, m0⟩ := opensPat _ _ _ f0
  obtain ⟨a1, r1, o1, m1⟩ := ih n (by omega) _ _ f1
  refine ⟨.mk a0 a1, ?_, ?_, ?_⟩
  · have := rts_seg r0 (rts_seg r1 (rts_end hlen))
    simpa [Ar.ts] using this
  · have := one_seg o0 (one_seg o1 (one_end hlen))
    simpa using this
  · simp only [Ar.mass, List.map_cons, List.map_nil, Rows.uptoBulk, Rows.uptoBulkAll] at m0 m1 ⊢
    omega
theorem opensEx : ∀ fuel, Opens enc Tryd.prog w base spare held 40 Ex.ts Ex.mass fuel := by
  intro fuel
  induction fuel using Nat.strongRecOn with
  | _ fuel ih =>
    intro cs x h
    obtain ⟨ys, n, hn, rfl, hlen, hyl, hf⟩ := DataW.trod_struct Tryd.underlying40 h
    rw [cn_Ex] at hlen
    obtain ⟨y0, y1, y2, y3, y4, y5, y6, y7, rfl⟩ := listN8 hyl
    have f0 : DataW.trod enc Tryd.prog w base spare held n 3 ((cs.drop 0).take (Tryd.prog.cellsOf 3)) = some y0 := hf 0 _ rfl
    rw [show Tryd.prog.cellsOf 3 = 1 by kernel_rfl] at f0
    have f1 : DataW.trod enc Tryd.prog w base spare held n 3 ((cs.drop 1).take (Tryd.prog.cellsOf 3)) = some y1 := hf 1 _ rfl
    rw [show Tryd.prog.cellsOf 3 = 1 by kernel_rfl] at f1
    have f2 : DataW.trod enc Tryd.prog w base spare held n 9 ((cs.drop 2).take (Tryd.prog.cellsOf 9)) = some y2 := hf 2 _ rfl
    rw [show Tryd.prog.cellsOf 9 = 1 by kernel_rfl] at f2
    have f3 : DataW.trod enc Tryd.prog w base spare held n 36 ((cs.drop 3).take (Tryd.prog.cellsOf 36)) = some y3 := hf 3 _ rfl
    rw [show Tryd.prog.cellsOf 36 = 1 by kernel_rfl] at f3
    have f4 : DataW.trod enc Tryd.prog w base spare held n 37 ((cs.drop 4).take (Tryd.prog.cellsOf 37)) = some y4 := hf 4 _ rfl
    rw [show Tryd.prog.cellsOf 37 = 1 by kernel_rfl] at f4
    have f5 : DataW.trod enc Tryd.prog w base spare held n 31 ((cs.drop 5).take (Tryd.prog.cellsOf 31)) = some y5 := hf 5 _ rfl
    rw [show Tryd.prog.cellsOf 31 = 1 by kernel_rfl] at f5
    have f6 : DataW.trod enc Tryd.prog w base spare held n 38 ((cs.drop 6).take (Tryd.prog.cellsOf 38)) = some y6 := hf 6 _ rfl
    rw [show Tryd.prog.cellsOf 38 = 1 by kernel_rfl] at f6
    have f7 : DataW.trod enc Tryd.prog w base spare held n 3 ((cs.drop 7).take (Tryd.prog.cellsOf 3)) = some y7 := hf 7 _ rfl
    rw [show Tryd.prog.cellsOf 3 = 1 by kernel_rfl] at f7
    obtain ⟨a0, r0, o0, m0⟩ := opens_far Tryd.underlying3 _ _ f0
    obtain ⟨a1, r1, o1, m1⟩ := opens_far Tryd.underlying3 _ _ f1
    obtain ⟨a2, r2, o2, m2⟩ := opens_strz Tryd.underlying9 _ _ f2
    obtain ⟨a3, r3, o3, m3⟩ := opens_slice strTs (fun s => s.size + 1) 1 (by omega) (fun _ => rfl) Tryd.underlying36 cn_str (fun m _ => opens_strz Tryd.underlying9) _ _ f3
    obtain ⟨a4, r4, o4, m4⟩ := opens_slice Y.ts Y.mass 3 (by omega) Y.ts_len Tryd.underlying37 cn_Y (fun m _ => opensY m) _ _ f4
    obtain ⟨a5, r5, o5, m5⟩ := opens_slice Ex.ts Ex.mass 8 (by omega) Ex.ts_len Tryd.underlying31 cn_Ex (fun m hm => ih m (by omega)) _ _ f5
    obtain ⟨a6, r6, o6, m6⟩ := opens_slice Ar.ts Ar.mass 12 (by omega) Ar.ts_len Tryd.underlying38 cn_Ar (fun m hm => opensAr (fun j hj => ih j (by omega))) _ _ f6
    obtain ⟨a7, r7, o7, m7⟩ := opens_far Tryd.underlying3 _ _ f7
    refine ⟨.mk a0 a1 a2 a3 a4 a5 a6 a7, ?_, ?_, ?_⟩
    · have := rts_seg r0 (rts_seg r1 (rts_seg r2 (rts_seg r3 (rts_seg r4 (rts_seg r5 (rts_seg r6 (rts_seg r7 (rts_end hlen))))))))
      simpa [Ex.ts, Ex.all_eq, Ar.all_eq, Y.row, Y.all_eq, strRow] using this
    · have := one_seg o0 (one_seg o1 (one_seg o2 (one_seg o3 (one_seg o4 (one_seg o5 (one_seg o6 (one_seg o7 (one_end hlen))))))))
      simpa using this
    · simp only [Ex.mass, strSize, Y.masses_sum, Ex.masses_sum, Ar.masses_sum, List.map_cons, List.map_nil, Rows.uptoBulk, Rows.uptoBulkAll] at m0 m1 m2 m3 m4 m5 m6 m7 ⊢
      omega
theorem cn_Us : Tryd.prog.cellsOf 48 = 3 := by kernel_rfl
theorem opensUs (fuel : Nat) : Opens enc Tryd.prog w base spare held 48 Us.ts Us.mass fuel := by
  intro cs x h
  obtain ⟨ys, n, hn, rfl, hlen, hyl, hf⟩ := DataW.trod_struct Tryd.underlying48 h
  rw [cn_Us] at hlen
  obtain ⟨y0, y1, y2, rfl⟩ := listN3 hyl
  have f0 : DataW.trod enc Tryd.prog w base spare held n 9 ((cs.drop 0).take (Tryd.prog.cellsOf 9)) = some y0 := hf 0 _ rfl
  rw [show Tryd.prog.cellsOf 9 = 1 by kernel_rfl] at f0
  have f1 : DataW.trod enc Tryd.prog w base spare held n 3 ((cs.drop 1).take (Tryd.prog.cellsOf 3)) = some y1 := hf 1 _ rfl
  rw [show Tryd.prog.cellsOf 3 = 1 by kernel_rfl] at f1
  have f2 : DataW.trod enc Tryd.prog w base spare held n 3 ((cs.drop 2).take (Tryd.prog.cellsOf 3)) = some y2 := hf 2 _ rfl
  rw [show Tryd.prog.cellsOf 3 = 1 by kernel_rfl] at f2
  obtain ⟨a0, r0, o0, m0⟩ := opens_strz Tryd.underlying9 _ _ f0
  obtain ⟨a1, r1, o1, m1⟩ := opens_far Tryd.underlying3 _ _ f1
  obtain ⟨a2, r2, o2, m2⟩ := opens_far Tryd.underlying3 _ _ f2
  refine ⟨⟨a0, a1, a2⟩, ?_, ?_, ?_⟩
  · have := rts_seg r0 (rts_seg r1 (rts_seg r2 (rts_end hlen)))
    simpa [Us.ts] using this
  · have := one_seg o0 (one_seg o1 (one_seg o2 (one_end hlen)))
    simpa using this
  · simp only [Us.mass, List.map_cons, List.map_nil, Rows.uptoBulk, Rows.uptoBulkAll] at m0 m1 m2 ⊢
    omega
theorem cn_Mk : Tryd.prog.cellsOf 140 = 2 := by kernel_rfl
theorem opensMk (fuel : Nat) : Opens enc Tryd.prog w base spare held 140 Mk.ts Mk.mass fuel := by
  intro cs x h
  obtain ⟨ys, n, hn, rfl, hlen, hyl, hf⟩ := DataW.trod_struct Tryd.underlying140 h
  rw [cn_Mk] at hlen
  obtain ⟨y0, y1, rfl⟩ := listN2 hyl
  have f0 : DataW.trod enc Tryd.prog w base spare held n 9 ((cs.drop 0).take (Tryd.prog.cellsOf 9)) = some y0 := hf 0 _ rfl
  rw [show Tryd.prog.cellsOf 9 = 1 by kernel_rfl] at f0
  have f1 : DataW.trod enc Tryd.prog w base spare held n 37 ((cs.drop 1).take (Tryd.prog.cellsOf 37)) = some y1 := hf 1 _ rfl
  rw [show Tryd.prog.cellsOf 37 = 1 by kernel_rfl] at f1
  obtain ⟨a0, r0, o0, m0⟩ := opens_strz Tryd.underlying9 _ _ f0
  obtain ⟨a1, r1, o1, m1⟩ := opens_slice Y.ts Y.mass 3 (by omega) Y.ts_len Tryd.underlying37 cn_Y (fun m _ => opensY m) _ _ f1
  refine ⟨⟨a0, a1⟩, ?_, ?_, ?_⟩
  · have := rts_seg r0 (rts_seg r1 (rts_end hlen))
    simpa [Mk.ts, Y.all_eq, Y.row] using this
  · have := one_seg o0 (one_seg o1 (one_end hlen))
    simpa using this
  · simp only [Mk.mass, List.map_cons, List.map_nil, Rows.uptoBulk, Rows.uptoBulkAll] at m0 m1 ⊢
    omega
theorem cn_Da : Tryd.prog.cellsOf 55 = 3 := by kernel_rfl
theorem opensDa (fuel : Nat) : Opens enc Tryd.prog w base spare held 55 Da.ts Da.mass fuel := by
  intro cs x h
  obtain ⟨ys, n, hn, rfl, hlen, hyl, hf⟩ := DataW.trod_struct Tryd.underlying55 h
  rw [cn_Da] at hlen
  obtain ⟨y0, y1, y2, rfl⟩ := listN3 hyl
  have f0 : DataW.trod enc Tryd.prog w base spare held n 9 ((cs.drop 0).take (Tryd.prog.cellsOf 9)) = some y0 := hf 0 _ rfl
  rw [show Tryd.prog.cellsOf 9 = 1 by kernel_rfl] at f0
  have f1 : DataW.trod enc Tryd.prog w base spare held n 36 ((cs.drop 1).take (Tryd.prog.cellsOf 36)) = some y1 := hf 1 _ rfl
  rw [show Tryd.prog.cellsOf 36 = 1 by kernel_rfl] at f1
  have f2 : DataW.trod enc Tryd.prog w base spare held n 53 ((cs.drop 2).take (Tryd.prog.cellsOf 53)) = some y2 := hf 2 _ rfl
  rw [show Tryd.prog.cellsOf 53 = 1 by kernel_rfl] at f2
  obtain ⟨a0, r0, o0, m0⟩ := opens_strz Tryd.underlying9 _ _ f0
  obtain ⟨a1, r1, o1, m1⟩ := opens_slice strTs (fun s => s.size + 1) 1 (by omega) (fun _ => rfl) Tryd.underlying36 cn_str (fun m _ => opens_strz Tryd.underlying9) _ _ f1
  obtain ⟨a2, r2, o2, m2⟩ := opens_slice Mk.ts Mk.mass 2 (by omega) Mk.ts_len Tryd.underlying53 cn_Mk (fun m _ => opensMk m) _ _ f2
  refine ⟨⟨a0, a1, a2⟩, ?_, ?_, ?_⟩
  · have := rts_seg r0 (rts_seg r1 (rts_seg r2 (rts_end hlen)))
    simpa [Da.ts, Mk.row, strRow] using this
  · have := one_seg o0 (one_seg o1 (one_seg o2 (one_end hlen)))
    simpa using this
  · simp only [Da.mass, strSize, List.map_cons, List.map_nil, Rows.uptoBulk, Rows.uptoBulkAll] at m0 m1 m2 ⊢
    omega
theorem cn_Fu : Tryd.prog.cellsOf 66 = 15 := by kernel_rfl
theorem opensFu (fuel : Nat) : Opens enc Tryd.prog w base spare held 66 Fu.ts Fu.mass fuel := by
  intro cs x h
  obtain ⟨ys, n, hn, rfl, hlen, hyl, hf⟩ := DataW.trod_struct Tryd.underlying66 h
  rw [cn_Fu] at hlen
  obtain ⟨y0, y1, y2, y3, y4, y5, rfl⟩ := listN6 hyl
  have f0 : DataW.trod enc Tryd.prog w base spare held n 9 ((cs.drop 0).take (Tryd.prog.cellsOf 9)) = some y0 := hf 0 _ rfl
  rw [show Tryd.prog.cellsOf 9 = 1 by kernel_rfl] at f0
  have f1 : DataW.trod enc Tryd.prog w base spare held n 36 ((cs.drop 1).take (Tryd.prog.cellsOf 36)) = some y1 := hf 1 _ rfl
  rw [show Tryd.prog.cellsOf 36 = 1 by kernel_rfl] at f1
  have f2 : DataW.trod enc Tryd.prog w base spare held n 36 ((cs.drop 2).take (Tryd.prog.cellsOf 36)) = some y2 := hf 2 _ rfl
  rw [show Tryd.prog.cellsOf 36 = 1 by kernel_rfl] at f2
  have f3 : DataW.trod enc Tryd.prog w base spare held n 37 ((cs.drop 3).take (Tryd.prog.cellsOf 37)) = some y3 := hf 3 _ rfl
  rw [show Tryd.prog.cellsOf 37 = 1 by kernel_rfl] at f3
  have f4 : DataW.trod enc Tryd.prog w base spare held n 64 ((cs.drop 4).take (Tryd.prog.cellsOf 64)) = some y4 := hf 4 _ rfl
  rw [show Tryd.prog.cellsOf 64 = 3 by kernel_rfl] at f4
  have f5 : DataW.trod enc Tryd.prog w base spare held n 40 ((cs.drop 7).take (Tryd.prog.cellsOf 40)) = some y5 := hf 5 _ rfl
  rw [show Tryd.prog.cellsOf 40 = 8 by kernel_rfl] at f5
  obtain ⟨a0, r0, o0, m0⟩ := opens_strz Tryd.underlying9 _ _ f0
  obtain ⟨a1, r1, o1, m1⟩ := opens_slice strTs (fun s => s.size + 1) 1 (by omega) (fun _ => rfl) Tryd.underlying36 cn_str (fun m _ => opens_strz Tryd.underlying9) _ _ f1
  obtain ⟨a2, r2, o2, m2⟩ := opens_slice strTs (fun s => s.size + 1) 1 (by omega) (fun _ => rfl) Tryd.underlying36 cn_str (fun m _ => opens_strz Tryd.underlying9) _ _ f2
  obtain ⟨a3, r3, o3, m3⟩ := opens_slice Y.ts Y.mass 3 (by omega) Y.ts_len Tryd.underlying37 cn_Y (fun m _ => opensY m) _ _ f3
  obtain ⟨a4, r4, o4, m4⟩ := opensY _ _ _ f4
  obtain ⟨a5, r5, o5, m5⟩ := opensEx _ _ _ f5
  refine ⟨⟨a0, a1, a2, a3, a4, a5⟩, ?_, ?_, ?_⟩
  · have := rts_seg r0 (rts_seg r1 (rts_seg r2 (rts_seg r3 (rts_seg r4 (rts_seg r5 (rts_end hlen))))))
    simpa [Fu.ts, Y.all_eq, Y.row, strRow] using this
  · have := one_seg o0 (one_seg o1 (one_seg o2 (one_seg o3 (one_seg o4 (one_seg o5 (one_end hlen))))))
    simpa using this
  · simp only [Fu.mass, strSize, List.map_cons, List.map_nil, Rows.uptoBulk, Rows.uptoBulkAll] at m0 m1 m2 m3 m4 m5 ⊢
    omega
theorem cn_Tr : Tryd.prog.cellsOf 58 = 2 := by kernel_rfl
theorem opensTr (fuel : Nat) : Opens enc Tryd.prog w base spare held 58 Tr.ts Tr.mass fuel := by
  intro cs x h
  obtain ⟨ys, n, hn, rfl, hlen, hyl, hf⟩ := DataW.trod_struct Tryd.underlying58 h
  rw [cn_Tr] at hlen
  obtain ⟨y0, y1, rfl⟩ := listN2 hyl
  have f0 : DataW.trod enc Tryd.prog w base spare held n 9 ((cs.drop 0).take (Tryd.prog.cellsOf 9)) = some y0 := hf 0 _ rfl
  rw [show Tryd.prog.cellsOf 9 = 1 by kernel_rfl] at f0
  have f1 : DataW.trod enc Tryd.prog w base spare held n 26 ((cs.drop 1).take (Tryd.prog.cellsOf 26)) = some y1 := hf 1 _ rfl
  rw [show Tryd.prog.cellsOf 26 = 1 by kernel_rfl] at f1
  obtain ⟨a0, r0, o0, m0⟩ := opens_strz Tryd.underlying9 _ _ f0
  obtain ⟨a1, r1, o1, m1⟩ := opens_slice Fu.ts Fu.mass 15 (by omega) Fu.ts_len Tryd.underlying26 cn_Fu (fun m _ => opensFu m) _ _ f1
  refine ⟨⟨a0, a1⟩, ?_, ?_, ?_⟩
  · have := rts_seg r0 (rts_seg r1 (rts_end hlen))
    simpa [Tr.ts, Fu.row] using this
  · have := one_seg o0 (one_seg o1 (one_end hlen))
    simpa using this
  · simp only [Tr.mass, List.map_cons, List.map_nil, Rows.uptoBulk, Rows.uptoBulkAll] at m0 m1 ⊢
    omega
theorem cn_Im : Tryd.prog.cellsOf 61 = 3 := by kernel_rfl
theorem opensIm (fuel : Nat) : Opens enc Tryd.prog w base spare held 61 Im.ts Im.mass fuel := by
  intro cs x h
  obtain ⟨ys, n, hn, rfl, hlen, hyl, hf⟩ := DataW.trod_struct Tryd.underlying61 h
  rw [cn_Im] at hlen
  obtain ⟨y0, y1, y2, rfl⟩ := listN3 hyl
  have f0 : DataW.trod enc Tryd.prog w base spare held n 9 ((cs.drop 0).take (Tryd.prog.cellsOf 9)) = some y0 := hf 0 _ rfl
  rw [show Tryd.prog.cellsOf 9 = 1 by kernel_rfl] at f0
  have f1 : DataW.trod enc Tryd.prog w base spare held n 9 ((cs.drop 1).take (Tryd.prog.cellsOf 9)) = some y1 := hf 1 _ rfl
  rw [show Tryd.prog.cellsOf 9 = 1 by kernel_rfl] at f1
  have f2 : DataW.trod enc Tryd.prog w base spare held n 26 ((cs.drop 2).take (Tryd.prog.cellsOf 26)) = some y2 := hf 2 _ rfl
  rw [show Tryd.prog.cellsOf 26 = 1 by kernel_rfl] at f2
  obtain ⟨a0, r0, o0, m0⟩ := opens_strz Tryd.underlying9 _ _ f0
  obtain ⟨a1, r1, o1, m1⟩ := opens_strz Tryd.underlying9 _ _ f1
  obtain ⟨a2, r2, o2, m2⟩ := opens_slice Fu.ts Fu.mass 15 (by omega) Fu.ts_len Tryd.underlying26 cn_Fu (fun m _ => opensFu m) _ _ f2
  refine ⟨⟨a0, a1, a2⟩, ?_, ?_, ?_⟩
  · have := rts_seg r0 (rts_seg r1 (rts_seg r2 (rts_end hlen)))
    simpa [Im.ts, Fu.row] using this
  · have := one_seg o0 (one_seg o1 (one_seg o2 (one_end hlen)))
    simpa using this
  · simp only [Im.mass, List.map_cons, List.map_nil, Rows.uptoBulk, Rows.uptoBulkAll] at m0 m1 m2 ⊢
    omega
theorem cn_Ac : Tryd.prog.cellsOf 69 = 14 := by kernel_rfl
theorem opensAc (fuel : Nat) : Opens enc Tryd.prog w base spare held 69 Ac.ts Ac.mass fuel := by
  intro cs x h
  obtain ⟨ys, n, hn, rfl, hlen, hyl, hf⟩ := DataW.trod_struct Tryd.underlying69 h
  rw [cn_Ac] at hlen
  obtain ⟨y0, y1, y2, y3, y4, rfl⟩ := listN5 hyl
  have f0 : DataW.trod enc Tryd.prog w base spare held n 9 ((cs.drop 0).take (Tryd.prog.cellsOf 9)) = some y0 := hf 0 _ rfl
  rw [show Tryd.prog.cellsOf 9 = 1 by kernel_rfl] at f0
  have f1 : DataW.trod enc Tryd.prog w base spare held n 36 ((cs.drop 1).take (Tryd.prog.cellsOf 36)) = some y1 := hf 1 _ rfl
  rw [show Tryd.prog.cellsOf 36 = 1 by kernel_rfl] at f1
  have f2 : DataW.trod enc Tryd.prog w base spare held n 37 ((cs.drop 2).take (Tryd.prog.cellsOf 37)) = some y2 := hf 2 _ rfl
  rw [show Tryd.prog.cellsOf 37 = 1 by kernel_rfl] at f2
  have f3 : DataW.trod enc Tryd.prog w base spare held n 64 ((cs.drop 3).take (Tryd.prog.cellsOf 64)) = some y3 := hf 3 _ rfl
  rw [show Tryd.prog.cellsOf 64 = 3 by kernel_rfl] at f3
  have f4 : DataW.trod enc Tryd.prog w base spare held n 40 ((cs.drop 6).take (Tryd.prog.cellsOf 40)) = some y4 := hf 4 _ rfl
  rw [show Tryd.prog.cellsOf 40 = 8 by kernel_rfl] at f4
  obtain ⟨a0, r0, o0, m0⟩ := opens_strz Tryd.underlying9 _ _ f0
  obtain ⟨a1, r1, o1, m1⟩ := opens_slice strTs (fun s => s.size + 1) 1 (by omega) (fun _ => rfl) Tryd.underlying36 cn_str (fun m _ => opens_strz Tryd.underlying9) _ _ f1
  obtain ⟨a2, r2, o2, m2⟩ := opens_slice Y.ts Y.mass 3 (by omega) Y.ts_len Tryd.underlying37 cn_Y (fun m _ => opensY m) _ _ f2
  obtain ⟨a3, r3, o3, m3⟩ := opensY _ _ _ f3
  obtain ⟨a4, r4, o4, m4⟩ := opensEx _ _ _ f4
  refine ⟨⟨a0, a1, a2, a3, a4⟩, ?_, ?_, ?_⟩
  · have := rts_seg r0 (rts_seg r1 (rts_seg r2 (rts_seg r3 (rts_seg r4 (rts_end hlen)))))
    simpa [Ac.ts, Y.all_eq, Y.row, strRow] using this
  · have := one_seg o0 (one_seg o1 (one_seg o2 (one_seg o3 (one_seg o4 (one_end hlen)))))
    simpa using this
  · simp only [Ac.mass, strSize, List.map_cons, List.map_nil, Rows.uptoBulk, Rows.uptoBulkAll] at m0 m1 m2 m3 m4 ⊢
    omega
theorem cn_Pr : Tryd.prog.cellsOf 29 = 8 := by kernel_rfl
theorem opensPr (fuel : Nat) : Opens enc Tryd.prog w base spare held 29 Pr.ts Pr.mass fuel := by
  intro cs x h
  obtain ⟨ys, n, hn, rfl, hlen, hyl, hf⟩ := DataW.trod_struct Tryd.underlying29 h
  rw [cn_Pr] at hlen
  obtain ⟨y0, y1, y2, y3, y4, y5, y6, y7, rfl⟩ := listN8 hyl
  have f0 : DataW.trod enc Tryd.prog w base spare held n 9 ((cs.drop 0).take (Tryd.prog.cellsOf 9)) = some y0 := hf 0 _ rfl
  rw [show Tryd.prog.cellsOf 9 = 1 by kernel_rfl] at f0
  have f1 : DataW.trod enc Tryd.prog w base spare held n 3 ((cs.drop 1).take (Tryd.prog.cellsOf 3)) = some y1 := hf 1 _ rfl
  rw [show Tryd.prog.cellsOf 3 = 1 by kernel_rfl] at f1
  have f2 : DataW.trod enc Tryd.prog w base spare held n 22 ((cs.drop 2).take (Tryd.prog.cellsOf 22)) = some y2 := hf 2 _ rfl
  rw [show Tryd.prog.cellsOf 22 = 1 by kernel_rfl] at f2
  have f3 : DataW.trod enc Tryd.prog w base spare held n 23 ((cs.drop 3).take (Tryd.prog.cellsOf 23)) = some y3 := hf 3 _ rfl
  rw [show Tryd.prog.cellsOf 23 = 1 by kernel_rfl] at f3
  have f4 : DataW.trod enc Tryd.prog w base spare held n 24 ((cs.drop 4).take (Tryd.prog.cellsOf 24)) = some y4 := hf 4 _ rfl
  rw [show Tryd.prog.cellsOf 24 = 1 by kernel_rfl] at f4
  have f5 : DataW.trod enc Tryd.prog w base spare held n 25 ((cs.drop 5).take (Tryd.prog.cellsOf 25)) = some y5 := hf 5 _ rfl
  rw [show Tryd.prog.cellsOf 25 = 1 by kernel_rfl] at f5
  have f6 : DataW.trod enc Tryd.prog w base spare held n 26 ((cs.drop 6).take (Tryd.prog.cellsOf 26)) = some y6 := hf 6 _ rfl
  rw [show Tryd.prog.cellsOf 26 = 1 by kernel_rfl] at f6
  have f7 : DataW.trod enc Tryd.prog w base spare held n 27 ((cs.drop 7).take (Tryd.prog.cellsOf 27)) = some y7 := hf 7 _ rfl
  rw [show Tryd.prog.cellsOf 27 = 1 by kernel_rfl] at f7
  obtain ⟨a0, r0, o0, m0⟩ := opens_strz Tryd.underlying9 _ _ f0
  obtain ⟨a1, r1, o1, m1⟩ := opens_far Tryd.underlying3 _ _ f1
  obtain ⟨a2, r2, o2, m2⟩ := opens_slice Us.ts Us.mass 3 (by omega) Us.ts_len Tryd.underlying22 cn_Us (fun m _ => opensUs m) _ _ f2
  obtain ⟨a3, r3, o3, m3⟩ := opens_slice Da.ts Da.mass 3 (by omega) Da.ts_len Tryd.underlying23 cn_Da (fun m _ => opensDa m) _ _ f3
  obtain ⟨a4, r4, o4, m4⟩ := opens_slice Tr.ts Tr.mass 2 (by omega) Tr.ts_len Tryd.underlying24 cn_Tr (fun m _ => opensTr m) _ _ f4
  obtain ⟨a5, r5, o5, m5⟩ := opens_slice Im.ts Im.mass 3 (by omega) Im.ts_len Tryd.underlying25 cn_Im (fun m _ => opensIm m) _ _ f5
  obtain ⟨a6, r6, o6, m6⟩ := opens_slice Fu.ts Fu.mass 15 (by omega) Fu.ts_len Tryd.underlying26 cn_Fu (fun m _ => opensFu m) _ _ f6
  obtain ⟨a7, r7, o7, m7⟩ := opens_slice Ac.ts Ac.mass 14 (by omega) Ac.ts_len Tryd.underlying27 cn_Ac (fun m _ => opensAc m) _ _ f7
  refine ⟨⟨a0, a1, a2, a3, a4, a5, a6, a7⟩, ?_, ?_, ?_⟩
  · have := rts_seg r0 (rts_seg r1 (rts_seg r2 (rts_seg r3 (rts_seg r4 (rts_seg r5 (rts_seg r6 (rts_seg r7 (rts_end hlen))))))))
    simpa [Pr.ts, Ac.row, Da.row, Fu.row, Im.row, Tr.row, Us.row] using this
  · have := one_seg o0 (one_seg o1 (one_seg o2 (one_seg o3 (one_seg o4 (one_seg o5 (one_seg o6 (one_seg o7 (one_end hlen))))))))
    simpa using this
  · simp only [Pr.mass, List.map_cons, List.map_nil, Rows.uptoBulk, Rows.uptoBulkAll] at m0 m1 m2 m3 m4 m5 m6 m7 ⊢
    omega
end
end Go.Proofs.YtllgibfmddihgaaDoor.Mass
