/-
  Texts of this proof, part 14: Kqe Kqf Open Law OpenT OpenB Kac OpenA OpenDm.
-/
import Derived.Test.YtdogdjcjmhogmaaQMarkRuns13
import Derived.ChangeArms
import Derived.Deep.Slices
import Derived.JoinedCond
import Derived.OpenShut
import Derived.ProofKit
import Derived.Test.YtdogdjcjmhogmaaRows
namespace Go.Proofs.Ytdogdjcjmhogmaa
open Go.RowKit
@[reducible] def wayT (r : List (List Int)) : T := .row r.length 1 (r.map intRow)
@[reducible] def waysT (w : List (List (List Int))) : T := .row w.length 1 (w.map wayT)
/-- what both give -/
def markR (l : List Int) (ds : List Md) : Bool × List Int × List (List (List Int)) × List Int × Int × Int :=
  if markErr l ds ≠ 0 then (false, [], [], [], 0, markErr l ds) else
  if dnT l.length (endQ l ds) l.length = true then (true, (List.range l.length).map (stT l.length (endQ l ds)), (List.range l.length).map (fun i => (oth l.length i).map fun a => recC true ((endQ l ds).ch a i)), (endQ l ds).now, w64 (leftN l.length (endQ l ds) : Nat), 0) else
  (false, [], [], (endQ l ds).now, w64 (leftN l.length (endQ l ds) : Nat), 0)
def markV (r : Bool × List Int × List (List (List Int)) × List Int × Int × Int) : T := .tup [.agg [.lit (.bool r.1), intRow r.2.1, waysT r.2.2.1, intRow r.2.2.2.1, iL r.2.2.2.2.1], iL r.2.2.2.2.2]
theorem nil_ways : ∀ M u, RT M (.lit (.slice none 0 0)) u → RT M (waysT []) u := fun M u h => rt_nil (by omega) h
theorem err_outM {e : Int} : ∀ M u, RT M (.tup [noShot, iL e]) u → RT M (markV (false, [], [], [], 0, e)) u := by
  intro M u h
  unfold markV
  simp only [RT, RTs] at h ⊢
  obtain ⟨xs, rfl, _, _, rfl, ⟨ys, rfl, d, _, rfl, hd, a, _, rfl, ha, b, _, rfl, hb, c, _, rfl, hc, _, _, rfl, hl, rfl⟩, _, _, rfl, he, rfl⟩ := h
  refine ⟨_, rfl, _, _, rfl, ⟨_, rfl, _, _, rfl, hd, _, _, rfl, ?_, _, _, rfl, ?_, _, _, rfl, ?_, _, _, rfl, hl, rfl⟩, _, _, rfl, he, rfl⟩
  · exact nil_ints M a (by simp only [RT]; exact ha)
  · exact nil_ways M b (by simp only [RT]; exact hb)
  · exact nil_ints M c (by simp only [RT]; exact hc)
theorem not_out {now : List Int} {lf : Int} : ∀ M u, RT M (.tup [.agg [.lit (.bool false), .lit (.slice none 0 0), .lit (.slice none 0 0), intRow now, iL lf], iL 0]) u → RT M (markV (false, [], [], now, lf, 0)) u := by
  intro M u h
  unfold markV
  simp only [RT, RTs] at h ⊢
  obtain ⟨xs, rfl, _, _, rfl, ⟨ys, rfl, d, _, rfl, hd, a, _, rfl, ha, b, _, rfl, hb, c, _, rfl, hc, _, _, rfl, hl, rfl⟩, _, _, rfl, he, rfl⟩ := h
  refine ⟨_, rfl, _, _, rfl, ⟨_, rfl, _, _, rfl, hd, _, _, rfl, ?_, _, _, rfl, ?_, _, _, rfl, hc, _, _, rfl, hl, rfl⟩, _, _, rfl, he, rfl⟩
  · exact nil_ints M a (by simp only [RT]; exact ha)
  · exact nil_ways M b (by simp only [RT]; exact hb)
theorem ok_out (l : List Int) (ds : List Md) (he : markErr l ds = 0) : ∀ M u, RT M (.tup [markT l ds, iL 0]) u → RT M (markV (markR l ds)) u := by
  intro M u h
  unfold markR
  rw [if_neg (fun h => h he)]
  unfold markT shotT at h
  cases hd : dnT l.length (endQ l ds) l.length with
  | false =>
    rw [hd, if_neg (by decide), if_neg (by decide)] at h
    rw [if_neg (by decide)]
    exact not_out M u h
  | true =>
    rw [hd, if_pos rfl, if_pos rfl] at h
    rw [if_pos rfl]
    have e1 : T.row l.length 1 (stL l.length (endQ l ds) l.length) = intRow ((List.range l.length).map (stT l.length (endQ l ds))) := by
      unfold stL intRow
      rw [List.length_map, List.length_range, ints_map, List.map_map]
      rfl
    have e2 : T.row l.length 1 (wyL l.length (endQ l ds) l.length) = waysT ((List.range l.length).map (fun i => (oth l.length i).map fun a => recC true ((endQ l ds).ch a i))) := by
      unfold wyL waysT
      rw [List.length_map, List.length_range, List.map_map]
      congr 1
      refine List.map_congr_left fun i hi => ?_
      unfold wysT
      rw [if_pos (all_okS hd (List.mem_range.1 hi))]
      simp only [Function.comp, wayT, List.length_map, List.map_map]
      rfl
    rw [e1, e2] at h
    exact h
theorem mrun_res (l : List Int) (ds : List Md) : AF Try.prog 34 [intRow l, mdRow ds] (· = markV (markR l ds)) := by
  by_cases he : markErr l ds ≠ 0
  · have h := (mrun_err l ds he).out err_outM
    unfold markR
    rw [if_pos he]
    exact h
  · have he : markErr l ds = 0 := by omega
    exact (mrun_ok l ds he).out (ok_out l ds he)
theorem mark_one : markR [5] [⟨3, 0, 0, 0⟩] = (true, [5], [[]], [5], 0, 0) := by rfl
theorem way_at {A : List (List Int)} {k : Nat} {l : List Int} (h : A[k]? = some l) : (A.map intRow)[k * 1]? = some (intRow l) := by rw [Nat.mul_one, List.getElem?_map, h]; rfl
theorem ways_at {A : List (List (List Int))} {k : Nat} {l : List (List Int)} (h : A[k]? = some l) : (A.map wayT)[k * 1]? = some (wayT l) := by rw [Nat.mul_one, List.getElem?_map, h]; rfl
set_option maxRecDepth 100000 in
set_option maxHeartbeats 2000000 in
theorem eqWay_af (a b : List (List Int)) : AF Try.prog 38 [wayT a, wayT b, .fn (.func 14) []] (· = .lit (.bool (decide (a = b)))) := by
  cases d0 : decide (((a.length : Nat) : Int) = ((b.length : Nat) : Int))
  · have hne : decide (a = b) = false := decide_eq_false fun e => by
      have := of_decide_eq_false d0
      rw [e] at this
      exact this rfl
    rw [hne]
    refine af_enter tok Try.func38 Try.ntmps38 Try.results38 rfl (by kernel_rfl) rfl rfl fun F hX => ?_
    repeat (first | refine gG ?_ | refine zN1 (fun hlen => ?_) | refine zN2 (fun hlen => ?_))
    first | refine zR ?_ | refine zQ ?_
    rfl
  have hab : a.length = b.length := by have := of_decide_eq_true d0; omega
  refine af_enter tok Try.func38 Try.ntmps38 Try.results38 rfl (by kernel_rfl) rfl rfl fun F hX => ?_
  repeat (first | refine gG ?_ | refine zN1 (fun hlen => ?_) | refine zN2 (fun hlen => ?_))
  refine x_loop [6, 7, 8, 9, 17, 18, 19, 20, 21, 22, 23, 24, 25, 26, 27, 28, 29, 30, 31] (fun k : Nat => [(17, .c (.lit (.int .i64 (k : Nat))))]) (fun _ => []) (fun k => k ≤ a.length ∧ a.take k = b.take k) (fun k => a.length - k) 0 ⟨Nat.zero_le _, by simp⟩ ⟨rfl, trivial⟩ rfl ?_
  rintro k ⟨hk, he⟩
  repeat (first | refine gG ?_ | refine zN1 (fun hlen => ?_) | refine zN2 (fun hlen => ?_))
  refine x_cond rfl (fun h => ?_) (fun h => ?_)
  · have hk' : k < a.length := by simpa using h
    have hkb : k < b.length := by omega
    obtain ⟨x, hx⟩ := nth hk'
    obtain ⟨y, hy⟩ := nth hkb
    have hst := take_eq hx hy he
    have hxa := way_at hx
    have hyb := way_at hy
    have hc := eqInt_af x y
    clear h
    repeat (first | refine gG ?_ | refine zN1 (fun hlen => ?_) | refine zN2 (fun hlen => ?_))
    refine zIx k hk' ?_
    repeat (first | refine gG ?_ | refine zN1 (fun hlen => ?_) | refine zN2 (fun hlen => ?_))
    refine zEl1 hxa ?_
    repeat (first | refine gG ?_ | refine zN1 (fun hlen => ?_) | refine zN2 (fun hlen => ?_))
    refine zIx k hkb ?_
    repeat (first | refine gG ?_ | refine zN1 (fun hlen => ?_) | refine zN2 (fun hlen => ?_))
    refine zEl1 hyb ?_
    repeat (first | refine gG ?_ | refine zN1 (fun hlen => ?_) | refine zN2 (fun hlen => ?_))
    refine zCallc (hc) ?_
    rintro _ rfl
    cases d1 : decide (x = y)
    · have hne : decide (a = b) = false := decide_eq_false fun e => by
        subst e
        rw [hx] at hy
        exact of_decide_eq_false d1 (by injection hy)
      rw [hne]
      repeat (first | refine gG ?_ | refine zN1 (fun hlen => ?_) | refine zN2 (fun hlen => ?_))
      first | refine zR ?_ | refine zQ ?_
      rfl
    · replace hst := hst (of_decide_eq_true d1)
      repeat (first | refine gG ?_ | refine zN1 (fun hlen => ?_) | refine zN2 (fun hlen => ?_))
      exact ⟨k + 1, ⟨hk', hst⟩, by omega, x_wkd 0 ⟨rfl, trivial⟩ rfl (by repeat (first | exact ag_refl | refine ag_upd rfl ?_ | refine ag_at rfl rfl ?_))⟩
  · have hk' : k = a.length := by have : ¬ k < a.length := by simpa using h
                                  omega
    subst hk'
    rw [List.take_length, hab, List.take_length] at he
    repeat (first | refine gG ?_ | refine zN1 (fun hlen => ?_) | refine zN2 (fun hlen => ?_))
    first | refine zR ?_ | refine zQ ?_
    rw [decide_eq_true he]; rfl
theorem mr1_af (a b : List (List Int)) : AF Try.prog 37 [wayT a, wayT b] (· = .lit (.bool (decide (a = b)))) := by
  have hc := eqWay_af a b
  refine af_enter tok Try.func37 Try.ntmps37 Try.results37 rfl (by kernel_rfl) rfl rfl fun F hX => ?_
  repeat (first | refine gG ?_)
  refine zCall (hc) ?_
  rintro _ rfl
  repeat (first | refine gG ?_)
  first | refine zR ?_ | refine zQ ?_
  rfl
set_option maxRecDepth 100000 in
set_option maxHeartbeats 2000000 in
theorem eqWays_af (a b : List (List (List Int))) : AF Try.prog 36 [waysT a, waysT b, .fn (.func 37) []] (· = .lit (.bool (decide (a = b)))) := by
  cases d0 : decide (((a.length : Nat) : Int) = ((b.length : Nat) : Int))
  · have hne : decide (a = b) = false := decide_eq_false fun e => by
      have := of_decide_eq_false d0
      rw [e] at this
      exact this rfl
    rw [hne]
    refine af_enter tok Try.func36 Try.ntmps36 Try.results36 rfl (by kernel_rfl) rfl rfl fun F hX => ?_
    repeat (first | refine gG ?_ | refine zN1 (fun hlen => ?_) | refine zN2 (fun hlen => ?_))
    first | refine zR ?_ | refine zQ ?_
    rfl
  have hab : a.length = b.length := by have := of_decide_eq_true d0; omega
  refine af_enter tok Try.func36 Try.ntmps36 Try.results36 rfl (by kernel_rfl) rfl rfl fun F hX => ?_
  repeat (first | refine gG ?_ | refine zN1 (fun hlen => ?_) | refine zN2 (fun hlen => ?_))
  refine x_loop [6, 7, 8, 9, 17, 18, 19, 20, 21, 22, 23, 24, 25, 26, 27, 28, 29, 30, 31] (fun k : Nat => [(17, .c (.lit (.int .i64 (k : Nat))))]) (fun _ => []) (fun k => k ≤ a.length ∧ a.take k = b.take k) (fun k => a.length - k) 0 ⟨Nat.zero_le _, by simp⟩ ⟨rfl, trivial⟩ rfl ?_
  rintro k ⟨hk, he⟩
  repeat (first | refine gG ?_ | refine zN1 (fun hlen => ?_) | refine zN2 (fun hlen => ?_))
  refine x_cond rfl (fun h => ?_) (fun h => ?_)
  · have hk' : k < a.length := by simpa using h
    have hkb : k < b.length := by omega
    obtain ⟨x, hx⟩ := nth hk'
    obtain ⟨y, hy⟩ := nth hkb
    have hst := take_eq hx hy he
    have hxa := ways_at hx
    have hyb := ways_at hy
    have hc := mr1_af x y
    clear h
    repeat (first | refine gG ?_ | refine zN1 (fun hlen => ?_) | refine zN2 (fun hlen => ?_))
    refine zIx k hk' ?_
    repeat (first | refine gG ?_ | refine zN1 (fun hlen => ?_) | refine zN2 (fun hlen => ?_))
    refine zEl1 hxa ?_
    repeat (first | refine gG ?_ | refine zN1 (fun hlen => ?_) | refine zN2 (fun hlen => ?_))
    refine zIx k hkb ?_
    repeat (first | refine gG ?_ | refine zN1 (fun hlen => ?_) | refine zN2 (fun hlen => ?_))
    refine zEl1 hyb ?_
    repeat (first | refine gG ?_ | refine zN1 (fun hlen => ?_) | refine zN2 (fun hlen => ?_))
    refine zCallc (hc) ?_
    rintro _ rfl
    cases d1 : decide (x = y)
    · have hne : decide (a = b) = false := decide_eq_false fun e => by
        subst e
        rw [hx] at hy
        exact of_decide_eq_false d1 (by injection hy)
      rw [hne]
      repeat (first | refine gG ?_ | refine zN1 (fun hlen => ?_) | refine zN2 (fun hlen => ?_))
      first | refine zR ?_ | refine zQ ?_
      rfl
    · replace hst := hst (of_decide_eq_true d1)
      repeat (first | refine gG ?_ | refine zN1 (fun hlen => ?_) | refine zN2 (fun hlen => ?_))
      exact ⟨k + 1, ⟨hk', hst⟩, by omega, x_wkd 0 ⟨rfl, trivial⟩ rfl (by repeat (first | exact ag_refl | refine ag_upd rfl ?_ | refine ag_at rfl rfl ?_))⟩
  · have hk' : k = a.length := by have : ¬ k < a.length := by simpa using h
                                  omega
    subst hk'
    rw [List.take_length, hab, List.take_length] at he
    repeat (first | refine gG ?_ | refine zN1 (fun hlen => ?_) | refine zN2 (fun hlen => ?_))
    first | refine zR ?_ | refine zQ ?_
    rw [decide_eq_true he]; rfl
set_option maxRecDepth 100000 in
set_option maxHeartbeats 4000000 in
theorem markRuns_of (hM : ∀ l ds, AF Try.prog 35 [intRow l, mdRow ds] (· = markV (markR l ds))) (l : List Int) (ds : List Md) : AF Try.prog 6 [intRow l, mdRow ds] (· = .lit (.bool true)) := by
  have hr := mrun_res l ds
  have hm := hM l ds
  have ho := mrun_res [5] [⟨3, 0, 0, 0⟩]
  rw [mark_one] at ho
  generalize markR l ds = r at hr hm
  obtain ⟨dn, s, wy, nw, lf, e⟩ := r
  have h5 := eqInt_af [5] [5]
  rw [decide_eq_true rfl] at h5
  have hs := eqInt_af s s
  rw [decide_eq_true rfl] at hs
  have hn := eqInt_af nw nw
  rw [decide_eq_true rfl] at hn
  have hw := eqWays_af wy wy
  rw [decide_eq_true rfl] at hw
  have d1 : decide (e = e) = true := decide_eq_true rfl
  have d2 : decide (lf = lf) = true := decide_eq_true rfl
  have d3 : decide (dn = dn) = true := decide_eq_true rfl
  unfold markV at hr hm ho
  refine af_enter tok Try.func6 Try.ntmps6 Try.results6 rfl (by kernel_rfl) rfl rfl fun F hX => ?_
  repeat (first | refine gG ?_ | refine zAl (fun _ => ?_))
  refine zCall (hr) ?_
  rintro _ rfl
  repeat (first | refine gG ?_ | refine zAl (fun _ => ?_))
  refine zCall (hm) ?_
  rintro _ rfl
  repeat (first | refine gG ?_ | refine zAl (fun _ => ?_))
  refine zCall (ho) ?_
  rintro _ rfl
  repeat (first | refine gG ?_ | refine zAl (fun _ => ?_))
  refine zCall (h5) ?_
  rintro _ rfl
  repeat (first | refine gG ?_ | refine zAl (fun _ => ?_))
  refine lo_eqbr d3 ?_
  repeat (first | refine gG ?_ | refine zAl (fun _ => ?_))
  refine zCall (hs) ?_
  rintro _ rfl
  repeat (first | refine gG ?_ | refine zAl (fun _ => ?_))
  refine zCall (hn) ?_
  rintro _ rfl
  repeat (first | refine gG ?_ | refine zAl (fun _ => ?_))
  refine zCall (hw) ?_
  rintro _ rfl
  repeat (first | refine gG ?_ | refine zAl (fun _ => ?_))
  first | refine zR ?_ | refine zQ ?_
  rfl
end Go.Proofs.Ytdogdjcjmhogmaa
namespace Go.Proofs.Ytdogdjcjmhogmaa
open Go.RowKit
theorem mked_res (l : List Int) (ds : List Md) : AF Try.prog 35 [intRow l, mdRow ds] (· = markV (markR l ds)) := by
  by_cases he : markErr l ds ≠ 0
  · have h := (mked_err l ds he).out err_outM
    unfold markR
    rw [if_pos he]
    exact h
  · have he : markErr l ds = 0 := by omega
    exact (mked_ok l ds he).out (ok_out l ds he)
theorem markRuns_af (l : List Int) (ds : List Md) : AF Try.prog 6 [intRow l, mdRow ds] (· = .lit (.bool true)) := markRuns_of mked_res l ds
end Go.Proofs.Ytdogdjcjmhogmaa
namespace Go.Proofs.Ytdogdjcjmhogmaa
open Go.ChangeShapes Go.WideShapes Go.ChangeAt Go.RowKit Go.Deep
section
variable {H : Type} {enc : TypeId × Value → H} {P : Program} {w : World} {base : Nat} {spare : Nat → Bool} {held : Bool}
theorem bulk_one (d : DataW H) : 1 ≤ Rows.uptoBulk d := by
  cases d with
  | lit l => cases l <;> simp [Rows.uptoBulk]
  | _ => simp [Rows.uptoBulk]
end
end Go.Proofs.Ytdogdjcjmhogmaa
namespace Go.Proofs.Ytdogdjcjmhogmaa
open Go.ChangeShapes Go.WideShapes Go.ChangeAt Go.RowKit
theorem own : ownKnob Try.prog.godebug = none := by kernel_rfl
theorem laidOut : laidOutB Try.prog = true := by kernel_rfl
section
variable {H : Type} {enc : TypeId × Value → H}
theorem trodAll_below {P : Program} (hl : laidOutB P = true) {W W' : World} (hb : Below W.heap.size W W') (ts : List TypeId) : ∀ (vs : List Value) (ds : List (DataW H)) (ps : List MemPlace),
    (ts.all fun t => P.readableRec t && decide (t < P.types.size)) = true → DataW.TrodAll enc P W 0 (fun _ => true) true ts vs ds ps → (∀ x ∈ ps, x.block < W.heap.size) →
    DataW.TrodAll enc P W' 0 (fun b => decide (b < W.heap.size)) true ts vs ds ps := by
  induction ts with
  | nil =>
    intro vs ds ps _ h _
    obtain ⟨rfl, rfl, rfl⟩ := trodAll_nil h
    rfl
  | cons t ts ih =>
    intro vs ds ps hr h hlt
    obtain ⟨v, vs', d, ds', p, q, rfl, rfl, rfl, h0, h1⟩ := trodAll_cons h
    simp only [List.all_cons, Bool.and_eq_true, decide_eq_true_eq] at hr
    refine ⟨p, q, Below.trod hl hr.1.1 hr.1.2 h0 hb fun x hx => hlt x (List.mem_append_left _ hx), ?_, rfl⟩
    exact ih vs' ds' q hr.2 h1 fun x hx => hlt x (List.mem_append_right _ hx)
theorem law_post {f : Func} {s : ChangeSpec} {W W' : World} {args : Array Value} {ds gs : List (DataW H)} {before : List MemPlace}
    (hW : DataW.Whole enc Try.prog f.params.toList s.vars false W args.toList ds gs before) (hv : s.vars = []) (hrt : f.resultTypes = #[4])
    (hr : (f.params.toList.all fun t => Try.prog.readableRec t && decide (t < Try.prog.types.size)) = true)
    (hres : (s.fn H (ds ++ gs)).results = [.lit (.bool true)]) (hargs : (s.fn H (ds ++ gs)).args = ds) (hvars : (s.fn H (ds ++ gs)).vars = []) (hb : Below W.heap.size W W') :
    s.post enc Try.prog f false true false false W args (.bool true) W' := by
  have hlt : ∀ p ∈ before, p.block < W.heap.size := fun p hp => hW.lt p hp
  have hW' := hW
  obtain ⟨p, q, hA, hV, rfl, _, _⟩ := hW'
  rw [hv] at hV
  obtain ⟨rfl, rfl⟩ := trodVars_none hV
  rw [List.append_nil] at hlt
  refine ⟨ds, [], _, [], p, [], hW, ?_, ?_, ?_, hb.frame _ |> World.keptBut_mono (fun x hx => ⟨hx, ?_⟩), fun h => by cases h⟩
  · rw [hrt, hres]
    exact trodAll_mk1 (shut_bool Try.underlying4 true)
  · rw [hargs]
    exact trodAll_below laidOut hb _ _ _ _ hr hA hlt
  · rw [hvars, hv]
    rfl
  · rw [List.append_nil] at hx
    exact .inr (.inl hx)
end
end Go.Proofs.Ytdogdjcjmhogmaa
namespace Go.Proofs.Ytdogdjcjmhogmaa
open Go.ChangeShapes Go.WideShapes Go.ChangeAt Go.RowKit Go.Deep
/-- all memory of a world -/
def memOf (w : World) : Mm := frz (fun _ => none) 0 w
theorem memOf_ok (w : World) : MemOk (memOf w) w := frz_ok (fun p v h => by cases h) 0
theorem memOf_at {w : World} {p : Addr} {v : Value} (h : w.cell? p = some v) (h1 : v.oneCell' = true) : memOf w p = some v := frz_new rfl (Nat.zero_le _) h h1
section
variable {H : Type} {enc : TypeId × Value → H} {P : Program} {w : World} {base : Nat} {spare : Nat → Bool} {held : Bool}
def Opens (enc : TypeId × Value → H) (P : Program) (w : World) (base : Nat) (spare : Nat → Bool) (held : Bool) (t : TypeId) {α : Type} (f : α → List T) (μ : α → Nat) (fuel : Nat) : Prop :=
  ∀ (cs : List Value) (x : DataW H × List MemPlace), DataW.trod enc P w base spare held fuel t cs = some x → ∃ a, RTs (memOf w) (f a) cs ∧ OneAll cs ∧ μ a ≤ Rows.uptoBulk x.1
theorem sum_le {α : Type} (μ : α → Nat) : ∀ (l : List α) (ds : List (DataW H)), l.length = ds.length → (∀ (i : Nat) (a : α) (d : DataW H), l[i]? = some a → ds[i]? = some d → μ a ≤ Rows.uptoBulk d) → (l.map μ).sum ≤ Rows.uptoBulkAll ds
  | [], [], _, _ => by simp [Rows.uptoBulkAll]
  | a :: l, d :: ds, hl, h => by
    have h1 := h 0 a d rfl rfl
    have h2 := sum_le μ l ds (by simpa using hl) fun i a d ha hd => h (i + 1) a d (by simpa using ha) (by simpa using hd)
    simp only [List.map_cons, List.sum_cons, Rows.uptoBulkAll]
    omega
  | [], _ :: _, hl, _ => by simp at hl
  | _ :: _, [], hl, _ => by simp at hl
theorem snoc_ind {α : Type} {p : List α → Prop} (h0 : p []) (h1 : ∀ l x, p l → p (l ++ [x])) (l : List α) : p l := by
  have : ∀ n (l : List α), l.length = n → p l := by
    intro n
    induction n with
    | zero => intro l hl; rw [List.eq_nil_of_length_eq_zero hl]; exact h0
    | succ n ih =>
      intro l hl
      have hne : l ≠ [] := fun e => by rw [e] at hl; cases hl
      rw [← List.dropLast_concat_getLast hne]
      exact h1 _ _ (ih _ (by simp [hl]))
  exact this l.length l rfl
theorem rows_of {α : Type} (f : α → List T) (sz : Nat) (hf : ∀ a, (f a).length = sz) {a : Addr} : ∀ (l : List α) (C : Nat → List Value), (∀ (i : Nat) (x : α), l[i]? = some x → RTs (memOf w) (f x) (C i) ∧ OneAll (C i) ∧ ∀ j u, (C i)[j]? = some u → w.cell? (a.add (i * sz + j)) = some u) →
    ∃ xs : List Value, xs.length = l.length * sz ∧ At (memOf w) a xs ∧ RTs (memOf w) (l.flatMap f) xs := by
  intro l
  induction l using snoc_ind with
  | h0 => exact fun _ _ => ⟨[], by simp, fun j x h => by simp at h, by simp [RTs]⟩
  | h1 l x ih =>
    intro C h
    obtain ⟨xs, h1, h2, h3⟩ := ih C fun i y hy => h i y (by rw [List.getElem?_append_left (List.getElem?_eq_some_iff.1 hy).1]; exact hy)
    obtain ⟨g1, g2, g3⟩ := h l.length x (by simp)
    have hcl := g1.len
    rw [hf] at hcl
    refine ⟨xs ++ C l.length, by simp [h1, hcl, Nat.add_mul], fun j u hu => ?_, ?_⟩
    · rw [List.getElem?_append] at hu
      split at hu
      · exact h2 j u hu
      · have := g3 _ u hu
        rw [show l.length * sz + (j - xs.length) = j by omega] at this
        exact memOf_at this (g2 u (List.mem_of_getElem? hu))
    · rw [List.flatMap_append]
      refine h3.app ?_
      simpa using g1
theorem opens_slice {α : Type} [Inhabited α] {t e : TypeId} (f : α → List T) (μ : α → Nat) (sz : Nat) (hsz : 0 < sz) (hf : ∀ a, (f a).length = sz) {fuel : Nat} (ht : P.underlying t = some (.slice e)) (hC : P.cellsOf e = sz)
    (hel : ∀ n, n < fuel → Opens enc P w base spare held e f μ n) : Opens enc P w base spare held t (fun l : List α => [.row l.length sz (l.flatMap f)]) (fun l => (l.map μ).sum + 1) fuel := by
  intro cs x h
  rcases DataW.trod_slice ht h with ⟨rfl, rfl⟩ | ⟨a, len, cap, elems, rest, n, hn, rfl, rfl, hb, hl, hm, hlen, hi, _, _⟩
  · refine ⟨[], ?_, fun u hu => by simp at hu; subst hu; rfl, by simp [Rows.uptoBulk]⟩
    simp only [RTs]
    exact ⟨_, _, rfl, rt_nil hsz (by simp only [RT]), rfl⟩
  · rw [hC] at hi
    have hv : ∀ i, i < len → ∃ p : α × List Value, (p.2.length = sz ∧ ∀ j u, p.2[j]? = some u → w.cell? (a.add (i * sz + j)) = some u) ∧ RTs (memOf w) (f p.1) p.2 ∧ OneAll p.2 ∧ ∀ y, elems[i]? = some y → μ p.1 ≤ Rows.uptoBulk y.1 := by
      intro i hil
      have hk := hi i hil
      rw [List.getElem?_eq_getElem (by omega)] at hk
      obtain ⟨cs', h1, h2⟩ := Option.bind_eq_some_iff.1 hk
      obtain ⟨el, h3, h4, h5⟩ := hel n (by omega) _ _ h2
      obtain ⟨_, hlen', hcell⟩ := World.cells?_some h1
      refine ⟨(el, cs'), ⟨hlen', fun j u hu => ?_⟩, h3, h4, fun y hy => ?_⟩
      · have hj : j < sz := by rw [← hlen']; exact (List.getElem?_eq_some_iff.1 hu).1
        rw [← hu, ← hcell j hj, add_add']
      · rw [List.getElem?_eq_getElem (by omega)] at hy
        injection hy with hy
        rw [← hy]; exact h5
    obtain ⟨G, hG⟩ := choose_lt (α := α × List Value) hv
    obtain ⟨xs, g1, g2, g3⟩ := rows_of (w := w) (a := a) f sz hf ((List.range len).map fun i => (G i).1) (fun i => (G i).2) (fun i x hx => by
      have hil : i < len := by have := (List.getElem?_eq_some_iff.1 hx).1; simpa using this
      simp [hil] at hx
      obtain ⟨k1, k2, k3, _⟩ := hG i hil
      rw [← hx]
      exact ⟨k2, k3, k1.2⟩)
    refine ⟨(List.range len).map fun i => (G i).1, ?_, fun u hu => by simp at hu; subst hu; rfl, ?_⟩
    · simp only [RTs]
      refine ⟨_, _, rfl, ?_, rfl⟩
      simp only [RT]
      exact ⟨some a, cap, xs, by simp, by simpa using hl, by simp; omega, hsz, g1, fun _ => ⟨a, rfl, g2⟩, g3⟩
    · have := sum_le μ ((List.range len).map fun i => (G i).1) (elems.map (·.1)) (by simp [hlen]) (fun i y d hy hd => by
        have hil : i < len := by have := (List.getElem?_eq_some_iff.1 hy).1; simpa using this
        simp [hil] at hy
        rw [List.getElem?_map] at hd
        obtain ⟨z, hz, rfl⟩ := Option.map_eq_some_iff.1 hd
        rw [← hy]
        exact (hG i hil).2.2.2 z hz)
      simp only [Rows.uptoBulk]
      omega
theorem opens_int {t : TypeId} {k : IntKind} {fuel : Nat} (ht : P.underlying t = some (.int k)) : Opens enc P w base spare held t (fun i : Int => [.lit (.int k i)]) (fun _ => 1) fuel := by
  intro cs x h
  obtain ⟨i, rfl, rfl, _⟩ := DataW.trod_int ht h
  exact ⟨i, by simp [RTs, RT], fun u hu => by simp at hu; subst hu; rfl, bulk_one _⟩
end
/-- from a walk to the call: every law that takes trees and tells true -/
theorem law_call {P : Program} {f : FuncId} {ts : List T} {vs : List Value} {W : World} (h : AF P f ts (· = .lit (.bool true))) (hv : RTs (memOf W) ts vs) (hG : Glob W := by first | assumption | (intro x h; simp [globTab] at h)) : Calls P f vs.toArray W fun e W' => e = .returned (.bool true) ∧ Below W.heap.size W W' :=
  (h.2 (memOf W) W vs hG (memOf_ok W) hv).mono fun e w' ⟨v, r, M', he, hr, _, _, hrt, hb⟩ => by
    subst hr
    simp only [RT] at hrt
    rw [he, hrt]
    exact ⟨rfl, hb⟩
end Go.Proofs.Ytdogdjcjmhogmaa
namespace Go.Proofs.Ytdogdjcjmhogmaa
open Go.ChangeShapes Go.WideShapes Go.ChangeAt Go.RowKit Go.Deep
section
variable {H : Type} {enc : TypeId × Value → H} {P : Program} {w : World} {base : Nat} {spare : Nat → Bool} {held : Bool}
instance : Inhabited UInt8 := ⟨0⟩
theorem sum_one {α : Type} : ∀ l : List α, (l.map fun _ => 1).sum = l.length
  | [] => rfl
  | _ :: l => by simp only [List.map_cons, List.sum_cons, sum_one l, List.length_cons]; omega
end
end Go.Proofs.Ytdogdjcjmhogmaa
namespace Go.Proofs.Ytdogdjcjmhogmaa
open Go.RowKit
structure Acq where
  kind : Int
  n : Int
  d : List UInt8
  l : List Int
def Acq.ts (a : Acq) : List T := [.lit (.int .i64 a.kind), .lit (.int .i64 a.n), bytRow a.d, intRow a.l]
def Acq.row (l : List Acq) : T := .row l.length 4 (l.flatMap Acq.ts)
end Go.Proofs.Ytdogdjcjmhogmaa
namespace Go.Proofs.Ytdogdjcjmhogmaa
open Go.ChangeShapes Go.WideShapes Go.ChangeAt Go.RowKit Go.Deep
theorem listQ4 {α : Type} {l : List α} (h : l.length = 4) : ∃ a b c d, l = [a, b, c, d] := match l, h with | [a, b, c, d], _ => ⟨a, b, c, d, rfl⟩
instance : Inhabited Acq := ⟨⟨0, 0, [], []⟩⟩
theorem rts_seg {M : Mm} {ts us : List T} {cs : List Value} {o c : Nat} (h : RTs M ts ((cs.drop o).take c)) (h' : RTs M us (cs.drop (o + c))) : RTs M (ts ++ us) (cs.drop o) := by
  have := h.app h'
  rwa [← List.drop_drop, List.take_append_drop] at this
theorem rts_end {M : Mm} {cs : List Value} {o : Nat} (h : cs.length = o) : RTs M [] (cs.drop o) := by rw [← h, List.drop_length]; simp [RTs]
theorem one_seg {cs : List Value} {o c : Nat} (h : OneAll ((cs.drop o).take c)) (h' : OneAll (cs.drop (o + c))) : OneAll (cs.drop o) := by
  have := h.app h'
  rwa [← List.drop_drop, List.take_append_drop] at this
theorem one_end {cs : List Value} {o : Nat} (h : cs.length = o) : OneAll (cs.drop o) := by rw [← h, List.drop_length]; intro x hx; simp at hx
section
variable {H : Type} {enc : TypeId × Value → H} {w : World} {base : Nat} {spare : Nat → Bool} {held : Bool}
theorem cn_int : Try.prog.cellsOf 3 = 1 := by kernel_rfl
theorem opensInts (fuel : Nat) : Opens enc Try.prog w base spare held 22 (fun l : List Int => [intRow l]) (fun l => l.length + 1) fuel := by
  intro cs x h
  obtain ⟨l, h1, h2, h3⟩ := opens_slice intTs (fun _ => 1) 1 (by omega) (fun _ => rfl) Try.underlying22 cn_int (fun m _ => opens_int Try.underlying3) cs x h
  dsimp only at h1 h3
  rw [sum_one] at h3
  exact ⟨l, h1, h2, h3⟩
end
end Go.Proofs.Ytdogdjcjmhogmaa
namespace Go.Proofs.Ytdogdjcjmhogmaa
open Go.ChangeShapes Go.WideShapes Go.ChangeAt Go.RowKit Go.Deep
def mdMass (_ : Md) : Nat := 1
instance : Inhabited Md := ⟨⟨0, 0, 0, 0⟩⟩
theorem mdTs_len (d : Md) : (mdTs d).length = 4 := rfl
section
variable {H : Type} {enc : TypeId × Value → H} {w : World} {base : Nat} {spare : Nat → Bool} {held : Bool}
theorem cn_md : Try.prog.cellsOf 84 = 4 := by kernel_rfl
theorem opensMd (fuel : Nat) : Opens enc Try.prog w base spare held 84 mdTs mdMass fuel := by
  intro cs x h
  obtain ⟨ys, n, hn, rfl, hlen, hyl, hf⟩ := DataW.trod_struct Try.underlying84 h
  rw [cn_md] at hlen
  obtain ⟨y0, y1, y2, y3, rfl⟩ := listQ4 hyl
  have f0 : DataW.trod enc Try.prog w base spare held n 3 ((cs.drop 0).take (Try.prog.cellsOf 3)) = some y0 := hf 0 _ rfl
  rw [cn_int] at f0
  have f1 : DataW.trod enc Try.prog w base spare held n 3 ((cs.drop 1).take (Try.prog.cellsOf 3)) = some y1 := hf 1 _ rfl
  rw [cn_int] at f1
  have f2 : DataW.trod enc Try.prog w base spare held n 3 ((cs.drop 2).take (Try.prog.cellsOf 3)) = some y2 := hf 2 _ rfl
  rw [cn_int] at f2
  have f3 : DataW.trod enc Try.prog w base spare held n 3 ((cs.drop 3).take (Try.prog.cellsOf 3)) = some y3 := hf 3 _ rfl
  rw [cn_int] at f3
  obtain ⟨a0, r0, o0, m0⟩ := opens_int Try.underlying3 _ _ f0
  obtain ⟨a1, r1, o1, m1⟩ := opens_int Try.underlying3 _ _ f1
  obtain ⟨a2, r2, o2, m2⟩ := opens_int Try.underlying3 _ _ f2
  obtain ⟨a3, r3, o3, m3⟩ := opens_int Try.underlying3 _ _ f3
  refine ⟨⟨a0, a1, a2, a3⟩, ?_, ?_, ?_⟩
  · have := rts_seg r0 (rts_seg r1 (rts_seg r2 (rts_seg r3 (rts_end hlen))))
    simpa [mdTs, mdMass] using this
  · have := one_seg o0 (one_seg o1 (one_seg o2 (one_seg o3 (one_end hlen))))
    simpa using this
  · simp only [mdTs, mdMass, List.map_cons, List.map_nil, Rows.uptoBulk, Rows.uptoBulkAll] at m0 m1 m2 m3 ⊢
    omega
theorem opensMds (fuel : Nat) : Opens enc Try.prog w base spare held 77 (fun l : List Md => [mdRow l]) (fun l => (l.map mdMass).sum + 1) fuel :=
  opens_slice mdTs mdMass 4 (by omega) mdTs_len Try.underlying77 cn_md (fun m _ => opensMd m)
end
end Go.Proofs.Ytdogdjcjmhogmaa
