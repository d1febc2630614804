/-
  Texts of this proof, part 19: Txq Txp Txl.
-/
import Derived.Test.YthgackidonocpaaGreatQStoreLast18
import Derived.MapKept
namespace Go.Proofs.YthgackidonocpaaGreat
open Go.RowKit
def strT (x : List UInt8) : T := .lit (.string (bs x))
def stRow (l : List (List UInt8)) : T := .row l.length 1 (l.map strT)
def OutLg (o : Option (List (List UInt8))) (t : T) : Prop := ∃ l k, t = .tup [stRow l, .lit (.bool k)] ∧ o = if k = true then some l else none
theorem rd4_at {a b c d : UInt8} : rdW [a, b, c, d] = (((a.toNat : Int) * 256 + (b.toNat : Int)) * 256 + (c.toNat : Int)) * 256 + (d.toNat : Int) := by
  have ha := a.toNat_lt
  have hb := b.toNat_lt
  have hc := c.toNat_lt
  have hd := d.toNat_lt
  simp only [rdW, List.foldl_cons, List.foldl_nil, stW]
  rw [IntWalk.i64_in (0 * 256 + _) (by omega)]
  rw [IntWalk.i64_in ((0 * 256 + _) * 256 + _) (by omega)]
  rw [IntWalk.i64_in (((0 * 256 + _) * 256 + _) * 256 + _) (by omega)]
  rw [IntWalk.i64_in ((((0 * 256 + _) * 256 + _) * 256 + _) * 256 + _) (by omega)]
  omega
theorem four_of {b : List UInt8} (h : ¬ b.length < 4) : ∃ x y z w, b[0]? = some x ∧ b[1]? = some y ∧ b[2]? = some z ∧ b[3]? = some w ∧ b.take 4 = [x, y, z, w] := by
  match b, h with
  | x :: y :: z :: w :: r, _ => exact ⟨x, y, z, w, rfl, rfl, rfl, rfl, rfl⟩
  | [], h => exact absurd (by simp) h
  | [_], h => exact absurd (by simp) h
  | [_, _], h => exact absurd (by simp) h
  | [_, _, _], h => exact absurd (by simp) h
set_option maxRecDepth 100000 in
set_option maxHeartbeats 4000000 in
theorem longs_af (b : List UInt8) (f0 : Nat) (hf0 : b.length ≤ f0) (hb : b.length ≤ 2097152) : AF Tryz.prog 16 [bytRow b] (OutLg (longsS f0 b)) := by
  refine af_enter tok Tryz.func16 Tryz.ntmps16 Tryz.results16 rfl (by kernel_rfl) rfl rfl fun F hX => ?_
  repeat (first | refine gG ?_ | refine zN1 (fun hlen => ?_) | refine zN2 (fun hlen => ?_) | refine zAp (fun _ => ?_))
  refine x_own 4 9 1 rfl rfl rfl rfl rfl ?_
  refine x_loop [0, 2, 3, 4, 5, 6, 7, 8, 9, 10, 11, 12, 13, 14, 15, 16, 17, 18, 19, 20, 21, 22, 23, 24, 25, 26, 27, 28, 29, 30, 31, 32, 33, 34, 35, 36, 37, 38, 39, 40, 41, 42, 43, 44, 45, 46, 47, 48, 49, 50] (fun s : List UInt8 × Nat × List (List UInt8) × Value => [(0, .c (bytRow s.1)), (4, .own 0 s.2.2.2)]) (fun s => [.row s.2.2.2 9 1 s.2.2.1.length (s.2.2.1.map strT)])
    (fun s => s.1.length ≤ s.2.1 ∧ s.2.2.1.length + s.1.length ≤ 2097152 ∧ (longsS s.2.1 s.1).map (fun q => s.2.2.1 ++ q) = longsS f0 b) (fun s => s.1.length) (b, f0, [], .slice none 0 0) ⟨hf0, by simpa using hb, by simp⟩ ⟨rfl, rfl, trivial⟩ rfl ?_
  rintro ⟨bb, f, out, v⟩ ⟨hf, hol, hinv⟩
  dsimp only at hf hol hinv ⊢
  by_cases hne : bb = []
  · subst hne
    rw [longsS_nil] at hinv
    have hz : longsS f0 b = some out := by rw [← hinv]; simp
    have d1 : decide ((0 : Int) < (([] : List UInt8).length : Int)) = false := rfl
    clear hinv
    refine x_fz 4 rfl rfl rfl rfl ?_
    repeat (first | refine gG ?_ | refine zN1 (fun hlen => ?_) | refine zN2 (fun hlen => ?_) | refine zAp (fun _ => ?_))
    first | refine zR ?_ | refine zQ ?_
    exact ⟨out, true, rfl, hz⟩
  have hpos : 0 < bb.length := List.length_pos_iff.2 hne
  obtain ⟨f, rfl⟩ : ∃ g, f = g + 1 := ⟨f - 1, by omega⟩
  have d1 : decide ((0 : Int) < (bb.length : Int)) = true := decide_eq_true (by omega)
  by_cases h4 : bb.length < 4
  · have d2 : decide ((bb.length : Int) < 4) = true := decide_eq_true (by omega)
    have hc : cutS bb = none := by unfold cutS; rw [if_pos h4]
    rw [longsS_no hc hne] at hinv
    repeat (first | refine gG ?_ | refine zN1 (fun hlen => ?_) | refine zN2 (fun hlen => ?_) | refine zAp (fun _ => ?_))
    first | refine zR (ts := [stRow [], .lit (.bool false)]) ?_ | refine zQ (ts := [stRow [], .lit (.bool false)]) ?_
    exact ⟨[], false, rfl, hinv.symm⟩
  have d2 : decide ((bb.length : Int) < 4) = false := decide_eq_false (by omega)
  obtain ⟨x, y, z, w, hx, hy, hz, hw, ht⟩ := four_of h4
  have xl := x.toNat_lt
  have yl := y.toNat_lt
  have zl := z.toNat_lt
  have wl := w.toNat_lt
  have hrd : rdW (bb.take 4) = (((x.toNat : Int) * 256 + (y.toNat : Int)) * 256 + (z.toNat : Int)) * 256 + (w.toNat : Int) := by rw [ht, rd4_at]
  obtain ⟨n, hn⟩ : ∃ n : Nat, (((x.toNat : Int) * 256 + (y.toNat : Int)) * 256 + (z.toNat : Int)) * 256 + (w.toNat : Int) = (n : Int) := ⟨(((x.toNat : Int) * 256 + (y.toNat : Int)) * 256 + (z.toNat : Int)) * 256 + (w.toNat : Int) |>.toNat, by omega⟩
  rw [hn] at hrd
  by_cases hq : ((bb.length - 4 : Nat) : Int) < (n : Int)
  · have d3 : decide ((bb.length : Int) - 4 < (n : Int)) = true := decide_eq_true (by omega)
    have hc : cutS bb = none := by unfold cutS; rw [if_neg h4, hrd, if_pos hq]
    rw [longsS_no hc hne] at hinv
    repeat (first | refine gG ?_ | refine zN1 (fun hlen => ?_) | refine zN2 (fun hlen => ?_) | refine zAp (fun _ => ?_))
    refine ac_draw [1, 1, 1, 1, 1, 1, 1, 1, 1, 1, 1, 1, 1, 1, 1, 1, 1, 1, 1, 1, 1, 1, 1] [0, 1, 2, 3, 4, 5, 6, 7, 8, 9, 10, 11, 12, 13, 14, 15, 16, 17, 18, 19, 20, 21, 22] (by kernel_rfl) (by kernel_rfl) ?_
    refine gW ?_
    apply w_q; (focus exact rfl); (focus exact rfl); focus (intro _; (refine zIx 0 (show 0 < bb.length by omega) ?_); exact det_refl)
    apply w_q; (focus exact rfl); (focus exact rfl); focus (intro _; (refine zEl1 (byt_at hx) ?_); exact det_refl)
    apply w_q; (focus exact rfl); (focus exact rfl); focus (intro _; (refine lo_conv tok rfl rfl rfl rfl toInt ?_); exact det_refl)
    apply w_q; (focus exact rfl); (focus exact rfl); focus (intro _; (refine lo_mul rfl rfl (r := (x.toNat : Int) * 256) (by rw [IntWalk.i64_in _ (by omega)]) ?_); exact det_refl)
    refine gW ?_
    apply w_q; (focus exact rfl); (focus exact rfl); focus (intro _; (refine zIx 1 (show 1 < bb.length by omega) ?_); exact det_refl)
    apply w_q; (focus exact rfl); (focus exact rfl); focus (intro _; (refine zEl1 (byt_at hy) ?_); exact det_refl)
    apply w_q; (focus exact rfl); (focus exact rfl); focus (intro _; (refine lo_conv tok rfl rfl rfl rfl toInt ?_); exact det_refl)
    apply w_q; (focus exact rfl); (focus exact rfl); focus (intro _; (refine lo_add rfl rfl (r := (x.toNat : Int) * 256 + (y.toNat : Int)) (by rw [IntWalk.i64_in _ (by omega)]) ?_); exact det_refl)
    apply w_q; (focus exact rfl); (focus exact rfl); focus (intro _; (refine lo_mul rfl rfl (r := ((x.toNat : Int) * 256 + (y.toNat : Int)) * 256) (by rw [IntWalk.i64_in _ (by omega)]) ?_); exact det_refl)
    refine gW ?_
    apply w_q; (focus exact rfl); (focus exact rfl); focus (intro _; (refine zIx 2 (show 2 < bb.length by omega) ?_); exact det_refl)
    apply w_q; (focus exact rfl); (focus exact rfl); focus (intro _; (refine zEl1 (byt_at hz) ?_); exact det_refl)
    apply w_q; (focus exact rfl); (focus exact rfl); focus (intro _; (refine lo_conv tok rfl rfl rfl rfl toInt ?_); exact det_refl)
    apply w_q; (focus exact rfl); (focus exact rfl); focus (intro _; (refine lo_add rfl rfl (r := ((x.toNat : Int) * 256 + (y.toNat : Int)) * 256 + (z.toNat : Int)) (by rw [IntWalk.i64_in _ (by omega)]) ?_); exact det_refl)
    apply w_q; (focus exact rfl); (focus exact rfl); focus (intro _; (refine lo_mul rfl rfl (r := (((x.toNat : Int) * 256 + (y.toNat : Int)) * 256 + (z.toNat : Int)) * 256) (by rw [IntWalk.i64_in _ (by omega)]) ?_); exact det_refl)
    refine gW ?_
    apply w_q; (focus exact rfl); (focus exact rfl); focus (intro _; (refine zIx 3 (show 3 < bb.length by omega) ?_); exact det_refl)
    apply w_q; (focus exact rfl); (focus exact rfl); focus (intro _; (refine zEl1 (byt_at hw) ?_); exact det_refl)
    apply w_q; (focus exact rfl); (focus exact rfl); focus (intro _; (refine lo_conv tok rfl rfl rfl rfl toInt ?_); exact det_refl)
    apply w_q; (focus exact rfl); (focus exact rfl); focus (intro _; (refine lo_add rfl rfl (r := (n : Int)) (by rw [IntWalk.i64_in _ (by omega)]; exact hn) ?_); exact det_refl)
    refine gW ?_
    refine w_nil ?_
    repeat (first | refine gG ?_ | refine zN1 (fun hlen => ?_) | refine zN2 (fun hlen => ?_) | refine zAp (fun _ => ?_))
    refine zSub ?_
    repeat (first | refine gG ?_ | refine zN1 (fun hlen => ?_) | refine zN2 (fun hlen => ?_) | refine zAp (fun _ => ?_))
    first | refine zR (ts := [stRow [], .lit (.bool false)]) ?_ | refine zQ (ts := [stRow [], .lit (.bool false)]) ?_
    exact ⟨[], false, rfl, hinv.symm⟩
  · have d3 : decide ((bb.length : Int) - 4 < (n : Int)) = false := decide_eq_false (by omega)
    have hc : cutS bb = some ((bb.drop 4).take n, bb.drop (4 + n)) := by unfold cutS; rw [if_neg h4, hrd, if_neg hq, Int.toNat_natCast]
    rw [longsS_go hc hne] at hinv
    have htk : (bb.drop 4).take (4 + n - 4) = (bb.drop 4).take n := by rw [show 4 + n - 4 = n by omega]
    have hdl : (bb.drop (4 + n)).length = bb.length - (4 + n) := List.length_drop
    have hsl : ((bb.drop 4).take n).length ≤ 2097152 := by simp only [List.length_take, List.length_drop]; omega
    repeat (first | refine gG ?_ | refine zN1 (fun hlen => ?_) | refine zN2 (fun hlen => ?_) | refine zAp (fun _ => ?_))
    refine ac_draw [1, 1, 1, 1, 1, 1, 1, 1, 1, 1, 1, 1, 1, 1, 1, 1, 1, 1, 1, 1, 1, 1, 1] [0, 1, 2, 3, 4, 5, 6, 7, 8, 9, 10, 11, 12, 13, 14, 15, 16, 17, 18, 19, 20, 21, 22] (by kernel_rfl) (by kernel_rfl) ?_
    refine gW ?_
    apply w_q; (focus exact rfl); (focus exact rfl); focus (intro _; (refine zIx 0 (show 0 < bb.length by omega) ?_); exact det_refl)
    apply w_q; (focus exact rfl); (focus exact rfl); focus (intro _; (refine zEl1 (byt_at hx) ?_); exact det_refl)
    apply w_q; (focus exact rfl); (focus exact rfl); focus (intro _; (refine lo_conv tok rfl rfl rfl rfl toInt ?_); exact det_refl)
    apply w_q; (focus exact rfl); (focus exact rfl); focus (intro _; (refine lo_mul rfl rfl (r := (x.toNat : Int) * 256) (by rw [IntWalk.i64_in _ (by omega)]) ?_); exact det_refl)
    refine gW ?_
    apply w_q; (focus exact rfl); (focus exact rfl); focus (intro _; (refine zIx 1 (show 1 < bb.length by omega) ?_); exact det_refl)
    apply w_q; (focus exact rfl); (focus exact rfl); focus (intro _; (refine zEl1 (byt_at hy) ?_); exact det_refl)
    apply w_q; (focus exact rfl); (focus exact rfl); focus (intro _; (refine lo_conv tok rfl rfl rfl rfl toInt ?_); exact det_refl)
    apply w_q; (focus exact rfl); (focus exact rfl); focus (intro _; (refine lo_add rfl rfl (r := (x.toNat : Int) * 256 + (y.toNat : Int)) (by rw [IntWalk.i64_in _ (by omega)]) ?_); exact det_refl)
    apply w_q; (focus exact rfl); (focus exact rfl); focus (intro _; (refine lo_mul rfl rfl (r := ((x.toNat : Int) * 256 + (y.toNat : Int)) * 256) (by rw [IntWalk.i64_in _ (by omega)]) ?_); exact det_refl)
    refine gW ?_
    apply w_q; (focus exact rfl); (focus exact rfl); focus (intro _; (refine zIx 2 (show 2 < bb.length by omega) ?_); exact det_refl)
    apply w_q; (focus exact rfl); (focus exact rfl); focus (intro _; (refine zEl1 (byt_at hz) ?_); exact det_refl)
    apply w_q; (focus exact rfl); (focus exact rfl); focus (intro _; (refine lo_conv tok rfl rfl rfl rfl toInt ?_); exact det_refl)
    apply w_q; (focus exact rfl); (focus exact rfl); focus (intro _; (refine lo_add rfl rfl (r := ((x.toNat : Int) * 256 + (y.toNat : Int)) * 256 + (z.toNat : Int)) (by rw [IntWalk.i64_in _ (by omega)]) ?_); exact det_refl)
    apply w_q; (focus exact rfl); (focus exact rfl); focus (intro _; (refine lo_mul rfl rfl (r := (((x.toNat : Int) * 256 + (y.toNat : Int)) * 256 + (z.toNat : Int)) * 256) (by rw [IntWalk.i64_in _ (by omega)]) ?_); exact det_refl)
    refine gW ?_
    apply w_q; (focus exact rfl); (focus exact rfl); focus (intro _; (refine zIx 3 (show 3 < bb.length by omega) ?_); exact det_refl)
    apply w_q; (focus exact rfl); (focus exact rfl); focus (intro _; (refine zEl1 (byt_at hw) ?_); exact det_refl)
    apply w_q; (focus exact rfl); (focus exact rfl); focus (intro _; (refine lo_conv tok rfl rfl rfl rfl toInt ?_); exact det_refl)
    apply w_q; (focus exact rfl); (focus exact rfl); focus (intro _; (refine lo_add rfl rfl (r := (n : Int)) (by rw [IntWalk.i64_in _ (by omega)]; exact hn) ?_); exact det_refl)
    refine gW ?_
    refine w_nil ?_
    repeat (first | refine gG ?_ | refine zN1 (fun hlen => ?_) | refine zN2 (fun hlen => ?_) | refine zAp (fun _ => ?_))
    refine zSub ?_
    repeat (first | refine gG ?_ | refine zN1 (fun hlen => ?_) | refine zN2 (fun hlen => ?_) | refine zAp (fun _ => ?_))
    refine lo_add rfl rfl (r := ((4 + n : Nat) : Int)) (by rw [IntWalk.i64_in _ (by omega)]; omega) ?_
    repeat (first | refine gG ?_ | refine zN1 (fun hlen => ?_) | refine zN2 (fun hlen => ?_) | refine zAp (fun _ => ?_))
    refine zPmb (l := bb) 4 (4 + n) (by omega) (by omega) ?_
    rw [htk]
    repeat (first | refine gG ?_ | refine zN1 (fun hlen => ?_) | refine zN2 (fun hlen => ?_) | refine zAp (fun _ => ?_))
    refine zStr ((bb.drop 4).take n) rfl rfl ?_
    repeat (first | refine gG ?_ | refine zN1 (fun hlen => ?_) | refine zN2 (fun hlen => ?_) | refine zAp (fun _ => ?_))
    refine lo_add rfl rfl (r := ((4 + n : Nat) : Int)) (by rw [IntWalk.i64_in _ (by omega)]; omega) ?_
    repeat (first | refine gG ?_ | refine zN1 (fun hlen => ?_) | refine zN2 (fun hlen => ?_) | refine zAp (fun _ => ?_))
    refine zPlb (l := bb) (4 + n) (by omega) ?_
    repeat (first | refine gG ?_ | refine zN1 (fun hlen => ?_) | refine zN2 (fun hlen => ?_) | refine zAp (fun _ => ?_))
    exact ⟨(bb.drop (4 + n), f, out ++ [(bb.drop 4).take n], _), ⟨by simp only; omega, by simp only [List.length_append, List.length_cons, List.length_nil]; omega, by rw [← hinv]; cases longsS f (bb.drop (4 + n)) <;> simp⟩, by simp only; omega, x_wkd 1 ⟨rfl, rfl, trivial⟩ (by simp only [List.map_append, List.map_cons, List.map_nil, List.length_append, List.length_cons, List.length_nil]; rfl) (by repeat (first | exact ag_refl | refine ag_upd rfl ?_ | refine ag_at rfl rfl ?_))⟩
set_option maxRecDepth 100000 in
set_option maxHeartbeats 4000000 in
theorem scanned_af (b : List UInt8) (hb : b.length ≤ 2097152) : AF Tryz.prog 18 [bytRow b] (· = .tup [stRow (scanS (b.length + 1) b).1, .lit (.int .i64 ((scanS (b.length + 1) b).2 : Int))]) := by
  refine af_enter tok Tryz.func18 Tryz.ntmps18 Tryz.results18 rfl (by kernel_rfl) rfl rfl fun F hX => ?_
  repeat (first | refine gG ?_ | refine zN1 (fun hlen => ?_) | refine zN2 (fun hlen => ?_) | refine zAp (fun _ => ?_))
  refine x_own 4 9 1 rfl rfl rfl rfl rfl ?_
  refine x_loop [4, 5, 6, 7, 8, 9, 10, 11, 12, 13, 14, 15, 16, 17, 18, 19, 20, 21, 22, 23, 24, 25, 26, 27, 28, 29, 30, 31, 32, 33, 34, 35, 36, 37, 38, 39, 40, 41, 42, 43, 44, 45, 46, 47] (fun y : Nat × Nat × List (List UInt8) × Value => [(5, .c (.lit (.int .i64 (y.1 : Nat)))), (4, .own 0 y.2.2.2)]) (fun y => [.row y.2.2.2 9 1 y.2.2.1.length (y.2.2.1.map strT)])
    (fun y => y.1 ≤ b.length ∧ y.2.2.1.length ≤ y.1 ∧ (b.drop y.1).length < y.2.1 ∧ (y.2.2.1 ++ (scanS y.2.1 (b.drop y.1)).1, y.1 + (scanS y.2.1 (b.drop y.1)).2) = scanS (b.length + 1) b) (fun y => b.length - y.1) (0, b.length + 1, [], .slice none 0 0) ⟨Nat.zero_le _, Nat.le_refl _, by simp, by simp⟩ ⟨rfl, rfl, trivial⟩ rfl ?_
  rintro ⟨k, f, out, v⟩ ⟨hk, hol, hf, hinv⟩
  dsimp only at hk hol hf hinv ⊢
  have hdl : (b.drop k).length = b.length - k := List.length_drop
  have hk2 : IntKind.i64.wrap ((k : Int) + 2) = ((k + 2 : Nat) : Int) := by rw [IntWalk.i64_in _ (by omega)]; omega
  by_cases h2 : (b.drop k).length < 2
  · have d1 : decide (((k + 2 : Nat) : Int) ≤ (b.length : Int)) = false := decide_eq_false (by omega)
    rw [scanS_short h2] at hinv
    simp only [List.append_nil, Nat.add_zero] at hinv
    rw [← hinv]
    refine x_fz 4 rfl rfl rfl rfl ?_
    repeat (first | refine gG ?_ | refine zN1 (fun hlen => ?_) | refine zN2 (fun hlen => ?_) | refine zAp (fun _ => ?_))
    refine lo_add rfl rfl hk2 ?_
    repeat (first | refine gG ?_ | refine zN1 (fun hlen => ?_) | refine zN2 (fun hlen => ?_) | refine zAp (fun _ => ?_))
    first | refine zR ?_ | refine zQ ?_
    rfl
  have d1 : decide (((k + 2 : Nat) : Int) ≤ (b.length : Int)) = true := decide_eq_true (by omega)
  obtain ⟨x, y, r, hr⟩ : ∃ x y r, b.drop k = x :: y :: r := by
    match hm : b.drop k with
    | [] => rw [hm] at h2; simp at h2
    | [x] => rw [hm] at h2; simp at h2
    | x :: y :: r => exact ⟨x, y, r, rfl⟩
  obtain ⟨hx, hr1⟩ := drop_cons hr
  obtain ⟨hy, hr2⟩ := drop_cons hr1
  rw [hr] at hinv hf hdl
  simp only [List.length_cons] at hdl hf
  have hxx := x.toNat_lt
  have hyy := y.toNat_lt
  have hmu : IntKind.i64.wrap ((256 : Int) * (x.toNat : Int)) = ((256 * x.toNat : Nat) : Int) := by rw [IntWalk.i64_in _ (by omega)]; omega
  have hor : IntKind.i64.wrap (((256 * x.toNat : Nat) : Int) + (y.toNat : Int)) = ((256 * x.toNat + y.toNat : Nat) : Int) := by rw [IntWalk.i64_in _ (by omega)]; omega
  generalize hn : 256 * x.toNat + y.toNat = n at *
  have hk3 : IntKind.i64.wrap (((k + 2 : Nat) : Int) + (n : Int)) = ((k + 2 + n : Nat) : Int) := by rw [IntWalk.i64_in _ (by omega)]; omega
  by_cases h3 : r.length < n
  · have d2 : decide ((b.length : Int) < ((k + 2 + n : Nat) : Int)) = true := decide_eq_true (by omega)
    rw [scanS_cut (by omega)] at hinv
    simp only [List.append_nil, Nat.add_zero] at hinv
    rw [← hinv]
    refine x_fz 4 rfl rfl rfl rfl ?_
    repeat (first | refine gG ?_ | refine zN1 (fun hlen => ?_) | refine zN2 (fun hlen => ?_) | refine zAp (fun _ => ?_))
    refine lo_add rfl rfl hk2 ?_
    repeat (first | refine gG ?_ | refine zN1 (fun hlen => ?_) | refine zN2 (fun hlen => ?_) | refine zAp (fun _ => ?_))
    refine ac_draw [1, 1, 1, 1, 1, 1, 1, 1, 1, 1, 1, 1, 1, 1] [0, 1, 2, 3, 4, 5, 6, 7, 8, 9, 10, 11, 12, 13] (by kernel_rfl) (by kernel_rfl) ?_
    refine gW ?_
    apply w_q; (focus exact rfl); (focus exact rfl); focus (intro _; (refine zIx k (show k < b.length by omega) ?_); exact det_refl)
    apply w_q; (focus exact rfl); (focus exact rfl); focus (intro _; (refine zEl1 (byt_at hx) ?_); exact det_refl)
    apply w_q; (focus exact rfl); (focus exact rfl); focus (intro _; (refine lo_conv tok rfl rfl rfl rfl toInt ?_); exact det_refl)
    apply w_q; (focus exact rfl); (focus exact rfl); focus (intro _; (refine lo_mul rfl rfl hmu ?_); exact det_refl)
    refine gW ?_
    apply w_q; (focus exact rfl); (focus exact rfl); focus (intro _; (refine zIx (k + 1) (show k + 1 < b.length by omega) ?_); exact det_refl)
    apply w_q; (focus exact rfl); (focus exact rfl); focus (intro _; (refine zEl1 (byt_at hy) ?_); exact det_refl)
    apply w_q; (focus exact rfl); (focus exact rfl); focus (intro _; (refine lo_conv tok rfl rfl rfl rfl toInt ?_); exact det_refl)
    apply w_q; (focus exact rfl); (focus exact rfl); focus (intro _; (refine lo_add rfl rfl hor ?_); exact det_refl)
    refine gW ?_
    refine w_nil ?_
    repeat (first | refine gG ?_ | refine zN1 (fun hlen => ?_) | refine zN2 (fun hlen => ?_) | refine zAp (fun _ => ?_))
    refine lo_add rfl rfl hk2 ?_
    repeat (first | refine gG ?_ | refine zN1 (fun hlen => ?_) | refine zN2 (fun hlen => ?_) | refine zAp (fun _ => ?_))
    refine lo_add rfl rfl hk3 ?_
    repeat (first | refine gG ?_ | refine zN1 (fun hlen => ?_) | refine zN2 (fun hlen => ?_) | refine zAp (fun _ => ?_))
    first | refine zR ?_ | refine zQ ?_
    rfl
  · have d2 : decide ((b.length : Int) < ((k + 2 + n : Nat) : Int)) = false := decide_eq_false (by omega)
    obtain ⟨f, rfl⟩ : ∃ g, f = g + 1 := ⟨f - 1, by omega⟩
    rw [scanS_go (by omega), hn] at hinv
    have hdk : b.drop (k + (2 + n)) = r.drop n := by rw [← hr2, List.drop_drop]; congr 1; omega
    have htk : ((b.drop (k + 2)).take (k + 2 + n - (k + 2))) = r.take n := by rw [show k + 2 + n - (k + 2) = n by omega, ← hr2]
    repeat (first | refine gG ?_ | refine zN1 (fun hlen => ?_) | refine zN2 (fun hlen => ?_) | refine zAp (fun _ => ?_))
    refine lo_add rfl rfl hk2 ?_
    repeat (first | refine gG ?_ | refine zN1 (fun hlen => ?_) | refine zN2 (fun hlen => ?_) | refine zAp (fun _ => ?_))
    refine ac_draw [1, 1, 1, 1, 1, 1, 1, 1, 1, 1, 1, 1, 1, 1] [0, 1, 2, 3, 4, 5, 6, 7, 8, 9, 10, 11, 12, 13] (by kernel_rfl) (by kernel_rfl) ?_
    refine gW ?_
    apply w_q; (focus exact rfl); (focus exact rfl); focus (intro _; (refine zIx k (show k < b.length by omega) ?_); exact det_refl)
    apply w_q; (focus exact rfl); (focus exact rfl); focus (intro _; (refine zEl1 (byt_at hx) ?_); exact det_refl)
    apply w_q; (focus exact rfl); (focus exact rfl); focus (intro _; (refine lo_conv tok rfl rfl rfl rfl toInt ?_); exact det_refl)
    apply w_q; (focus exact rfl); (focus exact rfl); focus (intro _; (refine lo_mul rfl rfl hmu ?_); exact det_refl)
    refine gW ?_
    apply w_q; (focus exact rfl); (focus exact rfl); focus (intro _; (refine zIx (k + 1) (show k + 1 < b.length by omega) ?_); exact det_refl)
    apply w_q; (focus exact rfl); (focus exact rfl); focus (intro _; (refine zEl1 (byt_at hy) ?_); exact det_refl)
    apply w_q; (focus exact rfl); (focus exact rfl); focus (intro _; (refine lo_conv tok rfl rfl rfl rfl toInt ?_); exact det_refl)
    apply w_q; (focus exact rfl); (focus exact rfl); focus (intro _; (refine lo_add rfl rfl hor ?_); exact det_refl)
    refine gW ?_
    refine w_nil ?_
    repeat (first | refine gG ?_ | refine zN1 (fun hlen => ?_) | refine zN2 (fun hlen => ?_) | refine zAp (fun _ => ?_))
    refine lo_add rfl rfl hk2 ?_
    repeat (first | refine gG ?_ | refine zN1 (fun hlen => ?_) | refine zN2 (fun hlen => ?_) | refine zAp (fun _ => ?_))
    refine lo_add rfl rfl hk3 ?_
    repeat (first | refine gG ?_ | refine zN1 (fun hlen => ?_) | refine zN2 (fun hlen => ?_) | refine zAp (fun _ => ?_))
    refine lo_add rfl rfl hk2 ?_
    repeat (first | refine gG ?_ | refine zN1 (fun hlen => ?_) | refine zN2 (fun hlen => ?_) | refine zAp (fun _ => ?_))
    refine lo_add rfl rfl hk2 ?_
    repeat (first | refine gG ?_ | refine zN1 (fun hlen => ?_) | refine zN2 (fun hlen => ?_) | refine zAp (fun _ => ?_))
    refine lo_add rfl rfl hk3 ?_
    repeat (first | refine gG ?_ | refine zN1 (fun hlen => ?_) | refine zN2 (fun hlen => ?_) | refine zAp (fun _ => ?_))
    refine zPmb (l := b) (k + 2) (k + 2 + n) (by omega) (by omega) ?_
    rw [htk]
    repeat (first | refine gG ?_ | refine zN1 (fun hlen => ?_) | refine zN2 (fun hlen => ?_) | refine zAp (fun _ => ?_))
    refine zStr (r.take n) rfl rfl ?_
    repeat (first | refine gG ?_ | refine zN1 (fun hlen => ?_) | refine zN2 (fun hlen => ?_) | refine zAp (fun _ => ?_))
    refine lo_add rfl rfl (r := ((2 + n : Nat) : Int)) (by rw [IntWalk.i64_in _ (by omega)]; omega) ?_
    repeat (first | refine gG ?_ | refine zN1 (fun hlen => ?_) | refine zN2 (fun hlen => ?_) | refine zAp (fun _ => ?_))
    refine lo_add rfl rfl (r := ((k + (2 + n) : Nat) : Int)) (by rw [IntWalk.i64_in _ (by omega)]; omega) ?_
    repeat (first | refine gG ?_ | refine zN1 (fun hlen => ?_) | refine zN2 (fun hlen => ?_) | refine zAp (fun _ => ?_))
    exact ⟨(k + (2 + n), f, out ++ [r.take n], _), ⟨by simp only; omega, by simp only [List.length_append, List.length_cons, List.length_nil]; omega, by simp only [hdk, List.length_drop]; omega, by rw [hdk, ← hinv]; simp only [List.append_assoc, List.cons_append, List.nil_append, Nat.add_assoc]⟩, by simp only; omega, x_wkd 1 ⟨rfl, rfl, trivial⟩ (by simp only [List.map_append, List.map_cons, List.map_nil, List.length_append, List.length_cons, List.length_nil]; rfl) (by repeat (first | exact ag_refl | refine ag_upd rfl ?_ | refine ag_at rfl rfl ?_))⟩
end Go.Proofs.YthgackidonocpaaGreat
namespace Go.Proofs.YthgackidonocpaaGreat
open Go.RowKit
theorem wayD_eq {t r : List UInt8} {x y : UInt8} {ls : List (List UInt8)} {n : Nat} (h : t = x :: y :: r) (hs : scanS (r.length + 1) r = (ls, n)) : wayD t = if ls.all letOk = true then some ⟨x.toNat, y.toNat, ls.map fun z => (rdLet z).1⟩ else none := by
  subst h
  unfold wayD
  dsimp only
  rw [hs]
theorem wayD_short {t : List UInt8} (h : t.length < 2) : wayD t = none := by
  match t, h with
  | [], _ => rfl
  | [x], _ => rfl
theorem take_in {α : Type} {l : List α} {i n : Nat} {t : α} (ht : l[i]? = some t) (h : i < n) : t ∈ l.take n := by
  refine List.mem_of_getElem? (i := i) ?_
  rw [List.getElem?_take, if_pos h]
  exact ht
theorem drop_in {α : Type} {l : List α} {i n : Nat} {t : α} (ht : l[i]? = some t) (h : ¬ i < n) : t ∈ l.drop n := by
  refine List.mem_of_getElem? (i := i - n) ?_
  rw [List.getElem?_drop, show n + (i - n) = i by omega]
  exact ht
theorem tt_in {α : Type} {l : List α} {i n : Nat} {t : α} (ht : l[i]? = some t) (h : i < n) : (l.take (i + 1)).take n = (l.take i).take n ++ [t] ∧ (l.take (i + 1)).drop n = (l.take i).drop n := by
  have hi : i < l.length := (List.getElem?_eq_some_iff.1 ht).1
  have e : (l.take i).length = i := by rw [List.length_take]; omega
  have e1 : (l.take (i + 1)).length = i + 1 := by rw [List.length_take]; omega
  have a1 : (l.take (i + 1)).take n = l.take (i + 1) := List.take_of_length_le (by omega)
  have a2 : (l.take i).take n = l.take i := List.take_of_length_le (by omega)
  have a3 : (l.take (i + 1)).drop n = [] := List.drop_of_length_le (by omega)
  have a4 : (l.take i).drop n = [] := List.drop_of_length_le (by omega)
  rw [a1, a2, a3, a4, snoc_at ht]
  exact ⟨rfl, rfl⟩
theorem td_in {α : Type} {l : List α} {i n : Nat} {t : α} (ht : l[i]? = some t) (h : ¬ i < n) : (l.take (i + 1)).take n = (l.take i).take n ∧ (l.take (i + 1)).drop n = (l.take i).drop n ++ [t] := by
  have hi : i < l.length := (List.getElem?_eq_some_iff.1 ht).1
  have e : (l.take i).length = i := by rw [List.length_take]; omega
  rw [snoc_at ht, List.take_append_of_le_length (by omega), List.drop_append_of_le_length (by omega)]
  exact ⟨rfl, rfl⟩
theorem scanS_mem : ∀ {f : Nat} {b : List UInt8} {x : List UInt8}, x ∈ (scanS f b).1 → x.length ≤ b.length
  | 0, b, x, h => by rw [scanS] at h; simp at h
  | f + 1, b, x, h => by
    match b, h with
    | [], h => rw [scanS_short (by simp)] at h; simp at h
    | [_], h => rw [scanS_short (by simp)] at h; simp at h
    | p :: q :: r, h =>
      by_cases hc : r.length < 256 * p.toNat + q.toNat
      · rw [scanS_cut hc] at h; simp at h
      · rw [scanS_go hc] at h
        rcases List.mem_cons.1 h with h | h
        · rw [h]
          simp only [List.length_take, List.length_cons]
          omega
        · have := scanS_mem h
          simp only [List.length_drop, List.length_cons] at this ⊢
          omega
theorem docS_none {b : List UInt8} (h : docD b = none) : docS b = (Snp.zero, 3) := by unfold docS; rw [h]
theorem docS_some {b : List UInt8} {s : Snp} (h : docD b = some s) : docS b = if s.err = 0 ∧ s.out = b then (s, 0) else (Snp.zero, 3) := by unfold docS; rw [h]
theorem stW_two (n : Int) (a : UInt8) : IntKind.i64.wrap (IntKind.i64.wrap (n * 256) + (a.toNat : Int)) = stW n a := by
  unfold stW
  simp only [IntKind.wrap_i64]
  omega
set_option maxRecDepth 100000 in
set_option maxHeartbeats 4000000 in
theorem snapOf_af (b : List UInt8) (hb : b.length ≤ 2097152) : AF Tryz.prog 6 [bytRow b] (OutN (docS b).1 (docS b).2) := by
  by_cases h10 : b.length < 10
  · have e : docD b = none := by unfold docD; rw [if_pos h10]
    have d1 : decide ((b.length : Int) < 10) = true := decide_eq_true (by omega)
    rw [docS_none e]
    refine af_enter tok Tryz.func6 Tryz.ntmps6 Tryz.results6 rfl (by kernel_rfl) rfl rfl fun F hX => ?_
    repeat (first | refine gG ?_ | refine zN1 (fun hlen => ?_) | refine zN2 (fun hlen => ?_) | refine zAl (fun _ => ?_) | refine zAp (fun _ => ?_))
    first | refine zR (ts := [Snp.zero.t, .lit (.int .i64 3)]) ?_ | refine zQ (ts := [Snp.zero.t, .lit (.int .i64 3)]) ?_
    rfl
  have d1 : decide ((b.length : Int) < 10) = false := decide_eq_false (by omega)
  obtain ⟨p8, h8⟩ := nth (l := b) (k := 8) (by omega)
  obtain ⟨p9, h9⟩ := nth (l := b) (k := 9) (by omega)
  have e : docD b = match longsS b.length (b.drop 10) with
      | none => none
      | some l => if l.length = p8.toNat + p9.toNat then
          match allS parS (l.take p8.toNat) with
          | none => none
          | some ps => match allS wayD (l.drop p8.toNat) with
            | none => none
            | some ws => some ⟨rdW (b.take 8), ps, ws⟩
        else none := by
    unfold docD
    rw [if_neg h10]
    simp only [List.getD_eq_getElem?_getD, h8, h9, Option.getD_some]
    rfl
  have hlg := longs_af (b.drop 10) b.length (by rw [List.length_drop]; omega) (by rw [List.length_drop]; omega)
  have hmem : ∀ l, longsS b.length (b.drop 10) = some l → ∀ x ∈ l, x.length ≤ 2097152 := fun l hl x hx => by
    have := longsS_mem hl x hx
    rw [List.length_drop] at this
    omega
  generalize longsS b.length (b.drop 10) = ol at *
  have p8n : p8.toNat ≤ 255 := by have := p8.toNat_lt; omega
  have p9n : p9.toNat ≤ 255 := by have := p9.toNat_lt; omega
  have hsum : IntKind.i64.wrap ((p8.toNat : Int) + (p9.toNat : Int)) = ((p8.toNat + p9.toNat : Nat) : Int) := by rw [IntWalk.i64_in _ (by omega)]; omega
  refine af_enter tok Tryz.func6 Tryz.ntmps6 Tryz.results6 rfl (by kernel_rfl) rfl rfl fun F hX => ?_
  repeat (first | refine gG ?_ | refine zN1 (fun hlen => ?_) | refine zN2 (fun hlen => ?_) | refine zAl (fun _ => ?_) | refine zAp (fun _ => ?_))
  rename_i b0 b1
  refine zPlb (l := b) 10 (by omega) ?_
  repeat (first | refine gG ?_ | refine zN1 (fun hlen => ?_) | refine zN2 (fun hlen => ?_) | refine zAl (fun _ => ?_) | refine zAp (fun _ => ?_))
  refine zCall (hlg) ?_
  rintro _ ⟨l, k, rfl, ho⟩
  cases k
  · rw [if_neg (by decide)] at ho
    subst ho
    clear hmem
    dsimp only at e
    repeat (first | refine gG ?_ | refine zN1 (fun hlen => ?_) | refine zN2 (fun hlen => ?_) | refine zAl (fun _ => ?_) | refine zAp (fun _ => ?_))
    refine ac_draw [1, 1, 1, 1, 1, 1, 1, 1, 1, 1, 1, 1, 1, 1, 1, 1] [0, 1, 2, 3, 4, 5, 6, 7, 8, 9, 10, 11, 12, 13, 14, 15] (by kernel_rfl) (by kernel_rfl) ?_
    refine gW ?_
    refine w_nil ?_
    repeat (first | refine gG ?_ | refine zN1 (fun hlen => ?_) | refine zN2 (fun hlen => ?_) | refine zAl (fun _ => ?_) | refine zAp (fun _ => ?_))
    first | refine zR (ts := [Snp.zero.t, .lit (.int .i64 3)]) ?_ | refine zQ (ts := [Snp.zero.t, .lit (.int .i64 3)]) ?_
    rw [docS_none e]
    rfl
  rw [if_pos rfl] at ho
  subst ho
  have hmem := hmem l rfl
  dsimp only at e
  by_cases hll : l.length = p8.toNat + p9.toNat
  rotate_left
  · rw [if_neg hll] at e
    have d2 : decide ((l.length : Int) = ((p8.toNat + p9.toNat : Nat) : Int)) = false := decide_eq_false (by omega)
    clear hmem
    repeat (first | refine gG ?_ | refine zN1 (fun hlen => ?_) | refine zN2 (fun hlen => ?_) | refine zAl (fun _ => ?_) | refine zAp (fun _ => ?_))
    refine ac_draw [1, 1, 1, 1, 1, 1, 1, 1, 1, 1, 1, 1, 1, 1, 1, 1] [0, 1, 2, 3, 4, 5, 6, 7, 8, 9, 10, 11, 12, 13, 14, 15] (by kernel_rfl) (by kernel_rfl) ?_
    refine gW ?_
    try (first | (apply w_un; (focus exact rfl); (focus exact rfl); (focus exact rfl); (focus exact rfl)) | (apply w_no; (focus exact rfl); (focus exact rfl); (focus exact rfl); (focus exact rfl); focus (first | rfl | assumption | exact neg_t (by assumption) | exact neg_f (by assumption))) | (apply w_qg; (focus exact rfl); (focus exact rfl); (focus exact rfl); (focus exact rfl); (focus (first | rfl | assumption | exact neg_t (by assumption) | exact neg_f (by assumption))); (focus (intro _; (refine zN1 (fun hlen => ?_)); exact det_refl))))
    try refine gW ?_
    try (first | (apply w_un; (focus exact rfl); (focus exact rfl); (focus exact rfl); (focus exact rfl)) | (apply w_no; (focus exact rfl); (focus exact rfl); (focus exact rfl); (focus exact rfl); focus (first | rfl | assumption | exact neg_t (by assumption) | exact neg_f (by assumption))) | (apply w_qg; (focus exact rfl); (focus exact rfl); (focus exact rfl); (focus exact rfl); (focus (first | rfl | assumption | exact neg_t (by assumption) | exact neg_f (by assumption))); (focus (intro _; (refine zIx 8 (show 8 < b.length by omega) ?_); exact det_refl))))
    (first | (apply w_un; (focus exact rfl); (focus exact rfl); (focus exact rfl); (focus exact rfl)) | (apply w_no; (focus exact rfl); (focus exact rfl); (focus exact rfl); (focus exact rfl); focus (first | rfl | assumption | exact neg_t (by assumption) | exact neg_f (by assumption))) | (apply w_qg; (focus exact rfl); (focus exact rfl); (focus exact rfl); (focus exact rfl); (focus (first | rfl | assumption | exact neg_t (by assumption) | exact neg_f (by assumption))); (focus (intro _; (refine zEl1 (byt_at h8) ?_); exact det_refl))))
    (first | (apply w_un; (focus exact rfl); (focus exact rfl); (focus exact rfl); (focus exact rfl)) | (apply w_no; (focus exact rfl); (focus exact rfl); (focus exact rfl); (focus exact rfl); focus (first | rfl | assumption | exact neg_t (by assumption) | exact neg_f (by assumption))) | (apply w_qg; (focus exact rfl); (focus exact rfl); (focus exact rfl); (focus exact rfl); (focus (first | rfl | assumption | exact neg_t (by assumption) | exact neg_f (by assumption))); (focus (intro _; (refine lo_conv tok rfl rfl rfl rfl toInt ?_); exact det_refl))))
    try refine gW ?_
    try (first | (apply w_un; (focus exact rfl); (focus exact rfl); (focus exact rfl); (focus exact rfl)) | (apply w_no; (focus exact rfl); (focus exact rfl); (focus exact rfl); (focus exact rfl); focus (first | rfl | assumption | exact neg_t (by assumption) | exact neg_f (by assumption))) | (apply w_qg; (focus exact rfl); (focus exact rfl); (focus exact rfl); (focus exact rfl); (focus (first | rfl | assumption | exact neg_t (by assumption) | exact neg_f (by assumption))); (focus (intro _; (refine zIx 9 (show 9 < b.length by omega) ?_); exact det_refl))))
    (first | (apply w_un; (focus exact rfl); (focus exact rfl); (focus exact rfl); (focus exact rfl)) | (apply w_no; (focus exact rfl); (focus exact rfl); (focus exact rfl); (focus exact rfl); focus (first | rfl | assumption | exact neg_t (by assumption) | exact neg_f (by assumption))) | (apply w_qg; (focus exact rfl); (focus exact rfl); (focus exact rfl); (focus exact rfl); (focus (first | rfl | assumption | exact neg_t (by assumption) | exact neg_f (by assumption))); (focus (intro _; (refine zEl1 (byt_at h9) ?_); exact det_refl))))
    (first | (apply w_un; (focus exact rfl); (focus exact rfl); (focus exact rfl); (focus exact rfl)) | (apply w_no; (focus exact rfl); (focus exact rfl); (focus exact rfl); (focus exact rfl); focus (first | rfl | assumption | exact neg_t (by assumption) | exact neg_f (by assumption))) | (apply w_qg; (focus exact rfl); (focus exact rfl); (focus exact rfl); (focus exact rfl); (focus (first | rfl | assumption | exact neg_t (by assumption) | exact neg_f (by assumption))); (focus (intro _; (refine lo_conv tok rfl rfl rfl rfl toInt ?_); exact det_refl))))
    (first | (apply w_un; (focus exact rfl); (focus exact rfl); (focus exact rfl); (focus exact rfl)) | (apply w_no; (focus exact rfl); (focus exact rfl); (focus exact rfl); (focus exact rfl); focus (first | rfl | assumption | exact neg_t (by assumption) | exact neg_f (by assumption))) | (apply w_qg; (focus exact rfl); (focus exact rfl); (focus exact rfl); (focus exact rfl); (focus (first | rfl | assumption | exact neg_t (by assumption) | exact neg_f (by assumption))); (focus (intro _; (refine lo_add rfl rfl hsum ?_); exact det_refl))))
    try refine gW ?_
    refine w_nil ?_
    repeat (first | refine gG ?_ | refine zN1 (fun hlen => ?_) | refine zN2 (fun hlen => ?_) | refine zAl (fun _ => ?_) | refine zAp (fun _ => ?_))
    first | refine zR (ts := [Snp.zero.t, .lit (.int .i64 3)]) ?_ | refine zQ (ts := [Snp.zero.t, .lit (.int .i64 3)]) ?_
    rw [docS_none e]
    rfl
  rw [if_pos hll] at e
  have d2 : decide ((l.length : Int) = ((p8.toNat + p9.toNat : Nat) : Int)) = true := decide_eq_true (by omega)
  repeat (first | refine gG ?_ | refine zN1 (fun hlen => ?_) | refine zN2 (fun hlen => ?_) | refine zAl (fun _ => ?_) | refine zAp (fun _ => ?_))
  refine ac_draw [1, 1, 1, 1, 1, 1, 1, 1, 1, 1, 1, 1, 1, 1, 1, 1] [0, 1, 2, 3, 4, 5, 6, 7, 8, 9, 10, 11, 12, 13, 14, 15] (by kernel_rfl) (by kernel_rfl) ?_
  refine gW ?_
  try (first | (apply w_un; (focus exact rfl); (focus exact rfl); (focus exact rfl); (focus exact rfl)) | (apply w_no; (focus exact rfl); (focus exact rfl); (focus exact rfl); (focus exact rfl); focus (first | rfl | assumption | exact neg_t (by assumption) | exact neg_f (by assumption))) | (apply w_qg; (focus exact rfl); (focus exact rfl); (focus exact rfl); (focus exact rfl); (focus (first | rfl | assumption | exact neg_t (by assumption) | exact neg_f (by assumption))); (focus (intro _; (refine zN1 (fun hlen => ?_)); exact det_refl))))
  try refine gW ?_
  try (first | (apply w_un; (focus exact rfl); (focus exact rfl); (focus exact rfl); (focus exact rfl)) | (apply w_no; (focus exact rfl); (focus exact rfl); (focus exact rfl); (focus exact rfl); focus (first | rfl | assumption | exact neg_t (by assumption) | exact neg_f (by assumption))) | (apply w_qg; (focus exact rfl); (focus exact rfl); (focus exact rfl); (focus exact rfl); (focus (first | rfl | assumption | exact neg_t (by assumption) | exact neg_f (by assumption))); (focus (intro _; (refine zIx 8 (show 8 < b.length by omega) ?_); exact det_refl))))
  (first | (apply w_un; (focus exact rfl); (focus exact rfl); (focus exact rfl); (focus exact rfl)) | (apply w_no; (focus exact rfl); (focus exact rfl); (focus exact rfl); (focus exact rfl); focus (first | rfl | assumption | exact neg_t (by assumption) | exact neg_f (by assumption))) | (apply w_qg; (focus exact rfl); (focus exact rfl); (focus exact rfl); (focus exact rfl); (focus (first | rfl | assumption | exact neg_t (by assumption) | exact neg_f (by assumption))); (focus (intro _; (refine zEl1 (byt_at h8) ?_); exact det_refl))))
  (first | (apply w_un; (focus exact rfl); (focus exact rfl); (focus exact rfl); (focus exact rfl)) | (apply w_no; (focus exact rfl); (focus exact rfl); (focus exact rfl); (focus exact rfl); focus (first | rfl | assumption | exact neg_t (by assumption) | exact neg_f (by assumption))) | (apply w_qg; (focus exact rfl); (focus exact rfl); (focus exact rfl); (focus exact rfl); (focus (first | rfl | assumption | exact neg_t (by assumption) | exact neg_f (by assumption))); (focus (intro _; (refine lo_conv tok rfl rfl rfl rfl toInt ?_); exact det_refl))))
  try refine gW ?_
  try (first | (apply w_un; (focus exact rfl); (focus exact rfl); (focus exact rfl); (focus exact rfl)) | (apply w_no; (focus exact rfl); (focus exact rfl); (focus exact rfl); (focus exact rfl); focus (first | rfl | assumption | exact neg_t (by assumption) | exact neg_f (by assumption))) | (apply w_qg; (focus exact rfl); (focus exact rfl); (focus exact rfl); (focus exact rfl); (focus (first | rfl | assumption | exact neg_t (by assumption) | exact neg_f (by assumption))); (focus (intro _; (refine zIx 9 (show 9 < b.length by omega) ?_); exact det_refl))))
  (first | (apply w_un; (focus exact rfl); (focus exact rfl); (focus exact rfl); (focus exact rfl)) | (apply w_no; (focus exact rfl); (focus exact rfl); (focus exact rfl); (focus exact rfl); focus (first | rfl | assumption | exact neg_t (by assumption) | exact neg_f (by assumption))) | (apply w_qg; (focus exact rfl); (focus exact rfl); (focus exact rfl); (focus exact rfl); (focus (first | rfl | assumption | exact neg_t (by assumption) | exact neg_f (by assumption))); (focus (intro _; (refine zEl1 (byt_at h9) ?_); exact det_refl))))
  (first | (apply w_un; (focus exact rfl); (focus exact rfl); (focus exact rfl); (focus exact rfl)) | (apply w_no; (focus exact rfl); (focus exact rfl); (focus exact rfl); (focus exact rfl); focus (first | rfl | assumption | exact neg_t (by assumption) | exact neg_f (by assumption))) | (apply w_qg; (focus exact rfl); (focus exact rfl); (focus exact rfl); (focus exact rfl); (focus (first | rfl | assumption | exact neg_t (by assumption) | exact neg_f (by assumption))); (focus (intro _; (refine lo_conv tok rfl rfl rfl rfl toInt ?_); exact det_refl))))
  (first | (apply w_un; (focus exact rfl); (focus exact rfl); (focus exact rfl); (focus exact rfl)) | (apply w_no; (focus exact rfl); (focus exact rfl); (focus exact rfl); (focus exact rfl); focus (first | rfl | assumption | exact neg_t (by assumption) | exact neg_f (by assumption))) | (apply w_qg; (focus exact rfl); (focus exact rfl); (focus exact rfl); (focus exact rfl); (focus (first | rfl | assumption | exact neg_t (by assumption) | exact neg_f (by assumption))); (focus (intro _; (refine lo_add rfl rfl hsum ?_); exact det_refl))))
  try refine gW ?_
  refine w_nil ?_
  repeat (first | refine gG ?_ | refine zN1 (fun hlen => ?_) | refine zN2 (fun hlen => ?_) | refine zAl (fun _ => ?_) | refine zAp (fun _ => ?_))
  rename_i b2
  refine zPhb (l := b) 8 (by omega) ?_
  have hhl : (b.take 8).length = 8 := by rw [List.length_take]; omega
  generalize b.take 8 = hd at *
  repeat (first | refine gG ?_ | refine zN1 (fun hlen => ?_) | refine zN2 (fun hlen => ?_) | refine zAl (fun _ => ?_) | refine zAp (fun _ => ?_))
  refine x_loop [9, 55, 56, 57, 58, 59, 60, 61, 62, 63, 64, 65, 66] (fun k : Nat => [(55, .c (.lit (.int .i64 k)))]) (fun k => [.box b0 26 [.c (.lit (.int .i64 0)), .c (.lit (.slice none 0 0)), .c (.lit (.slice none 0 0))], .box b1 26 [.c (.lit (.int .i64 0)), .c (.lit (.slice none 0 0)), .c (.lit (.slice none 0 0))], .box b2 26 [.c (.lit (.int .i64 (rdW (hd.take k)))), .c (.lit (.slice none 0 0)), .c (.lit (.slice none 0 0))]]) (fun k => k ≤ hd.length) (fun k => hd.length - k) 0 (Nat.zero_le _) ⟨rfl, trivial⟩ rfl ?_
  intro k hk
  repeat (first | refine gG ?_ | refine zN1 (fun hlen => ?_) | refine zN2 (fun hlen => ?_) | refine zAl (fun _ => ?_) | refine zAp (fun _ => ?_))
  refine x_cond rfl (fun h => ?_) (fun h => ?_)
  · have hk' : k < hd.length := by simpa using h
    obtain ⟨a, ha⟩ := nth hk'
    have hsn : rdW (hd.take (k + 1)) = stW (rdW (hd.take k)) a := by rw [snoc_at ha, rdW_snoc]
    repeat (first | refine gG ?_ | refine zN1 (fun hlen => ?_) | refine zN2 (fun hlen => ?_) | refine zAl (fun _ => ?_) | refine zAp (fun _ => ?_))
    refine zIx k hk' ?_
    repeat (first | refine gG ?_ | refine zN1 (fun hlen => ?_) | refine zN2 (fun hlen => ?_) | refine zAl (fun _ => ?_) | refine zAp (fun _ => ?_))
    refine zEl1 (byt_at ha) ?_
    repeat (first | refine gG ?_ | refine zN1 (fun hlen => ?_) | refine zN2 (fun hlen => ?_) | refine zAl (fun _ => ?_) | refine zAp (fun _ => ?_))
    refine lo_mul rfl rfl rfl ?_
    repeat (first | refine gG ?_ | refine zN1 (fun hlen => ?_) | refine zN2 (fun hlen => ?_) | refine zAl (fun _ => ?_) | refine zAp (fun _ => ?_))
    refine lo_conv tok rfl rfl rfl rfl toInt ?_
    repeat (first | refine gG ?_ | refine zN1 (fun hlen => ?_) | refine zN2 (fun hlen => ?_) | refine zAl (fun _ => ?_) | refine zAp (fun _ => ?_))
    refine lo_add rfl rfl (stW_two _ a) ?_
    repeat (first | refine gG ?_ | refine zN1 (fun hlen => ?_) | refine zN2 (fun hlen => ?_) | refine zAl (fun _ => ?_) | refine zAp (fun _ => ?_))
    exact ⟨k + 1, hk', by omega, x_wkd 3 ⟨rfl, trivial⟩ (by rw [hsn]; rfl) (by repeat (first | exact ag_refl | refine ag_upd rfl ?_ | refine ag_at rfl rfl ?_))⟩
  have hk' : k = hd.length := by have : ¬ k < hd.length := by simpa using h
                                 omega
  subst hk'
  rw [List.take_length]
  have htm := rdW_in hd
  generalize rdW hd = tm at *
  clear hk h
  repeat (first | refine gG ?_ | refine zN1 (fun hlen => ?_) | refine zN2 (fun hlen => ?_) | refine zAl (fun _ => ?_) | refine zAp (fun _ => ?_))
  refine x_own_cell 2 1 53 8 rfl rfl rfl rfl rfl rfl ?_
  refine x_own_cell 2 2 57 3 rfl rfl rfl rfl rfl rfl ?_
  refine x_loop [3, 10, 11, 12, 13, 14, 15, 16, 18, 19, 20, 69, 70, 71, 72, 73, 74, 75, 76, 77, 78, 79, 80, 81, 82, 83, 84, 85, 86, 87, 88, 89, 90, 91, 92, 93, 94, 95, 96, 97, 98, 99, 100, 101, 102, 103, 104, 105, 106, 107, 108, 109, 110, 111, 112, 113, 114, 115, 116, 117, 118, 119, 120, 121, 122, 123, 124, 125, 126, 127, 128, 129, 130, 131, 132, 133, 134, 135, 136, 137, 138, 139, 140, 141] (fun s : Nat × List Par × Value × List Wy × Value => [(69, .c (.lit (.int .i64 (s.1 : Nat))))]) (fun s => [.box b0 26 [.c (.lit (.int .i64 0)), .c (.lit (.slice none 0 0)), .c (.lit (.slice none 0 0))], .box b1 26 [.c (.lit (.int .i64 0)), .c (.lit (.slice none 0 0)), .c (.lit (.slice none 0 0))], .box b2 26 [.c (.lit (.int .i64 tm)), .own 3 s.2.2.1, .own 4 s.2.2.2.2], .row s.2.2.1 53 8 s.2.1.length (s.2.1.flatMap Par.ts), .row s.2.2.2.2 57 3 s.2.2.2.1.length (s.2.2.2.1.flatMap Wy.ts)])
    (fun s => s.1 ≤ l.length ∧ allS parS ((l.take s.1).take p8.toNat) = some s.2.1 ∧ allS wayD ((l.take s.1).drop p8.toNat) = some s.2.2.2.1 ∧ s.2.1.length ≤ s.1 ∧ s.2.2.2.1.length ≤ s.1) (fun s => l.length - s.1) (0, [], .slice none 0 0, [], .slice none 0 0) ⟨Nat.zero_le _, by simp [allS], by simp [allS], Nat.le_refl _, Nat.le_refl _⟩ ⟨rfl, trivial⟩ rfl ?_
  rintro ⟨i, ps, v1, ws, v2⟩ ⟨hi, hps, hws, hpl, hwl⟩
  dsimp only at hi hps hws hpl hwl ⊢
  by_cases hie : i = l.length
  · subst hie
    rw [List.take_length] at hps hws
    rw [hps] at e
    dsimp only at e
    rw [hws] at e
    dsimp only at e
    have hB := snapBytes_af _ (docParts_small htm hmem hps hws)
    have e0 := docS_some e
    clear e hps hws hmem hlg
    have d3 : decide ((l.length : Int) < (l.length : Int)) = false := decide_eq_false (by omega)
    generalize (Snp.mk tm ps ws).out = ob at *
    generalize (Snp.mk tm ps ws).err = eb at *
    refine x_fzc 2 1 ?_
    refine x_fzc 2 2 ?_
    repeat (first | refine gG ?_ | refine zN1 (fun hlen => ?_) | refine zN2 (fun hlen => ?_) | refine zAl (fun _ => ?_) | refine zAp (fun _ => ?_))
    refine zCall (hB) ?_
    rintro _ rfl
    cases g1 : decide (eb = 0)
    · repeat (first | refine gG ?_ | refine zN1 (fun hlen => ?_) | refine zN2 (fun hlen => ?_) | refine zAl (fun _ => ?_) | refine zAp (fun _ => ?_))
      first | refine zR (ts := [Snp.zero.t, .lit (.int .i64 3)]) ?_ | refine zQ (ts := [Snp.zero.t, .lit (.int .i64 3)]) ?_
      rw [e0, if_neg (fun h => of_decide_eq_false g1 h.1)]
      rfl
    repeat (first | refine gG ?_ | refine zN1 (fun hlen => ?_) | refine zN2 (fun hlen => ?_) | refine zAl (fun _ => ?_) | refine zAp (fun _ => ?_))
    refine zStr ob rfl rfl ?_
    repeat (first | refine gG ?_ | refine zN1 (fun hlen => ?_) | refine zN2 (fun hlen => ?_) | refine zAl (fun _ => ?_) | refine zAp (fun _ => ?_))
    refine zStr b rfl rfl ?_
    cases g2 : decide (bs ob = bs b)
    · repeat (first | refine gG ?_ | refine zN1 (fun hlen => ?_) | refine zN2 (fun hlen => ?_) | refine zAl (fun _ => ?_) | refine zAp (fun _ => ?_))
      first | refine zR (ts := [Snp.zero.t, .lit (.int .i64 3)]) ?_ | refine zQ (ts := [Snp.zero.t, .lit (.int .i64 3)]) ?_
      rw [e0, if_neg (fun h => of_decide_eq_false g2 (by rw [h.2]))]
      rfl
    · repeat (first | refine gG ?_ | refine zN1 (fun hlen => ?_) | refine zN2 (fun hlen => ?_) | refine zAl (fun _ => ?_) | refine zAp (fun _ => ?_))
      first | refine zR (ts := [(Snp.mk tm ps ws).t, .lit (.int .i64 0)]) ?_ | refine zQ (ts := [(Snp.mk tm ps ws).t, .lit (.int .i64 0)]) ?_
      rw [e0, if_pos ⟨of_decide_eq_true g1, bs_inj (of_decide_eq_true g2)⟩]
      rfl
  have hil : i < l.length := by omega
  obtain ⟨t, ht⟩ := nth hil
  have htl := hmem t (List.mem_of_getElem? ht)
  have htz : (bs t).size ≤ maxLen := by rw [bs_size']; simp only [maxLen]; omega
  have d3 : decide ((i : Int) < (l.length : Int)) = true := decide_eq_true (by omega)
  by_cases hi8 : i < p8.toNat
  · obtain ⟨q1, q2⟩ := tt_in ht hi8
    have hpo := parcelOf_af t htl
    rw [← same_par t htl] at hpo
    have hpt : parS t = if (rdP t).2 = 0 then some (rdP t).1 else none := rfl
    generalize rdP t = q at hpo hpt
    obtain ⟨⟨rf, ⟨ac, st, ip⟩, bx, tk, wt, lk⟩, e0⟩ := q
    dsimp only at hpo hpt
    have hin := take_in ht hi8
    have d4 : decide ((i : Int) < (p8.toNat : Int)) = true := decide_eq_true (by omega)
    cases c1 : decide (e0 = 0)
    · rw [if_neg (of_decide_eq_false c1)] at hpt
      rw [allS_bad hpt hin] at e
      have e1 := docS_none e
      clear e hpt hps hws q1 q2 hmem hlg
      have d3' := d3
      repeat (first | refine gG ?_ | refine zN1 (fun hlen => ?_) | refine zN2 (fun hlen => ?_) | refine zAl (fun _ => ?_) | refine zAp (fun _ => ?_))
      refine zIx i hil ?_
      repeat (first | refine gG ?_ | refine zN1 (fun hlen => ?_) | refine zN2 (fun hlen => ?_) | refine zAl (fun _ => ?_) | refine zAp (fun _ => ?_))
      refine zEl1 (map_at strT ht) ?_
      repeat (first | refine gG ?_ | refine zN1 (fun hlen => ?_) | refine zN2 (fun hlen => ?_) | refine zAl (fun _ => ?_) | refine zAp (fun _ => ?_))
      refine zIx 8 (show 8 < b.length by omega) ?_
      repeat (first | refine gG ?_ | refine zN1 (fun hlen => ?_) | refine zN2 (fun hlen => ?_) | refine zAl (fun _ => ?_) | refine zAp (fun _ => ?_))
      refine zEl1 (byt_at h8) ?_
      repeat (first | refine gG ?_ | refine zN1 (fun hlen => ?_) | refine zN2 (fun hlen => ?_) | refine zAl (fun _ => ?_) | refine zAp (fun _ => ?_))
      refine lo_conv tok rfl rfl rfl rfl toInt ?_
      repeat (first | refine gG ?_ | refine zN1 (fun hlen => ?_) | refine zN2 (fun hlen => ?_) | refine zAl (fun _ => ?_) | refine zAp (fun _ => ?_))
      refine zByt (s := bs t) htz ?_
      repeat (first | refine gG ?_ | refine zN1 (fun hlen => ?_) | refine zN2 (fun hlen => ?_) | refine zAl (fun _ => ?_) | refine zAp (fun _ => ?_))
      refine zCall (hpo) ?_
      rintro _ rfl
      repeat (first | refine gG ?_ | refine zN1 (fun hlen => ?_) | refine zN2 (fun hlen => ?_) | refine zAl (fun _ => ?_) | refine zAp (fun _ => ?_))
      first | refine zR (ts := [Snp.zero.t, .lit (.int .i64 3)]) ?_ | refine zQ (ts := [Snp.zero.t, .lit (.int .i64 3)]) ?_
      rw [e1]
      rfl
    · rw [if_pos (of_decide_eq_true c1)] at hpt
      have n1 := allS_snoc hpt hps
      rw [← q1] at n1
      rw [← q2] at hws
      clear hpt hps q1 q2 hlg e hmem
      have d3' := d3
      repeat (first | refine gG ?_ | refine zN1 (fun hlen => ?_) | refine zN2 (fun hlen => ?_) | refine zAl (fun _ => ?_) | refine zAp (fun _ => ?_))
      refine zIx i hil ?_
      repeat (first | refine gG ?_ | refine zN1 (fun hlen => ?_) | refine zN2 (fun hlen => ?_) | refine zAl (fun _ => ?_) | refine zAp (fun _ => ?_))
      refine zEl1 (map_at strT ht) ?_
      repeat (first | refine gG ?_ | refine zN1 (fun hlen => ?_) | refine zN2 (fun hlen => ?_) | refine zAl (fun _ => ?_) | refine zAp (fun _ => ?_))
      refine zIx 8 (show 8 < b.length by omega) ?_
      repeat (first | refine gG ?_ | refine zN1 (fun hlen => ?_) | refine zN2 (fun hlen => ?_) | refine zAl (fun _ => ?_) | refine zAp (fun _ => ?_))
      refine zEl1 (byt_at h8) ?_
      repeat (first | refine gG ?_ | refine zN1 (fun hlen => ?_) | refine zN2 (fun hlen => ?_) | refine zAl (fun _ => ?_) | refine zAp (fun _ => ?_))
      refine lo_conv tok rfl rfl rfl rfl toInt ?_
      repeat (first | refine gG ?_ | refine zN1 (fun hlen => ?_) | refine zN2 (fun hlen => ?_) | refine zAl (fun _ => ?_) | refine zAp (fun _ => ?_))
      refine zByt (s := bs t) htz ?_
      repeat (first | refine gG ?_ | refine zN1 (fun hlen => ?_) | refine zN2 (fun hlen => ?_) | refine zAl (fun _ => ?_) | refine zAp (fun _ => ?_))
      refine zCall (hpo) ?_
      rintro _ rfl
      repeat (first | refine gG ?_ | refine zN1 (fun hlen => ?_) | refine zN2 (fun hlen => ?_) | refine zAl (fun _ => ?_) | refine zAp (fun _ => ?_))
      exact ⟨(i + 1, ps ++ [⟨rf, ⟨ac, st, ip⟩, bx, tk, wt, lk⟩], _, ws, v2), ⟨hil, n1, hws, by simp only [List.length_append, List.length_cons, List.length_nil]; omega, by simp only; omega⟩, by simp only; omega, x_wkd 5 ⟨rfl, trivial⟩ (by simp only [List.flatMap_append, List.flatMap_cons, List.flatMap_nil, List.append_nil, List.length_append, List.length_cons, List.length_nil]; rfl) (by repeat (first | exact ag_refl | refine ag_upd rfl ?_ | refine ag_at rfl rfl ?_))⟩
  have d4 : decide ((i : Int) < (p8.toNat : Int)) = false := decide_eq_false (by omega)
  obtain ⟨q1, q2⟩ := td_in ht hi8
  have hin := drop_in ht hi8
  have hbadw : wayD t = none → docS b = (Snp.zero, 3) := fun hn => by
    have hq : ∀ (o : Option (List Par)), (match o with
        | none => none
        | some ps => match allS wayD (l.drop p8.toNat) with
          | none => none
          | some ws => some (Snp.mk tm ps ws)) = none := fun o => by
      cases o with
      | none => rfl
      | some ps => dsimp only; rw [allS_bad hn hin]
    rw [hq] at e
    exact docS_none e
  have hsz : ((bs t).size : Int) = (t.length : Int) := by rw [bs_size']
  by_cases h2 : t.length < 2
  · have e1 := hbadw (wayD_short h2)
    have d5 : decide (((bs t).size : Int) < 2) = true := decide_eq_true (by omega)
    clear e hbadw hps hws q1 q2 hmem hlg
    have d3' := d3
    repeat (first | refine gG ?_ | refine zN1 (fun hlen => ?_) | refine zN2 (fun hlen => ?_) | refine zAl (fun _ => ?_) | refine zAp (fun _ => ?_))
    refine zIx i hil ?_
    repeat (first | refine gG ?_ | refine zN1 (fun hlen => ?_) | refine zN2 (fun hlen => ?_) | refine zAl (fun _ => ?_) | refine zAp (fun _ => ?_))
    refine zEl1 (map_at strT ht) ?_
    repeat (first | refine gG ?_ | refine zN1 (fun hlen => ?_) | refine zN2 (fun hlen => ?_) | refine zAl (fun _ => ?_) | refine zAp (fun _ => ?_))
    refine zIx 8 (show 8 < b.length by omega) ?_
    repeat (first | refine gG ?_ | refine zN1 (fun hlen => ?_) | refine zN2 (fun hlen => ?_) | refine zAl (fun _ => ?_) | refine zAp (fun _ => ?_))
    refine zEl1 (byt_at h8) ?_
    repeat (first | refine gG ?_ | refine zN1 (fun hlen => ?_) | refine zN2 (fun hlen => ?_) | refine zAl (fun _ => ?_) | refine zAp (fun _ => ?_))
    refine lo_conv tok rfl rfl rfl rfl toInt ?_
    repeat (first | refine gG ?_ | refine zN1 (fun hlen => ?_) | refine zN2 (fun hlen => ?_) | refine zAl (fun _ => ?_) | refine zAp (fun _ => ?_))
    first | refine zR (ts := [Snp.zero.t, .lit (.int .i64 3)]) ?_ | refine zQ (ts := [Snp.zero.t, .lit (.int .i64 3)]) ?_
    rw [e1]
    rfl
  have d5 : decide (((bs t).size : Int) < 2) = false := decide_eq_false (by omega)
  obtain ⟨x, y, r, hxyr⟩ : ∃ x y r, t = x :: y :: r := by
    rcases t with _ | ⟨x, _ | ⟨y, r⟩⟩
    · simp at h2
    · simp at h2
    · exact ⟨_, _, _, rfl⟩
  have hx : t[0]? = some x := by rw [hxyr]; rfl
  have hy : t[1]? = some y := by rw [hxyr]; rfl
  have hdr : t.drop 2 = r := by rw [hxyr]; rfl
  have hrl : r.length ≤ 2097152 := by rw [hxyr] at htl; simp only [List.length_cons] at htl; omega
  have hrz : (bs r).size ≤ maxLen := by rw [bs_size']; simp only [maxLen]; omega
  have hsc := scanned_af r hrl
  have hsl := scanS_len (r.length + 1) r
  have hsm := fun x (h : x ∈ (scanS (r.length + 1) r).1) => scanS_mem h
  rcases hls : scanS (r.length + 1) r with ⟨ls, n⟩
  rw [hls] at hsc hsl hsm
  dsimp only at hsc hsl hsm
  have hwt := wayD_eq hxyr hls
  clear hxyr hls hmem hlg
  repeat (first | refine gG ?_ | refine zN1 (fun hlen => ?_) | refine zN2 (fun hlen => ?_) | refine zAl (fun _ => ?_) | refine zAp (fun _ => ?_))
  refine zIx i hil ?_
  repeat (first | refine gG ?_ | refine zN1 (fun hlen => ?_) | refine zN2 (fun hlen => ?_) | refine zAl (fun _ => ?_) | refine zAp (fun _ => ?_))
  refine zEl1 (map_at strT ht) ?_
  repeat (first | refine gG ?_ | refine zN1 (fun hlen => ?_) | refine zN2 (fun hlen => ?_) | refine zAl (fun _ => ?_) | refine zAp (fun _ => ?_))
  refine zIx 8 (show 8 < b.length by omega) ?_
  repeat (first | refine gG ?_ | refine zN1 (fun hlen => ?_) | refine zN2 (fun hlen => ?_) | refine zAl (fun _ => ?_) | refine zAp (fun _ => ?_))
  refine zEl1 (byt_at h8) ?_
  repeat (first | refine gG ?_ | refine zN1 (fun hlen => ?_) | refine zN2 (fun hlen => ?_) | refine zAl (fun _ => ?_) | refine zAp (fun _ => ?_))
  refine lo_conv tok rfl rfl rfl rfl toInt ?_
  repeat (first | refine gG ?_ | refine zN1 (fun hlen => ?_) | refine zN2 (fun hlen => ?_) | refine zAl (fun _ => ?_) | refine zAp (fun _ => ?_))
  refine ac_draw [1, 1, 1, 1, 1, 1, 1, 3, 2] [0, 1, 2, 3, 4, 5, 6, 7, 8] (by kernel_rfl) (by kernel_rfl) ?_
  refine gW ?_
  apply w_q; (focus exact rfl); (focus exact rfl); focus (intro _; (refine zSix (l := t) 0 hx ?_); exact det_refl)
  apply w_q; (focus exact rfl); (focus exact rfl); focus (intro _; (refine lo_conv tok rfl rfl rfl rfl toInt ?_); exact det_refl)
  refine gW ?_
  apply w_q; (focus exact rfl); (focus exact rfl); focus (intro _; (refine zSix (l := t) 1 hy ?_); exact det_refl)
  apply w_q; (focus exact rfl); (focus exact rfl); focus (intro _; (refine lo_conv tok rfl rfl rfl rfl toInt ?_); exact det_refl)
  refine gW ?_
  apply w_a; (focus exact rfl); (focus exact rfl); refine v_alloc tok rfl rfl rfl (fun _ => rfl) (fun _ => ⟨⟨_, rfl⟩, ?_⟩)
  apply w_l; (focus exact rfl); (focus exact rfl); (first | (refine zkL ?_; first | refine zL1 ?_ | refine zL2 ?_ | refine zL3 ?_ | refine zLp ?_) | refine zM ?_ | (refine zkF ?_; first | refine zF1 ?_ | refine zF2 ?_ | refine zF3 ?_) | refine zA ?_ | (refine zkB ?_; first | refine zC5 ?_ | refine zC6 ?_ | refine zC1 ?_ | refine zC2 ?_ | refine zC3 ?_ | refine zC4 ?_ | refine zS5 ?_ | refine zS6 ?_ | refine zS1 ?_ | refine zS2 ?_ | refine zS3 ?_ | refine zS4 ?_ | refine zInc ?_ | refine zQ1 ?_ | refine zQ2 ?_ | refine zQ3 ?_ | refine zQ4 ?_ | refine zQ5 ?_ | refine zQ6 ?_) | (refine zkI ?_; first | refine zN1 (fun hlen => ?_) | refine zN2 (fun hlen => ?_) | refine zN3 ?_ | refine zN4 ?_ | refine zAp (fun _ => ?_)) | refine zS ?_ | refine zAl (fun _ => ?_) | refine zBx (fun _ => ?_) | refine zPt ?_ | refine zPf ?_ | refine zE ?_ | refine zEA ?_ | refine zNot ?_ | refine zBd ?_ | refine zBs ?_ | refine zFn ?_ | refine zK1 ?_ | refine zK2 ?_)
  refine w_nil ?_
  repeat (first | refine gG ?_ | refine zN1 (fun hlen => ?_) | refine zN2 (fun hlen => ?_) | refine zAl (fun _ => ?_) | refine zAp (fun _ => ?_))
  refine zSpl (l := t) 2 (by omega) ?_
  rw [hdr]
  repeat (first | refine gG ?_ | refine zN1 (fun hlen => ?_) | refine zN2 (fun hlen => ?_) | refine zAl (fun _ => ?_) | refine zAp (fun _ => ?_))
  refine zByt (s := bs r) hrz ?_
  repeat (first | refine gG ?_ | refine zN1 (fun hlen => ?_) | refine zN2 (fun hlen => ?_) | refine zAl (fun _ => ?_) | refine zAp (fun _ => ?_))
  refine zCall (hsc) ?_
  rintro _ rfl
  repeat (first | refine gG ?_ | refine zN1 (fun hlen => ?_) | refine zN2 (fun hlen => ?_) | refine zAl (fun _ => ?_) | refine zAp (fun _ => ?_))
  rename_i b3
  refine x_own_cell 5 2 63 9 rfl rfl rfl rfl rfl rfl ?_
  refine x_loop [3, 18, 19, 20, 115, 116, 117, 118, 119, 120, 121, 122, 123, 124, 125, 126, 127, 128, 129, 130, 131, 132, 133, 134] (fun s : Nat × List Lt × Value => [(115, .c (.lit (.int .i64 (s.1 : Nat))))]) (fun s => [.box b0 26 [.c (.lit (.int .i64 0)), .c (.lit (.slice none 0 0)), .c (.lit (.slice none 0 0))], .box b1 26 [.c (.lit (.int .i64 0)), .c (.lit (.slice none 0 0)), .c (.lit (.slice none 0 0))], .box b2 26 [.c (.lit (.int .i64 tm)), .own 3 v1, .own 4 v2], .row v1 53 8 ps.length (ps.flatMap Par.ts), .row v2 57 3 ws.length (ws.flatMap Wy.ts), .box b3 57 [.c (.lit (.int .i64 (x.toNat : Int))), .c (.lit (.int .i64 (y.toNat : Int))), .own 6 s.2.2], .row s.2.2 63 9 s.2.1.length (s.2.1.flatMap Lt.ts)])
    (fun s => s.1 ≤ ls.length ∧ s.2.1 = (ls.take s.1).map (fun z => (rdLet z).1) ∧ (ls.take s.1).all letOk = true) (fun s => ls.length - s.1) (0, [], .slice none 0 0) ⟨Nat.zero_le _, rfl, rfl⟩ ⟨rfl, trivial⟩ rfl ?_
  rintro ⟨k, out, v⟩ ⟨hk, hou, hall⟩
  dsimp only at hk hou hall ⊢
  by_cases hke : k = ls.length
  · subst hke
    rw [List.take_length] at hou hall
    rw [if_pos hall, ← hou] at hwt
    have n2 := allS_snoc hwt hws
    rw [← q2] at n2
    rw [← q1] at hps
    clear hwt hws q1 q2 e hbadw hall
    have d6 : decide ((ls.length : Int) < (ls.length : Int)) = false := decide_eq_false (by omega)
    refine x_fzc 5 2 ?_
    repeat (first | refine gG ?_ | refine zN1 (fun hlen => ?_) | refine zN2 (fun hlen => ?_) | refine zAl (fun _ => ?_) | refine zAp (fun _ => ?_))
    exact ⟨(i + 1, ps, v1, ws ++ [⟨x.toNat, y.toNat, out⟩], _), ⟨hil, hps, n2, by simp only; omega, by simp only [List.length_append, List.length_cons, List.length_nil]; omega⟩, by simp only; omega, x_wkd 5 ⟨rfl, trivial⟩ (by simp only [List.flatMap_append, List.flatMap_cons, List.flatMap_nil, List.append_nil, List.length_append, List.length_cons, List.length_nil]; rfl) (by repeat (first | exact ag_refl | refine ag_upd rfl ?_ | refine ag_at rfl rfl ?_))⟩
  · have hk' : k < ls.length := by omega
    obtain ⟨a, ha⟩ := nth hk'
    have hol : out.length ≤ 2097152 := by rw [hou, List.length_map, List.length_take]; omega
    have hal := letterOf_af a
    have haz : (bs a).size ≤ maxLen := by
      have := hsm a (List.mem_of_getElem? ha)
      rw [bs_size']
      simp only [maxLen]
      omega
    rw [← same_letter a] at hal
    have hok : letOk a = decide ((rdLet a).2 = 0) := rfl
    rcases hq : rdLet a with ⟨⟨ka, fa, ta, na, sa, ⟨kv, nv, tv, lv⟩⟩, e0⟩
    rw [hq] at hal hok
    dsimp only at hal hok
    clear e hps hws q1 q2
    have d6 : decide ((k : Int) < (ls.length : Int)) = true := decide_eq_true (by omega)
    repeat (first | refine gG ?_ | refine zN1 (fun hlen => ?_) | refine zN2 (fun hlen => ?_) | refine zAl (fun _ => ?_) | refine zAp (fun _ => ?_))
    refine zIx k hk' ?_
    repeat (first | refine gG ?_ | refine zN1 (fun hlen => ?_) | refine zN2 (fun hlen => ?_) | refine zAl (fun _ => ?_) | refine zAp (fun _ => ?_))
    refine zEl1 (map_at strT ha) ?_
    repeat (first | refine gG ?_ | refine zN1 (fun hlen => ?_) | refine zN2 (fun hlen => ?_) | refine zAl (fun _ => ?_) | refine zAp (fun _ => ?_))
    refine zByt (s := bs a) haz ?_
    repeat (first | refine gG ?_ | refine zN1 (fun hlen => ?_) | refine zN2 (fun hlen => ?_) | refine zAl (fun _ => ?_) | refine zAp (fun _ => ?_))
    refine zCall (hal) ?_
    rintro _ rfl
    cases c1 : decide (e0 = 0)
    · rw [c1] at hok
      rw [if_neg (all_badB ha hok)] at hwt
      have e1 := hbadw hwt
      clear hwt hbadw
      have c1' := c1
      repeat (first | refine gG ?_ | refine zN1 (fun hlen => ?_) | refine zN2 (fun hlen => ?_) | refine zAl (fun _ => ?_) | refine zAp (fun _ => ?_))
      first | refine zR (ts := [Snp.zero.t, .lit (.int .i64 3)]) ?_ | refine zQ (ts := [Snp.zero.t, .lit (.int .i64 3)]) ?_
      rw [e1]
      rfl
    · clear hwt hbadw
      have c1' := c1
      repeat (first | refine gG ?_ | refine zN1 (fun hlen => ?_) | refine zN2 (fun hlen => ?_) | refine zAl (fun _ => ?_) | refine zAp (fun _ => ?_))
      exact ⟨(k + 1, out ++ [.mk ka fa ta na sa (.mk kv nv tv lv)], _), ⟨hk', by rw [snoc_at ha, List.map_append, hou]; simp [hq], all_snocB ha hall (by rw [hok, c1])⟩, by simp only; omega, x_wkd 7 ⟨rfl, trivial⟩ (by simp only [List.flatMap_append, List.flatMap_cons, List.flatMap_nil, List.append_nil, List.length_append, List.length_cons, List.length_nil]; rfl) (by repeat (first | exact ag_refl | refine ag_upd rfl ?_ | refine ag_at rfl rfl ?_))⟩
end Go.Proofs.YthgackidonocpaaGreat
namespace Go.Proofs.YthgackidonocpaaGreat
open Go.RowKit
set_option maxRecDepth 100000 in
set_option maxHeartbeats 1000000 in
theorem eqPars_af (f : FuncId) (l : List Par) (hf : ∀ a ∈ l, AF Tryz.prog f [.agg (Par.ts a), .agg (Par.ts a)] (· = .lit (.bool true))) :
    AF Tryz.prog 20 [parRow l, parRow l, .fn (.func f) []] (· = .lit (.bool true)) := by
  have e0 : decide ((l.length : Int) = (l.length : Int)) = true := by simp
  refine af_enter tok Tryz.func20 Tryz.ntmps20 Tryz.results20 rfl (by kernel_rfl) rfl rfl fun F hX => ?_
  repeat (first | refine gG ?_ | refine zN1 (fun hlen => ?_) | refine zN2 (fun hlen => ?_) | refine zAl (fun _ => ?_))
  refine x_loop [6, 7, 8, 9, 17, 18, 19, 20, 21, 22, 23, 24, 25, 26, 27, 28, 29, 30, 31] (fun k : Nat => [(17, .c (.lit (.int .i64 k)))]) (fun _ => []) (fun k => k ≤ l.length) (fun k => l.length - k) 0 (Nat.zero_le _) ⟨rfl, trivial⟩ rfl fun k hk => ?_
  repeat (first | refine gG ?_ | refine zN1 (fun hlen => ?_) | refine zN2 (fun hlen => ?_) | refine zAl (fun _ => ?_))
  refine x_cond rfl (fun h => ?_) (fun h => ?_)
  · have hk' : k < l.length := by simpa using h
    obtain ⟨a, ha⟩ := nth hk'
    have hp := hf a (List.mem_of_getElem? ha)
    repeat (first | refine gG ?_ | refine zN1 (fun hlen => ?_) | refine zN2 (fun hlen => ?_) | refine zAl (fun _ => ?_))
    refine zIx (k) (hk') ?_
    repeat (first | refine gG ?_ | refine zN1 (fun hlen => ?_) | refine zN2 (fun hlen => ?_) | refine zAl (fun _ => ?_))
    refine zEl (flat_at Par.ts 8 Par.ts_len ha) (Par.ts_len a) ?_
    obtain ⟨rf, ⟨ac, st, ip⟩, bx, tk, wt, lk⟩ := a
    repeat (first | refine gG ?_ | refine zN1 (fun hlen => ?_) | refine zN2 (fun hlen => ?_) | refine zAl (fun _ => ?_))
    refine zIx (k) (hk') ?_
    repeat (first | refine gG ?_ | refine zN1 (fun hlen => ?_) | refine zN2 (fun hlen => ?_) | refine zAl (fun _ => ?_))
    refine zEl (flat_at Par.ts 8 Par.ts_len ha) (Par.ts_len _) ?_
    repeat (first | refine gG ?_ | refine zN1 (fun hlen => ?_) | refine zN2 (fun hlen => ?_) | refine zAl (fun _ => ?_))
    refine zCallc (hp) ?_
    rintro _ rfl
    repeat (first | refine gG ?_ | refine zN1 (fun hlen => ?_) | refine zN2 (fun hlen => ?_) | refine zAl (fun _ => ?_))
    exact ⟨k + 1, hk', by omega, x_wkd 0 ⟨rfl, trivial⟩ rfl (by repeat (first | exact ag_refl | refine ag_upd rfl ?_ | refine ag_at rfl rfl ?_))⟩
  · repeat (first | refine gG ?_ | refine zN1 (fun hlen => ?_) | refine zN2 (fun hlen => ?_) | refine zAl (fun _ => ?_))
    first | refine zR ?_ | refine zQ ?_
    rfl
set_option maxRecDepth 100000 in
set_option maxHeartbeats 1000000 in
theorem eqWays_af (f : FuncId) (l : List Wy) (hf : ∀ a ∈ l, AF Tryz.prog f [.agg (Wy.ts a), .agg (Wy.ts a)] (· = .lit (.bool true))) :
    AF Tryz.prog 22 [wayRow l, wayRow l, .fn (.func f) []] (· = .lit (.bool true)) := by
  have e0 : decide ((l.length : Int) = (l.length : Int)) = true := by simp
  refine af_enter tok Tryz.func22 Tryz.ntmps22 Tryz.results22 rfl (by kernel_rfl) rfl rfl fun F hX => ?_
  repeat (first | refine gG ?_ | refine zN1 (fun hlen => ?_) | refine zN2 (fun hlen => ?_) | refine zAl (fun _ => ?_))
  refine x_loop [6, 7, 8, 9, 17, 18, 19, 20, 21, 22, 23, 24, 25, 26, 27, 28, 29, 30, 31] (fun k : Nat => [(17, .c (.lit (.int .i64 k)))]) (fun _ => []) (fun k => k ≤ l.length) (fun k => l.length - k) 0 (Nat.zero_le _) ⟨rfl, trivial⟩ rfl fun k hk => ?_
  repeat (first | refine gG ?_ | refine zN1 (fun hlen => ?_) | refine zN2 (fun hlen => ?_) | refine zAl (fun _ => ?_))
  refine x_cond rfl (fun h => ?_) (fun h => ?_)
  · have hk' : k < l.length := by simpa using h
    obtain ⟨a, ha⟩ := nth hk'
    have hp := hf a (List.mem_of_getElem? ha)
    repeat (first | refine gG ?_ | refine zN1 (fun hlen => ?_) | refine zN2 (fun hlen => ?_) | refine zAl (fun _ => ?_))
    refine zIx (k) (hk') ?_
    repeat (first | refine gG ?_ | refine zN1 (fun hlen => ?_) | refine zN2 (fun hlen => ?_) | refine zAl (fun _ => ?_))
    refine zEl (flat_at Wy.ts 3 Wy.ts_len ha) (Wy.ts_len a) ?_
    obtain ⟨fr, to, wl⟩ := a
    repeat (first | refine gG ?_ | refine zN1 (fun hlen => ?_) | refine zN2 (fun hlen => ?_) | refine zAl (fun _ => ?_))
    refine zIx (k) (hk') ?_
    repeat (first | refine gG ?_ | refine zN1 (fun hlen => ?_) | refine zN2 (fun hlen => ?_) | refine zAl (fun _ => ?_))
    refine zEl (flat_at Wy.ts 3 Wy.ts_len ha) (Wy.ts_len _) ?_
    repeat (first | refine gG ?_ | refine zN1 (fun hlen => ?_) | refine zN2 (fun hlen => ?_) | refine zAl (fun _ => ?_))
    refine zCallc (hp) ?_
    rintro _ rfl
    repeat (first | refine gG ?_ | refine zN1 (fun hlen => ?_) | refine zN2 (fun hlen => ?_) | refine zAl (fun _ => ?_))
    exact ⟨k + 1, hk', by omega, x_wkd 0 ⟨rfl, trivial⟩ rfl (by repeat (first | exact ag_refl | refine ag_upd rfl ?_ | refine ag_at rfl rfl ?_))⟩
  · repeat (first | refine gG ?_ | refine zN1 (fun hlen => ?_) | refine zN2 (fun hlen => ?_) | refine zAl (fun _ => ?_))
    first | refine zR ?_ | refine zQ ?_
    rfl
set_option maxRecDepth 100000 in
set_option maxHeartbeats 4000000 in
theorem sameWay_af (w : Wy) : AF Tryz.prog 23 [.agg (Wy.ts w), .agg (Wy.ts w)] (· = .lit (.bool true)) := by
  have h1 := eqLets_af 25 w.lets fun a _ => sameLetter_af a
  obtain ⟨fr, to, wl⟩ := w
  dsimp only at h1
  have e1 : decide (fr = fr) = true := by simp
  have e2 : decide (to = to) = true := by simp
  refine af_enter tok Tryz.func23 Tryz.ntmps23 Tryz.results23 rfl (by kernel_rfl) rfl rfl fun F hX => ?_
  repeat (first | refine gG ?_ | refine zBf ?_)
  refine zCall (h1) ?_
  rintro _ rfl
  repeat (first | refine gG ?_ | refine zBx (fun _ => ?_))
  first | refine zR ?_ | refine zQ ?_
  rfl
set_option maxRecDepth 100000 in
set_option maxHeartbeats 4000000 in
theorem sameSnap_af (s : Snp) : AF Tryz.prog 7 [s.t, s.t] (· = .lit (.bool true)) := by
  have h1 := eqPars_af 21 s.pars fun a _ => sameParcel_af a
  have h2 := eqWays_af 23 s.ways fun a _ => sameWay_af a
  obtain ⟨tm, ps, ws⟩ := s
  dsimp only at h1 h2
  have e1 : decide (tm = tm) = true := by simp
  refine af_enter tok Tryz.func7 Tryz.ntmps7 Tryz.results7 rfl (by kernel_rfl) rfl rfl fun F hX => ?_
  repeat (first | refine gG ?_ | refine zBf ?_)
  refine zCall (h1) ?_
  rintro _ rfl
  repeat (first | refine gG ?_ | refine zBx (fun _ => ?_))
  refine zCall (h2) ?_
  rintro _ rfl
  repeat (first | refine gG ?_ | refine zBx (fun _ => ?_))
  first | refine zR ?_ | refine zQ ?_
  rfl
end Go.Proofs.YthgackidonocpaaGreat
