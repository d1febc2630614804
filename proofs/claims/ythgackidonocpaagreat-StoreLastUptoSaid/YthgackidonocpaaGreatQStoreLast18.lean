/-
  Texts of this proof, part 18: Txr Txv Txw Txs Txo.
-/
import Derived.Test.YthgackidonocpaaGreatQStoreLast17
import Derived.MapKept
namespace Go.Proofs.YthgackidonocpaaGreat
open Go.RowKit
theorem toInt {a : UInt8} : IntKind.i64.wrap (a.toNat : Int) = (a.toNat : Int) := by rw [IntWalk.i64_in _ (by have := a.toNat_lt; omega)]
theorem or_low (q b : Nat) (h : b < 256) : 256 * q ||| b = 256 * q + b := (Nat.two_pow_add_eq_or_of_lt (i := 8) h q).symm
theorem or8 (n : Int) (a : UInt8) : IntKind.i64.wrap ((((IntKind.i64.wrap (n * 2 ^ (min (8 : Int).toNat IntKind.i64.bits))) % 2 ^ IntKind.i64.bits).toNat ||| ((a.toNat : Int) % 2 ^ IntKind.i64.bits).toNat : Nat) : Int) = stW n a := by
  have e1 : (2 : Int) ^ (min (8 : Int).toNat IntKind.i64.bits) = 256 := rfl
  have e2 : (2 : Int) ^ IntKind.i64.bits = 18446744073709551616 := rfl
  have ha := a.toNat_lt
  rw [e1, e2]
  unfold stW
  simp only [IntKind.wrap_i64]
  have h2 : ((a.toNat : Int) % 18446744073709551616).toNat = a.toNat := by omega
  rw [h2]
  generalize a.toNat = b at *
  obtain ⟨q, hq⟩ : ∃ q : Nat, ((((n * 256 + 9223372036854775808) % 18446744073709551616 - 9223372036854775808) % 18446744073709551616).toNat) = 256 * q := ⟨((n * 256) % 18446744073709551616).toNat / 256, by omega⟩
  rw [hq, or_low q b (by omega)]
  omega
set_option maxRecDepth 100000 in
set_option maxHeartbeats 4000000 in
theorem cloneB_af (l : List UInt8) (hl : l.length ≤ 100000000000000) : AF Tryz.prog 89 [bytRow l] (· = bytRow l) := by
  refine af_enter tok Tryz.func89 Tryz.ntmps89 Tryz.results89 rfl (by kernel_rfl) rfl rfl fun F hX => ?_
  repeat (first | refine gG ?_ | refine zAp (fun _ => ?_))
  refine zNs (fun b hb => ?_)
  cases b
  · repeat (first | refine gX ?_ | refine zAp (fun _ => ?_))
    refine zBo (fun _ => ?_)
    repeat (first | refine gG ?_ | refine zAp (fun _ => ?_))
    first | refine zR ?_ | refine zQ ?_
    rw [List.nil_append]; simp only [bytRow, Nat.zero_add]; rfl
  · have h0 := hb rfl
    have : l = [] := List.eq_nil_of_length_eq_zero h0
    subst this
    repeat (first | refine gG ?_ | refine zAp (fun _ => ?_))
    first | refine zR (ts := [bytRow []]) ?_ | refine zQ (ts := [bytRow []]) ?_
    rfl
set_option maxRecDepth 100000 in
set_option maxHeartbeats 4000000 in
theorem readN_af (l : List UInt8) : AF Tryz.prog 36 [bytRow l] (· = .lit (.int .i64 (rdW l))) := by
  refine af_enter tok Tryz.func36 Tryz.ntmps36 Tryz.results36 rfl (by kernel_rfl) rfl rfl fun F hX => ?_
  repeat (first | refine gG ?_ | refine zN1 (fun hlen => ?_) | refine zN2 (fun hlen => ?_))
  refine x_loop [3, 5, 8, 9, 10, 11, 12, 13, 14, 15, 16, 17] (fun k : Nat => [(8, .c (.lit (.int .i64 k))), (3, .c (.lit (.int .i64 (rdW (l.take k)))))]) (fun _ => []) (fun k => k ≤ l.length) (fun k => l.length - k) 0 (Nat.zero_le _) ⟨rfl, rfl, trivial⟩ rfl ?_
  intro k hk
  repeat (first | refine gG ?_ | refine zN1 (fun hlen => ?_) | refine zN2 (fun hlen => ?_))
  refine x_cond rfl (fun h => ?_) (fun h => ?_)
  · have hk' : k < l.length := by simpa using h
    obtain ⟨a, ha⟩ := nth hk'
    have hsn : rdW (l.take (k + 1)) = stW (rdW (l.take k)) a := by rw [snoc_at ha, rdW_snoc]
    repeat (first | refine gG ?_ | refine zN1 (fun hlen => ?_) | refine zN2 (fun hlen => ?_))
    refine zIx k hk' ?_
    repeat (first | refine gG ?_ | refine zN1 (fun hlen => ?_) | refine zN2 (fun hlen => ?_))
    refine zEl1 (byt_at ha) ?_
    repeat (first | refine gG ?_ | refine zN1 (fun hlen => ?_) | refine zN2 (fun hlen => ?_))
    refine lo_shl rfl rfl (by omega) rfl ?_
    repeat (first | refine gG ?_ | refine zN1 (fun hlen => ?_) | refine zN2 (fun hlen => ?_))
    refine lo_conv tok rfl rfl rfl rfl toInt ?_
    repeat (first | refine gG ?_ | refine zN1 (fun hlen => ?_) | refine zN2 (fun hlen => ?_))
    refine lo_or rfl rfl (or8 _ a) ?_
    repeat (first | refine gG ?_ | refine zN1 (fun hlen => ?_) | refine zN2 (fun hlen => ?_))
    exact ⟨k + 1, hk', by omega, x_wkd 0 ⟨rfl, by rw [hsn]; rfl, trivial⟩ rfl (by repeat (first | exact ag_refl | refine ag_upd rfl ?_ | refine ag_at rfl rfl ?_))⟩
  · have hk' : k = l.length := by have : ¬ k < l.length := by simpa using h
                                  omega
    subst hk'
    rw [List.take_length]
    repeat (first | refine gG ?_ | refine zN1 (fun hlen => ?_) | refine zN2 (fun hlen => ?_))
    first | refine zR ?_ | refine zQ ?_
    rfl
theorem rd4_in {l : List UInt8} (h : l.length = 4) : 0 ≤ rdW l ∧ rdW l ≤ 4294967295 := by
  match l, h with
  | [a, b, c, d], _ =>
    have ha := a.toNat_lt
    have hb := b.toNat_lt
    have hc := c.toNat_lt
    have hd := d.toNat_lt
    simp only [rdW, List.foldl_cons, List.foldl_nil, stW]
    rw [IntWalk.i64_in (0 * 256 + _) (by omega)]
    rw [IntWalk.i64_in ((0 * 256 + _) * 256 + _) (by omega)]
    rw [IntWalk.i64_in (((0 * 256 + _) * 256 + _) * 256 + _) (by omega)]
    rw [IntWalk.i64_in ((((0 * 256 + _) * 256 + _) * 256 + _) * 256 + _) (by omega)]
    omega
def cutF (b : List UInt8) : List UInt8 × List UInt8 × Bool := match cutS b with | none => ([], b, false) | some (x, r) => (x, r, true)
def cutT (q : List UInt8 × List UInt8 × Bool) : T := .tup [bytRow q.1, bytRow q.2.1, .lit (.bool q.2.2)]
set_option maxRecDepth 100000 in
set_option maxHeartbeats 4000000 in
theorem cut_af (b : List UInt8) : AF Tryz.prog 26 [bytRow b] (· = cutT (cutF b)) := by
  by_cases h4 : b.length < 4
  · have e : cutF b = ([], b, false) := by unfold cutF cutS; rw [if_pos h4]
    have d1 : decide ((b.length : Int) < 4) = true := decide_eq_true (by omega)
    rw [e]
    refine af_enter tok Tryz.func26 Tryz.ntmps26 Tryz.results26 rfl (by kernel_rfl) rfl rfl fun F hX => ?_
    repeat (first | refine gG ?_ | refine zN1 (fun hlen => ?_) | refine zN2 (fun hlen => ?_))
    first | refine zR (ts := [bytRow [], bytRow b, .lit (.bool false)]) ?_ | refine zQ (ts := [bytRow [], bytRow b, .lit (.bool false)]) ?_
    rfl
  have d1 : decide ((b.length : Int) < 4) = false := decide_eq_false (by omega)
  have hr := readN_af (b.take 4)
  obtain ⟨n0, n1⟩ := rd4_in (l := b.take 4) (by simp; omega)
  by_cases hn : ((b.length - 4 : Nat) : Int) < rdW (b.take 4)
  · have e : cutF b = ([], b, false) := by unfold cutF cutS; rw [if_neg h4, if_pos hn]
    rw [e]
    generalize rdW (b.take 4) = n at *
    have d2 : decide ((b.length : Int) - 4 < n) = true := decide_eq_true (by omega)
    refine af_enter tok Tryz.func26 Tryz.ntmps26 Tryz.results26 rfl (by kernel_rfl) rfl rfl fun F hX => ?_
    repeat (first | refine gG ?_ | refine zN1 (fun hlen => ?_) | refine zN2 (fun hlen => ?_))
    refine zPhb (l := b) 4 (by omega) ?_
    repeat (first | refine gG ?_ | refine zN1 (fun hlen => ?_) | refine zN2 (fun hlen => ?_))
    refine zCall (hr) ?_
    rintro _ rfl
    repeat (first | refine gG ?_ | refine zN1 (fun hlen => ?_) | refine zN2 (fun hlen => ?_))
    refine zSub ?_
    repeat (first | refine gG ?_ | refine zN1 (fun hlen => ?_) | refine zN2 (fun hlen => ?_))
    first | refine zR (ts := [bytRow [], bytRow b, .lit (.bool false)]) ?_ | refine zQ (ts := [bytRow [], bytRow b, .lit (.bool false)]) ?_
    rfl
  · have e : cutF b = ((b.drop 4).take (rdW (b.take 4)).toNat, b.drop (4 + (rdW (b.take 4)).toNat), true) := by unfold cutF cutS; rw [if_neg h4, if_neg hn]
    rw [e]
    generalize rdW (b.take 4) = n at *
    obtain ⟨n, rfl⟩ := nat_of n0
    have d2 : decide ((b.length : Int) - 4 < (n : Int)) = false := decide_eq_false (by omega)
    rw [Int.toNat_natCast]
    have hq : 4 + n - 4 = n := by omega
    refine af_enter tok Tryz.func26 Tryz.ntmps26 Tryz.results26 rfl (by kernel_rfl) rfl rfl fun F hX => ?_
    repeat (first | refine gG ?_ | refine zN1 (fun hlen => ?_) | refine zN2 (fun hlen => ?_))
    refine zPhb (l := b) 4 (by omega) ?_
    repeat (first | refine gG ?_ | refine zN1 (fun hlen => ?_) | refine zN2 (fun hlen => ?_))
    refine zCall (hr) ?_
    rintro _ rfl
    repeat (first | refine gG ?_ | refine zN1 (fun hlen => ?_) | refine zN2 (fun hlen => ?_))
    refine zSub ?_
    repeat (first | refine gG ?_ | refine zN1 (fun hlen => ?_) | refine zN2 (fun hlen => ?_))
    refine ac_draw [1, 1, 1, 1, 1, 1, 1, 1, 1, 1, 1] [0, 1, 2, 3, 4, 5, 6, 7, 8, 9, 10] (by kernel_rfl) (by kernel_rfl) ?_
    refine gW ?_
    apply w_q; (focus exact rfl); (focus exact rfl); focus (intro _; (refine lo_add rfl rfl (r := ((4 + n : Nat) : Int)) (by rw [IntWalk.i64_in _ (by omega)]; omega) ?_); exact det_refl)
    apply w_q; (focus exact rfl); (focus exact rfl); focus (intro _; (refine zPmb (l := b) 4 (4 + n) (by omega) (by omega) ?_); exact det_refl)
    refine gW ?_
    apply w_q; (focus exact rfl); (focus exact rfl); focus (intro _; (refine lo_add rfl rfl (r := ((4 + n : Nat) : Int)) (by rw [IntWalk.i64_in _ (by omega)]; omega) ?_); exact det_refl)
    apply w_q; (focus exact rfl); (focus exact rfl); focus (intro _; (refine zPlb (l := b) (4 + n) (by omega) ?_); exact det_refl)
    refine gW ?_
    refine w_nil ?_
    repeat (first | refine gG ?_ | refine zN1 (fun hlen => ?_) | refine zN2 (fun hlen => ?_))
    first | refine zR ?_ | refine zQ ?_
    rw [hq]; rfl
theorem drop_cons {b r : List UInt8} {k : Nat} {x : UInt8} (h : b.drop k = x :: r) : b[k]? = some x ∧ b.drop (k + 1) = r := by
  refine ⟨?_, ?_⟩
  · have := congrArg (fun l => l[0]?) h
    simpa using this
  · rw [← List.drop_drop, h]; rfl
theorem scanS_short {f : Nat} {b : List UInt8} (h : b.length < 2) : scanS f b = ([], 0) := by
  cases f with
  | zero => rfl
  | succ f =>
    match b, h with
    | [], _ => rfl
    | [x], _ => rfl
theorem scanS_cut {f : Nat} {x y : UInt8} {r : List UInt8} (h : r.length < 256 * x.toNat + y.toNat) : scanS f (x :: y :: r) = ([], 0) := by
  cases f with
  | zero => rfl
  | succ f => rw [scanS]; rw [if_pos h]
theorem scanS_go {f : Nat} {x y : UInt8} {r : List UInt8} (h : ¬ r.length < 256 * x.toNat + y.toNat) : scanS (f + 1) (x :: y :: r) = (r.take (256 * x.toNat + y.toNat) :: (scanS f (r.drop (256 * x.toNat + y.toNat))).1, 2 + (256 * x.toNat + y.toNat) + (scanS f (r.drop (256 * x.toNat + y.toNat))).2) := by
  rw [scanS]; rw [if_neg h]
theorem or8n (x y : UInt8) : IntKind.i64.wrap ((((IntKind.i64.wrap ((x.toNat : Int) * 2 ^ (min (8 : Int).toNat IntKind.i64.bits))) % 2 ^ IntKind.i64.bits).toNat ||| ((y.toNat : Int) % 2 ^ IntKind.i64.bits).toNat : Nat) : Int) = ((256 * x.toNat + y.toNat : Nat) : Int) := by
  rw [or8]
  have hx := x.toNat_lt
  have hy := y.toNat_lt
  unfold stW
  rw [IntWalk.i64_in _ (by omega)]
  omega
set_option maxRecDepth 100000 in
set_option maxHeartbeats 4000000 in
theorem scan_af (b : List UInt8) (hb : b.length ≤ 2097152) : AF Tryz.prog 61 [bytRow b] (· = .tup [byRow (scanS (b.length + 1) b).1, .lit (.int .i64 ((scanS (b.length + 1) b).2 : Int))]) := by
  refine af_enter tok Tryz.func61 Tryz.ntmps61 Tryz.results61 rfl (by kernel_rfl) rfl rfl fun F hX => ?_
  repeat (first | refine gG ?_ | refine zN1 (fun hlen => ?_) | refine zN2 (fun hlen => ?_) | refine zAp (fun _ => ?_))
  refine x_own 4 22 1 rfl rfl rfl rfl rfl ?_
  refine x_loop [4, 5, 6, 7, 8, 9, 10, 11, 12, 13, 14, 15, 16, 17, 18, 19, 20, 21, 22, 23, 24, 25, 26, 27, 28, 29, 30, 31, 32, 33, 34, 35, 36, 37, 38, 39, 40, 41, 42, 43, 44, 45, 46, 47] (fun y : Nat × Nat × List (List UInt8) × Value => [(5, .c (.lit (.int .i64 (y.1 : Nat)))), (4, .own 0 y.2.2.2)]) (fun y => [.row y.2.2.2 22 1 y.2.2.1.length (y.2.2.1.map bytRow)])
    (fun y => y.1 ≤ b.length ∧ y.2.2.1.length ≤ y.1 ∧ (b.drop y.1).length < y.2.1 ∧ (y.2.2.1 ++ (scanS y.2.1 (b.drop y.1)).1, y.1 + (scanS y.2.1 (b.drop y.1)).2) = scanS (b.length + 1) b) (fun y => b.length - y.1) (0, b.length + 1, [], .slice none 0 0) ⟨Nat.zero_le _, Nat.le_refl _, by simp, by simp⟩ ⟨rfl, rfl, trivial⟩ rfl ?_
  rintro ⟨k, f, out, v⟩ ⟨hk, hol, hf, hinv⟩
  dsimp only at hk hol hf hinv ⊢
  have hdl : (b.drop k).length = b.length - k := List.length_drop
  by_cases h2 : (b.drop k).length < 2
  · have d1 : decide ((2 : Int) ≤ (b.length : Int) - (k : Int)) = false := decide_eq_false (by omega)
    rw [scanS_short h2] at hinv
    simp only [List.append_nil, Nat.add_zero] at hinv
    rw [← hinv]
    refine x_fz 4 rfl rfl rfl rfl ?_
    repeat (first | refine gG ?_ | refine zN1 (fun hlen => ?_) | refine zN2 (fun hlen => ?_) | refine zAp (fun _ => ?_))
    refine zSub ?_
    repeat (first | refine gG ?_ | refine zN1 (fun hlen => ?_) | refine zN2 (fun hlen => ?_) | refine zAp (fun _ => ?_))
    first | refine zR ?_ | refine zQ ?_
    rfl
  have d1 : decide ((2 : Int) ≤ (b.length : Int) - (k : Int)) = true := decide_eq_true (by omega)
  obtain ⟨x, y, r, hr⟩ : ∃ x y r, b.drop k = x :: y :: r := by
    match hm : b.drop k with
    | [] => rw [hm] at h2; simp at h2
    | [x] => rw [hm] at h2; simp at h2
    | x :: y :: r => exact ⟨x, y, r, rfl⟩
  obtain ⟨hx, hr1⟩ := drop_cons hr
  obtain ⟨hy, hr2⟩ := drop_cons hr1
  rw [hr] at hinv hf hdl
  simp only [List.length_cons] at hdl hf
  have hxx := x.toNat_lt
  have hyy := y.toNat_lt
  have hor := or8n x y
  generalize hn : 256 * x.toNat + y.toNat = n at *
  by_cases h3 : r.length < n
  · have d2 : decide ((b.length : Int) - (k : Int) - 2 < (n : Int)) = true := decide_eq_true (by omega)
    rw [scanS_cut (by omega)] at hinv
    simp only [List.append_nil, Nat.add_zero] at hinv
    rw [← hinv]
    refine x_fz 4 rfl rfl rfl rfl ?_
    repeat (first | refine gG ?_ | refine zN1 (fun hlen => ?_) | refine zN2 (fun hlen => ?_) | refine zAp (fun _ => ?_))
    refine zSub ?_
    repeat (first | refine gG ?_ | refine zN1 (fun hlen => ?_) | refine zN2 (fun hlen => ?_) | refine zAp (fun _ => ?_))
    refine ac_draw [1, 1, 1, 1, 1, 1, 1, 1, 1, 1, 1, 1, 1, 1] [0, 1, 2, 3, 4, 5, 6, 7, 8, 9, 10, 11, 12, 13] (by kernel_rfl) (by kernel_rfl) ?_
    refine gW ?_
    apply w_q; (focus exact rfl); (focus exact rfl); focus (intro _; (refine zIx k (show k < b.length by omega) ?_); exact det_refl)
    apply w_q; (focus exact rfl); (focus exact rfl); focus (intro _; (refine zEl1 (byt_at hx) ?_); exact det_refl)
    apply w_q; (focus exact rfl); (focus exact rfl); focus (intro _; (refine lo_conv tok rfl rfl rfl rfl toInt ?_); exact det_refl)
    apply w_q; (focus exact rfl); (focus exact rfl); focus (intro _; (refine lo_shl rfl rfl (by omega) rfl ?_); exact det_refl)
    refine gW ?_
    apply w_q; (focus exact rfl); (focus exact rfl); focus (intro _; (refine zIx (k + 1) (show k + 1 < b.length by omega) ?_); exact det_refl)
    apply w_q; (focus exact rfl); (focus exact rfl); focus (intro _; (refine zEl1 (byt_at hy) ?_); exact det_refl)
    apply w_q; (focus exact rfl); (focus exact rfl); focus (intro _; (refine lo_conv tok rfl rfl rfl rfl toInt ?_); exact det_refl)
    apply w_q; (focus exact rfl); (focus exact rfl); focus (intro _; (refine lo_or rfl rfl hor ?_); exact det_refl)
    refine gW ?_
    refine w_nil ?_
    repeat (first | refine gG ?_ | refine zN1 (fun hlen => ?_) | refine zN2 (fun hlen => ?_) | refine zAp (fun _ => ?_))
    refine zSub ?_
    repeat (first | refine gG ?_ | refine zN1 (fun hlen => ?_) | refine zN2 (fun hlen => ?_) | refine zAp (fun _ => ?_))
    refine zSub ?_
    repeat (first | refine gG ?_ | refine zN1 (fun hlen => ?_) | refine zN2 (fun hlen => ?_) | refine zAp (fun _ => ?_))
    first | refine zR ?_ | refine zQ ?_
    rfl
  · have d2 : decide ((b.length : Int) - (k : Int) - 2 < (n : Int)) = false := decide_eq_false (by omega)
    obtain ⟨f, rfl⟩ : ∃ g, f = g + 1 := ⟨f - 1, by omega⟩
    rw [scanS_go (by omega), hn] at hinv
    have hdk : b.drop (k + (2 + n)) = r.drop n := by rw [← hr2, List.drop_drop]; congr 1; omega
    have htk : ((b.drop (k + 2)).take (k + 2 + n - (k + 2))) = r.take n := by rw [show k + 2 + n - (k + 2) = n by omega, ← hr2]
    have hcl := cloneB_af (r.take n) (by simp; omega)
    repeat (first | refine gG ?_ | refine zN1 (fun hlen => ?_) | refine zN2 (fun hlen => ?_) | refine zAp (fun _ => ?_))
    refine zSub ?_
    repeat (first | refine gG ?_ | refine zN1 (fun hlen => ?_) | refine zN2 (fun hlen => ?_) | refine zAp (fun _ => ?_))
    refine ac_draw [1, 1, 1, 1, 1, 1, 1, 1, 1, 1, 1, 1, 1, 1] [0, 1, 2, 3, 4, 5, 6, 7, 8, 9, 10, 11, 12, 13] (by kernel_rfl) (by kernel_rfl) ?_
    refine gW ?_
    apply w_q; (focus exact rfl); (focus exact rfl); focus (intro _; (refine zIx k (show k < b.length by omega) ?_); exact det_refl)
    apply w_q; (focus exact rfl); (focus exact rfl); focus (intro _; (refine zEl1 (byt_at hx) ?_); exact det_refl)
    apply w_q; (focus exact rfl); (focus exact rfl); focus (intro _; (refine lo_conv tok rfl rfl rfl rfl toInt ?_); exact det_refl)
    apply w_q; (focus exact rfl); (focus exact rfl); focus (intro _; (refine lo_shl rfl rfl (by omega) rfl ?_); exact det_refl)
    refine gW ?_
    apply w_q; (focus exact rfl); (focus exact rfl); focus (intro _; (refine zIx (k + 1) (show k + 1 < b.length by omega) ?_); exact det_refl)
    apply w_q; (focus exact rfl); (focus exact rfl); focus (intro _; (refine zEl1 (byt_at hy) ?_); exact det_refl)
    apply w_q; (focus exact rfl); (focus exact rfl); focus (intro _; (refine lo_conv tok rfl rfl rfl rfl toInt ?_); exact det_refl)
    apply w_q; (focus exact rfl); (focus exact rfl); focus (intro _; (refine lo_or rfl rfl hor ?_); exact det_refl)
    refine gW ?_
    refine w_nil ?_
    repeat (first | refine gG ?_ | refine zN1 (fun hlen => ?_) | refine zN2 (fun hlen => ?_) | refine zAp (fun _ => ?_))
    refine zSub ?_
    repeat (first | refine gG ?_ | refine zN1 (fun hlen => ?_) | refine zN2 (fun hlen => ?_) | refine zAp (fun _ => ?_))
    refine zSub ?_
    repeat (first | refine gG ?_ | refine zN1 (fun hlen => ?_) | refine zN2 (fun hlen => ?_) | refine zAp (fun _ => ?_))
    refine lo_add rfl rfl (r := ((k + 2 : Nat) : Int)) (by rw [IntWalk.i64_in _ (by omega)]; omega) ?_
    repeat (first | refine gG ?_ | refine zN1 (fun hlen => ?_) | refine zN2 (fun hlen => ?_) | refine zAp (fun _ => ?_))
    refine lo_add rfl rfl (r := ((k + 2 : Nat) : Int)) (by rw [IntWalk.i64_in _ (by omega)]; omega) ?_
    repeat (first | refine gG ?_ | refine zN1 (fun hlen => ?_) | refine zN2 (fun hlen => ?_) | refine zAp (fun _ => ?_))
    refine lo_add rfl rfl (r := ((k + 2 + n : Nat) : Int)) (by rw [IntWalk.i64_in _ (by omega)]; omega) ?_
    repeat (first | refine gG ?_ | refine zN1 (fun hlen => ?_) | refine zN2 (fun hlen => ?_) | refine zAp (fun _ => ?_))
    refine zPmb (l := b) (k + 2) (k + 2 + n) (by omega) (by omega) ?_
    rw [htk]
    repeat (first | refine gG ?_ | refine zN1 (fun hlen => ?_) | refine zN2 (fun hlen => ?_) | refine zAp (fun _ => ?_))
    refine zCall (hcl) ?_
    rintro _ rfl
    repeat (first | refine gG ?_ | refine zN1 (fun hlen => ?_) | refine zN2 (fun hlen => ?_) | refine zAp (fun _ => ?_))
    refine lo_add rfl rfl (r := ((2 + n : Nat) : Int)) (by rw [IntWalk.i64_in _ (by omega)]; omega) ?_
    repeat (first | refine gG ?_ | refine zN1 (fun hlen => ?_) | refine zN2 (fun hlen => ?_) | refine zAp (fun _ => ?_))
    refine lo_add rfl rfl (r := ((k + (2 + n) : Nat) : Int)) (by rw [IntWalk.i64_in _ (by omega)]; omega) ?_
    repeat (first | refine gG ?_ | refine zN1 (fun hlen => ?_) | refine zN2 (fun hlen => ?_) | refine zAp (fun _ => ?_))
    exact ⟨(k + (2 + n), f, out ++ [r.take n], _), ⟨by simp only; omega, by simp only [List.length_append, List.length_cons, List.length_nil]; omega, by simp only [hdk, List.length_drop]; omega, by rw [hdk, ← hinv]; simp only [List.append_assoc, List.cons_append, List.nil_append, Nat.add_assoc]⟩, by simp only; omega, x_wkd 1 ⟨rfl, rfl, trivial⟩ (by simp only [List.map_append, List.map_cons, List.map_nil, List.length_append, List.length_cons, List.length_nil]; rfl) (by repeat (first | exact ag_refl | refine ag_upd rfl ?_ | refine ag_at rfl rfl ?_))⟩
end Go.Proofs.YthgackidonocpaaGreat
namespace Go.Proofs.YthgackidonocpaaGreat
open Go.RowKit
def Wy.zero : Wy := ⟨0, 0, []⟩
def Wy.tt (w : Wy) : T := .agg w.ts
def wayF (b : List UInt8) : Wy × Bool :=
  match b with
  | x :: y :: r => if (scanS (r.length + 1) r).1.all letOk = true then (⟨x.toNat, y.toNat, (scanS (r.length + 1) r).1.map fun z => (rdLet z).1⟩, decide (((scanS (r.length + 1) r).2 : Int) = (r.length : Int))) else (Wy.zero, false)
  | _ => (Wy.zero, false)
theorem wayS_F (b : List UInt8) : wayS b = if (wayF b).2 = true then some (wayF b).1 else none := by
  match b with
  | [] => rfl
  | [x] => rfl
  | x :: y :: r =>
    by_cases h1 : (scanS (r.length + 1) r).1.all letOk = true
    rotate_left
    · have e1 : wayF (x :: y :: r) = (Wy.zero, false) := by unfold wayF; dsimp only; rw [if_neg h1]
      have e2 : wayS (x :: y :: r) = none := by unfold wayS; dsimp only; rw [if_neg (by rw [Bool.and_eq_true]; exact fun h => h1 h.1)]
      rw [e1, e2]
      rfl
    · have e1 : wayF (x :: y :: r) = (⟨x.toNat, y.toNat, (scanS (r.length + 1) r).1.map fun z => (rdLet z).1⟩, decide (((scanS (r.length + 1) r).2 : Int) = (r.length : Int))) := by unfold wayF; dsimp only; rw [if_pos h1]
      rw [e1]
      unfold wayS
      dsimp only
      by_cases h2 : (scanS (r.length + 1) r).2 = r.length
      · simp [h1, h2]
      · have h3 : ¬ (((scanS (r.length + 1) r).2 : Int) = (r.length : Int)) := by omega
        simp [h2, h3]
theorem all_snocB {α : Type} {p : α → Bool} {l : List α} {k : Nat} {a : α} (ha : l[k]? = some a) (h : (l.take k).all p = true) (hp : p a = true) : (l.take (k + 1)).all p = true := by rw [snoc_at ha, List.all_append, h]; simp [hp]
theorem all_badB {α : Type} {p : α → Bool} {l : List α} {k : Nat} {a : α} (ha : l[k]? = some a) (hp : p a = false) : ¬ l.all p = true := fun h => by
  have := List.all_eq_true.1 h a (List.mem_of_getElem? ha)
  rw [hp] at this
  exact absurd this (by decide)
theorem scanS_len : ∀ (f : Nat) (b : List UInt8), (scanS f b).1.length ≤ b.length
  | 0, b => by rw [scanS]; exact Nat.zero_le _
  | f + 1, b => by
    match b with
    | [] => exact Nat.zero_le _
    | [x] => exact Nat.zero_le _
    | x :: y :: r =>
      by_cases h : r.length < 256 * x.toNat + y.toNat
      · rw [scanS_cut h]; exact Nat.zero_le _
      · rw [scanS_go h]
        have := scanS_len f (r.drop (256 * x.toNat + y.toNat))
        simp only [List.length_cons, List.length_drop] at this ⊢
        omega
def OutW (w : Wy) (o : Bool) (t : T) : Prop := t = .tup [w.tt, .lit (.bool o)]
set_option maxRecDepth 100000 in
set_option maxHeartbeats 4000000 in
theorem way_af (b : List UInt8) (hb : b.length ≤ 2097152) : AF Tryz.prog 38 [bytRow b] (OutW (wayF b).1 (wayF b).2) := by
  by_cases h2 : b.length < 2
  · have e : wayF b = (Wy.zero, false) := by
      match b, h2 with
      | [], _ => rfl
      | [x], _ => rfl
    have d1 : decide ((b.length : Int) < 2) = true := decide_eq_true (by omega)
    rw [e]
    refine af_enter tok Tryz.func38 Tryz.ntmps38 Tryz.results38 rfl (by kernel_rfl) rfl rfl fun F hX => ?_
    repeat (first | refine gG ?_ | refine zN1 (fun hlen => ?_) | refine zN2 (fun hlen => ?_) | refine zAl (fun _ => ?_) | refine zAp (fun _ => ?_))
    first | refine zR (ts := [Wy.zero.tt, .lit (.bool false)]) ?_ | refine zQ (ts := [Wy.zero.tt, .lit (.bool false)]) ?_
    rfl
  have d1 : decide ((b.length : Int) < 2) = false := decide_eq_false (by omega)
  obtain ⟨x, y, r, hxyr⟩ : ∃ x y r, b = x :: y :: r := by
    rcases b with _ | ⟨x, _ | ⟨y, r⟩⟩
    · simp at h2
    · simp at h2
    · exact ⟨_, _, _, rfl⟩
  have hx : b[0]? = some x := by rw [hxyr]; rfl
  have hy : b[1]? = some y := by rw [hxyr]; rfl
  have hdr : b.drop 2 = r := by rw [hxyr]; rfl
  have hbl : b.length = r.length + 2 := by rw [hxyr]; rfl
  have hsc := scan_af r (by omega)
  have hsl := scanS_len (r.length + 1) r
  rcases hls : scanS (r.length + 1) r with ⟨ls, n⟩
  rw [hls] at hsc hsl
  dsimp only at hsc hsl
  have e : wayF b = if ls.all letOk = true then (⟨x.toNat, y.toNat, ls.map fun z => (rdLet z).1⟩, decide ((n : Int) = (r.length : Int))) else (Wy.zero, false) := by rw [hxyr]; unfold wayF; dsimp only; rw [hls]
  have hsub : decide ((n : Int) = (b.length : Int) - 2) = decide ((n : Int) = (r.length : Int)) := by
    have h3 : (b.length : Int) - 2 = (r.length : Int) := by omega
    rw [h3]
  clear hxyr hls
  refine af_enter tok Tryz.func38 Tryz.ntmps38 Tryz.results38 rfl (by kernel_rfl) rfl rfl fun F hX => ?_
  repeat (first | refine gG ?_ | refine zN1 (fun hlen => ?_) | refine zN2 (fun hlen => ?_) | refine zAl (fun _ => ?_) | refine zAp (fun _ => ?_))
  refine zPlb (l := b) 2 (by omega) ?_
  rw [hdr]
  repeat (first | refine gG ?_ | refine zN1 (fun hlen => ?_) | refine zN2 (fun hlen => ?_) | refine zAl (fun _ => ?_) | refine zAp (fun _ => ?_))
  refine zCall (hsc) ?_
  rintro _ rfl
  repeat (first | refine gG ?_ | refine zN1 (fun hlen => ?_) | refine zN2 (fun hlen => ?_) | refine zAl (fun _ => ?_) | refine zAp (fun _ => ?_))
  refine ac_draw [1, 1, 1, 1, 1, 1, 1, 1, 1, 3, 2] [0, 1, 2, 3, 4, 5, 6, 7, 8, 9, 10] (by kernel_rfl) (by kernel_rfl) ?_
  refine gW ?_
  apply w_q; (focus exact rfl); (focus exact rfl); focus (intro _; (refine zIx 0 (show 0 < b.length by omega) ?_); exact det_refl)
  apply w_q; (focus exact rfl); (focus exact rfl); focus (intro _; (refine zEl1 (byt_at hx) ?_); exact det_refl)
  apply w_q; (focus exact rfl); (focus exact rfl); focus (intro _; (refine lo_conv tok rfl rfl rfl rfl toInt ?_); exact det_refl)
  refine gW ?_
  apply w_q; (focus exact rfl); (focus exact rfl); focus (intro _; (refine zIx 1 (show 1 < b.length by omega) ?_); exact det_refl)
  apply w_q; (focus exact rfl); (focus exact rfl); focus (intro _; (refine zEl1 (byt_at hy) ?_); exact det_refl)
  apply w_q; (focus exact rfl); (focus exact rfl); focus (intro _; (refine lo_conv tok rfl rfl rfl rfl toInt ?_); exact det_refl)
  refine gW ?_
  apply w_a; (focus exact rfl); (focus exact rfl); refine v_alloc tok rfl rfl rfl (fun _ => rfl) (fun _ => ⟨⟨_, rfl⟩, ?_⟩)
  apply w_l; (focus exact rfl); (focus exact rfl); (first | (refine zkL ?_; first | refine zL1 ?_ | refine zL2 ?_ | refine zL3 ?_ | refine zLp ?_) | refine zM ?_ | (refine zkF ?_; first | refine zF1 ?_ | refine zF2 ?_ | refine zF3 ?_) | refine zA ?_ | (refine zkB ?_; first | refine zC5 ?_ | refine zC6 ?_ | refine zC1 ?_ | refine zC2 ?_ | refine zC3 ?_ | refine zC4 ?_ | refine zS5 ?_ | refine zS6 ?_ | refine zS1 ?_ | refine zS2 ?_ | refine zS3 ?_ | refine zS4 ?_ | refine zInc ?_ | refine zQ1 ?_ | refine zQ2 ?_ | refine zQ3 ?_ | refine zQ4 ?_ | refine zQ5 ?_ | refine zQ6 ?_) | (refine zkI ?_; first | refine zN1 (fun hlen => ?_) | refine zN2 (fun hlen => ?_) | refine zN3 ?_ | refine zN4 ?_ | refine zAp (fun _ => ?_)) | refine zS ?_ | refine zAl (fun _ => ?_) | refine zBx (fun _ => ?_) | refine zPt ?_ | refine zPf ?_ | refine zE ?_ | refine zEA ?_ | refine zNot ?_ | refine zBd ?_ | refine zBs ?_ | refine zFn ?_ | refine zK1 ?_ | refine zK2 ?_)
  refine w_nil ?_
  repeat (first | refine gG ?_ | refine zN1 (fun hlen => ?_) | refine zN2 (fun hlen => ?_) | refine zAl (fun _ => ?_) | refine zAp (fun _ => ?_))
  rename_i b0 _ b1
  refine x_own_cell 1 2 63 9 rfl rfl rfl rfl rfl rfl ?_
  refine x_loop [3, 8, 9, 10, 32, 33, 34, 35, 36, 37, 38, 39, 40, 41, 42, 43, 44, 45, 46, 47, 48, 49, 50] (fun s : Nat × List Lt × Value => [(32, .c (.lit (.int .i64 (s.1 : Nat))))]) (fun s => [.box b0 57 [.c (.lit (.int .i64 0)), .c (.lit (.int .i64 0)), .c (.lit (.slice none 0 0))], .box b1 57 [.c (.lit (.int .i64 (x.toNat : Int))), .c (.lit (.int .i64 (y.toNat : Int))), .own 2 s.2.2], .row s.2.2 63 9 s.2.1.length (s.2.1.flatMap Lt.ts)])
    (fun s => s.1 ≤ ls.length ∧ s.2.1 = (ls.take s.1).map (fun z => (rdLet z).1) ∧ (ls.take s.1).all letOk = true) (fun s => ls.length - s.1) (0, [], .slice none 0 0) ⟨Nat.zero_le _, rfl, rfl⟩ ⟨rfl, trivial⟩ rfl ?_
  rintro ⟨k, out, v⟩ ⟨hk, ho, hall⟩
  dsimp only at hk ho hall ⊢
  by_cases hke : k = ls.length
  · subst hke
    rw [List.take_length] at ho hall
    have d2 : decide ((ls.length : Int) < (ls.length : Int)) = false := decide_eq_false (by omega)
    refine x_fzc 1 2 ?_
    repeat (first | refine gG ?_ | refine zN1 (fun hlen => ?_) | refine zN2 (fun hlen => ?_) | refine zAl (fun _ => ?_) | refine zAp (fun _ => ?_))
    refine zSub ?_
    repeat (first | refine gG ?_ | refine zN1 (fun hlen => ?_) | refine zN2 (fun hlen => ?_) | refine zAl (fun _ => ?_) | refine zAp (fun _ => ?_))
    first | refine zR (ts := [(Wy.mk (x.toNat : Int) (y.toNat : Int) out).tt, .lit (.bool (decide ((n : Int) = (b.length : Int) - 2)))]) ?_ | refine zQ (ts := [(Wy.mk (x.toNat : Int) (y.toNat : Int) out).tt, .lit (.bool (decide ((n : Int) = (b.length : Int) - 2)))]) ?_
    rw [e, if_pos hall, hsub, ho]
    rfl
  · have hk' : k < ls.length := by omega
    obtain ⟨a, ha⟩ := nth hk'
    have d2 : decide ((k : Int) < (ls.length : Int)) = true := decide_eq_true (by omega)
    have hrd := readLetter_af a
    have hol : out.length ≤ 2097152 := by rw [ho, List.length_map, List.length_take]; omega
    have hok : letOk a = decide ((rdLet a).2 = 0) := rfl
    rcases hq : rdLet a with ⟨⟨ka, fa, ta, na, sa, ⟨kv, nv, tv, lv⟩⟩, e0⟩
    rw [hq] at hrd hok
    dsimp only at hrd hok
    repeat (first | refine gG ?_ | refine zN1 (fun hlen => ?_) | refine zN2 (fun hlen => ?_) | refine zAl (fun _ => ?_) | refine zAp (fun _ => ?_))
    refine zIx k hk' ?_
    repeat (first | refine gG ?_ | refine zN1 (fun hlen => ?_) | refine zN2 (fun hlen => ?_) | refine zAl (fun _ => ?_) | refine zAp (fun _ => ?_))
    refine zEl1 (map_at bytRow ha) ?_
    repeat (first | refine gG ?_ | refine zN1 (fun hlen => ?_) | refine zN2 (fun hlen => ?_) | refine zAl (fun _ => ?_) | refine zAp (fun _ => ?_))
    refine zCall (hrd) ?_
    rintro _ rfl
    cases c1 : decide (e0 = 0)
    · rw [c1] at hok
      have hbad := all_badB ha hok
      repeat (first | refine gG ?_ | refine zN1 (fun hlen => ?_) | refine zN2 (fun hlen => ?_) | refine zAl (fun _ => ?_) | refine zAp (fun _ => ?_))
      first | refine zR (ts := [Wy.zero.tt, .lit (.bool false)]) ?_ | refine zQ (ts := [Wy.zero.tt, .lit (.bool false)]) ?_
      rw [e, if_neg hbad]
      rfl
    · repeat (first | refine gG ?_ | refine zN1 (fun hlen => ?_) | refine zN2 (fun hlen => ?_) | refine zAl (fun _ => ?_) | refine zAp (fun _ => ?_))
      exact ⟨(k + 1, out ++ [.mk ka fa ta na sa (.mk kv nv tv lv)], _), ⟨hk', by rw [snoc_at ha, List.map_append, ho]; simp [hq], all_snocB ha hall (by rw [hok, c1])⟩, by simp only; omega, x_wkd 3 ⟨rfl, trivial⟩ (by simp only [List.flatMap_append, List.flatMap_cons, List.flatMap_nil, List.append_nil, List.length_append, List.length_cons, List.length_nil]; rfl) (by repeat (first | exact ag_refl | refine ag_upd rfl ?_ | refine ag_at rfl rfl ?_))⟩
end Go.Proofs.YthgackidonocpaaGreat
namespace Go.Proofs.YthgackidonocpaaGreat
open Go.RowKit
theorem cutF_is {b x r : List UInt8} {o : Bool} (h : cutF b = (x, r, o)) : (o = false → cutS b = none) ∧ (o = true → cutS b = some (x, r)) ∧ x.length ≤ b.length ∧ r.length ≤ b.length := by
  unfold cutF at h
  cases hc : cutS b with
  | none =>
    rw [hc] at h
    simp only [Prod.mk.injEq] at h
    obtain ⟨rfl, rfl, rfl⟩ := h
    exact ⟨fun _ => rfl, fun h => absurd h (by decide), by simp, Nat.le_refl _⟩
  | some q =>
    obtain ⟨x', r'⟩ := q
    rw [hc] at h
    simp only [Prod.mk.injEq] at h
    obtain ⟨rfl, rfl, rfl⟩ := h
    refine ⟨fun h => absurd h (by decide), fun _ => rfl, ?_⟩
    unfold cutS at hc
    split at hc
    · exact absurd hc (by simp)
    · split at hc
      · exact absurd hc (by simp)
      · simp only [Option.some.injEq, Prod.mk.injEq] at hc
        obtain ⟨rfl, rfl⟩ := hc
        simp only [List.length_take, List.length_drop]
        omega
theorem decL_no {α : Type} {g : List UInt8 → Option α} {j : Nat} {b : List UInt8} (h : cutS b = none) : decL g (j + 1) b = none := by rw [decL, h]
theorem decL_bad {α : Type} {g : List UInt8 → Option α} {j : Nat} {b x r : List UInt8} (h : cutS b = some (x, r)) (hx : g x = none) : decL g (j + 1) b = none := by rw [decL, h]; dsimp only; rw [hx]
theorem decL_go {α : Type} {g : List UInt8 → Option α} {j : Nat} {b x r : List UInt8} {a : α} (h : cutS b = some (x, r)) (hx : g x = some a) : decL g (j + 1) b = (decL g j r).map fun q => (a :: q.1, q.2) := by rw [decL, h]; dsimp only; rw [hx]
theorem map_pre {α : Type} {o : Option (List α × List UInt8)} {a : α} {l : List α} : (o.map fun q => (a :: q.1, q.2)).map (fun q => (l ++ q.1, q.2)) = o.map fun q => ((l ++ [a]) ++ q.1, q.2) := by
  cases o with
  | none => rfl
  | some q => simp
def DecP (o : Option Snp) (t : T) : Prop := ∃ s k, t = .tup [Snp.t s, .lit (.bool k)] ∧ o = if k = true then some s else none
set_option maxRecDepth 100000 in
set_option maxHeartbeats 4000000 in
theorem decode_af (b : List UInt8) (hb : b.length ≤ 2097152) : AF Tryz.prog 13 [bytRow b] (DecP (decS b)) := by
  by_cases h10 : b.length < 10
  · have e : decS b = none := by unfold decS; rw [if_pos h10]
    have d1 : decide ((b.length : Int) < 10) = true := decide_eq_true (by omega)
    rw [e]
    refine af_enter tok Tryz.func13 Tryz.ntmps13 Tryz.results13 rfl (by kernel_rfl) rfl rfl fun F hX => ?_
    repeat (first | refine gG ?_ | refine zN1 (fun hlen => ?_) | refine zN2 (fun hlen => ?_) | refine zAl (fun _ => ?_) | refine zAp (fun _ => ?_))
    first | refine zR (ts := [Snp.zero.t, .lit (.bool false)]) ?_ | refine zQ (ts := [Snp.zero.t, .lit (.bool false)]) ?_
    exact ⟨Snp.zero, false, rfl, rfl⟩
  have d1 : decide ((b.length : Int) < 10) = false := decide_eq_false (by omega)
  obtain ⟨p8, h8⟩ := nth (l := b) (k := 8) (by omega)
  obtain ⟨p9, h9⟩ := nth (l := b) (k := 9) (by omega)
  have e : decS b = match decL parS p8.toNat (b.drop 10) with
      | none => none
      | some (ps, r) => match decL wayS p9.toNat r with
        | none => none
        | some (ws, r') => if r' = [] then some ⟨rdW (b.take 8), ps, ws⟩ else none := by
    unfold decS
    rw [if_neg h10]
    simp only [List.getD_eq_getElem?_getD, h8, h9, Option.getD_some]
    rfl
  have hrd8 := readN_af (b.take 8)
  generalize rdW (b.take 8) = tm at *
  have p8n := p8.toNat_lt
  have p9n := p9.toNat_lt
  refine af_enter tok Tryz.func13 Tryz.ntmps13 Tryz.results13 rfl (by kernel_rfl) rfl rfl fun F hX => ?_
  repeat (first | refine gG ?_ | refine zN1 (fun hlen => ?_) | refine zN2 (fun hlen => ?_) | refine zAl (fun _ => ?_) | refine zAp (fun _ => ?_))
  refine zPhb (l := b) 8 (by omega) ?_
  repeat (first | refine gG ?_ | refine zN1 (fun hlen => ?_) | refine zN2 (fun hlen => ?_) | refine zAl (fun _ => ?_) | refine zAp (fun _ => ?_))
  refine zCall (hrd8) ?_
  rintro _ rfl
  repeat (first | refine gG ?_ | refine zN1 (fun hlen => ?_) | refine zN2 (fun hlen => ?_) | refine zAl (fun _ => ?_) | refine zAp (fun _ => ?_))
  refine ac_draw [1, 1, 1, 1, 1, 1, 1, 1, 1, 1] [0, 1, 2, 3, 4, 5, 6, 7, 8, 9] (by kernel_rfl) (by kernel_rfl) ?_
  refine gW ?_
  apply w_q; (focus exact rfl); (focus exact rfl); focus (intro _; (refine zIx 8 (show 8 < b.length by omega) ?_); exact det_refl)
  apply w_q; (focus exact rfl); (focus exact rfl); focus (intro _; (refine zEl1 (byt_at h8) ?_); exact det_refl)
  apply w_q; (focus exact rfl); (focus exact rfl); focus (intro _; (refine lo_conv tok rfl rfl rfl rfl toInt ?_); exact det_refl)
  refine gW ?_
  apply w_q; (focus exact rfl); (focus exact rfl); focus (intro _; (refine zIx 9 (show 9 < b.length by omega) ?_); exact det_refl)
  apply w_q; (focus exact rfl); (focus exact rfl); focus (intro _; (refine zEl1 (byt_at h9) ?_); exact det_refl)
  apply w_q; (focus exact rfl); (focus exact rfl); focus (intro _; (refine lo_conv tok rfl rfl rfl rfl toInt ?_); exact det_refl)
  refine gW ?_
  refine w_nil ?_
  repeat (first | refine gG ?_ | refine zN1 (fun hlen => ?_) | refine zN2 (fun hlen => ?_) | refine zAl (fun _ => ?_) | refine zAp (fun _ => ?_))
  refine zPlb (l := b) 10 (by omega) ?_
  have hdl : (b.drop 10).length ≤ 2097152 := by rw [List.length_drop]; omega
  generalize b.drop 10 = bd at *
  generalize p8.toNat = n8 at *
  generalize p9.toNat = n9 at *
  repeat (first | refine gG ?_ | refine zN1 (fun hlen => ?_) | refine zN2 (fun hlen => ?_) | refine zAl (fun _ => ?_) | refine zAp (fun _ => ?_))
  rename_i b0 b1
  refine x_own_cell 1 1 53 8 rfl rfl rfl rfl rfl rfl ?_
  refine x_loop [0, 3, 7, 8, 9, 10, 11, 36, 37, 38, 39, 40, 41, 42, 43, 44, 45, 46, 47, 48, 49, 50, 51, 52, 53, 54, 55, 56, 57, 58, 59, 60, 61, 62, 63] (fun s : Nat × List UInt8 × List Par × Value => [(36, .c (.lit (.int .i64 (s.1 : Nat)))), (0, .c (bytRow s.2.1))]) (fun s => [.box b0 26 [.c (.lit (.int .i64 0)), .c (.lit (.slice none 0 0)), .c (.lit (.slice none 0 0))], .box b1 26 [.c (.lit (.int .i64 tm)), .own 2 s.2.2.2, .c (.lit (.slice none 0 0))], .row s.2.2.2 53 8 s.2.2.1.length (s.2.2.1.flatMap Par.ts)])
    (fun s => s.1 ≤ n8 ∧ s.2.1.length ≤ 2097152 ∧ s.2.2.1.length = s.1 ∧ (decL parS (n8 - s.1) s.2.1).map (fun q => (s.2.2.1 ++ q.1, q.2)) = decL parS n8 bd) (fun s => n8 - s.1) (0, bd, [], .slice none 0 0) ⟨Nat.zero_le _, hdl, rfl, by simp⟩ ⟨rfl, rfl, trivial⟩ rfl ?_
  rintro ⟨k, bb, ps, v⟩ ⟨hk, hbb, hpl, hinv⟩
  dsimp only at hk hbb hpl hinv ⊢
  by_cases hke : k = n8
  rotate_left
  · obtain ⟨j, hj⟩ : ∃ j, n8 - k = j + 1 := ⟨n8 - k - 1, by omega⟩
    have d2 : decide ((k : Int) < (n8 : Int)) = true := decide_eq_true (by omega)
    have hcut := cut_af bb
    rcases hcf : cutF bb with ⟨x, r, o⟩
    obtain ⟨i1, i2, i3, i4⟩ := cutF_is hcf
    rw [hcf] at hcut
    have hrd := readParcel_af x (by omega)
    have hps : parS x = if (rdP x).2 = 0 then some (rdP x).1 else none := rfl
    generalize rdP x = q at hrd hps
    obtain ⟨⟨rf, ⟨ac, st, ip⟩, bx, tk, wt, lk⟩, e0⟩ := q
    dsimp only at hrd hps
    rw [hj] at hinv
    cases o
    · rw [decL_no (i1 rfl)] at hinv
      clear i1 i2 hps hcf hj
      have d2' := d2
      repeat (first | refine gG ?_ | refine zN1 (fun hlen => ?_) | refine zN2 (fun hlen => ?_) | refine zAl (fun _ => ?_) | refine zAp (fun _ => ?_))
      refine zCall (hcut) ?_
      rintro _ rfl
      repeat (first | refine gG ?_ | refine zN1 (fun hlen => ?_) | refine zN2 (fun hlen => ?_) | refine zAl (fun _ => ?_) | refine zAp (fun _ => ?_))
      refine zCall (hrd) ?_
      rintro _ rfl
      repeat (first | refine gG ?_ | refine zN1 (fun hlen => ?_) | refine zN2 (fun hlen => ?_) | refine zAl (fun _ => ?_) | refine zAp (fun _ => ?_))
      first | refine zR (ts := [Snp.zero.t, .lit (.bool false)]) ?_ | refine zQ (ts := [Snp.zero.t, .lit (.bool false)]) ?_
      exact ⟨Snp.zero, false, rfl, by rw [e, ← hinv]; rfl⟩
    cases c1 : decide (e0 = 0)
    · rw [if_neg (of_decide_eq_false c1)] at hps
      rw [decL_bad (i2 rfl) hps] at hinv
      clear i1 i2 hps hcf hj
      have d2' := d2
      repeat (first | refine gG ?_ | refine zN1 (fun hlen => ?_) | refine zN2 (fun hlen => ?_) | refine zAl (fun _ => ?_) | refine zAp (fun _ => ?_))
      refine zCall (hcut) ?_
      rintro _ rfl
      repeat (first | refine gG ?_ | refine zN1 (fun hlen => ?_) | refine zN2 (fun hlen => ?_) | refine zAl (fun _ => ?_) | refine zAp (fun _ => ?_))
      refine zCall (hrd) ?_
      rintro _ rfl
      repeat (first | refine gG ?_ | refine zN1 (fun hlen => ?_) | refine zN2 (fun hlen => ?_) | refine zAl (fun _ => ?_) | refine zAp (fun _ => ?_))
      first | refine zR (ts := [Snp.zero.t, .lit (.bool false)]) ?_ | refine zQ (ts := [Snp.zero.t, .lit (.bool false)]) ?_
      exact ⟨Snp.zero, false, rfl, by rw [e, ← hinv]; rfl⟩
    · rw [if_pos (of_decide_eq_true c1)] at hps
      rw [decL_go (i2 rfl) hps, map_pre] at hinv
      clear i1 i2 hps hcf
      have d2' := d2
      repeat (first | refine gG ?_ | refine zN1 (fun hlen => ?_) | refine zN2 (fun hlen => ?_) | refine zAl (fun _ => ?_) | refine zAp (fun _ => ?_))
      refine zCall (hcut) ?_
      rintro _ rfl
      repeat (first | refine gG ?_ | refine zN1 (fun hlen => ?_) | refine zN2 (fun hlen => ?_) | refine zAl (fun _ => ?_) | refine zAp (fun _ => ?_))
      refine zCall (hrd) ?_
      rintro _ rfl
      repeat (first | refine gG ?_ | refine zN1 (fun hlen => ?_) | refine zN2 (fun hlen => ?_) | refine zAl (fun _ => ?_) | refine zAp (fun _ => ?_))
      exact ⟨(k + 1, r, ps ++ [⟨rf, ⟨ac, st, ip⟩, bx, tk, wt, lk⟩], _), ⟨by simp only; omega, by simp only; omega, by simp only [List.length_append, List.length_cons, List.length_nil]; omega, by rw [← hinv, show n8 - (k + 1) = j by omega]⟩, by simp only; omega, x_wkd 3 ⟨rfl, rfl, trivial⟩ (by simp only [List.flatMap_append, List.flatMap_cons, List.flatMap_nil, List.append_nil, List.length_append, List.length_cons, List.length_nil]; rfl) (by repeat (first | exact ag_refl | refine ag_upd rfl ?_ | refine ag_at rfl rfl ?_))⟩
  subst hke
  rw [Nat.sub_self] at hinv
  have h1 : decL parS k bd = some (ps, bb) := by rw [← hinv, decL]; simp
  rw [h1] at e
  dsimp only at e
  clear hinv h1 hk hpl
  have d2 : decide ((k : Int) < (k : Int)) = false := decide_eq_false (by omega)
  refine x_fzc 1 1 ?_
  repeat (first | refine gG ?_ | refine zN1 (fun hlen => ?_) | refine zN2 (fun hlen => ?_) | refine zAl (fun _ => ?_) | refine zAp (fun _ => ?_))
  refine x_own_cell 1 2 57 3 rfl rfl rfl rfl rfl rfl ?_
  refine x_loop [0, 3, 12, 13, 14, 15, 16, 65, 66, 67, 68, 69, 70, 71, 72, 73, 74, 75, 76, 77, 78, 79, 80, 81, 82, 83, 84, 85, 86, 87, 88, 89, 90, 91, 92] (fun s : Nat × List UInt8 × List Wy × Value => [(65, .c (.lit (.int .i64 (s.1 : Nat)))), (0, .c (bytRow s.2.1))]) (fun s => [.box b0 26 [.c (.lit (.int .i64 0)), .c (.lit (.slice none 0 0)), .c (.lit (.slice none 0 0))], .box b1 26 [.c (.lit (.int .i64 tm)), .c (parRow ps), .own 3 s.2.2.2], .dead, .row s.2.2.2 57 3 s.2.2.1.length (s.2.2.1.flatMap Wy.ts)])
    (fun s => s.1 ≤ n9 ∧ s.2.1.length ≤ 2097152 ∧ s.2.2.1.length = s.1 ∧ (decL wayS (n9 - s.1) s.2.1).map (fun q => (s.2.2.1 ++ q.1, q.2)) = decL wayS n9 bb) (fun s => n9 - s.1) (0, bb, [], .slice none 0 0) ⟨Nat.zero_le _, hbb, rfl, by simp⟩ ⟨rfl, rfl, trivial⟩ rfl ?_
  rintro ⟨i, bc, ws, v⟩ ⟨hi, hbc, hwl, hinv⟩
  dsimp only at hi hbc hwl hinv ⊢
  by_cases hie : i = n9
  rotate_left
  · obtain ⟨j, hj⟩ : ∃ j, n9 - i = j + 1 := ⟨n9 - i - 1, by omega⟩
    have d3 : decide ((i : Int) < (n9 : Int)) = true := decide_eq_true (by omega)
    have hcut := cut_af bc
    rcases hcf : cutF bc with ⟨x, r, o⟩
    obtain ⟨i1, i2, i3, i4⟩ := cutF_is hcf
    rw [hcf] at hcut
    have hrd := way_af x (by omega)
    have hps := wayS_F x
    generalize wayF x = q at hrd hps
    obtain ⟨⟨fr, to, wl⟩, o2⟩ := q
    dsimp only at hrd hps
    rw [hj] at hinv
    cases o
    · rw [decL_no (i1 rfl)] at hinv
      clear i1 i2 hps hcf hj
      have d3' := d3
      repeat (first | refine gG ?_ | refine zN1 (fun hlen => ?_) | refine zN2 (fun hlen => ?_) | refine zAl (fun _ => ?_) | refine zAp (fun _ => ?_))
      refine zCall (hcut) ?_
      rintro _ rfl
      repeat (first | refine gG ?_ | refine zN1 (fun hlen => ?_) | refine zN2 (fun hlen => ?_) | refine zAl (fun _ => ?_) | refine zAp (fun _ => ?_))
      refine zCall (hrd) ?_
      rintro _ rfl
      repeat (first | refine gG ?_ | refine zN1 (fun hlen => ?_) | refine zN2 (fun hlen => ?_) | refine zAl (fun _ => ?_) | refine zAp (fun _ => ?_))
      first | refine zR (ts := [Snp.zero.t, .lit (.bool false)]) ?_ | refine zQ (ts := [Snp.zero.t, .lit (.bool false)]) ?_
      exact ⟨Snp.zero, false, rfl, by rw [e, ← hinv]; rfl⟩
    cases o2
    · rw [if_neg (by decide)] at hps
      rw [decL_bad (i2 rfl) hps] at hinv
      clear i1 i2 hps hcf hj
      have d3' := d3
      repeat (first | refine gG ?_ | refine zN1 (fun hlen => ?_) | refine zN2 (fun hlen => ?_) | refine zAl (fun _ => ?_) | refine zAp (fun _ => ?_))
      refine zCall (hcut) ?_
      rintro _ rfl
      repeat (first | refine gG ?_ | refine zN1 (fun hlen => ?_) | refine zN2 (fun hlen => ?_) | refine zAl (fun _ => ?_) | refine zAp (fun _ => ?_))
      refine zCall (hrd) ?_
      rintro _ rfl
      repeat (first | refine gG ?_ | refine zN1 (fun hlen => ?_) | refine zN2 (fun hlen => ?_) | refine zAl (fun _ => ?_) | refine zAp (fun _ => ?_))
      first | refine zR (ts := [Snp.zero.t, .lit (.bool false)]) ?_ | refine zQ (ts := [Snp.zero.t, .lit (.bool false)]) ?_
      exact ⟨Snp.zero, false, rfl, by rw [e, ← hinv]; rfl⟩
    · rw [if_pos rfl] at hps
      rw [decL_go (i2 rfl) hps, map_pre] at hinv
      clear i1 i2 hps hcf
      have d3' := d3
      repeat (first | refine gG ?_ | refine zN1 (fun hlen => ?_) | refine zN2 (fun hlen => ?_) | refine zAl (fun _ => ?_) | refine zAp (fun _ => ?_))
      refine zCall (hcut) ?_
      rintro _ rfl
      repeat (first | refine gG ?_ | refine zN1 (fun hlen => ?_) | refine zN2 (fun hlen => ?_) | refine zAl (fun _ => ?_) | refine zAp (fun _ => ?_))
      refine zCall (hrd) ?_
      rintro _ rfl
      repeat (first | refine gG ?_ | refine zN1 (fun hlen => ?_) | refine zN2 (fun hlen => ?_) | refine zAl (fun _ => ?_) | refine zAp (fun _ => ?_))
      exact ⟨(i + 1, r, ws ++ [⟨fr, to, wl⟩], _), ⟨by simp only; omega, by simp only; omega, by simp only [List.length_append, List.length_cons, List.length_nil]; omega, by rw [← hinv, show n9 - (i + 1) = j by omega]⟩, by simp only; omega, x_wkd 4 ⟨rfl, rfl, trivial⟩ (by simp only [List.flatMap_append, List.flatMap_cons, List.flatMap_nil, List.append_nil, List.length_append, List.length_cons, List.length_nil]; rfl) (by repeat (first | exact ag_refl | refine ag_upd rfl ?_ | refine ag_at rfl rfl ?_))⟩
  subst hie
  rw [Nat.sub_self] at hinv
  have h1 : decL wayS i bb = some (ws, bc) := by rw [← hinv, decL]; simp
  rw [h1] at e
  dsimp only at e
  clear hinv h1 hi hwl
  have d3 : decide ((i : Int) < (i : Int)) = false := decide_eq_false (by omega)
  refine x_fzc 1 2 ?_
  repeat (first | refine gG ?_ | refine zN1 (fun hlen => ?_) | refine zN2 (fun hlen => ?_) | refine zAl (fun _ => ?_) | refine zAp (fun _ => ?_))
  first | refine zR (ts := [(Snp.mk tm ps ws).t, .lit (.bool (decide ((bc.length : Int) = 0)))]) ?_ | refine zQ (ts := [(Snp.mk tm ps ws).t, .lit (.bool (decide ((bc.length : Int) = 0)))]) ?_
  refine ⟨⟨tm, ps, ws⟩, _, rfl, ?_⟩
  rw [e]
  cases bc with
  | nil => rfl
  | cons a l =>
    have h3 : ¬ (((a :: l).length : Int) = 0) := by simp only [List.length_cons]; omega
    rw [if_neg (List.cons_ne_nil a l), decide_eq_false h3]
    rfl
end Go.Proofs.YthgackidonocpaaGreat
namespace Go.Proofs.YthgackidonocpaaGreat
open Go.RowKit
theorem decL_mem {α : Type} {g : List UInt8 → Option α} : ∀ {k : Nat} {b : List UInt8} {l : List α} {r : List UInt8}, decL g k b = some (l, r) → l.length = k ∧ r.length ≤ b.length ∧ ∀ a ∈ l, ∃ x, x.length ≤ b.length ∧ g x = some a
  | 0, b, l, r, h => by
    rw [decL] at h
    simp only [Option.some.injEq, Prod.mk.injEq] at h
    obtain ⟨rfl, rfl⟩ := h
    exact ⟨rfl, Nat.le_refl _, fun a ha => absurd ha (by simp)⟩
  | k + 1, b, l, r, h => by
    have hcf : cutF b = cutF b := rfl
    cases hc : cutS b with
    | none => rw [decL_no hc] at h; exact absurd h (by simp)
    | some q =>
      obtain ⟨x, r1⟩ := q
      have e1 : cutF b = (x, r1, true) := by unfold cutF; rw [hc]
      obtain ⟨-, -, i3, i4⟩ := cutF_is e1
      cases hg : g x with
      | none => rw [decL_bad hc hg] at h; exact absurd h (by simp)
      | some a =>
        rw [decL_go hc hg] at h
        cases hd : decL g k r1 with
        | none => rw [hd] at h; exact absurd h (by simp)
        | some p =>
          obtain ⟨l1, r2⟩ := p
          rw [hd] at h
          simp only [Option.map_some, Option.some.injEq, Prod.mk.injEq] at h
          obtain ⟨rfl, rfl⟩ := h
          obtain ⟨j1, j2, j3⟩ := decL_mem hd
          refine ⟨by simp [j1], by omega, fun c hm => ?_⟩
          rcases List.mem_cons.1 hm with rfl | hm
          · exact ⟨x, i3, hg⟩
          · obtain ⟨y, y1, y2⟩ := j3 c hm
            exact ⟨y, by omega, y2⟩
theorem stW_in (n : Int) (x : UInt8) : inI (stW n x) := by
  unfold stW
  simp only [inI, IntKind.wrap_i64]
  omega
theorem rdW_in (l : List UInt8) : inI (rdW l) := by
  have gen : ∀ (l : List UInt8) (n : Int), inI n → inI (l.foldl stW n) := by
    intro l
    induction l with
    | nil => exact fun n h => h
    | cons a l ih => exact fun n _ => ih _ (stW_in n a)
  exact gen l 0 (by simp [inI])
theorem parS_some {x : List UInt8} {p : Par} (h : parS x = some p) : p = (rdP x).1 := by
  unfold parS at h
  split at h
  · exact (Option.some.inj h).symm
  · exact absurd h (by simp)
theorem wayS_lets {x : List UInt8} {w : Wy} (h : wayS x = some w) : ∀ l ∈ w.lets, l.tiny := by
  rw [wayS_F] at h
  split at h
  · obtain rfl := Option.some.inj h
    unfold wayF
    split
    · split
      · intro l hl
        obtain ⟨z, -, rfl⟩ := List.mem_map.1 hl
        exact rdLet_small z
      · intro l hl; simp [Wy.zero] at hl
    · intro l hl; simp [Wy.zero] at hl
  · exact absurd h (by simp)
theorem decS_small {b : List UInt8} {s : Snp} (h : decS b = some s) (hb : b.length ≤ 2097152) : s.Small ∧ s.pars.length ≤ 255 ∧ s.ways.length ≤ 255 := by
  unfold decS at h
  split at h
  · exact absurd h (by simp)
  · rename_i hlen
    have u8 := (b.getD 8 0).toNat_lt
    have u9 := (b.getD 9 0).toNat_lt
    cases hp : decL parS (b.getD 8 0).toNat (b.drop 10) with
    | none => rw [hp] at h; exact absurd h (by simp)
    | some q =>
      obtain ⟨ps, r⟩ := q
      rw [hp] at h
      dsimp only at h
      cases hw : decL wayS (b.getD 9 0).toNat r with
      | none => rw [hw] at h; exact absurd h (by simp)
      | some q =>
        obtain ⟨ws, r'⟩ := q
        rw [hw] at h
        dsimp only at h
        split at h
        · obtain rfl := Option.some.inj h
          obtain ⟨a1, a2, a3⟩ := decL_mem hp
          obtain ⟨b1, b2, b3⟩ := decL_mem hw
          refine ⟨⟨fun p hm => ?_, fun w hm => ?_, rdW_in _⟩, by simp only; omega, by simp only; omega⟩
          · obtain ⟨x, x1, x2⟩ := a3 p hm
            rw [parS_some x2]
            exact rdP_small x (by rw [List.length_drop] at x1; omega)
          · obtain ⟨x, x1, x2⟩ := b3 w hm
            exact wayS_lets x2
        · exact absurd h (by simp)
def readS (b : List UInt8) : Snp × Int := match decS b with | none => (Snp.zero, 3) | some s => if s.err = 0 ∧ s.out = b then (s, 0) else (Snp.zero, 3)
def OutN (s : Snp) (e : Int) (t : T) : Prop := t = .tup [s.t, .lit (.int .i64 e)]
set_option maxRecDepth 100000 in
set_option maxHeartbeats 4000000 in
theorem equalB_af (a b : List UInt8) : AF Tryz.prog 15 [bytRow a, bytRow b] (· = .lit (.bool (decide (bs a = bs b)))) := by
  refine af_enter tok Tryz.func15 Tryz.ntmps15 Tryz.results15 rfl (by kernel_rfl) rfl rfl fun F hX => ?_
  repeat (first | refine gG ?_)
  refine zStr a rfl rfl ?_
  repeat (first | refine gG ?_)
  refine zStr b rfl rfl ?_
  repeat (first | refine gG ?_)
  first | refine zR ?_ | refine zQ ?_
  rfl
set_option maxRecDepth 100000 in
set_option maxHeartbeats 4000000 in
theorem readStore_af (b : List UInt8) (hb : b.length ≤ 2097152) : AF Tryz.prog 5 [bytRow b] (OutN (readS b).1 (readS b).2) := by
  have hdc := decode_af b hb
  have hsm := fun s (h : decS b = some s) => decS_small h hb
  have e : ∀ o, decS b = o → readS b = match o with | none => (Snp.zero, 3) | some s => if s.err = 0 ∧ s.out = b then (s, 0) else (Snp.zero, 3) := by rintro _ rfl; rfl
  generalize decS b = o at *
  refine af_enter tok Tryz.func5 Tryz.ntmps5 Tryz.results5 rfl (by kernel_rfl) rfl rfl fun F hX => ?_
  repeat (first | refine gG ?_ | refine zAl (fun _ => ?_))
  refine zCall (hdc) ?_
  rintro _ ⟨⟨tm, ps, ws⟩, k, rfl, ho⟩
  cases k
  · rw [if_neg (by decide)] at ho
    have e0 := e none ho
    clear e hsm ho
    repeat (first | refine gG ?_ | refine zAl (fun _ => ?_))
    first | refine zR (ts := [Snp.zero.t, .lit (.int .i64 3)]) ?_ | refine zQ (ts := [Snp.zero.t, .lit (.int .i64 3)]) ?_
    rw [e0]
    rfl
  · rw [if_pos rfl] at ho
    have e0 := e _ ho
    have hB := storeBytes_af _ (hsm _ ho).1
    dsimp only at e0
    clear e hsm ho
    have hE := equalB_af (Snp.mk tm ps ws).out b
    generalize (Snp.mk tm ps ws).out = ob at *
    generalize (Snp.mk tm ps ws).err = eb at *
    repeat (first | refine gG ?_ | refine zAl (fun _ => ?_))
    refine zCall (hB) ?_
    rintro _ rfl
    cases g1 : decide (eb = 0)
    · repeat (first | refine gG ?_ | refine zAl (fun _ => ?_))
      first | refine zR (ts := [Snp.zero.t, .lit (.int .i64 3)]) ?_ | refine zQ (ts := [Snp.zero.t, .lit (.int .i64 3)]) ?_
      rw [e0, if_neg (fun h => of_decide_eq_false g1 h.1)]
      rfl
    repeat (first | refine gG ?_ | refine zAl (fun _ => ?_))
    refine zCall (hE) ?_
    rintro _ rfl
    cases g2 : decide (bs ob = bs b)
    · repeat (first | refine gG ?_ | refine zAl (fun _ => ?_))
      first | refine zR (ts := [Snp.zero.t, .lit (.int .i64 3)]) ?_ | refine zQ (ts := [Snp.zero.t, .lit (.int .i64 3)]) ?_
      rw [e0, if_neg (fun h => of_decide_eq_false g2 (by rw [h.2]))]
      rfl
    · repeat (first | refine gG ?_ | refine zAl (fun _ => ?_))
      first | refine zR (ts := [(Snp.mk tm ps ws).t, .lit (.int .i64 0)]) ?_ | refine zQ (ts := [(Snp.mk tm ps ws).t, .lit (.int .i64 0)]) ?_
      rw [e0, if_pos ⟨of_decide_eq_true g1, bs_inj (of_decide_eq_true g2)⟩]
      rfl
end Go.Proofs.YthgackidonocpaaGreat
namespace Go.Proofs.YthgackidonocpaaGreat
open Go.RowKit
def longsS : Nat → List UInt8 → Option (List (List UInt8))
  | 0, b => if b = [] then some [] else none
  | f + 1, b => if b = [] then some [] else match cutS b with | none => none | some (x, r) => (longsS f r).map fun q => x :: q
theorem longsS_nil : ∀ f, longsS f [] = some []
  | 0 => rfl
  | f + 1 => rfl
theorem longsS_no {f : Nat} {b : List UInt8} (h : cutS b = none) (hb : b ≠ []) : longsS (f + 1) b = none := by rw [longsS, if_neg hb, h]
theorem longsS_go {f : Nat} {b x r : List UInt8} (h : cutS b = some (x, r)) (hb : b ≠ []) : longsS (f + 1) b = (longsS f r).map fun q => x :: q := by rw [longsS, if_neg hb, h]
theorem longs_to : ∀ (l : List (List UInt8)) (f : Nat), l.length ≤ f → (∀ x ∈ l, x.length < 4294967296) → longsS f (l.flatMap partB) = some l
  | [], f, _, _ => longsS_nil f
  | a :: l, f + 1, hf, h => by
    rw [List.flatMap_cons]
    have hne : partB a ++ l.flatMap partB ≠ [] := by
      intro h0
      have := congrArg List.length h0
      simp only [List.length_append, partB_len, List.length_nil] at this
      omega
    rw [longsS_go (cutS_to a _ (h a (by simp))) hne, longs_to l f (by simpa using hf) fun x hx => h x (List.mem_cons_of_mem _ hx)]
    rfl
def allS {α : Type} (g : List UInt8 → Option α) : List (List UInt8) → Option (List α)
  | [] => some []
  | x :: l => match g x with | none => none | some a => (allS g l).map fun q => a :: q
theorem allS_snoc {α : Type} {g : List UInt8 → Option α} {t : List UInt8} {a : α} (ht : g t = some a) : ∀ {l : List (List UInt8)} {q : List α}, allS g l = some q → allS g (l ++ [t]) = some (q ++ [a])
  | [], q, h => by
    obtain rfl : [] = q := Option.some.inj h
    show (match g t with | none => none | some a => (allS g []).map fun q => a :: q) = _
    rw [ht]
    rfl
  | x :: l, q, h => by
    rw [allS] at h
    rw [List.cons_append, allS]
    cases hx : g x with
    | none => rw [hx] at h; exact absurd h (by simp)
    | some c =>
      rw [hx] at h
      dsimp only at h ⊢
      cases hl : allS g l with
      | none => rw [hl] at h; exact absurd h (by simp)
      | some p =>
        rw [hl] at h
        obtain rfl : c :: p = q := Option.some.inj h
        rw [allS_snoc ht hl]
        rfl
theorem allS_bad {α : Type} {g : List UInt8 → Option α} {t : List UInt8} (ht : g t = none) : ∀ {l : List (List UInt8)}, t ∈ l → allS g l = none
  | x :: l, h => by
    rw [allS]
    rcases List.mem_cons.1 h with rfl | h
    · rw [ht]
    · cases hx : g x with
      | none => rfl
      | some c => rw [allS_bad ht h]; rfl
theorem allS_to {α : Type} {g : List UInt8 → Option α} {enc : α → List UInt8} : ∀ (l : List α), (∀ a ∈ l, g (enc a) = some a) → allS g (l.map enc) = some l
  | [], _ => rfl
  | a :: l, h => by
    rw [List.map_cons, allS, h a (by simp), allS_to l fun b hb => h b (List.mem_cons_of_mem _ hb)]
    rfl
/-- a way, where it may end in part of a letter -/
def wayD (b : List UInt8) : Option Wy :=
  match b with
  | x :: y :: r => if (scanS (r.length + 1) r).1.all letOk = true then some ⟨x.toNat, y.toNat, (scanS (r.length + 1) r).1.map fun z => (rdLet z).1⟩ else none
  | _ => none
theorem wayD_of {b : List UInt8} {w : Wy} (h : wayS b = some w) : wayD b = some w := by
  match b, h with
  | [], h => exact h
  | [x], h => exact h
  | x :: y :: r, h =>
    unfold wayS at h
    unfold wayD
    dsimp only at h ⊢
    split at h
    · rename_i h1
      rw [Bool.and_eq_true] at h1
      rw [if_pos h1.1]
      exact h
    · exact absurd h (by simp)
def docD (b : List UInt8) : Option Snp :=
  if b.length < 10 then none else
    match longsS b.length (b.drop 10) with
    | none => none
    | some l =>
      if l.length = (b.getD 8 0).toNat + (b.getD 9 0).toNat then
        match allS parS (l.take (b.getD 8 0).toNat) with
        | none => none
        | some ps =>
          match allS wayD (l.drop (b.getD 8 0).toNat) with
          | none => none
          | some ws => some ⟨rdW (b.take 8), ps, ws⟩
      else none
def docS (b : List UInt8) : Snp × Int := match docD b with | none => (Snp.zero, 3) | some s => if s.err = 0 ∧ s.out = b then (s, 0) else (Snp.zero, 3)
theorem flat_enc {α : Type} (enc : α → List UInt8) (l : List α) : (l.map enc).flatMap partB = l.flatMap fun a => partB (enc a) := flat_map enc partB l
theorem docD_to {s : Snp} (h : s.err = 0) (ho : s.Ok) (hl : s.bytes.length ≤ 2097152) : docD s.bytes = some s := by
  obtain ⟨hc, hb, -⟩ := Snp.not_big h
  have hR := Snp.right hc
  have e0 : s.bytes = headB s ++ (s.pars.flatMap parPart ++ s.ways.flatMap wayPart) := by simp only [Snp.bytes, List.append_assoc]
  obtain ⟨a1, a2, a3, a4, a5⟩ := head_at s (s.pars.flatMap parPart ++ s.ways.flatMap wayPart) hR.pars hR.ways
  rw [← e0] at a1 a2 a3 a4 a5
  have hpl : ∀ p ∈ s.pars, p.bytes.length ≤ 2097152 := fun p hp => by
    have := flat_mem parPart hp
    rw [e0] at hl
    simp only [List.length_append] at hl
    unfold parPart at this
    rw [partB_len] at this
    have e : (List.flatMap (fun p => partB p.bytes) s.pars).length = (s.pars.flatMap parPart).length := rfl
    omega
  have hwl : ∀ w ∈ s.ways, (wayText w).length ≤ 2097152 := fun w hw => by
    have := flat_mem wayPart hw
    rw [e0] at hl
    simp only [List.length_append] at hl
    unfold wayPart at this
    rw [partB_len] at this
    have e : (List.flatMap (fun w => partB (wayText w)) s.ways).length = (s.ways.flatMap wayPart).length := rfl
    omega
  have e1 : s.pars.flatMap parPart ++ s.ways.flatMap wayPart = (s.pars.map Par.bytes ++ s.ways.map wayText).flatMap partB := by
    rw [List.flatMap_append, flat_enc, flat_enc]
    rfl
  have hn : (s.pars.map Par.bytes ++ s.ways.map wayText).length = s.pars.length + s.ways.length := by simp
  have hle : (s.pars.map Par.bytes ++ s.ways.map wayText).length ≤ s.bytes.length := by
    have hd : (s.bytes.drop 10).length ≤ s.bytes.length := by rw [List.length_drop]; omega
    rw [a4, e1] at hd
    refine Nat.le_trans ?_ hd
    generalize s.pars.map Par.bytes ++ s.ways.map wayText = l
    induction l with
    | nil => simp
    | cons a l ih => simp only [List.length_cons, List.flatMap_cons, List.length_append, partB_len]; omega
  have d1 : longsS s.bytes.length (s.bytes.drop 10) = some (s.pars.map Par.bytes ++ s.ways.map wayText) := by
    rw [a4, e1]
    refine longs_to _ _ hle fun x hx => ?_
    rcases List.mem_append.1 hx with hx | hx
    · obtain ⟨p, hp, rfl⟩ := List.mem_map.1 hx
      have := hpl p hp
      omega
    · obtain ⟨w, hw, rfl⟩ := List.mem_map.1 hx
      have := hwl w hw
      omega
  have t1 : (s.pars.map Par.bytes ++ s.ways.map wayText).take s.pars.length = s.pars.map Par.bytes := by rw [List.take_append_of_le_length (by simp), List.take_of_length_le (by simp)]
  have t2 : (s.pars.map Par.bytes ++ s.ways.map wayText).drop s.pars.length = s.ways.map wayText := by rw [List.drop_append_of_le_length (by simp), List.drop_of_length_le (by simp)]; rfl
  have p1 : allS parS (s.pars.map Par.bytes) = some s.pars := allS_to s.pars fun p hp => parS_to (hR.par p hp) (ho.par p hp)
  have p2 : allS wayD (s.ways.map wayText) = some s.ways := allS_to s.ways fun w hw => wayD_of (wayS_to (hR.way w hw).1 (fun x hx => ⟨(hR.way w hw).2.2 x hx, ho.way w hw x hx, by
      have h1 := hwl w hw
      have h2 := flat_mem pkOne (List.mem_map_of_mem (f := Lt.bytes) hx)
      rw [pkOne_len] at h2
      simp only [wayText, List.length_append] at h1
      omega⟩) (hb w hw))
  have ht : rdW (numB s.time 8) = s.time := by
    have h0 := hR.time
    have h1 := ho.time
    unfold inI at h1
    obtain ⟨n, hn⟩ := nat_of h0
    rw [hn]
    exact rd8 (by omega)
  unfold docD
  rw [if_neg a5, d1]
  dsimp only
  rw [a2, a3, if_pos hn, t1, p1]
  dsimp only
  rw [t2, p2]
  dsimp only
  rw [a1, ht]
theorem allS_mem {α : Type} {g : List UInt8 → Option α} : ∀ {l : List (List UInt8)} {q : List α}, allS g l = some q → ∀ a ∈ q, ∃ x, x ∈ l ∧ g x = some a
  | [], q, h, a, ha => by
    obtain rfl : [] = q := Option.some.inj h
    exact absurd ha (by simp)
  | x :: l, q, h, a, ha => by
    rw [allS] at h
    cases hx : g x with
    | none => rw [hx] at h; exact absurd h (by simp)
    | some c =>
      rw [hx] at h
      dsimp only at h
      cases hl : allS g l with
      | none => rw [hl] at h; exact absurd h (by simp)
      | some p =>
        rw [hl] at h
        obtain rfl : c :: p = q := Option.some.inj h
        rcases List.mem_cons.1 ha with rfl | ha
        · exact ⟨x, by simp, hx⟩
        · obtain ⟨y, y1, y2⟩ := allS_mem hl a ha
          exact ⟨y, List.mem_cons_of_mem _ y1, y2⟩
theorem longsS_mem : ∀ {f : Nat} {b : List UInt8} {l : List (List UInt8)}, longsS f b = some l → ∀ x ∈ l, x.length ≤ b.length
  | 0, b, l, h, x, hx => by
    rw [longsS] at h
    split at h
    · obtain rfl := Option.some.inj h
      exact absurd hx (by simp)
    · exact absurd h (by simp)
  | f + 1, b, l, h, x, hx => by
    by_cases hb : b = []
    · rw [hb, longsS_nil] at h
      obtain rfl := Option.some.inj h
      exact absurd hx (by simp)
    · cases hc : cutS b with
      | none => rw [longsS_no hc hb] at h; exact absurd h (by simp)
      | some q =>
        obtain ⟨y, r⟩ := q
        rw [longsS_go hc hb] at h
        have e1 : cutF b = (y, r, true) := by unfold cutF; rw [hc]
        obtain ⟨-, -, i3, i4⟩ := cutF_is e1
        cases hl : longsS f r with
        | none => rw [hl] at h; exact absurd h (by simp)
        | some p =>
          rw [hl] at h
          obtain rfl : y :: p = l := Option.some.inj h
          rcases List.mem_cons.1 hx with rfl | hx
          · exact i3
          · have := longsS_mem hl x hx
            omega
theorem wayD_lets {x : List UInt8} {w : Wy} (h : wayD x = some w) : ∀ l ∈ w.lets, l.tiny := by
  unfold wayD at h
  split at h
  · split at h
    · obtain rfl := Option.some.inj h
      intro l hl
      obtain ⟨z, -, rfl⟩ := List.mem_map.1 hl
      exact rdLet_small z
    · exact absurd h (by simp)
  · exact absurd h (by simp)
theorem docParts_small {tm : Int} (ht : inI tm) {l : List (List UInt8)} {n : Nat} {ps : List Par} {ws : List Wy} (hl : ∀ x ∈ l, x.length ≤ 2097152) (h1 : allS parS (l.take n) = some ps) (h2 : allS wayD (l.drop n) = some ws) : (Snp.mk tm ps ws).Small := by
  refine ⟨fun p hm => ?_, fun w hm => ?_, ht⟩
  · obtain ⟨x, x1, x2⟩ := allS_mem h1 p hm
    rw [parS_some x2]
    exact rdP_small x (hl x (List.mem_of_mem_take x1))
  · obtain ⟨x, x1, x2⟩ := allS_mem h2 w hm
    exact wayD_lets x2
theorem docD_small {b : List UInt8} {s : Snp} (h : docD b = some s) (hb : b.length ≤ 2097152) : s.Small := by
  unfold docD at h
  split at h
  · exact absurd h (by simp)
  · cases hl : longsS b.length (b.drop 10) with
    | none => rw [hl] at h; exact absurd h (by simp)
    | some l =>
      rw [hl] at h
      dsimp only at h
      split at h
      · cases hp : allS parS (l.take (b.getD 8 0).toNat) with
        | none => rw [hp] at h; exact absurd h (by simp)
        | some ps =>
          rw [hp] at h
          dsimp only at h
          cases hw : allS wayD (l.drop (b.getD 8 0).toNat) with
          | none => rw [hw] at h; exact absurd h (by simp)
          | some ws =>
            rw [hw] at h
            obtain rfl := Option.some.inj h
            exact docParts_small (rdW_in _) (fun x hx => by have := longsS_mem hl x hx; rw [List.length_drop] at this; omega) hp hw
      · exact absurd h (by simp)
theorem same_snap (b : List UInt8) (hb : b.length ≤ 2097152) : readS b = docS b := by
  have key : ∀ s : Snp, s.err = 0 → s.out = b → s.Small → decS b = some s ∧ docD b = some s := by
    intro s h1 h2 h3
    obtain ⟨-, -, e⟩ := Snp.not_big h1
    rw [e] at h2
    subst h2
    exact ⟨decS_to h1 h3.ok hb, docD_to h1 h3.ok hb⟩
  unfold readS docS
  cases h1 : decS b with
  | none =>
    dsimp only
    cases h2 : docD b with
    | none => rfl
    | some s =>
      dsimp only
      by_cases h : s.err = 0 ∧ s.out = b
      · have := (key s h.1 h.2 (docD_small h2 hb)).1
        rw [h1] at this
        exact absurd this (by simp)
      · rw [if_neg h]
  | some s =>
    dsimp only
    by_cases h : s.err = 0 ∧ s.out = b
    · rw [(key s h.1 h.2 (decS_small h1 hb).1).2]
    · rw [if_neg h]
      cases h2 : docD b with
      | none => rfl
      | some s' =>
        dsimp only
        by_cases h' : s'.err = 0 ∧ s'.out = b
        · have := (key s' h'.1 h'.2 (docD_small h2 hb)).1
          rw [h1] at this
          obtain rfl := Option.some.inj this
          exact absurd h' h
        · rw [if_neg h']
end Go.Proofs.YthgackidonocpaaGreat
