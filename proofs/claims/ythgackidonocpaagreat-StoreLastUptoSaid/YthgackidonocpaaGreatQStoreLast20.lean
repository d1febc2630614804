/-
  Texts of this proof, part 20: Txb Txc Txa Txm Open Law OpenT OpenB OpenV.
-/
import Derived.Test.YthgackidonocpaaGreatQStoreLast19
import Derived.Deep.Slices
import Derived.JoinedCond
import Derived.MapKept
import Derived.OpenShut
import Derived.ProofKit
import Derived.Test.YthgackidonocpaaGreatRows
namespace Go.Proofs.YthgackidonocpaaGreat
open Go.RowKit
/-- the parts of a log, read one after the other: a fault, or the last one, how many, how much is left -/
def lastF : Nat → List UInt8 → Snp → Nat → Int ⊕ (Snp × Nat × Nat)
  | 0, b, s, n => .inr (s, n, b.length)
  | f + 1, b, s, n => match cutS b with
    | none => .inr (s, n, b.length)
    | some (x, r) => if (readS x).2 = 0 then lastF f r (readS x).1 (n + 1) else .inl (readS x).2
theorem lastF_no {f : Nat} {b : List UInt8} {s : Snp} {n : Nat} (h : cutS b = none) : lastF f b s n = .inr (s, n, b.length) := by
  cases f with
  | zero => rfl
  | succ f => rw [lastF, h]
theorem lastF_bad {f : Nat} {b x r : List UInt8} {s : Snp} {n : Nat} (h : cutS b = some (x, r)) (he : ¬ (readS x).2 = 0) : lastF (f + 1) b s n = .inl (readS x).2 := by rw [lastF, h]; dsimp only; rw [if_neg he]
theorem lastF_go {f : Nat} {b x r : List UInt8} {s : Snp} {n : Nat} (h : cutS b = some (x, r)) (he : (readS x).2 = 0) : lastF (f + 1) b s n = lastF f r (readS x).1 (n + 1) := by rw [lastF, h]; dsimp only; rw [if_pos he]
def lastE (m : Nat) : Int ⊕ (Snp × Nat × Nat) → Snp × Nat × Nat × Int
  | .inl e => (Snp.zero, 0, 0, e)
  | .inr (s, n, k) => if n = 0 then (Snp.zero, 0, 0, 4) else (s, n, m - k, 0)
def lastS (b : List UInt8) : Snp × Nat × Nat × Int := lastE b.length (lastF (b.length + 1) b Snp.zero 0)
def OutLs (q : Snp × Nat × Nat × Int) (t : T) : Prop := t = .tup [q.1.t, .lit (.int .i64 (q.2.1 : Int)), .lit (.int .i64 (q.2.2.1 : Int)), .lit (.int .i64 q.2.2.2)]
theorem cut_less {b x r : List UInt8} (h : cutS b = some (x, r)) : r.length + x.length + 4 = b.length := by
  unfold cutS at h
  split at h
  · exact absurd h (by simp)
  · rename_i h4
    obtain ⟨n0, n1⟩ := rd4_in (l := b.take 4) (by simp; omega)
    split at h
    · exact absurd h (by simp)
    · simp only [Option.some.injEq, Prod.mk.injEq] at h
      obtain ⟨rfl, rfl⟩ := h
      simp only [List.length_take, List.length_drop]
      omega
set_option maxRecDepth 100000 in
set_option maxHeartbeats 4000000 in
theorem last_af (b : List UInt8) (hb : b.length ≤ 2097152) : AF Tryz.prog 8 [bytRow b] (OutLs (lastS b)) := by
  refine af_enter tok Tryz.func8 Tryz.ntmps8 Tryz.results8 rfl (by kernel_rfl) rfl rfl fun F hX => ?_
  repeat (first | refine gG ?_ | refine zN1 (fun hlen => ?_) | refine zN2 (fun hlen => ?_) | refine zAl (fun _ => ?_))
  rename_i b0 b1
  refine x_cells 1 [.lit (.int .i64 0), .row 0 8 [], .row 0 3 []] ?_
  refine x_loop [3, 4, 5, 7, 8, 9, 10, 11, 12, 13, 15, 16, 17, 18, 19, 20, 21, 22, 23, 24, 25, 26, 27, 28, 29, 30, 31, 32, 33, 34, 35] (fun s : List UInt8 × Nat × Snp × Nat => [(8, .c (bytRow s.1)), (7, .c (.lit (.int .i64 (s.2.2.2 : Nat))))]) (fun s => [.box b0 26 [.c (.lit (.int .i64 0)), .c (.lit (.slice none 0 0)), .c (.lit (.slice none 0 0))], .box b1 26 [.c (.lit (.int .i64 s.2.2.1.time)), .c (parRow s.2.2.1.pars), .c (wayRow s.2.2.1.ways)]])
    (fun s => s.1.length < s.2.1 ∧ s.2.2.2 + s.1.length ≤ b.length ∧ lastF s.2.1 s.1 s.2.2.1 s.2.2.2 = lastF (b.length + 1) b Snp.zero 0) (fun s => s.1.length) (b, b.length + 1, Snp.zero, 0) ⟨Nat.lt_succ_self _, by simp, rfl⟩ ⟨rfl, rfl, trivial⟩ rfl ?_
  rintro ⟨bb, f, ⟨tm, ps, ws⟩, n⟩ ⟨hf, hn, hinv⟩
  dsimp only at hf hn hinv ⊢
  have hcut := cut_af bb
  rcases hcf : cutF bb with ⟨x, r, o⟩
  obtain ⟨i1, i2, i3, i4⟩ := cutF_is hcf
  rw [hcf] at hcut
  have e : ∀ z, lastF (b.length + 1) b Snp.zero 0 = z → lastS b = lastE b.length z := by rintro _ rfl; rfl
  cases o
  · rw [lastF_no (i1 rfl)] at hinv
    have e1 := e _ hinv.symm
    clear e hinv hcf i1 i2 hf
    cases g1 : decide ((n : Int) = 0)
    · have hn0 : ¬ n = 0 := fun h => of_decide_eq_false g1 (by omega)
      have e2 : lastS b = (⟨tm, ps, ws⟩, n, b.length - bb.length, 0) := by rw [e1]; unfold lastE; dsimp only; rw [if_neg hn0]
      have e3 : ((b.length : Int) - (bb.length : Int)) = ((b.length - bb.length : Nat) : Int) := by omega
      clear e1
      have g1' := g1
      repeat (first | refine gG ?_ | refine zN1 (fun hlen => ?_) | refine zN2 (fun hlen => ?_) | refine zAl (fun _ => ?_))
      refine zCall (hcut) ?_
      rintro _ rfl
      repeat (first | refine gG ?_ | refine zN1 (fun hlen => ?_) | refine zN2 (fun hlen => ?_) | refine zAl (fun _ => ?_))
      refine zSub ?_
      repeat (first | refine gG ?_ | refine zN1 (fun hlen => ?_) | refine zN2 (fun hlen => ?_) | refine zAl (fun _ => ?_))
      first | refine zR (ts := [(Snp.mk tm ps ws).t, .lit (.int .i64 (n : Int)), .lit (.int .i64 ((b.length : Int) - (bb.length : Int))), .lit (.int .i64 0)]) ?_ | refine zQ (ts := [(Snp.mk tm ps ws).t, .lit (.int .i64 (n : Int)), .lit (.int .i64 ((b.length : Int) - (bb.length : Int))), .lit (.int .i64 0)]) ?_
      rw [e2, e3]
      rfl
    · have hn0 : n = 0 := by have := of_decide_eq_true g1; omega
      have e2 : lastS b = (Snp.zero, 0, 0, 4) := by rw [e1]; unfold lastE; dsimp only; rw [if_pos hn0]
      clear e1
      have g1' := g1
      repeat (first | refine gG ?_ | refine zN1 (fun hlen => ?_) | refine zN2 (fun hlen => ?_) | refine zAl (fun _ => ?_))
      refine zCall (hcut) ?_
      rintro _ rfl
      repeat (first | refine gG ?_ | refine zN1 (fun hlen => ?_) | refine zN2 (fun hlen => ?_) | refine zAl (fun _ => ?_))
      first | refine zR (ts := [Snp.zero.t, .lit (.int .i64 0), .lit (.int .i64 0), .lit (.int .i64 4)]) ?_ | refine zQ (ts := [Snp.zero.t, .lit (.int .i64 0), .lit (.int .i64 0), .lit (.int .i64 4)]) ?_
      rw [e2]
      rfl
  · obtain ⟨f, rfl⟩ : ∃ g, f = g + 1 := ⟨f - 1, by omega⟩
    have hcl := cut_less (i2 rfl)
    have hrd := readStore_af x (by omega)
    have h5 : ∀ q, readS x = q → (¬ q.2 = 0 → lastF (b.length + 1) b Snp.zero 0 = .inl q.2) ∧ (q.2 = 0 → lastF f r q.1 (n + 1) = lastF (b.length + 1) b Snp.zero 0) := by
      rintro _ rfl
      exact ⟨fun h => by rw [← hinv, lastF_bad (i2 rfl) h], fun h => by rw [← hinv, lastF_go (i2 rfl) h]⟩
    rcases hq : readS x with ⟨⟨tm2, ps2, ws2⟩, e0⟩
    rw [hq] at hrd
    obtain ⟨j1, j2⟩ := h5 _ hq
    dsimp only at hrd j1 j2
    clear h5 hq hinv hcf i1 i2
    cases c1 : decide (e0 = 0)
    · have e1 := e _ (j1 (of_decide_eq_false c1))
      clear e j1 j2
      have c1' := c1
      repeat (first | refine gG ?_ | refine zN1 (fun hlen => ?_) | refine zN2 (fun hlen => ?_) | refine zAl (fun _ => ?_))
      refine zCall (hcut) ?_
      rintro _ rfl
      repeat (first | refine gG ?_ | refine zN1 (fun hlen => ?_) | refine zN2 (fun hlen => ?_) | refine zAl (fun _ => ?_))
      refine zCall (hrd) ?_
      rintro _ rfl
      repeat (first | refine gG ?_ | refine zN1 (fun hlen => ?_) | refine zN2 (fun hlen => ?_) | refine zAl (fun _ => ?_))
      first | refine zR (ts := [Snp.zero.t, .lit (.int .i64 0), .lit (.int .i64 0), .lit (.int .i64 e0)]) ?_ | refine zQ (ts := [Snp.zero.t, .lit (.int .i64 0), .lit (.int .i64 0), .lit (.int .i64 e0)]) ?_
      rw [e1]
      rfl
    · have j3 := j2 (of_decide_eq_true c1)
      clear e j1 j2
      have c1' := c1
      repeat (first | refine gG ?_ | refine zN1 (fun hlen => ?_) | refine zN2 (fun hlen => ?_) | refine zAl (fun _ => ?_))
      refine zCall (hcut) ?_
      rintro _ rfl
      repeat (first | refine gG ?_ | refine zN1 (fun hlen => ?_) | refine zN2 (fun hlen => ?_) | refine zAl (fun _ => ?_))
      refine zCall (hrd) ?_
      rintro _ rfl
      repeat (first | refine gG ?_ | refine zN1 (fun hlen => ?_) | refine zN2 (fun hlen => ?_) | refine zAl (fun _ => ?_))
      exact ⟨(r, f, ⟨tm2, ps2, ws2⟩, n + 1), ⟨by simp only; omega, by simp only; omega, j3⟩, by simp only; omega, x_wkd 2 ⟨rfl, rfl, trivial⟩ rfl (by repeat (first | exact ag_refl | refine ag_upd rfl ?_ | refine ag_at rfl rfl ?_))⟩
end Go.Proofs.YthgackidonocpaaGreat
namespace Go.Proofs.YthgackidonocpaaGreat
open Go.RowKit
theorem Snp.ts_len (s : Snp) : s.ts.length = 3 := rfl
theorem four_drop {b : List UInt8} {k : Nat} (h : ¬ (b.drop k).length < 4) : ∃ x y z w, b[k]? = some x ∧ b[k + 1]? = some y ∧ b[k + 2]? = some z ∧ b[k + 3]? = some w ∧ (b.drop k).take 4 = [x, y, z, w] := by
  obtain ⟨x, y, z, w, h0, h1, h2, h3, h4⟩ := four_of h
  rw [List.getElem?_drop] at h0 h1 h2 h3
  exact ⟨x, y, z, w, h0, h1, h2, h3, h4⟩
def lastOf (l : List Snp) : Snp := l.getLastD Snp.zero
theorem lastOf_snoc (l : List Snp) (s : Snp) : lastOf (l ++ [s]) = s := by simp [lastOf]
theorem lastOf_at {l : List Snp} (h : ¬ l.length = 0) : l[l.length - 1]? = some (lastOf l) := by
  unfold lastOf
  rw [List.getLastD_eq_getLast?, List.getLast?_eq_getElem?]
  have hh : l.length - 1 < l.length := by omega
  rw [List.getElem?_eq_getElem hh]
  rfl
set_option maxRecDepth 100000 in
set_option maxHeartbeats 4000000 in
theorem snapLast_af (b : List UInt8) (hb : b.length ≤ 2097152) : AF Tryz.prog 9 [bytRow b] (OutLs (lastS b)) := by
  have e : ∀ z, lastF (b.length + 1) b Snp.zero 0 = z → lastS b = lastE b.length z := by rintro _ rfl; rfl
  refine af_enter tok Tryz.func9 Tryz.ntmps9 Tryz.results9 rfl (by kernel_rfl) rfl rfl fun F hX => ?_
  repeat (first | refine gG ?_ | refine zN1 (fun hlen => ?_) | refine zN2 (fun hlen => ?_) | refine zAl (fun _ => ?_) | refine zAp (fun _ => ?_))
  rename_i b0
  refine x_own 6 26 3 rfl rfl rfl rfl rfl ?_
  refine x_loop [3, 4, 5, 6, 7, 8, 9, 10, 11, 12, 13, 14, 15, 16, 17, 18, 19, 20, 21, 22, 23, 24, 25, 26, 27, 28, 29, 30, 31, 32, 33, 34, 35, 36, 37, 38, 39, 40, 41, 42, 43, 44, 45, 46, 47, 48, 49, 50, 51, 52, 53, 54, 55, 56, 57, 58, 59, 60, 61, 62, 63, 64, 65, 66, 67, 68, 69, 70, 71, 72, 73, 74, 75] (fun s : Nat × Nat × List Snp × Value => [(7, .c (.lit (.int .i64 (s.1 : Nat)))), (6, .own 1 s.2.2.2)]) (fun s => [.box b0 26 [.c (.lit (.int .i64 0)), .c (.lit (.slice none 0 0)), .c (.lit (.slice none 0 0))], .row s.2.2.2 26 3 s.2.2.1.length (s.2.2.1.flatMap Snp.ts)])
    (fun s => s.1 ≤ b.length ∧ s.2.2.1.length ≤ s.1 ∧ (b.drop s.1).length < s.2.1 ∧ lastF s.2.1 (b.drop s.1) (lastOf s.2.2.1) s.2.2.1.length = lastF (b.length + 1) b Snp.zero 0) (fun s => b.length - s.1) (0, b.length + 1, [], .slice none 0 0) ⟨Nat.zero_le _, Nat.le_refl _, by simp, by simp [lastOf]⟩ ⟨rfl, rfl, trivial⟩ rfl ?_
  rintro ⟨k, f, all, v⟩ ⟨hk, hal, hf, hinv⟩
  dsimp only at hk hal hf hinv ⊢
  have hdl : (b.drop k).length = b.length - k := List.length_drop
  have hk4 : IntKind.i64.wrap ((k : Int) + 4) = ((k + 4 : Nat) : Int) := by rw [IntWalk.i64_in _ (by omega)]; omega
  have stop : cutS (b.drop k) = none → lastS b = if all.length = 0 then (Snp.zero, 0, 0, 4) else (lastOf all, all.length, k, 0) := fun hc => by
    rw [lastF_no hc] at hinv
    rw [e _ hinv.symm]
    unfold lastE
    dsimp only
    rw [hdl, show b.length - (b.length - k) = k by omega]
  by_cases h4 : (b.drop k).length < 4
  · have d1 : decide (((k + 4 : Nat) : Int) ≤ (b.length : Int)) = false := decide_eq_false (by omega)
    have hs := stop (by unfold cutS; rw [if_pos h4])
    clear stop e hinv
    by_cases hn0 : all.length = 0
    · rw [if_pos hn0] at hs
      have d2 : decide ((all.length : Int) = 0) = true := decide_eq_true (by omega)
      refine x_fz 6 rfl rfl rfl rfl ?_
      repeat (first | refine gG ?_ | refine zN1 (fun hlen => ?_) | refine zN2 (fun hlen => ?_) | refine zAl (fun _ => ?_) | refine zAp (fun _ => ?_))
      refine lo_add rfl rfl hk4 ?_
      repeat (first | refine gG ?_ | refine zN1 (fun hlen => ?_) | refine zN2 (fun hlen => ?_) | refine zAl (fun _ => ?_) | refine zAp (fun _ => ?_))
      first | refine zR (ts := [Snp.zero.t, .lit (.int .i64 0), .lit (.int .i64 0), .lit (.int .i64 4)]) ?_ | refine zQ (ts := [Snp.zero.t, .lit (.int .i64 0), .lit (.int .i64 0), .lit (.int .i64 4)]) ?_
      rw [hs]
      rfl
    · rw [if_neg hn0] at hs
      have d2 : decide ((all.length : Int) = 0) = false := decide_eq_false (by omega)
      have ha := lastOf_at hn0
      generalize lastOf all = s at *
      obtain ⟨tm, ps, ws⟩ := s
      refine x_fz 6 rfl rfl rfl rfl ?_
      repeat (first | refine gG ?_ | refine zN1 (fun hlen => ?_) | refine zN2 (fun hlen => ?_) | refine zAl (fun _ => ?_) | refine zAp (fun _ => ?_))
      refine lo_add rfl rfl hk4 ?_
      repeat (first | refine gG ?_ | refine zN1 (fun hlen => ?_) | refine zN2 (fun hlen => ?_) | refine zAl (fun _ => ?_) | refine zAp (fun _ => ?_))
      refine lo_sub rfl rfl (r := ((all.length - 1 : Nat) : Int)) (by rw [IntWalk.i64_in _ (by omega)]; omega) ?_
      repeat (first | refine gG ?_ | refine zN1 (fun hlen => ?_) | refine zN2 (fun hlen => ?_) | refine zAl (fun _ => ?_) | refine zAp (fun _ => ?_))
      refine zIx ((all.length - 1)) ((show all.length - 1 < all.length by omega)) ?_
      repeat (first | refine gG ?_ | refine zN1 (fun hlen => ?_) | refine zN2 (fun hlen => ?_) | refine zAl (fun _ => ?_) | refine zAp (fun _ => ?_))
      refine zEl (flat_at Snp.ts 3 Snp.ts_len ha) (Snp.ts_len _) ?_
      repeat (first | refine gG ?_ | refine zN1 (fun hlen => ?_) | refine zN2 (fun hlen => ?_) | refine zAl (fun _ => ?_) | refine zAp (fun _ => ?_))
      first | refine zR (ts := [(Snp.mk tm ps ws).t, .lit (.int .i64 (all.length : Int)), .lit (.int .i64 (k : Int)), .lit (.int .i64 0)]) ?_ | refine zQ (ts := [(Snp.mk tm ps ws).t, .lit (.int .i64 (all.length : Int)), .lit (.int .i64 (k : Int)), .lit (.int .i64 0)]) ?_
      rw [hs]
      rfl
  have d1 : decide (((k + 4 : Nat) : Int) ≤ (b.length : Int)) = true := decide_eq_true (by omega)
  obtain ⟨x, y, z, w, hx, hy, hz, hw, ht⟩ := four_drop h4
  have xl := x.toNat_lt
  have yl := y.toNat_lt
  have zl := z.toNat_lt
  have wl := w.toNat_lt
  have hrd : rdW ((b.drop k).take 4) = (((x.toNat : Int) * 256 + (y.toNat : Int)) * 256 + (z.toNat : Int)) * 256 + (w.toNat : Int) := by rw [ht, rd4_at]
  obtain ⟨n, hn⟩ : ∃ n : Nat, (((x.toNat : Int) * 256 + (y.toNat : Int)) * 256 + (z.toNat : Int)) * 256 + (w.toNat : Int) = (n : Int) := ⟨(((x.toNat : Int) * 256 + (y.toNat : Int)) * 256 + (z.toNat : Int)) * 256 + (w.toNat : Int) |>.toNat, by omega⟩
  rw [hn] at hrd
  have hk5 : IntKind.i64.wrap (((k + 4 : Nat) : Int) + (n : Int)) = ((k + 4 + n : Nat) : Int) := by rw [IntWalk.i64_in _ (by omega)]; omega
  have a1 : IntKind.i64.wrap ((k : Int) + 1) = ((k + 1 : Nat) : Int) := by rw [IntWalk.i64_in _ (by omega)]; omega
  have a2 : IntKind.i64.wrap ((k : Int) + 2) = ((k + 2 : Nat) : Int) := by rw [IntWalk.i64_in _ (by omega)]; omega
  have a3 : IntKind.i64.wrap ((k : Int) + 3) = ((k + 3 : Nat) : Int) := by rw [IntWalk.i64_in _ (by omega)]; omega
  by_cases hq : (((b.drop k).length - 4 : Nat) : Int) < (n : Int)
  · have d3 : decide ((b.length : Int) < ((k + 4 + n : Nat) : Int)) = true := decide_eq_true (by omega)
    have hs := stop (by unfold cutS; rw [if_neg h4, hrd, if_pos hq])
    clear stop e hinv
    by_cases hn0 : all.length = 0
    · rw [if_pos hn0] at hs
      have d2 : decide ((all.length : Int) = 0) = true := decide_eq_true (by omega)
      refine x_fz 6 rfl rfl rfl rfl ?_
      repeat (first | refine gG ?_ | refine zN1 (fun hlen => ?_) | refine zN2 (fun hlen => ?_) | refine zAl (fun _ => ?_) | refine zAp (fun _ => ?_))
      refine lo_add rfl rfl hk4 ?_
      repeat (first | refine gG ?_ | refine zN1 (fun hlen => ?_) | refine zN2 (fun hlen => ?_) | refine zAl (fun _ => ?_) | refine zAp (fun _ => ?_))
      refine ac_draw [1, 1, 1, 1, 1, 1, 1, 1, 1, 1, 1, 1, 1, 1, 1, 1, 1, 1, 1, 1, 1, 1, 1, 1, 1, 1, 1, 1, 1, 1] [0, 1, 2, 3, 4, 5, 6, 7, 8, 9, 10, 11, 12, 13, 14, 15, 16, 17, 18, 19, 20, 21, 22, 23, 24, 25, 26, 27, 28, 29] (by kernel_rfl) (by kernel_rfl) ?_
      refine gW ?_
      apply w_q; (focus exact rfl); (focus exact rfl); focus (intro _; (refine zIx k (show k < b.length by omega) ?_); exact det_refl)
      apply w_q; (focus exact rfl); (focus exact rfl); focus (intro _; (refine zEl1 (byt_at hx) ?_); exact det_refl)
      apply w_q; (focus exact rfl); (focus exact rfl); focus (intro _; (refine lo_conv tok rfl rfl rfl rfl toInt ?_); exact det_refl)
      apply w_q; (focus exact rfl); (focus exact rfl); focus (intro _; (refine lo_mul rfl rfl (r := (x.toNat : Int) * 256) (by rw [IntWalk.i64_in _ (by omega)]) ?_); exact det_refl)
      refine gW ?_
      apply w_q; (focus exact rfl); (focus exact rfl); focus (intro _; (refine zIx (k + 1) (show k + 1 < b.length by omega) ?_); exact det_refl)
      apply w_q; (focus exact rfl); (focus exact rfl); focus (intro _; (refine zEl1 (byt_at hy) ?_); exact det_refl)
      apply w_q; (focus exact rfl); (focus exact rfl); focus (intro _; (refine lo_conv tok rfl rfl rfl rfl toInt ?_); exact det_refl)
      apply w_q; (focus exact rfl); (focus exact rfl); focus (intro _; (refine lo_add rfl rfl (r := (x.toNat : Int) * 256 + (y.toNat : Int)) (by rw [IntWalk.i64_in _ (by omega)]) ?_); exact det_refl)
      apply w_q; (focus exact rfl); (focus exact rfl); focus (intro _; (refine lo_mul rfl rfl (r := ((x.toNat : Int) * 256 + (y.toNat : Int)) * 256) (by rw [IntWalk.i64_in _ (by omega)]) ?_); exact det_refl)
      refine gW ?_
      apply w_q; (focus exact rfl); (focus exact rfl); focus (intro _; (refine lo_add rfl rfl (r := ((k + 2 : Nat) : Int)) (by exact a2) ?_); exact det_refl)
      apply w_q; (focus exact rfl); (focus exact rfl); focus (intro _; (refine zIx (k + 2) (show k + 2 < b.length by omega) ?_); exact det_refl)
      apply w_q; (focus exact rfl); (focus exact rfl); focus (intro _; (refine zEl1 (byt_at hz) ?_); exact det_refl)
      apply w_q; (focus exact rfl); (focus exact rfl); focus (intro _; (refine lo_conv tok rfl rfl rfl rfl toInt ?_); exact det_refl)
      apply w_q; (focus exact rfl); (focus exact rfl); focus (intro _; (refine lo_add rfl rfl (r := ((x.toNat : Int) * 256 + (y.toNat : Int)) * 256 + (z.toNat : Int)) (by rw [IntWalk.i64_in _ (by omega)]) ?_); exact det_refl)
      apply w_q; (focus exact rfl); (focus exact rfl); focus (intro _; (refine lo_mul rfl rfl (r := (((x.toNat : Int) * 256 + (y.toNat : Int)) * 256 + (z.toNat : Int)) * 256) (by rw [IntWalk.i64_in _ (by omega)]) ?_); exact det_refl)
      refine gW ?_
      apply w_q; (focus exact rfl); (focus exact rfl); focus (intro _; (refine lo_add rfl rfl (r := ((k + 3 : Nat) : Int)) (by exact a3) ?_); exact det_refl)
      apply w_q; (focus exact rfl); (focus exact rfl); focus (intro _; (refine zIx (k + 3) (show k + 3 < b.length by omega) ?_); exact det_refl)
      apply w_q; (focus exact rfl); (focus exact rfl); focus (intro _; (refine zEl1 (byt_at hw) ?_); exact det_refl)
      apply w_q; (focus exact rfl); (focus exact rfl); focus (intro _; (refine lo_conv tok rfl rfl rfl rfl toInt ?_); exact det_refl)
      apply w_q; (focus exact rfl); (focus exact rfl); focus (intro _; (refine lo_add rfl rfl (r := (n : Int)) (by rw [IntWalk.i64_in _ (by omega)]; exact hn) ?_); exact det_refl)
      refine gW ?_
      refine w_nil ?_
      repeat (first | refine gG ?_ | refine zN1 (fun hlen => ?_) | refine zN2 (fun hlen => ?_) | refine zAl (fun _ => ?_) | refine zAp (fun _ => ?_))
      refine lo_add rfl rfl hk4 ?_
      repeat (first | refine gG ?_ | refine zN1 (fun hlen => ?_) | refine zN2 (fun hlen => ?_) | refine zAl (fun _ => ?_) | refine zAp (fun _ => ?_))
      refine lo_add rfl rfl hk5 ?_
      repeat (first | refine gG ?_ | refine zN1 (fun hlen => ?_) | refine zN2 (fun hlen => ?_) | refine zAl (fun _ => ?_) | refine zAp (fun _ => ?_))
      first | refine zR (ts := [Snp.zero.t, .lit (.int .i64 0), .lit (.int .i64 0), .lit (.int .i64 4)]) ?_ | refine zQ (ts := [Snp.zero.t, .lit (.int .i64 0), .lit (.int .i64 0), .lit (.int .i64 4)]) ?_
      rw [hs]
      rfl
    · rw [if_neg hn0] at hs
      have d2 : decide ((all.length : Int) = 0) = false := decide_eq_false (by omega)
      have ha := lastOf_at hn0
      generalize lastOf all = s at *
      obtain ⟨tm, ps, ws⟩ := s
      refine x_fz 6 rfl rfl rfl rfl ?_
      repeat (first | refine gG ?_ | refine zN1 (fun hlen => ?_) | refine zN2 (fun hlen => ?_) | refine zAl (fun _ => ?_) | refine zAp (fun _ => ?_))
      refine lo_add rfl rfl hk4 ?_
      repeat (first | refine gG ?_ | refine zN1 (fun hlen => ?_) | refine zN2 (fun hlen => ?_) | refine zAl (fun _ => ?_) | refine zAp (fun _ => ?_))
      refine ac_draw [1, 1, 1, 1, 1, 1, 1, 1, 1, 1, 1, 1, 1, 1, 1, 1, 1, 1, 1, 1, 1, 1, 1, 1, 1, 1, 1, 1, 1, 1] [0, 1, 2, 3, 4, 5, 6, 7, 8, 9, 10, 11, 12, 13, 14, 15, 16, 17, 18, 19, 20, 21, 22, 23, 24, 25, 26, 27, 28, 29] (by kernel_rfl) (by kernel_rfl) ?_
      refine gW ?_
      apply w_q; (focus exact rfl); (focus exact rfl); focus (intro _; (refine zIx k (show k < b.length by omega) ?_); exact det_refl)
      apply w_q; (focus exact rfl); (focus exact rfl); focus (intro _; (refine zEl1 (byt_at hx) ?_); exact det_refl)
      apply w_q; (focus exact rfl); (focus exact rfl); focus (intro _; (refine lo_conv tok rfl rfl rfl rfl toInt ?_); exact det_refl)
      apply w_q; (focus exact rfl); (focus exact rfl); focus (intro _; (refine lo_mul rfl rfl (r := (x.toNat : Int) * 256) (by rw [IntWalk.i64_in _ (by omega)]) ?_); exact det_refl)
      refine gW ?_
      apply w_q; (focus exact rfl); (focus exact rfl); focus (intro _; (refine zIx (k + 1) (show k + 1 < b.length by omega) ?_); exact det_refl)
      apply w_q; (focus exact rfl); (focus exact rfl); focus (intro _; (refine zEl1 (byt_at hy) ?_); exact det_refl)
      apply w_q; (focus exact rfl); (focus exact rfl); focus (intro _; (refine lo_conv tok rfl rfl rfl rfl toInt ?_); exact det_refl)
      apply w_q; (focus exact rfl); (focus exact rfl); focus (intro _; (refine lo_add rfl rfl (r := (x.toNat : Int) * 256 + (y.toNat : Int)) (by rw [IntWalk.i64_in _ (by omega)]) ?_); exact det_refl)
      apply w_q; (focus exact rfl); (focus exact rfl); focus (intro _; (refine lo_mul rfl rfl (r := ((x.toNat : Int) * 256 + (y.toNat : Int)) * 256) (by rw [IntWalk.i64_in _ (by omega)]) ?_); exact det_refl)
      refine gW ?_
      apply w_q; (focus exact rfl); (focus exact rfl); focus (intro _; (refine lo_add rfl rfl (r := ((k + 2 : Nat) : Int)) (by exact a2) ?_); exact det_refl)
      apply w_q; (focus exact rfl); (focus exact rfl); focus (intro _; (refine zIx (k + 2) (show k + 2 < b.length by omega) ?_); exact det_refl)
      apply w_q; (focus exact rfl); (focus exact rfl); focus (intro _; (refine zEl1 (byt_at hz) ?_); exact det_refl)
      apply w_q; (focus exact rfl); (focus exact rfl); focus (intro _; (refine lo_conv tok rfl rfl rfl rfl toInt ?_); exact det_refl)
      apply w_q; (focus exact rfl); (focus exact rfl); focus (intro _; (refine lo_add rfl rfl (r := ((x.toNat : Int) * 256 + (y.toNat : Int)) * 256 + (z.toNat : Int)) (by rw [IntWalk.i64_in _ (by omega)]) ?_); exact det_refl)
      apply w_q; (focus exact rfl); (focus exact rfl); focus (intro _; (refine lo_mul rfl rfl (r := (((x.toNat : Int) * 256 + (y.toNat : Int)) * 256 + (z.toNat : Int)) * 256) (by rw [IntWalk.i64_in _ (by omega)]) ?_); exact det_refl)
      refine gW ?_
      apply w_q; (focus exact rfl); (focus exact rfl); focus (intro _; (refine lo_add rfl rfl (r := ((k + 3 : Nat) : Int)) (by exact a3) ?_); exact det_refl)
      apply w_q; (focus exact rfl); (focus exact rfl); focus (intro _; (refine zIx (k + 3) (show k + 3 < b.length by omega) ?_); exact det_refl)
      apply w_q; (focus exact rfl); (focus exact rfl); focus (intro _; (refine zEl1 (byt_at hw) ?_); exact det_refl)
      apply w_q; (focus exact rfl); (focus exact rfl); focus (intro _; (refine lo_conv tok rfl rfl rfl rfl toInt ?_); exact det_refl)
      apply w_q; (focus exact rfl); (focus exact rfl); focus (intro _; (refine lo_add rfl rfl (r := (n : Int)) (by rw [IntWalk.i64_in _ (by omega)]; exact hn) ?_); exact det_refl)
      refine gW ?_
      refine w_nil ?_
      repeat (first | refine gG ?_ | refine zN1 (fun hlen => ?_) | refine zN2 (fun hlen => ?_) | refine zAl (fun _ => ?_) | refine zAp (fun _ => ?_))
      refine lo_add rfl rfl hk4 ?_
      repeat (first | refine gG ?_ | refine zN1 (fun hlen => ?_) | refine zN2 (fun hlen => ?_) | refine zAl (fun _ => ?_) | refine zAp (fun _ => ?_))
      refine lo_add rfl rfl hk5 ?_
      repeat (first | refine gG ?_ | refine zN1 (fun hlen => ?_) | refine zN2 (fun hlen => ?_) | refine zAl (fun _ => ?_) | refine zAp (fun _ => ?_))
      refine lo_sub rfl rfl (r := ((all.length - 1 : Nat) : Int)) (by rw [IntWalk.i64_in _ (by omega)]; omega) ?_
      repeat (first | refine gG ?_ | refine zN1 (fun hlen => ?_) | refine zN2 (fun hlen => ?_) | refine zAl (fun _ => ?_) | refine zAp (fun _ => ?_))
      refine zIx ((all.length - 1)) ((show all.length - 1 < all.length by omega)) ?_
      repeat (first | refine gG ?_ | refine zN1 (fun hlen => ?_) | refine zN2 (fun hlen => ?_) | refine zAl (fun _ => ?_) | refine zAp (fun _ => ?_))
      refine zEl (flat_at Snp.ts 3 Snp.ts_len ha) (Snp.ts_len _) ?_
      repeat (first | refine gG ?_ | refine zN1 (fun hlen => ?_) | refine zN2 (fun hlen => ?_) | refine zAl (fun _ => ?_) | refine zAp (fun _ => ?_))
      first | refine zR (ts := [(Snp.mk tm ps ws).t, .lit (.int .i64 (all.length : Int)), .lit (.int .i64 (k : Int)), .lit (.int .i64 0)]) ?_ | refine zQ (ts := [(Snp.mk tm ps ws).t, .lit (.int .i64 (all.length : Int)), .lit (.int .i64 (k : Int)), .lit (.int .i64 0)]) ?_
      rw [hs]
      rfl
  · have d3 : decide ((b.length : Int) < ((k + 4 + n : Nat) : Int)) = false := decide_eq_false (by omega)
    clear stop
    have hc : cutS (b.drop k) = some (((b.drop k).drop 4).take n, (b.drop k).drop (4 + n)) := by unfold cutS; rw [if_neg h4, hrd, if_neg hq, Int.toNat_natCast]
    have hsl : (((b.drop k).drop 4).take n).length ≤ 2097152 := by simp only [List.length_take, List.length_drop]; omega
    have htk : (b.drop (k + 4)).take (k + 4 + n - (k + 4)) = ((b.drop k).drop 4).take n := by rw [show k + 4 + n - (k + 4) = n by omega, List.drop_drop]
    have hdk : (b.drop k).drop (4 + n) = b.drop (k + (4 + n)) := by rw [List.drop_drop]
    obtain ⟨f, rfl⟩ : ∃ g, f = g + 1 := ⟨f - 1, by omega⟩
    rw [hdk] at hc
    generalize ((b.drop k).drop 4).take n = part at *
    have hso := snapOf_af part hsl
    rw [← same_snap part hsl] at hso
    have h5 : ∀ q, readS part = q → (¬ q.2 = 0 → lastF (b.length + 1) b Snp.zero 0 = .inl q.2) ∧ (q.2 = 0 → lastF f (b.drop (k + (4 + n))) q.1 (all.length + 1) = lastF (b.length + 1) b Snp.zero 0) := by
      rintro _ rfl
      exact ⟨fun h => by rw [← hinv, lastF_bad hc h], fun h => by rw [← hinv, lastF_go hc h]⟩
    rcases hqq : readS part with ⟨⟨tm2, ps2, ws2⟩, e0⟩
    rw [hqq] at hso
    obtain ⟨j1, j2⟩ := h5 _ hqq
    dsimp only at hso j1 j2
    clear h5 hqq hinv hc
    cases c1 : decide (e0 = 0)
    · have e1 := e _ (j1 (of_decide_eq_false c1))
      clear e j1 j2
      have c1' := c1
      repeat (first | refine gG ?_ | refine zN1 (fun hlen => ?_) | refine zN2 (fun hlen => ?_) | refine zAl (fun _ => ?_) | refine zAp (fun _ => ?_))
      refine lo_add rfl rfl hk4 ?_
      repeat (first | refine gG ?_ | refine zN1 (fun hlen => ?_) | refine zN2 (fun hlen => ?_) | refine zAl (fun _ => ?_) | refine zAp (fun _ => ?_))
      refine ac_draw [1, 1, 1, 1, 1, 1, 1, 1, 1, 1, 1, 1, 1, 1, 1, 1, 1, 1, 1, 1, 1, 1, 1, 1, 1, 1, 1, 1, 1, 1] [0, 1, 2, 3, 4, 5, 6, 7, 8, 9, 10, 11, 12, 13, 14, 15, 16, 17, 18, 19, 20, 21, 22, 23, 24, 25, 26, 27, 28, 29] (by kernel_rfl) (by kernel_rfl) ?_
      refine gW ?_
      apply w_q; (focus exact rfl); (focus exact rfl); focus (intro _; (refine zIx k (show k < b.length by omega) ?_); exact det_refl)
      apply w_q; (focus exact rfl); (focus exact rfl); focus (intro _; (refine zEl1 (byt_at hx) ?_); exact det_refl)
      apply w_q; (focus exact rfl); (focus exact rfl); focus (intro _; (refine lo_conv tok rfl rfl rfl rfl toInt ?_); exact det_refl)
      apply w_q; (focus exact rfl); (focus exact rfl); focus (intro _; (refine lo_mul rfl rfl (r := (x.toNat : Int) * 256) (by rw [IntWalk.i64_in _ (by omega)]) ?_); exact det_refl)
      refine gW ?_
      apply w_q; (focus exact rfl); (focus exact rfl); focus (intro _; (refine zIx (k + 1) (show k + 1 < b.length by omega) ?_); exact det_refl)
      apply w_q; (focus exact rfl); (focus exact rfl); focus (intro _; (refine zEl1 (byt_at hy) ?_); exact det_refl)
      apply w_q; (focus exact rfl); (focus exact rfl); focus (intro _; (refine lo_conv tok rfl rfl rfl rfl toInt ?_); exact det_refl)
      apply w_q; (focus exact rfl); (focus exact rfl); focus (intro _; (refine lo_add rfl rfl (r := (x.toNat : Int) * 256 + (y.toNat : Int)) (by rw [IntWalk.i64_in _ (by omega)]) ?_); exact det_refl)
      apply w_q; (focus exact rfl); (focus exact rfl); focus (intro _; (refine lo_mul rfl rfl (r := ((x.toNat : Int) * 256 + (y.toNat : Int)) * 256) (by rw [IntWalk.i64_in _ (by omega)]) ?_); exact det_refl)
      refine gW ?_
      apply w_q; (focus exact rfl); (focus exact rfl); focus (intro _; (refine lo_add rfl rfl (r := ((k + 2 : Nat) : Int)) (by exact a2) ?_); exact det_refl)
      apply w_q; (focus exact rfl); (focus exact rfl); focus (intro _; (refine zIx (k + 2) (show k + 2 < b.length by omega) ?_); exact det_refl)
      apply w_q; (focus exact rfl); (focus exact rfl); focus (intro _; (refine zEl1 (byt_at hz) ?_); exact det_refl)
      apply w_q; (focus exact rfl); (focus exact rfl); focus (intro _; (refine lo_conv tok rfl rfl rfl rfl toInt ?_); exact det_refl)
      apply w_q; (focus exact rfl); (focus exact rfl); focus (intro _; (refine lo_add rfl rfl (r := ((x.toNat : Int) * 256 + (y.toNat : Int)) * 256 + (z.toNat : Int)) (by rw [IntWalk.i64_in _ (by omega)]) ?_); exact det_refl)
      apply w_q; (focus exact rfl); (focus exact rfl); focus (intro _; (refine lo_mul rfl rfl (r := (((x.toNat : Int) * 256 + (y.toNat : Int)) * 256 + (z.toNat : Int)) * 256) (by rw [IntWalk.i64_in _ (by omega)]) ?_); exact det_refl)
      refine gW ?_
      apply w_q; (focus exact rfl); (focus exact rfl); focus (intro _; (refine lo_add rfl rfl (r := ((k + 3 : Nat) : Int)) (by exact a3) ?_); exact det_refl)
      apply w_q; (focus exact rfl); (focus exact rfl); focus (intro _; (refine zIx (k + 3) (show k + 3 < b.length by omega) ?_); exact det_refl)
      apply w_q; (focus exact rfl); (focus exact rfl); focus (intro _; (refine zEl1 (byt_at hw) ?_); exact det_refl)
      apply w_q; (focus exact rfl); (focus exact rfl); focus (intro _; (refine lo_conv tok rfl rfl rfl rfl toInt ?_); exact det_refl)
      apply w_q; (focus exact rfl); (focus exact rfl); focus (intro _; (refine lo_add rfl rfl (r := (n : Int)) (by rw [IntWalk.i64_in _ (by omega)]; exact hn) ?_); exact det_refl)
      refine gW ?_
      refine w_nil ?_
      repeat (first | refine gG ?_ | refine zN1 (fun hlen => ?_) | refine zN2 (fun hlen => ?_) | refine zAl (fun _ => ?_) | refine zAp (fun _ => ?_))
      refine lo_add rfl rfl hk4 ?_
      repeat (first | refine gG ?_ | refine zN1 (fun hlen => ?_) | refine zN2 (fun hlen => ?_) | refine zAl (fun _ => ?_) | refine zAp (fun _ => ?_))
      refine lo_add rfl rfl hk5 ?_
      repeat (first | refine gG ?_ | refine zN1 (fun hlen => ?_) | refine zN2 (fun hlen => ?_) | refine zAl (fun _ => ?_) | refine zAp (fun _ => ?_))
      refine lo_add rfl rfl hk4 ?_
      repeat (first | refine gG ?_ | refine zN1 (fun hlen => ?_) | refine zN2 (fun hlen => ?_) | refine zAl (fun _ => ?_) | refine zAp (fun _ => ?_))
      refine lo_add rfl rfl hk4 ?_
      repeat (first | refine gG ?_ | refine zN1 (fun hlen => ?_) | refine zN2 (fun hlen => ?_) | refine zAl (fun _ => ?_) | refine zAp (fun _ => ?_))
      refine lo_add rfl rfl hk5 ?_
      repeat (first | refine gG ?_ | refine zN1 (fun hlen => ?_) | refine zN2 (fun hlen => ?_) | refine zAl (fun _ => ?_) | refine zAp (fun _ => ?_))
      refine zPmb (l := b) (k + 4) (k + 4 + n) (by omega) (by omega) ?_
      rw [htk]
      repeat (first | refine gG ?_ | refine zN1 (fun hlen => ?_) | refine zN2 (fun hlen => ?_) | refine zAl (fun _ => ?_) | refine zAp (fun _ => ?_))
      refine zCall (hso) ?_
      rintro _ rfl
      repeat (first | refine gG ?_ | refine zN1 (fun hlen => ?_) | refine zN2 (fun hlen => ?_) | refine zAl (fun _ => ?_) | refine zAp (fun _ => ?_))
      first | refine zR (ts := [Snp.zero.t, .lit (.int .i64 0), .lit (.int .i64 0), .lit (.int .i64 e0)]) ?_ | refine zQ (ts := [Snp.zero.t, .lit (.int .i64 0), .lit (.int .i64 0), .lit (.int .i64 e0)]) ?_
      rw [e1]
      rfl
    · have j3 := j2 (of_decide_eq_true c1)
      have hdl2 : (b.drop (k + (4 + n))).length = b.length - (k + (4 + n)) := List.length_drop
      clear e j1 j2
      have c1' := c1
      repeat (first | refine gG ?_ | refine zN1 (fun hlen => ?_) | refine zN2 (fun hlen => ?_) | refine zAl (fun _ => ?_) | refine zAp (fun _ => ?_))
      refine lo_add rfl rfl hk4 ?_
      repeat (first | refine gG ?_ | refine zN1 (fun hlen => ?_) | refine zN2 (fun hlen => ?_) | refine zAl (fun _ => ?_) | refine zAp (fun _ => ?_))
      refine ac_draw [1, 1, 1, 1, 1, 1, 1, 1, 1, 1, 1, 1, 1, 1, 1, 1, 1, 1, 1, 1, 1, 1, 1, 1, 1, 1, 1, 1, 1, 1] [0, 1, 2, 3, 4, 5, 6, 7, 8, 9, 10, 11, 12, 13, 14, 15, 16, 17, 18, 19, 20, 21, 22, 23, 24, 25, 26, 27, 28, 29] (by kernel_rfl) (by kernel_rfl) ?_
      refine gW ?_
      apply w_q; (focus exact rfl); (focus exact rfl); focus (intro _; (refine zIx k (show k < b.length by omega) ?_); exact det_refl)
      apply w_q; (focus exact rfl); (focus exact rfl); focus (intro _; (refine zEl1 (byt_at hx) ?_); exact det_refl)
      apply w_q; (focus exact rfl); (focus exact rfl); focus (intro _; (refine lo_conv tok rfl rfl rfl rfl toInt ?_); exact det_refl)
      apply w_q; (focus exact rfl); (focus exact rfl); focus (intro _; (refine lo_mul rfl rfl (r := (x.toNat : Int) * 256) (by rw [IntWalk.i64_in _ (by omega)]) ?_); exact det_refl)
      refine gW ?_
      apply w_q; (focus exact rfl); (focus exact rfl); focus (intro _; (refine zIx (k + 1) (show k + 1 < b.length by omega) ?_); exact det_refl)
      apply w_q; (focus exact rfl); (focus exact rfl); focus (intro _; (refine zEl1 (byt_at hy) ?_); exact det_refl)
      apply w_q; (focus exact rfl); (focus exact rfl); focus (intro _; (refine lo_conv tok rfl rfl rfl rfl toInt ?_); exact det_refl)
      apply w_q; (focus exact rfl); (focus exact rfl); focus (intro _; (refine lo_add rfl rfl (r := (x.toNat : Int) * 256 + (y.toNat : Int)) (by rw [IntWalk.i64_in _ (by omega)]) ?_); exact det_refl)
      apply w_q; (focus exact rfl); (focus exact rfl); focus (intro _; (refine lo_mul rfl rfl (r := ((x.toNat : Int) * 256 + (y.toNat : Int)) * 256) (by rw [IntWalk.i64_in _ (by omega)]) ?_); exact det_refl)
      refine gW ?_
      apply w_q; (focus exact rfl); (focus exact rfl); focus (intro _; (refine lo_add rfl rfl (r := ((k + 2 : Nat) : Int)) (by exact a2) ?_); exact det_refl)
      apply w_q; (focus exact rfl); (focus exact rfl); focus (intro _; (refine zIx (k + 2) (show k + 2 < b.length by omega) ?_); exact det_refl)
      apply w_q; (focus exact rfl); (focus exact rfl); focus (intro _; (refine zEl1 (byt_at hz) ?_); exact det_refl)
      apply w_q; (focus exact rfl); (focus exact rfl); focus (intro _; (refine lo_conv tok rfl rfl rfl rfl toInt ?_); exact det_refl)
      apply w_q; (focus exact rfl); (focus exact rfl); focus (intro _; (refine lo_add rfl rfl (r := ((x.toNat : Int) * 256 + (y.toNat : Int)) * 256 + (z.toNat : Int)) (by rw [IntWalk.i64_in _ (by omega)]) ?_); exact det_refl)
      apply w_q; (focus exact rfl); (focus exact rfl); focus (intro _; (refine lo_mul rfl rfl (r := (((x.toNat : Int) * 256 + (y.toNat : Int)) * 256 + (z.toNat : Int)) * 256) (by rw [IntWalk.i64_in _ (by omega)]) ?_); exact det_refl)
      refine gW ?_
      apply w_q; (focus exact rfl); (focus exact rfl); focus (intro _; (refine lo_add rfl rfl (r := ((k + 3 : Nat) : Int)) (by exact a3) ?_); exact det_refl)
      apply w_q; (focus exact rfl); (focus exact rfl); focus (intro _; (refine zIx (k + 3) (show k + 3 < b.length by omega) ?_); exact det_refl)
      apply w_q; (focus exact rfl); (focus exact rfl); focus (intro _; (refine zEl1 (byt_at hw) ?_); exact det_refl)
      apply w_q; (focus exact rfl); (focus exact rfl); focus (intro _; (refine lo_conv tok rfl rfl rfl rfl toInt ?_); exact det_refl)
      apply w_q; (focus exact rfl); (focus exact rfl); focus (intro _; (refine lo_add rfl rfl (r := (n : Int)) (by rw [IntWalk.i64_in _ (by omega)]; exact hn) ?_); exact det_refl)
      refine gW ?_
      refine w_nil ?_
      repeat (first | refine gG ?_ | refine zN1 (fun hlen => ?_) | refine zN2 (fun hlen => ?_) | refine zAl (fun _ => ?_) | refine zAp (fun _ => ?_))
      refine lo_add rfl rfl hk4 ?_
      repeat (first | refine gG ?_ | refine zN1 (fun hlen => ?_) | refine zN2 (fun hlen => ?_) | refine zAl (fun _ => ?_) | refine zAp (fun _ => ?_))
      refine lo_add rfl rfl hk5 ?_
      repeat (first | refine gG ?_ | refine zN1 (fun hlen => ?_) | refine zN2 (fun hlen => ?_) | refine zAl (fun _ => ?_) | refine zAp (fun _ => ?_))
      refine lo_add rfl rfl hk4 ?_
      repeat (first | refine gG ?_ | refine zN1 (fun hlen => ?_) | refine zN2 (fun hlen => ?_) | refine zAl (fun _ => ?_) | refine zAp (fun _ => ?_))
      refine lo_add rfl rfl hk4 ?_
      repeat (first | refine gG ?_ | refine zN1 (fun hlen => ?_) | refine zN2 (fun hlen => ?_) | refine zAl (fun _ => ?_) | refine zAp (fun _ => ?_))
      refine lo_add rfl rfl hk5 ?_
      repeat (first | refine gG ?_ | refine zN1 (fun hlen => ?_) | refine zN2 (fun hlen => ?_) | refine zAl (fun _ => ?_) | refine zAp (fun _ => ?_))
      refine zPmb (l := b) (k + 4) (k + 4 + n) (by omega) (by omega) ?_
      rw [htk]
      repeat (first | refine gG ?_ | refine zN1 (fun hlen => ?_) | refine zN2 (fun hlen => ?_) | refine zAl (fun _ => ?_) | refine zAp (fun _ => ?_))
      refine zCall (hso) ?_
      rintro _ rfl
      repeat (first | refine gG ?_ | refine zN1 (fun hlen => ?_) | refine zN2 (fun hlen => ?_) | refine zAl (fun _ => ?_) | refine zAp (fun _ => ?_))
      refine lo_add rfl rfl (r := ((4 + n : Nat) : Int)) (by rw [IntWalk.i64_in _ (by omega)]; omega) ?_
      repeat (first | refine gG ?_ | refine zN1 (fun hlen => ?_) | refine zN2 (fun hlen => ?_) | refine zAl (fun _ => ?_) | refine zAp (fun _ => ?_))
      refine lo_add rfl rfl (r := ((k + (4 + n) : Nat) : Int)) (by rw [IntWalk.i64_in _ (by omega)]; omega) ?_
      repeat (first | refine gG ?_ | refine zN1 (fun hlen => ?_) | refine zN2 (fun hlen => ?_) | refine zAl (fun _ => ?_) | refine zAp (fun _ => ?_))
      exact ⟨(k + (4 + n), f, all ++ [⟨tm2, ps2, ws2⟩], _), ⟨by simp only; omega, by simp only [List.length_append, List.length_cons, List.length_nil]; omega, by simp only; omega, by rw [← j3, lastOf_snoc, List.length_append]; rfl⟩, by simp only; omega, x_wkd 2 ⟨rfl, rfl, trivial⟩ (by simp only [List.flatMap_append, List.flatMap_cons, List.flatMap_nil, List.append_nil, List.length_append, List.length_cons, List.length_nil]; rfl) (by repeat (first | exact ag_refl | refine ag_upd rfl ?_ | refine ag_at rfl rfl ?_))⟩
end Go.Proofs.YthgackidonocpaaGreat
namespace Go.Proofs.YthgackidonocpaaGreat
open Go.RowKit
set_option maxRecDepth 100000 in
set_option maxHeartbeats 4000000 in
theorem cloneBytes_ag (l : List UInt8) (hl : l.length ≤ 100000000000000) : AG Tryz.prog 30 [.c (bytRow l)] [] (Grew 5 l) := by
  refine ag_enter 1 tok Tryz.func30 Tryz.ntmps30 Tryz.results30 rfl (by kernel_rfl) rfl fun F => ?_
  repeat (first | refine gG ?_ | refine zAp (fun _ => ?_))
  refine zNs (fun b hb => ?_)
  cases b
  · repeat (first | refine gX ?_ | refine zAp (fun _ => ?_))
    refine zBo (fun _ => ?_)
    repeat (first | refine gG ?_ | refine zAp (fun _ => ?_))
    refine zG ?_
    exact ⟨_, rfl, by simp only [List.nil_append, Nat.zero_add]⟩
  · have h0 := hb rfl
    have : l = [] := List.eq_nil_of_length_eq_zero h0
    subst this
    repeat (first | refine gO ?_ | refine ac_seq ?_ | refine ac_block ?_ | refine ac_region ?_ | refine ac_skip ?_ | refine zT ?_)
    refine x_own 2 5 1 rfl rfl rfl rfl rfl ?_
    repeat (first | refine gG ?_ | refine zAp (fun _ => ?_))
    refine zG ?_
    exact ⟨_, rfl, rfl⟩
def addS (log : List UInt8) (s : Snp) : List UInt8 × Int := if s.err = 0 then (log ++ partB s.out, 0) else ([], s.err)
set_option maxRecDepth 100000 in
set_option maxHeartbeats 4000000 in
theorem add_af (log : List UInt8) (s : Snp) (hs : s.Small) (hl : log.length ≤ 1048576) (ho : s.out.length ≤ 10000000000000) : AF Tryz.prog 11 [bytRow log, s.t] (Outs2 (addS log s).1 (addS log s).2) := by
  have hB := storeBytes_af s hs
  have hC := cloneBytes_ag log (by omega)
  have hP := fun v => part_ag v log s.out (by omega)
  have e : addS log s = if s.err = 0 then (log ++ partB s.out, 0) else ([], s.err) := rfl
  clear hs
  generalize addS log s = q at *
  generalize s.out = ob at *
  generalize s.err = eb at *
  obtain ⟨tm, ps, ws⟩ := s
  refine af_enter tok Tryz.func11 Tryz.ntmps11 Tryz.results11 rfl (by kernel_rfl) rfl rfl fun F hX => ?_
  repeat (first | refine gG ?_ | refine zBx (fun _ => ?_))
  refine zCall (hB) ?_
  rintro _ rfl
  cases g1 : decide (eb = 0)
  · repeat (first | refine gG ?_ | refine zBx (fun _ => ?_))
    first | refine zR (ts := [bytRow [], .lit (.int .i64 eb)]) ?_ | refine zQ (ts := [bytRow [], .lit (.int .i64 eb)]) ?_
    rw [e, if_neg (of_decide_eq_false g1)]
    rfl
  · repeat (first | refine gG ?_ | refine zBx (fun _ => ?_))
    refine zCallG [] hC ?_
    rintro _ _ ⟨v', rfl, rfl⟩
    refine ⟨.own 1 v', _, re_own, rfl, rfl, ?_⟩
    repeat (first | refine gG ?_ | refine zBx (fun _ => ?_))
    refine zCallG [1] (hP v') ?_
    rintro _ _ ⟨v2, rfl, rfl⟩
    refine ⟨.own 1 v2, _, re_own, rfl, rfl, ?_⟩
    repeat (first | refine gG ?_ | refine zBx (fun _ => ?_))
    first | refine zR ?_ | refine zQ ?_
    rw [e, if_pos (of_decide_eq_true g1)]
    rfl
end Go.Proofs.YthgackidonocpaaGreat
namespace Go.Proofs.YthgackidonocpaaGreat
open Go.RowKit
theorem Snp.out_le {s : Snp} (hs : s.Small) : s.out.length ≤ 10000000000000 := by
  by_cases hyes : s.check = 0
  · have := Snp.bytes_le hs (Snp.right hyes)
    rw [(Snp.err_eq hyes).1]
    split
    · simp
    · omega
  · rw [(Snp.err_ne hyes).1]
    simp
theorem shr24 (n : Int) : n.fdiv (2 ^ (min (24 : Int).toNat IntKind.i64.bits)) = n / 16777216 := shr8 n (m := 3) (by omega)
theorem shr16 (n : Int) : n.fdiv (2 ^ (min (16 : Int).toNat IntKind.i64.bits)) = n / 65536 := shr8 n (m := 2) (by omega)
theorem shr08 (n : Int) : n.fdiv (2 ^ (min (8 : Int).toNat IntKind.i64.bits)) = n / 256 := by
  have := shr8 n (m := 1) (by omega)
  rw [Int.pow_one] at this
  exact this
set_option maxRecDepth 100000 in
set_option maxHeartbeats 4000000 in
theorem storeLast_law (b : List UInt8) (s : Snp) (hb : b.length ≤ 1048576) (hs : s.Small) : AF Tryz.prog 4 [bytRow b, s.t] (· = .lit (.bool true)) := by
  have h1 := last_af b (by omega)
  have h2 := snapLast_af b (by omega)
  generalize lastS b = q0 at h1 h2
  obtain ⟨⟨tm, ps, ws⟩, n, a, e⟩ := q0
  have h3 := sameSnap_af ⟨tm, ps, ws⟩
  have h4 := smallS_af s hs
  have hol := Snp.out_le hs
  have h5 := add_af b s hs hb hol
  have h6 := snapBytes_af s hs
  have e1 : decide ((n : Int) = (n : Int)) = true := by simp
  have e2 : decide ((a : Int) = (a : Int)) = true := by simp
  have e3 : decide (e = e) = true := by simp
  have hadd : addS b s = if s.err = 0 then (b ++ partB s.out, 0) else ([], s.err) := rfl
  clear hs
  generalize addS b s = q at *
  generalize s.out = o at *
  generalize s.err = c at *
  obtain ⟨tm2, ps2, ws2⟩ := s
  obtain ⟨ob, oe⟩ := q
  dsimp only at h5
  refine af_enter tok Tryz.func4 Tryz.ntmps4 Tryz.results4 rfl (by kernel_rfl) rfl rfl fun F hX => ?_
  repeat (first | refine gG ?_ | refine zN1 (fun hlen => ?_) | refine zN2 (fun hlen => ?_) | refine zAl (fun _ => ?_) | refine zBf ?_)
  refine zCall (h1) ?_
  rintro _ rfl
  repeat (first | refine gG ?_ | refine zN1 (fun hlen => ?_) | refine zN2 (fun hlen => ?_) | refine zAl (fun _ => ?_) | refine zBx (fun _ => ?_))
  refine zCall (h2) ?_
  rintro _ rfl
  repeat (first | refine gG ?_ | refine zN1 (fun hlen => ?_) | refine zN2 (fun hlen => ?_) | refine zAl (fun _ => ?_) | refine zBx (fun _ => ?_))
  refine zCall (h3) ?_
  rintro _ rfl
  repeat (first | refine gG ?_ | refine zN1 (fun hlen => ?_) | refine zN2 (fun hlen => ?_) | refine zAl (fun _ => ?_) | refine zBx (fun _ => ?_))
  refine zCall (h4) ?_
  rintro _ ⟨q, rfl⟩
  cases q
  · repeat (first | refine gG ?_ | refine zN1 (fun hlen => ?_) | refine zN2 (fun hlen => ?_) | refine zAl (fun _ => ?_) | refine zBx (fun _ => ?_))
    first | refine zR ?_ | refine zQ ?_
    rfl
  repeat (first | refine gG ?_ | refine zN1 (fun hlen => ?_) | refine zN2 (fun hlen => ?_) | refine zAl (fun _ => ?_) | refine zBx (fun _ => ?_))
  refine zCall (h5) ?_
  rintro _ rfl
  repeat (first | refine gG ?_ | refine zN1 (fun hlen => ?_) | refine zN2 (fun hlen => ?_) | refine zAl (fun _ => ?_) | refine zBx (fun _ => ?_))
  refine zCall (h6) ?_
  rintro _ rfl
  cases g1 : decide (c = 0)
  · rw [if_neg (of_decide_eq_false g1)] at hadd
    obtain ⟨rfl, rfl⟩ := Prod.mk.inj hadd
    have e4 : decide (oe = oe) = true := by simp
    have e5 : decide ((([] : List UInt8).length : Int) = 0) = true := rfl
    have g1' := g1
    repeat (first | refine gG ?_ | refine zN1 (fun hlen => ?_) | refine zN2 (fun hlen => ?_) | refine zAl (fun _ => ?_) | refine zBx (fun _ => ?_))
    first | refine zR ?_ | refine zQ ?_
    rfl
  · have hc0 := of_decide_eq_true g1
    subst hc0
    rw [if_pos rfl] at hadd
    obtain ⟨rfl, rfl⟩ := Prod.mk.inj hadd
    have e4 : decide ((0 : Int) = 0) = true := rfl
    have hcs := four_kb (o.length : Int)
    have hnl := numB_len (o.length : Int) 4
    have epb : b ++ partB o = b ++ numB (o.length : Int) 4 ++ o := by simp only [partB, List.append_assoc]
    rw [epb]
    have e5 : decide (bs (b ++ numB (o.length : Int) 4 ++ o) = bs (b ++ numB (o.length : Int) 4 ++ o)) = true := by simp
    have g1' := g1
    repeat (first | refine gG ?_ | refine zN1 (fun hlen => ?_) | refine zN2 (fun hlen => ?_) | refine zAl (fun _ => ?_) | refine zBx (fun _ => ?_))
    refine zStr (b ++ numB (o.length : Int) 4 ++ o) rfl rfl ?_
    repeat (first | refine gG ?_ | refine zN1 (fun hlen => ?_) | refine zN2 (fun hlen => ?_) | refine zAl (fun _ => ?_) | refine zBx (fun _ => ?_))
    refine zStr b rfl rfl ?_
    repeat (first | refine gG ?_ | refine zN1 (fun hlen => ?_) | refine zN2 (fun hlen => ?_) | refine zAl (fun _ => ?_) | refine zBx (fun _ => ?_))
    refine lo_shr rfl rfl (by omega) (shr24 _) ?_
    repeat (first | refine gG ?_ | refine zN1 (fun hlen => ?_) | refine zN2 (fun hlen => ?_) | refine zAl (fun _ => ?_) | refine zBx (fun _ => ?_))
    refine lo_conv tok rfl rfl rfl rfl rfl ?_
    repeat (first | refine gG ?_ | refine zN1 (fun hlen => ?_) | refine zN2 (fun hlen => ?_) | refine zAl (fun _ => ?_) | refine zBx (fun _ => ?_))
    refine lo_shr rfl rfl (by omega) (shr16 _) ?_
    repeat (first | refine gG ?_ | refine zN1 (fun hlen => ?_) | refine zN2 (fun hlen => ?_) | refine zAl (fun _ => ?_) | refine zBx (fun _ => ?_))
    refine lo_conv tok rfl rfl rfl rfl rfl ?_
    repeat (first | refine gG ?_ | refine zN1 (fun hlen => ?_) | refine zN2 (fun hlen => ?_) | refine zAl (fun _ => ?_) | refine zBx (fun _ => ?_))
    refine lo_shr rfl rfl (by omega) (shr08 _) ?_
    repeat (first | refine gG ?_ | refine zN1 (fun hlen => ?_) | refine zN2 (fun hlen => ?_) | refine zAl (fun _ => ?_) | refine zBx (fun _ => ?_))
    refine lo_conv tok rfl rfl rfl rfl rfl ?_
    repeat (first | refine gG ?_ | refine zN1 (fun hlen => ?_) | refine zN2 (fun hlen => ?_) | refine zAl (fun _ => ?_) | refine zBx (fun _ => ?_))
    refine lo_conv tok rfl rfl rfl rfl rfl ?_
    repeat (first | refine gG ?_ | refine zN1 (fun hlen => ?_) | refine zN2 (fun hlen => ?_) | refine zAl (fun _ => ?_) | refine zBx (fun _ => ?_))
    refine zStr (numB (o.length : Int) 4) hcs rfl ?_
    repeat (first | refine gG ?_ | refine zN1 (fun hlen => ?_) | refine zN2 (fun hlen => ?_) | refine zAl (fun _ => ?_) | refine zBx (fun _ => ?_))
    refine zCatb b (numB (o.length : Int) 4) (by rw [hnl]; omega) ?_
    repeat (first | refine gG ?_ | refine zN1 (fun hlen => ?_) | refine zN2 (fun hlen => ?_) | refine zAl (fun _ => ?_) | refine zBx (fun _ => ?_))
    refine zStr o rfl rfl ?_
    repeat (first | refine gG ?_ | refine zN1 (fun hlen => ?_) | refine zN2 (fun hlen => ?_) | refine zAl (fun _ => ?_) | refine zBx (fun _ => ?_))
    refine zCatb (b ++ numB (o.length : Int) 4) o (by rw [List.length_append, hnl]; omega) ?_
    repeat (first | refine gG ?_ | refine zN1 (fun hlen => ?_) | refine zN2 (fun hlen => ?_) | refine zAl (fun _ => ?_) | refine zBx (fun _ => ?_))
    first | refine zR ?_ | refine zQ ?_
    show outT [T.lit (Value.bool (decide (bs (b ++ numB (o.length : Int) 4 ++ o) = bs (b ++ numB (o.length : Int) 4 ++ o))))] = T.lit (Value.bool true)
    rw [e5]
    rfl
end Go.Proofs.YthgackidonocpaaGreat
namespace Go.Proofs.YthgackidonocpaaGreat
open Go.ChangeShapes Go.WideShapes Go.ChangeAt Go.RowKit Go.Deep
section
variable {H : Type} {enc : TypeId × Value → H} {P : Program} {w : World} {base : Nat} {spare : Nat → Bool} {held : Bool}
theorem bulk_one (d : DataW H) : 1 ≤ Rows.uptoBulk d := by
  cases d with
  | lit l => cases l <;> simp [Rows.uptoBulk]
  | _ => simp [Rows.uptoBulk]
end
end Go.Proofs.YthgackidonocpaaGreat
namespace Go.Proofs.YthgackidonocpaaGreat
open Go.ChangeShapes Go.WideShapes Go.ChangeAt Go.RowKit
theorem own : ownKnob Tryz.prog.godebug = none := by kernel_rfl
theorem laidOut : laidOutB Tryz.prog = true := by kernel_rfl
section
variable {H : Type} {enc : TypeId × Value → H}
theorem trodAll_below {P : Program} (hl : laidOutB P = true) {W W' : World} (hb : Below W.heap.size W W') (ts : List TypeId) : ∀ (vs : List Value) (ds : List (DataW H)) (ps : List MemPlace),
    (ts.all fun t => P.readableRec t && decide (t < P.types.size)) = true → DataW.TrodAll enc P W 0 (fun _ => true) true ts vs ds ps → (∀ x ∈ ps, x.block < W.heap.size) →
    DataW.TrodAll enc P W' 0 (fun b => decide (b < W.heap.size)) true ts vs ds ps := by
  induction ts with
  | nil =>
    intro vs ds ps _ h _
    obtain ⟨rfl, rfl, rfl⟩ := trodAll_nil h
    rfl
  | cons t ts ih =>
    intro vs ds ps hr h hlt
    obtain ⟨v, vs', d, ds', p, q, rfl, rfl, rfl, h0, h1⟩ := trodAll_cons h
    simp only [List.all_cons, Bool.and_eq_true, decide_eq_true_eq] at hr
    refine ⟨p, q, Below.trod hl hr.1.1 hr.1.2 h0 hb fun x hx => hlt x (List.mem_append_left _ hx), ?_, rfl⟩
    exact ih vs' ds' q hr.2 h1 fun x hx => hlt x (List.mem_append_right _ hx)
theorem law_post {f : Func} {s : ChangeSpec} {W W' : World} {args : Array Value} {ds gs : List (DataW H)} {before : List MemPlace}
    (hW : DataW.Whole enc Tryz.prog f.params.toList s.vars false W args.toList ds gs before) (hv : s.vars = []) (hrt : f.resultTypes = #[4])
    (hr : (f.params.toList.all fun t => Tryz.prog.readableRec t && decide (t < Tryz.prog.types.size)) = true)
    (hres : (s.fn H (ds ++ gs)).results = [.lit (.bool true)]) (hargs : (s.fn H (ds ++ gs)).args = ds) (hvars : (s.fn H (ds ++ gs)).vars = []) (hb : Below W.heap.size W W') :
    s.post enc Tryz.prog f false true false false W args (.bool true) W' := by
  have hlt : ∀ p ∈ before, p.block < W.heap.size := fun p hp => hW.lt p hp
  have hW' := hW
  obtain ⟨p, q, hA, hV, rfl, _, _⟩ := hW'
  rw [hv] at hV
  obtain ⟨rfl, rfl⟩ := trodVars_none hV
  rw [List.append_nil] at hlt
  refine ⟨ds, [], _, [], p, [], hW, ?_, ?_, ?_, hb.frame _ |> World.keptBut_mono (fun x hx => ⟨hx, ?_⟩), fun h => by cases h⟩
  · rw [hrt, hres]
    exact trodAll_mk1 (shut_bool Tryz.underlying4 true)
  · rw [hargs]
    exact trodAll_below laidOut hb _ _ _ _ hr hA hlt
  · rw [hvars, hv]
    rfl
  · rw [List.append_nil] at hx
    exact .inr (.inl hx)
end
end Go.Proofs.YthgackidonocpaaGreat
namespace Go.Proofs.YthgackidonocpaaGreat
open Go.ChangeShapes Go.WideShapes Go.ChangeAt Go.RowKit Go.Deep
/-- all memory of a world -/
def memOf (w : World) : Mm := frz (fun _ => none) 0 w
theorem memOf_ok (w : World) : MemOk (memOf w) w := frz_ok (fun p v h => by cases h) 0
theorem memOf_at {w : World} {p : Addr} {v : Value} (h : w.cell? p = some v) (h1 : v.oneCell' = true) : memOf w p = some v := frz_new rfl (Nat.zero_le _) h h1
section
variable {H : Type} {enc : TypeId × Value → H} {P : Program} {w : World} {base : Nat} {spare : Nat → Bool} {held : Bool}
def Opens (enc : TypeId × Value → H) (P : Program) (w : World) (base : Nat) (spare : Nat → Bool) (held : Bool) (t : TypeId) {α : Type} (f : α → List T) (μ : α → Nat) (fuel : Nat) : Prop :=
  ∀ (cs : List Value) (x : DataW H × List MemPlace), DataW.trod enc P w base spare held fuel t cs = some x → ∃ a, RTs (memOf w) (f a) cs ∧ OneAll cs ∧ μ a ≤ Rows.uptoBulk x.1
theorem sum_le {α : Type} (μ : α → Nat) : ∀ (l : List α) (ds : List (DataW H)), l.length = ds.length → (∀ (i : Nat) (a : α) (d : DataW H), l[i]? = some a → ds[i]? = some d → μ a ≤ Rows.uptoBulk d) → (l.map μ).sum ≤ Rows.uptoBulkAll ds
  | [], [], _, _ => by simp [Rows.uptoBulkAll]
  | a :: l, d :: ds, hl, h => by
    have h1 := h 0 a d rfl rfl
    have h2 := sum_le μ l ds (by simpa using hl) fun i a d ha hd => h (i + 1) a d (by simpa using ha) (by simpa using hd)
    simp only [List.map_cons, List.sum_cons, Rows.uptoBulkAll]
    omega
  | [], _ :: _, hl, _ => by simp at hl
  | _ :: _, [], hl, _ => by simp at hl
theorem snoc_ind {α : Type} {p : List α → Prop} (h0 : p []) (h1 : ∀ l x, p l → p (l ++ [x])) (l : List α) : p l := by
  have : ∀ n (l : List α), l.length = n → p l := by
    intro n
    induction n with
    | zero => intro l hl; rw [List.eq_nil_of_length_eq_zero hl]; exact h0
    | succ n ih =>
      intro l hl
      have hne : l ≠ [] := fun e => by rw [e] at hl; cases hl
      rw [← List.dropLast_concat_getLast hne]
      exact h1 _ _ (ih _ (by simp [hl]))
  exact this l.length l rfl
theorem rows_of {α : Type} (f : α → List T) (sz : Nat) (hf : ∀ a, (f a).length = sz) {a : Addr} : ∀ (l : List α) (C : Nat → List Value), (∀ (i : Nat) (x : α), l[i]? = some x → RTs (memOf w) (f x) (C i) ∧ OneAll (C i) ∧ ∀ j u, (C i)[j]? = some u → w.cell? (a.add (i * sz + j)) = some u) →
    ∃ xs : List Value, xs.length = l.length * sz ∧ At (memOf w) a xs ∧ RTs (memOf w) (l.flatMap f) xs := by
  intro l
  induction l using snoc_ind with
  | h0 => exact fun _ _ => ⟨[], by simp, fun j x h => by simp at h, by simp [RTs]⟩
  | h1 l x ih =>
    intro C h
    obtain ⟨xs, h1, h2, h3⟩ := ih C fun i y hy => h i y (by rw [List.getElem?_append_left (List.getElem?_eq_some_iff.1 hy).1]; exact hy)
    obtain ⟨g1, g2, g3⟩ := h l.length x (by simp)
    have hcl := g1.len
    rw [hf] at hcl
    refine ⟨xs ++ C l.length, by simp [h1, hcl, Nat.add_mul], fun j u hu => ?_, ?_⟩
    · rw [List.getElem?_append] at hu
      split at hu
      · exact h2 j u hu
      · have := g3 _ u hu
        rw [show l.length * sz + (j - xs.length) = j by omega] at this
        exact memOf_at this (g2 u (List.mem_of_getElem? hu))
    · rw [List.flatMap_append]
      refine h3.app ?_
      simpa using g1
theorem opens_slice {α : Type} [Inhabited α] {t e : TypeId} (f : α → List T) (μ : α → Nat) (sz : Nat) (hsz : 0 < sz) (hf : ∀ a, (f a).length = sz) {fuel : Nat} (ht : P.underlying t = some (.slice e)) (hC : P.cellsOf e = sz)
    (hel : ∀ n, n < fuel → Opens enc P w base spare held e f μ n) : Opens enc P w base spare held t (fun l : List α => [.row l.length sz (l.flatMap f)]) (fun l => (l.map μ).sum + 1) fuel := by
  intro cs x h
  rcases DataW.trod_slice ht h with ⟨rfl, rfl⟩ | ⟨a, len, cap, elems, rest, n, hn, rfl, rfl, hb, hl, hm, hlen, hi, _, _⟩
  · refine ⟨[], ?_, fun u hu => by simp at hu; subst hu; rfl, by simp [Rows.uptoBulk]⟩
    simp only [RTs]
    exact ⟨_, _, rfl, rt_nil hsz (by simp only [RT]), rfl⟩
  · rw [hC] at hi
    have hv : ∀ i, i < len → ∃ p : α × List Value, (p.2.length = sz ∧ ∀ j u, p.2[j]? = some u → w.cell? (a.add (i * sz + j)) = some u) ∧ RTs (memOf w) (f p.1) p.2 ∧ OneAll p.2 ∧ ∀ y, elems[i]? = some y → μ p.1 ≤ Rows.uptoBulk y.1 := by
      intro i hil
      have hk := hi i hil
      rw [List.getElem?_eq_getElem (by omega)] at hk
      obtain ⟨cs', h1, h2⟩ := Option.bind_eq_some_iff.1 hk
      obtain ⟨el, h3, h4, h5⟩ := hel n (by omega) _ _ h2
      obtain ⟨_, hlen', hcell⟩ := World.cells?_some h1
      refine ⟨(el, cs'), ⟨hlen', fun j u hu => ?_⟩, h3, h4, fun y hy => ?_⟩
      · have hj : j < sz := by rw [← hlen']; exact (List.getElem?_eq_some_iff.1 hu).1
        rw [← hu, ← hcell j hj, add_add']
      · rw [List.getElem?_eq_getElem (by omega)] at hy
        injection hy with hy
        rw [← hy]; exact h5
    obtain ⟨G, hG⟩ := choose_lt (α := α × List Value) hv
    obtain ⟨xs, g1, g2, g3⟩ := rows_of (w := w) (a := a) f sz hf ((List.range len).map fun i => (G i).1) (fun i => (G i).2) (fun i x hx => by
      have hil : i < len := by have := (List.getElem?_eq_some_iff.1 hx).1; simpa using this
      simp [hil] at hx
      obtain ⟨k1, k2, k3, _⟩ := hG i hil
      rw [← hx]
      exact ⟨k2, k3, k1.2⟩)
    refine ⟨(List.range len).map fun i => (G i).1, ?_, fun u hu => by simp at hu; subst hu; rfl, ?_⟩
    · simp only [RTs]
      refine ⟨_, _, rfl, ?_, rfl⟩
      simp only [RT]
      exact ⟨some a, cap, xs, by simp, by simpa using hl, by simp; omega, hsz, g1, fun _ => ⟨a, rfl, g2⟩, g3⟩
    · have := sum_le μ ((List.range len).map fun i => (G i).1) (elems.map (·.1)) (by simp [hlen]) (fun i y d hy hd => by
        have hil : i < len := by have := (List.getElem?_eq_some_iff.1 hy).1; simpa using this
        simp [hil] at hy
        rw [List.getElem?_map] at hd
        obtain ⟨z, hz, rfl⟩ := Option.map_eq_some_iff.1 hd
        rw [← hy]
        exact (hG i hil).2.2.2 z hz)
      simp only [Rows.uptoBulk]
      omega
end
/-- from a walk to the call: every law that takes trees and tells true -/
theorem law_call {P : Program} {f : FuncId} {ts : List T} {vs : List Value} {W : World} (h : AF P f ts (· = .lit (.bool true))) (hv : RTs (memOf W) ts vs) : Calls P f vs.toArray W fun e W' => e = .returned (.bool true) ∧ Below W.heap.size W W' :=
  (h.2 (memOf W) W vs (memOf_ok W) hv).mono fun e w' ⟨v, r, M', he, hr, _, _, hrt, hb⟩ => by
    subst hr
    simp only [RT] at hrt
    rw [he, hrt]
    exact ⟨rfl, hb⟩
end Go.Proofs.YthgackidonocpaaGreat
namespace Go.Proofs.YthgackidonocpaaGreat
open Go.ChangeShapes Go.WideShapes Go.ChangeAt Go.RowKit Go.Deep
section
variable {H : Type} {enc : TypeId × Value → H} {P : Program} {w : World} {base : Nat} {spare : Nat → Bool} {held : Bool}
instance : Inhabited UInt8 := ⟨0⟩
theorem opens_u8 {t : TypeId} {fuel : Nat} (ht : P.underlying t = some (.int .u8)) : Opens enc P w base spare held t (fun b : UInt8 => [bytT b]) (fun _ => 1) fuel := by
  intro cs x h
  obtain ⟨i, rfl, rfl, hw⟩ := DataW.trod_int ht h
  have hin : 0 ≤ i ∧ i < 256 := by
    simp [Lit.wf, IntKind.min, IntKind.max, IntKind.bits, IntKind.signed] at hw
    omega
  have hb : (((UInt8.ofNat i.toNat).toNat : Nat) : Int) = i := by
    rw [UInt8.toNat_ofNat', Nat.mod_eq_of_lt (by omega)]
    omega
  exact ⟨UInt8.ofNat i.toNat, by simp only [RTs, RT, bytT, hb]; exact ⟨_, _, rfl, rfl, rfl⟩, fun u hu => by simp at hu; subst hu; rfl, bulk_one _⟩
theorem flat_byt : ∀ l : List UInt8, (l.flatMap fun b => [bytT b]) = byts l
  | [] => rfl
  | b :: l => by simp [byts, flat_byt l]
theorem sum_one {α : Type} : ∀ l : List α, (l.map fun _ => 1).sum = l.length
  | [] => rfl
  | _ :: l => by simp only [List.map_cons, List.sum_cons, sum_one l, List.length_cons]; omega
theorem opensB (fuel : Nat) : Opens enc Tryz.prog w base spare held 22 (fun l : List UInt8 => [bytRow l]) (fun l => l.length + 1) fuel := by
  intro cs x h
  obtain ⟨l, h1, h2, h3⟩ := opens_slice (fun b : UInt8 => [bytT b]) (fun _ => 1) 1 (by omega) (fun _ => rfl) Tryz.underlying22 (by kernel_rfl) (fun m _ => opens_u8 Tryz.underlying5) cs x h
  dsimp only at h1 h3
  rw [flat_byt] at h1
  rw [sum_one] at h3
  exact ⟨l, h1, h2, h3⟩
end
end Go.Proofs.YthgackidonocpaaGreat
namespace Go.Proofs.YthgackidonocpaaGreat
open Go.ChangeShapes Go.WideShapes Go.ChangeAt Go.RowKit Go.Deep
theorem listN4 {α : Type} {l : List α} (h : l.length = 4) : ∃ a b c d, l = [a, b, c, d] := match l, h with | [a, b, c, d], _ => ⟨a, b, c, d, rfl⟩
theorem rts_seg {M : Mm} {ts us : List T} {cs : List Value} {o c : Nat} (h : RTs M ts ((cs.drop o).take c)) (h' : RTs M us (cs.drop (o + c))) : RTs M (ts ++ us) (cs.drop o) := by
  have := h.app h'
  rwa [← List.drop_drop, List.take_append_drop] at this
theorem rts_end {M : Mm} {cs : List Value} {o : Nat} (h : cs.length = o) : RTs M [] (cs.drop o) := by rw [← h, List.drop_length]; simp [RTs]
theorem one_seg {cs : List Value} {o c : Nat} (h : OneAll ((cs.drop o).take c)) (h' : OneAll (cs.drop (o + c))) : OneAll (cs.drop o) := by
  have := h.app h'
  rwa [← List.drop_drop, List.take_append_drop] at this
theorem one_end {cs : List Value} {o : Nat} (h : cs.length = o) : OneAll (cs.drop o) := by rw [← h, List.drop_length]; intro x hx; simp at hx
instance (n : Int) : Decidable (inI n) := by unfold inI; infer_instance
instance : Inhabited V := ⟨.mk 0 0 ⟨#[]⟩ []⟩
/-- a number, heavy where it is out of range -/
def far (n : Int) : Nat := if inI n then 1 else 1099511627776
mutual
def V.mass : V → Nat
  | .mk k n t l => far k + far n + t.size + V.masses l
def V.masses : List V → Nat
  | [] => 0
  | v :: r => v.mass + V.masses r
end
theorem far_in {n : Int} (h : far n ≤ 1048576) : inI n := by
  unfold far at h
  split at h
  · assumption
  · omega
theorem far_pos (n : Int) : 1 ≤ far n := by unfold far; split <;> omega
mutual
theorem V.mass_ok : ∀ v : V, v.mass ≤ 1048576 → v.ok ∧ v.size + v.txt ≤ v.mass
  | .mk k n t l, h => by
    simp only [V.mass] at h
    have h1 := far_pos n
    have h4 := far_pos k
    have h2 := V.masses_ok l (by omega)
    have h3 : inI n := far_in (by omega)
    simp only [V.ok, V.size, V.txt, V.mass]
    exact ⟨⟨h3, h2.1⟩, by omega⟩
theorem V.masses_ok : ∀ l : List V, V.masses l ≤ 1048576 → V.oks l ∧ V.sizes l + V.txts l ≤ V.masses l
  | [], _ => by simp [V.oks, V.sizes, V.txts]
  | v :: l, h => by
    simp only [V.masses] at h
    have h1 := V.mass_ok v (by omega)
    have h2 := V.masses_ok l (by omega)
    simp only [V.oks, V.sizes, V.txts, V.masses]
    exact ⟨⟨h1.1, h2.1⟩, by omega⟩
end
theorem V.masses_sum : ∀ l : List V, V.masses l = (l.map V.mass).sum
  | [] => rfl
  | v :: l => by simp [V.masses, V.masses_sum l]
section
variable {H : Type} {enc : TypeId × Value → H} {P : Program} {w : World} {base : Nat} {spare : Nat → Bool} {held : Bool}
theorem opens_strz {t : TypeId} {fuel : Nat} (ht : P.underlying t = some .string) : Opens enc P w base spare held t (fun s : ByteArray => [.lit (.string s)]) (fun s => s.size + 1) fuel := by
  intro cs x h
  obtain ⟨i, rfl, rfl, _⟩ := DataW.trod_string ht h
  exact ⟨i, by simp [RTs, RT], fun u hu => by simp at hu; subst hu; rfl, by simp [Rows.uptoBulk]⟩
theorem opens_far {t : TypeId} {fuel : Nat} (ht : P.underlying t = some (.int .i64)) : Opens enc P w base spare held t (fun i : Int => [.lit (.int .i64 i)]) far fuel := by
  intro cs x h
  obtain ⟨i, rfl, rfl, hw⟩ := DataW.trod_int ht h
  have hin : inI i := by
    unfold inI
    simp [Lit.wf, IntKind.min, IntKind.max, IntKind.bits, IntKind.signed] at hw
    omega
  exact ⟨i, by simp [RTs, RT], fun u hu => by simp at hu; subst hu; rfl, by unfold far; rw [if_pos hin]; exact bulk_one _⟩
theorem cn_int : Tryz.prog.cellsOf 3 = 1 := by kernel_rfl
theorem cn_str : Tryz.prog.cellsOf 9 = 1 := by kernel_rfl
theorem cn_val : Tryz.prog.cellsOf 61 = 4 := by kernel_rfl
theorem cn_vals : Tryz.prog.cellsOf 46 = 1 := by kernel_rfl
theorem opensV : ∀ fuel, Opens enc Tryz.prog w base spare held 61 V.ts V.mass fuel := by
  intro fuel
  induction fuel using Nat.strongRecOn with
  | _ fuel ih =>
    intro cs x h
    obtain ⟨ys, n, hn, rfl, hlen, hyl, hf⟩ := DataW.trod_struct Tryz.underlying61 h
    rw [cn_val] at hlen
    obtain ⟨y0, y1, y2, y3, rfl⟩ := listN4 hyl
    have f0 : DataW.trod enc Tryz.prog w base spare held n 3 ((cs.drop 0).take (Tryz.prog.cellsOf 3)) = some y0 := hf 0 _ rfl
    have f1 : DataW.trod enc Tryz.prog w base spare held n 3 ((cs.drop 1).take (Tryz.prog.cellsOf 3)) = some y1 := hf 1 _ rfl
    have f2 : DataW.trod enc Tryz.prog w base spare held n 9 ((cs.drop 2).take (Tryz.prog.cellsOf 9)) = some y2 := hf 2 _ rfl
    have f3 : DataW.trod enc Tryz.prog w base spare held n 46 ((cs.drop 3).take (Tryz.prog.cellsOf 46)) = some y3 := hf 3 _ rfl
    rw [cn_int] at f0 f1
    rw [cn_str] at f2
    rw [cn_vals] at f3
    obtain ⟨a0, r0, o0, m0⟩ := opens_far Tryz.underlying3 _ _ f0
    obtain ⟨a1, r1, o1, m1⟩ := opens_far Tryz.underlying3 _ _ f1
    obtain ⟨a2, r2, o2, m2⟩ := opens_strz Tryz.underlying9 _ _ f2
    obtain ⟨a3, r3, o3, m3⟩ := opens_slice V.ts V.mass 4 (by omega) V.ts_len Tryz.underlying46 cn_val (fun m hm => ih m (by omega)) _ _ f3
    refine ⟨.mk a0 a1 a2 a3, ?_, ?_, ?_⟩
    · have := rts_seg r0 (rts_seg r1 (rts_seg r2 (rts_seg r3 (rts_end hlen))))
      simpa [V.ts, V.all_eq] using this
    · have := one_seg o0 (one_seg o1 (one_seg o2 (one_seg o3 (one_end hlen))))
      simpa using this
    · simp only [V.mass, V.masses_sum, List.map_cons, List.map_nil, Rows.uptoBulk, Rows.uptoBulkAll] at m0 m1 m2 m3 ⊢
      omega
end
end Go.Proofs.YthgackidonocpaaGreat
