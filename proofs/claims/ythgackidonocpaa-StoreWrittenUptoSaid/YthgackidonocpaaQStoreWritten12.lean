/-
  Texts of this proof, part 12: Tuf Tub Tul Open Law OpenT.
-/
import Derived.Test.YthgackidonocpaaQStoreWritten11
import Derived.Deep.Slices
import Derived.JoinedCond
import Derived.MapKept
import Derived.OpenShut
import Derived.ProofKit
import Derived.Test.YthgackidonocpaaRows
namespace Go.Proofs.Ythgackidonocpaa
open Go.RowKit
theorem isN_eq (n : Int) : (!isN n) = (decide (n < 1) || decide (8 < n)) := by
  unfold isN
  by_cases h1 : n < 1
  · rw [decide_eq_true h1, decide_eq_false (show ¬ 1 ≤ n by omega)]; rfl
  · rw [decide_eq_false h1, decide_eq_true (show 1 ≤ n by omega)]
    by_cases h2 : 8 < n
    · rw [decide_eq_true h2, decide_eq_false (show ¬ n ≤ 8 by omega)]; rfl
    · rw [decide_eq_false h2, decide_eq_true (show n ≤ 8 by omega)]; rfl
theorem bad_eq (fr to : Int) : ((!isN fr || !isN to) || decide (fr = to)) = (decide (fr < 1) || decide (8 < fr) || decide (to < 1) || decide (8 < to) || decide (fr = to)) := by
  rw [isN_eq, isN_eq]
  simp only [Bool.or_assoc]
set_option maxRecDepth 100000 in
set_option maxHeartbeats 4000000 in
theorem snapFault_af (s : Snp) (hsm : s.Small) : AF Try.prog 50 [s.t] (· = .lit (.int .i64 s.check)) := by
  have k2 := @Snp.check_2 s
  have k1 := @Snp.check_1 s
  have kp := @Snp.check_p s
  have kw := @Snp.check_w s
  obtain ⟨s1, s2, s3⟩ := hsm
  obtain ⟨tm, l, ws⟩ := s
  dsimp only at k2 k1 kp kw s1 s2
  clear s3
  generalize (Snp.mk tm l ws).check = ck at *
  refine af_enter tok Try.func50 Try.ntmps50 Try.results50 rfl (by kernel_rfl) rfl rfl fun F hX => ?_
  cases d1 : decide ((100 : Int) < (l.length : Int))
  rotate_left
  · repeat (first | refine gG ?_ | refine zN1 (fun hlen => ?_) | refine zN2 (fun hlen => ?_) | refine zAl (fun _ => ?_) | refine zBf ?_)
    first | refine zR ?_ | refine zQ ?_
    rw [k2 (by rw [d1]; rfl)]; rfl
  cases d2 : decide ((60 : Int) < (ws.length : Int))
  rotate_left
  · repeat (first | refine gG ?_ | refine zN1 (fun hlen => ?_) | refine zN2 (fun hlen => ?_) | refine zAl (fun _ => ?_) | refine zBf ?_)
    first | refine zR ?_ | refine zQ ?_
    rw [k2 (by rw [d1, d2]; rfl)]; rfl
  have j1 : (decide ((100 : Int) < (l.length : Int)) || decide ((60 : Int) < (ws.length : Int))) = false := by rw [d1, d2]; rfl
  cases d3 : decide (tm < 0)
  rotate_left
  · repeat (first | refine gG ?_ | refine zN1 (fun hlen => ?_) | refine zN2 (fun hlen => ?_) | refine zAl (fun _ => ?_) | refine zBf ?_)
    first | refine zR ?_ | refine zQ ?_
    rw [k1 j1 d3]; rfl
  have kp := kp j1 d3
  have kw := kw j1 d3
  clear k2 k1 j1
  repeat (first | refine gG ?_ | refine zN1 (fun hlen => ?_) | refine zN2 (fun hlen => ?_) | refine zAl (fun _ => ?_) | refine zBf ?_)
  refine x_loop [2, 3, 4, 5, 6, 28, 29, 30, 31, 32, 33, 34, 35, 36, 37, 38, 39, 40, 41, 42, 43, 44, 45, 46, 47, 48] (fun y : Nat × Int => [(28, .c (.lit (.int .i64 (y.1 : Nat)))), (3, .c (.lit (.int .i64 y.2)))]) (fun _ => []) (fun y => y.1 ≤ l.length ∧ (∀ x ∈ (prevs l).take y.1, parE x = 0) ∧ ((y.1 = 0 ∧ y.2 = 0) ∨ ∃ j b, y.1 = j + 1 ∧ l[j]? = some b ∧ y.2 = b.ref)) (fun y => l.length - y.1) (0, 0) ⟨Nat.zero_le _, by simp, .inl ⟨rfl, rfl⟩⟩ ⟨rfl, rfl, trivial⟩ rfl ?_
  rintro ⟨k, la⟩ ⟨hk, hz, hla⟩
  dsimp only at hk hz hla ⊢
  repeat (first | refine gG ?_ | refine zN1 (fun hlen => ?_) | refine zN2 (fun hlen => ?_) | refine zAl (fun _ => ?_) | refine zBx (fun _ => ?_))
  refine x_cond rfl (fun h => ?_) (fun h => ?_)
  · have hk' : k < l.length := by simpa using h
    obtain ⟨a, ha⟩ := nth hk'
    have hs := parcelFault_af a (s1 a (List.mem_of_getElem? ha)).1
    have pc := fun o => @parE_c a o
    have har : ∃ j b, k + 1 = j + 1 ∧ l[j]? = some b ∧ a.ref = b.ref := ⟨k, a, rfl, ha, rfl⟩
    rcases hla with ⟨rfl, rfl⟩ | ⟨j, b, rfl, hb, rfl⟩
    · have ho := prevs_at0 ha
      have he := errs_at parE hz ho
      have hsn := take_snoc (p := fun x => parE x = 0) ho hz
      have p0 : parE (a, none) = a.check := rfl
      repeat (first | refine gG ?_ | refine zN1 (fun hlen => ?_) | refine zN2 (fun hlen => ?_) | refine zAl (fun _ => ?_) | refine zBx (fun _ => ?_))
      refine zIx (0) (hk') ?_
      repeat (first | refine gG ?_ | refine zN1 (fun hlen => ?_) | refine zN2 (fun hlen => ?_) | refine zAl (fun _ => ?_) | refine zBx (fun _ => ?_))
      refine zEl (flat_at Par.ts 8 Par.ts_len ha) (Par.ts_len a) ?_
      generalize hca : a.check = ca at *
      obtain ⟨rf, ⟨ac, st, ip⟩, bx, tk, wt, lk⟩ := a
      repeat (first | refine gG ?_ | refine zN1 (fun hlen => ?_) | refine zN2 (fun hlen => ?_) | refine zAl (fun _ => ?_) | refine zBx (fun _ => ?_))
      refine zCall (hs) ?_
      rintro _ rfl
      cases c1 : decide (ca = 0)
      · have c0 : ¬ ca = 0 := of_decide_eq_false c1
        have e := pc none c0
        repeat (first | refine gG ?_ | refine zN1 (fun hlen => ?_) | refine zN2 (fun hlen => ?_) | refine zAl (fun _ => ?_) | refine zBx (fun _ => ?_))
        first | refine zR ?_ | refine zQ ?_
        rw [kp (by rw [he (by omega)]; omega), he (by omega), e]; rfl
      · have c0 : ca = 0 := of_decide_eq_true c1
        repeat (first | refine gG ?_ | refine zN1 (fun hlen => ?_) | refine zN2 (fun hlen => ?_) | refine zAl (fun _ => ?_) | refine zBx (fun _ => ?_))
        exact ⟨(1, rf), ⟨hk', hsn (by omega), .inr har⟩, by simp only; omega, x_wkd 0 ⟨rfl, rfl, trivial⟩ rfl (by repeat (first | exact ag_refl | refine ag_upd rfl ?_ | refine ag_at rfl rfl ?_))⟩
    · have dk : decide ((0 : Int) < ((j + 1 : Nat) : Int)) = true := decide_eq_true (by omega)
      have ho := prevs_at ha hb
      have he := errs_at parE hz ho
      have hsn := take_snoc (p := fun x => parE x = 0) ho hz
      have p21 := @parE_21 a b
      have p0 := @parE_0 a b
      repeat (first | refine gG ?_ | refine zN1 (fun hlen => ?_) | refine zN2 (fun hlen => ?_) | refine zAl (fun _ => ?_) | refine zBx (fun _ => ?_))
      refine zIx (j + 1) (hk') ?_
      repeat (first | refine gG ?_ | refine zN1 (fun hlen => ?_) | refine zN2 (fun hlen => ?_) | refine zAl (fun _ => ?_) | refine zBx (fun _ => ?_))
      refine zEl (flat_at Par.ts 8 Par.ts_len ha) (Par.ts_len a) ?_
      generalize hca : a.check = ca at *
      obtain ⟨rf, ⟨ac, st, ip⟩, bx, tk, wt, lk⟩ := a
      repeat (first | refine gG ?_ | refine zN1 (fun hlen => ?_) | refine zN2 (fun hlen => ?_) | refine zAl (fun _ => ?_) | refine zBx (fun _ => ?_))
      refine zCall (hs) ?_
      rintro _ rfl
      cases c1 : decide (ca = 0)
      · have c0 : ¬ ca = 0 := of_decide_eq_false c1
        have e := pc (some b) c0
        repeat (first | refine gG ?_ | refine zN1 (fun hlen => ?_) | refine zN2 (fun hlen => ?_) | refine zAl (fun _ => ?_) | refine zBx (fun _ => ?_))
        first | refine zR ?_ | refine zQ ?_
        rw [kp (by rw [he (by omega)]; omega), he (by omega), e]; rfl
      · have c0 : ca = 0 := of_decide_eq_true c1
        have p21 := p21 c0
        have p0 := p0 c0
        dsimp only at p21 p0
        cases c2 : decide (rf ≤ b.ref)
        · repeat (first | refine gG ?_ | refine zN1 (fun hlen => ?_) | refine zN2 (fun hlen => ?_) | refine zAl (fun _ => ?_) | refine zBx (fun _ => ?_))
          exact ⟨(j + 1 + 1, rf), ⟨hk', hsn (p0 c2), .inr har⟩, by simp only; omega, x_wkd 0 ⟨rfl, rfl, trivial⟩ rfl (by repeat (first | exact ag_refl | refine ag_upd rfl ?_ | refine ag_at rfl rfl ?_))⟩
        · have e := p21 c2
          repeat (first | refine gG ?_ | refine zN1 (fun hlen => ?_) | refine zN2 (fun hlen => ?_) | refine zAl (fun _ => ?_) | refine zBx (fun _ => ?_))
          first | refine zR ?_ | refine zQ ?_
          rw [kp (by rw [he (by omega)]; omega), he (by omega), e]; rfl
  have hk' : k = l.length := by have : ¬ k < l.length := by simpa using h
                                omega
  subst hk'
  rw [← prevs_len l, List.take_length] at hz
  have kw := kw (errs_all parE hz)
  clear kp hz hk h hla
  repeat (first | refine gG ?_ | refine zN1 (fun hlen => ?_) | refine zN2 (fun hlen => ?_) | refine zAl (fun _ => ?_) | refine zBx (fun _ => ?_))
  refine x_loop [2, 3, 8, 10, 11, 52, 53, 54, 55, 56, 57, 58, 59, 60, 61, 62, 63, 64, 65, 66, 67, 68, 69, 70, 71, 72, 73, 74, 75, 76, 77, 78, 79, 80, 81, 82, 83, 84, 85, 86, 87, 88, 89, 90, 91, 92, 93, 94, 95, 96, 97, 98, 99, 100, 101, 102, 103, 104, 105, 106, 107, 108, 109, 110, 111, 112] (fun y : Nat × Int => [(52, .c (.lit (.int .i64 (y.1 : Nat)))), (3, .c (.lit (.int .i64 y.2)))]) (fun _ => []) (fun y => y.1 ≤ ws.length ∧ (∀ x ∈ (prevs ws).take y.1, wayE x = 0) ∧ ((y.1 = 0 ∧ y.2 = -1) ∨ ∃ j q, y.1 = j + 1 ∧ ws[j]? = some q ∧ y.2 = 10 * q.frm + q.to ∧ q.badN = false)) (fun y => ws.length - y.1) (0, -1) ⟨Nat.zero_le _, by simp, .inl ⟨rfl, rfl⟩⟩ ⟨rfl, rfl, trivial⟩ rfl ?_
  rintro ⟨k, la⟩ ⟨hk, hz, hla⟩
  dsimp only at hk hz hla ⊢
  repeat (first | refine gG ?_ | refine zN1 (fun hlen => ?_) | refine zN2 (fun hlen => ?_) | refine zAl (fun _ => ?_) | refine zBx (fun _ => ?_))
  refine x_cond rfl (fun h => ?_) (fun h => ?_)
  rotate_left
  · have hk' : k = ws.length := by have : ¬ k < ws.length := by simpa using h
                                   omega
    subst hk'
    rw [← prevs_len ws, List.take_length] at hz
    rw [errs_all wayE hz] at kw
    repeat (first | refine gG ?_ | refine zN1 (fun hlen => ?_) | refine zN2 (fun hlen => ?_) | refine zAl (fun _ => ?_) | refine zBx (fun _ => ?_))
    first | refine zR ?_ | refine zQ ?_
    rw [kw]; rfl
  have hk' : k < ws.length := by simpa using h
  obtain ⟨a, ha⟩ := nth hk'
  have hst := s2 a (List.mem_of_getElem? ha)
  obtain ⟨o, ho, hord⟩ : ∃ o, (prevs ws)[k]? = some (a, o) ∧ (a.badN = false → ordM a.frm a.to o = decide (10 * a.frm + a.to ≤ la)) := by
    rcases hla with ⟨rfl, rfl⟩ | ⟨j, q, rfl, hq, rfl, hqb⟩
    · refine ⟨none, prevs_at0 ha, fun hb => ?_⟩
      obtain ⟨b1, b2⟩ := badN_in hb
      exact (decide_eq_false (by omega)).symm
    · exact ⟨some q, prevs_at ha hq, fun hb => ord_eq hb hqb⟩
  have hnx : a.badN = false → ∃ j q, k + 1 = j + 1 ∧ ws[j]? = some q ∧ 10 * a.frm + a.to = 10 * q.frm + q.to ∧ q.badN = false := fun hb => ⟨k, a, rfl, ha, rfl, hb⟩
  have he := errs_at wayE hz ho
  have hsn := take_snoc (p := fun x => wayE x = 0) ho hz
  obtain ⟨we, hWe⟩ : ∃ we, wayE (a, o) = we := ⟨_, rfl⟩
  have hbe : a.badN = (decide (a.frm < 1) || decide (8 < a.frm) || decide (a.to < 1) || decide (8 < a.to) || decide (a.frm = a.to)) := bad_eq a.frm a.to
  have w1 : a.badN = true → we = 1 := fun h => hWe ▸ wayE_1 h
  have w2 : a.badN = false → decide ((100 : Int) < (a.lets.length : Int)) = true → we = 2 := fun h h2 => hWe ▸ wayE_2 h h2
  have w21 : a.badN = false → decide ((100 : Int) < (a.lets.length : Int)) = false → ordM a.frm a.to o = true → we = 21 := fun h h2 h3 => hWe ▸ wayE_21 h h2 h3
  have wl : a.badN = false → decide ((100 : Int) < (a.lets.length : Int)) = false → ordM a.frm a.to o = false → we = errs (a.lets.map Lt.check) := fun h h2 h3 => hWe ▸ wayE_l h h2 h3
  have hbi : a.badN = false → (1 ≤ a.frm ∧ a.frm ≤ 8) ∧ (1 ≤ a.to ∧ a.to ≤ 8) := fun h => badN_in h
  rw [hWe] at he hsn
  clear hWe hla hz
  repeat (first | refine gG ?_ | refine zN1 (fun hlen => ?_) | refine zN2 (fun hlen => ?_) | refine zAl (fun _ => ?_) | refine zBx (fun _ => ?_))
  refine zIx (k) (hk') ?_
  repeat (first | refine gG ?_ | refine zN1 (fun hlen => ?_) | refine zN2 (fun hlen => ?_) | refine zAl (fun _ => ?_) | refine zBx (fun _ => ?_))
  refine zEl (flat_at Wy.ts 3 Wy.ts_len ha) (Wy.ts_len a) ?_
  generalize a.badN = bn at *
  obtain ⟨fr, to, ls⟩ := a
  dsimp only at w1 w2 w21 wl hbi hbe hord hnx hst
  cases n1 : decide (fr < 1)
  rotate_left
  · have w1 := w1 (by rw [hbe, n1]; simp)
    repeat (first | refine gG ?_ | refine zN1 (fun hlen => ?_) | refine zN2 (fun hlen => ?_) | refine zAl (fun _ => ?_) | refine zBx (fun _ => ?_))
    first | refine zR ?_ | refine zQ ?_
    rw [kw, he (by omega), w1]; rfl
  cases n2 : decide (8 < fr)
  rotate_left
  · have w1 := w1 (by rw [hbe, n1, n2]; simp)
    repeat (first | refine gG ?_ | refine zN1 (fun hlen => ?_) | refine zN2 (fun hlen => ?_) | refine zAl (fun _ => ?_) | refine zBx (fun _ => ?_))
    first | refine zR ?_ | refine zQ ?_
    rw [kw, he (by omega), w1]; rfl
  cases n3 : decide (to < 1)
  rotate_left
  · have w1 := w1 (by rw [hbe, n1, n2, n3]; simp)
    repeat (first | refine gG ?_ | refine zN1 (fun hlen => ?_) | refine zN2 (fun hlen => ?_) | refine zAl (fun _ => ?_) | refine zBx (fun _ => ?_))
    first | refine zR ?_ | refine zQ ?_
    rw [kw, he (by omega), w1]; rfl
  cases n4 : decide (8 < to)
  rotate_left
  · have w1 := w1 (by rw [hbe, n1, n2, n3, n4]; simp)
    repeat (first | refine gG ?_ | refine zN1 (fun hlen => ?_) | refine zN2 (fun hlen => ?_) | refine zAl (fun _ => ?_) | refine zBx (fun _ => ?_))
    first | refine zR ?_ | refine zQ ?_
    rw [kw, he (by omega), w1]; rfl
  cases n5 : decide (fr = to)
  rotate_left
  · have w1 := w1 (by rw [hbe, n1, n2, n3, n4, n5]; simp)
    repeat (first | refine gG ?_ | refine zN1 (fun hlen => ?_) | refine zN2 (fun hlen => ?_) | refine zAl (fun _ => ?_) | refine zBx (fun _ => ?_))
    first | refine zR ?_ | refine zQ ?_
    rw [kw, he (by omega), w1]; rfl
  have hb0 : bn = false := by rw [hbe, n1, n2, n3, n4, n5]; rfl
  have w2 := w2 hb0
  have w21 := w21 hb0
  have wl := wl hb0
  have hord := hord hb0
  have hnx := hnx hb0
  obtain ⟨hb1, hb2⟩ := hbi hb0
  cases d4 : decide ((100 : Int) < (ls.length : Int))
  rotate_left
  · have w2 := w2 d4
    repeat (first | refine gG ?_ | refine zN1 (fun hlen => ?_) | refine zN2 (fun hlen => ?_) | refine zAl (fun _ => ?_) | refine zBx (fun _ => ?_))
    first | refine zR ?_ | refine zQ ?_
    rw [kw, he (by omega), w2]; rfl
  have w21 := w21 d4
  have wl := wl d4
  rw [hord] at w21 wl
  clear hord hbi w1 w2 hbe
  repeat (first | refine gG ?_ | refine zN1 (fun hlen => ?_) | refine zN2 (fun hlen => ?_) | refine zAl (fun _ => ?_) | refine zBx (fun _ => ?_))
  refine lo_mul rfl rfl (r := 10 * fr) (by dsimp only; rw [IntWalk.i64_in _ (by omega)]) ?_
  repeat (first | refine gG ?_ | refine zN1 (fun hlen => ?_) | refine zN2 (fun hlen => ?_) | refine zAl (fun _ => ?_) | refine zBx (fun _ => ?_))
  refine lo_add rfl rfl (r := 10 * fr + to) (by dsimp only; rw [IntWalk.i64_in _ (by omega)]) ?_
  cases c3 : decide (10 * fr + to ≤ la)
  rotate_left
  · have w21 := w21 c3
    repeat (first | refine gG ?_ | refine zN1 (fun hlen => ?_) | refine zN2 (fun hlen => ?_) | refine zAl (fun _ => ?_) | refine zBx (fun _ => ?_))
    first | refine zR ?_ | refine zQ ?_
    rw [kw, he (by omega), w21]; rfl
  have wl := wl c3
  repeat (first | refine gG ?_ | refine zN1 (fun hlen => ?_) | refine zN2 (fun hlen => ?_) | refine zAl (fun _ => ?_) | refine zBx (fun _ => ?_))
  refine lo_mul rfl rfl (r := 10 * fr) (by dsimp only; rw [IntWalk.i64_in _ (by omega)]) ?_
  repeat (first | refine gG ?_ | refine zN1 (fun hlen => ?_) | refine zN2 (fun hlen => ?_) | refine zAl (fun _ => ?_) | refine zBx (fun _ => ?_))
  refine lo_add rfl rfl (r := 10 * fr + to) (by dsimp only; rw [IntWalk.i64_in _ (by omega)]) ?_
  repeat (first | refine gG ?_ | refine zN1 (fun hlen => ?_) | refine zN2 (fun hlen => ?_) | refine zAl (fun _ => ?_) | refine zBx (fun _ => ?_))
  rename_i bw _
  refine x_loop [2, 10, 11, 102, 103, 104, 105, 106, 107, 108, 109, 110, 111] (fun j : Nat => [(102, .c (.lit (.int .i64 j)))]) (fun _ => [.box bw 183 [.c (.lit (.int .i64 fr)), .c (.lit (.int .i64 to)), .c (letRow ls)]]) (fun j => j ≤ ls.length ∧ ∀ x ∈ ls.take j, Lt.check x = 0) (fun j => ls.length - j) 0 ⟨Nat.zero_le _, by simp⟩ ⟨rfl, trivial⟩ rfl ?_
  rintro j ⟨hj, hz3⟩
  repeat (first | refine gG ?_ | refine zN1 (fun hlen => ?_) | refine zN2 (fun hlen => ?_) | refine zAl (fun _ => ?_) | refine zBx (fun _ => ?_))
  refine x_cond rfl (fun h => ?_) (fun h => ?_)
  · have hj' : j < ls.length := by simpa using h
    obtain ⟨x, hx⟩ := nth hj'
    have hs : AF Try.prog 29 [x.t] (· = .lit (.int .i64 x.check)) := (by have h := letterFault_af x (hst x (List.mem_of_getElem? hx)).2.1; rw [Lt.fault_eq] at h; exact h)
    have he3 := errs_at Lt.check hz3 hx
    have hsn3 := take_snoc (p := fun x => Lt.check x = 0) hx hz3
    repeat (first | refine gG ?_ | refine zN1 (fun hlen => ?_) | refine zN2 (fun hlen => ?_) | refine zAl (fun _ => ?_) | refine zBx (fun _ => ?_))
    refine zIx (j) (hj') ?_
    repeat (first | refine gG ?_ | refine zN1 (fun hlen => ?_) | refine zN2 (fun hlen => ?_) | refine zAl (fun _ => ?_) | refine zBx (fun _ => ?_))
    refine zEl (flat_at Lt.ts 9 Lt.ts_len hx) (Lt.ts_len x) ?_
    generalize hca : x.check = ca at *
    obtain ⟨ka, fa, ta, na, sa, ⟨kv, nv, tv, lv⟩⟩ := x
    repeat (first | refine gG ?_ | refine zN1 (fun hlen => ?_) | refine zN2 (fun hlen => ?_) | refine zAl (fun _ => ?_) | refine zBx (fun _ => ?_))
    refine zCall (hs) ?_
    rintro _ rfl
    cases c2 : decide (ca = 0)
    · have c0 : ¬ ca = 0 := of_decide_eq_false c2
      have e3 := he3 c0
      repeat (first | refine gG ?_ | refine zN1 (fun hlen => ?_) | refine zN2 (fun hlen => ?_) | refine zAl (fun _ => ?_) | refine zBx (fun _ => ?_))
      first | refine zR ?_ | refine zQ ?_
      rw [kw, he (by omega), wl, e3]; rfl
    · have c0 : ca = 0 := of_decide_eq_true c2
      repeat (first | refine gG ?_ | refine zN1 (fun hlen => ?_) | refine zN2 (fun hlen => ?_) | refine zAl (fun _ => ?_) | refine zBx (fun _ => ?_))
      exact ⟨j + 1, ⟨hj', hsn3 c0⟩, by omega, x_wkd 1 ⟨rfl, trivial⟩ rfl (by repeat (first | exact ag_refl | refine ag_upd rfl ?_ | refine ag_at rfl rfl ?_))⟩
  · have hj' : j = ls.length := by have : ¬ j < ls.length := by simpa using h
                                   omega
    subst hj'
    rw [List.take_length] at hz3
    rw [errs_all Lt.check hz3] at wl
    repeat (first | refine gG ?_ | refine zN1 (fun hlen => ?_) | refine zN2 (fun hlen => ?_) | refine zAl (fun _ => ?_) | refine zBx (fun _ => ?_))
    exact ⟨(k + 1, 10 * fr + to), ⟨hk', hsn wl, .inr hnx⟩, by simp only; omega, x_wkd 0 ⟨rfl, rfl, trivial⟩ rfl (by repeat (first | exact ag_refl | refine ag_upd rfl ?_ | refine ag_at rfl rfl ?_))⟩
end Go.Proofs.Ythgackidonocpaa
namespace Go.Proofs.Ythgackidonocpaa
open Go.RowKit
theorem two_kb (a b : Int) : [T.lit (.int .u8 (IntKind.u8.wrap a)), T.lit (.int .u8 (IntKind.u8.wrap b))] = byts [kb a, kb b] := by rw [← kb_T, ← kb_T]; rfl
theorem four_kb (n : Int) : [T.lit (.int .u8 (IntKind.u8.wrap (n / 16777216))), T.lit (.int .u8 (IntKind.u8.wrap (n / 65536))), T.lit (.int .u8 (IntKind.u8.wrap (n / 256))), T.lit (.int .u8 (IntKind.u8.wrap n))] = byts (numB n 4) := by
  have e : n = n / 256 ^ 0 := by simp
  have e0 : numB n 4 = [kb (n / 16777216), kb (n / 65536), kb (n / 256), kb n] := by
    simp only [numB]
    rw [← e]
    rfl
  rw [e0, ← kb_T, ← kb_T, ← kb_T, ← kb_T]
  rfl
theorem kb_mod (n : Int) : kb (n % 256) = kb n := by unfold kb; rw [Int.emod_emod_of_dvd _ (Int.dvd_refl 256)]
theorem quo_nat (n m : Nat) (hn : n ≤ 9223372036854775807) : IntKind.i64.wrap ((n : Int).tdiv (m : Int)) = (n : Int) / (m : Int) := by
  rw [Int.tdiv_eq_ediv_of_nonneg (by omega)]
  have h1 : (n : Int) / (m : Int) ≤ n := Int.ediv_le_self _ (by omega)
  have h2 : 0 ≤ (n : Int) / (m : Int) := Int.ediv_nonneg (by omega) (by omega)
  rw [IntWalk.i64_in _ (by omega)]
set_option maxRecDepth 100000 in
set_option maxHeartbeats 4000000 in
theorem long_af (x : List UInt8) (hx : x.length ≤ 9000000000000000000) : AF Try.prog 113 [.lit (.string (bs x))] (· = .lit (.string (bs (partB x)))) := by
  have hsz : ((bs x).size : Int) = (x.length : Int) := by rw [bs_size']
  have q1 := quo_nat x.length 16777216 (by omega)
  have q2 := quo_nat x.length 65536 (by omega)
  have q3 := quo_nat x.length 256 (by omega)
  rw [← hsz] at q1 q2 q3
  have hcs := four_kb (x.length : Int)
  have hnl := numB_len (x.length : Int) 4
  rw [← hsz] at hcs
  refine af_enter tok Try.func113 Try.ntmps113 Try.results113 rfl (by kernel_rfl) rfl rfl fun F hX => ?_
  repeat (first | refine gG ?_ | refine zN1 (fun hlen => ?_) | refine zN2 (fun hlen => ?_))
  refine lo_quo rfl rfl (by decide) q1 ?_
  repeat (first | refine gG ?_ | refine zN1 (fun hlen => ?_) | refine zN2 (fun hlen => ?_))
  refine lo_conv tok rfl rfl rfl rfl rfl ?_
  repeat (first | refine gG ?_ | refine zN1 (fun hlen => ?_) | refine zN2 (fun hlen => ?_))
  refine lo_quo rfl rfl (by decide) q2 ?_
  repeat (first | refine gG ?_ | refine zN1 (fun hlen => ?_) | refine zN2 (fun hlen => ?_))
  refine lo_conv tok rfl rfl rfl rfl rfl ?_
  repeat (first | refine gG ?_ | refine zN1 (fun hlen => ?_) | refine zN2 (fun hlen => ?_))
  refine lo_quo rfl rfl (by decide) q3 ?_
  repeat (first | refine gG ?_ | refine zN1 (fun hlen => ?_) | refine zN2 (fun hlen => ?_))
  refine lo_conv tok rfl rfl rfl rfl rfl ?_
  repeat (first | refine gG ?_ | refine zN1 (fun hlen => ?_) | refine zN2 (fun hlen => ?_))
  refine lo_conv tok rfl rfl rfl rfl rfl ?_
  repeat (first | refine gG ?_ | refine zN1 (fun hlen => ?_) | refine zN2 (fun hlen => ?_))
  refine zStr (numB ((bs x).size : Int) 4) hcs rfl ?_
  repeat (first | refine gG ?_ | refine zN1 (fun hlen => ?_) | refine zN2 (fun hlen => ?_))
  refine zCatb (numB ((bs x).size : Int) 4) x (by rw [hsz, hnl]; omega) ?_
  repeat (first | refine gG ?_ | refine zN1 (fun hlen => ?_) | refine zN2 (fun hlen => ?_))
  first | refine zR ?_ | refine zQ ?_
  rw [hsz]; rfl
set_option maxRecDepth 100000 in
set_option maxHeartbeats 4000000 in
theorem rpacked_af (ls : List (List UInt8)) (hb : (ls.flatMap pkOne).length ≤ 100000000000000) : AF Try.prog 114 [byRow ls] (Outs2 (if ls.any bigB = true then [] else ls.flatMap pkOne) (if ls.any bigB = true then 2 else 0)) := by
  refine af_enter tok Try.func114 Try.ntmps114 Try.results114 rfl (by kernel_rfl) rfl rfl fun F hX => ?_
  repeat (first | refine gG ?_ | refine zN1 (fun hlen => ?_) | refine zN2 (fun hlen => ?_))
  refine x_loop [2, 3, 4, 6, 9, 10, 11, 12, 13, 14, 15, 16, 17, 18, 19, 20, 21, 22, 23, 24, 25, 26, 27, 28, 29, 30, 31] (fun y : Nat => [(9, .c (.lit (.int .i64 (y : Nat)))), (4, .c (.lit (.string (bs ((ls.take y).flatMap pkOne)))))]) (fun _ => []) (fun y => y ≤ ls.length ∧ (ls.take y).any bigB = false) (fun y => ls.length - y) 0 ⟨Nat.zero_le _, rfl⟩ ⟨rfl, rfl, trivial⟩ rfl ?_
  rintro k ⟨hk, hz⟩
  repeat (first | refine gG ?_ | refine zN1 (fun hlen => ?_) | refine zN2 (fun hlen => ?_))
  refine x_cond rfl (fun h => ?_) (fun h => ?_)
  · have hk' : k < ls.length := by simpa using h
    obtain ⟨a, ha⟩ := nth hk'
    have hsn := any_snoc ha hz
    have hat := any_at (p := bigB) ha
    have hfl := flat_snoc' pkOne ha
    have hle := flat_take_le pkOne ls (k + 1)
    rw [hfl, List.length_append, pkOne_len] at hle
    have hbg : bigB a = decide ((65535 : Int) < (a.length : Int)) := rfl
    rw [hbg] at hsn hat
    repeat (first | refine gG ?_ | refine zN1 (fun hlen => ?_) | refine zN2 (fun hlen => ?_))
    refine zIx k hk' ?_
    repeat (first | refine gG ?_ | refine zN1 (fun hlen => ?_) | refine zN2 (fun hlen => ?_))
    refine zEl1 (map_at bytRow ha) ?_
    cases c1 : decide ((65535 : Int) < (a.length : Int))
    rotate_left
    · have hat := hat c1
      have c2 : decide ((65536 : Int) ≤ (a.length : Int)) = true := decide_eq_true (by have := of_decide_eq_true c1; omega)
      repeat (first | refine gG ?_ | refine zN1 (fun hlen => ?_) | refine zN2 (fun hlen => ?_))
      first | refine zR (ts := [bytRow [], .lit (.int .i64 2)]) ?_ | refine zQ (ts := [bytRow [], .lit (.int .i64 2)]) ?_
      rw [hat]; rfl
    have hsn := hsn c1
    have hal : a.length ≤ 65535 := by have := of_decide_eq_false c1; omega
    have c2 : decide ((65536 : Int) ≤ (a.length : Int)) = false := decide_eq_false (by omega)
    have q1 := quo_nat a.length 256 (by omega)
    have hcs := two_kb ((a.length : Int) / 256) ((a.length : Int) % 256)
    rw [kb_mod] at hcs
    repeat (first | refine gG ?_ | refine zN1 (fun hlen => ?_) | refine zN2 (fun hlen => ?_))
    refine lo_quo rfl rfl (by decide) q1 ?_
    repeat (first | refine gG ?_ | refine zN1 (fun hlen => ?_) | refine zN2 (fun hlen => ?_))
    refine lo_conv tok rfl rfl rfl rfl rfl ?_
    repeat (first | refine gG ?_ | refine zN1 (fun hlen => ?_) | refine zN2 (fun hlen => ?_))
    refine lo_rem rfl rfl (by decide) (r := (a.length : Int) % 256) (by rw [Int.tmod_eq_emod_of_nonneg (by omega)]) ?_
    repeat (first | refine gG ?_ | refine zN1 (fun hlen => ?_) | refine zN2 (fun hlen => ?_))
    refine lo_conv tok rfl rfl rfl rfl rfl ?_
    repeat (first | refine gG ?_ | refine zN1 (fun hlen => ?_) | refine zN2 (fun hlen => ?_))
    refine zStr [kb ((a.length : Int) / 256), kb (a.length : Int)] hcs rfl ?_
    repeat (first | refine gG ?_ | refine zN1 (fun hlen => ?_) | refine zN2 (fun hlen => ?_))
    refine zStr a rfl rfl ?_
    repeat (first | refine gG ?_ | refine zN1 (fun hlen => ?_) | refine zN2 (fun hlen => ?_))
    refine zCatb [kb ((a.length : Int) / 256), kb (a.length : Int)] a (by first | omega | (simp only [List.length_append, List.length_cons, List.length_nil, sz_len]; omega)) ?_
    repeat (first | refine gG ?_ | refine zN1 (fun hlen => ?_) | refine zN2 (fun hlen => ?_))
    refine zCatb ((ls.take k).flatMap pkOne) ([kb ((a.length : Int) / 256), kb (a.length : Int)] ++ a) (by first | omega | (simp only [List.length_append, List.length_cons, List.length_nil, sz_len]; omega)) ?_
    repeat (first | refine gG ?_ | refine zN1 (fun hlen => ?_) | refine zN2 (fun hlen => ?_))
    exact ⟨k + 1, ⟨hk', hsn⟩, by omega, x_wkd 0 ⟨rfl, by simp only [hfl]; rfl, trivial⟩ rfl (by repeat (first | exact ag_refl | refine ag_upd rfl ?_ | refine ag_at rfl rfl ?_))⟩
  · have hk' : k = ls.length := by have : ¬ k < ls.length := by simpa using h
                                   omega
    subst hk'
    rw [List.take_length] at hz ⊢
    repeat (first | refine gG ?_ | refine zN1 (fun hlen => ?_) | refine zN2 (fun hlen => ?_))
    refine zByt (s := bs (ls.flatMap pkOne)) (by rw [bs_size']; simp only [maxLen]; omega) ?_
    repeat (first | refine gG ?_ | refine zN1 (fun hlen => ?_) | refine zN2 (fun hlen => ?_))
    first | refine zR ?_ | refine zQ ?_
    rw [hz]; rfl
theorem numB_nat (n k : Nat) : numB (n : Int) (k + 1) = kb ((n / 256 ^ k : Nat) : Int) :: numB (n : Int) k := by
  rw [numB]
  congr 2
theorem big_any {α : Type} {f : α → List UInt8} {l : List α} {a : α} (h : a ∈ l) (hb : bigB (f a) = true) : (l.map f).any bigB = true := List.any_eq_true.2 ⟨f a, List.mem_map_of_mem h, hb⟩
theorem pkOne_one (x : List UInt8) : [x].flatMap pkOne = pkOne x := by simp
theorem big_one (x : List UInt8) : [x].any bigB = bigB x := by simp
set_option maxRecDepth 100000 in
set_option maxHeartbeats 4000000 in
theorem snapBytes_af (s : Snp) (hs : s.Small) : AF Try.prog 48 [s.t] (Outs2 s.out s.err) := by
  have hc := snapFault_af s hs
  by_cases hyes : s.check = 0
  rotate_left
  · obtain ⟨e1, e2⟩ := Snp.err_ne hyes
    rw [e1, e2]
    have d1 : decide (s.check = 0) = false := decide_eq_false hyes
    generalize s.check = e at *
    obtain ⟨tm, l, ws⟩ := s
    refine af_enter tok Try.func48 Try.ntmps48 Try.results48 rfl (by kernel_rfl) rfl rfl fun F hX => ?_
    repeat (first | refine gG ?_ | refine zN1 (fun hlen => ?_) | refine zN2 (fun hlen => ?_) | refine zAl (fun _ => ?_) | refine zBf ?_)
    refine zCall (hc) ?_
    rintro _ rfl
    repeat (first | refine gG ?_ | refine zN1 (fun hlen => ?_) | refine zN2 (fun hlen => ?_) | refine zAl (fun _ => ?_) | refine zBx (fun _ => ?_))
    first | refine zR (ts := [bytRow [], .lit (.int .i64 e)]) ?_ | refine zQ (ts := [bytRow [], .lit (.int .i64 e)]) ?_
    rfl
  obtain ⟨e1, e2⟩ := Snp.err_eq hyes
  rw [e1, e2]
  have hR := Snp.right hyes
  have hbl := Snp.bytes_le hs hR
  rw [hyes] at hc
  clear e1 e2
  obtain ⟨tm, l, ws⟩ := s
  obtain ⟨r1, r2, r3, r4, r5⟩ := hR
  obtain ⟨s1, s2, s3⟩ := hs
  dsimp only at r1 r2 r3 r4 r5 s1 s2 s3 ⊢
  have hbe : (Snp.mk tm l ws).bytes = numB tm 8 ++ [kb (l.length : Int), kb (ws.length : Int)] ++ l.flatMap parPart ++ ws.flatMap wayPart := rfl
  rw [hbe] at hbl ⊢
  simp only [List.length_append, List.length_cons, List.length_nil, numB_len] at hbl
  obtain ⟨tm, rfl⟩ := nat_of r1
  unfold inI at s3
  have htk := two_kb (l.length : Int) (ws.length : Int)
  refine af_enter tok Try.func48 Try.ntmps48 Try.results48 rfl (by kernel_rfl) rfl rfl fun F hX => ?_
  repeat (first | refine gG ?_ | refine zN1 (fun hlen => ?_) | refine zN2 (fun hlen => ?_) | refine zAl (fun _ => ?_) | refine zBf ?_)
  refine zCall (hc) ?_
  rintro _ rfl
  repeat (first | refine gG ?_ | refine zN1 (fun hlen => ?_) | refine zN2 (fun hlen => ?_) | refine zAl (fun _ => ?_) | refine zBf ?_)
  refine ac_draw [1, 1, 1, 1] [0, 1, 2, 3] (by kernel_rfl) (by kernel_rfl) ?_
  refine gW ?_
  refine w_nil ?_
  repeat (first | refine gG ?_ | refine zN1 (fun hlen => ?_) | refine zN2 (fun hlen => ?_) | refine zAl (fun _ => ?_) | refine zBf ?_)
  refine x_loop [5, 6, 7, 27, 28, 29, 30, 31, 32, 33, 34, 35, 36, 37, 38, 39] (fun i : Nat => [(6, .c (.lit (.int .i64 (i : Nat)))), (7, .c (.lit (.int .i64 ((tm / 256 ^ i : Nat) : Int)))), (5, .c (.lit (.string (bs (numB (tm : Int) i)))))]) (fun _ => []) (fun i => i ≤ 8) (fun i => 8 - i) 0 (by omega) ⟨rfl, by rw [Nat.pow_zero, Nat.div_one]; rfl, rfl, trivial⟩ rfl ?_
  intro i hi
  repeat (first | refine gG ?_ | refine zN1 (fun hlen => ?_) | refine zN2 (fun hlen => ?_) | refine zAl (fun _ => ?_) | refine zBx (fun _ => ?_))
  refine x_cond rfl (fun h => ?_) (fun h => ?_)
  · have hi' : i < 8 := by have := of_decide_eq_true h; omega
    have hle : tm / 256 ^ i ≤ tm := Nat.div_le_self _ _
    have hds : tm / 256 ^ i / 256 = tm / 256 ^ (i + 1) := by rw [Nat.div_div_eq_div_mul, Nat.pow_succ]
    have hnb := numB_nat tm i
    have hnl := numB_len (tm : Int) i
    generalize hd' : tm / 256 ^ (i + 1) = d' at *
    generalize tm / 256 ^ i = d at *
    have q1 := quo_nat d 256 (by omega)
    have hq : (d : Int) / ((256 : Nat) : Int) = (d' : Int) := by omega
    rw [hq] at q1
    have hcs := one_kb ((d : Int) % 256)
    rw [kb_mod] at hcs
    repeat (first | refine gG ?_ | refine zN1 (fun hlen => ?_) | refine zN2 (fun hlen => ?_) | refine zAl (fun _ => ?_) | refine zBx (fun _ => ?_))
    refine lo_rem rfl rfl (by decide) (r := (d : Int) % 256) (by rw [Int.tmod_eq_emod_of_nonneg (by omega)]) ?_
    repeat (first | refine gG ?_ | refine zN1 (fun hlen => ?_) | refine zN2 (fun hlen => ?_) | refine zAl (fun _ => ?_) | refine zBx (fun _ => ?_))
    refine lo_conv tok rfl rfl rfl rfl rfl ?_
    repeat (first | refine gG ?_ | refine zN1 (fun hlen => ?_) | refine zN2 (fun hlen => ?_) | refine zAl (fun _ => ?_) | refine zBx (fun _ => ?_))
    refine zStr [kb (d : Int)] hcs rfl ?_
    repeat (first | refine gG ?_ | refine zN1 (fun hlen => ?_) | refine zN2 (fun hlen => ?_) | refine zAl (fun _ => ?_) | refine zBx (fun _ => ?_))
    refine zCatb [kb (d : Int)] (numB (tm : Int) i) (by first | omega | (simp only [List.length_append, List.length_cons, List.length_nil, sz_len]; omega)) ?_
    repeat (first | refine gG ?_ | refine zN1 (fun hlen => ?_) | refine zN2 (fun hlen => ?_) | refine zAl (fun _ => ?_) | refine zBx (fun _ => ?_))
    refine lo_quo rfl rfl (by decide) q1 ?_
    repeat (first | refine gG ?_ | refine zN1 (fun hlen => ?_) | refine zN2 (fun hlen => ?_) | refine zAl (fun _ => ?_) | refine zBx (fun _ => ?_))
    exact ⟨i + 1, hi', by omega, x_wkd 0 ⟨rfl, by rw [hd']; rfl, by rw [hnb]; rfl, trivial⟩ rfl (by repeat (first | exact ag_refl | refine ag_upd rfl ?_ | refine ag_at rfl rfl ?_))⟩
  have hi' : i = 8 := by have := of_decide_eq_false h; omega
  subst hi'
  have hnl := numB_len (tm : Int) 8
  repeat (first | refine gG ?_ | refine zN1 (fun hlen => ?_) | refine zN2 (fun hlen => ?_) | refine zAl (fun _ => ?_) | refine zBx (fun _ => ?_))
  refine lo_conv tok rfl rfl rfl rfl rfl ?_
  repeat (first | refine gG ?_ | refine zN1 (fun hlen => ?_) | refine zN2 (fun hlen => ?_) | refine zAl (fun _ => ?_) | refine zBx (fun _ => ?_))
  refine lo_conv tok rfl rfl rfl rfl rfl ?_
  repeat (first | refine gG ?_ | refine zN1 (fun hlen => ?_) | refine zN2 (fun hlen => ?_) | refine zAl (fun _ => ?_) | refine zBx (fun _ => ?_))
  refine zStr [kb (l.length : Int), kb (ws.length : Int)] htk rfl ?_
  repeat (first | refine gG ?_ | refine zN1 (fun hlen => ?_) | refine zN2 (fun hlen => ?_) | refine zAl (fun _ => ?_) | refine zBx (fun _ => ?_))
  refine zCatb (numB (tm : Int) 8) [kb (l.length : Int), kb (ws.length : Int)] (by first | omega | (simp only [List.length_append, List.length_cons, List.length_nil, sz_len]; omega)) ?_
  have hhd : (numB (tm : Int) 8 ++ [kb (l.length : Int), kb (ws.length : Int)]).length = 10 := by rw [List.length_append, hnl]; rfl
  generalize numB (tm : Int) 8 ++ [kb (l.length : Int), kb (ws.length : Int)] = hd2 at *
  repeat (first | refine gG ?_ | refine zN1 (fun hlen => ?_) | refine zN2 (fun hlen => ?_) | refine zAl (fun _ => ?_) | refine zBx (fun _ => ?_))
  refine x_loop [8, 10, 11, 12, 55, 56, 57, 58, 59, 60, 61, 62, 63, 64, 65, 66, 67, 68, 69] (fun y : Nat => [(55, .c (.lit (.int .i64 (y : Nat)))), (8, .c (.lit (.string (bs (hd2 ++ (l.take y).flatMap parPart)))))]) (fun _ => []) (fun y => y ≤ l.length) (fun y => l.length - y) 0 (Nat.zero_le _) ⟨rfl, by simp only [List.take_zero, List.flatMap_nil, List.append_nil] <;> rfl, trivial⟩ rfl ?_
  intro k hk
  repeat (first | refine gG ?_ | refine zN1 (fun hlen => ?_) | refine zN2 (fun hlen => ?_) | refine zAl (fun _ => ?_) | refine zBx (fun _ => ?_))
  refine x_cond rfl (fun h => ?_) (fun h => ?_)
  · have hk' : k < l.length := by simpa using h
    obtain ⟨a, ha⟩ := nth hk'
    have hck := r4 a (List.mem_of_getElem? ha)
    have hw := parcelBytes_af a (s1 a (List.mem_of_getElem? ha)).1
    have ho : a.out = a.bytes := by rw [Par.out, if_pos hck]
    rw [ho, hck] at hw
    have hfl := flat_snoc' parPart ha
    have hle := flat_take_le parPart l (k + 1)
    rw [hfl, List.length_append, parPart, partB_len] at hle
    have hlg := long_af a.bytes (by omega)
    have hpl := partB_len a.bytes
    have hpp : parPart a = partB a.bytes := rfl
    rw [hpp] at hfl
    generalize a.bytes = ab at *
    repeat (first | refine gG ?_ | refine zN1 (fun hlen => ?_) | refine zN2 (fun hlen => ?_) | refine zAl (fun _ => ?_) | refine zBx (fun _ => ?_))
    refine zIx (k) (hk') ?_
    repeat (first | refine gG ?_ | refine zN1 (fun hlen => ?_) | refine zN2 (fun hlen => ?_) | refine zAl (fun _ => ?_) | refine zBx (fun _ => ?_))
    refine zEl (flat_at Par.ts 8 Par.ts_len ha) (Par.ts_len a) ?_
    obtain ⟨rf, ⟨ac, st, ip⟩, bx, tk, wt, lk⟩ := a
    repeat (first | refine gG ?_ | refine zN1 (fun hlen => ?_) | refine zN2 (fun hlen => ?_) | refine zAl (fun _ => ?_) | refine zBx (fun _ => ?_))
    refine zCall (hw) ?_
    rintro _ rfl
    repeat (first | refine gG ?_ | refine zN1 (fun hlen => ?_) | refine zN2 (fun hlen => ?_) | refine zAl (fun _ => ?_) | refine zBx (fun _ => ?_))
    refine zStr ab rfl rfl ?_
    repeat (first | refine gG ?_ | refine zN1 (fun hlen => ?_) | refine zN2 (fun hlen => ?_) | refine zAl (fun _ => ?_) | refine zBx (fun _ => ?_))
    refine zCall (hlg) ?_
    rintro _ rfl
    repeat (first | refine gG ?_ | refine zN1 (fun hlen => ?_) | refine zN2 (fun hlen => ?_) | refine zAl (fun _ => ?_) | refine zBx (fun _ => ?_))
    refine zCatb (hd2 ++ (l.take k).flatMap parPart) (partB ab) (by first | omega | (simp only [List.length_append, List.length_cons, List.length_nil, sz_len]; omega)) ?_
    repeat (first | refine gG ?_ | refine zN1 (fun hlen => ?_) | refine zN2 (fun hlen => ?_) | refine zAl (fun _ => ?_) | refine zBx (fun _ => ?_))
    exact ⟨k + 1, hk', by omega, x_wkd 0 ⟨rfl, by simp only [hfl, List.append_assoc]; rfl, trivial⟩ rfl (by repeat (first | exact ag_refl | refine ag_upd rfl ?_ | refine ag_at rfl rfl ?_))⟩
  have hk' : k = l.length := by have : ¬ k < l.length := by simpa using h
                                omega
  subst hk'
  rw [List.take_length]
  have hh3 : (hd2 ++ l.flatMap parPart).length = hd2.length + (l.flatMap parPart).length := List.length_append
  generalize hd2 ++ l.flatMap parPart = hd3 at *
  repeat (first | refine gG ?_ | refine zN1 (fun hlen => ?_) | refine zN2 (fun hlen => ?_) | refine zAl (fun _ => ?_) | refine zBx (fun _ => ?_))
  refine x_loop [2, 3, 8, 14, 15, 17, 18, 19, 73, 74, 75, 76, 77, 78, 79, 80, 81, 82, 83, 84, 85, 86, 87, 88, 89, 90, 91, 92, 93, 94, 95, 96, 97, 98, 99, 100, 101, 102, 103, 104, 105, 106, 107, 108, 109, 110, 111, 112] (fun y : Nat => [(73, .c (.lit (.int .i64 (y : Nat)))), (8, .c (.lit (.string (bs (hd3 ++ (ws.take y).flatMap wayPart)))))]) (fun _ => []) (fun y => y ≤ ws.length ∧ (ws.take y).any Wy.big = false) (fun y => ws.length - y) 0 ⟨Nat.zero_le _, rfl⟩ ⟨rfl, by simp only [List.take_zero, List.flatMap_nil, List.append_nil] <;> rfl, trivial⟩ rfl ?_
  rintro k ⟨hk, hz⟩
  repeat (first | refine gG ?_ | refine zN1 (fun hlen => ?_) | refine zN2 (fun hlen => ?_) | refine zAl (fun _ => ?_) | refine zBx (fun _ => ?_))
  refine x_cond rfl (fun h => ?_) (fun h => ?_)
  rotate_left
  · have hk' : k = ws.length := by have : ¬ k < ws.length := by simpa using h
                                   omega
    subst hk'
    rw [List.take_length] at hz ⊢
    repeat (first | refine gG ?_ | refine zN1 (fun hlen => ?_) | refine zN2 (fun hlen => ?_) | refine zAl (fun _ => ?_) | refine zBx (fun _ => ?_))
    refine zByt (s := bs (hd3 ++ ws.flatMap wayPart)) (by rw [bs_size', List.length_append]; simp only [maxLen]; omega) ?_
    repeat (first | refine gG ?_ | refine zN1 (fun hlen => ?_) | refine zN2 (fun hlen => ?_) | refine zAl (fun _ => ?_) | refine zBx (fun _ => ?_))
    first | refine zR ?_ | refine zQ ?_
    rw [hz]; rfl
  have hk' : k < ws.length := by simpa using h
  obtain ⟨a, ha⟩ := nth hk'
  obtain ⟨q1, q2, q3⟩ := r5 a (List.mem_of_getElem? ha)
  have hti := s2 a (List.mem_of_getElem? ha)
  have hwt := wayText_le q2 hti
  have hsn := any_snoc ha hz
  have hat := any_at (p := Wy.big) ha
  have hbg : a.big = (a.lets.map Lt.bytes).any bigB := rfl
  rw [hbg] at hsn hat
  have hfl := flat_snoc' wayPart ha
  have hle := flat_take_le wayPart ws (k + 1)
  rw [hfl, List.length_append, wayPart, partB_len] at hle
  have hlg := long_af (wayText a) (by omega)
  have hpl := partB_len (wayText a)
  have hpp : wayPart a = partB (wayText a) := rfl
  rw [hpp] at hfl
  have htx : wayText a = [kb a.frm, kb a.to] ++ (a.lets.map Lt.bytes).flatMap pkOne := rfl
  rw [htx] at hwt
  rw [List.length_append] at hwt
  have hlp := flat_map Lt.bytes pkOne a.lets
  repeat (first | refine gG ?_ | refine zN1 (fun hlen => ?_) | refine zN2 (fun hlen => ?_) | refine zAl (fun _ => ?_) | refine zBx (fun _ => ?_))
  refine zIx (k) (hk') ?_
  repeat (first | refine gG ?_ | refine zN1 (fun hlen => ?_) | refine zN2 (fun hlen => ?_) | refine zAl (fun _ => ?_) | refine zBx (fun _ => ?_))
  refine zEl (flat_at Wy.ts 3 Wy.ts_len ha) (Wy.ts_len a) ?_
  generalize wayText a = wx at *
  obtain ⟨fr, to, ls⟩ := a
  dsimp only at htx hsn hat hwt hti q3 hlp
  have htt := two_kb fr to
  rw [hlp] at htx hwt
  simp only [List.length_cons, List.length_nil] at hwt
  repeat (first | refine gG ?_ | refine zN1 (fun hlen => ?_) | refine zN2 (fun hlen => ?_) | refine zAl (fun _ => ?_) | refine zBx (fun _ => ?_))
  refine lo_conv tok rfl rfl rfl rfl rfl ?_
  repeat (first | refine gG ?_ | refine zN1 (fun hlen => ?_) | refine zN2 (fun hlen => ?_) | refine zAl (fun _ => ?_) | refine zBx (fun _ => ?_))
  refine lo_conv tok rfl rfl rfl rfl rfl ?_
  repeat (first | refine gG ?_ | refine zN1 (fun hlen => ?_) | refine zN2 (fun hlen => ?_) | refine zAl (fun _ => ?_) | refine zBx (fun _ => ?_))
  refine zStr [kb fr, kb to] htt rfl ?_
  repeat (first | refine gG ?_ | refine zN1 (fun hlen => ?_) | refine zN2 (fun hlen => ?_) | refine zAl (fun _ => ?_) | refine zBx (fun _ => ?_))
  rename_i bw
  refine x_loop [2, 3, 15, 17, 18, 19, 88, 89, 90, 91, 92, 93, 94, 95, 96, 97, 98, 99, 100, 101, 102, 103, 104, 105, 106, 107] (fun j : Nat => [(88, .c (.lit (.int .i64 j))), (15, .c (.lit (.string (bs ([kb fr, kb to] ++ (ls.take j).flatMap fun x => pkOne x.bytes)))))]) (fun _ => [.box bw 183 [.c (.lit (.int .i64 fr)), .c (.lit (.int .i64 to)), .c (letRow ls)]]) (fun j => j ≤ ls.length ∧ ∀ x ∈ ls.take j, bigB x.bytes = false) (fun j => ls.length - j) 0 ⟨Nat.zero_le _, by simp⟩ ⟨rfl, rfl, trivial⟩ rfl ?_
  rintro j ⟨hj, hz3⟩
  repeat (first | refine gG ?_ | refine zN1 (fun hlen => ?_) | refine zN2 (fun hlen => ?_) | refine zAl (fun _ => ?_) | refine zBx (fun _ => ?_))
  refine x_cond rfl (fun h => ?_) (fun h => ?_)
  · have hj' : j < ls.length := by simpa using h
    obtain ⟨x, hx⟩ := nth hj'
    have hxt := hti x (List.mem_of_getElem? hx)
    have hxb := hxt.2.2.1
    have hlt := letterText_af' (q3 x (List.mem_of_getElem? hx)) hxt.1 (by omega)
    have hsn3 := take_snoc (p := fun x : Lt => bigB x.bytes = false) hx hz3
    have hpk := rpacked_af [x.bytes] (by rw [pkOne_one, pkOne_len]; omega)
    rw [pkOne_one, big_one] at hpk
    have hbx := fun hb => big_any (f := Lt.bytes) (List.mem_of_getElem? hx) hb
    have hfl3 := flat_snoc' (fun x : Lt => pkOne x.bytes) hx
    have hle3 := flat_take_le (fun x : Lt => pkOne x.bytes) ls (j + 1)
    rw [hfl3, List.length_append] at hle3
    have hpl3 := pkOne_len x.bytes
    repeat (first | refine gG ?_ | refine zN1 (fun hlen => ?_) | refine zN2 (fun hlen => ?_) | refine zAl (fun _ => ?_) | refine zBx (fun _ => ?_))
    refine zIx (j) (hj') ?_
    repeat (first | refine gG ?_ | refine zN1 (fun hlen => ?_) | refine zN2 (fun hlen => ?_) | refine zAl (fun _ => ?_) | refine zBx (fun _ => ?_))
    refine zEl (flat_at Lt.ts 9 Lt.ts_len hx) (Lt.ts_len x) ?_
    generalize x.bytes = xb at *
    obtain ⟨ka, fa, ta, na, sa, ⟨kv, nv, tv, lv⟩⟩ := x
    repeat (first | refine gG ?_ | refine zN1 (fun hlen => ?_) | refine zN2 (fun hlen => ?_) | refine zAl (fun _ => ?_) | refine zBx (fun _ => ?_))
    refine zCall (hlt) ?_
    rintro _ rfl
    repeat (first | refine gG ?_ | refine zN1 (fun hlen => ?_) | refine zN2 (fun hlen => ?_) | refine zAl (fun _ => ?_) | refine zBx (fun _ => ?_))
    refine zByt (s := bs xb) (by rw [bs_size']; simp only [maxLen]; omega) ?_
    cases c2 : bigB xb
    · rw [c2] at hpk
      simp only [Bool.false_eq_true, if_false] at hpk
      repeat (first | refine gG ?_ | refine zN1 (fun hlen => ?_) | refine zN2 (fun hlen => ?_) | refine zAl (fun _ => ?_) | refine zBx (fun _ => ?_))
      refine zCall (hpk) ?_
      rintro _ rfl
      repeat (first | refine gG ?_ | refine zN1 (fun hlen => ?_) | refine zN2 (fun hlen => ?_) | refine zAl (fun _ => ?_) | refine zBx (fun _ => ?_))
      refine zStr (pkOne xb) rfl rfl ?_
      repeat (first | refine gG ?_ | refine zN1 (fun hlen => ?_) | refine zN2 (fun hlen => ?_) | refine zAl (fun _ => ?_) | refine zBx (fun _ => ?_))
      refine zCatb ([kb fr, kb to] ++ (ls.take j).flatMap fun x => pkOne x.bytes) (pkOne xb) (by first | omega | (simp only [List.length_append, List.length_cons, List.length_nil, sz_len]; omega)) ?_
      repeat (first | refine gG ?_ | refine zN1 (fun hlen => ?_) | refine zN2 (fun hlen => ?_) | refine zAl (fun _ => ?_) | refine zBx (fun _ => ?_))
      exact ⟨j + 1, ⟨hj', hsn3 c2⟩, by omega, x_wkd 1 ⟨rfl, by simp only [hfl3, List.append_assoc]; rfl, trivial⟩ rfl (by repeat (first | exact ag_refl | refine ag_upd rfl ?_ | refine ag_at rfl rfl ?_))⟩
    · have hat := hat (hbx c2)
      rw [c2] at hpk
      simp only [if_true] at hpk
      repeat (first | refine gG ?_ | refine zN1 (fun hlen => ?_) | refine zN2 (fun hlen => ?_) | refine zAl (fun _ => ?_) | refine zBx (fun _ => ?_))
      refine zCall (hpk) ?_
      rintro _ rfl
      repeat (first | refine gG ?_ | refine zN1 (fun hlen => ?_) | refine zN2 (fun hlen => ?_) | refine zAl (fun _ => ?_) | refine zBx (fun _ => ?_))
      first | refine zR (ts := [bytRow [], .lit (.int .i64 2)]) ?_ | refine zQ (ts := [bytRow [], .lit (.int .i64 2)]) ?_
      rw [hat]; rfl
  have hj' : j = ls.length := by have : ¬ j < ls.length := by simpa using h
                                 omega
  subst hj'
  rw [List.take_length] at hz3 ⊢
  rw [← htx]
  have hno : (ls.map Lt.bytes).any bigB = false := by
    rw [List.any_eq_false]
    intro y hy
    obtain ⟨x, hx, rfl⟩ := List.mem_map.1 hy
    rw [hz3 x hx]; decide
  have hsn := hsn hno
  repeat (first | refine gG ?_ | refine zN1 (fun hlen => ?_) | refine zN2 (fun hlen => ?_) | refine zAl (fun _ => ?_) | refine zBx (fun _ => ?_))
  refine zCall (hlg) ?_
  rintro _ rfl
  repeat (first | refine gG ?_ | refine zN1 (fun hlen => ?_) | refine zN2 (fun hlen => ?_) | refine zAl (fun _ => ?_) | refine zBx (fun _ => ?_))
  refine zCatb (hd3 ++ (ws.take k).flatMap wayPart) (partB wx) (by first | omega | (simp only [List.length_append, List.length_cons, List.length_nil, sz_len]; omega)) ?_
  repeat (first | refine gG ?_ | refine zN1 (fun hlen => ?_) | refine zN2 (fun hlen => ?_) | refine zAl (fun _ => ?_) | refine zBx (fun _ => ?_))
  exact ⟨k + 1, ⟨hk', hsn⟩, by omega, x_wkd 0 ⟨rfl, by simp only [hfl, List.append_assoc]; rfl, trivial⟩ rfl (by repeat (first | exact ag_refl | refine ag_upd rfl ?_ | refine ag_at rfl rfl ?_))⟩
end Go.Proofs.Ythgackidonocpaa
namespace Go.Proofs.Ythgackidonocpaa
open Go.RowKit
set_option maxRecDepth 100000 in
set_option maxHeartbeats 4000000 in
theorem smallS_af (s : Snp) (hs : s.Small) : AF Try.prog 47 [s.t] Tell := by
  obtain ⟨s1, s2, s3⟩ := hs
  obtain ⟨tm, l, ws⟩ := s
  dsimp only at s1 s2
  refine af_enter tok Try.func47 Try.ntmps47 Try.results47 rfl (by kernel_rfl) rfl rfl fun F hX => ?_
  repeat (first | refine gG ?_ | refine zN1 (fun hlen => ?_) | refine zN2 (fun hlen => ?_) | refine zAl (fun _ => ?_) | refine zBf ?_)
  refine x_loop [2, 4, 12, 13, 14, 15, 16, 17, 18, 19] (fun k : Nat => [(12, .c (.lit (.int .i64 k)))]) (fun _ => []) (fun k => k ≤ l.length) (fun k => l.length - k) 0 (Nat.zero_le _) ⟨rfl, trivial⟩ rfl fun k hk => ?_
  repeat (first | refine gG ?_ | refine zN1 (fun hlen => ?_) | refine zN2 (fun hlen => ?_) | refine zAl (fun _ => ?_) | refine zBx (fun _ => ?_))
  refine x_cond rfl (fun h => ?_) (fun h => ?_)
  · have hk' : k < l.length := by simpa using h
    obtain ⟨a, ha⟩ := nth hk'
    obtain ⟨t1, t2⟩ := s1 a (List.mem_of_getElem? ha)
    have hp := parcelSmall_af a t1 t2
    repeat (first | refine gG ?_ | refine zN1 (fun hlen => ?_) | refine zN2 (fun hlen => ?_) | refine zAl (fun _ => ?_) | refine zBx (fun _ => ?_))
    refine zIx (k) (hk') ?_
    repeat (first | refine gG ?_ | refine zN1 (fun hlen => ?_) | refine zN2 (fun hlen => ?_) | refine zAl (fun _ => ?_) | refine zBx (fun _ => ?_))
    refine zEl (flat_at Par.ts 8 Par.ts_len ha) (Par.ts_len a) ?_
    obtain ⟨rf, ⟨ac, st, ip⟩, bx, tk, wt, lk⟩ := a
    repeat (first | refine gG ?_ | refine zN1 (fun hlen => ?_) | refine zN2 (fun hlen => ?_) | refine zAl (fun _ => ?_) | refine zBx (fun _ => ?_))
    refine zCall (hp) ?_
    rintro _ ⟨b, rfl⟩
    cases b
    · repeat (first | refine gG ?_ | refine zN1 (fun hlen => ?_) | refine zN2 (fun hlen => ?_) | refine zAl (fun _ => ?_) | refine zBx (fun _ => ?_))
      first | refine zR ?_ | refine zQ ?_
      exact ⟨_, rfl⟩
    · repeat (first | refine gG ?_ | refine zN1 (fun hlen => ?_) | refine zN2 (fun hlen => ?_) | refine zAl (fun _ => ?_) | refine zBx (fun _ => ?_))
      exact ⟨k + 1, hk', by omega, x_wkd 0 ⟨rfl, trivial⟩ rfl (by repeat (first | exact ag_refl | refine ag_upd rfl ?_ | refine ag_at rfl rfl ?_))⟩
  repeat (first | refine gG ?_ | refine zN1 (fun hlen => ?_) | refine zN2 (fun hlen => ?_) | refine zAl (fun _ => ?_) | refine zBx (fun _ => ?_))
  refine x_loop [2, 6, 8, 23, 24, 25, 26, 27, 28, 29, 30, 31, 32, 33, 34, 35, 36, 37, 38, 39] (fun k : Nat => [(23, .c (.lit (.int .i64 k)))]) (fun _ => []) (fun k => k ≤ ws.length) (fun k => ws.length - k) 0 (Nat.zero_le _) ⟨rfl, trivial⟩ rfl fun k hk => ?_
  repeat (first | refine gG ?_ | refine zN1 (fun hlen => ?_) | refine zN2 (fun hlen => ?_) | refine zAl (fun _ => ?_) | refine zBx (fun _ => ?_))
  refine x_cond rfl (fun h => ?_) (fun h => ?_)
  rotate_left
  · repeat (first | refine gG ?_ | refine zN1 (fun hlen => ?_) | refine zN2 (fun hlen => ?_) | refine zAl (fun _ => ?_) | refine zBx (fun _ => ?_))
    first | refine zR ?_ | refine zQ ?_
    exact ⟨_, rfl⟩
  have hk' : k < ws.length := by simpa using h
  obtain ⟨a, ha⟩ := nth hk'
  have hst := s2 a (List.mem_of_getElem? ha)
  repeat (first | refine gG ?_ | refine zN1 (fun hlen => ?_) | refine zN2 (fun hlen => ?_) | refine zAl (fun _ => ?_) | refine zBx (fun _ => ?_))
  refine zIx (k) (hk') ?_
  repeat (first | refine gG ?_ | refine zN1 (fun hlen => ?_) | refine zN2 (fun hlen => ?_) | refine zAl (fun _ => ?_) | refine zBx (fun _ => ?_))
  refine zEl (flat_at Wy.ts 3 Wy.ts_len ha) (Wy.ts_len a) ?_
  obtain ⟨fr, to, ls⟩ := a
  dsimp only at hst
  repeat (first | refine gG ?_ | refine zN1 (fun hlen => ?_) | refine zN2 (fun hlen => ?_) | refine zAl (fun _ => ?_) | refine zBx (fun _ => ?_))
  rename_i bw
  refine x_loop [2, 8, 30, 31, 32, 33, 34, 35, 36, 37, 38] (fun j : Nat => [(30, .c (.lit (.int .i64 j)))]) (fun _ => [.box bw 183 [.c (.lit (.int .i64 fr)), .c (.lit (.int .i64 to)), .c (letRow ls)]]) (fun j => j ≤ ls.length) (fun j => ls.length - j) 0 (Nat.zero_le _) ⟨rfl, trivial⟩ rfl fun j hj => ?_
  repeat (first | refine gG ?_ | refine zN1 (fun hlen => ?_) | refine zN2 (fun hlen => ?_) | refine zAl (fun _ => ?_) | refine zBx (fun _ => ?_))
  refine x_cond rfl (fun h => ?_) (fun h => ?_)
  · have hj' : j < ls.length := by simpa using h
    obtain ⟨x, hx⟩ := nth hj'
    have hv := valueSmall_af x.val (hst x (List.mem_of_getElem? hx)).2.1
    repeat (first | refine gG ?_ | refine zN1 (fun hlen => ?_) | refine zN2 (fun hlen => ?_) | refine zAl (fun _ => ?_) | refine zBx (fun _ => ?_))
    refine zIx (j) (hj') ?_
    repeat (first | refine gG ?_ | refine zN1 (fun hlen => ?_) | refine zN2 (fun hlen => ?_) | refine zAl (fun _ => ?_) | refine zBx (fun _ => ?_))
    refine zEl (flat_at Lt.ts 9 Lt.ts_len hx) (Lt.ts_len x) ?_
    obtain ⟨ka, fa, ta, na, sa, ⟨kv, nv, tv, lv⟩⟩ := x
    simp only [Lt.val] at hv
    repeat (first | refine gG ?_ | refine zN1 (fun hlen => ?_) | refine zN2 (fun hlen => ?_) | refine zAl (fun _ => ?_) | refine zBx (fun _ => ?_))
    refine zCall (hv) ?_
    rintro _ ⟨b, rfl⟩
    cases b
    · repeat (first | refine gG ?_ | refine zN1 (fun hlen => ?_) | refine zN2 (fun hlen => ?_) | refine zAl (fun _ => ?_) | refine zBx (fun _ => ?_))
      first | refine zR ?_ | refine zQ ?_
      exact ⟨_, rfl⟩
    · repeat (first | refine gG ?_ | refine zN1 (fun hlen => ?_) | refine zN2 (fun hlen => ?_) | refine zAl (fun _ => ?_) | refine zBx (fun _ => ?_))
      exact ⟨j + 1, hj', by omega, x_wkd 1 ⟨rfl, trivial⟩ rfl (by repeat (first | exact ag_refl | refine ag_upd rfl ?_ | refine ag_at rfl rfl ?_))⟩
  · repeat (first | refine gG ?_ | refine zN1 (fun hlen => ?_) | refine zN2 (fun hlen => ?_) | refine zAl (fun _ => ?_) | refine zBx (fun _ => ?_))
    exact ⟨k + 1, hk', by omega, x_wkd 0 ⟨rfl, trivial⟩ rfl (by repeat (first | exact ag_refl | refine ag_upd rfl ?_ | refine ag_at rfl rfl ?_))⟩
def Snp.zero : Snp := ⟨0, [], []⟩
theorem zero_snp : Snp.zero.Small ∧ Snp.zero.err = 0 ∧ Snp.zero.out.length = 10 := by
  have hc : Snp.zero.check = 0 := by rfl
  have he := Snp.err_eq hc
  refine ⟨⟨fun p hp => by simp [Snp.zero] at hp, fun w hw => by simp [Snp.zero] at hw, by simp [Snp.zero, inI]⟩, ?_, ?_⟩
  · rw [he.2]; rfl
  · rw [he.1]
    rw [if_neg (by decide)]
    simp [Snp.bytes, Snp.zero, headB, numB_len]
set_option maxRecDepth 100000 in
set_option maxHeartbeats 4000000 in
theorem storeWritten_law (x : Snp) (hs : x.Small) : AF Try.prog 8 [x.t] (· = .lit (.bool true)) := by
  have h1 := storeBytes_af Snp.zero zero_snp.1
  obtain ⟨-, z2, z3⟩ := zero_snp
  rw [z2] at h1
  generalize Snp.zero.out = zo at *
  have hz : decide ((zo.length : Int) = 10) = true := decide_eq_true (by omega)
  have h4 := smallS_af x hs
  have h5 := storeBytes_af x hs
  have h6 := snapBytes_af x hs
  have h7 := checkSnap_af x
  have h8 := snapFault_af x hs
  have h9 := sameBytes_af x.out x.out
  have e2 : decide (bs x.out = bs x.out) = true := by simp
  rw [e2] at h9
  have e3 : decide (x.check = x.check) = true := by simp
  have e4 : decide (x.err = x.err) = true := by simp
  clear hs
  generalize x.out = o at *
  generalize x.err = e at *
  generalize x.check = c at *
  obtain ⟨tm, l, ws⟩ := x
  refine af_enter tok Try.func8 Try.ntmps8 Try.results8 rfl (by kernel_rfl) rfl rfl fun F hX => ?_
  repeat (first | refine gG ?_ | refine zN1 (fun hlen => ?_) | refine zN2 (fun hlen => ?_) | refine zBf ?_)
  refine zCall (h1) ?_
  rintro _ rfl
  repeat (first | refine gG ?_ | refine zN1 (fun hlen => ?_) | refine zN2 (fun hlen => ?_) | refine zBx (fun _ => ?_))
  refine zCall (h4) ?_
  rintro _ ⟨q, rfl⟩
  cases q
  · repeat (first | refine gG ?_ | refine zN1 (fun hlen => ?_) | refine zN2 (fun hlen => ?_) | refine zBx (fun _ => ?_))
    first | refine zR ?_ | refine zQ ?_
    rfl
  · repeat (first | refine gG ?_ | refine zN1 (fun hlen => ?_) | refine zN2 (fun hlen => ?_) | refine zBx (fun _ => ?_))
    refine zCall (h5) ?_
    rintro _ rfl
    repeat (first | refine gG ?_ | refine zN1 (fun hlen => ?_) | refine zN2 (fun hlen => ?_) | refine zBx (fun _ => ?_))
    refine zCall (h6) ?_
    rintro _ rfl
    repeat (first | refine gG ?_ | refine zN1 (fun hlen => ?_) | refine zN2 (fun hlen => ?_) | refine zBx (fun _ => ?_))
    refine ac_draw [1, 1, 1, 1, 1, 1, 1, 1, 1, 1, 1, 1, 1, 1, 1, 1] [0, 1, 2, 3, 4, 5, 6, 7, 8, 9, 10, 11, 12, 13, 14, 15] (by kernel_rfl) (by kernel_rfl) ?_
    refine gW ?_
    apply w_q; (focus exact rfl); (focus exact rfl); focus (intro _; (refine lo_call h7 rfl (by repeat (first | exact rzs_nil | apply rzs_cons | exact rz_c | exact rz_nil rfl | apply rz_agg | exact rz_own rfl | apply rz_fn | exact rz_ptr rfl | apply rz_tup)) ?_; rintro _ rfl); exact det_refl)
    refine gW ?_
    apply w_q; (focus exact rfl); (focus exact rfl); focus (intro _; (refine lo_call h8 rfl (by repeat (first | exact rzs_nil | apply rzs_cons | exact rz_c | exact rz_nil rfl | apply rz_agg | exact rz_own rfl | apply rz_fn | exact rz_ptr rfl | apply rz_tup)) ?_; rintro _ rfl); exact det_refl)
    refine gW ?_
    try (first | (apply w_un; (focus exact rfl); (focus exact rfl); (focus exact rfl); (focus exact rfl)) | (apply w_no; (focus exact rfl); (focus exact rfl); (focus exact rfl); (focus exact rfl); focus (first | rfl | assumption | exact neg_t (by assumption) | exact neg_f (by assumption))) | (apply w_qg; (focus exact rfl); (focus exact rfl); (focus exact rfl); (focus exact rfl); (focus (first | rfl | assumption | exact neg_t (by assumption) | exact neg_f (by assumption))); (focus (intro _; (refine lo_call h9 rfl (by repeat (first | exact rzs_nil | apply rzs_cons | exact rz_c | exact rz_nil rfl | apply rz_agg | exact rz_own rfl | apply rz_fn | exact rz_ptr rfl | apply rz_tup)) ?_; rintro _ rfl); exact det_refl))))
    try refine gW ?_
    refine w_nil ?_
    repeat (first | refine gG ?_ | refine zN1 (fun hlen => ?_) | refine zN2 (fun hlen => ?_) | refine zBx (fun _ => ?_))
    first | refine zR ?_ | refine zQ ?_
    simp only [e4]; rfl
end Go.Proofs.Ythgackidonocpaa
namespace Go.Proofs.Ythgackidonocpaa
open Go.ChangeShapes Go.WideShapes Go.ChangeAt Go.RowKit Go.Deep
section
variable {H : Type} {enc : TypeId × Value → H} {P : Program} {w : World} {base : Nat} {spare : Nat → Bool} {held : Bool}
theorem bulk_one (d : DataW H) : 1 ≤ Rows.uptoBulk d := by
  cases d with
  | lit l => cases l <;> simp [Rows.uptoBulk]
  | _ => simp [Rows.uptoBulk]
end
end Go.Proofs.Ythgackidonocpaa
namespace Go.Proofs.Ythgackidonocpaa
open Go.ChangeShapes Go.WideShapes Go.ChangeAt Go.RowKit
theorem own : ownKnob Try.prog.godebug = none := by kernel_rfl
theorem laidOut : laidOutB Try.prog = true := by kernel_rfl
section
variable {H : Type} {enc : TypeId × Value → H}
theorem trodAll_below {P : Program} (hl : laidOutB P = true) {W W' : World} (hb : Below W.heap.size W W') (ts : List TypeId) : ∀ (vs : List Value) (ds : List (DataW H)) (ps : List MemPlace),
    (ts.all fun t => P.readableRec t && decide (t < P.types.size)) = true → DataW.TrodAll enc P W 0 (fun _ => true) true ts vs ds ps → (∀ x ∈ ps, x.block < W.heap.size) →
    DataW.TrodAll enc P W' 0 (fun b => decide (b < W.heap.size)) true ts vs ds ps := by
  induction ts with
  | nil =>
    intro vs ds ps _ h _
    obtain ⟨rfl, rfl, rfl⟩ := trodAll_nil h
    rfl
  | cons t ts ih =>
    intro vs ds ps hr h hlt
    obtain ⟨v, vs', d, ds', p, q, rfl, rfl, rfl, h0, h1⟩ := trodAll_cons h
    simp only [List.all_cons, Bool.and_eq_true, decide_eq_true_eq] at hr
    refine ⟨p, q, Below.trod hl hr.1.1 hr.1.2 h0 hb fun x hx => hlt x (List.mem_append_left _ hx), ?_, rfl⟩
    exact ih vs' ds' q hr.2 h1 fun x hx => hlt x (List.mem_append_right _ hx)
theorem law_post {f : Func} {s : ChangeSpec} {W W' : World} {args : Array Value} {ds gs : List (DataW H)} {before : List MemPlace}
    (hW : DataW.Whole enc Try.prog f.params.toList s.vars false W args.toList ds gs before) (hv : s.vars = []) (hrt : f.resultTypes = #[4])
    (hr : (f.params.toList.all fun t => Try.prog.readableRec t && decide (t < Try.prog.types.size)) = true)
    (hres : (s.fn H (ds ++ gs)).results = [.lit (.bool true)]) (hargs : (s.fn H (ds ++ gs)).args = ds) (hvars : (s.fn H (ds ++ gs)).vars = []) (hb : Below W.heap.size W W') :
    s.post enc Try.prog f false true false false W args (.bool true) W' := by
  have hlt : ∀ p ∈ before, p.block < W.heap.size := fun p hp => hW.lt p hp
  have hW' := hW
  obtain ⟨p, q, hA, hV, rfl, _, _⟩ := hW'
  rw [hv] at hV
  obtain ⟨rfl, rfl⟩ := trodVars_none hV
  rw [List.append_nil] at hlt
  refine ⟨ds, [], _, [], p, [], hW, ?_, ?_, ?_, hb.frame _ |> World.keptBut_mono (fun x hx => ⟨hx, ?_⟩), fun h => by cases h⟩
  · rw [hrt, hres]
    exact trodAll_mk1 (shut_bool Try.underlying4 true)
  · rw [hargs]
    exact trodAll_below laidOut hb _ _ _ _ hr hA hlt
  · rw [hvars, hv]
    rfl
  · rw [List.append_nil] at hx
    exact .inr (.inl hx)
end
end Go.Proofs.Ythgackidonocpaa
namespace Go.Proofs.Ythgackidonocpaa
open Go.ChangeShapes Go.WideShapes Go.ChangeAt Go.RowKit Go.Deep
/-- all memory of a world -/
def memOf (w : World) : Mm := frz (fun _ => none) 0 w
theorem memOf_ok (w : World) : MemOk (memOf w) w := frz_ok (fun p v h => by cases h) 0
theorem memOf_at {w : World} {p : Addr} {v : Value} (h : w.cell? p = some v) (h1 : v.oneCell' = true) : memOf w p = some v := frz_new rfl (Nat.zero_le _) h h1
section
variable {H : Type} {enc : TypeId × Value → H} {P : Program} {w : World} {base : Nat} {spare : Nat → Bool} {held : Bool}
def Opens (enc : TypeId × Value → H) (P : Program) (w : World) (base : Nat) (spare : Nat → Bool) (held : Bool) (t : TypeId) {α : Type} (f : α → List T) (μ : α → Nat) (fuel : Nat) : Prop :=
  ∀ (cs : List Value) (x : DataW H × List MemPlace), DataW.trod enc P w base spare held fuel t cs = some x → ∃ a, RTs (memOf w) (f a) cs ∧ OneAll cs ∧ μ a ≤ Rows.uptoBulk x.1
theorem sum_le {α : Type} (μ : α → Nat) : ∀ (l : List α) (ds : List (DataW H)), l.length = ds.length → (∀ (i : Nat) (a : α) (d : DataW H), l[i]? = some a → ds[i]? = some d → μ a ≤ Rows.uptoBulk d) → (l.map μ).sum ≤ Rows.uptoBulkAll ds
  | [], [], _, _ => by simp [Rows.uptoBulkAll]
  | a :: l, d :: ds, hl, h => by
    have h1 := h 0 a d rfl rfl
    have h2 := sum_le μ l ds (by simpa using hl) fun i a d ha hd => h (i + 1) a d (by simpa using ha) (by simpa using hd)
    simp only [List.map_cons, List.sum_cons, Rows.uptoBulkAll]
    omega
  | [], _ :: _, hl, _ => by simp at hl
  | _ :: _, [], hl, _ => by simp at hl
theorem snoc_ind {α : Type} {p : List α → Prop} (h0 : p []) (h1 : ∀ l x, p l → p (l ++ [x])) (l : List α) : p l := by
  have : ∀ n (l : List α), l.length = n → p l := by
    intro n
    induction n with
    | zero => intro l hl; rw [List.eq_nil_of_length_eq_zero hl]; exact h0
    | succ n ih =>
      intro l hl
      have hne : l ≠ [] := fun e => by rw [e] at hl; cases hl
      rw [← List.dropLast_concat_getLast hne]
      exact h1 _ _ (ih _ (by simp [hl]))
  exact this l.length l rfl
theorem rows_of {α : Type} (f : α → List T) (sz : Nat) (hf : ∀ a, (f a).length = sz) {a : Addr} : ∀ (l : List α) (C : Nat → List Value), (∀ (i : Nat) (x : α), l[i]? = some x → RTs (memOf w) (f x) (C i) ∧ OneAll (C i) ∧ ∀ j u, (C i)[j]? = some u → w.cell? (a.add (i * sz + j)) = some u) →
    ∃ xs : List Value, xs.length = l.length * sz ∧ At (memOf w) a xs ∧ RTs (memOf w) (l.flatMap f) xs := by
  intro l
  induction l using snoc_ind with
  | h0 => exact fun _ _ => ⟨[], by simp, fun j x h => by simp at h, by simp [RTs]⟩
  | h1 l x ih =>
    intro C h
    obtain ⟨xs, h1, h2, h3⟩ := ih C fun i y hy => h i y (by rw [List.getElem?_append_left (List.getElem?_eq_some_iff.1 hy).1]; exact hy)
    obtain ⟨g1, g2, g3⟩ := h l.length x (by simp)
    have hcl := g1.len
    rw [hf] at hcl
    refine ⟨xs ++ C l.length, by simp [h1, hcl, Nat.add_mul], fun j u hu => ?_, ?_⟩
    · rw [List.getElem?_append] at hu
      split at hu
      · exact h2 j u hu
      · have := g3 _ u hu
        rw [show l.length * sz + (j - xs.length) = j by omega] at this
        exact memOf_at this (g2 u (List.mem_of_getElem? hu))
    · rw [List.flatMap_append]
      refine h3.app ?_
      simpa using g1
theorem opens_slice {α : Type} [Inhabited α] {t e : TypeId} (f : α → List T) (μ : α → Nat) (sz : Nat) (hsz : 0 < sz) (hf : ∀ a, (f a).length = sz) {fuel : Nat} (ht : P.underlying t = some (.slice e)) (hC : P.cellsOf e = sz)
    (hel : ∀ n, n < fuel → Opens enc P w base spare held e f μ n) : Opens enc P w base spare held t (fun l : List α => [.row l.length sz (l.flatMap f)]) (fun l => (l.map μ).sum + 1) fuel := by
  intro cs x h
  rcases DataW.trod_slice ht h with ⟨rfl, rfl⟩ | ⟨a, len, cap, elems, rest, n, hn, rfl, rfl, hb, hl, hm, hlen, hi, _, _⟩
  · refine ⟨[], ?_, fun u hu => by simp at hu; subst hu; rfl, by simp [Rows.uptoBulk]⟩
    simp only [RTs]
    exact ⟨_, _, rfl, rt_nil hsz (by simp only [RT]), rfl⟩
  · rw [hC] at hi
    have hv : ∀ i, i < len → ∃ p : α × List Value, (p.2.length = sz ∧ ∀ j u, p.2[j]? = some u → w.cell? (a.add (i * sz + j)) = some u) ∧ RTs (memOf w) (f p.1) p.2 ∧ OneAll p.2 ∧ ∀ y, elems[i]? = some y → μ p.1 ≤ Rows.uptoBulk y.1 := by
      intro i hil
      have hk := hi i hil
      rw [List.getElem?_eq_getElem (by omega)] at hk
      obtain ⟨cs', h1, h2⟩ := Option.bind_eq_some_iff.1 hk
      obtain ⟨el, h3, h4, h5⟩ := hel n (by omega) _ _ h2
      obtain ⟨_, hlen', hcell⟩ := World.cells?_some h1
      refine ⟨(el, cs'), ⟨hlen', fun j u hu => ?_⟩, h3, h4, fun y hy => ?_⟩
      · have hj : j < sz := by rw [← hlen']; exact (List.getElem?_eq_some_iff.1 hu).1
        rw [← hu, ← hcell j hj, add_add']
      · rw [List.getElem?_eq_getElem (by omega)] at hy
        injection hy with hy
        rw [← hy]; exact h5
    obtain ⟨G, hG⟩ := choose_lt (α := α × List Value) hv
    obtain ⟨xs, g1, g2, g3⟩ := rows_of (w := w) (a := a) f sz hf ((List.range len).map fun i => (G i).1) (fun i => (G i).2) (fun i x hx => by
      have hil : i < len := by have := (List.getElem?_eq_some_iff.1 hx).1; simpa using this
      simp [hil] at hx
      obtain ⟨k1, k2, k3, _⟩ := hG i hil
      rw [← hx]
      exact ⟨k2, k3, k1.2⟩)
    refine ⟨(List.range len).map fun i => (G i).1, ?_, fun u hu => by simp at hu; subst hu; rfl, ?_⟩
    · simp only [RTs]
      refine ⟨_, _, rfl, ?_, rfl⟩
      simp only [RT]
      exact ⟨some a, cap, xs, by simp, by simpa using hl, by simp; omega, hsz, g1, fun _ => ⟨a, rfl, g2⟩, g3⟩
    · have := sum_le μ ((List.range len).map fun i => (G i).1) (elems.map (·.1)) (by simp [hlen]) (fun i y d hy hd => by
        have hil : i < len := by have := (List.getElem?_eq_some_iff.1 hy).1; simpa using this
        simp [hil] at hy
        rw [List.getElem?_map] at hd
        obtain ⟨z, hz, rfl⟩ := Option.map_eq_some_iff.1 hd
        rw [← hy]
        exact (hG i hil).2.2.2 z hz)
      simp only [Rows.uptoBulk]
      omega
end
/-- from a walk to the call: every law that takes trees and tells true -/
theorem law_call {P : Program} {f : FuncId} {ts : List T} {vs : List Value} {W : World} (h : AF P f ts (· = .lit (.bool true))) (hv : RTs (memOf W) ts vs) : Calls P f vs.toArray W fun e W' => e = .returned (.bool true) ∧ Below W.heap.size W W' :=
  (h.2 (memOf W) W vs (memOf_ok W) hv).mono fun e w' ⟨v, r, M', he, hr, _, _, hrt, hb⟩ => by
    subst hr
    simp only [RT] at hrt
    rw [he, hrt]
    exact ⟨rfl, hb⟩
end Go.Proofs.Ythgackidonocpaa
