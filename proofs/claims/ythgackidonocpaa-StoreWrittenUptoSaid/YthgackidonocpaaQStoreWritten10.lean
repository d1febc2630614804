/-
  Texts of this proof, part 10: Tqf Tql Tud Ab28.
-/
import Derived.Test.YthgackidonocpaaQStoreWritten9
import Derived.MapKept
namespace Go.Proofs.Ythgackidonocpaa
open Go.RowKit
theorem minl_low : ∀ (l : List Int) (a : Int), decide (l.foldl min a < 1) = (low1 a || l.any low1)
  | [], a => by rw [List.any_nil, Bool.or_false]; rfl
  | b :: l, a => by
    rw [List.foldl_cons, minl_low l (min a b), List.any_cons]
    have : low1 (min a b) = (low1 a || low1 b) := by
      simp only [low1]
      by_cases h1 : a < 1
      · rw [decide_eq_true h1, Bool.true_or]; exact decide_eq_true (by omega)
      · by_cases h2 : b < 1
        · rw [decide_eq_true h2, Bool.or_true]; exact decide_eq_true (by omega)
        · rw [decide_eq_false h1, decide_eq_false h2]; exact decide_eq_false (by omega)
    rw [this, Bool.or_assoc]
theorem foldl_snoc {l : List Int} {k : Nat} {a b : Int} (h : l[k]? = some b) : (l.take (k + 1)).foldl min a = min ((l.take k).foldl min a) b := by
  obtain ⟨h1, rfl⟩ := List.getElem?_eq_some_iff.1 h
  rw [List.take_succ_eq_append_getElem h1, List.foldl_append]
  rfl
set_option maxRecDepth 100000 in
set_option maxHeartbeats 4000000 in
theorem min_af (a : Int) (l : List Int) : AF Try.prog 109 [intRow (a :: l)] (· = .lit (.int .i64 (l.foldl min a))) := by
  have hll : (a :: l).length = l.length + 1 := rfl
  have d0 : decide (((a :: l).length : Int) < 1) = false := decide_eq_false (by simp only [List.length_cons]; omega)
  refine af_enter tok Try.func109 Try.ntmps109 Try.results109 rfl (by kernel_rfl) rfl rfl fun F hX => ?_
  repeat (first | refine gG ?_ | refine zN1 (fun hlen => ?_) | refine zN2 (fun hlen => ?_))
  refine zIx 0 (Nat.succ_pos _) ?_
  repeat (first | refine gG ?_ | refine zN1 (fun hlen => ?_) | refine zN2 (fun hlen => ?_))
  refine x_loop [3, 4, 12, 13, 14, 15, 16, 17, 18, 19, 20, 21, 22, 23] (fun k : Nat => [(4, .c (.lit (.int .i64 ((k + 1 : Nat) : Int)))), (3, .c (.lit (.int .i64 ((l.take k).foldl min a))))]) (fun _ => []) (fun k => k ≤ l.length) (fun k => l.length - k) 0 (Nat.zero_le _) ⟨rfl, rfl, trivial⟩ rfl ?_
  intro k hk
  repeat (first | refine gG ?_ | refine zN1 (fun hlen => ?_) | refine zN2 (fun hlen => ?_))
  refine x_cond rfl (fun h => ?_) (fun h => ?_)
  · have hk' : k < l.length := by have := of_decide_eq_true h; simp only [List.length_cons] at this; omega
    obtain ⟨b, hb⟩ := nth hk'
    have hb' : (a :: l)[k + 1]? = some b := by simpa using hb
    repeat (first | refine gG ?_ | refine zN1 (fun hlen => ?_) | refine zN2 (fun hlen => ?_))
    refine zIx (k + 1) (show k + 1 < (a :: l).length by simp only [List.length_cons]; omega) ?_
    repeat (first | refine gG ?_ | refine zN1 (fun hlen => ?_) | refine zN2 (fun hlen => ?_))
    refine zEl1 (int_at hb') ?_
    repeat (first | refine gG ?_ | refine zN1 (fun hlen => ?_) | refine zN2 (fun hlen => ?_))
    refine zMin ?_
    repeat (first | refine gG ?_ | refine zN1 (fun hlen => ?_) | refine zN2 (fun hlen => ?_))
    exact ⟨k + 1, hk', by omega, x_wkd 0 ⟨rfl, by rw [foldl_snoc hb]; rfl, trivial⟩ rfl (by repeat (first | exact ag_refl | refine ag_upd rfl ?_ | refine ag_at rfl rfl ?_))⟩
  · have hk' : k = l.length := by have := of_decide_eq_false h; simp only [List.length_cons] at this; omega
    subst hk'
    rw [List.take_length]
    repeat (first | refine gG ?_ | refine zN1 (fun hlen => ?_) | refine zN2 (fun hlen => ?_))
    first | refine zR ?_ | refine zQ ?_
    rfl
set_option maxRecDepth 100000 in
set_option maxHeartbeats 4000000 in
theorem parcelFault_af (p : Par) (hsm : p.Small) : AF Try.prog 45 [p.t] (· = .lit (.int .i64 p.check)) := by
  have k3 := @Par.check_3 p
  have k2 := @Par.check_2 p
  have ks := @Par.check_s p
  have kb := @Par.check_b p
  have kl := @Par.check_l p
  have hs := savedFault_af p.sav (fun v hv => (hsm.sav.state v hv).2.1) (fun x hx => (hsm.sav.inp x hx).2.1)
  obtain ⟨rf, sv, bx, tk, wt, lk⟩ := p
  have hbm := hsm.box
  dsimp only at k3 k2 ks kb kl hs hbm
  generalize (Par.mk rf sv bx tk wt lk).check = ck at *
  generalize sv.check = cs at *
  obtain ⟨ac, st, ip⟩ := sv
  refine af_enter tok Try.func45 Try.ntmps45 Try.results45 rfl (by kernel_rfl) rfl rfl fun F hX => ?_
  cases d1 : decide (rf < 1)
  rotate_left
  · repeat (first | refine gG ?_ | refine zN1 (fun hlen => ?_) | refine zN2 (fun hlen => ?_) | refine zAl (fun _ => ?_) | refine zBf ?_)
    first | refine zR ?_ | refine zQ ?_
    rw [k3 (by rw [d1]; rfl)]; rfl
  cases d2 : decide (tk < -1)
  rotate_left
  · repeat (first | refine gG ?_ | refine zN1 (fun hlen => ?_) | refine zN2 (fun hlen => ?_) | refine zAl (fun _ => ?_) | refine zBf ?_)
    first | refine zR ?_ | refine zQ ?_
    rw [k3 (by rw [d1, d2]; rfl)]; rfl
  have j1 : (decide (rf < 1) || decide (tk < -1)) = false := by rw [d1, d2]; rfl
  cases d3 : decide ((60 : Int) < (bx.length : Int))
  rotate_left
  · repeat (first | refine gG ?_ | refine zN1 (fun hlen => ?_) | refine zN2 (fun hlen => ?_) | refine zAl (fun _ => ?_) | refine zBf ?_)
    first | refine zR ?_ | refine zQ ?_
    rw [k2 j1 (by rw [d3]; rfl)]; rfl
  cases d4 : decide ((1000 : Int) < (wt.length : Int))
  rotate_left
  · repeat (first | refine gG ?_ | refine zN1 (fun hlen => ?_) | refine zN2 (fun hlen => ?_) | refine zAl (fun _ => ?_) | refine zBf ?_)
    first | refine zR ?_ | refine zQ ?_
    rw [k2 j1 (by rw [d3, d4]; rfl)]; rfl
  cases d5 : decide ((1000 : Int) < (lk.length : Int))
  rotate_left
  · repeat (first | refine gG ?_ | refine zN1 (fun hlen => ?_) | refine zN2 (fun hlen => ?_) | refine zAl (fun _ => ?_) | refine zBf ?_)
    first | refine zR ?_ | refine zQ ?_
    rw [k2 j1 (by rw [d3, d4, d5]; rfl)]; rfl
  have j2 : (decide ((60 : Int) < (bx.length : Int)) || decide ((1000 : Int) < (wt.length : Int)) || decide ((1000 : Int) < (lk.length : Int))) = false := by rw [d3, d4, d5]; rfl
  have ks := ks j1 j2
  have kb := kb j1 j2
  have kl := kl j1 j2
  clear k3 k2 j1 j2
  repeat (first | refine gG ?_ | refine zN1 (fun hlen => ?_) | refine zN2 (fun hlen => ?_) | refine zAl (fun _ => ?_) | refine zBf ?_)
  refine zCall (hs) ?_
  rintro _ rfl
  cases c1 : decide (cs = 0)
  · repeat (first | refine gG ?_ | refine zN1 (fun hlen => ?_) | refine zN2 (fun hlen => ?_) | refine zAl (fun _ => ?_) | refine zBx (fun _ => ?_))
    first | refine zR ?_ | refine zQ ?_
    rw [ks (of_decide_eq_false c1)]; rfl
  have hs0 := of_decide_eq_true c1
  repeat (first | refine gG ?_ | refine zN1 (fun hlen => ?_) | refine zN2 (fun hlen => ?_) | refine zAl (fun _ => ?_) | refine zBx (fun _ => ?_))
  refine x_loop [2, 5, 6, 40, 41, 42, 43, 44, 45, 46, 47, 48, 49] (fun k : Nat => [(40, .c (.lit (.int .i64 k)))]) (fun _ => []) (fun k => k ≤ bx.length ∧ ∀ x ∈ bx.take k, Lt.check x = 0) (fun k => bx.length - k) 0 ⟨Nat.zero_le _, by simp⟩ ⟨rfl, trivial⟩ rfl ?_
  rintro k ⟨hk, hz⟩
  repeat (first | refine gG ?_ | refine zN1 (fun hlen => ?_) | refine zN2 (fun hlen => ?_) | refine zAl (fun _ => ?_) | refine zBx (fun _ => ?_))
  refine x_cond rfl (fun h => ?_) (fun h => ?_)
  · have hk' : k < bx.length := by simpa using h
    obtain ⟨a, ha⟩ := nth hk'
    have hs : AF Try.prog 29 [a.t] (· = .lit (.int .i64 a.check)) := (by have h := letterFault_af a (hbm a (List.mem_of_getElem? ha)).2.1; rw [Lt.fault_eq] at h; exact h)
    have he := errs_at Lt.check hz ha
    have hsn := take_snoc (p := fun x => Lt.check x = 0) ha hz
    repeat (first | refine gG ?_ | refine zN1 (fun hlen => ?_) | refine zN2 (fun hlen => ?_) | refine zAl (fun _ => ?_) | refine zBx (fun _ => ?_))
    refine zIx (k) (hk') ?_
    repeat (first | refine gG ?_ | refine zN1 (fun hlen => ?_) | refine zN2 (fun hlen => ?_) | refine zAl (fun _ => ?_) | refine zBx (fun _ => ?_))
    refine zEl (flat_at Lt.ts 9 Lt.ts_len ha) (Lt.ts_len a) ?_
    generalize hca : a.check = ca at *
    obtain ⟨ka, fa, ta, na, sa, ⟨kv, nv, tv, lv⟩⟩ := a
    repeat (first | refine gG ?_ | refine zN1 (fun hlen => ?_) | refine zN2 (fun hlen => ?_) | refine zAl (fun _ => ?_) | refine zBx (fun _ => ?_))
    refine zCall (hs) ?_
    rintro _ rfl
    cases c2 : decide (ca = 0)
    · have c0 : ¬ ca = 0 := of_decide_eq_false c2
      repeat (first | refine gG ?_ | refine zN1 (fun hlen => ?_) | refine zN2 (fun hlen => ?_) | refine zAl (fun _ => ?_) | refine zBx (fun _ => ?_))
      first | refine zR ?_ | refine zQ ?_
      rw [kb hs0 (by rw [he c0]; exact c0), he c0]; rfl
    · have c0 : ca = 0 := of_decide_eq_true c2
      repeat (first | refine gG ?_ | refine zN1 (fun hlen => ?_) | refine zN2 (fun hlen => ?_) | refine zAl (fun _ => ?_) | refine zBx (fun _ => ?_))
      exact ⟨k + 1, ⟨hk', hsn c0⟩, by omega, x_wkd 0 ⟨rfl, trivial⟩ rfl (by repeat (first | exact ag_refl | refine ag_upd rfl ?_ | refine ag_at rfl rfl ?_))⟩
  · have hk' : k = bx.length := by have : ¬ k < bx.length := by simpa using h
                                   omega
    subst hk'
    rw [List.take_length] at hz
    have kl := kl hs0 (errs_all Lt.check hz)
    rcases wt with _ | ⟨w0, wr⟩
    · have e1 : decide ((0 : Int) < (([] : List Int).length : Int)) = false := rfl
      rcases lk with _ | ⟨l0, lr⟩
      · have e2 : decide ((0 : Int) < (([] : List Int).length : Int)) = false := rfl
        repeat (first | refine gG ?_ | refine zN1 (fun hlen => ?_) | refine zN2 (fun hlen => ?_) | refine zAl (fun _ => ?_) | refine zBx (fun _ => ?_))
        first | refine zR ?_ | refine zQ ?_
        rw [kl, if_neg (by decide)]; rfl
      · have e2 : decide ((0 : Int) < ((l0 :: lr).length : Int)) = true := decide_eq_true (by simp only [List.length_cons]; omega)
        have hm2 := min_af l0 lr
        have hl2 := minl_low lr l0
        generalize lr.foldl min l0 = m2 at *
        have hl2 : decide (m2 < 1) = (l0 :: lr).any low1 := by rw [hl2, List.any_cons]
        cases f2 : decide (m2 < 1)
        · have f2x := f2
          rw [hl2] at f2x
          repeat (first | refine gG ?_ | refine zN1 (fun hlen => ?_) | refine zN2 (fun hlen => ?_) | refine zAl (fun _ => ?_) | refine zBx (fun _ => ?_))
          refine zCall (hm2) ?_
          rintro _ rfl
          repeat (first | refine gG ?_ | refine zN1 (fun hlen => ?_) | refine zN2 (fun hlen => ?_) | refine zAl (fun _ => ?_) | refine zBx (fun _ => ?_))
          first | refine zR ?_ | refine zQ ?_
          rw [kl, if_neg (by rw [f2x]; decide)]; rfl
        · have f2x := f2
          rw [hl2] at f2x
          repeat (first | refine gG ?_ | refine zN1 (fun hlen => ?_) | refine zN2 (fun hlen => ?_) | refine zAl (fun _ => ?_) | refine zBx (fun _ => ?_))
          refine zCall (hm2) ?_
          rintro _ rfl
          repeat (first | refine gG ?_ | refine zN1 (fun hlen => ?_) | refine zN2 (fun hlen => ?_) | refine zAl (fun _ => ?_) | refine zBx (fun _ => ?_))
          first | refine zR ?_ | refine zQ ?_
          rw [kl, if_pos (by rw [f2x]; rfl)]; rfl
    · have e1 : decide ((0 : Int) < ((w0 :: wr).length : Int)) = true := decide_eq_true (by simp only [List.length_cons]; omega)
      have hm1 := min_af w0 wr
      have hl1 := minl_low wr w0
      generalize wr.foldl min w0 = m1 at *
      have hl1 : decide (m1 < 1) = (w0 :: wr).any low1 := by rw [hl1, List.any_cons]
      cases f1 : decide (m1 < 1)
      rotate_left
      · have f1x := f1
        rw [hl1] at f1x
        repeat (first | refine gG ?_ | refine zN1 (fun hlen => ?_) | refine zN2 (fun hlen => ?_) | refine zAl (fun _ => ?_) | refine zBx (fun _ => ?_))
        refine zCall (hm1) ?_
        rintro _ rfl
        repeat (first | refine gG ?_ | refine zN1 (fun hlen => ?_) | refine zN2 (fun hlen => ?_) | refine zAl (fun _ => ?_) | refine zBx (fun _ => ?_))
        first | refine zR ?_ | refine zQ ?_
        rw [kl, if_pos (by rw [f1x]; rfl)]; rfl
      have f1x := f1
      rw [hl1] at f1x
      rcases lk with _ | ⟨l0, lr⟩
      · have e2 : decide ((0 : Int) < (([] : List Int).length : Int)) = false := rfl
        repeat (first | refine gG ?_ | refine zN1 (fun hlen => ?_) | refine zN2 (fun hlen => ?_) | refine zAl (fun _ => ?_) | refine zBx (fun _ => ?_))
        refine zCall (hm1) ?_
        rintro _ rfl
        repeat (first | refine gG ?_ | refine zN1 (fun hlen => ?_) | refine zN2 (fun hlen => ?_) | refine zAl (fun _ => ?_) | refine zBx (fun _ => ?_))
        first | refine zR ?_ | refine zQ ?_
        rw [kl, if_neg (by rw [f1x]; decide)]; rfl
      · have e2 : decide ((0 : Int) < ((l0 :: lr).length : Int)) = true := decide_eq_true (by simp only [List.length_cons]; omega)
        have hm2 := min_af l0 lr
        have hl2 := minl_low lr l0
        generalize lr.foldl min l0 = m2 at *
        have hl2 : decide (m2 < 1) = (l0 :: lr).any low1 := by rw [hl2, List.any_cons]
        cases f2 : decide (m2 < 1)
        · have f2x := f2
          rw [hl2] at f2x
          repeat (first | refine gG ?_ | refine zN1 (fun hlen => ?_) | refine zN2 (fun hlen => ?_) | refine zAl (fun _ => ?_) | refine zBx (fun _ => ?_))
          refine zCall (hm1) ?_
          rintro _ rfl
          repeat (first | refine gG ?_ | refine zN1 (fun hlen => ?_) | refine zN2 (fun hlen => ?_) | refine zAl (fun _ => ?_) | refine zBx (fun _ => ?_))
          refine zCall (hm2) ?_
          rintro _ rfl
          repeat (first | refine gG ?_ | refine zN1 (fun hlen => ?_) | refine zN2 (fun hlen => ?_) | refine zAl (fun _ => ?_) | refine zBx (fun _ => ?_))
          first | refine zR ?_ | refine zQ ?_
          rw [kl, if_neg (by rw [f1x, f2x]; decide)]; rfl
        · have f2x := f2
          rw [hl2] at f2x
          repeat (first | refine gG ?_ | refine zN1 (fun hlen => ?_) | refine zN2 (fun hlen => ?_) | refine zAl (fun _ => ?_) | refine zBx (fun _ => ?_))
          refine zCall (hm1) ?_
          rintro _ rfl
          repeat (first | refine gG ?_ | refine zN1 (fun hlen => ?_) | refine zN2 (fun hlen => ?_) | refine zAl (fun _ => ?_) | refine zBx (fun _ => ?_))
          refine zCall (hm2) ?_
          rintro _ rfl
          repeat (first | refine gG ?_ | refine zN1 (fun hlen => ?_) | refine zN2 (fun hlen => ?_) | refine zAl (fun _ => ?_) | refine zBx (fun _ => ?_))
          first | refine zR ?_ | refine zQ ?_
          rw [kl, if_pos (by rw [f1x, f2x]; rfl)]; rfl
def encL (l : List Int) : List UInt8 := uv l.length ++ l.flatMap nb
theorem letterText_af' {x : Lt} (h : x.check = 0) (hok : x.ok) (hb : x.bytes.length ≤ 1099511627776) : AF Try.prog 88 [x.t] (· = .lit (.string (bs x.bytes))) := by
  obtain ⟨k, fm, tt, n, t, v⟩ := x
  have hR := Lt.right h
  obtain ⟨a1, a2, a3, a4, a5⟩ := hok
  unfold inI at a1 a2 a3
  obtain ⟨fm, rfl⟩ := nat_of hR.fm0
  obtain ⟨tt, rfl⟩ := nat_of hR.tt0
  obtain ⟨n, rfl⟩ := nat_of hR.n0.1
  exact letterText_af (k := k) (t := t) (fm := fm) (tt := tt) (n := n) (by omega) (by omega) (by omega) a4 hb
set_option maxRecDepth 100000 in
set_option maxHeartbeats 4000000 in
theorem parcelBytes_af (p : Par) (hs : p.Small) : AF Try.prog 43 [p.t] (Outs2 p.out p.check) := by
  have hc := parcelFault_af p hs
  unfold Par.out
  by_cases hyes : p.check = 0
  rotate_left
  · rw [if_neg hyes]
    have d1 : decide (p.check = 0) = false := decide_eq_false hyes
    generalize p.check = e at *
    obtain ⟨rf, ⟨ac, st, ip⟩, bx, tk, wt, lk⟩ := p
    refine af_enter tok Try.func43 Try.ntmps43 Try.results43 rfl (by kernel_rfl) rfl rfl fun F hX => ?_
    repeat (first | refine gG ?_ | refine zN1 (fun hlen => ?_) | refine zN2 (fun hlen => ?_) | refine zAl (fun _ => ?_) | refine zBf ?_)
    refine zCall (hc) ?_
    rintro _ rfl
    repeat (first | refine gG ?_ | refine zN1 (fun hlen => ?_) | refine zN2 (fun hlen => ?_) | refine zAl (fun _ => ?_) | refine zBx (fun _ => ?_))
    first | refine zR (ts := [bytRow [], .lit (.int .i64 e)]) ?_ | refine zQ (ts := [bytRow [], .lit (.int .i64 e)]) ?_
    rfl
  rw [if_pos hyes]
  have hR := Par.right hyes
  have hbl := Par.bytes_le hs hR
  rw [hyes] at hc ⊢
  have hsr := Sav.right hR.sav
  have hsb := Sav.bytes_le hs.sav hsr
  obtain ⟨rf, sv, bx, tk, wt, lk⟩ := p
  obtain ⟨a1, a2, a3, a4, a5, a6, a7, a8⟩ := hR
  obtain ⟨b1, b2, b3, b4, b5, b6⟩ := hs
  dsimp only at hsr hsb a1 a2 a3 a4 a5 a6 a7 a8 b1 b2 b3 b4 b5 b6
  have hrf := b3
  unfold inI at hrf
  obtain ⟨rf, rfl⟩ := nat_of (show 0 ≤ rf by omega)
  have e0 : (Par.mk rf sv bx tk wt lk).bytes = uv rf ++ sv.bytes ++ uv bx.length ++ bx.flatMap Lt.bytes ++ uv (zz tk) ++ [wt, lk].flatMap encL := by simp [Par.bytes, encL]
  rw [e0] at hbl ⊢
  simp only [List.length_append] at hbl
  have c1 := rnat_af rf (by omega)
  have c2 := savedText_af sv (fun v hv => (b1.state v hv).1) (fun x hx => ⟨(b1.inp x hx).1, (Inp.right (hsr.inp x hx)).kind.2⟩) hsr.states hsr.inps (by omega)
  have c3 := rnat_af bx.length (by omega)
  have c4 := rnum_af tk b4
  have w1 : IntKind.u64.wrap (rf : Int) = (rf : Int) := by rw [wrap_u64]; omega
  have w3 : IntKind.u64.wrap (bx.length : Int) = (bx.length : Int) := by rw [wrap_u64]; omega
  have ul1 := uv_len64 (n := bx.length) (by omega)
  generalize sv.bytes = sb at *
  obtain ⟨ac, st, ip⟩ := sv
  refine af_enter tok Try.func43 Try.ntmps43 Try.results43 rfl (by kernel_rfl) rfl rfl fun F hX => ?_
  repeat (first | refine gG ?_ | refine zN1 (fun hlen => ?_) | refine zN2 (fun hlen => ?_) | refine zAl (fun _ => ?_) | refine zBf ?_)
  refine zCall (hc) ?_
  rintro _ rfl
  repeat (first | refine gG ?_ | refine zN1 (fun hlen => ?_) | refine zN2 (fun hlen => ?_) | refine zAl (fun _ => ?_) | refine zBx (fun _ => ?_))
  refine ac_draw [1, 1, 1, 1, 1, 1, 1, 1, 1, 1, 1, 1, 1, 1, 1] [0, 1, 2, 3, 4, 5, 6, 7, 8, 9, 10, 11, 12, 13, 14] (by kernel_rfl) (by kernel_rfl) ?_
  refine gW ?_
  apply w_q; (focus exact rfl); (focus exact rfl); focus (intro _; (refine lo_conv tok rfl rfl rfl rfl w1 ?_); exact det_refl)
  apply w_q; (focus exact rfl); (focus exact rfl); focus (intro _; (refine lo_call c1 rfl (by repeat (first | exact rzs_nil | apply rzs_cons | exact rz_c | exact rz_nil rfl | apply rz_agg | exact rz_own rfl | apply rz_fn | exact rz_ptr rfl | apply rz_tup)) ?_; rintro _ rfl); exact det_refl)
  refine gW ?_
  apply w_q; (focus exact rfl); (focus exact rfl); focus (intro _; (refine lo_call c2 rfl (by repeat (first | exact rzs_nil | apply rzs_cons | exact rz_c | exact rz_nil rfl | apply rz_agg | exact rz_own rfl | apply rz_fn | exact rz_ptr rfl | apply rz_tup)) ?_; rintro _ rfl); exact det_refl)
  apply w_q; (focus exact rfl); (focus exact rfl); focus (intro _; (refine zCatb (uv rf) sb (by first | omega | (simp only [List.length_append, List.length_cons, List.length_nil, sz_len]; omega)) ?_); exact det_refl)
  refine gW ?_
  apply w_q; (focus exact rfl); (focus exact rfl); focus (intro _; (refine lo_conv tok rfl rfl rfl rfl w3 ?_); exact det_refl)
  apply w_q; (focus exact rfl); (focus exact rfl); focus (intro _; (refine lo_call c3 rfl (by repeat (first | exact rzs_nil | apply rzs_cons | exact rz_c | exact rz_nil rfl | apply rz_agg | exact rz_own rfl | apply rz_fn | exact rz_ptr rfl | apply rz_tup)) ?_; rintro _ rfl); exact det_refl)
  apply w_q; (focus exact rfl); (focus exact rfl); focus (intro _; (refine zCatb (uv rf ++ sb) (uv bx.length) (by first | omega | (simp only [List.length_append, List.length_cons, List.length_nil, sz_len]; omega)) ?_); exact det_refl)
  refine gW ?_
  refine w_nil ?_
  repeat (first | refine gG ?_ | refine zN1 (fun hlen => ?_) | refine zN2 (fun hlen => ?_) | refine zAl (fun _ => ?_) | refine zBx (fun _ => ?_))
  refine x_loop [5, 7, 34, 35, 36, 37, 38, 39, 40, 41, 42] (fun y : Nat => [(34, .c (.lit (.int .i64 (y : Nat)))), (5, .c (.lit (.string (bs (uv rf ++ sb ++ uv bx.length ++ (bx.take y).flatMap Lt.bytes)))))]) (fun _ => []) (fun y => y ≤ bx.length) (fun y => bx.length - y) 0 (Nat.zero_le _) ⟨rfl, by simp; rfl, trivial⟩ rfl ?_
  intro i hi
  repeat (first | refine gG ?_ | refine zN1 (fun hlen => ?_) | refine zN2 (fun hlen => ?_) | refine zAl (fun _ => ?_) | refine zBx (fun _ => ?_))
  refine x_cond rfl (fun h => ?_) (fun h => ?_)
  · have hi' : i < bx.length := by simpa using h
    obtain ⟨a, hla⟩ := nth hi'
    have hsn := flat_snoc' Lt.bytes hla
    have hle := flat_take_le Lt.bytes bx (i + 1)
    rw [hsn, List.length_append] at hle
    have hc := letterText_af' (a3 a (List.mem_of_getElem? hla)) (b2 a (List.mem_of_getElem? hla)).1 (by omega)
    repeat (first | refine gG ?_ | refine zN1 (fun hlen => ?_) | refine zN2 (fun hlen => ?_) | refine zAl (fun _ => ?_) | refine zBx (fun _ => ?_))
    refine zIx (i) (hi') ?_
    repeat (first | refine gG ?_ | refine zN1 (fun hlen => ?_) | refine zN2 (fun hlen => ?_) | refine zAl (fun _ => ?_) | refine zBx (fun _ => ?_))
    refine zEl (flat_at Lt.ts 9 Lt.ts_len hla) (Lt.ts_len a) ?_
    generalize a.bytes = ab at *
    obtain ⟨ka, fa, ta, na, sa, ⟨kv, nv, tv, lv⟩⟩ := a
    repeat (first | refine gG ?_ | refine zN1 (fun hlen => ?_) | refine zN2 (fun hlen => ?_) | refine zAl (fun _ => ?_) | refine zBx (fun _ => ?_))
    refine zCall (hc) ?_
    rintro _ rfl
    repeat (first | refine gG ?_ | refine zN1 (fun hlen => ?_) | refine zN2 (fun hlen => ?_) | refine zAl (fun _ => ?_) | refine zBx (fun _ => ?_))
    refine zCatb (uv rf ++ sb ++ uv bx.length ++ (bx.take i).flatMap Lt.bytes) ab (by first | omega | (simp only [List.length_append, List.length_cons, List.length_nil, sz_len]; omega)) ?_
    repeat (first | refine gG ?_ | refine zN1 (fun hlen => ?_) | refine zN2 (fun hlen => ?_) | refine zAl (fun _ => ?_) | refine zBx (fun _ => ?_))
    exact ⟨i + 1, hi', by omega, x_wkd 0 ⟨rfl, by simp only [hsn, List.append_assoc]; rfl, trivial⟩ rfl (by repeat (first | exact ag_refl | refine ag_upd rfl ?_ | refine ag_at rfl rfl ?_))⟩
  have hi' : i = bx.length := by have : ¬ i < bx.length := by simpa using h
                                 omega
  subst hi'
  rw [List.take_length]
  repeat (first | refine gG ?_ | refine zN1 (fun hlen => ?_) | refine zN2 (fun hlen => ?_) | refine zAl (fun _ => ?_) | refine zBx (fun _ => ?_))
  refine zCall (c4) ?_
  rintro _ rfl
  repeat (first | refine gG ?_ | refine zN1 (fun hlen => ?_) | refine zN2 (fun hlen => ?_) | refine zAl (fun _ => ?_) | refine zBx (fun _ => ?_))
  refine zCatb (uv rf ++ sb ++ uv bx.length ++ bx.flatMap Lt.bytes) (uv (zz tk)) (by first | omega | (simp only [List.length_append, List.length_cons, List.length_nil, sz_len]; omega)) ?_
  repeat (first | refine gG ?_ | refine zN1 (fun hlen => ?_) | refine zN2 (fun hlen => ?_) | refine zAl (fun _ => ?_) | refine zBx (fun _ => ?_))
  refine x_loop [5, 9, 11, 54, 55, 56, 57, 58, 59, 60, 61, 62, 63, 64, 65, 66, 67, 68, 69, 70, 71, 72, 73, 74, 75, 76] (fun y : Nat => [(54, .c (.lit (.int .i64 (y : Nat)))), (5, .c (.lit (.string (bs (uv rf ++ sb ++ uv bx.length ++ bx.flatMap Lt.bytes ++ uv (zz tk) ++ ([wt, lk].take y).flatMap encL)))))]) (fun _ => []) (fun y => y ≤ 2) (fun y => 2 - y) 0 (Nat.zero_le _) ⟨rfl, by simp; rfl, trivial⟩ rfl ?_
  intro i hi
  repeat (first | refine gG ?_ | refine zN1 (fun hlen => ?_) | refine zN2 (fun hlen => ?_) | refine zAl (fun _ => ?_) | refine zBx (fun _ => ?_))
  refine x_cond rfl (fun h => ?_) (fun h => ?_)
  · have hi' : i < 2 := by have := of_decide_eq_true h; omega
    obtain ⟨a, hla⟩ := nth (l := [wt, lk]) hi'
    have hsn := flat_snoc' encL hla
    have hle := flat_take_le encL [wt, lk] i
    have ham : a = wt ∨ a = lk := by have := List.mem_of_getElem? hla; simpa using this
    have hal : a.length ≤ 1000 := by rcases ham with rfl | rfl <;> assumption
    have hain : ∀ n ∈ a, inI n ∧ 1 ≤ n := by
      rcases ham with rfl | rfl
      · exact fun n hn => ⟨b5 n hn, a5 n hn⟩
      · exact fun n hn => ⟨b6 n hn, a6 n hn⟩
    clear ham
    have wa : IntKind.u64.wrap (a.length : Int) = (a.length : Int) := by rw [wrap_u64]; omega
    have ca := rnat_af a.length (by omega)
    have ula := uv_len64 (n := a.length) (by omega)
    have hfa := flat_le nb 10 (l := a) fun n hn => nb_le (hain n hn).1
    have heq : encL a = uv a.length ++ a.flatMap nb := rfl
    repeat (first | refine gG ?_ | refine zN1 (fun hlen => ?_) | refine zN2 (fun hlen => ?_) | refine zAl (fun _ => ?_) | refine zBx (fun _ => ?_))
    refine zIx i hi' ?_
    repeat (first | refine gG ?_ | refine zN1 (fun hlen => ?_) | refine zN2 (fun hlen => ?_) | refine zAl (fun _ => ?_) | refine zBx (fun _ => ?_))
    refine zEl1 (map_at intRow hla) ?_
    repeat (first | refine gG ?_ | refine zN1 (fun hlen => ?_) | refine zN2 (fun hlen => ?_) | refine zAl (fun _ => ?_) | refine zBx (fun _ => ?_))
    refine lo_conv tok rfl rfl rfl rfl wa ?_
    repeat (first | refine gG ?_ | refine zN1 (fun hlen => ?_) | refine zN2 (fun hlen => ?_) | refine zAl (fun _ => ?_) | refine zBx (fun _ => ?_))
    refine zCall (ca) ?_
    rintro _ rfl
    repeat (first | refine gG ?_ | refine zN1 (fun hlen => ?_) | refine zN2 (fun hlen => ?_) | refine zAl (fun _ => ?_) | refine zBx (fun _ => ?_))
    refine zCatb (uv rf ++ sb ++ uv bx.length ++ bx.flatMap Lt.bytes ++ uv (zz tk) ++ ([wt, lk].take i).flatMap encL) (uv a.length) (by first | omega | (simp only [List.length_append, List.length_cons, List.length_nil, sz_len]; omega)) ?_
    repeat (first | refine gG ?_ | refine zN1 (fun hlen => ?_) | refine zN2 (fun hlen => ?_) | refine zAl (fun _ => ?_) | refine zBx (fun _ => ?_))
    refine x_loop [5, 11, 66, 67, 68, 69, 70, 71, 72, 73, 74, 75] (fun y : Nat => [(66, .c (.lit (.int .i64 (y : Nat)))), (5, .c (.lit (.string (bs (uv rf ++ sb ++ uv bx.length ++ bx.flatMap Lt.bytes ++ uv (zz tk) ++ ([wt, lk].take i).flatMap encL ++ uv a.length ++ (a.take y).flatMap nb)))))]) (fun _ => []) (fun y => y ≤ a.length) (fun y => a.length - y) 0 (Nat.zero_le _) ⟨rfl, by simp; rfl, trivial⟩ rfl ?_
    intro j hj
    repeat (first | refine gG ?_ | refine zN1 (fun hlen => ?_) | refine zN2 (fun hlen => ?_) | refine zAl (fun _ => ?_) | refine zBx (fun _ => ?_))
    refine x_cond rfl (fun h => ?_) (fun h => ?_)
    · have hj' : j < a.length := by simpa using h
      obtain ⟨n, hn⟩ := nth hj'
      obtain ⟨hn1, hn2⟩ := hain n (List.mem_of_getElem? hn)
      have hsn3 := flat_snoc' nb hn
      have hle3 := flat_take_le nb a (j + 1)
      rw [hsn3, List.length_append] at hle3
      repeat (first | refine gG ?_ | refine zN1 (fun hlen => ?_) | refine zN2 (fun hlen => ?_) | refine zAl (fun _ => ?_) | refine zBx (fun _ => ?_))
      refine zIx j hj' ?_
      repeat (first | refine gG ?_ | refine zN1 (fun hlen => ?_) | refine zN2 (fun hlen => ?_) | refine zAl (fun _ => ?_) | refine zBx (fun _ => ?_))
      refine zEl1 (int_at hn) ?_
      unfold inI at hn1
      obtain ⟨m, rfl⟩ := nat_of (show 0 ≤ n by omega)
      have wn : IntKind.u64.wrap (m : Int) = (m : Int) := by rw [wrap_u64]; omega
      have cn := rnat_af m (by omega)
      have hnb : nb (m : Int) = uv m := rfl
      rw [hnb] at hsn3 hle3
      repeat (first | refine gG ?_ | refine zN1 (fun hlen => ?_) | refine zN2 (fun hlen => ?_) | refine zAl (fun _ => ?_) | refine zBx (fun _ => ?_))
      refine lo_conv tok rfl rfl rfl rfl wn ?_
      repeat (first | refine gG ?_ | refine zN1 (fun hlen => ?_) | refine zN2 (fun hlen => ?_) | refine zAl (fun _ => ?_) | refine zBx (fun _ => ?_))
      refine zCall (cn) ?_
      rintro _ rfl
      repeat (first | refine gG ?_ | refine zN1 (fun hlen => ?_) | refine zN2 (fun hlen => ?_) | refine zAl (fun _ => ?_) | refine zBx (fun _ => ?_))
      refine zCatb (uv rf ++ sb ++ uv bx.length ++ bx.flatMap Lt.bytes ++ uv (zz tk) ++ ([wt, lk].take i).flatMap encL ++ uv a.length ++ (a.take j).flatMap nb) (uv m) (by first | omega | (simp only [List.length_append, List.length_cons, List.length_nil, sz_len]; omega)) ?_
      repeat (first | refine gG ?_ | refine zN1 (fun hlen => ?_) | refine zN2 (fun hlen => ?_) | refine zAl (fun _ => ?_) | refine zBx (fun _ => ?_))
      exact ⟨j + 1, hj', by omega, x_wkd 0 ⟨rfl, by simp only [hsn3, List.append_assoc]; rfl, trivial⟩ rfl (by repeat (first | exact ag_refl | refine ag_upd rfl ?_ | refine ag_at rfl rfl ?_))⟩
    · have hj' : j = a.length := by have : ¬ j < a.length := by simpa using h
                                    omega
      subst hj'
      rw [List.take_length]
      repeat (first | refine gG ?_ | refine zN1 (fun hlen => ?_) | refine zN2 (fun hlen => ?_) | refine zAl (fun _ => ?_) | refine zBx (fun _ => ?_))
      exact ⟨i + 1, hi', by omega, x_wkd 0 ⟨rfl, by simp only [hsn, heq, List.append_assoc]; rfl, trivial⟩ rfl (by repeat (first | exact ag_refl | refine ag_upd rfl ?_ | refine ag_at rfl rfl ?_))⟩
  have hi' : i = 2 := by have := of_decide_eq_false h; omega
  subst hi'
  repeat (first | refine gG ?_ | refine zN1 (fun hlen => ?_) | refine zN2 (fun hlen => ?_) | refine zAl (fun _ => ?_) | refine zBx (fun _ => ?_))
  refine zByt (s := bs (uv rf ++ sb ++ uv bx.length ++ bx.flatMap Lt.bytes ++ uv (zz tk) ++ [wt, lk].flatMap encL)) (by rw [bs_size']; simp only [maxLen, List.length_append]; omega) ?_
  repeat (first | refine gG ?_ | refine zN1 (fun hlen => ?_) | refine zN2 (fun hlen => ?_) | refine zAl (fun _ => ?_) | refine zBx (fun _ => ?_))
  first | refine zR ?_ | refine zQ ?_
  rfl
end Go.Proofs.Ythgackidonocpaa
namespace Go.Proofs.Ythgackidonocpaa
open Go.RowKit
set_option maxRecDepth 100000 in
set_option maxHeartbeats 4000000 in
theorem parcelSmall_af (p : Par) (hs : p.Small) (hn : p.sav.state.length ≤ 1048576) : AF Try.prog 41 [p.t] Tell := by
  have hv := savedSmall_af p.sav (fun v hv => (hs.sav.state v hv).2.1) (fun v hv => (hs.sav.inp v hv).2.1) hn
  have hbx := hs.box
  obtain ⟨rf, ⟨ac, st, ip⟩, l, tk, wt, lk⟩ := p
  dsimp only at hbx hv
  refine af_enter tok Try.func41 Try.ntmps41 Try.results41 rfl (by kernel_rfl) rfl rfl fun F hX => ?_
  repeat (first | refine gG ?_ | refine zN1 (fun hlen => ?_) | refine zN2 (fun hlen => ?_) | refine zAl (fun _ => ?_) | refine zBf ?_)
  refine x_loop [2, 4, 8, 9, 10, 11, 12, 13, 14, 15, 16] (fun k : Nat => [(8, .c (.lit (.int .i64 k)))]) (fun _ => []) (fun k => k ≤ l.length) (fun k => l.length - k) 0 (Nat.zero_le _) ⟨rfl, trivial⟩ rfl fun k hk => ?_
  repeat (first | refine gG ?_ | refine zN1 (fun hlen => ?_) | refine zN2 (fun hlen => ?_) | refine zAl (fun _ => ?_) | refine zBx (fun _ => ?_))
  refine x_cond rfl (fun h => ?_) (fun h => ?_)
  · have hk' : k < l.length := by simpa using h
    obtain ⟨a, ha⟩ := nth hk'
    have hs := valueSmall_af a.val (hbx a (List.mem_of_getElem? ha)).2.1
    repeat (first | refine gG ?_ | refine zN1 (fun hlen => ?_) | refine zN2 (fun hlen => ?_) | refine zAl (fun _ => ?_) | refine zBx (fun _ => ?_))
    refine zIx (k) (hk') ?_
    repeat (first | refine gG ?_ | refine zN1 (fun hlen => ?_) | refine zN2 (fun hlen => ?_) | refine zAl (fun _ => ?_) | refine zBx (fun _ => ?_))
    refine zEl (flat_at Lt.ts 9 Lt.ts_len ha) (Lt.ts_len a) ?_
    obtain ⟨ka, fa, ta, na, sa, ⟨kv, nv, tv, lv⟩⟩ := a
    simp only [Lt.val] at hs
    repeat (first | refine gG ?_ | refine zN1 (fun hlen => ?_) | refine zN2 (fun hlen => ?_) | refine zAl (fun _ => ?_) | refine zBx (fun _ => ?_))
    refine zCall (hs) ?_
    rintro _ ⟨b, rfl⟩
    cases b
    · repeat (first | refine gG ?_ | refine zN1 (fun hlen => ?_) | refine zN2 (fun hlen => ?_) | refine zAl (fun _ => ?_) | refine zBx (fun _ => ?_))
      first | refine zR ?_ | refine zQ ?_
      exact ⟨_, rfl⟩
    · repeat (first | refine gG ?_ | refine zN1 (fun hlen => ?_) | refine zN2 (fun hlen => ?_) | refine zAl (fun _ => ?_) | refine zBx (fun _ => ?_))
      exact ⟨k + 1, hk', by omega, x_wkd 0 ⟨rfl, trivial⟩ rfl (by repeat (first | exact ag_refl | refine ag_upd rfl ?_ | refine ag_at rfl rfl ?_))⟩
  · repeat (first | refine gG ?_ | refine zN1 (fun hlen => ?_) | refine zN2 (fun hlen => ?_) | refine zAl (fun _ => ?_) | refine zBx (fun _ => ?_))
    refine zCall (hv) ?_
    rintro _ ⟨b, rfl⟩
    repeat (first | refine gG ?_ | refine zN1 (fun hlen => ?_) | refine zN2 (fun hlen => ?_) | refine zAl (fun _ => ?_) | refine zBx (fun _ => ?_))
    first | refine zR ?_ | refine zQ ?_
    exact ⟨_, rfl⟩
end Go.Proofs.Ythgackidonocpaa
namespace Go.Proofs.Ythgackidonocpaa
open Go.RowKit
structure Wy where
  frm : Int
  to : Int
  lets : List Lt
def Wy.ts (w : Wy) : List T := [.lit (.int .i64 w.frm), .lit (.int .i64 w.to), letRow w.lets]
theorem Wy.ts_len (w : Wy) : w.ts.length = 3 := rfl
def parRow (l : List Par) : T := .row l.length 8 (l.flatMap Par.ts)
def wayRow (l : List Wy) : T := .row l.length 3 (l.flatMap Wy.ts)
structure Snp where
  time : Int
  pars : List Par
  ways : List Wy
def Snp.ts (s : Snp) : List T := [.lit (.int .i64 s.time), parRow s.pars, wayRow s.ways]
def Snp.t (s : Snp) : T := .agg s.ts
/-- each with the one ahead of it -/
def prevs {α : Type} (l : List α) : List (α × Option α) := l.zip (none :: l.map some)
theorem prevs_len {α : Type} (l : List α) : (prevs l).length = l.length := by simp [prevs]
theorem prevs_at0 {α : Type} {l : List α} {a : α} (h : l[0]? = some a) : (prevs l)[0]? = some (a, none) := by
  cases l with
  | nil => simp at h
  | cons b l => obtain rfl : b = a := by simpa using h
                rfl
theorem prevs_at {α : Type} {l : List α} {k : Nat} {a b : α} (h : l[k + 1]? = some a) (hb : l[k]? = some b) : (prevs l)[k + 1]? = some (a, some b) := by
  simp [prevs, List.getElem?_zip_eq_some, h, hb]
def isN (n : Int) : Bool := decide (1 ≤ n) && decide (n ≤ 8)
def orI (a b : Int) : Int := if a = 0 then b else a
def parE : Par × Option Par → Int
  | (p, none) => p.check
  | (p, some q) => if ¬ p.check = 0 then p.check else if p.ref ≤ q.ref then 21 else 0
def Wy.badN (w : Wy) : Bool := (!isN w.frm || !isN w.to) || decide (w.frm = w.to)
def ordM (fr to : Int) : Option Wy → Bool
  | none => false
  | some q => decide (orI (fr - q.frm) (to - q.to) ≤ 0)
def Wy.ordB (w : Wy) (o : Option Wy) : Bool := ordM w.frm w.to o
def wayE (x : Wy × Option Wy) : Int := if x.1.badN = true then 1 else if decide ((100 : Int) < (x.1.lets.length : Int)) = true then 2 else if x.1.ordB x.2 = true then 21 else errs (x.1.lets.map Lt.check)
def Snp.check (s : Snp) : Int :=
  if (decide ((100 : Int) < (s.pars.length : Int)) || decide ((60 : Int) < (s.ways.length : Int))) = true then 2
  else if decide (s.time < 0) = true then 1
  else if ¬ errs ((prevs s.pars).map parE) = 0 then errs ((prevs s.pars).map parE)
  else errs ((prevs s.ways).map wayE)
/-- a number in so many bytes, the greatest ahead -/
def numB (n : Int) : Nat → List UInt8
  | 0 => []
  | k + 1 => kb (n / 256 ^ k) :: numB n k
theorem numB_len (n : Int) : ∀ k, (numB n k).length = k
  | 0 => rfl
  | k + 1 => by simp [numB, numB_len n k]
def partB (x : List UInt8) : List UInt8 := numB x.length 4 ++ x
def pkOne (x : List UInt8) : List UInt8 := [kb ((x.length : Int) / 256), kb (x.length : Int)] ++ x
def bigB (x : List UInt8) : Bool := decide ((65535 : Int) < (x.length : Int))
def wayText (w : Wy) : List UInt8 := [kb w.frm, kb w.to] ++ (w.lets.map Lt.bytes).flatMap pkOne
def headB (s : Snp) : List UInt8 := numB s.time 8 ++ [kb (s.pars.length : Int), kb (s.ways.length : Int)]
def parPart (p : Par) : List UInt8 := partB p.bytes
def wayPart (w : Wy) : List UInt8 := partB (wayText w)
def Snp.bytes (s : Snp) : List UInt8 := headB s ++ s.pars.flatMap parPart ++ s.ways.flatMap wayPart
def Wy.big (w : Wy) : Bool := (w.lets.map Lt.bytes).any bigB
def Snp.err (s : Snp) : Int := if s.check = 0 then (if s.ways.any Wy.big = true then 2 else 0) else s.check
def Snp.out (s : Snp) : List UInt8 := if s.check = 0 then (if s.ways.any Wy.big = true then [] else s.bytes) else []
structure Snp.Right (s : Snp) : Prop where
  time : 0 ≤ s.time
  pars : s.pars.length ≤ 100
  ways : s.ways.length ≤ 60
  par : ∀ p ∈ s.pars, p.check = 0
  way : ∀ w ∈ s.ways, w.badN = false ∧ w.lets.length ≤ 100 ∧ ∀ l ∈ w.lets, l.check = 0
theorem mem_prevs {α : Type} {l : List α} {a : α} (h : a ∈ l) : ∃ o, (a, o) ∈ prevs l := by
  obtain ⟨k, hk⟩ := List.getElem?_of_mem h
  cases k with
  | zero => exact ⟨none, List.mem_of_getElem? (prevs_at0 hk)⟩
  | succ k =>
    have hlt : k < l.length := by have := (List.getElem?_eq_some_iff.1 hk).1; omega
    exact ⟨some l[k], List.mem_of_getElem? (prevs_at hk (List.getElem?_eq_getElem hlt))⟩
theorem parE_ok {p : Par} {o : Option Par} (h : parE (p, o) = 0) : p.check = 0 := by
  cases o with
  | none => exact h
  | some q =>
    simp only [parE] at h
    split at h
    · rename_i h1; exact absurd h h1
    · rename_i h1; omega
theorem wayE_ok {w : Wy} {o : Option Wy} (h : wayE (w, o) = 0) : w.badN = false ∧ w.lets.length ≤ 100 ∧ w.ordB o = false ∧ ∀ l ∈ w.lets, l.check = 0 := by
  unfold wayE at h
  dsimp only at h
  split at h
  · omega
  · rename_i h1
    split at h
    · omega
    · rename_i h2
      split at h
      · omega
      · rename_i h3
        simp only [decide_eq_true_eq] at h2
        exact ⟨by simpa using h1, by omega, by simpa using h3, errs_zero Lt.check h⟩
theorem Snp.right {s : Snp} (h : s.check = 0) : s.Right := by
  unfold Snp.check at h
  split at h
  · omega
  · rename_i h1
    split at h
    · omega
    · rename_i h2
      split at h
      · rename_i h3; exact absurd h h3
      · rename_i h3
        simp only [Bool.or_eq_true, decide_eq_true_eq, not_or] at h1 h2
        refine ⟨by omega, by omega, by omega, fun p hp => ?_, fun w hw => ?_⟩
        · obtain ⟨o, ho⟩ := mem_prevs hp
          exact parE_ok (errs_zero parE (by omega) _ ho)
        · obtain ⟨o, ho⟩ := mem_prevs hw
          obtain ⟨a1, a2, a3, a4⟩ := wayE_ok (errs_zero wayE h _ ho)
          exact ⟨a1, a2, a4⟩
structure Snp.Small (s : Snp) : Prop where
  par : ∀ p ∈ s.pars, p.Small ∧ p.sav.state.length ≤ 1048576
  way : ∀ w ∈ s.ways, ∀ l ∈ w.lets, l.tiny
  time : inI s.time
theorem pkOne_len (x : List UInt8) : (pkOne x).length = x.length + 2 := by simp only [pkOne, List.length_append, List.length_cons, List.length_nil]; omega
theorem partB_len (x : List UInt8) : (partB x).length = x.length + 4 := by simp only [partB, List.length_append, numB_len]; omega
theorem flat_map {α β : Type} (f : α → β) (g : β → List UInt8) : ∀ l : List α, (l.map f).flatMap g = l.flatMap fun x => g (f x)
  | [] => rfl
  | a :: l => by simp only [List.map_cons, List.flatMap_cons, flat_map f g l]
theorem wayText_le {w : Wy} (h : w.lets.length ≤ 100) (hs : ∀ l ∈ w.lets, l.tiny) : (wayText w).length ≤ 4000000202 := by
  have h1 := flat_le (fun x : Lt => pkOne x.bytes) 40000002 (l := w.lets) fun x hx => by rw [pkOne_len]; have := (hs x hx).2.2.1; omega
  have h2 : w.lets.length * 40000002 ≤ 100 * 40000002 := Nat.mul_le_mul_right _ h
  simp only [wayText, flat_map, List.length_append, List.length_cons, List.length_nil]
  omega
theorem Snp.bytes_le {s : Snp} (hs : s.Small) (h : s.Right) : s.bytes.length ≤ 8000000000000 := by
  have h1 := flat_le parPart 71000000004 (l := s.pars) fun p hp => by
    have := Par.bytes_le (hs.par p hp).1 (Par.right (h.par p hp))
    unfold parPart; rw [partB_len]; omega
  have h2 := flat_le wayPart 4000000206 (l := s.ways) fun w hw => by
    have := wayText_le (h.way w hw).2.1 (hs.way w hw)
    unfold wayPart; rw [partB_len]; omega
  have h3 : s.pars.length * 71000000004 ≤ 100 * 71000000004 := Nat.mul_le_mul_right _ h.pars
  have h4 : s.ways.length * 4000000206 ≤ 60 * 4000000206 := Nat.mul_le_mul_right _ h.ways
  simp only [Snp.bytes, headB, List.length_append, numB_len, List.length_cons, List.length_nil]
  omega
/-- the document's order of ways -/
theorem ord_eq {w q : Wy} (h : w.badN = false) (hq : q.badN = false) : decide (orI (w.frm - q.frm) (w.to - q.to) ≤ 0) = decide (10 * w.frm + w.to ≤ 10 * q.frm + q.to) := by
  simp only [Wy.badN, isN, Bool.or_eq_false_iff, Bool.not_eq_false', Bool.and_eq_true, decide_eq_true_eq] at h hq
  unfold orI
  split
  · by_cases h1 : w.to - q.to ≤ 0
    · rw [decide_eq_true h1, decide_eq_true (by omega)]
    · rw [decide_eq_false h1, decide_eq_false (by omega)]
  · by_cases h1 : w.frm - q.frm ≤ 0
    · rw [decide_eq_true h1, decide_eq_true (by omega)]
    · rw [decide_eq_false h1, decide_eq_false (by omega)]
end Go.Proofs.Ythgackidonocpaa
namespace Go.Proofs.Ythgackidonocpaa
open Go.RowKit
section
variable {P : Program} {F : Frm} {ops : Array Oper} {K : AS → Prop} {τ : Nat → AV} {hp : List Blk} {N : Nat} {rest : List Oper}
theorem al_wk {σ τ : AS} (h : Wk F σ τ) (hc : AL P F ops K rest τ) : AL P F ops K rest σ := ⟨fun M a w hr => let ⟨M', hr'⟩ := h M a w hr; hc.out M' a w hr'⟩
theorem al_fze (s : Nat) (t : T) {i : Nat} {v : Value} {e : TypeId} {sz n : Nat} {ts : List T} {hp' : List Blk} (ht : T.row n sz ts = t) (h : AL P F ops K rest ⟨upd N s (.c t) τ, hp', N⟩) (hs : τ s = .own i v := by exact rfl) (hi : hp[i]? = some (.row v e sz n ts) := by exact rfl) (hf : evl (hp.set i .dead) = some hp' := by exact rfl) (hN : Nat.blt s N = true := by exact rfl) : AL P F ops K rest ⟨τ, hp, N⟩ := by
  subst ht
  exact al_wk (wk_fz s hs hi hf hN) h
end
end Go.Proofs.Ythgackidonocpaa
