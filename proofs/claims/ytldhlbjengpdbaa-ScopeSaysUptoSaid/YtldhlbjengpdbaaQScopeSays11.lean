/-
  Texts of this proof, part 11: Wsl.
-/
import Derived.Test.YtldhlbjengpdbaaQScopeSays10
import Derived.Laws.IdiomRangeMap
import Derived.Lib.AppendStr
import Derived.Lib.MinMax
namespace Go.Proofs.Ytldhlbjengpdbaa
open Go.RowKit
def wrS (e : Int × Int) : T := .agg [.lit (.int .i64 e.1), .lit (.int .i64 e.2)]
@[reducible] def wA (b b9 : Nat) (kq nq : Int) (tq : ByteArray) (lq : List V) (ka na : Int) (ta : ByteArray) (nsa : List ByteArray) (ysa : List Y) (la : List Ex) (rsa : List Ar) (qa : Int) : List Blk := [.box b 36 [.c (.lit (.int .i64 0)), .c (.lit (.int .i64 0))], .box b9 85 [.c (.lit (.int .i64 kq)), .c (.lit (.int .i64 nq)), .c (.lit (.string tq)), .c (V.row lq), .c (.lit (.int .i64 ka)), .c (.lit (.int .i64 na)), .c (.lit (.string ta)), .c (strRow nsa), .c (Y.row ysa), .c (Ex.row la), .c (Ar.row rsa), .c (.lit (.int .i64 qa))]]
@[reducible] def wB (b : Nat) : List Blk := [.box b 36 [.c (.lit (.int .i64 0)), .c (.lit (.int .i64 0))]]
set_option maxRecDepth 100000 in
set_option maxHeartbeats 16000000 in
theorem scopeX_af (p : Pr) (hp : p.mass ≤ 1048576) (e : Ex) : ∀ B : List ByteArray, B.length + e.mass ≤ 1048576 → AF Try.prog 27 [p.t, strRow B, e.t] (· = wrS (errT (e.sc p.env B))) := by
  have c1 := refMakers_af p (Nat.le_trans p.makers_le hp)
  have c2 := refCalls_af p (Nat.le_trans p.calls_le hp)
  have c3 := refActs_af p (Nat.le_trans p.acts_le hp)
  have hE : p.env = ⟨p.makers, p.calls, p.acts⟩ := rfl
  rw [hE]
  clear hE hp
  generalize p.makers = LM at *
  generalize p.calls = LC at *
  generalize p.acts = LA at *
  obtain ⟨nm, vr, us, ds, trs, ims, fus, acs⟩ := p
  obtain ⟨E, hE⟩ : ∃ E : Env, E = ⟨LM, LC, LA⟩ := ⟨_, rfl⟩
  have hM : E.mkr = LM := by rw [hE]
  rw [← hE]
  induction e using Ex.ind with
  | h k n t ns ys l rs q ih ihr =>
    intro B hB
    rw [Ex.mass, Ex.masses_sum, Ar.masses_sum] at hB
    have hsl := strSize_len ns
    have hfk := far_pos k
    have hBl : B.length + (ns.length + 1 + (l.map Ex.mass).sum) + (rs.map Ar.mass).sum ≤ 1048576 := by omega
    have hnl : ns.length ≤ 1048576 := by omega
    have hrs : ∀ r ∈ rs, r.pat.nodes ≤ 1048576 := fun r hr => by
      have h1 := sum_mem' Ar.mass hr
      have h2 := r.pat.nodes_mass
      obtain ⟨qa, ba⟩ := r
      simp only [Ar.mass, Ar.pat] at *
      omega
    clear hB hsl hfk
    rw [sc_eq, show wrongE E B k t ns rs = (ownBad E B k t ns || rs.any (badPat E)) from rfl]
    generalize hOB : ownBad E B k t ns = ob
    generalize hR : (ob || rs.any (badPat E)) = r
    generalize hS : Ex.scs E k t ns l 0 B = S
    generalize hS2 : Ar.scs E rs B = S2
    refine af_enter tok Try.func27 Try.ntmps27 Try.results27 rfl (by kernel_rfl) rfl rfl fun F hX => ?_
    refine ac_seq ?_
    refine ac_region ?_
    repeat (first | refine gO ?_ | refine zN1 (fun hlen => ?_) | refine zN2 (fun hlen => ?_) | refine zAl (fun _ => ?_) | refine zBf ?_)
    rename_i b6
    refine ac_seq ?_
    refine ac_region ?_
    repeat (first | refine gO ?_ | refine zN1 (fun hlen => ?_) | refine zN2 (fun hlen => ?_) | refine zAl (fun _ => ?_) | refine zBf ?_)
    refine ac_seq ?_
    refine x_join [7, 19, 20, 21, 22, 23, 24, 25, 26, 27, 28, 29, 30, 31, 32, 33, 34, 35, 36, 37, 38, 39, 40, 41, 42, 43, 44, 45, 46, 47, 48, 49, 50, 51, 52, 53, 54, 55, 56] (fun _ : Unit => [(7, .c (.lit (.bool ob)))]) (fun _ => wB b6) (fun _ => ?_) ?_
    rotate_left
    · clear hR hS hS2 ih ihr hrs
      have hcB := contains_af B t
      have hcC := contains_af LC t
      have hcM := contains_af LM t
      have hcA := contains_af LA t
      have htw := refDbl_af ns hnl
      unfold ownBad at hOB
      rw [hE] at hOB
      dsimp only at hOB
      by_cases e5 : k = 5
      · subst e5
        rw [if_pos rfl] at hOB
        subst hOB
        repeat (first | refine gG ?_ | refine zN1 (fun hlen => ?_) | refine zN2 (fun hlen => ?_) | refine zAl (fun _ => ?_) | refine zBf ?_)
        refine zCall (hcB) ?_
        rintro _ rfl
        repeat (first | refine gG ?_ | refine zN1 (fun hlen => ?_) | refine zN2 (fun hlen => ?_) | refine zAl (fun _ => ?_) | refine zBx (fun _ => ?_))
        exact ⟨(), x_wkd 1 ⟨rfl, trivial⟩ rfl (by repeat (first | exact ag_refl | refine ag_upd rfl ?_ | refine ag_at rfl rfl ?_))⟩
      have d5 : decide (k = 5) = false := decide_eq_false e5
      rw [if_neg e5] at hOB
      by_cases e9 : k = 9
      · subst e9
        rw [if_pos rfl] at hOB
        subst hOB
        repeat (first | refine gG ?_ | refine zN1 (fun hlen => ?_) | refine zN2 (fun hlen => ?_) | refine zAl (fun _ => ?_) | refine zBf ?_)
        refine ac_draw [0, 1, 0, 0, 1, 1, 1] [0, 1, 2, 3, 4, 5, 6] (by kernel_rfl) (by kernel_rfl) ?_
        refine gW ?_
        apply w_q; (focus exact rfl); (focus exact rfl); focus (intro _; (refine zCall c2 ?_; rintro _ rfl); exact det_refl)
        refine gW ?_
        apply w_q; (focus exact rfl); (focus exact rfl); focus (intro _; (refine zCall hcC ?_; rintro _ rfl); exact det_refl)
        refine gW ?_
        refine w_nil ?_
        repeat (first | refine gG ?_ | refine zN1 (fun hlen => ?_) | refine zN2 (fun hlen => ?_) | refine zAl (fun _ => ?_) | refine zBx (fun _ => ?_))
        exact ⟨(), x_wkd 1 ⟨rfl, trivial⟩ rfl (by repeat (first | exact ag_refl | refine ag_upd rfl ?_ | refine ag_at rfl rfl ?_))⟩
      have d9 : decide (k = 9) = false := decide_eq_false e9
      rw [if_neg e9] at hOB
      by_cases e12 : k = 12
      · subst e12
        rw [if_pos rfl] at hOB
        subst hOB
        repeat (first | refine gG ?_ | refine zN1 (fun hlen => ?_) | refine zN2 (fun hlen => ?_) | refine zAl (fun _ => ?_) | refine zBf ?_)
        refine ac_draw [0, 1, 0, 0, 1, 1, 1] [0, 1, 2, 3, 4, 5, 6] (by kernel_rfl) (by kernel_rfl) ?_
        refine gW ?_
        apply w_q; (focus exact rfl); (focus exact rfl); focus (intro _; (refine zCall c1 ?_; rintro _ rfl); exact det_refl)
        refine gW ?_
        apply w_q; (focus exact rfl); (focus exact rfl); focus (intro _; (refine zCall hcM ?_; rintro _ rfl); exact det_refl)
        refine gW ?_
        refine w_nil ?_
        repeat (first | refine gG ?_ | refine zN1 (fun hlen => ?_) | refine zN2 (fun hlen => ?_) | refine zAl (fun _ => ?_) | refine zBx (fun _ => ?_))
        exact ⟨(), x_wkd 1 ⟨rfl, trivial⟩ rfl (by repeat (first | exact ag_refl | refine ag_upd rfl ?_ | refine ag_at rfl rfl ?_))⟩
      have d12 : decide (k = 12) = false := decide_eq_false e12
      rw [if_neg e12] at hOB
      by_cases e14 : k = 14
      · subst e14
        rw [if_pos rfl] at hOB
        subst hOB
        repeat (first | refine gG ?_ | refine zN1 (fun hlen => ?_) | refine zN2 (fun hlen => ?_) | refine zAl (fun _ => ?_) | refine zBf ?_)
        refine ac_draw [0, 1, 0, 0, 1, 1, 1] [0, 1, 2, 3, 4, 5, 6] (by kernel_rfl) (by kernel_rfl) ?_
        refine gW ?_
        apply w_q; (focus exact rfl); (focus exact rfl); focus (intro _; (refine zCall c3 ?_; rintro _ rfl); exact det_refl)
        refine gW ?_
        apply w_q; (focus exact rfl); (focus exact rfl); focus (intro _; (refine zCall hcA ?_; rintro _ rfl); exact det_refl)
        refine gW ?_
        refine w_nil ?_
        repeat (first | refine gG ?_ | refine zN1 (fun hlen => ?_) | refine zN2 (fun hlen => ?_) | refine zAl (fun _ => ?_) | refine zBx (fun _ => ?_))
        exact ⟨(), x_wkd 1 ⟨rfl, trivial⟩ rfl (by repeat (first | exact ag_refl | refine ag_upd rfl ?_ | refine ag_at rfl rfl ?_))⟩
      have d14 : decide (k = 14) = false := decide_eq_false e14
      rw [if_neg e14] at hOB
      by_cases e10 : k = 10
      · subst e10
        rw [if_pos rfl] at hOB
        subst hOB
        repeat (first | refine gG ?_ | refine zN1 (fun hlen => ?_) | refine zN2 (fun hlen => ?_) | refine zAl (fun _ => ?_) | refine zBf ?_)
        refine zCall (htw) ?_
        rintro _ rfl
        repeat (first | refine gG ?_ | refine zN1 (fun hlen => ?_) | refine zN2 (fun hlen => ?_) | refine zAl (fun _ => ?_) | refine zBx (fun _ => ?_))
        exact ⟨(), x_wkd 1 ⟨rfl, trivial⟩ rfl (by repeat (first | exact ag_refl | refine ag_upd rfl ?_ | refine ag_at rfl rfl ?_))⟩
      have d10 : decide (k = 10) = false := decide_eq_false e10
      rw [if_neg e10] at hOB
      subst hOB
      repeat (first | refine gG ?_ | refine zN1 (fun hlen => ?_) | refine zN2 (fun hlen => ?_) | refine zAl (fun _ => ?_) | refine zBf ?_)
      exact ⟨(), x_wkd 1 ⟨rfl, trivial⟩ rfl (by repeat (first | exact ag_refl | refine ag_upd rfl ?_ | refine ag_at rfl rfl ?_))⟩
    clear hOB
    repeat (first | refine gG ?_ | refine zN1 (fun hlen => ?_) | refine zN2 (fun hlen => ?_) | refine zAl (fun _ => ?_) | refine zBx (fun _ => ?_))
    refine x_loop [7, 9, 11, 60, 61, 62, 63, 64, 65, 66, 67, 68, 69, 70, 71, 72, 73, 74, 75, 76, 77, 78, 79, 80, 81, 82, 83, 84, 85, 86, 87, 88, 89, 90, 91, 92, 93, 94] (fun y : Nat × Bool => [(60, .c (.lit (.int .i64 (y.1 : Nat)))), (7, .c (.lit (.bool y.2)))]) (fun _ => wB b6) (fun y => y.1 ≤ rs.length ∧ (y.2 || (rs.drop y.1).any (badPat E)) = r) (fun y => rs.length - y.1) (0, ob) ⟨Nat.zero_le _, hR⟩ ⟨rfl, rfl, trivial⟩ rfl ?_
    clear hR
    rintro ⟨i, w⟩ ⟨hi, he⟩
    dsimp only at hi he ⊢
    repeat (first | refine gG ?_ | refine zN1 (fun hlen => ?_) | refine zN2 (fun hlen => ?_) | refine zAl (fun _ => ?_) | refine zBx (fun _ => ?_))
    refine x_cond rfl (fun h => ?_) (fun h => ?_)
    · have hi' : i < rs.length := by simpa using h
      obtain ⟨a, ha⟩ := nth hi'
      have hnd := hrs a (List.mem_of_getElem? ha)
      have hnm := namesOf_af a.pat hnd
      have hdb := refDbl_af a.pat.binds (by have := a.pat.binds_len; omega)
      have hpt := pats2_af LM a.pat hnd
      have hat := Ar.at ha
      rw [any_drop ha, show badPat E a = (twB a.pat.binds || a.pat.frg E.mkr) from rfl, hM] at he
      clear h ha ih ihr hS hS2 hBl hnl hrs hnd
      obtain ⟨⟨kq, nq, tq, lq⟩, ⟨ka, na, ta, nsa, ysa, la, rsa, qa⟩⟩ := a
      dsimp only [Ar.pat, Ar.body] at hnm hdb hpt he
      generalize V.binds (.mk kq nq tq lq) = bq at *
      generalize V.frg LM (.mk kq nq tq lq) = fq at *
      generalize twB bq = tb at *
      generalize hw1 : (w || tb) = w1
      have he2 : ((w1 || fq) || (rs.drop (i + 1)).any (badPat E)) = r := by rw [← he, ← hw1, Bool.or_assoc, Bool.or_assoc, Bool.or_assoc]
      clear he
      repeat (first | refine gG ?_ | refine zN1 (fun hlen => ?_) | refine zN2 (fun hlen => ?_) | refine zAl (fun _ => ?_) | refine zBx (fun _ => ?_))
      refine zIx (i) (hi') ?_
      repeat (first | refine gG ?_ | refine zN1 (fun hlen => ?_) | refine zN2 (fun hlen => ?_) | refine zAl (fun _ => ?_) | refine zBx (fun _ => ?_))
      refine zEl (hat) (Ar.ts_len _) ?_
      repeat (first | refine gO ?_ | refine zN1 (fun hlen => ?_) | refine zN2 (fun hlen => ?_) | refine zAl (fun _ => ?_) | refine zBf ?_)
      rename_i b9
      refine ac_seq ?_
      refine x_join [7, 64, 65, 66, 67, 68, 69, 70] (fun _ : Unit => [(7, .c (.lit (.bool w1)))]) (fun _ => wA b6 b9 kq nq tq lq ka na ta nsa ysa la rsa qa) (fun _ => ?_) ?_
      rotate_left
      · clear he2 hpt
        cases w
        · rw [Bool.false_or] at hw1
          subst hw1
          repeat (first | refine gG ?_ | refine zN1 (fun hlen => ?_) | refine zN2 (fun hlen => ?_) | refine zAl (fun _ => ?_) | refine zBx (fun _ => ?_))
          refine zCall (hnm) ?_
          rintro _ rfl
          repeat (first | refine gG ?_ | refine zN1 (fun hlen => ?_) | refine zN2 (fun hlen => ?_) | refine zAl (fun _ => ?_) | refine zBx (fun _ => ?_))
          refine zCall (hdb) ?_
          rintro _ rfl
          repeat (first | refine gG ?_ | refine zN1 (fun hlen => ?_) | refine zN2 (fun hlen => ?_) | refine zAl (fun _ => ?_) | refine zBx (fun _ => ?_))
          exact ⟨(), x_wkd 2 ⟨rfl, trivial⟩ rfl (by repeat (first | exact ag_refl | refine ag_upd rfl ?_ | refine ag_at rfl rfl ?_))⟩
        · rw [Bool.true_or] at hw1
          subst hw1
          repeat (first | refine gG ?_ | refine zN1 (fun hlen => ?_) | refine zN2 (fun hlen => ?_) | refine zAl (fun _ => ?_) | refine zBx (fun _ => ?_))
          exact ⟨(), x_wkd 2 ⟨rfl, trivial⟩ rfl (by repeat (first | exact ag_refl | refine ag_upd rfl ?_ | refine ag_at rfl rfl ?_))⟩
      clear hw1 hnm hdb
      generalize hR2 : (w1 || fq) = r2 at he2
      repeat (first | refine gG ?_ | refine zN1 (fun hlen => ?_) | refine zN2 (fun hlen => ?_) | refine zAl (fun _ => ?_) | refine zBx (fun _ => ?_))
      refine zCall hpt ?_
      rintro _ ⟨O, hO, hF, rfl⟩
      rw [← hF] at hR2
      clear hF hpt
      repeat (first | refine gG ?_ | refine zN1 (fun hlen => ?_) | refine zN2 (fun hlen => ?_) | refine zAl (fun _ => ?_) | refine zBx (fun _ => ?_))
      refine x_loop [7, 11, 75, 76, 77, 78, 79, 80, 81, 82, 83, 84, 85, 86, 87, 88, 89, 90, 91, 92, 93] (fun y : Nat × Bool => [(75, .c (.lit (.int .i64 (y.1 : Nat)))), (7, .c (.lit (.bool y.2)))]) (fun _ => wA b6 b9 kq nq tq lq ka na ta nsa ysa la rsa qa) (fun y => y.1 ≤ O.length ∧ (y.2 || (O.drop y.1).any (frg1 LM)) = r2) (fun y => O.length - y.1) (0, w1) ⟨Nat.zero_le _, hR2⟩ ⟨rfl, rfl, trivial⟩ rfl ?_
      clear hR2
      rintro ⟨j, w2⟩ ⟨hj, hf⟩
      dsimp only at hj hf ⊢
      repeat (first | refine gG ?_ | refine zN1 (fun hlen => ?_) | refine zN2 (fun hlen => ?_) | refine zAl (fun _ => ?_) | refine zBx (fun _ => ?_))
      refine x_cond rfl (fun h => ?_) (fun h => ?_)
      · have hj' : j < O.length := by simpa using h
        obtain ⟨v, hv⟩ := nth hj'
        have hatv := V.at hv
        rw [any_drop hv] at hf
        clear h hv
        obtain ⟨kv, nv, tv, lv⟩ := v
        have hct := contains_af LM tv
        rw [show frg1 LM (.mk kv nv tv lv) = (decide (kv = 6) && !hasS LM tv) from rfl] at hf
        cases w2
        · rw [Bool.false_or] at hf
          cases d6 : decide (kv = 6)
          · rw [d6, Bool.false_and] at hf
            repeat (first | refine gG ?_ | refine zN1 (fun hlen => ?_) | refine zN2 (fun hlen => ?_) | refine zAl (fun _ => ?_) | refine zBx (fun _ => ?_))
            refine zIx (j) (hj') ?_
            repeat (first | refine gG ?_ | refine zN1 (fun hlen => ?_) | refine zN2 (fun hlen => ?_) | refine zAl (fun _ => ?_) | refine zBx (fun _ => ?_))
            refine zEl (hatv) (V.ts_len _) ?_
            repeat (first | refine gG ?_ | refine zN1 (fun hlen => ?_) | refine zN2 (fun hlen => ?_) | refine zAl (fun _ => ?_) | refine zBx (fun _ => ?_))
            refine ac_draw [1, 1, 1, 1, 1, 1, 1, 1, 1, 1, 1, 1, 1, 1, 1] [0, 1, 2, 3, 4, 5, 6, 7, 8, 9, 10, 11, 12, 13, 14] (by kernel_rfl) (by kernel_rfl) ?_
            refine gW ?_
            try (first | (apply w_un; (focus exact rfl); (focus exact rfl); (focus exact rfl); (focus exact rfl)) | (apply w_no; (focus exact rfl); (focus exact rfl); (focus exact rfl); (focus exact rfl); focus (first | rfl | assumption | exact neg_t (by assumption) | exact neg_f (by assumption))) | (apply w_qg; (focus exact rfl); (focus exact rfl); (focus exact rfl); (focus exact rfl); (focus (first | rfl | assumption | exact neg_t (by assumption) | exact neg_f (by assumption))); (focus (intro _; (refine zCall c1 ?_; rintro _ rfl); exact det_refl))))
            try refine gW ?_
            try (first | (apply w_un; (focus exact rfl); (focus exact rfl); (focus exact rfl); (focus exact rfl)) | (apply w_no; (focus exact rfl); (focus exact rfl); (focus exact rfl); (focus exact rfl); focus (first | rfl | assumption | exact neg_t (by assumption) | exact neg_f (by assumption))) | (apply w_qg; (focus exact rfl); (focus exact rfl); (focus exact rfl); (focus exact rfl); (focus (first | rfl | assumption | exact neg_t (by assumption) | exact neg_f (by assumption))); (focus (intro _; (refine zCall hct ?_; rintro _ rfl); exact det_refl))))
            try refine gW ?_
            refine w_nil ?_
            repeat (first | refine gG ?_ | refine zN1 (fun hlen => ?_) | refine zN2 (fun hlen => ?_) | refine zAl (fun _ => ?_) | refine zBx (fun _ => ?_))
            exact ⟨(j + 1, false), ⟨hj', hf⟩, by simp only; omega, x_wkd 2 ⟨rfl, rfl, trivial⟩ rfl (by repeat (first | exact ag_refl | refine ag_upd rfl ?_ | refine ag_at rfl rfl ?_))⟩
          · rw [d6, Bool.true_and] at hf
            repeat (first | refine gG ?_ | refine zN1 (fun hlen => ?_) | refine zN2 (fun hlen => ?_) | refine zAl (fun _ => ?_) | refine zBx (fun _ => ?_))
            refine zIx (j) (hj') ?_
            repeat (first | refine gG ?_ | refine zN1 (fun hlen => ?_) | refine zN2 (fun hlen => ?_) | refine zAl (fun _ => ?_) | refine zBx (fun _ => ?_))
            refine zEl (hatv) (V.ts_len _) ?_
            repeat (first | refine gG ?_ | refine zN1 (fun hlen => ?_) | refine zN2 (fun hlen => ?_) | refine zAl (fun _ => ?_) | refine zBx (fun _ => ?_))
            refine ac_draw [1, 1, 1, 1, 1, 1, 1, 1, 1, 1, 1, 1, 1, 1, 1] [0, 1, 2, 3, 4, 5, 6, 7, 8, 9, 10, 11, 12, 13, 14] (by kernel_rfl) (by kernel_rfl) ?_
            refine gW ?_
            try (first | (apply w_un; (focus exact rfl); (focus exact rfl); (focus exact rfl); (focus exact rfl)) | (apply w_no; (focus exact rfl); (focus exact rfl); (focus exact rfl); (focus exact rfl); focus (first | rfl | assumption | exact neg_t (by assumption) | exact neg_f (by assumption))) | (apply w_qg; (focus exact rfl); (focus exact rfl); (focus exact rfl); (focus exact rfl); (focus (first | rfl | assumption | exact neg_t (by assumption) | exact neg_f (by assumption))); (focus (intro _; (refine zCall c1 ?_; rintro _ rfl); exact det_refl))))
            try refine gW ?_
            try (first | (apply w_un; (focus exact rfl); (focus exact rfl); (focus exact rfl); (focus exact rfl)) | (apply w_no; (focus exact rfl); (focus exact rfl); (focus exact rfl); (focus exact rfl); focus (first | rfl | assumption | exact neg_t (by assumption) | exact neg_f (by assumption))) | (apply w_qg; (focus exact rfl); (focus exact rfl); (focus exact rfl); (focus exact rfl); (focus (first | rfl | assumption | exact neg_t (by assumption) | exact neg_f (by assumption))); (focus (intro _; (refine zCall hct ?_; rintro _ rfl); exact det_refl))))
            try refine gW ?_
            refine w_nil ?_
            repeat (first | refine gG ?_ | refine zN1 (fun hlen => ?_) | refine zN2 (fun hlen => ?_) | refine zAl (fun _ => ?_) | refine zBx (fun _ => ?_))
            exact ⟨(j + 1, !hasS LM tv), ⟨hj', hf⟩, by simp only; omega, x_wkd 2 ⟨rfl, rfl, trivial⟩ rfl (by repeat (first | exact ag_refl | refine ag_upd rfl ?_ | refine ag_at rfl rfl ?_))⟩
        · rw [Bool.true_or] at hf
          repeat (first | refine gG ?_ | refine zN1 (fun hlen => ?_) | refine zN2 (fun hlen => ?_) | refine zAl (fun _ => ?_) | refine zBx (fun _ => ?_))
          refine zIx (j) (hj') ?_
          repeat (first | refine gG ?_ | refine zN1 (fun hlen => ?_) | refine zN2 (fun hlen => ?_) | refine zAl (fun _ => ?_) | refine zBx (fun _ => ?_))
          refine zEl (hatv) (V.ts_len _) ?_
          repeat (first | refine gG ?_ | refine zN1 (fun hlen => ?_) | refine zN2 (fun hlen => ?_) | refine zAl (fun _ => ?_) | refine zBx (fun _ => ?_))
          refine ac_draw [1, 1, 1, 1, 1, 1, 1, 1, 1, 1, 1, 1, 1, 1, 1] [0, 1, 2, 3, 4, 5, 6, 7, 8, 9, 10, 11, 12, 13, 14] (by kernel_rfl) (by kernel_rfl) ?_
          refine gW ?_
          try (first | (apply w_un; (focus exact rfl); (focus exact rfl); (focus exact rfl); (focus exact rfl)) | (apply w_no; (focus exact rfl); (focus exact rfl); (focus exact rfl); (focus exact rfl); focus (first | rfl | assumption | exact neg_t (by assumption) | exact neg_f (by assumption))) | (apply w_qg; (focus exact rfl); (focus exact rfl); (focus exact rfl); (focus exact rfl); (focus (first | rfl | assumption | exact neg_t (by assumption) | exact neg_f (by assumption))); (focus (intro _; (refine zCall c1 ?_; rintro _ rfl); exact det_refl))))
          try refine gW ?_
          try (first | (apply w_un; (focus exact rfl); (focus exact rfl); (focus exact rfl); (focus exact rfl)) | (apply w_no; (focus exact rfl); (focus exact rfl); (focus exact rfl); (focus exact rfl); focus (first | rfl | assumption | exact neg_t (by assumption) | exact neg_f (by assumption))) | (apply w_qg; (focus exact rfl); (focus exact rfl); (focus exact rfl); (focus exact rfl); (focus (first | rfl | assumption | exact neg_t (by assumption) | exact neg_f (by assumption))); (focus (intro _; (refine zCall hct ?_; rintro _ rfl); exact det_refl))))
          try refine gW ?_
          refine w_nil ?_
          repeat (first | refine gG ?_ | refine zN1 (fun hlen => ?_) | refine zN2 (fun hlen => ?_) | refine zAl (fun _ => ?_) | refine zBx (fun _ => ?_))
          exact ⟨(j + 1, true), ⟨hj', by rw [Bool.true_or]; exact hf⟩, by simp only; omega, x_wkd 2 ⟨rfl, rfl, trivial⟩ rfl (by repeat (first | exact ag_refl | refine ag_upd rfl ?_ | refine ag_at rfl rfl ?_))⟩
      · have hj' : j = O.length := by have : ¬ j < O.length := by simpa using h
                                      omega
        subst hj'
        rw [List.drop_length, List.any_nil, Bool.or_false] at hf
        subst hf
        clear h
        repeat (first | refine gG ?_ | refine zN1 (fun hlen => ?_) | refine zN2 (fun hlen => ?_) | refine zAl (fun _ => ?_) | refine zBx (fun _ => ?_))
        exact ⟨(i + 1, w2), ⟨hi', he2⟩, by simp only; omega, x_wkd 1 ⟨rfl, rfl, trivial⟩ rfl (by repeat (first | exact ag_refl | refine ag_upd rfl ?_ | refine ag_at rfl rfl ?_))⟩
    have hi' : i = rs.length := by have : ¬ i < rs.length := by simpa using h
                                   omega
    subst hi'
    rw [List.drop_length, List.any_nil, Bool.or_false] at he
    subst he
    clear h hi
    cases w
    rotate_left
    · clear hS hS2 ih ihr hBl
      repeat (first | refine gG ?_ | refine zN1 (fun hlen => ?_) | refine zN2 (fun hlen => ?_) | refine zAl (fun _ => ?_) | refine zBx (fun _ => ?_))
      first | refine zR ?_ | refine zQ ?_
      rfl
    rw [cond_false]
    repeat (first | refine gG ?_ | refine zN1 (fun hlen => ?_) | refine zN2 (fun hlen => ?_) | refine zAl (fun _ => ?_) | refine zBx (fun _ => ?_))
    refine x_loop [12, 13, 14, 15, 102, 103, 104, 105, 106, 107, 108, 109, 110, 111, 112, 113, 114, 115, 116, 117, 118, 119, 120, 121, 122, 123, 124, 125, 126, 127, 128, 129, 130, 131, 132, 133, 134, 135, 136] (fun y : Nat => [(102, .c (.lit (.int .i64 (y : Nat))))]) (fun _ => wB b6) (fun y => y ≤ l.length ∧ Ex.scs E k t ns (l.drop y) y B = S) (fun y => l.length - y) 0 ⟨Nat.zero_le _, hS⟩ ⟨rfl, trivial⟩ rfl ?_
    clear hS
    rintro j ⟨hj, he⟩
    repeat (first | refine gG ?_ | refine zN1 (fun hlen => ?_) | refine zN2 (fun hlen => ?_) | refine zAl (fun _ => ?_) | refine zBx (fun _ => ?_))
    refine x_cond rfl (fun h => ?_) (fun h => ?_)
    · have hj' : j < l.length := by simpa using h
      obtain ⟨a, ha⟩ := nth hj'
      have hma := sum_mem' Ex.mass (List.mem_of_getElem? ha)
      have hin : (inner k t ns j).length ≤ ns.length + 1 := by
        unfold inner
        cases decide (k = 10)
        · cases decide (k = 6) && decide ((j : Int) = 1)
          · simp
          · simp
        · simp
      have hc := ih a (List.mem_of_getElem? ha) (B ++ inner k t ns j) (by rw [List.length_append]; omega)
      have hcat := catS2_af B (inner k t ns j) (by omega)
      have hst := scs_at E (k := k) (t := t) (ns := ns) B (i := 0) ha
      rw [Nat.zero_add] at hst
      rw [hst] at he
      simp only [Nat.zero_add] at he
      have hat := Ex.at ha
      clear h ha ih ihr hma hin hst hS2 hrs
      generalize hoa : a.sc E (B ++ inner k t ns j) = oa at *
      clear hoa
      obtain ⟨ka, na, ta, nsa, ysa, la, rsa, qa⟩ := a
      cases d6 : decide (k = 6)
      · cases d10 : decide (k = 10)
        · have hni : inner k t ns j = [] := by unfold inner; rw [d6, d10]; rfl
          rw [hni] at hc hcat
          clear hni
          generalize B ++ [] = BI at *
          cases oa with
          | none =>
            dsimp only [errT, wrS] at he hc
            repeat (first | refine gG ?_ | refine zN1 (fun hlen => ?_) | refine zN2 (fun hlen => ?_) | refine zAl (fun _ => ?_) | refine zBx (fun _ => ?_))
            refine zIx (j) (hj') ?_
            repeat (first | refine gG ?_ | refine zN1 (fun hlen => ?_) | refine zN2 (fun hlen => ?_) | refine zAl (fun _ => ?_) | refine zBx (fun _ => ?_))
            refine zEl (hat) (Ex.ts_len _) ?_
            repeat (first | refine gG ?_ | refine zN1 (fun hlen => ?_) | refine zN2 (fun hlen => ?_) | refine zAl (fun _ => ?_) | refine zBx (fun _ => ?_))
            refine ac_draw [0, 0, 0, 1, 1, 1, 1, 3, 2] [0, 1, 2, 3, 4, 5, 6, 7, 8] (by kernel_rfl) (by kernel_rfl) ?_
            refine gW ?_
            apply w_q; (focus exact rfl); (focus exact rfl); focus (intro _; (refine zCall hcat ?_; rintro _ rfl); exact det_refl)
            refine gW ?_
            apply w_q; (focus exact rfl); (focus exact rfl); focus (intro _; (refine zCall hc ?_; rintro _ rfl); exact det_refl)
            apply w_a; (focus exact rfl); (focus exact rfl); refine v_alloc tok rfl rfl rfl (fun _ => rfl) (fun _ => ⟨⟨_, rfl⟩, ?_⟩)
            apply w_l; (focus exact rfl); (focus exact rfl); (refine zS ?_)
            refine w_nil ?_
            repeat (first | refine gG ?_ | refine zN1 (fun hlen => ?_) | refine zN2 (fun hlen => ?_) | refine zAl (fun _ => ?_) | refine zBx (fun _ => ?_))
            exact ⟨j + 1, ⟨hj', he⟩, by omega, x_wkd 1 ⟨rfl, trivial⟩ rfl (by repeat (first | exact ag_refl | refine ag_upd rfl ?_ | refine ag_at rfl rfl ?_))⟩
          | some x =>
            dsimp only [errT, wrS] at he hc
            subst he
            repeat (first | refine gG ?_ | refine zN1 (fun hlen => ?_) | refine zN2 (fun hlen => ?_) | refine zAl (fun _ => ?_) | refine zBx (fun _ => ?_))
            refine zIx (j) (hj') ?_
            repeat (first | refine gG ?_ | refine zN1 (fun hlen => ?_) | refine zN2 (fun hlen => ?_) | refine zAl (fun _ => ?_) | refine zBx (fun _ => ?_))
            refine zEl (hat) (Ex.ts_len _) ?_
            repeat (first | refine gG ?_ | refine zN1 (fun hlen => ?_) | refine zN2 (fun hlen => ?_) | refine zAl (fun _ => ?_) | refine zBx (fun _ => ?_))
            refine ac_draw [0, 0, 0, 1, 1, 1, 1, 3, 2] [0, 1, 2, 3, 4, 5, 6, 7, 8] (by kernel_rfl) (by kernel_rfl) ?_
            refine gW ?_
            apply w_q; (focus exact rfl); (focus exact rfl); focus (intro _; (refine zCall hcat ?_; rintro _ rfl); exact det_refl)
            refine gW ?_
            apply w_q; (focus exact rfl); (focus exact rfl); focus (intro _; (refine zCall hc ?_; rintro _ rfl); exact det_refl)
            apply w_a; (focus exact rfl); (focus exact rfl); refine v_alloc tok rfl rfl rfl (fun _ => rfl) (fun _ => ⟨⟨_, rfl⟩, ?_⟩)
            apply w_l; (focus exact rfl); (focus exact rfl); (refine zS ?_)
            refine w_nil ?_
            repeat (first | refine gG ?_ | refine zN1 (fun hlen => ?_) | refine zN2 (fun hlen => ?_) | refine zAl (fun _ => ?_) | refine zBx (fun _ => ?_))
            first | refine zR ?_ | refine zQ ?_
            rfl
        · have hni : inner k t ns j = ns := by unfold inner; rw [d10]; rfl
          rw [hni] at hc hcat
          clear hni
          generalize B ++ ns = BI at *
          cases oa with
          | none =>
            dsimp only [errT, wrS] at he hc
            repeat (first | refine gG ?_ | refine zN1 (fun hlen => ?_) | refine zN2 (fun hlen => ?_) | refine zAl (fun _ => ?_) | refine zBx (fun _ => ?_))
            refine zIx (j) (hj') ?_
            repeat (first | refine gG ?_ | refine zN1 (fun hlen => ?_) | refine zN2 (fun hlen => ?_) | refine zAl (fun _ => ?_) | refine zBx (fun _ => ?_))
            refine zEl (hat) (Ex.ts_len _) ?_
            repeat (first | refine gG ?_ | refine zN1 (fun hlen => ?_) | refine zN2 (fun hlen => ?_) | refine zAl (fun _ => ?_) | refine zBx (fun _ => ?_))
            refine ac_draw [0, 0, 0, 1, 1, 1, 1, 3, 2] [0, 1, 2, 3, 4, 5, 6, 7, 8] (by kernel_rfl) (by kernel_rfl) ?_
            refine gW ?_
            apply w_q; (focus exact rfl); (focus exact rfl); focus (intro _; (refine zCall hcat ?_; rintro _ rfl); exact det_refl)
            refine gW ?_
            apply w_q; (focus exact rfl); (focus exact rfl); focus (intro _; (refine zCall hc ?_; rintro _ rfl); exact det_refl)
            apply w_a; (focus exact rfl); (focus exact rfl); refine v_alloc tok rfl rfl rfl (fun _ => rfl) (fun _ => ⟨⟨_, rfl⟩, ?_⟩)
            apply w_l; (focus exact rfl); (focus exact rfl); (refine zS ?_)
            refine w_nil ?_
            repeat (first | refine gG ?_ | refine zN1 (fun hlen => ?_) | refine zN2 (fun hlen => ?_) | refine zAl (fun _ => ?_) | refine zBx (fun _ => ?_))
            exact ⟨j + 1, ⟨hj', he⟩, by omega, x_wkd 1 ⟨rfl, trivial⟩ rfl (by repeat (first | exact ag_refl | refine ag_upd rfl ?_ | refine ag_at rfl rfl ?_))⟩
          | some x =>
            dsimp only [errT, wrS] at he hc
            subst he
            repeat (first | refine gG ?_ | refine zN1 (fun hlen => ?_) | refine zN2 (fun hlen => ?_) | refine zAl (fun _ => ?_) | refine zBx (fun _ => ?_))
            refine zIx (j) (hj') ?_
            repeat (first | refine gG ?_ | refine zN1 (fun hlen => ?_) | refine zN2 (fun hlen => ?_) | refine zAl (fun _ => ?_) | refine zBx (fun _ => ?_))
            refine zEl (hat) (Ex.ts_len _) ?_
            repeat (first | refine gG ?_ | refine zN1 (fun hlen => ?_) | refine zN2 (fun hlen => ?_) | refine zAl (fun _ => ?_) | refine zBx (fun _ => ?_))
            refine ac_draw [0, 0, 0, 1, 1, 1, 1, 3, 2] [0, 1, 2, 3, 4, 5, 6, 7, 8] (by kernel_rfl) (by kernel_rfl) ?_
            refine gW ?_
            apply w_q; (focus exact rfl); (focus exact rfl); focus (intro _; (refine zCall hcat ?_; rintro _ rfl); exact det_refl)
            refine gW ?_
            apply w_q; (focus exact rfl); (focus exact rfl); focus (intro _; (refine zCall hc ?_; rintro _ rfl); exact det_refl)
            apply w_a; (focus exact rfl); (focus exact rfl); refine v_alloc tok rfl rfl rfl (fun _ => rfl) (fun _ => ⟨⟨_, rfl⟩, ?_⟩)
            apply w_l; (focus exact rfl); (focus exact rfl); (refine zS ?_)
            refine w_nil ?_
            repeat (first | refine gG ?_ | refine zN1 (fun hlen => ?_) | refine zN2 (fun hlen => ?_) | refine zAl (fun _ => ?_) | refine zBx (fun _ => ?_))
            first | refine zR ?_ | refine zQ ?_
            rfl
      · have d10 : decide (k = 10) = false := decide_eq_false (by have := of_decide_eq_true d6; omega)
        cases dj : decide ((j : Int) = 1)
        · have hni : inner k t ns j = [] := by unfold inner; rw [d6, d10, dj]; rfl
          rw [hni] at hc hcat
          clear hni
          generalize B ++ [] = BI at *
          cases oa with
          | none =>
            dsimp only [errT, wrS] at he hc
            repeat (first | refine gG ?_ | refine zN1 (fun hlen => ?_) | refine zN2 (fun hlen => ?_) | refine zAl (fun _ => ?_) | refine zBx (fun _ => ?_))
            refine zIx (j) (hj') ?_
            repeat (first | refine gG ?_ | refine zN1 (fun hlen => ?_) | refine zN2 (fun hlen => ?_) | refine zAl (fun _ => ?_) | refine zBx (fun _ => ?_))
            refine zEl (hat) (Ex.ts_len _) ?_
            repeat (first | refine gG ?_ | refine zN1 (fun hlen => ?_) | refine zN2 (fun hlen => ?_) | refine zAl (fun _ => ?_) | refine zBx (fun _ => ?_))
            refine ac_draw [0, 0, 0, 1, 1, 1, 1, 3, 2] [0, 1, 2, 3, 4, 5, 6, 7, 8] (by kernel_rfl) (by kernel_rfl) ?_
            refine gW ?_
            apply w_q; (focus exact rfl); (focus exact rfl); focus (intro _; (refine zCall hcat ?_; rintro _ rfl); exact det_refl)
            refine gW ?_
            apply w_q; (focus exact rfl); (focus exact rfl); focus (intro _; (refine zCall hc ?_; rintro _ rfl); exact det_refl)
            apply w_a; (focus exact rfl); (focus exact rfl); refine v_alloc tok rfl rfl rfl (fun _ => rfl) (fun _ => ⟨⟨_, rfl⟩, ?_⟩)
            apply w_l; (focus exact rfl); (focus exact rfl); (refine zS ?_)
            refine w_nil ?_
            repeat (first | refine gG ?_ | refine zN1 (fun hlen => ?_) | refine zN2 (fun hlen => ?_) | refine zAl (fun _ => ?_) | refine zBx (fun _ => ?_))
            exact ⟨j + 1, ⟨hj', he⟩, by omega, x_wkd 1 ⟨rfl, trivial⟩ rfl (by repeat (first | exact ag_refl | refine ag_upd rfl ?_ | refine ag_at rfl rfl ?_))⟩
          | some x =>
            dsimp only [errT, wrS] at he hc
            subst he
            repeat (first | refine gG ?_ | refine zN1 (fun hlen => ?_) | refine zN2 (fun hlen => ?_) | refine zAl (fun _ => ?_) | refine zBx (fun _ => ?_))
            refine zIx (j) (hj') ?_
            repeat (first | refine gG ?_ | refine zN1 (fun hlen => ?_) | refine zN2 (fun hlen => ?_) | refine zAl (fun _ => ?_) | refine zBx (fun _ => ?_))
            refine zEl (hat) (Ex.ts_len _) ?_
            repeat (first | refine gG ?_ | refine zN1 (fun hlen => ?_) | refine zN2 (fun hlen => ?_) | refine zAl (fun _ => ?_) | refine zBx (fun _ => ?_))
            refine ac_draw [0, 0, 0, 1, 1, 1, 1, 3, 2] [0, 1, 2, 3, 4, 5, 6, 7, 8] (by kernel_rfl) (by kernel_rfl) ?_
            refine gW ?_
            apply w_q; (focus exact rfl); (focus exact rfl); focus (intro _; (refine zCall hcat ?_; rintro _ rfl); exact det_refl)
            refine gW ?_
            apply w_q; (focus exact rfl); (focus exact rfl); focus (intro _; (refine zCall hc ?_; rintro _ rfl); exact det_refl)
            apply w_a; (focus exact rfl); (focus exact rfl); refine v_alloc tok rfl rfl rfl (fun _ => rfl) (fun _ => ⟨⟨_, rfl⟩, ?_⟩)
            apply w_l; (focus exact rfl); (focus exact rfl); (refine zS ?_)
            refine w_nil ?_
            repeat (first | refine gG ?_ | refine zN1 (fun hlen => ?_) | refine zN2 (fun hlen => ?_) | refine zAl (fun _ => ?_) | refine zBx (fun _ => ?_))
            first | refine zR ?_ | refine zQ ?_
            rfl
        · have hni : inner k t ns j = [t] := by unfold inner; rw [d6, d10, dj]; rfl
          rw [hni] at hc hcat
          clear hni
          generalize B ++ [t] = BI at *
          cases oa with
          | none =>
            dsimp only [errT, wrS] at he hc
            repeat (first | refine gG ?_ | refine zN1 (fun hlen => ?_) | refine zN2 (fun hlen => ?_) | refine zAl (fun _ => ?_) | refine zBx (fun _ => ?_))
            refine zIx (j) (hj') ?_
            repeat (first | refine gG ?_ | refine zN1 (fun hlen => ?_) | refine zN2 (fun hlen => ?_) | refine zAl (fun _ => ?_) | refine zBx (fun _ => ?_))
            refine zEl (hat) (Ex.ts_len _) ?_
            repeat (first | refine gG ?_ | refine zN1 (fun hlen => ?_) | refine zN2 (fun hlen => ?_) | refine zAl (fun _ => ?_) | refine zBx (fun _ => ?_))
            refine ac_draw [0, 0, 0, 1, 1, 1, 1, 3, 2] [0, 1, 2, 3, 4, 5, 6, 7, 8] (by kernel_rfl) (by kernel_rfl) ?_
            refine gW ?_
            apply w_q; (focus exact rfl); (focus exact rfl); focus (intro _; (refine zCall hcat ?_; rintro _ rfl); exact det_refl)
            refine gW ?_
            apply w_q; (focus exact rfl); (focus exact rfl); focus (intro _; (refine zCall hc ?_; rintro _ rfl); exact det_refl)
            apply w_a; (focus exact rfl); (focus exact rfl); refine v_alloc tok rfl rfl rfl (fun _ => rfl) (fun _ => ⟨⟨_, rfl⟩, ?_⟩)
            apply w_l; (focus exact rfl); (focus exact rfl); (refine zS ?_)
            refine w_nil ?_
            repeat (first | refine gG ?_ | refine zN1 (fun hlen => ?_) | refine zN2 (fun hlen => ?_) | refine zAl (fun _ => ?_) | refine zBx (fun _ => ?_))
            exact ⟨j + 1, ⟨hj', he⟩, by omega, x_wkd 1 ⟨rfl, trivial⟩ rfl (by repeat (first | exact ag_refl | refine ag_upd rfl ?_ | refine ag_at rfl rfl ?_))⟩
          | some x =>
            dsimp only [errT, wrS] at he hc
            subst he
            repeat (first | refine gG ?_ | refine zN1 (fun hlen => ?_) | refine zN2 (fun hlen => ?_) | refine zAl (fun _ => ?_) | refine zBx (fun _ => ?_))
            refine zIx (j) (hj') ?_
            repeat (first | refine gG ?_ | refine zN1 (fun hlen => ?_) | refine zN2 (fun hlen => ?_) | refine zAl (fun _ => ?_) | refine zBx (fun _ => ?_))
            refine zEl (hat) (Ex.ts_len _) ?_
            repeat (first | refine gG ?_ | refine zN1 (fun hlen => ?_) | refine zN2 (fun hlen => ?_) | refine zAl (fun _ => ?_) | refine zBx (fun _ => ?_))
            refine ac_draw [0, 0, 0, 1, 1, 1, 1, 3, 2] [0, 1, 2, 3, 4, 5, 6, 7, 8] (by kernel_rfl) (by kernel_rfl) ?_
            refine gW ?_
            apply w_q; (focus exact rfl); (focus exact rfl); focus (intro _; (refine zCall hcat ?_; rintro _ rfl); exact det_refl)
            refine gW ?_
            apply w_q; (focus exact rfl); (focus exact rfl); focus (intro _; (refine zCall hc ?_; rintro _ rfl); exact det_refl)
            apply w_a; (focus exact rfl); (focus exact rfl); refine v_alloc tok rfl rfl rfl (fun _ => rfl) (fun _ => ⟨⟨_, rfl⟩, ?_⟩)
            apply w_l; (focus exact rfl); (focus exact rfl); (refine zS ?_)
            refine w_nil ?_
            repeat (first | refine gG ?_ | refine zN1 (fun hlen => ?_) | refine zN2 (fun hlen => ?_) | refine zAl (fun _ => ?_) | refine zBx (fun _ => ?_))
            first | refine zR ?_ | refine zQ ?_
            rfl
    have hj' : j = l.length := by
      have : ¬ j < l.length := by simpa using h
      omega
    subst hj'
    rw [List.drop_length, Ex.scs] at he
    subst he
    clear h ih hj
    dsimp only
    repeat (first | refine gG ?_ | refine zN1 (fun hlen => ?_) | refine zN2 (fun hlen => ?_) | refine zAl (fun _ => ?_) | refine zBx (fun _ => ?_))
    refine x_loop [17, 18, 140, 141, 142, 143, 144, 145, 146, 147, 148, 149, 150, 151, 152, 153, 154, 155, 156, 157, 158] (fun y : Nat => [(140, .c (.lit (.int .i64 (y : Nat))))]) (fun _ => wB b6) (fun y => y ≤ rs.length ∧ Ar.scs E (rs.drop y) B = S2) (fun y => rs.length - y) 0 ⟨Nat.zero_le _, hS2⟩ ⟨rfl, trivial⟩ rfl ?_
    clear hS2
    rintro i ⟨hi, he⟩
    repeat (first | refine gG ?_ | refine zN1 (fun hlen => ?_) | refine zN2 (fun hlen => ?_) | refine zAl (fun _ => ?_) | refine zBx (fun _ => ?_))
    refine x_cond rfl (fun h => ?_) (fun h => ?_)
    · have hi' : i < rs.length := by simpa using h
      obtain ⟨a, ha⟩ := nth hi'
      have hmm := sum_mem' Ar.mass (List.mem_of_getElem? ha)
      have hab := ar_binds a
      have hnm := namesOf_af a.pat (hrs a (List.mem_of_getElem? ha))
      have hc : AF Try.prog 27 [Pr.t ⟨nm, vr, us, ds, trs, ims, fus, acs⟩, strRow (B ++ a.pat.binds), a.body.t] (· = wrS (errT (a.body.sc E (B ++ a.pat.binds)))) := by obtain ⟨qa, ba⟩ := a; exact ihr _ (List.mem_of_getElem? ha) qa ba rfl (B ++ qa.binds) (by rw [List.length_append]; dsimp only [Ar.pat, Ar.body] at hab; omega)
      have hcat := catS2_af B a.pat.binds (by omega)
      have hat := Ar.at ha
      rw [arscs_at E B ha] at he
      clear h ha ihr hab hmm hrs
      generalize hoa : a.body.sc E (B ++ a.pat.binds) = oa at *
      clear hoa
      obtain ⟨⟨kq, nq, tq, lq⟩, ⟨ka, na, ta, nsa, ysa, la, rsa, qa⟩⟩ := a
      dsimp only [Ar.pat, Ar.body] at hc hnm hcat
      generalize V.binds (.mk kq nq tq lq) = bq at *
      generalize B ++ bq = BI at *
      cases oa with
      | none =>
        dsimp only [errT, wrS] at he hc
        repeat (first | refine gG ?_ | refine zN1 (fun hlen => ?_) | refine zN2 (fun hlen => ?_) | refine zAl (fun _ => ?_) | refine zBx (fun _ => ?_))
        refine zIx (i) (hi') ?_
        repeat (first | refine gG ?_ | refine zN1 (fun hlen => ?_) | refine zN2 (fun hlen => ?_) | refine zAl (fun _ => ?_) | refine zBx (fun _ => ?_))
        refine zEl (hat) (Ar.ts_len _) ?_
        repeat (first | refine gG ?_ | refine zN1 (fun hlen => ?_) | refine zN2 (fun hlen => ?_) | refine zAl (fun _ => ?_) | refine zBx (fun _ => ?_))
        refine ac_draw [0, 0, 1, 1, 1, 1, 1, 1, 1, 1, 3, 2] [0, 1, 2, 3, 4, 5, 6, 7, 8, 9, 10, 11] (by kernel_rfl) (by kernel_rfl) ?_
        refine gW ?_
        apply w_q; (focus exact rfl); (focus exact rfl); focus (intro _; (refine zCall hnm ?_; rintro _ rfl); exact det_refl)
        refine gW ?_
        apply w_q; (focus exact rfl); (focus exact rfl); focus (intro _; (refine zCall hcat ?_; rintro _ rfl); exact det_refl)
        refine gW ?_
        apply w_q; (focus exact rfl); (focus exact rfl); focus (intro _; (refine zCall hc ?_; rintro _ rfl); exact det_refl)
        apply w_a; (focus exact rfl); (focus exact rfl); refine v_alloc tok rfl rfl rfl (fun _ => rfl) (fun _ => ⟨⟨_, rfl⟩, ?_⟩)
        apply w_l; (focus exact rfl); (focus exact rfl); (refine zS ?_)
        refine w_nil ?_
        repeat (first | refine gG ?_ | refine zN1 (fun hlen => ?_) | refine zN2 (fun hlen => ?_) | refine zAl (fun _ => ?_) | refine zBx (fun _ => ?_))
        exact ⟨i + 1, ⟨hi', he⟩, by omega, x_wkd 1 ⟨rfl, trivial⟩ rfl (by repeat (first | exact ag_refl | refine ag_upd rfl ?_ | refine ag_at rfl rfl ?_))⟩
      | some x =>
        dsimp only [errT, wrS] at he hc
        subst he
        repeat (first | refine gG ?_ | refine zN1 (fun hlen => ?_) | refine zN2 (fun hlen => ?_) | refine zAl (fun _ => ?_) | refine zBx (fun _ => ?_))
        refine zIx (i) (hi') ?_
        repeat (first | refine gG ?_ | refine zN1 (fun hlen => ?_) | refine zN2 (fun hlen => ?_) | refine zAl (fun _ => ?_) | refine zBx (fun _ => ?_))
        refine zEl (hat) (Ar.ts_len _) ?_
        repeat (first | refine gG ?_ | refine zN1 (fun hlen => ?_) | refine zN2 (fun hlen => ?_) | refine zAl (fun _ => ?_) | refine zBx (fun _ => ?_))
        refine ac_draw [0, 0, 1, 1, 1, 1, 1, 1, 1, 1, 3, 2] [0, 1, 2, 3, 4, 5, 6, 7, 8, 9, 10, 11] (by kernel_rfl) (by kernel_rfl) ?_
        refine gW ?_
        apply w_q; (focus exact rfl); (focus exact rfl); focus (intro _; (refine zCall hnm ?_; rintro _ rfl); exact det_refl)
        refine gW ?_
        apply w_q; (focus exact rfl); (focus exact rfl); focus (intro _; (refine zCall hcat ?_; rintro _ rfl); exact det_refl)
        refine gW ?_
        apply w_q; (focus exact rfl); (focus exact rfl); focus (intro _; (refine zCall hc ?_; rintro _ rfl); exact det_refl)
        apply w_a; (focus exact rfl); (focus exact rfl); refine v_alloc tok rfl rfl rfl (fun _ => rfl) (fun _ => ⟨⟨_, rfl⟩, ?_⟩)
        apply w_l; (focus exact rfl); (focus exact rfl); (refine zS ?_)
        refine w_nil ?_
        repeat (first | refine gG ?_ | refine zN1 (fun hlen => ?_) | refine zN2 (fun hlen => ?_) | refine zAl (fun _ => ?_) | refine zBx (fun _ => ?_))
        first | refine zR ?_ | refine zQ ?_
        rfl
    have hi' : i = rs.length := by
      have : ¬ i < rs.length := by simpa using h
      omega
    subst hi'
    rw [List.drop_length, Ar.scs] at he
    subst he
    clear h ihr
    repeat (first | refine gG ?_ | refine zN1 (fun hlen => ?_) | refine zN2 (fun hlen => ?_) | refine zAl (fun _ => ?_) | refine zBx (fun _ => ?_))
    first | refine zR ?_ | refine zQ ?_
    rfl
end Go.Proofs.Ytldhlbjengpdbaa
