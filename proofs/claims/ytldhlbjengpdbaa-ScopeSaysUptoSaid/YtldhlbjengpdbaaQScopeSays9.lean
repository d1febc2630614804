/-
  Texts of this proof, part 9: Wse Wsf.
-/
import Derived.Test.YtldhlbjengpdbaaQScopeSays8
import Derived.Laws.IdiomRangeMap
import Derived.Lib.AppendStr
import Derived.Lib.MinMax
namespace Go.Proofs.Ytldhlbjengpdbaa
open Go.RowKit
theorem AG.res {P : Program} {f : FuncId} {us us' : List AV} {hs : List Blk} {R : AV → List Blk → Prop} (h : AG P f us hs R) (hr : Res us' us) : AG P f us' hs R :=
  ⟨h.1, fun F M w vs hh hv => h.2 F M w vs hh (hr M vs hv)⟩
set_option maxRecDepth 100000 in
set_option maxHeartbeats 8000000 in
theorem wrong_ag (E : Env) (b1 b2 b3 b4 br : Nat) (M1 M2 M3 ms : List (ByteArray × T)) (B : List ByteArray) (h1 : SeenOk M1 E.mkr) (h2 : SeenOk M2 E.ca) (h3 : SeenOk M3 E.ac) (h4 : BndOk ms B) (k n : Int) (t : ByteArray) (ns : List ByteArray) (ys : List Y) (l : List Ex) (rs : List Ar) (p : Int) (hns : ns.length ≤ 1048576) (hrs : ∀ r ∈ rs, r.pat.nodes ≤ 1048576) :
    AG Try.prog 38 [.ptr 3 br 0, .c (Ex.mk k n t ns ys l rs p).t] (hdB b1 b2 b3 b4 br M1 M2 M3 ms) (fun r hs => r = .c (.lit (.bool (wrongE E B k t ns rs))) ∧ hs = hdB b1 b2 b3 b4 br M1 M2 M3 ms) := by
  have l1 := h1 t
  have l2 := h2 t
  have l3 := h3 t
  have l4 := h4 t
  have htm := hasS_times t B
  have htn := twice_af ns hns
  unfold wrongE ownBad
  generalize hR : rs.any (badPat E) = r
  generalize times t B = tb at *
  refine ag_enter (5) tok Try.func38 Try.ntmps38 Try.results38 rfl (by kernel_rfl) rfl fun F => ?_
  by_cases e5 : k = 5
  · subst e5
    rw [if_pos rfl]
    rw [htm]
    cases d0 : decide (((tb : Nat) : Int) = 0)
    rotate_left
    · rw [Bool.not_true, Bool.not_false]
      rw [Bool.true_or]
      clear hR hrs
      repeat (first | refine gG ?_ | refine zN1 (fun hlen => ?_) | refine zN2 (fun hlen => ?_) | refine zAl (fun _ => ?_) | refine zBf ?_)
      refine ac_draw [1, 1, 1, 1, 1, 1, 1, 1] [0, 1, 2, 3, 4, 5, 6, 7] (by kernel_rfl) (by kernel_rfl) ?_
      refine gW ?_
      apply w_q; (focus exact rfl); (focus exact rfl); focus (intro _; (refine zLks 9 3 l4 ?_); exact det_refl)
      refine gW ?_
      refine w_nil ?_
      repeat (first | refine gG ?_ | refine zN1 (fun hlen => ?_) | refine zN2 (fun hlen => ?_) | refine zAl (fun _ => ?_) | refine zBx (fun _ => ?_))
      refine zG ?_
      exact ⟨rfl, rfl⟩
    · rw [Bool.not_false]
      rw [Bool.not_true, Bool.false_or]
      repeat (first | refine gG ?_ | refine zN1 (fun hlen => ?_) | refine zN2 (fun hlen => ?_) | refine zAl (fun _ => ?_) | refine zBf ?_)
      refine ac_draw [1, 1, 1, 1, 1, 1, 1, 1] [0, 1, 2, 3, 4, 5, 6, 7] (by kernel_rfl) (by kernel_rfl) ?_
      refine gW ?_
      apply w_q; (focus exact rfl); (focus exact rfl); focus (intro _; (refine zLks 9 3 l4 ?_); exact det_refl)
      refine gW ?_
      refine w_nil ?_

      repeat (first | refine gG ?_ | refine zN1 (fun hlen => ?_) | refine zN2 (fun hlen => ?_) | refine zAl (fun _ => ?_) | refine zBx (fun _ => ?_))
      refine x_loop [4, 6, 57, 58, 59, 60, 61, 62, 63, 64, 65, 66, 67, 68, 69, 70, 71] (fun i : Nat => [(57, .c (.lit (.int .i64 (i : Nat))))]) (fun _ => hdB b1 b2 b3 b4 br M1 M2 M3 ms) (fun i => i ≤ rs.length ∧ (rs.drop i).any (badPat E) = r) (fun i => rs.length - i) 0 ⟨Nat.zero_le _, hR⟩ ⟨rfl, trivial⟩ rfl ?_
      clear hR
      rintro i ⟨hi, he⟩
      repeat (first | refine gG ?_ | refine zN1 (fun hlen => ?_) | refine zN2 (fun hlen => ?_) | refine zAl (fun _ => ?_) | refine zBx (fun _ => ?_))
      refine x_cond rfl (fun h => ?_) (fun h => ?_)
      · have hi' : i < rs.length := by simpa using h
        obtain ⟨a, ha⟩ := nth hi'
        have hnd := hrs a (List.mem_of_getElem? ha)
        have hbd := bound_af a.pat hnd
        have htw := twice_af a.pat.binds (by have := a.pat.binds_len; omega)
        have hfo := foreign_ag b1 b2 b3 b4 br M1 M2 M3 ms E.mkr h1 a.pat
        have hat := Ar.at ha
        rw [any_drop ha, show badPat E a = (twB a.pat.binds || a.pat.frg E.mkr) from rfl] at he
        clear h ha hrs
        obtain ⟨⟨kq, nq, tq, lq⟩, ⟨ka, na, ta, nsa, ysa, la, rsa, qa⟩⟩ := a
        dsimp only [Ar.pat, Ar.body] at hbd htw hfo he
        generalize V.binds (.mk kq nq tq lq) = bq at *
        generalize V.frg E.mkr (.mk kq nq tq lq) = fq at *
        cases htb : twB bq
        · rw [htb] at he htw
          rw [Bool.false_or] at he
          cases fq
          · rw [Bool.false_or] at he
            repeat (first | refine gG ?_ | refine zN1 (fun hlen => ?_) | refine zN2 (fun hlen => ?_) | refine zAl (fun _ => ?_) | refine zBx (fun _ => ?_))
            refine zIx (i) (hi') ?_
            repeat (first | refine gG ?_ | refine zN1 (fun hlen => ?_) | refine zN2 (fun hlen => ?_) | refine zAl (fun _ => ?_) | refine zBx (fun _ => ?_))
            refine zEl (hat) (Ar.ts_len _) ?_
            repeat (first | refine gG ?_ | refine zN1 (fun hlen => ?_) | refine zN2 (fun hlen => ?_) | refine zAl (fun _ => ?_) | refine zBx (fun _ => ?_))
            refine zCall (hbd) ?_
            rintro _ rfl
            repeat (first | refine gG ?_ | refine zN1 (fun hlen => ?_) | refine zN2 (fun hlen => ?_) | refine zAl (fun _ => ?_) | refine zBx (fun _ => ?_))
            refine zCall (htw) ?_
            rintro _ rfl
            repeat (first | refine gG ?_ | refine zN1 (fun hlen => ?_) | refine zN2 (fun hlen => ?_) | refine zAl (fun _ => ?_) | refine zBx (fun _ => ?_))
            refine zCallR [0, 1, 2, 3, 4] hfo (fun _ _ h => h) ?_
            repeat (first | refine gG ?_ | refine zN1 (fun hlen => ?_) | refine zN2 (fun hlen => ?_) | refine zAl (fun _ => ?_) | refine zBx (fun _ => ?_))
            exact ⟨i + 1, ⟨hi', he⟩, by omega, x_wkd 5 ⟨rfl, trivial⟩ rfl (by repeat (first | exact ag_refl | refine ag_upd rfl ?_ | refine ag_at rfl rfl ?_))⟩
          · rw [Bool.true_or] at he
            subst he
            repeat (first | refine gG ?_ | refine zN1 (fun hlen => ?_) | refine zN2 (fun hlen => ?_) | refine zAl (fun _ => ?_) | refine zBx (fun _ => ?_))
            refine zIx (i) (hi') ?_
            repeat (first | refine gG ?_ | refine zN1 (fun hlen => ?_) | refine zN2 (fun hlen => ?_) | refine zAl (fun _ => ?_) | refine zBx (fun _ => ?_))
            refine zEl (hat) (Ar.ts_len _) ?_
            repeat (first | refine gG ?_ | refine zN1 (fun hlen => ?_) | refine zN2 (fun hlen => ?_) | refine zAl (fun _ => ?_) | refine zBx (fun _ => ?_))
            refine zCall (hbd) ?_
            rintro _ rfl
            repeat (first | refine gG ?_ | refine zN1 (fun hlen => ?_) | refine zN2 (fun hlen => ?_) | refine zAl (fun _ => ?_) | refine zBx (fun _ => ?_))
            refine zCall (htw) ?_
            rintro _ rfl
            repeat (first | refine gG ?_ | refine zN1 (fun hlen => ?_) | refine zN2 (fun hlen => ?_) | refine zAl (fun _ => ?_) | refine zBx (fun _ => ?_))
            refine zCallR [0, 1, 2, 3, 4] hfo (fun _ _ h => h) ?_
            repeat (first | refine gG ?_ | refine zN1 (fun hlen => ?_) | refine zN2 (fun hlen => ?_) | refine zAl (fun _ => ?_) | refine zBx (fun _ => ?_))
            refine zG ?_
            exact ⟨rfl, rfl⟩
        · rw [htb] at he htw
          rw [Bool.true_or, Bool.true_or] at he
          subst he
          repeat (first | refine gG ?_ | refine zN1 (fun hlen => ?_) | refine zN2 (fun hlen => ?_) | refine zAl (fun _ => ?_) | refine zBx (fun _ => ?_))
          refine zIx (i) (hi') ?_
          repeat (first | refine gG ?_ | refine zN1 (fun hlen => ?_) | refine zN2 (fun hlen => ?_) | refine zAl (fun _ => ?_) | refine zBx (fun _ => ?_))
          refine zEl (hat) (Ar.ts_len _) ?_
          repeat (first | refine gG ?_ | refine zN1 (fun hlen => ?_) | refine zN2 (fun hlen => ?_) | refine zAl (fun _ => ?_) | refine zBx (fun _ => ?_))
          refine zCall (hbd) ?_
          rintro _ rfl
          repeat (first | refine gG ?_ | refine zN1 (fun hlen => ?_) | refine zN2 (fun hlen => ?_) | refine zAl (fun _ => ?_) | refine zBx (fun _ => ?_))
          refine zCall (htw) ?_
          rintro _ rfl
          repeat (first | refine gG ?_ | refine zN1 (fun hlen => ?_) | refine zN2 (fun hlen => ?_) | refine zAl (fun _ => ?_) | refine zBx (fun _ => ?_))
          refine zG ?_
          exact ⟨rfl, rfl⟩
      · have hi' : i = rs.length := by have : ¬ i < rs.length := by simpa using h
                                       omega
        subst hi'
        rw [List.drop_length] at he
        subst he
        clear h hrs
        repeat (first | refine gG ?_ | refine zN1 (fun hlen => ?_) | refine zN2 (fun hlen => ?_) | refine zAl (fun _ => ?_) | refine zBx (fun _ => ?_))
        refine zG ?_
        exact ⟨rfl, rfl⟩
  have d5 : decide (k = 5) = false := decide_eq_false e5
  rw [if_neg e5]
  by_cases e9 : k = 9
  · subst e9
    rw [if_pos rfl]
    cases d0 : hasS E.ca t
    · rw [d0] at l2
      rw [Bool.not_false, Bool.true_or]
      clear hR hrs
      repeat (first | refine gG ?_ | refine zN1 (fun hlen => ?_) | refine zN2 (fun hlen => ?_) | refine zAl (fun _ => ?_) | refine zBf ?_)
      refine ac_draw [1, 1, 1, 1, 1, 1, 1, 1] [0, 1, 2, 3, 4, 5, 6, 7] (by kernel_rfl) (by kernel_rfl) ?_
      refine gW ?_
      apply w_q; (focus exact rfl); (focus exact rfl); focus (intro _; (refine zLks 9 4 l2 ?_); exact det_refl)
      refine gW ?_
      refine w_nil ?_
      repeat (first | refine gG ?_ | refine zN1 (fun hlen => ?_) | refine zN2 (fun hlen => ?_) | refine zAl (fun _ => ?_) | refine zBx (fun _ => ?_))
      refine zG ?_
      exact ⟨rfl, rfl⟩
    · rw [d0] at l2
      rw [Bool.not_true, Bool.false_or]
      repeat (first | refine gG ?_ | refine zN1 (fun hlen => ?_) | refine zN2 (fun hlen => ?_) | refine zAl (fun _ => ?_) | refine zBf ?_)
      refine ac_draw [1, 1, 1, 1, 1, 1, 1, 1] [0, 1, 2, 3, 4, 5, 6, 7] (by kernel_rfl) (by kernel_rfl) ?_
      refine gW ?_
      apply w_q; (focus exact rfl); (focus exact rfl); focus (intro _; (refine zLks 9 4 l2 ?_); exact det_refl)
      refine gW ?_
      refine w_nil ?_

      repeat (first | refine gG ?_ | refine zN1 (fun hlen => ?_) | refine zN2 (fun hlen => ?_) | refine zAl (fun _ => ?_) | refine zBx (fun _ => ?_))
      refine x_loop [4, 6, 57, 58, 59, 60, 61, 62, 63, 64, 65, 66, 67, 68, 69, 70, 71] (fun i : Nat => [(57, .c (.lit (.int .i64 (i : Nat))))]) (fun _ => hdB b1 b2 b3 b4 br M1 M2 M3 ms) (fun i => i ≤ rs.length ∧ (rs.drop i).any (badPat E) = r) (fun i => rs.length - i) 0 ⟨Nat.zero_le _, hR⟩ ⟨rfl, trivial⟩ rfl ?_
      clear hR
      rintro i ⟨hi, he⟩
      repeat (first | refine gG ?_ | refine zN1 (fun hlen => ?_) | refine zN2 (fun hlen => ?_) | refine zAl (fun _ => ?_) | refine zBx (fun _ => ?_))
      refine x_cond rfl (fun h => ?_) (fun h => ?_)
      · have hi' : i < rs.length := by simpa using h
        obtain ⟨a, ha⟩ := nth hi'
        have hnd := hrs a (List.mem_of_getElem? ha)
        have hbd := bound_af a.pat hnd
        have htw := twice_af a.pat.binds (by have := a.pat.binds_len; omega)
        have hfo := foreign_ag b1 b2 b3 b4 br M1 M2 M3 ms E.mkr h1 a.pat
        have hat := Ar.at ha
        rw [any_drop ha, show badPat E a = (twB a.pat.binds || a.pat.frg E.mkr) from rfl] at he
        clear h ha hrs
        obtain ⟨⟨kq, nq, tq, lq⟩, ⟨ka, na, ta, nsa, ysa, la, rsa, qa⟩⟩ := a
        dsimp only [Ar.pat, Ar.body] at hbd htw hfo he
        generalize V.binds (.mk kq nq tq lq) = bq at *
        generalize V.frg E.mkr (.mk kq nq tq lq) = fq at *
        cases htb : twB bq
        · rw [htb] at he htw
          rw [Bool.false_or] at he
          cases fq
          · rw [Bool.false_or] at he
            repeat (first | refine gG ?_ | refine zN1 (fun hlen => ?_) | refine zN2 (fun hlen => ?_) | refine zAl (fun _ => ?_) | refine zBx (fun _ => ?_))
            refine zIx (i) (hi') ?_
            repeat (first | refine gG ?_ | refine zN1 (fun hlen => ?_) | refine zN2 (fun hlen => ?_) | refine zAl (fun _ => ?_) | refine zBx (fun _ => ?_))
            refine zEl (hat) (Ar.ts_len _) ?_
            repeat (first | refine gG ?_ | refine zN1 (fun hlen => ?_) | refine zN2 (fun hlen => ?_) | refine zAl (fun _ => ?_) | refine zBx (fun _ => ?_))
            refine zCall (hbd) ?_
            rintro _ rfl
            repeat (first | refine gG ?_ | refine zN1 (fun hlen => ?_) | refine zN2 (fun hlen => ?_) | refine zAl (fun _ => ?_) | refine zBx (fun _ => ?_))
            refine zCall (htw) ?_
            rintro _ rfl
            repeat (first | refine gG ?_ | refine zN1 (fun hlen => ?_) | refine zN2 (fun hlen => ?_) | refine zAl (fun _ => ?_) | refine zBx (fun _ => ?_))
            refine zCallR [0, 1, 2, 3, 4] hfo (fun _ _ h => h) ?_
            repeat (first | refine gG ?_ | refine zN1 (fun hlen => ?_) | refine zN2 (fun hlen => ?_) | refine zAl (fun _ => ?_) | refine zBx (fun _ => ?_))
            exact ⟨i + 1, ⟨hi', he⟩, by omega, x_wkd 5 ⟨rfl, trivial⟩ rfl (by repeat (first | exact ag_refl | refine ag_upd rfl ?_ | refine ag_at rfl rfl ?_))⟩
          · rw [Bool.true_or] at he
            subst he
            repeat (first | refine gG ?_ | refine zN1 (fun hlen => ?_) | refine zN2 (fun hlen => ?_) | refine zAl (fun _ => ?_) | refine zBx (fun _ => ?_))
            refine zIx (i) (hi') ?_
            repeat (first | refine gG ?_ | refine zN1 (fun hlen => ?_) | refine zN2 (fun hlen => ?_) | refine zAl (fun _ => ?_) | refine zBx (fun _ => ?_))
            refine zEl (hat) (Ar.ts_len _) ?_
            repeat (first | refine gG ?_ | refine zN1 (fun hlen => ?_) | refine zN2 (fun hlen => ?_) | refine zAl (fun _ => ?_) | refine zBx (fun _ => ?_))
            refine zCall (hbd) ?_
            rintro _ rfl
            repeat (first | refine gG ?_ | refine zN1 (fun hlen => ?_) | refine zN2 (fun hlen => ?_) | refine zAl (fun _ => ?_) | refine zBx (fun _ => ?_))
            refine zCall (htw) ?_
            rintro _ rfl
            repeat (first | refine gG ?_ | refine zN1 (fun hlen => ?_) | refine zN2 (fun hlen => ?_) | refine zAl (fun _ => ?_) | refine zBx (fun _ => ?_))
            refine zCallR [0, 1, 2, 3, 4] hfo (fun _ _ h => h) ?_
            repeat (first | refine gG ?_ | refine zN1 (fun hlen => ?_) | refine zN2 (fun hlen => ?_) | refine zAl (fun _ => ?_) | refine zBx (fun _ => ?_))
            refine zG ?_
            exact ⟨rfl, rfl⟩
        · rw [htb] at he htw
          rw [Bool.true_or, Bool.true_or] at he
          subst he
          repeat (first | refine gG ?_ | refine zN1 (fun hlen => ?_) | refine zN2 (fun hlen => ?_) | refine zAl (fun _ => ?_) | refine zBx (fun _ => ?_))
          refine zIx (i) (hi') ?_
          repeat (first | refine gG ?_ | refine zN1 (fun hlen => ?_) | refine zN2 (fun hlen => ?_) | refine zAl (fun _ => ?_) | refine zBx (fun _ => ?_))
          refine zEl (hat) (Ar.ts_len _) ?_
          repeat (first | refine gG ?_ | refine zN1 (fun hlen => ?_) | refine zN2 (fun hlen => ?_) | refine zAl (fun _ => ?_) | refine zBx (fun _ => ?_))
          refine zCall (hbd) ?_
          rintro _ rfl
          repeat (first | refine gG ?_ | refine zN1 (fun hlen => ?_) | refine zN2 (fun hlen => ?_) | refine zAl (fun _ => ?_) | refine zBx (fun _ => ?_))
          refine zCall (htw) ?_
          rintro _ rfl
          repeat (first | refine gG ?_ | refine zN1 (fun hlen => ?_) | refine zN2 (fun hlen => ?_) | refine zAl (fun _ => ?_) | refine zBx (fun _ => ?_))
          refine zG ?_
          exact ⟨rfl, rfl⟩
      · have hi' : i = rs.length := by have : ¬ i < rs.length := by simpa using h
                                       omega
        subst hi'
        rw [List.drop_length] at he
        subst he
        clear h hrs
        repeat (first | refine gG ?_ | refine zN1 (fun hlen => ?_) | refine zN2 (fun hlen => ?_) | refine zAl (fun _ => ?_) | refine zBx (fun _ => ?_))
        refine zG ?_
        exact ⟨rfl, rfl⟩
  have d9 : decide (k = 9) = false := decide_eq_false e9
  rw [if_neg e9]
  by_cases e12 : k = 12
  · subst e12
    rw [if_pos rfl]
    cases d0 : hasS E.mkr t
    · rw [d0] at l1
      rw [Bool.not_false, Bool.true_or]
      clear hR hrs
      repeat (first | refine gG ?_ | refine zN1 (fun hlen => ?_) | refine zN2 (fun hlen => ?_) | refine zAl (fun _ => ?_) | refine zBf ?_)
      refine ac_draw [1, 1, 1, 1, 1, 1, 1, 1] [0, 1, 2, 3, 4, 5, 6, 7] (by kernel_rfl) (by kernel_rfl) ?_
      refine gW ?_
      apply w_q; (focus exact rfl); (focus exact rfl); focus (intro _; (refine zLks 9 4 l1 ?_); exact det_refl)
      refine gW ?_
      refine w_nil ?_
      repeat (first | refine gG ?_ | refine zN1 (fun hlen => ?_) | refine zN2 (fun hlen => ?_) | refine zAl (fun _ => ?_) | refine zBx (fun _ => ?_))
      refine zG ?_
      exact ⟨rfl, rfl⟩
    · rw [d0] at l1
      rw [Bool.not_true, Bool.false_or]
      repeat (first | refine gG ?_ | refine zN1 (fun hlen => ?_) | refine zN2 (fun hlen => ?_) | refine zAl (fun _ => ?_) | refine zBf ?_)
      refine ac_draw [1, 1, 1, 1, 1, 1, 1, 1] [0, 1, 2, 3, 4, 5, 6, 7] (by kernel_rfl) (by kernel_rfl) ?_
      refine gW ?_
      apply w_q; (focus exact rfl); (focus exact rfl); focus (intro _; (refine zLks 9 4 l1 ?_); exact det_refl)
      refine gW ?_
      refine w_nil ?_

      repeat (first | refine gG ?_ | refine zN1 (fun hlen => ?_) | refine zN2 (fun hlen => ?_) | refine zAl (fun _ => ?_) | refine zBx (fun _ => ?_))
      refine x_loop [4, 6, 57, 58, 59, 60, 61, 62, 63, 64, 65, 66, 67, 68, 69, 70, 71] (fun i : Nat => [(57, .c (.lit (.int .i64 (i : Nat))))]) (fun _ => hdB b1 b2 b3 b4 br M1 M2 M3 ms) (fun i => i ≤ rs.length ∧ (rs.drop i).any (badPat E) = r) (fun i => rs.length - i) 0 ⟨Nat.zero_le _, hR⟩ ⟨rfl, trivial⟩ rfl ?_
      clear hR
      rintro i ⟨hi, he⟩
      repeat (first | refine gG ?_ | refine zN1 (fun hlen => ?_) | refine zN2 (fun hlen => ?_) | refine zAl (fun _ => ?_) | refine zBx (fun _ => ?_))
      refine x_cond rfl (fun h => ?_) (fun h => ?_)
      · have hi' : i < rs.length := by simpa using h
        obtain ⟨a, ha⟩ := nth hi'
        have hnd := hrs a (List.mem_of_getElem? ha)
        have hbd := bound_af a.pat hnd
        have htw := twice_af a.pat.binds (by have := a.pat.binds_len; omega)
        have hfo := foreign_ag b1 b2 b3 b4 br M1 M2 M3 ms E.mkr h1 a.pat
        have hat := Ar.at ha
        rw [any_drop ha, show badPat E a = (twB a.pat.binds || a.pat.frg E.mkr) from rfl] at he
        clear h ha hrs
        obtain ⟨⟨kq, nq, tq, lq⟩, ⟨ka, na, ta, nsa, ysa, la, rsa, qa⟩⟩ := a
        dsimp only [Ar.pat, Ar.body] at hbd htw hfo he
        generalize V.binds (.mk kq nq tq lq) = bq at *
        generalize V.frg E.mkr (.mk kq nq tq lq) = fq at *
        cases htb : twB bq
        · rw [htb] at he htw
          rw [Bool.false_or] at he
          cases fq
          · rw [Bool.false_or] at he
            repeat (first | refine gG ?_ | refine zN1 (fun hlen => ?_) | refine zN2 (fun hlen => ?_) | refine zAl (fun _ => ?_) | refine zBx (fun _ => ?_))
            refine zIx (i) (hi') ?_
            repeat (first | refine gG ?_ | refine zN1 (fun hlen => ?_) | refine zN2 (fun hlen => ?_) | refine zAl (fun _ => ?_) | refine zBx (fun _ => ?_))
            refine zEl (hat) (Ar.ts_len _) ?_
            repeat (first | refine gG ?_ | refine zN1 (fun hlen => ?_) | refine zN2 (fun hlen => ?_) | refine zAl (fun _ => ?_) | refine zBx (fun _ => ?_))
            refine zCall (hbd) ?_
            rintro _ rfl
            repeat (first | refine gG ?_ | refine zN1 (fun hlen => ?_) | refine zN2 (fun hlen => ?_) | refine zAl (fun _ => ?_) | refine zBx (fun _ => ?_))
            refine zCall (htw) ?_
            rintro _ rfl
            repeat (first | refine gG ?_ | refine zN1 (fun hlen => ?_) | refine zN2 (fun hlen => ?_) | refine zAl (fun _ => ?_) | refine zBx (fun _ => ?_))
            refine zCallR [0, 1, 2, 3, 4] hfo (fun _ _ h => h) ?_
            repeat (first | refine gG ?_ | refine zN1 (fun hlen => ?_) | refine zN2 (fun hlen => ?_) | refine zAl (fun _ => ?_) | refine zBx (fun _ => ?_))
            exact ⟨i + 1, ⟨hi', he⟩, by omega, x_wkd 5 ⟨rfl, trivial⟩ rfl (by repeat (first | exact ag_refl | refine ag_upd rfl ?_ | refine ag_at rfl rfl ?_))⟩
          · rw [Bool.true_or] at he
            subst he
            repeat (first | refine gG ?_ | refine zN1 (fun hlen => ?_) | refine zN2 (fun hlen => ?_) | refine zAl (fun _ => ?_) | refine zBx (fun _ => ?_))
            refine zIx (i) (hi') ?_
            repeat (first | refine gG ?_ | refine zN1 (fun hlen => ?_) | refine zN2 (fun hlen => ?_) | refine zAl (fun _ => ?_) | refine zBx (fun _ => ?_))
            refine zEl (hat) (Ar.ts_len _) ?_
            repeat (first | refine gG ?_ | refine zN1 (fun hlen => ?_) | refine zN2 (fun hlen => ?_) | refine zAl (fun _ => ?_) | refine zBx (fun _ => ?_))
            refine zCall (hbd) ?_
            rintro _ rfl
            repeat (first | refine gG ?_ | refine zN1 (fun hlen => ?_) | refine zN2 (fun hlen => ?_) | refine zAl (fun _ => ?_) | refine zBx (fun _ => ?_))
            refine zCall (htw) ?_
            rintro _ rfl
            repeat (first | refine gG ?_ | refine zN1 (fun hlen => ?_) | refine zN2 (fun hlen => ?_) | refine zAl (fun _ => ?_) | refine zBx (fun _ => ?_))
            refine zCallR [0, 1, 2, 3, 4] hfo (fun _ _ h => h) ?_
            repeat (first | refine gG ?_ | refine zN1 (fun hlen => ?_) | refine zN2 (fun hlen => ?_) | refine zAl (fun _ => ?_) | refine zBx (fun _ => ?_))
            refine zG ?_
            exact ⟨rfl, rfl⟩
        · rw [htb] at he htw
          rw [Bool.true_or, Bool.true_or] at he
          subst he
          repeat (first | refine gG ?_ | refine zN1 (fun hlen => ?_) | refine zN2 (fun hlen => ?_) | refine zAl (fun _ => ?_) | refine zBx (fun _ => ?_))
          refine zIx (i) (hi') ?_
          repeat (first | refine gG ?_ | refine zN1 (fun hlen => ?_) | refine zN2 (fun hlen => ?_) | refine zAl (fun _ => ?_) | refine zBx (fun _ => ?_))
          refine zEl (hat) (Ar.ts_len _) ?_
          repeat (first | refine gG ?_ | refine zN1 (fun hlen => ?_) | refine zN2 (fun hlen => ?_) | refine zAl (fun _ => ?_) | refine zBx (fun _ => ?_))
          refine zCall (hbd) ?_
          rintro _ rfl
          repeat (first | refine gG ?_ | refine zN1 (fun hlen => ?_) | refine zN2 (fun hlen => ?_) | refine zAl (fun _ => ?_) | refine zBx (fun _ => ?_))
          refine zCall (htw) ?_
          rintro _ rfl
          repeat (first | refine gG ?_ | refine zN1 (fun hlen => ?_) | refine zN2 (fun hlen => ?_) | refine zAl (fun _ => ?_) | refine zBx (fun _ => ?_))
          refine zG ?_
          exact ⟨rfl, rfl⟩
      · have hi' : i = rs.length := by have : ¬ i < rs.length := by simpa using h
                                       omega
        subst hi'
        rw [List.drop_length] at he
        subst he
        clear h hrs
        repeat (first | refine gG ?_ | refine zN1 (fun hlen => ?_) | refine zN2 (fun hlen => ?_) | refine zAl (fun _ => ?_) | refine zBx (fun _ => ?_))
        refine zG ?_
        exact ⟨rfl, rfl⟩
  have d12 : decide (k = 12) = false := decide_eq_false e12
  rw [if_neg e12]
  by_cases e14 : k = 14
  · subst e14
    rw [if_pos rfl]
    cases d0 : hasS E.ac t
    · rw [d0] at l3
      rw [Bool.not_false, Bool.true_or]
      clear hR hrs
      repeat (first | refine gG ?_ | refine zN1 (fun hlen => ?_) | refine zN2 (fun hlen => ?_) | refine zAl (fun _ => ?_) | refine zBf ?_)
      refine ac_draw [1, 1, 1, 1, 1, 1, 1, 1] [0, 1, 2, 3, 4, 5, 6, 7] (by kernel_rfl) (by kernel_rfl) ?_
      refine gW ?_
      apply w_q; (focus exact rfl); (focus exact rfl); focus (intro _; (refine zLks 9 4 l3 ?_); exact det_refl)
      refine gW ?_
      refine w_nil ?_
      repeat (first | refine gG ?_ | refine zN1 (fun hlen => ?_) | refine zN2 (fun hlen => ?_) | refine zAl (fun _ => ?_) | refine zBx (fun _ => ?_))
      refine zG ?_
      exact ⟨rfl, rfl⟩
    · rw [d0] at l3
      rw [Bool.not_true, Bool.false_or]
      repeat (first | refine gG ?_ | refine zN1 (fun hlen => ?_) | refine zN2 (fun hlen => ?_) | refine zAl (fun _ => ?_) | refine zBf ?_)
      refine ac_draw [1, 1, 1, 1, 1, 1, 1, 1] [0, 1, 2, 3, 4, 5, 6, 7] (by kernel_rfl) (by kernel_rfl) ?_
      refine gW ?_
      apply w_q; (focus exact rfl); (focus exact rfl); focus (intro _; (refine zLks 9 4 l3 ?_); exact det_refl)
      refine gW ?_
      refine w_nil ?_

      repeat (first | refine gG ?_ | refine zN1 (fun hlen => ?_) | refine zN2 (fun hlen => ?_) | refine zAl (fun _ => ?_) | refine zBx (fun _ => ?_))
      refine x_loop [4, 6, 57, 58, 59, 60, 61, 62, 63, 64, 65, 66, 67, 68, 69, 70, 71] (fun i : Nat => [(57, .c (.lit (.int .i64 (i : Nat))))]) (fun _ => hdB b1 b2 b3 b4 br M1 M2 M3 ms) (fun i => i ≤ rs.length ∧ (rs.drop i).any (badPat E) = r) (fun i => rs.length - i) 0 ⟨Nat.zero_le _, hR⟩ ⟨rfl, trivial⟩ rfl ?_
      clear hR
      rintro i ⟨hi, he⟩
      repeat (first | refine gG ?_ | refine zN1 (fun hlen => ?_) | refine zN2 (fun hlen => ?_) | refine zAl (fun _ => ?_) | refine zBx (fun _ => ?_))
      refine x_cond rfl (fun h => ?_) (fun h => ?_)
      · have hi' : i < rs.length := by simpa using h
        obtain ⟨a, ha⟩ := nth hi'
        have hnd := hrs a (List.mem_of_getElem? ha)
        have hbd := bound_af a.pat hnd
        have htw := twice_af a.pat.binds (by have := a.pat.binds_len; omega)
        have hfo := foreign_ag b1 b2 b3 b4 br M1 M2 M3 ms E.mkr h1 a.pat
        have hat := Ar.at ha
        rw [any_drop ha, show badPat E a = (twB a.pat.binds || a.pat.frg E.mkr) from rfl] at he
        clear h ha hrs
        obtain ⟨⟨kq, nq, tq, lq⟩, ⟨ka, na, ta, nsa, ysa, la, rsa, qa⟩⟩ := a
        dsimp only [Ar.pat, Ar.body] at hbd htw hfo he
        generalize V.binds (.mk kq nq tq lq) = bq at *
        generalize V.frg E.mkr (.mk kq nq tq lq) = fq at *
        cases htb : twB bq
        · rw [htb] at he htw
          rw [Bool.false_or] at he
          cases fq
          · rw [Bool.false_or] at he
            repeat (first | refine gG ?_ | refine zN1 (fun hlen => ?_) | refine zN2 (fun hlen => ?_) | refine zAl (fun _ => ?_) | refine zBx (fun _ => ?_))
            refine zIx (i) (hi') ?_
            repeat (first | refine gG ?_ | refine zN1 (fun hlen => ?_) | refine zN2 (fun hlen => ?_) | refine zAl (fun _ => ?_) | refine zBx (fun _ => ?_))
            refine zEl (hat) (Ar.ts_len _) ?_
            repeat (first | refine gG ?_ | refine zN1 (fun hlen => ?_) | refine zN2 (fun hlen => ?_) | refine zAl (fun _ => ?_) | refine zBx (fun _ => ?_))
            refine zCall (hbd) ?_
            rintro _ rfl
            repeat (first | refine gG ?_ | refine zN1 (fun hlen => ?_) | refine zN2 (fun hlen => ?_) | refine zAl (fun _ => ?_) | refine zBx (fun _ => ?_))
            refine zCall (htw) ?_
            rintro _ rfl
            repeat (first | refine gG ?_ | refine zN1 (fun hlen => ?_) | refine zN2 (fun hlen => ?_) | refine zAl (fun _ => ?_) | refine zBx (fun _ => ?_))
            refine zCallR [0, 1, 2, 3, 4] hfo (fun _ _ h => h) ?_
            repeat (first | refine gG ?_ | refine zN1 (fun hlen => ?_) | refine zN2 (fun hlen => ?_) | refine zAl (fun _ => ?_) | refine zBx (fun _ => ?_))
            exact ⟨i + 1, ⟨hi', he⟩, by omega, x_wkd 5 ⟨rfl, trivial⟩ rfl (by repeat (first | exact ag_refl | refine ag_upd rfl ?_ | refine ag_at rfl rfl ?_))⟩
          · rw [Bool.true_or] at he
            subst he
            repeat (first | refine gG ?_ | refine zN1 (fun hlen => ?_) | refine zN2 (fun hlen => ?_) | refine zAl (fun _ => ?_) | refine zBx (fun _ => ?_))
            refine zIx (i) (hi') ?_
            repeat (first | refine gG ?_ | refine zN1 (fun hlen => ?_) | refine zN2 (fun hlen => ?_) | refine zAl (fun _ => ?_) | refine zBx (fun _ => ?_))
            refine zEl (hat) (Ar.ts_len _) ?_
            repeat (first | refine gG ?_ | refine zN1 (fun hlen => ?_) | refine zN2 (fun hlen => ?_) | refine zAl (fun _ => ?_) | refine zBx (fun _ => ?_))
            refine zCall (hbd) ?_
            rintro _ rfl
            repeat (first | refine gG ?_ | refine zN1 (fun hlen => ?_) | refine zN2 (fun hlen => ?_) | refine zAl (fun _ => ?_) | refine zBx (fun _ => ?_))
            refine zCall (htw) ?_
            rintro _ rfl
            repeat (first | refine gG ?_ | refine zN1 (fun hlen => ?_) | refine zN2 (fun hlen => ?_) | refine zAl (fun _ => ?_) | refine zBx (fun _ => ?_))
            refine zCallR [0, 1, 2, 3, 4] hfo (fun _ _ h => h) ?_
            repeat (first | refine gG ?_ | refine zN1 (fun hlen => ?_) | refine zN2 (fun hlen => ?_) | refine zAl (fun _ => ?_) | refine zBx (fun _ => ?_))
            refine zG ?_
            exact ⟨rfl, rfl⟩
        · rw [htb] at he htw
          rw [Bool.true_or, Bool.true_or] at he
          subst he
          repeat (first | refine gG ?_ | refine zN1 (fun hlen => ?_) | refine zN2 (fun hlen => ?_) | refine zAl (fun _ => ?_) | refine zBx (fun _ => ?_))
          refine zIx (i) (hi') ?_
          repeat (first | refine gG ?_ | refine zN1 (fun hlen => ?_) | refine zN2 (fun hlen => ?_) | refine zAl (fun _ => ?_) | refine zBx (fun _ => ?_))
          refine zEl (hat) (Ar.ts_len _) ?_
          repeat (first | refine gG ?_ | refine zN1 (fun hlen => ?_) | refine zN2 (fun hlen => ?_) | refine zAl (fun _ => ?_) | refine zBx (fun _ => ?_))
          refine zCall (hbd) ?_
          rintro _ rfl
          repeat (first | refine gG ?_ | refine zN1 (fun hlen => ?_) | refine zN2 (fun hlen => ?_) | refine zAl (fun _ => ?_) | refine zBx (fun _ => ?_))
          refine zCall (htw) ?_
          rintro _ rfl
          repeat (first | refine gG ?_ | refine zN1 (fun hlen => ?_) | refine zN2 (fun hlen => ?_) | refine zAl (fun _ => ?_) | refine zBx (fun _ => ?_))
          refine zG ?_
          exact ⟨rfl, rfl⟩
      · have hi' : i = rs.length := by have : ¬ i < rs.length := by simpa using h
                                       omega
        subst hi'
        rw [List.drop_length] at he
        subst he
        clear h hrs
        repeat (first | refine gG ?_ | refine zN1 (fun hlen => ?_) | refine zN2 (fun hlen => ?_) | refine zAl (fun _ => ?_) | refine zBx (fun _ => ?_))
        refine zG ?_
        exact ⟨rfl, rfl⟩
  have d14 : decide (k = 14) = false := decide_eq_false e14
  rw [if_neg e14]
  by_cases e10 : k = 10
  · subst e10
    rw [if_pos rfl]
    cases d0 : twB ns
    · rw [d0] at htn
      rw [Bool.false_or]
      repeat (first | refine gG ?_ | refine zN1 (fun hlen => ?_) | refine zN2 (fun hlen => ?_) | refine zAl (fun _ => ?_) | refine zBf ?_)
      refine zCall (htn) ?_
      rintro _ rfl
      repeat (first | refine gG ?_ | refine zN1 (fun hlen => ?_) | refine zN2 (fun hlen => ?_) | refine zAl (fun _ => ?_) | refine zBx (fun _ => ?_))
      refine x_loop [4, 6, 57, 58, 59, 60, 61, 62, 63, 64, 65, 66, 67, 68, 69, 70, 71] (fun i : Nat => [(57, .c (.lit (.int .i64 (i : Nat))))]) (fun _ => hdB b1 b2 b3 b4 br M1 M2 M3 ms) (fun i => i ≤ rs.length ∧ (rs.drop i).any (badPat E) = r) (fun i => rs.length - i) 0 ⟨Nat.zero_le _, hR⟩ ⟨rfl, trivial⟩ rfl ?_
      clear hR
      rintro i ⟨hi, he⟩
      repeat (first | refine gG ?_ | refine zN1 (fun hlen => ?_) | refine zN2 (fun hlen => ?_) | refine zAl (fun _ => ?_) | refine zBx (fun _ => ?_))
      refine x_cond rfl (fun h => ?_) (fun h => ?_)
      · have hi' : i < rs.length := by simpa using h
        obtain ⟨a, ha⟩ := nth hi'
        have hnd := hrs a (List.mem_of_getElem? ha)
        have hbd := bound_af a.pat hnd
        have htw := twice_af a.pat.binds (by have := a.pat.binds_len; omega)
        have hfo := foreign_ag b1 b2 b3 b4 br M1 M2 M3 ms E.mkr h1 a.pat
        have hat := Ar.at ha
        rw [any_drop ha, show badPat E a = (twB a.pat.binds || a.pat.frg E.mkr) from rfl] at he
        clear h ha hrs
        obtain ⟨⟨kq, nq, tq, lq⟩, ⟨ka, na, ta, nsa, ysa, la, rsa, qa⟩⟩ := a
        dsimp only [Ar.pat, Ar.body] at hbd htw hfo he
        generalize V.binds (.mk kq nq tq lq) = bq at *
        generalize V.frg E.mkr (.mk kq nq tq lq) = fq at *
        cases htb : twB bq
        · rw [htb] at he htw
          rw [Bool.false_or] at he
          cases fq
          · rw [Bool.false_or] at he
            repeat (first | refine gG ?_ | refine zN1 (fun hlen => ?_) | refine zN2 (fun hlen => ?_) | refine zAl (fun _ => ?_) | refine zBx (fun _ => ?_))
            refine zIx (i) (hi') ?_
            repeat (first | refine gG ?_ | refine zN1 (fun hlen => ?_) | refine zN2 (fun hlen => ?_) | refine zAl (fun _ => ?_) | refine zBx (fun _ => ?_))
            refine zEl (hat) (Ar.ts_len _) ?_
            repeat (first | refine gG ?_ | refine zN1 (fun hlen => ?_) | refine zN2 (fun hlen => ?_) | refine zAl (fun _ => ?_) | refine zBx (fun _ => ?_))
            refine zCall (hbd) ?_
            rintro _ rfl
            repeat (first | refine gG ?_ | refine zN1 (fun hlen => ?_) | refine zN2 (fun hlen => ?_) | refine zAl (fun _ => ?_) | refine zBx (fun _ => ?_))
            refine zCall (htw) ?_
            rintro _ rfl
            repeat (first | refine gG ?_ | refine zN1 (fun hlen => ?_) | refine zN2 (fun hlen => ?_) | refine zAl (fun _ => ?_) | refine zBx (fun _ => ?_))
            refine zCallR [0, 1, 2, 3, 4] hfo (fun _ _ h => h) ?_
            repeat (first | refine gG ?_ | refine zN1 (fun hlen => ?_) | refine zN2 (fun hlen => ?_) | refine zAl (fun _ => ?_) | refine zBx (fun _ => ?_))
            exact ⟨i + 1, ⟨hi', he⟩, by omega, x_wkd 5 ⟨rfl, trivial⟩ rfl (by repeat (first | exact ag_refl | refine ag_upd rfl ?_ | refine ag_at rfl rfl ?_))⟩
          · rw [Bool.true_or] at he
            subst he
            repeat (first | refine gG ?_ | refine zN1 (fun hlen => ?_) | refine zN2 (fun hlen => ?_) | refine zAl (fun _ => ?_) | refine zBx (fun _ => ?_))
            refine zIx (i) (hi') ?_
            repeat (first | refine gG ?_ | refine zN1 (fun hlen => ?_) | refine zN2 (fun hlen => ?_) | refine zAl (fun _ => ?_) | refine zBx (fun _ => ?_))
            refine zEl (hat) (Ar.ts_len _) ?_
            repeat (first | refine gG ?_ | refine zN1 (fun hlen => ?_) | refine zN2 (fun hlen => ?_) | refine zAl (fun _ => ?_) | refine zBx (fun _ => ?_))
            refine zCall (hbd) ?_
            rintro _ rfl
            repeat (first | refine gG ?_ | refine zN1 (fun hlen => ?_) | refine zN2 (fun hlen => ?_) | refine zAl (fun _ => ?_) | refine zBx (fun _ => ?_))
            refine zCall (htw) ?_
            rintro _ rfl
            repeat (first | refine gG ?_ | refine zN1 (fun hlen => ?_) | refine zN2 (fun hlen => ?_) | refine zAl (fun _ => ?_) | refine zBx (fun _ => ?_))
            refine zCallR [0, 1, 2, 3, 4] hfo (fun _ _ h => h) ?_
            repeat (first | refine gG ?_ | refine zN1 (fun hlen => ?_) | refine zN2 (fun hlen => ?_) | refine zAl (fun _ => ?_) | refine zBx (fun _ => ?_))
            refine zG ?_
            exact ⟨rfl, rfl⟩
        · rw [htb] at he htw
          rw [Bool.true_or, Bool.true_or] at he
          subst he
          repeat (first | refine gG ?_ | refine zN1 (fun hlen => ?_) | refine zN2 (fun hlen => ?_) | refine zAl (fun _ => ?_) | refine zBx (fun _ => ?_))
          refine zIx (i) (hi') ?_
          repeat (first | refine gG ?_ | refine zN1 (fun hlen => ?_) | refine zN2 (fun hlen => ?_) | refine zAl (fun _ => ?_) | refine zBx (fun _ => ?_))
          refine zEl (hat) (Ar.ts_len _) ?_
          repeat (first | refine gG ?_ | refine zN1 (fun hlen => ?_) | refine zN2 (fun hlen => ?_) | refine zAl (fun _ => ?_) | refine zBx (fun _ => ?_))
          refine zCall (hbd) ?_
          rintro _ rfl
          repeat (first | refine gG ?_ | refine zN1 (fun hlen => ?_) | refine zN2 (fun hlen => ?_) | refine zAl (fun _ => ?_) | refine zBx (fun _ => ?_))
          refine zCall (htw) ?_
          rintro _ rfl
          repeat (first | refine gG ?_ | refine zN1 (fun hlen => ?_) | refine zN2 (fun hlen => ?_) | refine zAl (fun _ => ?_) | refine zBx (fun _ => ?_))
          refine zG ?_
          exact ⟨rfl, rfl⟩
      · have hi' : i = rs.length := by have : ¬ i < rs.length := by simpa using h
                                       omega
        subst hi'
        rw [List.drop_length] at he
        subst he
        clear h hrs
        repeat (first | refine gG ?_ | refine zN1 (fun hlen => ?_) | refine zN2 (fun hlen => ?_) | refine zAl (fun _ => ?_) | refine zBx (fun _ => ?_))
        refine zG ?_
        exact ⟨rfl, rfl⟩
    · rw [d0] at htn
      rw [Bool.true_or]
      clear hR hrs
      repeat (first | refine gG ?_ | refine zN1 (fun hlen => ?_) | refine zN2 (fun hlen => ?_) | refine zAl (fun _ => ?_) | refine zBf ?_)
      refine zCall (htn) ?_
      rintro _ rfl
      repeat (first | refine gG ?_ | refine zN1 (fun hlen => ?_) | refine zN2 (fun hlen => ?_) | refine zAl (fun _ => ?_) | refine zBx (fun _ => ?_))
      refine zG ?_
      exact ⟨rfl, rfl⟩
  have d10 : decide (k = 10) = false := decide_eq_false e10
  rw [if_neg e10]
  rw [Bool.false_or]
  repeat (first | refine gG ?_ | refine zN1 (fun hlen => ?_) | refine zN2 (fun hlen => ?_) | refine zAl (fun _ => ?_) | refine zBf ?_)
  repeat (first | refine gG ?_ | refine zN1 (fun hlen => ?_) | refine zN2 (fun hlen => ?_) | refine zAl (fun _ => ?_) | refine zBx (fun _ => ?_))
  refine x_loop [4, 6, 57, 58, 59, 60, 61, 62, 63, 64, 65, 66, 67, 68, 69, 70, 71] (fun i : Nat => [(57, .c (.lit (.int .i64 (i : Nat))))]) (fun _ => hdB b1 b2 b3 b4 br M1 M2 M3 ms) (fun i => i ≤ rs.length ∧ (rs.drop i).any (badPat E) = r) (fun i => rs.length - i) 0 ⟨Nat.zero_le _, hR⟩ ⟨rfl, trivial⟩ rfl ?_
  clear hR
  rintro i ⟨hi, he⟩
  repeat (first | refine gG ?_ | refine zN1 (fun hlen => ?_) | refine zN2 (fun hlen => ?_) | refine zAl (fun _ => ?_) | refine zBx (fun _ => ?_))
  refine x_cond rfl (fun h => ?_) (fun h => ?_)
  · have hi' : i < rs.length := by simpa using h
    obtain ⟨a, ha⟩ := nth hi'
    have hnd := hrs a (List.mem_of_getElem? ha)
    have hbd := bound_af a.pat hnd
    have htw := twice_af a.pat.binds (by have := a.pat.binds_len; omega)
    have hfo := foreign_ag b1 b2 b3 b4 br M1 M2 M3 ms E.mkr h1 a.pat
    have hat := Ar.at ha
    rw [any_drop ha, show badPat E a = (twB a.pat.binds || a.pat.frg E.mkr) from rfl] at he
    clear h ha hrs
    obtain ⟨⟨kq, nq, tq, lq⟩, ⟨ka, na, ta, nsa, ysa, la, rsa, qa⟩⟩ := a
    dsimp only [Ar.pat, Ar.body] at hbd htw hfo he
    generalize V.binds (.mk kq nq tq lq) = bq at *
    generalize V.frg E.mkr (.mk kq nq tq lq) = fq at *
    cases htb : twB bq
    · rw [htb] at he htw
      rw [Bool.false_or] at he
      cases fq
      · rw [Bool.false_or] at he
        repeat (first | refine gG ?_ | refine zN1 (fun hlen => ?_) | refine zN2 (fun hlen => ?_) | refine zAl (fun _ => ?_) | refine zBx (fun _ => ?_))
        refine zIx (i) (hi') ?_
        repeat (first | refine gG ?_ | refine zN1 (fun hlen => ?_) | refine zN2 (fun hlen => ?_) | refine zAl (fun _ => ?_) | refine zBx (fun _ => ?_))
        refine zEl (hat) (Ar.ts_len _) ?_
        repeat (first | refine gG ?_ | refine zN1 (fun hlen => ?_) | refine zN2 (fun hlen => ?_) | refine zAl (fun _ => ?_) | refine zBx (fun _ => ?_))
        refine zCall (hbd) ?_
        rintro _ rfl
        repeat (first | refine gG ?_ | refine zN1 (fun hlen => ?_) | refine zN2 (fun hlen => ?_) | refine zAl (fun _ => ?_) | refine zBx (fun _ => ?_))
        refine zCall (htw) ?_
        rintro _ rfl
        repeat (first | refine gG ?_ | refine zN1 (fun hlen => ?_) | refine zN2 (fun hlen => ?_) | refine zAl (fun _ => ?_) | refine zBx (fun _ => ?_))
        refine zCallR [0, 1, 2, 3, 4] hfo (fun _ _ h => h) ?_
        repeat (first | refine gG ?_ | refine zN1 (fun hlen => ?_) | refine zN2 (fun hlen => ?_) | refine zAl (fun _ => ?_) | refine zBx (fun _ => ?_))
        exact ⟨i + 1, ⟨hi', he⟩, by omega, x_wkd 5 ⟨rfl, trivial⟩ rfl (by repeat (first | exact ag_refl | refine ag_upd rfl ?_ | refine ag_at rfl rfl ?_))⟩
      · rw [Bool.true_or] at he
        subst he
        repeat (first | refine gG ?_ | refine zN1 (fun hlen => ?_) | refine zN2 (fun hlen => ?_) | refine zAl (fun _ => ?_) | refine zBx (fun _ => ?_))
        refine zIx (i) (hi') ?_
        repeat (first | refine gG ?_ | refine zN1 (fun hlen => ?_) | refine zN2 (fun hlen => ?_) | refine zAl (fun _ => ?_) | refine zBx (fun _ => ?_))
        refine zEl (hat) (Ar.ts_len _) ?_
        repeat (first | refine gG ?_ | refine zN1 (fun hlen => ?_) | refine zN2 (fun hlen => ?_) | refine zAl (fun _ => ?_) | refine zBx (fun _ => ?_))
        refine zCall (hbd) ?_
        rintro _ rfl
        repeat (first | refine gG ?_ | refine zN1 (fun hlen => ?_) | refine zN2 (fun hlen => ?_) | refine zAl (fun _ => ?_) | refine zBx (fun _ => ?_))
        refine zCall (htw) ?_
        rintro _ rfl
        repeat (first | refine gG ?_ | refine zN1 (fun hlen => ?_) | refine zN2 (fun hlen => ?_) | refine zAl (fun _ => ?_) | refine zBx (fun _ => ?_))
        refine zCallR [0, 1, 2, 3, 4] hfo (fun _ _ h => h) ?_
        repeat (first | refine gG ?_ | refine zN1 (fun hlen => ?_) | refine zN2 (fun hlen => ?_) | refine zAl (fun _ => ?_) | refine zBx (fun _ => ?_))
        refine zG ?_
        exact ⟨rfl, rfl⟩
    · rw [htb] at he htw
      rw [Bool.true_or, Bool.true_or] at he
      subst he
      repeat (first | refine gG ?_ | refine zN1 (fun hlen => ?_) | refine zN2 (fun hlen => ?_) | refine zAl (fun _ => ?_) | refine zBx (fun _ => ?_))
      refine zIx (i) (hi') ?_
      repeat (first | refine gG ?_ | refine zN1 (fun hlen => ?_) | refine zN2 (fun hlen => ?_) | refine zAl (fun _ => ?_) | refine zBx (fun _ => ?_))
      refine zEl (hat) (Ar.ts_len _) ?_
      repeat (first | refine gG ?_ | refine zN1 (fun hlen => ?_) | refine zN2 (fun hlen => ?_) | refine zAl (fun _ => ?_) | refine zBx (fun _ => ?_))
      refine zCall (hbd) ?_
      rintro _ rfl
      repeat (first | refine gG ?_ | refine zN1 (fun hlen => ?_) | refine zN2 (fun hlen => ?_) | refine zAl (fun _ => ?_) | refine zBx (fun _ => ?_))
      refine zCall (htw) ?_
      rintro _ rfl
      repeat (first | refine gG ?_ | refine zN1 (fun hlen => ?_) | refine zN2 (fun hlen => ?_) | refine zAl (fun _ => ?_) | refine zBx (fun _ => ?_))
      refine zG ?_
      exact ⟨rfl, rfl⟩
  · have hi' : i = rs.length := by have : ¬ i < rs.length := by simpa using h
                                   omega
    subst hi'
    rw [List.drop_length] at he
    subst he
    clear h hrs
    repeat (first | refine gG ?_ | refine zN1 (fun hlen => ?_) | refine zN2 (fun hlen => ?_) | refine zAl (fun _ => ?_) | refine zBx (fun _ => ?_))
    refine zG ?_
    exact ⟨rfl, rfl⟩
/-- a visit finds the first wrong name, and leaves the names in scope asq they were -/
def VisitsS (E : Env) (e : Ex) : Prop := ∀ (b1 b2 b3 b4 br : Nat) (M1 M2 M3 ms : List (ByteArray × T)) (B : List ByteArray), SeenOk M1 E.mkr → SeenOk M2 E.ca → SeenOk M3 E.ac → BndOk ms B → B.length + e.mass ≤ 1048576 →
  AG Try.prog 32 [.ptr 3 br 0, .c e.t] (hdB b1 b2 b3 b4 br M1 M2 M3 ms) (fun r hs => ∃ ms', r = .tup [.c (.lit (.int .i64 ((e.sc E B).getD 0))), .c (.lit (.bool (e.sc E B).isSome))] ∧ hs = hdB b1 b2 b3 b4 br M1 M2 M3 ms' ∧ BndOk ms' B)
set_option maxRecDepth 100000 in
set_option maxHeartbeats 4000000 in
theorem underS_ag (E : Env) (ns : List ByteArray) (e : Ex) (hv : VisitsS E e) (b1 b2 b3 b4 br : Nat) (M1 M2 M3 ms : List (ByteArray × T)) (B : List ByteArray) (h1 : SeenOk M1 E.mkr) (h2 : SeenOk M2 E.ca) (h3 : SeenOk M3 E.ac) (hb : BndOk ms B) (hB : B.length + (ns.length + e.mass) ≤ 1048576) :
    AG Try.prog 39 [.ptr 3 br 0, .c (strRow ns), .c e.t] (hdB b1 b2 b3 b4 br M1 M2 M3 ms) (fun r hs => ∃ ms', r = .tup [.c (.lit (.int .i64 ((e.sc E (B ++ ns)).getD 0))), .c (.lit (.bool (e.sc E (B ++ ns)).isSome))] ∧ hs = hdB b1 b2 b3 b4 br M1 M2 M3 ms' ∧ BndOk ms' B) := by
  have hvis := fun mb' h => hv b1 b2 b3 b4 br M1 M2 M3 mb' (B ++ ns) h1 h2 h3 h (by rw [List.length_append]; omega)
  clear hv h1 h2 h3
  generalize e.sc E (B ++ ns) = o at *
  obtain ⟨k0, n0, t0, ns0, ys0, l0, rs0, p0⟩ := e
  refine ag_enter (5) tok Try.func39 Try.ntmps39 Try.results39 rfl (by kernel_rfl) rfl fun F => ?_
  repeat (first | refine gG ?_ | refine zN1 (fun hlen => ?_) | refine zN2 (fun hlen => ?_) | refine zBf ?_)
  refine x_loop [9, 16, 17, 18, 19, 20, 21, 22, 23, 24, 25, 26, 27] (fun y : Nat × List (ByteArray × T) => [(16, .c (.lit (.int .i64 (y.1 : Nat))))]) (fun y => hdB b1 b2 b3 b4 br M1 M2 M3 y.2) (fun y => y.1 ≤ ns.length ∧ BndOk y.2 (B ++ ns.take y.1)) (fun y => ns.length - y.1) (0, ms) ⟨Nat.zero_le _, by rw [List.take_zero, List.append_nil]; exact hb⟩ ⟨rfl, trivial⟩ rfl ?_
  rintro ⟨k, mb1⟩ ⟨hk, hb1⟩
  dsimp only at hk hb1 ⊢
  repeat (first | refine gG ?_ | refine zN1 (fun hlen => ?_) | refine zN2 (fun hlen => ?_) | refine zBx (fun _ => ?_))
  refine x_cond rfl (fun h => ?_) (fun h => ?_)
  · have hk' : k < ns.length := by simpa using h
    obtain ⟨s, hsk⟩ := nth hk'
    have hlk := hb1 s
    have htl := times_le s (B ++ ns.take k)
    have htn : ns.take (k + 1) = ns.take k ++ [s] := by rw [List.take_add_one, hsk]; rfl
    have hte : times s (B ++ ns.take (k + 1)) = times s (B ++ ns.take k) + 1 := by rw [htn, ← List.append_assoc, times_app]; simp [times]
    have hnx : BndOk (mput s (.lit (.int .i64 ((times s (B ++ ns.take k) + 1 : Nat) : Int))) mb1) (B ++ ns.take (k + 1)) := hb1.put s _ (by rw [hte]) (fun x hx => by rw [htn, ← List.append_assoc, times_app]; simp [times, Ne.symm hx])
    rw [List.length_append, List.length_take] at htl
    have hbnd : times s (B ++ ns.take k) < 9223372036854775807 := by omega
    clear h hb1 htn hte hvis
    generalize times s (B ++ ns.take k) = m at *
    repeat (first | refine gG ?_ | refine zN1 (fun hlen => ?_) | refine zN2 (fun hlen => ?_) | refine zBx (fun _ => ?_))
    refine zIx k hk' ?_
    repeat (first | refine gG ?_ | refine zN1 (fun hlen => ?_) | refine zN2 (fun hlen => ?_) | refine zBx (fun _ => ?_))
    refine zEl1 (str_at1 hsk) ?_
    repeat (first | refine gG ?_ | refine zN1 (fun hlen => ?_) | refine zN2 (fun hlen => ?_) | refine zBx (fun _ => ?_))
    refine zLks 9 3 hlk ?_
    repeat (first | refine gG ?_ | refine zN1 (fun hlen => ?_) | refine zN2 (fun hlen => ?_) | refine zBx (fun _ => ?_))
    refine zUps 9 3 ?_
    repeat (first | refine gG ?_ | refine zN1 (fun hlen => ?_) | refine zN2 (fun hlen => ?_) | refine zBx (fun _ => ?_))
    exact ⟨(k + 1, _), ⟨hk', hnx⟩, by simp only; omega, x_wkd 5 ⟨rfl, trivial⟩ rfl (by repeat (first | exact ag_refl | refine ag_upd rfl ?_ | refine ag_at rfl rfl ?_))⟩
  · have hk' : k = ns.length := by
      have : ¬ k < ns.length := by simpa using h
      omega
    subst hk'
    clear h
    rw [List.take_length] at hb1
    have hc := hvis mb1 hb1
    clear hvis
    repeat (first | refine gG ?_ | refine zN1 (fun hlen => ?_) | refine zN2 (fun hlen => ?_) | refine zBx (fun _ => ?_))
    refine zCallG [0, 1, 2, 3, 4] hc ?_
    rintro _ _ ⟨mb2, rfl, rfl, hb2⟩
    refine ⟨_, _, re_refl, rfl, rfl, ?_⟩
    clear hc hb1 hb
    repeat (first | refine gG ?_ | refine zN1 (fun hlen => ?_) | refine zN2 (fun hlen => ?_) | refine zBx (fun _ => ?_))
    refine x_loop [13, 36, 37, 38, 39, 40, 41, 42, 43, 44, 45, 46, 47] (fun y : Nat × List (ByteArray × T) => [(36, .c (.lit (.int .i64 (y.1 : Nat))))]) (fun y => hdB b1 b2 b3 b4 br M1 M2 M3 y.2) (fun y => y.1 ≤ ns.length ∧ BndOk y.2 (B ++ ns.drop y.1)) (fun y => ns.length - y.1) (0, mb2) ⟨Nat.zero_le _, hb2⟩ ⟨rfl, trivial⟩ rfl ?_
    rintro ⟨k, mb1⟩ ⟨hk, hb1⟩
    dsimp only at hk hb1 ⊢
    repeat (first | refine gG ?_ | refine zN1 (fun hlen => ?_) | refine zN2 (fun hlen => ?_) | refine zBx (fun _ => ?_))
    refine x_cond rfl (fun h => ?_) (fun h => ?_)
    · have hk' : k < ns.length := by simpa using h
      obtain ⟨s, hsk⟩ := nth hk'
      have hlk := hb1 s
      have htl := times_le s (B ++ ns.drop k)
      have htn : ns.drop k = s :: ns.drop (k + 1) := by
        obtain ⟨h1, rfl⟩ := List.getElem?_eq_some_iff.1 hsk
        exact List.drop_eq_getElem_cons h1
      have hte : times s (B ++ ns.drop k) = times s (B ++ ns.drop (k + 1)) + 1 := by rw [htn, times_app, times_app]; simp [times]; omega
      have hnx : BndOk (mput s (.lit (.int .i64 ((times s (B ++ ns.drop (k + 1)) : Nat) : Int))) mb1) (B ++ ns.drop (k + 1)) := hb1.put s _ rfl (fun x hx => by rw [htn, times_app, times_app]; simp [times, Ne.symm hx])
      rw [List.length_append, List.length_drop] at htl
      rw [hte] at hlk htl
      clear h hb1 htn hte
      generalize times s (B ++ ns.drop (k + 1)) = m at *
      repeat (first | refine gG ?_ | refine zN1 (fun hlen => ?_) | refine zN2 (fun hlen => ?_) | refine zBx (fun _ => ?_))
      refine zIx k hk' ?_
      repeat (first | refine gG ?_ | refine zN1 (fun hlen => ?_) | refine zN2 (fun hlen => ?_) | refine zBx (fun _ => ?_))
      refine zEl1 (str_at1 hsk) ?_
      repeat (first | refine gG ?_ | refine zN1 (fun hlen => ?_) | refine zN2 (fun hlen => ?_) | refine zBx (fun _ => ?_))
      refine zLks 9 3 hlk ?_
      repeat (first | refine gG ?_ | refine zN1 (fun hlen => ?_) | refine zN2 (fun hlen => ?_) | refine zBx (fun _ => ?_))
      refine lo_sub rfl rfl (r := (m : Int)) (by rw [IntWalk.i64_in _ (by omega)]; omega) ?_
      repeat (first | refine gG ?_ | refine zN1 (fun hlen => ?_) | refine zN2 (fun hlen => ?_) | refine zBx (fun _ => ?_))
      refine zUps 9 3 ?_
      repeat (first | refine gG ?_ | refine zN1 (fun hlen => ?_) | refine zN2 (fun hlen => ?_) | refine zBx (fun _ => ?_))
      exact ⟨(k + 1, _), ⟨hk', hnx⟩, by simp only; omega, x_wkd 5 ⟨rfl, trivial⟩ rfl (by repeat (first | exact ag_refl | refine ag_upd rfl ?_ | refine ag_at rfl rfl ?_))⟩
    · have hk' : k = ns.length := by
        have : ¬ k < ns.length := by simpa using h
        omega
      subst hk'
      clear h
      rw [List.drop_length, List.append_nil] at hb1
      repeat (first | refine gG ?_ | refine zN1 (fun hlen => ?_) | refine zN2 (fun hlen => ?_) | refine zBx (fun _ => ?_))
      refine zG ?_
      exact ⟨_, rfl, rfl, hb1⟩
end Go.Proofs.Ytldhlbjengpdbaa
namespace Go.Proofs.Ytldhlbjengpdbaa
open Go.RowKit
theorem sc_eq (E : Env) (k n : Int) (t : ByteArray) (ns : List ByteArray) (ys : List Y) (l : List Ex) (rs : List Ar) (a : Int) (B : List ByteArray) : (Ex.mk k n t ns ys l rs a).sc E B = bif wrongE E B k t ns rs then some a else match Ex.scs E k t ns l 0 B with | some x => some x | none => Ar.scs E rs B := by rw [Ex.sc]; rfl
theorem nil_strs : ∀ M u, RA M (.c (.lit (.slice none 0 0))) u → RA M (.c (strRow [])) u := fun M u h => by
  simp only [RA] at h ⊢
  exact rt_nil (by omega) h
set_option maxRecDepth 100000 in
set_option maxHeartbeats 16000000 in
theorem visitS_ag (E : Env) (e : Ex) : VisitsS E e := by
  induction e using Ex.ind with
  | h k n t ns ys l rs p ih ihr =>
    intro b1 b2 b3 b4 br M1 M2 M3 ms B h1 h2 h3 hb hB
    rw [Ex.mass, Ex.masses_sum, Ar.masses_sum] at hB
    have hsl := strSize_len ns
    have hfk := far_pos k
    have hBl : B.length + (ns.length + 1 + (l.map Ex.mass).sum) + (rs.map Ar.mass).sum ≤ 1048576 := by omega
    have hnl : ns.length ≤ 1048576 := by omega
    have hrs : ∀ r ∈ rs, r.pat.nodes ≤ 1048576 := fun r hr => by
      have h1 := sum_mem' Ar.mass hr
      have h2 := r.pat.nodes_mass
      obtain ⟨qa, ba⟩ := r
      simp only [Ar.mass, Ar.pat] at *
      omega
    clear hB hsl hfk
    have hw := wrong_ag E b1 b2 b3 b4 br M1 M2 M3 ms B h1 h2 h3 hb k n t ns ys l rs p hnl hrs
    rw [sc_eq]
    generalize wrongE E B k t ns rs = wr at *
    clear hnl
    cases wr
    rotate_left
    · clear ih ihr
      refine ag_enter (5) tok Try.func32 Try.ntmps32 Try.results32 rfl (by kernel_rfl) rfl fun F => ?_
      repeat (first | refine gG ?_ | refine zN1 (fun hlen => ?_) | refine zN2 (fun hlen => ?_) | refine zAl (fun _ => ?_) | refine zBf ?_)
      refine zCallR [0, 1, 2, 3, 4] hw (fun _ _ h => h) ?_
      repeat (first | refine gG ?_ | refine zN1 (fun hlen => ?_) | refine zN2 (fun hlen => ?_) | refine zAl (fun _ => ?_) | refine zBx (fun _ => ?_))
      refine zG ?_
      exact ⟨ms, rfl, rfl, hb⟩
    rw [cond_false]
    generalize hS : Ex.scs E k t ns l 0 B = S
    refine ag_enter (5) tok Try.func32 Try.ntmps32 Try.results32 rfl (by kernel_rfl) rfl fun F => ?_
    repeat (first | refine gG ?_ | refine zN1 (fun hlen => ?_) | refine zN2 (fun hlen => ?_) | refine zAl (fun _ => ?_) | refine zBf ?_)
    refine zCallR [0, 1, 2, 3, 4] hw (fun _ _ h => h) ?_
    clear hw
    repeat (first | refine gG ?_ | refine zN1 (fun hlen => ?_) | refine zN2 (fun hlen => ?_) | refine zAl (fun _ => ?_) | refine zBx (fun _ => ?_))
    refine x_loop [4, 5, 6, 7, 8, 9, 10, 23, 24, 25, 26, 27, 28, 29, 30, 31, 32, 33, 34, 35, 36, 37, 38, 39, 40, 41, 42, 43, 44, 45, 46, 47, 48, 49, 50, 51, 52, 53, 54] (fun y : Nat × List (ByteArray × T) => [(23, .c (.lit (.int .i64 (y.1 : Nat))))]) (fun y => hdB b1 b2 b3 b4 br M1 M2 M3 y.2) (fun y => y.1 ≤ l.length ∧ BndOk y.2 B ∧ Ex.scs E k t ns (l.drop y.1) y.1 B = S) (fun y => l.length - y.1) (0, ms) ⟨Nat.zero_le _, hb, hS⟩ ⟨rfl, trivial⟩ rfl ?_
    clear hb hS
    rintro ⟨j, ms1⟩ ⟨hj, hb1, he⟩
    dsimp only at hj hb1 he ⊢
    repeat (first | refine gG ?_ | refine zN1 (fun hlen => ?_) | refine zN2 (fun hlen => ?_) | refine zAl (fun _ => ?_) | refine zBx (fun _ => ?_))
    refine x_cond rfl (fun h => ?_) (fun h => ?_)
    · have hj' : j < l.length := by simpa using h
      obtain ⟨a, ha⟩ := nth hj'
      have hma := sum_mem' Ex.mass (List.mem_of_getElem? ha)
      have hin : (inner k t ns j).length ≤ ns.length + 1 := by
        unfold inner
        cases decide (k = 10)
        · cases decide (k = 6) && decide ((j : Int) = 1)
          · simp
          · simp
        · simp
      have hc := underS_ag E (inner k t ns j) a (ih a (List.mem_of_getElem? ha)) b1 b2 b3 b4 br M1 M2 M3 ms1 B h1 h2 h3 hb1 (by omega)
      have hst := scs_at E (k := k) (t := t) (ns := ns) B (i := 0) ha
      rw [Nat.zero_add] at hst
      rw [hst] at he
      simp only [Nat.zero_add] at he
      have hat := Ex.at ha
      clear h ha ih ihr hma hin hb1 hst hrs
      generalize a.sc E (B ++ inner k t ns j) = oa at *
      obtain ⟨ka, na, ta, nsa, ysa, la, rsa, qa⟩ := a
      cases d6 : decide (k = 6)
      · cases d10 : decide (k = 10)
        · have hni : inner k t ns j = [] := by unfold inner; rw [d6, d10]; rfl
          rw [hni] at hc
          replace hc := AG.res hc (us' := [.ptr 3 br 0, .c (.lit (.slice none 0 0)), .c (Ex.mk ka na ta nsa ysa la rsa qa).t]) (res_cons re_refl (res_cons nil_strs (res_cons re_refl res_nil)))
          clear hni
          cases hoa : oa with
          | none =>
            subst hoa
            dsimp only at he hc
            repeat (first | refine gG ?_ | refine zN1 (fun hlen => ?_) | refine zN2 (fun hlen => ?_) | refine zAl (fun _ => ?_) | refine zBx (fun _ => ?_))
            refine zIx (j) (hj') ?_
            repeat (first | refine gG ?_ | refine zN1 (fun hlen => ?_) | refine zN2 (fun hlen => ?_) | refine zAl (fun _ => ?_) | refine zBx (fun _ => ?_))
            refine zEl (hat) (Ex.ts_len _) ?_
            repeat (first | refine gG ?_ | refine zN1 (fun hlen => ?_) | refine zN2 (fun hlen => ?_) | refine zAl (fun _ => ?_) | refine zBx (fun _ => ?_))
            refine zCallG [0, 1, 2, 3, 4] hc ?_
            rintro _ _ ⟨ms2, rfl, rfl, hb2⟩
            refine ⟨_, _, re_refl, rfl, rfl, ?_⟩
            repeat (first | refine gG ?_ | refine zN1 (fun hlen => ?_) | refine zN2 (fun hlen => ?_) | refine zAl (fun _ => ?_) | refine zBx (fun _ => ?_))
            exact ⟨(j + 1, ms2), ⟨hj', hb2, he⟩, by simp only; omega, x_wkd 5 ⟨rfl, trivial⟩ rfl (by repeat (first | exact ag_refl | refine ag_upd rfl ?_ | refine ag_at rfl rfl ?_))⟩
          | some x =>
            subst hoa
            dsimp only at he hc
            subst he
            repeat (first | refine gG ?_ | refine zN1 (fun hlen => ?_) | refine zN2 (fun hlen => ?_) | refine zAl (fun _ => ?_) | refine zBx (fun _ => ?_))
            refine zIx (j) (hj') ?_
            repeat (first | refine gG ?_ | refine zN1 (fun hlen => ?_) | refine zN2 (fun hlen => ?_) | refine zAl (fun _ => ?_) | refine zBx (fun _ => ?_))
            refine zEl (hat) (Ex.ts_len _) ?_
            repeat (first | refine gG ?_ | refine zN1 (fun hlen => ?_) | refine zN2 (fun hlen => ?_) | refine zAl (fun _ => ?_) | refine zBx (fun _ => ?_))
            refine zCallG [0, 1, 2, 3, 4] hc ?_
            rintro _ _ ⟨ms2, rfl, rfl, hb2⟩
            refine ⟨_, _, re_refl, rfl, rfl, ?_⟩
            repeat (first | refine gG ?_ | refine zN1 (fun hlen => ?_) | refine zN2 (fun hlen => ?_) | refine zAl (fun _ => ?_) | refine zBx (fun _ => ?_))
            refine zG ?_
            exact ⟨ms2, rfl, rfl, hb2⟩
        · have hni : inner k t ns j = ns := by unfold inner; rw [d10]; rfl
          rw [hni] at hc
          clear hni
          cases hoa : oa with
          | none =>
            subst hoa
            dsimp only at he hc
            repeat (first | refine gG ?_ | refine zN1 (fun hlen => ?_) | refine zN2 (fun hlen => ?_) | refine zAl (fun _ => ?_) | refine zBx (fun _ => ?_))
            refine zIx (j) (hj') ?_
            repeat (first | refine gG ?_ | refine zN1 (fun hlen => ?_) | refine zN2 (fun hlen => ?_) | refine zAl (fun _ => ?_) | refine zBx (fun _ => ?_))
            refine zEl (hat) (Ex.ts_len _) ?_
            repeat (first | refine gG ?_ | refine zN1 (fun hlen => ?_) | refine zN2 (fun hlen => ?_) | refine zAl (fun _ => ?_) | refine zBx (fun _ => ?_))
            refine zCallG [0, 1, 2, 3, 4] hc ?_
            rintro _ _ ⟨ms2, rfl, rfl, hb2⟩
            refine ⟨_, _, re_refl, rfl, rfl, ?_⟩
            repeat (first | refine gG ?_ | refine zN1 (fun hlen => ?_) | refine zN2 (fun hlen => ?_) | refine zAl (fun _ => ?_) | refine zBx (fun _ => ?_))
            exact ⟨(j + 1, ms2), ⟨hj', hb2, he⟩, by simp only; omega, x_wkd 5 ⟨rfl, trivial⟩ rfl (by repeat (first | exact ag_refl | refine ag_upd rfl ?_ | refine ag_at rfl rfl ?_))⟩
          | some x =>
            subst hoa
            dsimp only at he hc
            subst he
            repeat (first | refine gG ?_ | refine zN1 (fun hlen => ?_) | refine zN2 (fun hlen => ?_) | refine zAl (fun _ => ?_) | refine zBx (fun _ => ?_))
            refine zIx (j) (hj') ?_
            repeat (first | refine gG ?_ | refine zN1 (fun hlen => ?_) | refine zN2 (fun hlen => ?_) | refine zAl (fun _ => ?_) | refine zBx (fun _ => ?_))
            refine zEl (hat) (Ex.ts_len _) ?_
            repeat (first | refine gG ?_ | refine zN1 (fun hlen => ?_) | refine zN2 (fun hlen => ?_) | refine zAl (fun _ => ?_) | refine zBx (fun _ => ?_))
            refine zCallG [0, 1, 2, 3, 4] hc ?_
            rintro _ _ ⟨ms2, rfl, rfl, hb2⟩
            refine ⟨_, _, re_refl, rfl, rfl, ?_⟩
            repeat (first | refine gG ?_ | refine zN1 (fun hlen => ?_) | refine zN2 (fun hlen => ?_) | refine zAl (fun _ => ?_) | refine zBx (fun _ => ?_))
            refine zG ?_
            exact ⟨ms2, rfl, rfl, hb2⟩
      · have d10 : decide (k = 10) = false := decide_eq_false (by have := of_decide_eq_true d6; omega)
        cases dj : decide ((j : Int) = 1)
        · have hni : inner k t ns j = [] := by unfold inner; rw [d6, d10, dj]; rfl
          rw [hni] at hc
          replace hc := AG.res hc (us' := [.ptr 3 br 0, .c (.lit (.slice none 0 0)), .c (Ex.mk ka na ta nsa ysa la rsa qa).t]) (res_cons re_refl (res_cons nil_strs (res_cons re_refl res_nil)))
          clear hni
          cases hoa : oa with
          | none =>
            subst hoa
            dsimp only at he hc
            repeat (first | refine gG ?_ | refine zN1 (fun hlen => ?_) | refine zN2 (fun hlen => ?_) | refine zAl (fun _ => ?_) | refine zBx (fun _ => ?_))
            refine zIx (j) (hj') ?_
            repeat (first | refine gG ?_ | refine zN1 (fun hlen => ?_) | refine zN2 (fun hlen => ?_) | refine zAl (fun _ => ?_) | refine zBx (fun _ => ?_))
            refine zEl (hat) (Ex.ts_len _) ?_
            repeat (first | refine gG ?_ | refine zN1 (fun hlen => ?_) | refine zN2 (fun hlen => ?_) | refine zAl (fun _ => ?_) | refine zBx (fun _ => ?_))
            refine zCallG [0, 1, 2, 3, 4] hc ?_
            rintro _ _ ⟨ms2, rfl, rfl, hb2⟩
            refine ⟨_, _, re_refl, rfl, rfl, ?_⟩
            repeat (first | refine gG ?_ | refine zN1 (fun hlen => ?_) | refine zN2 (fun hlen => ?_) | refine zAl (fun _ => ?_) | refine zBx (fun _ => ?_))
            exact ⟨(j + 1, ms2), ⟨hj', hb2, he⟩, by simp only; omega, x_wkd 5 ⟨rfl, trivial⟩ rfl (by repeat (first | exact ag_refl | refine ag_upd rfl ?_ | refine ag_at rfl rfl ?_))⟩
          | some x =>
            subst hoa
            dsimp only at he hc
            subst he
            repeat (first | refine gG ?_ | refine zN1 (fun hlen => ?_) | refine zN2 (fun hlen => ?_) | refine zAl (fun _ => ?_) | refine zBx (fun _ => ?_))
            refine zIx (j) (hj') ?_
            repeat (first | refine gG ?_ | refine zN1 (fun hlen => ?_) | refine zN2 (fun hlen => ?_) | refine zAl (fun _ => ?_) | refine zBx (fun _ => ?_))
            refine zEl (hat) (Ex.ts_len _) ?_
            repeat (first | refine gG ?_ | refine zN1 (fun hlen => ?_) | refine zN2 (fun hlen => ?_) | refine zAl (fun _ => ?_) | refine zBx (fun _ => ?_))
            refine zCallG [0, 1, 2, 3, 4] hc ?_
            rintro _ _ ⟨ms2, rfl, rfl, hb2⟩
            refine ⟨_, _, re_refl, rfl, rfl, ?_⟩
            repeat (first | refine gG ?_ | refine zN1 (fun hlen => ?_) | refine zN2 (fun hlen => ?_) | refine zAl (fun _ => ?_) | refine zBx (fun _ => ?_))
            refine zG ?_
            exact ⟨ms2, rfl, rfl, hb2⟩
        · have hni : inner k t ns j = [t] := by unfold inner; rw [d6, d10, dj]; rfl
          rw [hni] at hc
          clear hni
          cases hoa : oa with
          | none =>
            subst hoa
            dsimp only at he hc
            repeat (first | refine gG ?_ | refine zN1 (fun hlen => ?_) | refine zN2 (fun hlen => ?_) | refine zAl (fun _ => ?_) | refine zBx (fun _ => ?_))
            refine zIx (j) (hj') ?_
            repeat (first | refine gG ?_ | refine zN1 (fun hlen => ?_) | refine zN2 (fun hlen => ?_) | refine zAl (fun _ => ?_) | refine zBx (fun _ => ?_))
            refine zEl (hat) (Ex.ts_len _) ?_
            repeat (first | refine gG ?_ | refine zN1 (fun hlen => ?_) | refine zN2 (fun hlen => ?_) | refine zAl (fun _ => ?_) | refine zBx (fun _ => ?_))
            refine zCallG [0, 1, 2, 3, 4] hc ?_
            rintro _ _ ⟨ms2, rfl, rfl, hb2⟩
            refine ⟨_, _, re_refl, rfl, rfl, ?_⟩
            repeat (first | refine gG ?_ | refine zN1 (fun hlen => ?_) | refine zN2 (fun hlen => ?_) | refine zAl (fun _ => ?_) | refine zBx (fun _ => ?_))
            exact ⟨(j + 1, ms2), ⟨hj', hb2, he⟩, by simp only; omega, x_wkd 5 ⟨rfl, trivial⟩ rfl (by repeat (first | exact ag_refl | refine ag_upd rfl ?_ | refine ag_at rfl rfl ?_))⟩
          | some x =>
            subst hoa
            dsimp only at he hc
            subst he
            repeat (first | refine gG ?_ | refine zN1 (fun hlen => ?_) | refine zN2 (fun hlen => ?_) | refine zAl (fun _ => ?_) | refine zBx (fun _ => ?_))
            refine zIx (j) (hj') ?_
            repeat (first | refine gG ?_ | refine zN1 (fun hlen => ?_) | refine zN2 (fun hlen => ?_) | refine zAl (fun _ => ?_) | refine zBx (fun _ => ?_))
            refine zEl (hat) (Ex.ts_len _) ?_
            repeat (first | refine gG ?_ | refine zN1 (fun hlen => ?_) | refine zN2 (fun hlen => ?_) | refine zAl (fun _ => ?_) | refine zBx (fun _ => ?_))
            refine zCallG [0, 1, 2, 3, 4] hc ?_
            rintro _ _ ⟨ms2, rfl, rfl, hb2⟩
            refine ⟨_, _, re_refl, rfl, rfl, ?_⟩
            repeat (first | refine gG ?_ | refine zN1 (fun hlen => ?_) | refine zN2 (fun hlen => ?_) | refine zAl (fun _ => ?_) | refine zBx (fun _ => ?_))
            refine zG ?_
            exact ⟨ms2, rfl, rfl, hb2⟩
    have hj' : j = l.length := by
      have : ¬ j < l.length := by simpa using h
      omega
    subst hj'
    rw [List.drop_length, Ex.scs] at he
    subst he
    clear h ih hj
    generalize hS : Ar.scs E rs B = S
    repeat (first | refine gG ?_ | refine zN1 (fun hlen => ?_) | refine zN2 (fun hlen => ?_) | refine zAl (fun _ => ?_) | refine zBx (fun _ => ?_))
    refine x_loop [4, 5, 12, 13, 14, 58, 59, 60, 61, 62, 63, 64, 65, 66, 67, 68, 69, 70, 71, 72, 73, 74] (fun y : Nat × List (ByteArray × T) => [(58, .c (.lit (.int .i64 (y.1 : Nat))))]) (fun y => hdB b1 b2 b3 b4 br M1 M2 M3 y.2) (fun y => y.1 ≤ rs.length ∧ BndOk y.2 B ∧ Ar.scs E (rs.drop y.1) B = S) (fun y => rs.length - y.1) (0, ms1) ⟨Nat.zero_le _, hb1, hS⟩ ⟨rfl, trivial⟩ rfl ?_
    clear hb1 hS
    rintro ⟨i, ms2⟩ ⟨hi, hb2, he⟩
    dsimp only at hi hb2 he ⊢
    repeat (first | refine gG ?_ | refine zN1 (fun hlen => ?_) | refine zN2 (fun hlen => ?_) | refine zAl (fun _ => ?_) | refine zBx (fun _ => ?_))
    refine x_cond rfl (fun h => ?_) (fun h => ?_)
    · have hi' : i < rs.length := by simpa using h
      obtain ⟨a, ha⟩ := nth hi'
      have hmm := sum_mem' Ar.mass (List.mem_of_getElem? ha)
      have hab := ar_binds a
      have hva : VisitsS E a.body := by obtain ⟨qa, ba⟩ := a; exact ihr _ (List.mem_of_getElem? ha) qa ba rfl
      have hc := underS_ag E a.pat.binds a.body hva b1 b2 b3 b4 br M1 M2 M3 ms2 B h1 h2 h3 hb2 (by omega)
      have hbd := bound_af a.pat (hrs a (List.mem_of_getElem? ha))
      have hat := Ar.at ha
      rw [arscs_at E B ha] at he
      clear h ha ihr hb2 hva hab hmm hrs
      generalize a.body.sc E (B ++ a.pat.binds) = oa at *
      obtain ⟨⟨kq, nq, tq, lq⟩, ⟨ka, na, ta, nsa, ysa, la, rsa, qa⟩⟩ := a
      dsimp only [Ar.pat, Ar.body] at hc hbd
      generalize V.binds (.mk kq nq tq lq) = bq at *
      cases hoa : oa with
      | none =>
        subst hoa
        dsimp only at he hc
        repeat (first | refine gG ?_ | refine zN1 (fun hlen => ?_) | refine zN2 (fun hlen => ?_) | refine zAl (fun _ => ?_) | refine zBx (fun _ => ?_))
        refine zIx (i) (hi') ?_
        repeat (first | refine gG ?_ | refine zN1 (fun hlen => ?_) | refine zN2 (fun hlen => ?_) | refine zAl (fun _ => ?_) | refine zBx (fun _ => ?_))
        refine zEl (hat) (Ar.ts_len _) ?_
        repeat (first | refine gG ?_ | refine zN1 (fun hlen => ?_) | refine zN2 (fun hlen => ?_) | refine zAl (fun _ => ?_) | refine zBx (fun _ => ?_))
        refine ac_draw [1, 1, 1, 1, 1, 1, 2, 1, 1, 1, 1, 1] [0, 1, 2, 3, 4, 5, 6, 7, 8, 9, 10, 11] (by kernel_rfl) (by kernel_rfl) ?_
        refine gW ?_
        apply w_q; (focus exact rfl); (focus exact rfl); focus (intro _; (refine zCall hbd ?_; rintro _ rfl); exact det_refl)
        refine gW ?_
        apply w_l; (focus exact rfl); (focus exact rfl); (refine zCallG [0, 1, 2, 3, 4] hc ?_; rintro _ _ ⟨ms3, rfl, rfl, hb3⟩; refine ⟨_, _, re_refl, rfl, rfl, ?_⟩)
        refine gW ?_
        refine w_nil ?_
        repeat (first | refine gG ?_ | refine zN1 (fun hlen => ?_) | refine zN2 (fun hlen => ?_) | refine zAl (fun _ => ?_) | refine zBx (fun _ => ?_))
        exact ⟨(i + 1, ms3), ⟨hi', hb3, he⟩, by simp only; omega, x_wkd 5 ⟨rfl, trivial⟩ rfl (by repeat (first | exact ag_refl | refine ag_upd rfl ?_ | refine ag_at rfl rfl ?_))⟩
      | some x =>
        subst hoa
        dsimp only at he hc
        subst he
        repeat (first | refine gG ?_ | refine zN1 (fun hlen => ?_) | refine zN2 (fun hlen => ?_) | refine zAl (fun _ => ?_) | refine zBx (fun _ => ?_))
        refine zIx (i) (hi') ?_
        repeat (first | refine gG ?_ | refine zN1 (fun hlen => ?_) | refine zN2 (fun hlen => ?_) | refine zAl (fun _ => ?_) | refine zBx (fun _ => ?_))
        refine zEl (hat) (Ar.ts_len _) ?_
        repeat (first | refine gG ?_ | refine zN1 (fun hlen => ?_) | refine zN2 (fun hlen => ?_) | refine zAl (fun _ => ?_) | refine zBx (fun _ => ?_))
        refine ac_draw [1, 1, 1, 1, 1, 1, 2, 1, 1, 1, 1, 1] [0, 1, 2, 3, 4, 5, 6, 7, 8, 9, 10, 11] (by kernel_rfl) (by kernel_rfl) ?_
        refine gW ?_
        apply w_q; (focus exact rfl); (focus exact rfl); focus (intro _; (refine zCall hbd ?_; rintro _ rfl); exact det_refl)
        refine gW ?_
        apply w_l; (focus exact rfl); (focus exact rfl); (refine zCallG [0, 1, 2, 3, 4] hc ?_; rintro _ _ ⟨ms3, rfl, rfl, hb3⟩; refine ⟨_, _, re_refl, rfl, rfl, ?_⟩)
        refine gW ?_
        refine w_nil ?_
        repeat (first | refine gG ?_ | refine zN1 (fun hlen => ?_) | refine zN2 (fun hlen => ?_) | refine zAl (fun _ => ?_) | refine zBx (fun _ => ?_))
        refine zG ?_
        exact ⟨ms3, rfl, rfl, hb3⟩
    · have hi' : i = rs.length := by
        have : ¬ i < rs.length := by simpa using h
        omega
      subst hi'
      rw [List.drop_length, Ar.scs] at he
      subst he
      clear h ihr
      repeat (first | refine gG ?_ | refine zN1 (fun hlen => ?_) | refine zN2 (fun hlen => ?_) | refine zAl (fun _ => ?_) | refine zBx (fun _ => ?_))
      refine zG ?_
      exact ⟨ms2, rfl, rfl, hb2⟩
end Go.Proofs.Ytldhlbjengpdbaa
