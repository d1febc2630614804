/-
  Texts of this proof, part 10: Koh Koi Ab53 Koj Kok.
-/
import Derived.Test.YtdogdjcjmhogmaaQMoveRuns9
import Derived.Lib.MinMax
namespace Go.Proofs.Ytdogdjcjmhogmaa
open Go.RowKit
theorem all_way (x : Fx) (W : Ws) : (allB x W).Perm ((hdB x W ++ W.ways.map wayR) ++ (W.wait.map elR ++ (W.got.map goR ++ ((keysE x.nA x.nd).map (inR x W.nxt) ++ (keysE x.nA x.nd).map (stR x W.sto))))) := by rw [List.append_assoc]
set_option maxRecDepth 100000 in
set_option maxHeartbeats 16000000 in
theorem do_shift (x : Fx) (w : Ws) (dk ds dd dw dn : Int) {t cw cy cs cg : Nat} (hZ : ZOk x.nA x.nd t cw cy cs cg w.z) (h0 : t ≤ 1000) (h2 : cy ≤ 800000) (hk : dk = 2) :
    AG Try.prog 52 [.ptr 0 x.b 0, .c (.agg (ddTs ⟨dk, ds, dd, dw, dn⟩))] (allB x w) (fun _ hs => Gave x (doZ x.nd ⟨dk, ds, dd, dw, dn⟩ w.z) hs) := by
  subst hk
  have hP : doZ x.nd ⟨2, ds, dd, dw, dn⟩ w.z = if isN x.nd dd ∧ isW w.at_.length dw ∧ w.at_.getD dw.toNat 0 ≠ 0 ∧ w.at_.getD dw.toNat 0 ≠ dd then
      { w.z with bel := upd2 w.bel (w.at_.getD dw.toNat 0) dw (dd, (w.bel (w.at_.getD dw.toNat 0) dw).2 + 1), at_ := w.at_.set dw.toNat 0, ways := pushL (w.at_.getD dw.toNat 0, dd) ⟨1, dw, 0, 0, 0, dd, (w.bel (w.at_.getD dw.toNat 0) dw).2 + 1⟩ w.z.ways } else w.z := rfl
  generalize doZ x.nd ⟨2, ds, dd, dw, dn⟩ w.z = Z at hP ⊢
  have hN := isNode_ag x dd
  have hW := isWho_ag x w.at_ dw
  have hal : w.at_.length = x.nA := hZ.alen
  cases e1 : decide (isN x.nd dd)
  · rw [e1] at hN
    have hz : w.z = Z := by rw [hP, if_neg (fun h => of_decide_eq_false e1 h.1)]
    clear hP e1
    refine ag_enter (0 + lenB x Z) tok Try.func52 Try.ntmps52 Try.results52 rfl (by kernel_rfl) rfl fun F => ?_
    repeat (first | refine gG ?_ | refine zN1 (fun hlen => ?_) | refine zN2 (fun hlen => ?_) | refine zAl (fun _ => ?_) | refine zBf ?_)
    refine ac_drawB [0, 0, 2, 7, 15, 31, 31, 95, 255, 511, 1023, 2047, 4095, 8191, 16383, 2047, 34815, 131071, 262143, 524287, 1048575, 2097151, 4194303, 8388607, 16777215, 33554431, 4194303, 71303167, 268435455, 536870911, 4194303, 1077936127, 4294967295, 8589934591] [1, 1, 1, 1, 1, 1, 1, 1, 1, 1, 1, 1, 1, 1, 1, 1, 1, 1, 1, 1, 1, 1, 1, 1, 1, 1, 1, 1, 1, 1, 1, 1, 1, 1] [0, 1, 2, 3, 4, 5, 6, 7, 8, 9, 10, 11, 12, 13, 14, 15, 16, 17, 18, 19, 20, 21, 22, 23, 24, 25, 26, 27, 28, 29, 30, 31, 32, 33] (by kernel_rfl) (by kernel_rfl) ?_
    refine gW ?_
    apply w_q; (focus exact rfl); (focus exact rfl); focus (intro _; (refine zCallR [0] hN (fun r hs h => h) ?_); exact det_refl)
    refine gW ?_
    refine w_nil ?_
    repeat (first | refine gG ?_ | refine zN1 (fun hlen => ?_) | refine zN2 (fun hlen => ?_) | refine zAl (fun _ => ?_) | refine zBx (fun _ => ?_))
    exact zGS (take_allB' hz (List.Perm.refl _)) ⟨w, hz, List.Perm.refl _⟩
  cases e2 : decide (isW w.at_.length dw)
  · rw [e1] at hN
    rw [e2] at hW
    have hz : w.z = Z := by rw [hP, if_neg (fun h => of_decide_eq_false e2 h.2.1)]
    clear hP e1 e2
    refine ag_enter (0 + lenB x Z) tok Try.func52 Try.ntmps52 Try.results52 rfl (by kernel_rfl) rfl fun F => ?_
    repeat (first | refine gG ?_ | refine zN1 (fun hlen => ?_) | refine zN2 (fun hlen => ?_) | refine zAl (fun _ => ?_) | refine zBf ?_)
    refine ac_drawB [0, 0, 2, 7, 15, 31, 31, 95, 255, 511, 1023, 2047, 4095, 8191, 16383, 2047, 34815, 131071, 262143, 524287, 1048575, 2097151, 4194303, 8388607, 16777215, 33554431, 4194303, 71303167, 268435455, 536870911, 4194303, 1077936127, 4294967295, 8589934591] [1, 1, 1, 1, 1, 1, 1, 1, 1, 1, 1, 1, 1, 1, 1, 1, 1, 1, 1, 1, 1, 1, 1, 1, 1, 1, 1, 1, 1, 1, 1, 1, 1, 1] [0, 1, 2, 3, 4, 5, 6, 7, 8, 9, 10, 11, 12, 13, 14, 15, 16, 17, 18, 19, 20, 21, 22, 23, 24, 25, 26, 27, 28, 29, 30, 31, 32, 33] (by kernel_rfl) (by kernel_rfl) ?_
    refine gW ?_
    apply w_q; (focus exact rfl); (focus exact rfl); focus (intro _; (refine zCallR [0] hN (fun r hs h => h) ?_); exact det_refl)
    refine gW ?_
    try (first | (apply w_un; (focus exact rfl); (focus exact rfl); (focus exact rfl); (focus exact rfl)) | (apply w_no; (focus exact rfl); (focus exact rfl); (focus exact rfl); (focus exact rfl); focus (first | rfl | assumption | exact neg_t (by assumption) | exact neg_f (by assumption))) | (apply w_qg; (focus exact rfl); (focus exact rfl); (focus exact rfl); (focus exact rfl); (focus (first | rfl | assumption | exact neg_t (by assumption) | exact neg_f (by assumption))); (focus (intro _; (refine zCallR [0, 1] hW (fun r hs h => h) ?_); exact det_refl))))
    try refine gW ?_
    refine w_nil ?_
    repeat (first | refine gG ?_ | refine zN1 (fun hlen => ?_) | refine zN2 (fun hlen => ?_) | refine zAl (fun _ => ?_) | refine zBx (fun _ => ?_))
    exact zGS (take_allB' hz (List.Perm.refl _)) ⟨w, hz, List.Perm.refl _⟩
  have hdd := of_decide_eq_true e1
  have hdw := of_decide_eq_true e2
  rw [e1] at hN
  rw [e2] at hW
  have hdw0 := hdw
  rw [hal] at hdw
  obtain ⟨j, rfl⟩ : ∃ j : Nat, dw = (j : Int) := ⟨dw.toNat, (isW_lt hdw).2.symm⟩
  have hjA : j < x.nA := (isW_lt hdw).1
  have hjl : j < w.at_.length := by rw [hal]; exact hjA
  obtain ⟨a, ha⟩ := nth hjl
  have hat := ints_at ha
  have had : w.at_.getD ((j : Int)).toNat 0 = a := by show w.at_.getD j 0 = a; rw [List.getD, ha]; rfl
  have hao := at_ok hZ hdw
  have hao' : 0 ≤ a ∧ a ≤ x.nd := by rw [← had]; exact hao
  rw [had] at hP
  cases e3 : decide (a = 0)
  rotate_left
  · have hz : w.z = Z := by rw [hP, if_neg (fun h => h.2.2.1 (of_decide_eq_true e3))]
    clear hP e1 e2
    refine ag_enter (0 + lenB x Z) tok Try.func52 Try.ntmps52 Try.results52 rfl (by kernel_rfl) rfl fun F => ?_
    repeat (first | refine gG ?_ | refine zN1 (fun hlen => ?_) | refine zN2 (fun hlen => ?_) | refine zAl (fun _ => ?_) | refine zBf ?_)
    refine ac_drawB [0, 0, 2, 7, 15, 31, 31, 95, 255, 511, 1023, 2047, 4095, 8191, 16383, 2047, 34815, 131071, 262143, 524287, 1048575, 2097151, 4194303, 8388607, 16777215, 33554431, 4194303, 71303167, 268435455, 536870911, 4194303, 1077936127, 4294967295, 8589934591] [1, 1, 1, 1, 1, 1, 1, 1, 1, 1, 1, 1, 1, 1, 1, 1, 1, 1, 1, 1, 1, 1, 1, 1, 1, 1, 1, 1, 1, 1, 1, 1, 1, 1] [0, 1, 2, 3, 4, 5, 6, 7, 8, 9, 10, 11, 12, 13, 14, 15, 16, 17, 18, 19, 20, 21, 22, 23, 24, 25, 26, 27, 28, 29, 30, 31, 32, 33] (by kernel_rfl) (by kernel_rfl) ?_
    refine gW ?_
    apply w_q; (focus exact rfl); (focus exact rfl); focus (intro _; (refine zCallR [0] hN (fun r hs h => h) ?_); exact det_refl)
    refine gW ?_
    try (first | (apply w_un; (focus exact rfl); (focus exact rfl); (focus exact rfl); (focus exact rfl)) | (apply w_no; (focus exact rfl); (focus exact rfl); (focus exact rfl); (focus exact rfl); focus (first | rfl | assumption | exact neg_t (by assumption) | exact neg_f (by assumption))) | (apply w_qg; (focus exact rfl); (focus exact rfl); (focus exact rfl); (focus exact rfl); (focus (first | rfl | assumption | exact neg_t (by assumption) | exact neg_f (by assumption))); (focus (intro _; (refine zCallR [0, 1] hW (fun r hs h => h) ?_); exact det_refl))))
    try refine gW ?_
    try (first | (apply w_un; (focus exact rfl); (focus exact rfl); (focus exact rfl); (focus exact rfl)) | (apply w_no; (focus exact rfl); (focus exact rfl); (focus exact rfl); (focus exact rfl); focus (first | rfl | assumption | exact neg_t (by assumption) | exact neg_f (by assumption))) | (apply w_qg; (focus exact rfl); (focus exact rfl); (focus exact rfl); (focus exact rfl); (focus (first | rfl | assumption | exact neg_t (by assumption) | exact neg_f (by assumption))); (focus (intro _; (refine zIxo j hjl ?_); exact det_refl))))
    (first | (apply w_un; (focus exact rfl); (focus exact rfl); (focus exact rfl); (focus exact rfl)) | (apply w_no; (focus exact rfl); (focus exact rfl); (focus exact rfl); (focus exact rfl); focus (first | rfl | assumption | exact neg_t (by assumption) | exact neg_f (by assumption))) | (apply w_qg; (focus exact rfl); (focus exact rfl); (focus exact rfl); (focus exact rfl); (focus (first | rfl | assumption | exact neg_t (by assumption) | exact neg_f (by assumption))); (focus (intro _; (refine zElo1 hat ?_); exact det_refl))))
    try refine gW ?_
    refine w_nil ?_
    repeat (first | refine gG ?_ | refine zN1 (fun hlen => ?_) | refine zN2 (fun hlen => ?_) | refine zAl (fun _ => ?_) | refine zBx (fun _ => ?_))
    exact zGS (take_allB' hz (List.Perm.refl _)) ⟨w, hz, List.Perm.refl _⟩
  cases e4 : decide (a = dd)
  rotate_left
  · have hz : w.z = Z := by rw [hP, if_neg (fun h => h.2.2.2 (of_decide_eq_true e4))]
    clear hP e1 e2
    refine ag_enter (0 + lenB x Z) tok Try.func52 Try.ntmps52 Try.results52 rfl (by kernel_rfl) rfl fun F => ?_
    repeat (first | refine gG ?_ | refine zN1 (fun hlen => ?_) | refine zN2 (fun hlen => ?_) | refine zAl (fun _ => ?_) | refine zBf ?_)
    refine ac_drawB [0, 0, 2, 7, 15, 31, 31, 95, 255, 511, 1023, 2047, 4095, 8191, 16383, 2047, 34815, 131071, 262143, 524287, 1048575, 2097151, 4194303, 8388607, 16777215, 33554431, 4194303, 71303167, 268435455, 536870911, 4194303, 1077936127, 4294967295, 8589934591] [1, 1, 1, 1, 1, 1, 1, 1, 1, 1, 1, 1, 1, 1, 1, 1, 1, 1, 1, 1, 1, 1, 1, 1, 1, 1, 1, 1, 1, 1, 1, 1, 1, 1] [0, 1, 2, 3, 4, 5, 6, 7, 8, 9, 10, 11, 12, 13, 14, 15, 16, 17, 18, 19, 20, 21, 22, 23, 24, 25, 26, 27, 28, 29, 30, 31, 32, 33] (by kernel_rfl) (by kernel_rfl) ?_
    refine gW ?_
    apply w_q; (focus exact rfl); (focus exact rfl); focus (intro _; (refine zCallR [0] hN (fun r hs h => h) ?_); exact det_refl)
    refine gW ?_
    try (first | (apply w_un; (focus exact rfl); (focus exact rfl); (focus exact rfl); (focus exact rfl)) | (apply w_no; (focus exact rfl); (focus exact rfl); (focus exact rfl); (focus exact rfl); focus (first | rfl | assumption | exact neg_t (by assumption) | exact neg_f (by assumption))) | (apply w_qg; (focus exact rfl); (focus exact rfl); (focus exact rfl); (focus exact rfl); (focus (first | rfl | assumption | exact neg_t (by assumption) | exact neg_f (by assumption))); (focus (intro _; (refine zCallR [0, 1] hW (fun r hs h => h) ?_); exact det_refl))))
    try refine gW ?_
    try (first | (apply w_un; (focus exact rfl); (focus exact rfl); (focus exact rfl); (focus exact rfl)) | (apply w_no; (focus exact rfl); (focus exact rfl); (focus exact rfl); (focus exact rfl); focus (first | rfl | assumption | exact neg_t (by assumption) | exact neg_f (by assumption))) | (apply w_qg; (focus exact rfl); (focus exact rfl); (focus exact rfl); (focus exact rfl); (focus (first | rfl | assumption | exact neg_t (by assumption) | exact neg_f (by assumption))); (focus (intro _; (refine zIxo j hjl ?_); exact det_refl))))
    (first | (apply w_un; (focus exact rfl); (focus exact rfl); (focus exact rfl); (focus exact rfl)) | (apply w_no; (focus exact rfl); (focus exact rfl); (focus exact rfl); (focus exact rfl); focus (first | rfl | assumption | exact neg_t (by assumption) | exact neg_f (by assumption))) | (apply w_qg; (focus exact rfl); (focus exact rfl); (focus exact rfl); (focus exact rfl); (focus (first | rfl | assumption | exact neg_t (by assumption) | exact neg_f (by assumption))); (focus (intro _; (refine zElo1 hat ?_); exact det_refl))))
    try refine gW ?_
    try (first | (apply w_un; (focus exact rfl); (focus exact rfl); (focus exact rfl); (focus exact rfl)) | (apply w_no; (focus exact rfl); (focus exact rfl); (focus exact rfl); (focus exact rfl); focus (first | rfl | assumption | exact neg_t (by assumption) | exact neg_f (by assumption))) | (apply w_qg; (focus exact rfl); (focus exact rfl); (focus exact rfl); (focus exact rfl); (focus (first | rfl | assumption | exact neg_t (by assumption) | exact neg_f (by assumption))); (focus (intro _; (refine zIxo j hjl ?_); exact det_refl))))
    (first | (apply w_un; (focus exact rfl); (focus exact rfl); (focus exact rfl); (focus exact rfl)) | (apply w_no; (focus exact rfl); (focus exact rfl); (focus exact rfl); (focus exact rfl); focus (first | rfl | assumption | exact neg_t (by assumption) | exact neg_f (by assumption))) | (apply w_qg; (focus exact rfl); (focus exact rfl); (focus exact rfl); (focus exact rfl); (focus (first | rfl | assumption | exact neg_t (by assumption) | exact neg_f (by assumption))); (focus (intro _; (refine zElo1 hat ?_); exact det_refl))))
    try refine gW ?_
    refine w_nil ?_
    repeat (first | refine gG ?_ | refine zN1 (fun hlen => ?_) | refine zN2 (fun hlen => ?_) | refine zAl (fun _ => ?_) | refine zBx (fun _ => ?_))
    exact zGS (take_allB' hz (List.Perm.refl _)) ⟨w, hz, List.Perm.refl _⟩
  have n3 := of_decide_eq_false e3
  have n4 := of_decide_eq_false e4
  rw [if_pos ⟨hdd, hdw0, n3, n4⟩] at hP
  have hia : isN x.nd a := by unfold isN; omega
  have hm := keysE_mem hia hdw
  have hlk : (mget (a, (j : Int)) (tabK (belT w.bel) (keysE x.nA x.nd))).getD (.agg [.lit (.int .i64 0), .lit (.int .i64 0)]) = belT w.bel (a, (j : Int)) := by rw [tabK_get _ _ hm]; rfl
  have hbo := hZ.bel a (j : Int) hia hdw
  have hbp := bel_put w.bel a (j : Int) (dd, (w.bel a j).2 + 1) hm
  have hbo' : 0 ≤ (w.bel a j).2 ∧ (w.bel a j).2 ≤ t := hbo.2
  have hyn := hZ.waysn
  have hbound := wayG_le (a, dd) w.z.ways
  clear e1 e2
  refine ag_enter (0 + lenB x Z) tok Try.func52 Try.ntmps52 Try.results52 rfl (by kernel_rfl) rfl fun F => ?_
  repeat (first | refine gG ?_ | refine zN1 (fun hlen => ?_) | refine zN2 (fun hlen => ?_) | refine zAl (fun _ => ?_) | refine zBf ?_)
  refine ac_drawB [0, 0, 2, 7, 15, 31, 31, 95, 255, 511, 1023, 2047, 4095, 8191, 16383, 2047, 34815, 131071, 262143, 524287, 1048575, 2097151, 4194303, 8388607, 16777215, 33554431, 4194303, 71303167, 268435455, 536870911, 4194303, 1077936127, 4294967295, 8589934591] [1, 1, 1, 1, 1, 1, 1, 1, 1, 1, 1, 1, 1, 1, 1, 1, 1, 1, 1, 1, 1, 1, 1, 1, 1, 1, 1, 1, 1, 1, 1, 1, 1, 1] [0, 1, 2, 3, 4, 5, 6, 7, 8, 9, 10, 11, 12, 13, 14, 15, 16, 17, 18, 19, 20, 21, 22, 23, 24, 25, 26, 27, 28, 29, 30, 31, 32, 33] (by kernel_rfl) (by kernel_rfl) ?_
  refine gW ?_
  apply w_q; (focus exact rfl); (focus exact rfl); focus (intro _; (refine zCallR [0] hN (fun r hs h => h) ?_); exact det_refl)
  refine gW ?_
  try (first | (apply w_un; (focus exact rfl); (focus exact rfl); (focus exact rfl); (focus exact rfl)) | (apply w_no; (focus exact rfl); (focus exact rfl); (focus exact rfl); (focus exact rfl); focus (first | rfl | assumption | exact neg_t (by assumption) | exact neg_f (by assumption))) | (apply w_qg; (focus exact rfl); (focus exact rfl); (focus exact rfl); (focus exact rfl); (focus (first | rfl | assumption | exact neg_t (by assumption) | exact neg_f (by assumption))); (focus (intro _; (refine zCallR [0, 1] hW (fun r hs h => h) ?_); exact det_refl))))
  try refine gW ?_
  try (first | (apply w_un; (focus exact rfl); (focus exact rfl); (focus exact rfl); (focus exact rfl)) | (apply w_no; (focus exact rfl); (focus exact rfl); (focus exact rfl); (focus exact rfl); focus (first | rfl | assumption | exact neg_t (by assumption) | exact neg_f (by assumption))) | (apply w_qg; (focus exact rfl); (focus exact rfl); (focus exact rfl); (focus exact rfl); (focus (first | rfl | assumption | exact neg_t (by assumption) | exact neg_f (by assumption))); (focus (intro _; (refine zIxo j hjl ?_); exact det_refl))))
  (first | (apply w_un; (focus exact rfl); (focus exact rfl); (focus exact rfl); (focus exact rfl)) | (apply w_no; (focus exact rfl); (focus exact rfl); (focus exact rfl); (focus exact rfl); focus (first | rfl | assumption | exact neg_t (by assumption) | exact neg_f (by assumption))) | (apply w_qg; (focus exact rfl); (focus exact rfl); (focus exact rfl); (focus exact rfl); (focus (first | rfl | assumption | exact neg_t (by assumption) | exact neg_f (by assumption))); (focus (intro _; (refine zElo1 hat ?_); exact det_refl))))
  try refine gW ?_
  try (first | (apply w_un; (focus exact rfl); (focus exact rfl); (focus exact rfl); (focus exact rfl)) | (apply w_no; (focus exact rfl); (focus exact rfl); (focus exact rfl); (focus exact rfl); focus (first | rfl | assumption | exact neg_t (by assumption) | exact neg_f (by assumption))) | (apply w_qg; (focus exact rfl); (focus exact rfl); (focus exact rfl); (focus exact rfl); (focus (first | rfl | assumption | exact neg_t (by assumption) | exact neg_f (by assumption))); (focus (intro _; (refine zIxo j hjl ?_); exact det_refl))))
  (first | (apply w_un; (focus exact rfl); (focus exact rfl); (focus exact rfl); (focus exact rfl)) | (apply w_no; (focus exact rfl); (focus exact rfl); (focus exact rfl); (focus exact rfl); focus (first | rfl | assumption | exact neg_t (by assumption) | exact neg_f (by assumption))) | (apply w_qg; (focus exact rfl); (focus exact rfl); (focus exact rfl); (focus exact rfl); (focus (first | rfl | assumption | exact neg_t (by assumption) | exact neg_f (by assumption))); (focus (intro _; (refine zElo1 hat ?_); exact det_refl))))
  try refine gW ?_
  refine w_nil ?_
  repeat (first | refine gG ?_ | refine zN1 (fun hlen => ?_) | refine zN2 (fun hlen => ?_) | refine zAl (fun _ => ?_) | refine zBx (fun _ => ?_))
  refine ac_draw [1, 1, 1, 1, 1, 1, 1, 1, 1, 1, 1, 3, 2] [0, 1, 2, 3, 4, 5, 6, 7, 8, 9, 10, 11, 12] (by kernel_rfl) (by kernel_rfl) ?_
  refine gW ?_
  apply w_q; (focus exact rfl); (focus exact rfl); focus (intro _; (refine zIxo j hjl ?_); exact det_refl)
  apply w_q; (focus exact rfl); (focus exact rfl); focus (intro _; (refine zElo1 hat ?_); exact det_refl)
  refine gW ?_
  apply w_a; (focus exact rfl); (focus exact rfl); refine zAlE (fun _ => ⟨⟨_, rfl⟩, ?_⟩)
  apply w_l; (focus exact rfl); (focus exact rfl); (refine zStE rfl ?_)
  refine w_nil ?_
  refine x_frz0 6 [iL a, iL j] ?_
  repeat (first | refine gG ?_ | refine zN1 (fun hlen => ?_) | refine zN2 (fun hlen => ?_) | refine zAl (fun _ => ?_) | refine zBx (fun _ => ?_))
  refine ac_draw [1, 1, 1, 1, 1, 1, 1, 1, 1, 1, 1, 3, 2] [0, 1, 2, 3, 4, 5, 6, 7, 8, 9, 10, 11, 12] (by kernel_rfl) (by kernel_rfl) ?_
  refine gW ?_
  apply w_q; (focus exact rfl); (focus exact rfl); focus (intro _; (refine zLkrn 182 keySpot (a, (j : Int)) hlk ?_); exact det_refl)
  apply w_q; (focus exact rfl); (focus exact rfl); focus (intro _; (refine zFd1 3 ?_); exact det_refl)
  apply w_q; (focus exact rfl); (focus exact rfl); focus (intro _; (refine lo_add rfl rfl (r := (w.bel a j).2 + 1) (by show IntKind.wrap .i64 ((w.bel a j).2 + 1) = (w.bel a j).2 + 1; exact IntWalk.i64_in _ (by omega)) ?_); exact det_refl)
  refine gW ?_
  apply w_a; (focus exact rfl); (focus exact rfl); refine zAlE (fun _ => ⟨⟨_, rfl⟩, ?_⟩)
  apply w_l; (focus exact rfl); (focus exact rfl); (refine zStE rfl ?_)
  refine w_nil ?_
  refine x_frz0 7 [iL dd, iL ((w.bel a j).2 + 1)] ?_
  repeat (first | refine gG ?_ | refine zN1 (fun hlen => ?_) | refine zN2 (fun hlen => ?_) | refine zAl (fun _ => ?_) | refine zBx (fun _ => ?_))
  refine ac_draw [1, 1, 1, 1, 1, 1, 2] [0, 1, 2, 3, 4, 5, 6] (by kernel_rfl) (by kernel_rfl) ?_
  refine gW ?_
  apply w_l; (focus exact rfl); (focus exact rfl); (refine zUprS 182 keySpot (a, (j : Int)) hbp ?_)
  refine w_nil ?_
  refine x_eq (hp' := allB x ⟨w.at_, upd2 w.bel a j (dd, (w.bel a j).2 + 1), w.nxt, w.sto, w.seqs, w.ways, w.wait, w.got⟩) rfl ?_
  repeat (first | refine gG ?_ | refine zN1 (fun hlen => ?_) | refine zN2 (fun hlen => ?_) | refine zAl (fun _ => ?_) | refine zBx (fun _ => ?_))
  refine x_row 1 rfl (by show 0 < w.at_.length; omega) (fun hv => ?_)
  refine ac_draw [1, 1, 1, 1, 1, 1, 1, 2] [0, 1, 2, 3, 4, 5, 6, 7] (by kernel_rfl) (by kernel_rfl) ?_
  refine gW ?_
  apply w_q; (focus exact rfl); (focus exact rfl); focus (intro _; (refine zIxp j hv hjl ?_); exact det_refl)
  apply w_l; (focus exact rfl); (focus exact rfl); (refine zSei (show j * 1 + 1 ≤ (w.at_.flatMap intTs).length by rw [ints_len]; omega) ?_)
  refine w_nil ?_
  refine x_eq (at_store x ⟨w.at_, upd2 w.bel a j (dd, (w.bel a j).2 + 1), w.nxt, w.sto, w.seqs, w.ways, w.wait, w.got⟩ j 0) ?_
  repeat (first | refine gG ?_ | refine zN1 (fun hlen => ?_) | refine zN2 (fun hlen => ?_) | refine zAl (fun _ => ?_) | refine zBx (fun _ => ?_))
  refine lo_frame _ _ (all_way x _) (fun F' => ?_)
  refine zCallAll (push_ag x ⟨w.at_.set j 0, upd2 w.bel a j (dd, (w.bel a j).2 + 1), w.nxt, w.sto, w.seqs, w.ways, w.wait, w.got⟩ a dd ⟨1, j, 0, 0, 0, dd, (w.bel a j).2 + 1⟩ (by rw [wayL_eq]; simp only [Ws.z] at hbound hyn; dsimp only; omega)) (List.Perm.refl _) ?_
  rintro _ _ ⟨v1, rfl⟩
  refine ⟨_, re_refl, ?_⟩
  have hz : (Ws.mk (w.at_.set j 0) (upd2 w.bel a j (dd, (w.bel a j).2 + 1)) w.nxt w.sto w.seqs (gput (a, dd) (v1, wayL (a, dd) w.ways ++ [⟨1, j, 0, 0, 0, dd, (w.bel a j).2 + 1⟩]) w.ways) w.wait w.got).z = Z := by
    rw [hP]
    simp only [Ws.z, bare_put, wayL_eq, pushL]
    rfl
  have hb := (all_way x ⟨w.at_.set j 0, upd2 w.bel a j (dd, (w.bel a j).2 + 1), w.nxt, w.sto, w.seqs, gput (a, dd) (v1, wayL (a, dd) w.ways ++ [⟨1, j, 0, 0, 0, dd, (w.bel a j).2 + 1⟩]) w.ways, w.wait, w.got⟩).symm
  repeat (first | refine gG ?_ | refine zN1 (fun hlen => ?_) | refine zN2 (fun hlen => ?_) | refine zAl (fun _ => ?_) | refine zBx (fun _ => ?_))
  exact zGS (take_allB' hz hb) ⟨_, hz, hb⟩
end Go.Proofs.Ytdogdjcjmhogmaa
namespace Go.Proofs.Ytdogdjcjmhogmaa
open Go.RowKit
theorem do_none (x : Fx) (w : Ws) (dk ds dd dw dn : Int) (k1 : dk ≠ 1) (k2 : dk ≠ 2) (k3 : dk ≠ 3) :
    AG Try.prog 52 [.ptr 0 x.b 0, .c (.agg (ddTs ⟨dk, ds, dd, dw, dn⟩))] (allB x w) (fun _ hs => Gave x (doZ x.nd ⟨dk, ds, dd, dw, dn⟩ w.z) hs) := by
  have hz : w.z = doZ x.nd ⟨dk, ds, dd, dw, dn⟩ w.z := by
    unfold doZ
    rw [if_neg k1, if_neg k2, if_neg k3]
  have d1 : decide (dk = 1) = false := decide_eq_false k1
  have d2 : decide (dk = 2) = false := decide_eq_false k2
  have d3 : decide (dk = 3) = false := decide_eq_false k3
  generalize doZ x.nd ⟨dk, ds, dd, dw, dn⟩ w.z = Z at *
  refine ag_enter (0 + lenB x Z) tok Try.func52 Try.ntmps52 Try.results52 rfl (by kernel_rfl) rfl fun F => ?_
  repeat (first | refine gG ?_ | refine zN1 (fun hlen => ?_) | refine zN2 (fun hlen => ?_) | refine zAl (fun _ => ?_) | refine zBf ?_)
  exact zGS (take_allB' hz (List.Perm.refl _)) ⟨w, hz, List.Perm.refl _⟩
theorem el_drop (e : El) (l : List El) : ((e :: l).flatMap elTs).drop (1 * 7) = l.flatMap elTs := by
  rw [List.flatMap_cons]; rfl
set_option maxRecDepth 100000 in
set_option maxHeartbeats 16000000 in
theorem do_come (x : Fx) (w : Ws) (dk ds dd dw dn : Int) {t cw cy cs cg : Nat} (hZ : ZOk x.nA x.nd t cw cy cs cg w.z) (h1 : cw ≤ 9000) (h2 : cy ≤ 800000) (h3 : cs ≤ 800000) (h4 : cg ≤ 29000000000) (hk : dk = 3) :
    AG Try.prog 52 [.ptr 0 x.b 0, .c (.agg (ddTs ⟨dk, ds, dd, dw, dn⟩))] (allB x w) (fun _ hs => Gave x (doZ x.nd ⟨dk, ds, dd, dw, dn⟩ w.z) hs) := by
  subst hk
  have hP : doZ x.nd ⟨3, ds, dd, dw, dn⟩ w.z = match wayG (ds, dd) (bare w.ways) with
    | [] => w.z
    | y :: l => comeZ dd y { w.z with ways := gput (ds, dd) l (bare w.ways) } := rfl
  generalize doZ x.nd ⟨3, ds, dd, dw, dn⟩ w.z = Z at hP ⊢
  rw [← wayL_eq] at hP
  unfold wayL at hP
  have hgT := mget_T litV (ds, dd) w.ways
  rcases gcase (ds, dd) w.ways with ⟨g1, _⟩ | ⟨j, ⟨v, l⟩, g1, g2, g3⟩
  · rw [g1] at hgT hP
    have hlk : (mget (ds, dd) (mapT litV w.ways)).getD (.lit (.slice none 0 0)) = .lit (.slice none 0 0) := by rw [hgT]; rfl
    have hz : w.z = Z := hP.symm
    refine ag_enter (0 + lenB x Z) tok Try.func52 Try.ntmps52 Try.results52 rfl (by kernel_rfl) rfl fun F => ?_
    repeat (first | refine gG ?_ | refine zN1 (fun hlen => ?_) | refine zN2 (fun hlen => ?_) | refine zAl (fun _ => ?_) | refine zBf ?_)
    refine zBda ?_
    repeat (first | refine gG ?_ | refine zN1 (fun hlen => ?_) | refine zN2 (fun hlen => ?_) | refine zAl (fun _ => ?_) | refine zBx (fun _ => ?_))
    refine zAlE (fun _ => ?_)
    repeat (first | refine gG ?_ | refine zN1 (fun hlen => ?_) | refine zN2 (fun hlen => ?_) | refine zAl (fun _ => ?_) | refine zBx (fun _ => ?_))
    refine zStE rfl ?_
    repeat (first | refine gO ?_ | refine ac_seq ?_ | refine ac_block ?_)
    refine x_frz0 8 [iL ds, iL dd] ?_
    repeat (first | refine gG ?_ | refine zN1 (fun hlen => ?_) | refine zN2 (fun hlen => ?_) | refine zAl (fun _ => ?_) | refine zBx (fun _ => ?_))
    refine ac_draw [1, 1, 1, 1, 1, 1, 1, 1] [0, 1, 2, 3, 4, 5, 6, 7] (by kernel_rfl) (by kernel_rfl) ?_
    refine gW ?_
    apply w_q; (focus exact rfl); (focus exact rfl); focus (intro _; (refine zLkr 129 keyWay (ds, dd) hlk ?_); exact det_refl)
    refine gW ?_
    refine w_nil ?_
    repeat (first | refine gG ?_ | refine zN1 (fun hlen => ?_) | refine zN2 (fun hlen => ?_) | refine zAl (fun _ => ?_) | refine zBx (fun _ => ?_))
    exact zGS (take_allB' hz (List.Perm.refl _)) ⟨w, hz, List.Perm.refl _⟩
  rw [g1] at hgT hP
  have hlk : (mget (ds, dd) (mapT litV w.ways)).getD (.lit (.slice none 0 0)) = .lit v := by rw [hgT]; rfl
  have hjl : j < w.ways.length := (List.getElem?_eq_some_iff.1 g2).1
  have hrow : ∀ r, (allB x w ++ r)[j + 8]? = some (elR (v, l)) := fun r => by
    show ((w.ways.map wayR ++ (w.wait.map elR ++ (w.got.map goR ++ ((keysE x.nA x.nd).map (inR x w.nxt) ++ (keysE x.nA x.nd).map (stR x w.sto))))) ++ r)[j]? = _
    rw [List.append_assoc, List.getElem?_append_left (by simpa using hjl), List.getElem?_map, g2]
    rfl
  have hrow0 : (allB x w)[j + 8]? = some (elR (v, l)) := by simpa using hrow []
  cases l with
  | nil =>
    have hz : w.z = Z := hP.symm
    refine ag_enter (0 + lenB x Z) tok Try.func52 Try.ntmps52 Try.results52 rfl (by kernel_rfl) rfl fun F => ?_
    repeat (first | refine gG ?_ | refine zN1 (fun hlen => ?_) | refine zN2 (fun hlen => ?_) | refine zAl (fun _ => ?_) | refine zBf ?_)
    refine zBda ?_
    repeat (first | refine gG ?_ | refine zN1 (fun hlen => ?_) | refine zN2 (fun hlen => ?_) | refine zAl (fun _ => ?_) | refine zBx (fun _ => ?_))
    refine zAlE (fun _ => ?_)
    repeat (first | refine gG ?_ | refine zN1 (fun hlen => ?_) | refine zN2 (fun hlen => ?_) | refine zAl (fun _ => ?_) | refine zBx (fun _ => ?_))
    refine zStE rfl ?_
    repeat (first | refine gO ?_ | refine ac_seq ?_ | refine ac_block ?_)
    refine x_frz0 8 [iL ds, iL dd] ?_
    repeat (first | refine gG ?_ | refine zN1 (fun hlen => ?_) | refine zN2 (fun hlen => ?_) | refine zAl (fun _ => ?_) | refine zBx (fun _ => ?_))
    refine ac_draw [1, 1, 1, 1, 1, 1, 1, 1] [0, 1, 2, 3, 4, 5, 6, 7] (by kernel_rfl) (by kernel_rfl) ?_
    refine gW ?_
    apply w_q; (focus exact rfl); (focus exact rfl); focus (intro _; (refine lo_as (j + 8) (zLkr 129 keyWay (ds, dd) hlk ⟨_, _, _, _, _, rfl, hrow _, ?_⟩)); exact det_refl)
    apply w_q; (focus exact rfl); (focus exact rfl); focus (intro _; (refine lo_len_own tok rfl (hrow _) rfl rfl (fun _ => ?_)); exact det_refl)
    refine gW ?_
    refine w_nil ?_
    repeat (first | refine gG ?_ | refine zN1 (fun hlen => ?_) | refine zN2 (fun hlen => ?_) | refine zAl (fun _ => ?_) | refine zBx (fun _ => ?_))
    exact zGS (take_allB' hz (List.Perm.refl _)) ⟨w, hz, List.Perm.refl _⟩
  | cons e l =>
    have hW : ∃ l0, ((ds, dd), l0) ∈ w.z.ways ∧ e ∈ l0 := wayG_in (k := (ds, dd)) (by
      rw [show w.z.ways = bare w.ways from rfl, ← wayL_eq]; unfold wayL; rw [g1]; exact List.mem_cons_self)
    obtain ⟨l0, hl0, hel0⟩ := hW
    obtain ⟨hds, hdd, hall⟩ := hZ.ways _ hl0
    have hel := hall e hel0
    have hpt : ∀ v', mput (ds, dd) (.lit v') (mapT litV w.ways) = mapT litV (w.ways.set j ((ds, dd), (v', l))) := fun v' => by
      have := mput_T litV (ds, dd) (v', l) w.ways
      rw [g3] at this
      exact this
    have hz1 : ∀ v', (Ws.mk w.at_ w.bel w.nxt w.sto w.seqs (w.ways.set j ((ds, dd), (v', l))) w.wait w.got).z = { w.z with ways := gput (ds, dd) l (bare w.ways) } := fun v' => by
      rw [← g3 (v', l)]
      simp only [Ws.z, bare_put]
    have hsum := sumW_put (ds, dd) l (bare w.ways)
    have hlen : (wayG (ds, dd) (bare w.ways)).length = l.length + 1 := by rw [← wayL_eq]; unfold wayL; rw [g1]; rfl
    have hZ1 : ∀ v', ZOk x.nA x.nd t cw cy cs cg (Ws.mk w.at_ w.bel w.nxt w.sto w.seqs (w.ways.set j ((ds, dd), (v', l))) w.wait w.got).z := fun v' => by
      rw [hz1]
      have hy := hZ.waysn
      refine ⟨hZ.alen, hZ.at_, hZ.glen, hZ.wlen, hZ.bel, hZ.seqs, fun p hp' => ?_, hZ.wait, hZ.waitn, ?_, hZ.sto, hZ.got, hZ.nxt⟩
      · rcases gput_all hp' with rfl | hp'
        · refine ⟨hds, hdd, fun z hz => ?_⟩
          have : z ∈ wayG (ds, dd) w.z.ways := by
            rw [show w.z.ways = bare w.ways from rfl, ← wayL_eq]; unfold wayL; rw [g1]; exact List.mem_cons_of_mem _ hz
          obtain ⟨l1, hl1, hz1⟩ := wayG_in this
          exact (hZ.ways _ hl1).2.2 z hz1
        · exact hZ.ways p hp'
      · simp only [Ws.z] at hy
        dsimp only
        omega
    have hset : ∀ v', (w.ways.map wayR ++ (w.wait.map elR ++ (w.got.map goR ++ ((keysE x.nA x.nd).map (inR x w.nxt) ++ (keysE x.nA x.nd).map (stR x w.sto))))).set j (.row v' 184 7 ((e :: l).length - 1) (((e :: l).flatMap elTs).drop (1 * 7))) = (w.ways.set j ((ds, dd), (v', l))).map wayR ++ (w.wait.map elR ++ (w.got.map goR ++ ((keysE x.nA x.nd).map (inR x w.nxt) ++ (keysE x.nA x.nd).map (stR x w.sto)))) := fun v' => by
      rw [el_drop, List.set_append_left _ _ (by simpa using hjl), ← way_set]
      rfl
    have dl : decide ((((e :: l).length : Nat) : Int) > 0) = true := decide_eq_true (by rw [List.length_cons]; omega)
    refine ag_enter (0 + lenB x Z) tok Try.func52 Try.ntmps52 Try.results52 rfl (by kernel_rfl) rfl fun F => ?_
    repeat (first | refine gG ?_ | refine zN1 (fun hlen => ?_) | refine zN2 (fun hlen => ?_) | refine zAl (fun _ => ?_) | refine zBf ?_)
    refine zBda ?_
    repeat (first | refine gG ?_ | refine zN1 (fun hlen => ?_) | refine zN2 (fun hlen => ?_) | refine zAl (fun _ => ?_) | refine zBx (fun _ => ?_))
    refine zAlE (fun _ => ?_)
    repeat (first | refine gG ?_ | refine zN1 (fun hlen => ?_) | refine zN2 (fun hlen => ?_) | refine zAl (fun _ => ?_) | refine zBx (fun _ => ?_))
    refine zStE rfl ?_
    repeat (first | refine gO ?_ | refine ac_seq ?_ | refine ac_block ?_)
    refine x_frz0 8 [iL ds, iL dd] ?_
    repeat (first | refine gG ?_ | refine zN1 (fun hlen => ?_) | refine zN2 (fun hlen => ?_) | refine zAl (fun _ => ?_) | refine zBx (fun _ => ?_))
    refine ac_draw [1, 1, 1, 1, 1, 1, 1, 1] [0, 1, 2, 3, 4, 5, 6, 7] (by kernel_rfl) (by kernel_rfl) ?_
    refine gW ?_
    apply w_q; (focus exact rfl); (focus exact rfl); focus (intro _; (refine lo_as (j + 8) (zLkr 129 keyWay (ds, dd) hlk ⟨_, _, _, _, _, rfl, hrow _, ?_⟩)); exact det_refl)
    apply w_q; (focus exact rfl); (focus exact rfl); focus (intro _; (refine lo_len_own tok rfl (hrow _) rfl rfl (fun _ => ?_)); exact det_refl)
    refine gW ?_
    refine w_nil ?_
    repeat (first | refine gG ?_ | refine zN1 (fun hlen => ?_) | refine zN2 (fun hlen => ?_) | refine zAl (fun _ => ?_) | refine zBx (fun _ => ?_))
    refine ac_draw [1, 1, 1, 1, 1, 1, 1, 1, 3, 2] [0, 1, 2, 3, 4, 5, 6, 7, 8, 9] (by kernel_rfl) (by kernel_rfl) ?_
    refine gW ?_
    apply w_q; (focus exact rfl); (focus exact rfl); focus (intro _; (refine lo_as (j + 8) (zLkr 129 keyWay (ds, dd) hlk ⟨_, _, _, _, _, rfl, hrow _, ?_⟩)); exact det_refl)
    apply w_q; (focus exact rfl); (focus exact rfl); focus (intro _; (refine zIxo 0 (Nat.succ_pos _) ?_ tok rfl (hrow _)); exact det_refl)
    apply w_q; (focus exact rfl); (focus exact rfl); focus (intro _; (refine zElo (ts := elTs e) rfl rfl ?_ tok rfl (hrow _)); exact det_refl)
    apply w_a; (focus exact rfl); (focus exact rfl); refine zAlE (fun _ => ⟨⟨_, rfl⟩, ?_⟩)
    apply w_l; (focus exact rfl); (focus exact rfl); (refine zStE rfl ?_)
    refine w_nil ?_
    refine x_frz0 9 (elTs e) ?_
    repeat (first | refine gG ?_ | refine zN1 (fun hlen => ?_) | refine zN2 (fun hlen => ?_) | refine zAl (fun _ => ?_) | refine zBx (fun _ => ?_))
    refine ac_drawT [0, 0, 0, 3, 0, 1, 1, 1, 1, 1, 1, 2, 2] (.fork [0, 1, 2, 4, 5, 6, 7, 8, 9, 10] 3 (.fin [11, 12]) 11 (.fin [3, 12])) (by kernel_rfl) (by kernel_rfl) ?_
    refine wt_fork ?_
    refine gW ?_
    apply w_q; (focus exact rfl); (focus exact rfl); focus (intro _; (refine lo_as (j + 8) (zLkr 129 keyWay (ds, dd) hlk ⟨_, _, _, _, _, rfl, hrow _, ?_⟩)); exact det_refl)
    refine w_nil ?_
    refine ⟨?_, ?_⟩
    · apply w_a; (focus exact rfl); (focus exact rfl); refine zL1 ⟨⟨[], (List.append_nil _).symm⟩, ?_⟩
      refine w_nil ?_
      refine wt_fin ?_
      apply w_l; (focus exact rfl); (focus exact rfl); (refine lo_own_lo tok 1 (Nat.succ_pos _) rfl hrow0 rfl rfl rfl rfl rfl rfl (fun v' => ?_))
      apply w_l; (focus exact rfl); (focus exact rfl); (refine zUprS 129 keyWay (ds, dd) (hpt _) ?_)
      refine w_nil ?_
      rename_i v'
      refine x_eq (hp' := allB x ⟨w.at_, w.bel, w.nxt, w.sto, w.seqs, w.ways.set j ((ds, dd), (v', l)), w.wait, w.got⟩) (congrArg (fun r => wB x :: atB x w.at_ :: belB x w.bel :: seqB x w.seqs :: ibB x :: Blk.mp x.bw (mkeys pI (mapT litV (w.ways.set j ((ds, dd), (v', l))))) :: waB x w.wait :: goB x w.got :: r) (hset v')) ?_
      repeat (first | refine gG ?_ | refine zN1 (fun hlen => ?_) | refine zN2 (fun hlen => ?_) | refine zAl (fun _ => ?_) | refine zBx (fun _ => ?_))
      refine zCallAll (come_ag x ⟨w.at_, w.bel, w.nxt, w.sto, w.seqs, w.ways.set j ((ds, dd), (v', l)), w.wait, w.got⟩ dd e (hZ1 v') (by omega) (by omega) (by omega) (by omega) hdd hel) (List.Perm.refl _) ?_
      rintro _ _ ⟨w', hz, hq⟩
      refine ⟨_, re_refl, ?_⟩
      rw [hz1] at hz
      replace hz := hz.trans hP.symm
      repeat (first | refine gG ?_ | refine zN1 (fun hlen => ?_) | refine zN2 (fun hlen => ?_) | refine zAl (fun _ => ?_) | refine zBx (fun _ => ?_))
      exact zGS (take_allB' hz hq) ⟨w', hz, hq⟩
          
    · apply w_l; (focus exact rfl); (focus exact rfl); (refine lo_own_lo tok 1 (Nat.succ_pos _) rfl hrow0 rfl rfl rfl rfl rfl rfl (fun v' => ?_))
      refine w_nil ?_
      refine wt_fin ?_
      apply w_a; (focus exact rfl); (focus exact rfl); refine zL1 ⟨⟨[], (List.append_nil _).symm⟩, ?_⟩
      apply w_l; (focus exact rfl); (focus exact rfl); (refine zUprS 129 keyWay (ds, dd) (hpt _) ?_)
      refine w_nil ?_
      rename_i v'
      refine x_eq (hp' := allB x ⟨w.at_, w.bel, w.nxt, w.sto, w.seqs, w.ways.set j ((ds, dd), (v', l)), w.wait, w.got⟩) (congrArg (fun r => wB x :: atB x w.at_ :: belB x w.bel :: seqB x w.seqs :: ibB x :: Blk.mp x.bw (mkeys pI (mapT litV (w.ways.set j ((ds, dd), (v', l))))) :: waB x w.wait :: goB x w.got :: r) (hset v')) ?_
      repeat (first | refine gG ?_ | refine zN1 (fun hlen => ?_) | refine zN2 (fun hlen => ?_) | refine zAl (fun _ => ?_) | refine zBx (fun _ => ?_))
      refine zCallAll (come_ag x ⟨w.at_, w.bel, w.nxt, w.sto, w.seqs, w.ways.set j ((ds, dd), (v', l)), w.wait, w.got⟩ dd e (hZ1 v') (by omega) (by omega) (by omega) (by omega) hdd hel) (List.Perm.refl _) ?_
      rintro _ _ ⟨w', hz, hq⟩
      refine ⟨_, re_refl, ?_⟩
      rw [hz1] at hz
      replace hz := hz.trans hP.symm
      repeat (first | refine gG ?_ | refine zN1 (fun hlen => ?_) | refine zN2 (fun hlen => ?_) | refine zAl (fun _ => ?_) | refine zBx (fun _ => ?_))
      exact zGS (take_allB' hz hq) ⟨w', hz, hq⟩
end Go.Proofs.Ytdogdjcjmhogmaa
namespace Go.Proofs.Ytdogdjcjmhogmaa
open Go.RowKit
/-- an operation that makes one block: its place, what it yields, the block -/
structure Mkr where
  i : Nat
  V : Nat × Value → AV
  B : Nat × Value → Blk
def dstAt (ops : Array Oper) (i : Nat) : Option Tmp := (ops[i]?).bind (·.dst)
def MkOk (P : Program) (F : Frm) (ops : Array Oper) (m : Mkr) (τ : Nat → AV) : Prop :=
  ∃ o, ops[m.i]? = some o ∧ o.guard = none ∧ ∀ hp', LO P F o (evT τ) hp' fun v hp'' => ∃ b, v = m.V b ∧ hp'' = hp' ++ [m.B b]
/-- no one of them looks at what another one yields -/
def farB (ops : Array Oper) (is : List Nat) : Bool := is.all fun i => is.all fun j => i == j || match ops[i]?, ops[j]? with
  | some oi, some oj => match oi.dst with
    | none => true
    | some x => !(oj.looksAt ops).contains x && oj.dst != some x
  | _, _ => false
def setM (N : Nat) (ops : Array Oper) (bs : Nat → Nat × Value) (τ : Nat → AV) (ms : List Mkr) : Nat → AV := ms.foldl (fun τ m => updO N (dstAt ops m.i) (m.V (bs m.i)) τ) τ
theorem inj_i : ∀ {ms : List Mkr}, (ms.map (·.i)).Nodup → ∀ {x y : Mkr}, x ∈ ms → y ∈ ms → x.i = y.i → x = y
  | [], _, _, _, h, _, _ => by cases h
  | m :: ms, hn, x, y, hx, hy, e => by
    obtain ⟨h1, h2⟩ := List.nodup_cons.1 hn
    rcases List.mem_cons.1 hx with hx' | hx'
    · rcases List.mem_cons.1 hy with hy' | hy'
      · rw [hx', hy']
      · subst hx'
        exact absurd (List.mem_map.2 ⟨y, hy', e.symm⟩) h1
    · rcases List.mem_cons.1 hy with hy' | hy'
      · subst hy'
        exact absurd (List.mem_map.2 ⟨x, hx', e⟩) h1
      · exact inj_i h2 hx' hy' e
theorem far_of {ops : Array Oper} {is : List Nat} (h : farB ops is = true) {i j : Nat} (hi : i ∈ is) (hj : j ∈ is) (hne : i ≠ j) {oj : Oper} (ho : ops[j]? = some oj) : ∀ x, dstAt ops i = some x → x ∉ oj.looksAt ops ∧ oj.dst ≠ some x := by
  intro x hx
  have := List.all_eq_true.1 (List.all_eq_true.1 h i hi) j hj
  rw [ho] at this
  unfold dstAt at hx
  cases hoi : ops[i]? with
  | none => rw [hoi] at hx; cases hx
  | some oi =>
    rw [hoi] at hx this
    have hx' : oi.dst = some x := hx
    simp only [hx', Bool.or_eq_true, beq_iff_eq, hne, false_or, Bool.and_eq_true, Bool.not_eq_true', bne_iff_ne, ne_eq] at this
    refine ⟨fun hm => ?_, this.2⟩
    have h1 := this.1
    rw [List.contains_iff_mem.2 hm] at h1
    cases h1
theorem lst_fold : ∀ (r : List Nat) (listed : Array Bool), lst r listed = r.foldl (fun l i => l.setIfInBounds i true) listed
  | [], _ => rfl
  | i :: r, listed => lst_fold r _
section
variable {P : Program} {F : Frm} {ops : Array Oper} {md : Region.Mode} {N : Nat} {cls : Nat → Nat}
theorem anyA_mk {Kf : (Nat → AV) → List Blk → Prop} (n : Nat) : ∀ (k : Nat) (ms : List Mkr), ms.length = k → ∀ (listed : Array Bool) (τ : Nat → AV) (hp : List Blk), ClosedL md ops listed → (∀ m ∈ ms, cls m.i = 3) → (∀ m ∈ ms, m.i ∈ Region.ready md ops listed) →
    (∀ j, j < ops.size → listed.getD j true = false → j ∉ ms.map (·.i) → ∀ m ∈ ms, reachB md ops ops.size j m.i = true) → farB ops (ms.map (·.i)) = true → (ms.map (·.i)).Nodup → (∀ m ∈ ms, MkOk P F ops m τ) →
    (∀ (bs : Nat → Nat × Value) hp', hp'.Perm (hp ++ ms.map fun m => m.B (bs m.i)) → AnyA P F md ops N cls Kf n (lst (ms.map (·.i)) listed) (setM N ops bs τ ms) hp') → AnyA P F md ops N cls Kf (n + k) listed τ hp
  | 0, ms, hl, listed, τ, hp, _, _, _, _, _, _, _, H => by
    obtain rfl := List.eq_nil_of_length_eq_zero hl
    exact H (fun _ => (0, .nilFunc)) hp (by simp)
  | k + 1, ms, hl, listed, τ, hp, hc, h3, hr, hw, hf, hn, hm, H => by
    refine ⟨fun h0 => ?_, fun i hi => ?_⟩
    · cases ms with
      | nil => cases hl
      | cons m ms =>
        have := hr m List.mem_cons_self
        rw [h0] at this; cases this
    obtain ⟨hun, oi, hoi, hall⟩ := mem_ready.1 hi
    have hiun := getD_false_of hun
    have himem : i ∈ ms.map (·.i) := by
      refine Classical.byContradiction fun hno => ?_
      cases ms with
      | nil => cases hl
      | cons m ms =>
        have h1 := hw i (Array.getElem?_eq_some_iff.1 hoi).1 hun hno m List.mem_cons_self
        have h2 := getD_false_of (mem_ready.1 (hr m List.mem_cons_self)).1
        exact reach_not_ready hc h2 h1 hi
    obtain ⟨m, hmm, rfl⟩ := List.mem_map.1 himem
    obtain ⟨o, ho, hg, hlo⟩ := hm m hmm
    obtain rfl : oi = o := by rw [hoi] at ho; injection ho
    -- those that are left
    have hsplit := List.append_of_mem hmm
    obtain ⟨l1, l2, rfl⟩ := hsplit
    have hnd : ((l1 ++ l2).map (·.i)).Nodup ∧ m.i ∉ (l1 ++ l2).map (·.i) := by
      have hp1 : ((l1 ++ m :: l2).map (·.i)).Perm (m.i :: (l1 ++ l2).map (·.i)) := by
        exact (List.perm_middle (a := m) (l₁ := l1) (l₂ := l2)).map (·.i)
      have := (hp1.nodup_iff).1 hn
      exact ⟨(List.nodup_cons.1 this).2, (List.nodup_cons.1 this).1⟩
    have hsub : ∀ m' ∈ l1 ++ l2, m' ∈ l1 ++ m :: l2 := fun m' h => by
      rcases List.mem_append.1 h with h | h
      · exact List.mem_append_left _ h
      · exact List.mem_append_right _ (List.mem_cons_of_mem _ h)
    have hne : ∀ m' ∈ l1 ++ l2, m'.i ≠ m.i := fun m' h e => hnd.2 (List.mem_map.2 ⟨m', h, e⟩)
    have hmemi : ∀ m' ∈ l1 ++ m :: l2, m'.i ∈ (l1 ++ m :: l2).map (·.i) := fun m' h => List.mem_map.2 ⟨m', h, rfl⟩
    unfold opA
    simp only [hoi]
    rw [if_pos (by rw [h3 m hmm]; omega)]
    refine .inl ⟨by unfold GYes; rw [hg]; trivial, (hlo hp).mono ?_⟩
    rintro v hp2 ⟨b, rfl, rfl⟩
    refine ⟨.inr ⟨_, rfl⟩, anyA_mk n k (l1 ++ l2) (by simp only [List.length_append, List.length_cons] at hl ⊢; omega) _ _ _ (hc.set hi) (fun m' h => h3 m' (hsub m' h)) (fun m' h => ready_mono (hr m' (hsub m' h)) (hne m' h)) ?_ ?_ hnd.1 ?_ ?_⟩
    · intro j hj hjun hjno m' hm'
      by_cases hjm : m.i = j
      · subst hjm
        have h1 : m.i < listed.size := by
          rcases Nat.lt_or_ge m.i listed.size with h | h
          · exact h
          · simp [Array.getElem?_eq_none h] at hun
        simp [h1] at hjun
      · rw [getD_set_ne true hjm] at hjun
        refine hw j hj hjun (fun h => ?_) m' (hsub m' hm')
        obtain ⟨m2, hm2, rfl⟩ := List.mem_map.1 h
        rcases List.mem_append.1 hm2 with h | h
        · exact hjno (List.mem_map.2 ⟨m2, List.mem_append_left _ h, rfl⟩)
        · rcases List.mem_cons.1 h with rfl | h
          · exact hjm rfl
          · exact hjno (List.mem_map.2 ⟨m2, List.mem_append_right _ h, rfl⟩)
    · refine List.all_eq_true.2 fun a ha => List.all_eq_true.2 fun c hc' => ?_
      obtain ⟨ma, hma, rfl⟩ := List.mem_map.1 ha
      obtain ⟨mc, hmc, rfl⟩ := List.mem_map.1 hc'
      exact List.all_eq_true.1 (List.all_eq_true.1 hf _ (hmemi ma (hsub ma hma))) _ (hmemi mc (hsub mc hmc))
    · intro m' hm'
      obtain ⟨o', ho', hg', hlo'⟩ := hm m' (hsub m' hm')
      refine ⟨o', ho', hg', fun hp' => (hlo' hp').congr ?_⟩
      refine evT_far (ops := ops) fun x hx => ?_
      exact (far_of hf (hmemi m hmm) (hmemi m' (hsub m' hm')) (fun e => hne m' hm' e.symm) ho' x (by unfold dstAt; rw [hoi]; exact hx)).1
    · intro bs hp' hperm
      have hbs : ∀ m' ∈ l1 ++ l2, (fun j => if j = m.i then b else bs j) m'.i = bs m'.i := fun m' h => if_neg (hne m' h)
      have hmap : (l1 ++ l2).map (fun m' => m'.B ((fun j => if j = m.i then b else bs j) m'.i)) = (l1 ++ l2).map fun m' => m'.B (bs m'.i) := List.map_congr_left fun m' h => by rw [hbs m' h]
      have H1 := H (fun j => if j = m.i then b else bs j) hp' (hperm.trans ?_)
      · have hpm : (m :: (l1 ++ l2)).Perm (l1 ++ m :: l2) := List.perm_middle.symm
        have e1 : lst ((l1 ++ m :: l2).map (·.i)) listed = lst ((l1 ++ l2).map (·.i)) (listed.setIfInBounds m.i true) := by
          rw [lst_fold, lst_fold]
          have := (hpm.map (·.i)).foldl_eq' (f := fun (l : Array Bool) i => l.setIfInBounds i true) (fun x _ y _ z => by
            by_cases hxy : x = y
            · rw [hxy]
            · exact Array.setIfInBounds_comm _ _ hxy) listed
          rw [← this]; rfl
        have e2 : setM N ops (fun j => if j = m.i then b else bs j) τ (l1 ++ m :: l2) = setM N ops bs (updO N oi.dst (m.V b) τ) (l1 ++ l2) := by
          unfold setM
          have := hpm.foldl_eq' (f := fun τ m' => updO N (dstAt ops m'.i) (m'.V ((fun j => if j = m.i then b else bs j) m'.i)) τ) (fun x hx y hy z => by
            have hx' := hpm.mem_iff.1 hx
            have hy' := hpm.mem_iff.1 hy
            by_cases hxy : x.i = y.i
            · rw [inj_i hn hx' hy' hxy]
            · obtain ⟨ox, hox, _⟩ := hm x hx'
              obtain ⟨oy, hoy, _⟩ := hm y hy'
              refine (updO_comm fun t ht => ?_).symm
              have := (far_of hf (hmemi x hx') (hmemi y hy') hxy hoy t ht).2
              unfold dstAt
              rw [hoy]
              exact this) τ
          rw [← this, List.foldl_cons]
          have hd : dstAt ops m.i = oi.dst := by unfold dstAt; rw [hoi]; rfl
          rw [hd]
          simp only [if_pos]
          have hcong : ∀ (l : List Mkr), (∀ m' ∈ l, m'.i ≠ m.i) → ∀ τ0, l.foldl (fun τ m' => updO N (dstAt ops m'.i) (m'.V (if m'.i = m.i then b else bs m'.i)) τ) τ0 = l.foldl (fun τ m' => updO N (dstAt ops m'.i) (m'.V (bs m'.i)) τ) τ0 := by
            intro l
            induction l with
            | nil => intro _ _; rfl
            | cons a l ih =>
              intro hl τ0
              rw [List.foldl_cons, List.foldl_cons, if_neg (hl a List.mem_cons_self), ih (fun m' h => hl m' (List.mem_cons_of_mem _ h))]
          exact hcong _ hne _
        rw [e1, e2] at H1
        exact H1
      · have hq : ((l1 ++ m :: l2).map fun m' => m'.B ((fun j => if j = m.i then b else bs j) m'.i)).Perm (m.B b :: (l1 ++ l2).map fun m' => m'.B (bs m'.i)) := by
          have := (List.perm_middle (a := m) (l₁ := l1) (l₂ := l2)).map fun m' => m'.B ((fun j => if j = m.i then b else bs j) m'.i)
          rw [List.map_cons, hmap] at this
          simpa using this
        have h2 := (List.Perm.append_left hp hq).symm
        simpa using h2
end
section
variable {P : Program} {F : Frm} {τ : Nat → AV} {hp : List Blk} {N : Nat} {Q : Exit → AS → Prop} {id : Nat} {l : List Oper}
/-- after p, the makers in any order, then r -/
theorem ac_drawM (c p is r : List Nat) (hm : P.follows .mixedOrders = true)
    (hB : (ordP .any l.toArray (clsOf c) p (Array.replicate l.toArray.size false) && is.all (fun i => (Region.ready .any l.toArray (lst p (Array.replicate l.toArray.size false))).contains i && clsOf c i == 3) &&
      (List.range l.toArray.size).all (fun j => (lst p (Array.replicate l.toArray.size false)).getD j true || is.contains j || is.all fun i => reachB .any l.toArray l.toArray.size j i) && farB l.toArray is && decide is.Nodup &&
      ordB .any l.toArray (clsOf c) r (lst is (lst p (Array.replicate l.toArray.size false))) && Nat.beq (r.length + is.length + p.length) l.length) = true)
    (ms : List Mkr) (his : ms.map (·.i) = is)
    (h : WO P F l.toArray N (clsOf c) (fun τ' hp' => (∀ m ∈ ms, MkOk P F l.toArray m τ') ∧ ∀ bs hp2, hp2.Perm (hp' ++ ms.map fun m => m.B (bs m.i)) → WO P F l.toArray N (clsOf c) (fun τ' hp' => Q .normal ⟨τ', hp', N⟩) r (setM N l.toArray bs τ' ms) hp2) p τ hp) : AC P F (.region id l.toArray true) Q ⟨τ, hp, N⟩ := by
  refine ⟨fun M a w hr => ?_⟩
  simp only [Bool.and_eq_true] at hB
  obtain ⟨⟨⟨⟨⟨⟨b1, b2⟩, b3⟩, b4⟩, b5⟩, b6⟩, b7⟩ := hB
  have hlen := Nat.eq_of_beq_eq_true b7
  have hrd : Rep F M ⟨τ, hp, N⟩ a { w with drawn := w.drawn + 1 } := ⟨hr.tmps, hr.size, hr.defers, hr.heap.drew⟩
  have hcl : ClosedL .any l.toArray (Array.replicate l.toArray.size false) := fun j oj _ hl => by rw [getD_replicate_false] at hl; cases hl
  have hcl' := ordP_closed p _ hcl b1
  have hr2 : ∀ m ∈ ms, m.i ∈ Region.ready .any l.toArray (lst p (Array.replicate l.toArray.size false)) ∧ clsOf c m.i = 3 := fun m hm => by
    have := List.all_eq_true.1 b2 m.i (by rw [← his]; exact List.mem_map.2 ⟨m, hm, rfl⟩)
    simpa using this
  have hclm : ∀ (is : List Nat) (L : Array Bool), (∀ i ∈ is, i ∈ Region.ready .any l.toArray L) → is.Nodup → ClosedL .any l.toArray L → ClosedL .any l.toArray (lst is L) := by
    intro is
    induction is with
    | nil => intro L _ _ h; exact h
    | cons i is ih =>
      intro L h1 h2 h3
      obtain ⟨h4, h5⟩ := List.nodup_cons.1 h2
      exact ih _ (fun j hj => ready_mono (h1 j (List.mem_cons_of_mem _ hj)) (fun e => h4 (e ▸ hj))) h5 (h3.set (h1 i List.mem_cons_self))
  have hcl2 := hclm is _ (fun i hi => by
    rw [← his] at hi
    obtain ⟨m, hm, rfl⟩ := List.mem_map.1 hi
    exact (hr2 m hm).1) (of_decide_eq_true b5) hcl'
  refine wp_region_any hm ?_
  have H := wpAny_of_A (Q := fun e a' w' => ∃ M' σ', Q e σ' ∧ Rep F M' σ' a' w') (fun M τ hp a w hk hr => ⟨M, _, hk, hr⟩) _ _ _ _ _ _ _ hrd
    (anyA_pre (r.length + is.length) p _ τ hp hcl b1 (WO.mono p (fun τ' hp' h' => anyA_mk r.length is.length ms (by rw [← his, List.length_map]) _ τ' hp' hcl' (fun m hm => (hr2 m hm).2) (fun m hm => (hr2 m hm).1) (fun j hj hjun hjno m hm => by
      have := List.all_eq_true.1 b3 j (List.mem_range.2 hj)
      rw [← his] at this
      simp only [hjun, Bool.false_or, Bool.or_eq_true] at this
      rcases this with h | h
      · exact absurd (List.contains_iff_mem.1 h) hjno
      · exact List.all_eq_true.1 h m.i (List.mem_map.2 ⟨m, hm, rfl⟩)) (by rw [his]; exact b4) (by rw [his]; exact of_decide_eq_true b5) h'.1 (fun bs hp2 hq => anyA_ord r _ _ hp2 (by rw [his]; exact hcl2) (by rw [his]; exact b6) (h'.2 bs hp2 hq))) h))
  rwa [hlen, show l.length = l.toArray.size by simp] at H
end
end Go.Proofs.Ytdogdjcjmhogmaa
namespace Go.Proofs.Ytdogdjcjmhogmaa
open Go.RowKit
section
variable {P : Program} {F : Frm} {d : Option Tmp} {ty : TypeId} {pos : String} {aft : Array Edge} {g : Option (Nat × Bool)} {o : Oper} {ρ : Operand → AV} {hp : List Blk} {K : AV → List Blk → Prop}
theorem lo_hintO (j : Nat) (h : LO P F o ρ hp fun a hp' => ∃ i v, a = .own i v ∧ K (.own j v) hp') : LO P F o ρ hp K := by
  refine ⟨fun M e w he hh => (h.out M e w he hh).mono ?_⟩
  rintro u w' ⟨M', a, hp', ⟨i, v, rfl, hK⟩, hx, hh2, hr⟩
  exact ⟨M', _, hp', hK, hx, hh2, by simpa only [RA] using hr⟩
/-- a variable with a value, at the end of the blocks; its hint is 0 -/
theorem zBxE {t : TypeId} {x : Operand} {v : AV} {cs : List AV} (h : ∀ b, K (.ptr 0 b 0) (hp ++ [.box b t cs])) (hv : fc (ρ x) = some v := by exact rfl) (hc : evl (cellsA v) = some cs := by exact rfl) (h1 : allOne cs = true := by first | exact rfl | assumption) : LO P F ⟨d, .box t x, ty, pos, aft, g⟩ ρ hp K :=
  lo_hint 0 (lo_box (fc_eq hv) (by rw [← evl_eq hc]; exact h1) fun b => ⟨_, b, 0, rfl, by rw [← evl_eq hc]; exact h b⟩)
end
def rowK (k i : Nat) : List (Int × Int) := (List.range i).map fun i' => (((i' + 1 : Nat) : Int), ((k : Nat) : Int))
theorem keysE_succ (k nd : Nat) : keysE (k + 1) nd = keysE k nd ++ rowK k nd := by
  unfold keysE rowK
  rw [List.range_succ, List.flatMap_append]
  simp
theorem rowK_succ (k i : Nat) : rowK k (i + 1) = rowK k i ++ [(((i + 1 : Nat) : Int), ((k : Nat) : Int))] := by
  unfold rowK
  rw [List.range_succ, List.map_append]
  rfl
theorem key_new (k i nd : Nat) : (((i + 1 : Nat) : Int), ((k : Nat) : Int)) ∉ keysE k nd ++ rowK k i := by
  intro h
  rcases List.mem_append.1 h with h | h
  · obtain ⟨w, hw, h⟩ := List.mem_flatMap.1 h
    obtain ⟨i', _, e⟩ := List.mem_map.1 h
    have := (Prod.mk.injEq ..).mp e
    have := List.mem_range.1 hw
    omega
  · obtain ⟨i', hi', e⟩ := List.mem_map.1 h
    have := (Prod.mk.injEq ..).mp e
    have := List.mem_range.1 hi'
    omega
theorem tab_new (f : Int × Int → T) (k : Int × Int) : ∀ {ks : List (Int × Int)}, k ∉ ks → mput k (f k) (tabK f ks) = tabK f (ks ++ [k])
  | [], _ => rfl
  | k' :: ks, h => by
    have h1 : k ≠ k' := fun e => h (e ▸ List.mem_cons_self)
    show mput k (f k) ((k', f k') :: tabK f ks) = (k', f k') :: tabK f (ks ++ [k])
    unfold mput
    rw [if_neg h1, tab_new f k (fun h2 => h (List.mem_cons_of_mem _ h2))]
def ibU (ib : Int × Int → Nat × Nat) (k : Int × Int) (p : Nat × Nat) : Int × Int → Nat × Nat := fun k' => if k' = k then p else ib k'
def setIb (x : Fx) (ib : Int × Int → Nat × Nat) : Fx := ⟨x.b, x.bb, x.bs, x.bi, x.bw, x.nd, x.nA, x.va, x.vw, x.vg, ib⟩
def bel0 (l : List Int) : Int → Int → Int × Int := fun _ w => (l.getD w.toNat 0, 0)
def nilV {α : Type} (n : Nat) : List (Value × List α) := List.replicate n (.slice none 0 0, [])
/-- a world whose first keys have been handled -/
@[reducible] def pB (x : Fx) (l : List Int) (ks : List (Int × Int)) : List Blk :=
  [wB x, atB x l, .mp x.bb (mkeys pI (tabK (belT (bel0 l)) ks)), seqB x [], .mp x.bi (mkeys pI (tabK (ibT x.ib) ks)), wayB x [], waB x (nilV (x.nd + 1)), goB x (nilV x.nA)] ++ (ks.map (inR x fun _ _ => 0) ++ ks.map (stR x fun _ _ => []))
theorem pB_step (x : Fx) (l : List Int) (ks : List (Int × Int)) (k : Int × Int) (p m : Nat) (h : k ∉ ks) :
    ([wB x, atB x l, .mp x.bb (mkeys pI (tabK (belT (bel0 l)) (ks ++ [k]))), seqB x [], .mp x.bi (mkeys pI (tabK (ibT (ibU x.ib k (p, m))) (ks ++ [k]))), wayB x [], waB x (nilV (x.nd + 1)), goB x (nilV x.nA)] ++ (ks.map (inR x fun _ _ => 0) ++ ks.map (stR x fun _ _ => [])) ++ [Blk.mp m [], Blk.box p 134 [.c (iL 0), .own 9 (.map (some m))]]).Perm
    (pB (setIb x (ibU x.ib k (p, m))) l (ks ++ [k])) := by
  have e0 : ∀ a ∈ ks, ibU x.ib k (p, m) a = x.ib a := fun a ha => if_neg (fun e : a = k => h (e ▸ ha))
  have e1 : ks.map (inR (setIb x (ibU x.ib k (p, m))) fun _ _ => 0) = ks.map (inR x fun _ _ => 0) := List.map_congr_left fun a ha => by simp only [inR, setIb, e0 a ha]
  have e2 : ks.map (stR (setIb x (ibU x.ib k (p, m))) fun _ _ => []) = ks.map (stR x fun _ _ => []) := List.map_congr_left fun a ha => by simp only [stR, setIb, e0 a ha]
  have e3 : inR (setIb x (ibU x.ib k (p, m))) (fun _ _ => 0) k = .box p 134 [.c (iL 0), .own 9 (.map (some m))] := by simp only [inR, setIb, ibU, if_true]
  have e4 : stR (setIb x (ibU x.ib k (p, m))) (fun _ _ => []) k = .mp m [] := by simp only [stR, setIb, ibU, if_true]; rfl
  unfold pB
  rw [List.map_append, List.map_append, e1, e2, List.map_singleton, List.map_singleton, e3, e4, List.append_assoc]
  refine List.Perm.append_left _ ?_
  have := perm_parts [ks.map (inR x fun _ _ => 0), ks.map (stR x fun _ _ => []), [Blk.mp m []], [Blk.box p 134 [.c (iL 0), .own 9 (.map (some m))]]] [0, 3, 1, 2] (show List.Perm _ (List.range 4) by decide)
  simpa using this
def w0 (nd : Nat) (l : List Int) : Ws := ⟨l, bel0 l, fun _ _ => 0, fun _ _ => [], [], [], nilV (nd + 1), nilV l.length⟩
theorem w0_z (nd : Nat) (l : List Int) : (w0 nd l).z = startZ nd l := by
  simp only [Ws.z, w0, startZ, nilV, bare, List.map_nil, List.map_replicate]
  rfl
theorem perm5 {H A B R1 R2 : List Blk} : ((H ++ (A ++ B)) ++ R1 ++ R2).Perm (H ++ ([] ++ (R1 ++ (R2 ++ (A ++ B))))) := by
  simpa using perm_parts [H, A, B, R1, R2] [0, 3, 4, 1, 2] (show List.Perm _ (List.range 5) by decide)
theorem wk_start {F : Frm} {τ : Nat → AV} {N : Nat} (x : Fx) (l : List Int) (h : x.nA = l.length) : Wk F ⟨τ, pB x l (keysE x.nA x.nd), N⟩ ⟨τ, allB x (w0 x.nd l), N⟩ := by
  refine Wk.trans (wk_nils 184 7 (by omega) (x.nd + 1)) (Wk.trans (wk_nils 73 2 (by omega) x.nA) (wk_perm ?_))
  obtain ⟨b, bb, bs, bi, bw, nd, nA, va, vw, vg, ib⟩ := x
  dsimp only at h
  subst h
  have e1 : List.replicate (nd + 1) (Blk.row (.slice none 0 0) 184 7 0 []) = (nilV (nd + 1)).map elR := by simp only [nilV, List.map_replicate]; rfl
  have e2 : List.replicate l.length (Blk.row (.slice none 0 0) 73 2 0 []) = (nilV l.length).map goR := by simp only [nilV, List.map_replicate]; rfl
  dsimp only
  rw [e1, e2]
  exact perm5
theorem rep_litL {α : Type} (n : Nat) : (List.replicate n [T.lit (.slice none 0 0)]).flatten = litL (nilV (α := α) n) := by
  unfold litL nilV
  rw [List.map_replicate]
  induction n with
  | zero => rfl
  | succ n ih => rw [List.replicate_succ, List.replicate_succ, List.flatten_cons, ih]; rfl
end Go.Proofs.Ytdogdjcjmhogmaa
namespace Go.Proofs.Ytdogdjcjmhogmaa
open Go.RowKit
def xNo (nd : Nat) (l : List Int) : Fx := ⟨0, 0, 0, 0, 0, nd, l.length, .nilFunc, .nilFunc, .nilFunc, fun _ => (0, 0)⟩
set_option maxRecDepth 100000 in
set_option maxHeartbeats 8000000 in
theorem new_ag (nd : Nat) (l : List Int) (hnd : nd ≤ 8) (hl : l.length ≤ 5) : AG Try.prog 51 [.c (iL nd), .c (intRow l)] [] (fun r hs => ∃ x : Fx, x.nd = nd ∧ x.nA = l.length ∧ r = .ptr 0 x.b 0 ∧ Gave x (startZ nd l) hs) := by
  have hcl := cloneInt_ag l (by omega)
  refine ag_enter (0 + lenB (xNo nd l) (startZ nd l)) tok Try.func51 Try.ntmps51 Try.results51 rfl (by kernel_rfl) rfl fun F => ?_
  repeat (first | refine gG ?_ | refine zN1 (fun hlen => ?_) | refine zN2 (fun hlen => ?_) | refine zBx (fun _ => ?_))
  refine ac_drawM [1, 1, 3, 3, 3, 3, 3, 1, 1, 3, 1, 1, 3, 1, 3, 1] [0, 1, 7, 8, 10, 11] [2, 3, 4, 5, 6, 9, 12] [13, 14, 15] (by kernel_rfl) (by kernel_rfl)
    [⟨2, fun b => .own 1 b.2, fun b => .row b.2 3 1 l.length (l.flatMap intTs)⟩, ⟨3, fun b => .own 2 (.map (some b.1)), fun b => .mp b.1 []⟩, ⟨4, fun b => .own 3 (.map (some b.1)), fun b => .mp b.1 []⟩, ⟨5, fun b => .own 4 (.map (some b.1)), fun b => .mp b.1 []⟩, ⟨6, fun b => .own 5 (.map (some b.1)), fun b => .mp b.1 []⟩,
     ⟨9, fun b => .own 6 b.2, fun b => .row b.2 129 1 (nd + 1) (litL (nilV (α := El) (nd + 1)))⟩, ⟨12, fun b => .own 7 b.2, fun b => .row b.2 71 1 l.length (litL (nilV (α := Int × Int) l.length))⟩] rfl ?_
  refine gW ?_
  refine w_nil ?_
  refine ⟨?_, fun bs hp2 hq => ?_⟩
  · intro m hm
    simp only [List.mem_cons, List.not_mem_nil, or_false] at hm
    rcases hm with rfl | rfl | rfl | rfl | rfl | rfl | rfl
    · refine ⟨_, rfl, rfl, fun hp' => ?_⟩
      refine lo_callG [] hcl (cap := []) (fun M u hu => ?_) (res_cons re_refl res_nil) rfl rfl (fun r hs2 hR => ?_)
      · replace hu : RA M (.fn (.func 43) []) u := hu
        simpa only [RA] using hu
      · obtain ⟨v', rfl, rfl⟩ := hR
        exact ⟨.own 1 v', re_own, Nat.zero_le _, (0, v'), rfl, rfl⟩
    · exact ⟨_, rfl, rfl, fun hp' => lo_hintO 2 (lo_makeMap fun b => ⟨_, _, rfl, (b, .nilFunc), rfl, rfl⟩)⟩
    · exact ⟨_, rfl, rfl, fun hp' => lo_hintO 3 (lo_makeMap fun b => ⟨_, _, rfl, (b, .nilFunc), rfl, rfl⟩)⟩
    · exact ⟨_, rfl, rfl, fun hp' => lo_hintO 4 (lo_makeMap fun b => ⟨_, _, rfl, (b, .nilFunc), rfl, rfl⟩)⟩
    · exact ⟨_, rfl, rfl, fun hp' => lo_hintO 5 (lo_makeMap fun b => ⟨_, _, rfl, (b, .nilFunc), rfl, rfl⟩)⟩
    · refine ⟨_, rfl, rfl, fun hp' => lo_hintO 6 (lo_make tok (nd + 1) rfl rfl rfl rfl rfl rfl rfl rfl (by simp only []; omega) (by omega) (z := [.lit (.slice none 0 0)]) (rzs_cons rz_c rzs_nil) fun v => ⟨_, _, rfl, (0, v), rfl, ?_⟩)⟩
      rw [rep_litL (α := El)]
    · refine ⟨_, rfl, rfl, fun hp' => lo_hintO 7 (lo_make tok l.length rfl rfl rfl rfl rfl rfl rfl rfl (by simp only []; omega) (by omega) (z := [.lit (.slice none 0 0)]) (rzs_cons rz_c rzs_nil) fun v => ⟨_, _, rfl, (0, v), rfl, ?_⟩)⟩
      rw [rep_litL (α := Int × Int)]
  change WO _ _ _ _ _ _ _ (updO 57 (some 21) (.own 7 (bs 12).2) (updO 57 (some 18) (.own 6 (bs 9).2) (updO 57 (some 15) (.own 5 (.map (some (bs 6).1))) (updO 57 (some 14) (.own 4 (.map (some (bs 5).1))) (updO 57 (some 13) (.own 3 (.map (some (bs 4).1))) (updO 57 (some 12) (.own 2 (.map (some (bs 3).1))) (updO 57 (some 11) (.own 1 (bs 2).2) _))))))) _
  replace hq : hp2.Perm [.row (bs 2).2 3 1 l.length (l.flatMap intTs), .mp (bs 3).1 [], .mp (bs 4).1 [], .mp (bs 5).1 [], .mp (bs 6).1 [], .row (bs 9).2 129 1 (nd + 1) (litL (nilV (α := El) (nd + 1))), .row (bs 12).2 71 1 l.length (litL (nilV (α := Int × Int) l.length))] := hq
  generalize (bs 12).2 = vg, (bs 9).2 = vw, (bs 6).1 = bw, (bs 5).1 = bi, (bs 4).1 = bq, (bs 3).1 = bb, (bs 2).2 = va at hq ⊢
  refine gW ?_
  apply w_a; (focus exact rfl); (focus exact rfl); (refine zBxE (fun b => ⟨⟨_, rfl⟩, ?_⟩))
  refine gW ?_
  refine w_nil ?_
  have hlv : ∀ n : Nat, (nilV (α := El) n).length = n := fun n => by simp [nilV]
  have hlw : ∀ n : Nat, (nilV (α := Int × Int) n).length = n := fun n => by simp [nilV]
  refine x_perm (hp' := pB ⟨b, bb, bq, bi, bw, nd, l.length, va, vw, vg, fun _ => (0, 0)⟩ l []) (((hq.append_right _).trans List.perm_append_comm).trans (List.Perm.of_eq (by simp only [pB, waB, goB, hlv, hlw]; rfl))) ?_
  repeat (first | refine gG ?_ | refine zN1 (fun hlen => ?_) | refine zN2 (fun hlen => ?_) | refine zBx (fun _ => ?_))
  refine x_loop [6, 7, 8, 26, 27, 28, 29, 30, 31, 32, 33, 34, 35, 36, 37, 38, 39, 40, 41, 42, 43, 44, 45, 46, 47, 48, 49, 50, 51, 52, 53, 54, 55] (fun q : Nat × (Int × Int → Nat × Nat) => [(26, .c (iL (q.1 : Nat)))]) (fun q => pB ⟨b, bb, bq, bi, bw, nd, l.length, va, vw, vg, q.2⟩ l (keysE q.1 nd)) (fun q => q.1 ≤ l.length) (fun q => l.length - q.1) (0, fun _ => (0, 0)) (Nat.zero_le _) ⟨rfl, trivial⟩ rfl ?_
  rintro ⟨k, ib⟩ hk
  dsimp only at hk ⊢
  repeat (first | refine gG ?_ | refine zN1 (fun hlen => ?_) | refine zN2 (fun hlen => ?_) | refine zBx (fun _ => ?_))
  refine x_cond rfl (fun h => ?_) (fun h => ?_)
  · have hk' : k < l.length := by simpa using h
    obtain ⟨a, ha⟩ := nth hk'
    clear h
    repeat (first | refine gG ?_ | refine zN1 (fun hlen => ?_) | refine zN2 (fun hlen => ?_) | refine zBx (fun _ => ?_))
    refine zIx k hk' ?_
    repeat (first | refine gG ?_ | refine zN1 (fun hlen => ?_) | refine zN2 (fun hlen => ?_) | refine zBx (fun _ => ?_))
    refine zEl1 (ints_at ha) ?_
    repeat (first | refine gG ?_ | refine zN1 (fun hlen => ?_) | refine zN2 (fun hlen => ?_) | refine zBx (fun _ => ?_))
    refine x_loop [8, 31, 32, 33, 34, 35, 36, 37, 38, 39, 40, 41, 42, 43, 44, 45, 46, 47, 48, 49, 50, 51, 52, 53, 54] (fun q : Nat × (Int × Int → Nat × Nat) => [(8, .c (iL ((q.1 + 1 : Nat) : Int)))]) (fun q => pB ⟨b, bb, bq, bi, bw, nd, l.length, va, vw, vg, q.2⟩ l (keysE k nd ++ rowK k q.1)) (fun q => q.1 ≤ nd) (fun q => nd - q.1) (0, ib) (Nat.zero_le _) ⟨rfl, trivial⟩ (by rw [show rowK k 0 = [] from rfl, List.append_nil]) ?_
    rintro ⟨i, ib'⟩ hi
    dsimp only at hi ⊢
    have hnew := key_new k i nd
    have hbel : belT (bel0 l) (((i + 1 : Nat) : Int), ((k : Nat) : Int)) = .agg [iL a, iL 0] := by
      unfold belT bel0
      dsimp only
      rw [Int.toNat_natCast, List.getD, ha]
      rfl
    have hl1 := tab_new (belT (bel0 l)) _ hnew
    rw [hbel] at hl1
    have hl2 : ∀ p m : Nat, mput (((i + 1 : Nat) : Int), ((k : Nat) : Int)) (.lit (.pointer (some ⟨p, 0, none⟩))) (tabK (ibT ib') (keysE k nd ++ rowK k i)) = tabK (ibT (ibU ib' (((i + 1 : Nat) : Int), ((k : Nat) : Int)) (p, m))) (keysE k nd ++ rowK k i ++ [(((i + 1 : Nat) : Int), ((k : Nat) : Int))]) := fun p m => by
      have h1 := tab_new (ibT (ibU ib' (((i + 1 : Nat) : Int), ((k : Nat) : Int)) (p, m))) _ hnew
      have h2 : tabK (ibT (ibU ib' (((i + 1 : Nat) : Int), ((k : Nat) : Int)) (p, m))) (keysE k nd ++ rowK k i) = tabK (ibT ib') (keysE k nd ++ rowK k i) := List.map_congr_left fun c hc => by
        unfold ibT ibU
        rw [if_neg (fun e : c = (((i + 1 : Nat) : Int), ((k : Nat) : Int)) => hnew (e ▸ hc))]
      have h3 : ibT (ibU ib' (((i + 1 : Nat) : Int), ((k : Nat) : Int)) (p, m)) (((i + 1 : Nat) : Int), ((k : Nat) : Int)) = .lit (.pointer (some ⟨p, 0, none⟩)) := by
        unfold ibT ibU
        rw [if_pos rfl]
      rw [h2, h3] at h1
      exact h1
    repeat (first | refine gG ?_ | refine zN1 (fun hlen => ?_) | refine zN2 (fun hlen => ?_) | refine zBx (fun _ => ?_))
    refine x_cond rfl (fun h => ?_) (fun h => ?_)
    · have hi' : i < nd := by have := of_decide_eq_true h; omega
      clear h
      repeat (first | refine gG ?_ | refine zN1 (fun hlen => ?_) | refine zN2 (fun hlen => ?_) | refine zBx (fun _ => ?_))
      refine zUprS 182 keySpot (((i + 1 : Nat) : Int), ((k : Nat) : Int)) hl1 ?_ (by kernel_rfl) rfl rfl (by intro M u h; exact kv_a h) (by apply re_cls; repeat (first | exact rzs_nil | apply rzs_cons | exact rz_c | apply rz_agg))
      repeat (first | refine gG ?_ | refine zN1 (fun hlen => ?_) | refine zN2 (fun hlen => ?_) | refine zBx (fun _ => ?_))
      refine lo_hintO 9 (lo_makeMap fun m => ⟨_, _, rfl, ?_⟩)
      repeat (first | refine gG ?_ | refine zN1 (fun hlen => ?_) | refine zN2 (fun hlen => ?_) | refine zBx (fun _ => ?_))
      refine zBxE (fun p => ?_)
      repeat (first | refine gG ?_ | refine zN1 (fun hlen => ?_) | refine zN2 (fun hlen => ?_) | refine zBx (fun _ => ?_))
      refine zUprS 132 keySpot (((i + 1 : Nat) : Int), ((k : Nat) : Int)) (hl2 p m) ?_
      repeat (first | refine gG ?_ | refine zN1 (fun hlen => ?_) | refine zN2 (fun hlen => ?_) | refine zBx (fun _ => ?_))
      refine ⟨(i + 1, ibU ib' (((i + 1 : Nat) : Int), ((k : Nat) : Int)) (p, m)), hi', by dsimp only; omega, ?_⟩
      refine Wk.trans (wk_perm ((List.Perm.of_eq (by simp only [List.append_assoc, List.cons_append, List.nil_append, List.set_cons_succ, List.set_cons_zero, pB]; rfl)).trans (pB_step ⟨b, bb, bq, bi, bw, nd, l.length, va, vw, vg, ib'⟩ l (keysE k nd ++ rowK k i) (((i + 1 : Nat) : Int), ((k : Nat) : Int)) p m hnew))) ?_
      exact x_wk ⟨rfl, trivial⟩ (by dsimp only; rw [rowK_succ, ← List.append_assoc]; rfl) (by repeat (first | exact ag_refl | refine ag_upd rfl ?_ | refine ag_at rfl rfl ?_))
    · have hi' : i = nd := by have := of_decide_eq_false h; omega
      subst hi'
      clear h
      repeat (first | refine gG ?_ | refine zN1 (fun hlen => ?_) | refine zN2 (fun hlen => ?_) | refine zBx (fun _ => ?_))
      exact ⟨(k + 1, ib'), hk', by dsimp only; omega, x_wk ⟨rfl, trivial⟩ (by dsimp only; rw [keysE_succ]) (by repeat (first | exact ag_refl | refine ag_upd rfl ?_ | refine ag_at rfl rfl ?_))⟩
  · have hk' : k = l.length := by have : ¬ k < l.length := by simpa using h
                                  omega
    subst hk'
    clear h
    refine ac_exit ?_
    refine ac_wk (wk_start ⟨b, bb, bq, bi, bw, nd, l.length, va, vw, vg, ib⟩ l rfl) ?_
    repeat (first | refine gG ?_ | refine zN1 (fun hlen => ?_) | refine zN2 (fun hlen => ?_) | refine zBx (fun _ => ?_))
    exact zGS (take_allB' (x := ⟨b, bb, bq, bi, bw, nd, l.length, va, vw, vg, ib⟩) (w0_z nd l) (List.Perm.refl _)) ⟨⟨b, bb, bq, bi, bw, nd, l.length, va, vw, vg, ib⟩, rfl, rfl, rfl, w0 nd l, w0_z nd l, List.Perm.refl _⟩
end Go.Proofs.Ytdogdjcjmhogmaa
