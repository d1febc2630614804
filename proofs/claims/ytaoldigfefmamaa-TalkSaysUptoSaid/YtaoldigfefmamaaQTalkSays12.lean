/-
  Texts of this proof, part 12: Wtq.
-/
import Derived.Test.YtaoldigfefmamaaQTalkSays11
import Derived.Laws.IdiomRangeMap
import Derived.Lib.AppendStr
namespace Go.Proofs.Ytaoldigfefmamaa
open Go.RowKit
set_option maxRecDepth 100000 in
set_option maxHeartbeats 16000000 in
theorem refGoing_af (n : Nt) (hok : NOk n) (ps0 : List Int) : AF Try.prog 14 [n.t3, nRow ps0] (· = .tup [nRow (runR n ps0).1, nRow (runR n ps0).2]) := by
  have hla := fun D hD i hi => @line_at n hok D hD i hi
  have hrl := fun D i a b da db ra rb h => @rdy_left n D i a b da db ra rb h
  have hyes := fun D k => @rdyTo_yes n D k
  have hno := fun D k => @rdyTo_no n D k
  have hrlen := rdyTo_len n
  have hr0 : ∀ D, rdyTo n D 0 = [] := fun _ => rfl
  have hst := fun D ps ch h1 h2 => @going_step n hok ps0 D ps ch h1 h2
  have hen := fun D ps ch h1 h2 => @going_end n hok ps0 D ps ch h1 h2
  have hgl := fun D ps ch h1 => @Going.len n hok ps0 D ps ch h1
  have hG0 := going_start n ps0
  have hLf0 := left_start n.who
  have hz1 := zeros_flat n.who.length
  have hz2 := zeros_len n.who.length
  have h8 := hok.who8
  have h12 := hok.ln12
  have h40 := fun w r => @NOk.dd40 n hok w r
  have hcl := cloneWho_ag n.who (by omega)
  unfold rdyL at *
  generalize runR n ps0 = R at *
  generalize zeros n.who.length = z0 at *
  generalize rdyTo n = rT at *
  obtain ⟨ls, ws⟩ := n
  clear hok
  dsimp only at *
  have hz3 : ((ws.length : Nat) : Int) = ((z0.length : Nat) : Int) := by omega
  rw [← hz2] at hz1
  refine af_enter tok Try.func14 Try.ntmps14 Try.results14 rfl (by kernel_rfl) rfl rfl fun F hX => ?_
  repeat (first | refine gG ?_ | refine zN1 (fun hlen => ?_) | refine zN2 (fun hlen => ?_) | refine zAl (fun _ => ?_) | refine zBf ?_ | refine zAp (fun _ => ?_))
  refine zCallG [] hcl ?_
  rintro _ _ ⟨vL, rfl, rfl⟩
  refine ⟨.own 0 vL, _, re_own, rfl, rfl, ?_⟩
  clear hcl
  repeat (first | refine gG ?_ | refine zN1 (fun hlen => ?_) | refine zN2 (fun hlen => ?_) | refine zAl (fun _ => ?_) | refine zBf ?_ | refine zAp (fun _ => ?_))
  refine zMk z0.length [.lit (.int .i64 0)] (fun vA => ?_)
  rw [hz1]
  repeat (first | refine gO ?_ | refine zN1 (fun hlen => ?_) | refine zN2 (fun hlen => ?_) | refine zAl (fun _ => ?_) | refine zBf ?_ | refine zAp (fun _ => ?_))
  repeat (first | refine ac_seq ?_ | refine ac_block ?_ | refine ac_region ?_)
  repeat (first | refine gO ?_ | refine zN1 (fun hlen => ?_) | refine zN2 (fun hlen => ?_) | refine zAl (fun _ => ?_) | refine zBf ?_ | refine zAp (fun _ => ?_))
  refine x_own 8 3 1 rfl rfl rfl rfl rfl ?_
  repeat (first | refine gG ?_ | refine zN1 (fun hlen => ?_) | refine zN2 (fun hlen => ?_) | refine zAl (fun _ => ?_) | refine zBf ?_ | refine zAp (fun _ => ?_))
  refine x_loop [1, 4, 5, 8, 9, 10, 11, 12, 13, 14, 16, 24, 25, 26, 27, 28, 29, 30, 31, 32, 33, 34, 35, 36, 37, 38, 39, 40, 41, 42, 43, 44, 45, 46, 47, 48, 49, 50, 51, 52, 53, 54, 55, 56, 57, 58, 59, 60, 61, 62, 63, 64, 65, 66, 67, 68, 69, 70, 71, 72, 73, 74, 75, 76, 77, 78, 79, 80, 81, 82, 83, 84, 85, 86, 87, 88, 89, 90, 91, 92, 93, 94, 95, 96, 97, 98, 99, 100, 101, 102, 103, 104, 105, 106, 107, 108, 109, 110, 111, 112, 113, 114, 115, 116, 117, 118, 119, 120, 121, 122, 123, 124, 125, 126, 127, 128, 129, 130, 131, 132, 133, 134, 135, 136, 137, 138, 139, 140, 141, 142, 143, 144, 145] (fun y : List Int × List (List Dd) × List Int × List Int × Value => [(8, .own 2 y.2.2.2.2), (1, .c (nRow y.2.2.1))]) (fun y => [.row vL 43 1 y.2.1.length (y.2.1.flatMap whoTs3), .row vA 3 1 y.1.length (y.1.flatMap nTs), .row y.2.2.2.2 3 1 y.2.2.2.1.length (y.2.2.2.1.flatMap nTs)])
    (fun y => Going ⟨ls, ws⟩ ps0 y.1 y.2.2.1 y.2.2.2.1 ∧ LeftOk ws y.1 y.2.1) (fun y => 161 - y.2.2.2.1.length) (z0, ws, ps0, [], .slice none 0 0) ⟨hG0, hLf0⟩ ⟨rfl, rfl, trivial⟩ rfl ?_
  clear hG0 hLf0 hz1 hz2 hz3
  rintro ⟨D, Lf, ps, ch, vc⟩ ⟨hG, hLf⟩
  dsimp only at hG hLf ⊢
  have hcl := hgl D ps ch hG
  have hls := hla D hG.far
  have hrl2 := hrl D
  have hyes2 := hyes D
  have hno2 := hno D
  have hrlen2 := hrlen D
  have hr02 := hr0 D
  have hst2 := hst D ps ch hG
  have hen2 := hen D ps ch hG
  have hLl := hLf.len
  have hDl := hG.far.len
  clear hla hrl hyes hno hrlen hr0 hst hen hgl
  generalize rT D = rD at *
  repeat (first | refine ac_seq ?_ | refine ac_block ?_ | refine ac_region ?_)
  repeat (first | refine gO ?_ | refine zN1 (fun hlen => ?_) | refine zN2 (fun hlen => ?_) | refine zAl (fun _ => ?_) | refine zBf ?_ | refine zAp (fun _ => ?_))
  refine x_own 9 3 1 rfl rfl rfl rfl rfl ?_
  repeat (first | refine gG ?_ | refine zN1 (fun hlen => ?_) | refine zN2 (fun hlen => ?_) | refine zAl (fun _ => ?_) | refine zBf ?_ | refine zAp (fun _ => ?_))
  refine x_loop [9, 10, 11, 12, 13, 27, 28, 29, 30, 31, 32, 33, 34, 35, 36, 37, 38, 39, 40, 41, 42, 43, 44, 45, 46, 47, 48, 49, 50, 51, 52, 53, 54, 55, 56, 57, 58, 59, 60, 61, 62, 63, 64, 65, 66, 67, 68, 69, 70, 71, 72, 73, 74, 75, 76, 77, 78, 79, 80, 81, 82, 83, 84, 85, 86, 87, 88, 89, 90, 91, 92, 93] (fun y : Nat × Value => [(27, .c (.lit (.int .i64 (y.1 : Nat)))), (9, .own 3 y.2)]) (fun y => [.row vL 43 1 Lf.length (Lf.flatMap whoTs3), .row vA 3 1 D.length (D.flatMap nTs), .row vc 3 1 ch.length (ch.flatMap nTs), .row y.2 3 1 (rD y.1).length ((rD y.1).flatMap nTs)]) (fun y => y.1 ≤ ls.length) (fun y => ls.length - y.1) (0, .slice none 0 0) (Nat.zero_le _) ⟨rfl, rfl, trivial⟩ (by simp only [hr02]; rfl) ?_
  clear hr02
  rintro ⟨k, v9⟩ hk
  dsimp only at hk ⊢
  have hlk := hrlen2 k
  repeat (first | refine gG ?_ | refine zN1 (fun hlen => ?_) | refine zN2 (fun hlen => ?_) | refine zAl (fun _ => ?_) | refine zBf ?_ | refine zAp (fun _ => ?_))
  refine x_cond rfl (fun h => ?_) (fun h => ?_)
  · have hk' : k < ls.length := by simpa using h
    obtain ⟨a, b, da, db, ra, rb, hA⟩ := hls k hk'
    have hlt := flat_at Ln.ts 2 Ln.ts_len hA.ln
    have hrd := hrl2 k a b da db ra rb hA
    have hra := hLf.at_ hA.hra hA.hda
    have hrb := hLf.at_ hA.hrb hA.hdb
    have haL : a < Lf.length := (List.getElem?_eq_some_iff.1 hra).1
    have hbL : b < Lf.length := (List.getElem?_eq_some_iff.1 hrb).1
    have hwa := who_at3 hra
    have hwb := who_at3 hrb
    have hy1 := hyes2 k
    have hn1 := hno2 k
    clear h hls hrl2 hA hyes2 hno2 hrlen2 hst2 hen2 hG hLf hra hrb
    generalize ra.drop da = A at *
    generalize rb.drop db = B at *
    clear da db ra rb
    cases A with
    | nil =>
      have e1 : decide ((0 : Int) < ((([] : List Dd).length : Nat) : Int)) = false := rfl
      have hn := hn1 (by rw [hrd])
      clear hy1 hn1 hrd
      repeat (first | refine zIxb 0 ?_ | refine zIxb 1 ?_ | refine zIxb 2 ?_ | refine gG ?_ | refine zN1 (fun hlen => ?_) | refine zN2 (fun hlen => ?_) | refine zAl (fun _ => ?_) | refine zBf ?_ | refine zAp (fun _ => ?_))
      refine zIx (k) (hk') ?_
      repeat (first | refine gG ?_ | refine zN1 (fun hlen => ?_) | refine zN2 (fun hlen => ?_) | refine zAl (fun _ => ?_) | refine zBx (fun _ => ?_) | refine zAp (fun _ => ?_))
      refine zEl (hlt) (Ln.ts_len _) ?_
      repeat (first | refine zIxb 0 ?_ | refine zIxb 1 ?_ | refine zIxb 2 ?_ | refine gG ?_ | refine zN1 (fun hlen => ?_) | refine zN2 (fun hlen => ?_) | refine zAl (fun _ => ?_) | refine zBf ?_ | refine zAp (fun _ => ?_))
      refine ac_draw [1, 1, 1, 1, 1, 1, 1, 1, 1, 1, 1, 1] [0, 1, 2, 3, 4, 5, 6, 7, 8, 9, 10, 11] (by kernel_rfl) (by kernel_rfl) ?_
      refine gW ?_
      apply w_q; (focus exact rfl); (focus exact rfl); focus (intro _; (refine zIxb 0 ?_); exact det_refl)
      refine gW ?_
      apply w_q; (focus exact rfl); (focus exact rfl); focus (intro _; (refine zIxo a haL ?_); exact det_refl)
      apply w_q; (focus exact rfl); (focus exact rfl); focus (intro _; (refine zElo1 hwa ?_); exact det_refl)
      refine gW ?_
      apply w_q; (focus exact rfl); (focus exact rfl); focus (intro _; (refine zIxb 1 ?_); exact det_refl)
      refine gW ?_
      apply w_q; (focus exact rfl); (focus exact rfl); focus (intro _; (refine zIxo b hbL ?_); exact det_refl)
      apply w_q; (focus exact rfl); (focus exact rfl); focus (intro _; (refine zElo1 hwb ?_); exact det_refl)
      refine gW ?_
      refine w_nil ?_
      repeat (first | refine zIxb 0 ?_ | refine zIxb 1 ?_ | refine zIxb 2 ?_ | refine gG ?_ | refine zN1 (fun hlen => ?_) | refine zN2 (fun hlen => ?_) | refine zAl (fun _ => ?_) | refine zBf ?_ | refine zAp (fun _ => ?_))
      refine ac_drawB [0, 1, 3, 7, 15, 31, 63, 127, 255, 511, 1023, 2047, 4095, 511, 16383, 32767, 65535, 131071, 262143, 524287, 1048575, 131071, 4194303, 8388607, 16777215, 33554431, 67108863, 134217727, 268435455, 33554431, 570425343, 1644167167, 3791650815, 8589934591, 17179869183, 34359738367, 68719476735, 137438953471, 274877906943, 549755813887, 68719476735, 1168231104511, 3367254360063, 7765300871167, 17592186044415, 35184372088831, 70368744177663] [1, 1, 1, 1, 1, 1, 1, 1, 1, 1, 1, 1, 1, 1, 1, 1, 1, 1, 1, 1, 1, 1, 1, 1, 1, 1, 1, 1, 1, 1, 1, 1, 1, 1, 1, 1, 1, 1, 1, 1, 1, 1, 1, 1, 1, 1, 1] [0, 1, 2, 3, 4, 5, 6, 7, 8, 9, 10, 11, 12, 13, 14, 15, 16, 17, 18, 19, 20, 21, 22, 23, 24, 25, 26, 27, 28, 29, 30, 31, 32, 33, 34, 35, 36, 37, 38, 39, 40, 41, 42, 43, 44, 45, 46] (by kernel_rfl) (by kernel_rfl) ?_
      refine gW ?_
      refine w_nil ?_
      repeat (first | refine zIxb 0 ?_ | refine zIxb 1 ?_ | refine zIxb 2 ?_ | refine gG ?_ | refine zN1 (fun hlen => ?_) | refine zN2 (fun hlen => ?_) | refine zAl (fun _ => ?_) | refine zBf ?_ | refine zAp (fun _ => ?_))
      exact ⟨(k + 1, v9), hk', by simp only; omega, x_wkd 4 ⟨rfl, rfl, trivial⟩ (by simp only [hn]; rfl) (by repeat (first | exact ag_refl | refine ag_upd rfl ?_ | refine ag_at rfl rfl ?_))⟩
    | cons x A =>
      have e1 : decide ((0 : Int) < (((x :: A).length : Nat) : Int)) = true := decide_eq_true (by simp only [List.length_cons]; omega)
      have hpa : 0 < (x :: A).length := by simp
      cases B with
      | nil =>
        have e2 : decide ((0 : Int) < ((([] : List Dd).length : Nat) : Int)) = false := rfl
        have hn := hn1 (by rw [hrd])
        clear hy1 hn1 hrd
        repeat (first | refine zIxb 0 ?_ | refine zIxb 1 ?_ | refine zIxb 2 ?_ | refine gG ?_ | refine zN1 (fun hlen => ?_) | refine zN2 (fun hlen => ?_) | refine zAl (fun _ => ?_) | refine zBf ?_ | refine zAp (fun _ => ?_))
        refine zIx (k) (hk') ?_
        repeat (first | refine gG ?_ | refine zN1 (fun hlen => ?_) | refine zN2 (fun hlen => ?_) | refine zAl (fun _ => ?_) | refine zBx (fun _ => ?_) | refine zAp (fun _ => ?_))
        refine zEl (hlt) (Ln.ts_len _) ?_
        repeat (first | refine zIxb 0 ?_ | refine zIxb 1 ?_ | refine zIxb 2 ?_ | refine gG ?_ | refine zN1 (fun hlen => ?_) | refine zN2 (fun hlen => ?_) | refine zAl (fun _ => ?_) | refine zBf ?_ | refine zAp (fun _ => ?_))
        refine ac_draw [1, 1, 1, 1, 1, 1, 1, 1, 1, 1, 1, 1] [0, 1, 2, 3, 4, 5, 6, 7, 8, 9, 10, 11] (by kernel_rfl) (by kernel_rfl) ?_
        refine gW ?_
        apply w_q; (focus exact rfl); (focus exact rfl); focus (intro _; (refine zIxb 0 ?_); exact det_refl)
        refine gW ?_
        apply w_q; (focus exact rfl); (focus exact rfl); focus (intro _; (refine zIxo a haL ?_); exact det_refl)
        apply w_q; (focus exact rfl); (focus exact rfl); focus (intro _; (refine zElo1 hwa ?_); exact det_refl)
        refine gW ?_
        apply w_q; (focus exact rfl); (focus exact rfl); focus (intro _; (refine zIxb 1 ?_); exact det_refl)
        refine gW ?_
        apply w_q; (focus exact rfl); (focus exact rfl); focus (intro _; (refine zIxo b hbL ?_); exact det_refl)
        apply w_q; (focus exact rfl); (focus exact rfl); focus (intro _; (refine zElo1 hwb ?_); exact det_refl)
        refine gW ?_
        refine w_nil ?_
        repeat (first | refine zIxb 0 ?_ | refine zIxb 1 ?_ | refine zIxb 2 ?_ | refine gG ?_ | refine zN1 (fun hlen => ?_) | refine zN2 (fun hlen => ?_) | refine zAl (fun _ => ?_) | refine zBf ?_ | refine zAp (fun _ => ?_))
        refine ac_drawB [0, 1, 3, 7, 15, 31, 63, 127, 255, 511, 1023, 2047, 4095, 511, 16383, 32767, 65535, 131071, 262143, 524287, 1048575, 131071, 4194303, 8388607, 16777215, 33554431, 67108863, 134217727, 268435455, 33554431, 570425343, 1644167167, 3791650815, 8589934591, 17179869183, 34359738367, 68719476735, 137438953471, 274877906943, 549755813887, 68719476735, 1168231104511, 3367254360063, 7765300871167, 17592186044415, 35184372088831, 70368744177663] [1, 1, 1, 1, 1, 1, 1, 1, 1, 1, 1, 1, 1, 1, 1, 1, 1, 1, 1, 1, 1, 1, 1, 1, 1, 1, 1, 1, 1, 1, 1, 1, 1, 1, 1, 1, 1, 1, 1, 1, 1, 1, 1, 1, 1, 1, 1] [0, 1, 2, 3, 4, 5, 6, 7, 8, 9, 10, 11, 12, 13, 14, 15, 16, 17, 18, 19, 20, 21, 22, 23, 24, 25, 26, 27, 28, 29, 30, 31, 32, 33, 34, 35, 36, 37, 38, 39, 40, 41, 42, 43, 44, 45, 46] (by kernel_rfl) (by kernel_rfl) ?_
        refine gW ?_
        refine w_nil ?_
        repeat (first | refine zIxb 0 ?_ | refine zIxb 1 ?_ | refine zIxb 2 ?_ | refine gG ?_ | refine zN1 (fun hlen => ?_) | refine zN2 (fun hlen => ?_) | refine zAl (fun _ => ?_) | refine zBf ?_ | refine zAp (fun _ => ?_))
        exact ⟨(k + 1, v9), hk', by simp only; omega, x_wkd 4 ⟨rfl, rfl, trivial⟩ (by simp only [hn]; rfl) (by repeat (first | exact ag_refl | refine ag_upd rfl ?_ | refine ag_at rfl rfl ?_))⟩
      | cons y B =>
        have e2 : decide ((0 : Int) < (((y :: B).length : Nat) : Int)) = true := decide_eq_true (by simp only [List.length_cons]; omega)
        have hpb : 0 < (y :: B).length := by simp
        dsimp only at hrd
        obtain ⟨xl, xs, xm⟩ := x
        obtain ⟨yl, ys, ym⟩ := y
        dsimp only at hrd
        have hxa0 : (((⟨xl, xs, xm⟩ : Dd) :: A).flatMap Dd.ts3)[0 * 3 + 0]? = some (.lit (.int .i64 xl)) := rfl
        have hxa1 : (((⟨xl, xs, xm⟩ : Dd) :: A).flatMap Dd.ts3)[0 * 3 + 1]? = some (.lit (.int .i64 (sgn xs))) := rfl
        have hxa2 : (((⟨xl, xs, xm⟩ : Dd) :: A).flatMap Dd.ts3)[0 * 3 + 2]? = some (.lit (.int .i64 xm)) := rfl
        have hxb0 : (((⟨yl, ys, ym⟩ : Dd) :: B).flatMap Dd.ts3)[0 * 3 + 0]? = some (.lit (.int .i64 yl)) := rfl
        have hxb1 : (((⟨yl, ys, ym⟩ : Dd) :: B).flatMap Dd.ts3)[0 * 3 + 1]? = some (.lit (.int .i64 (sgn ys))) := rfl
        have hxb2 : (((⟨yl, ys, ym⟩ : Dd) :: B).flatMap Dd.ts3)[0 * 3 + 2]? = some (.lit (.int .i64 ym)) := rfl
        have hss := sgn_sum xs ys
        have hx01 := sgn_01 xs
        have hy01 := sgn_01 ys
        unfold meetB at hrd
        dsimp only at hrd
        rw [← hss] at hrd
        cases f3 : decide (xl = ((k : Nat) : Int))
        · rw [f3] at hrd
          have hn := hn1 hrd
          clear hy1 hn1 hrd hss
          repeat (first | refine zIxb 0 ?_ | refine zIxb 1 ?_ | refine zIxb 2 ?_ | refine gG ?_ | refine zN1 (fun hlen => ?_) | refine zN2 (fun hlen => ?_) | refine zAl (fun _ => ?_) | refine zBf ?_ | refine zAp (fun _ => ?_))
          refine zIx (k) (hk') ?_
          repeat (first | refine gG ?_ | refine zN1 (fun hlen => ?_) | refine zN2 (fun hlen => ?_) | refine zAl (fun _ => ?_) | refine zBx (fun _ => ?_) | refine zAp (fun _ => ?_))
          refine zEl (hlt) (Ln.ts_len _) ?_
          repeat (first | refine zIxb 0 ?_ | refine zIxb 1 ?_ | refine zIxb 2 ?_ | refine gG ?_ | refine zN1 (fun hlen => ?_) | refine zN2 (fun hlen => ?_) | refine zAl (fun _ => ?_) | refine zBf ?_ | refine zAp (fun _ => ?_))
          refine ac_draw [1, 1, 1, 1, 1, 1, 1, 1, 1, 1, 1, 1] [0, 1, 2, 3, 4, 5, 6, 7, 8, 9, 10, 11] (by kernel_rfl) (by kernel_rfl) ?_
          refine gW ?_
          apply w_q; (focus exact rfl); (focus exact rfl); focus (intro _; (refine zIxb 0 ?_); exact det_refl)
          refine gW ?_
          apply w_q; (focus exact rfl); (focus exact rfl); focus (intro _; (refine zIxo a haL ?_); exact det_refl)
          apply w_q; (focus exact rfl); (focus exact rfl); focus (intro _; (refine zElo1 hwa ?_); exact det_refl)
          refine gW ?_
          apply w_q; (focus exact rfl); (focus exact rfl); focus (intro _; (refine zIxb 1 ?_); exact det_refl)
          refine gW ?_
          apply w_q; (focus exact rfl); (focus exact rfl); focus (intro _; (refine zIxo b hbL ?_); exact det_refl)
          apply w_q; (focus exact rfl); (focus exact rfl); focus (intro _; (refine zElo1 hwb ?_); exact det_refl)
          refine gW ?_
          refine w_nil ?_
          repeat (first | refine zIxb 0 ?_ | refine zIxb 1 ?_ | refine zIxb 2 ?_ | refine gG ?_ | refine zN1 (fun hlen => ?_) | refine zN2 (fun hlen => ?_) | refine zAl (fun _ => ?_) | refine zBf ?_ | refine zAp (fun _ => ?_))
          refine ac_drawB [0, 1, 3, 7, 15, 31, 63, 127, 255, 511, 1023, 2047, 4095, 511, 16383, 32767, 65535, 131071, 262143, 524287, 1048575, 131071, 4194303, 8388607, 16777215, 33554431, 67108863, 134217727, 268435455, 33554431, 570425343, 1644167167, 3791650815, 8589934591, 17179869183, 34359738367, 68719476735, 137438953471, 274877906943, 549755813887, 68719476735, 1168231104511, 3367254360063, 7765300871167, 17592186044415, 35184372088831, 70368744177663] [1, 1, 1, 1, 1, 1, 1, 1, 1, 1, 1, 1, 1, 1, 1, 1, 1, 1, 1, 1, 1, 1, 1, 1, 1, 1, 1, 1, 1, 1, 1, 1, 1, 1, 1, 1, 1, 1, 1, 1, 1, 1, 1, 1, 1, 1, 1] [0, 1, 2, 3, 4, 5, 6, 7, 8, 9, 10, 11, 12, 13, 14, 15, 16, 17, 18, 19, 20, 21, 22, 23, 24, 25, 26, 27, 28, 29, 30, 31, 32, 33, 34, 35, 36, 37, 38, 39, 40, 41, 42, 43, 44, 45, 46] (by kernel_rfl) (by kernel_rfl) ?_
          refine gW ?_
          try (first | (apply w_un; (focus exact rfl); (focus exact rfl); (focus exact rfl); (focus exact rfl)) | (apply w_no; (focus exact rfl); (focus exact rfl); (focus exact rfl); (focus exact rfl); focus (first | rfl | assumption | exact neg_t (by assumption) | exact neg_f (by assumption))) | (apply w_qg; (focus exact rfl); (focus exact rfl); (focus exact rfl); (focus exact rfl); (focus (first | rfl | assumption | exact neg_t (by assumption) | exact neg_f (by assumption))); (focus (intro _; (refine zIx 0 hpa ?_); exact det_refl))))
          (first | (apply w_un; (focus exact rfl); (focus exact rfl); (focus exact rfl); (focus exact rfl)) | (apply w_no; (focus exact rfl); (focus exact rfl); (focus exact rfl); (focus exact rfl); focus (first | rfl | assumption | exact neg_t (by assumption) | exact neg_f (by assumption))) | (apply w_qg; (focus exact rfl); (focus exact rfl); (focus exact rfl); (focus exact rfl); (focus (first | rfl | assumption | exact neg_t (by assumption) | exact neg_f (by assumption))); (focus (intro _; (refine zIxn 0 ?_); exact det_refl))))
          (first | (apply w_un; (focus exact rfl); (focus exact rfl); (focus exact rfl); (focus exact rfl)) | (apply w_no; (focus exact rfl); (focus exact rfl); (focus exact rfl); (focus exact rfl); focus (first | rfl | assumption | exact neg_t (by assumption) | exact neg_f (by assumption))) | (apply w_qg; (focus exact rfl); (focus exact rfl); (focus exact rfl); (focus exact rfl); (focus (first | rfl | assumption | exact neg_t (by assumption) | exact neg_f (by assumption))); (focus (intro _; (refine zEl1 hxa0 ?_); exact det_refl))))
          try refine gW ?_
          refine w_nil ?_
          repeat (first | refine zIxb 0 ?_ | refine zIxb 1 ?_ | refine zIxb 2 ?_ | refine gG ?_ | refine zN1 (fun hlen => ?_) | refine zN2 (fun hlen => ?_) | refine zAl (fun _ => ?_) | refine zBf ?_ | refine zAp (fun _ => ?_))
          exact ⟨(k + 1, v9), hk', by simp only; omega, x_wkd 4 ⟨rfl, rfl, trivial⟩ (by simp only [hn]; rfl) (by repeat (first | exact ag_refl | refine ag_upd rfl ?_ | refine ag_at rfl rfl ?_))⟩
        cases f4 : decide (yl = ((k : Nat) : Int))
        · rw [f3, f4] at hrd
          have hn := hn1 hrd
          clear hy1 hn1 hrd hss
          repeat (first | refine zIxb 0 ?_ | refine zIxb 1 ?_ | refine zIxb 2 ?_ | refine gG ?_ | refine zN1 (fun hlen => ?_) | refine zN2 (fun hlen => ?_) | refine zAl (fun _ => ?_) | refine zBf ?_ | refine zAp (fun _ => ?_))
          refine zIx (k) (hk') ?_
          repeat (first | refine gG ?_ | refine zN1 (fun hlen => ?_) | refine zN2 (fun hlen => ?_) | refine zAl (fun _ => ?_) | refine zBx (fun _ => ?_) | refine zAp (fun _ => ?_))
          refine zEl (hlt) (Ln.ts_len _) ?_
          repeat (first | refine zIxb 0 ?_ | refine zIxb 1 ?_ | refine zIxb 2 ?_ | refine gG ?_ | refine zN1 (fun hlen => ?_) | refine zN2 (fun hlen => ?_) | refine zAl (fun _ => ?_) | refine zBf ?_ | refine zAp (fun _ => ?_))
          refine ac_draw [1, 1, 1, 1, 1, 1, 1, 1, 1, 1, 1, 1] [0, 1, 2, 3, 4, 5, 6, 7, 8, 9, 10, 11] (by kernel_rfl) (by kernel_rfl) ?_
          refine gW ?_
          apply w_q; (focus exact rfl); (focus exact rfl); focus (intro _; (refine zIxb 0 ?_); exact det_refl)
          refine gW ?_
          apply w_q; (focus exact rfl); (focus exact rfl); focus (intro _; (refine zIxo a haL ?_); exact det_refl)
          apply w_q; (focus exact rfl); (focus exact rfl); focus (intro _; (refine zElo1 hwa ?_); exact det_refl)
          refine gW ?_
          apply w_q; (focus exact rfl); (focus exact rfl); focus (intro _; (refine zIxb 1 ?_); exact det_refl)
          refine gW ?_
          apply w_q; (focus exact rfl); (focus exact rfl); focus (intro _; (refine zIxo b hbL ?_); exact det_refl)
          apply w_q; (focus exact rfl); (focus exact rfl); focus (intro _; (refine zElo1 hwb ?_); exact det_refl)
          refine gW ?_
          refine w_nil ?_
          repeat (first | refine zIxb 0 ?_ | refine zIxb 1 ?_ | refine zIxb 2 ?_ | refine gG ?_ | refine zN1 (fun hlen => ?_) | refine zN2 (fun hlen => ?_) | refine zAl (fun _ => ?_) | refine zBf ?_ | refine zAp (fun _ => ?_))
          refine ac_drawB [0, 1, 3, 7, 15, 31, 63, 127, 255, 511, 1023, 2047, 4095, 511, 16383, 32767, 65535, 131071, 262143, 524287, 1048575, 131071, 4194303, 8388607, 16777215, 33554431, 67108863, 134217727, 268435455, 33554431, 570425343, 1644167167, 3791650815, 8589934591, 17179869183, 34359738367, 68719476735, 137438953471, 274877906943, 549755813887, 68719476735, 1168231104511, 3367254360063, 7765300871167, 17592186044415, 35184372088831, 70368744177663] [1, 1, 1, 1, 1, 1, 1, 1, 1, 1, 1, 1, 1, 1, 1, 1, 1, 1, 1, 1, 1, 1, 1, 1, 1, 1, 1, 1, 1, 1, 1, 1, 1, 1, 1, 1, 1, 1, 1, 1, 1, 1, 1, 1, 1, 1, 1] [0, 1, 2, 3, 4, 5, 6, 7, 8, 9, 10, 11, 12, 13, 14, 15, 16, 17, 18, 19, 20, 21, 22, 23, 24, 25, 26, 27, 28, 29, 30, 31, 32, 33, 34, 35, 36, 37, 38, 39, 40, 41, 42, 43, 44, 45, 46] (by kernel_rfl) (by kernel_rfl) ?_
          refine gW ?_
          try (first | (apply w_un; (focus exact rfl); (focus exact rfl); (focus exact rfl); (focus exact rfl)) | (apply w_no; (focus exact rfl); (focus exact rfl); (focus exact rfl); (focus exact rfl); focus (first | rfl | assumption | exact neg_t (by assumption) | exact neg_f (by assumption))) | (apply w_qg; (focus exact rfl); (focus exact rfl); (focus exact rfl); (focus exact rfl); (focus (first | rfl | assumption | exact neg_t (by assumption) | exact neg_f (by assumption))); (focus (intro _; (refine zIx 0 hpa ?_); exact det_refl))))
          (first | (apply w_un; (focus exact rfl); (focus exact rfl); (focus exact rfl); (focus exact rfl)) | (apply w_no; (focus exact rfl); (focus exact rfl); (focus exact rfl); (focus exact rfl); focus (first | rfl | assumption | exact neg_t (by assumption) | exact neg_f (by assumption))) | (apply w_qg; (focus exact rfl); (focus exact rfl); (focus exact rfl); (focus exact rfl); (focus (first | rfl | assumption | exact neg_t (by assumption) | exact neg_f (by assumption))); (focus (intro _; (refine zIxn 0 ?_); exact det_refl))))
          (first | (apply w_un; (focus exact rfl); (focus exact rfl); (focus exact rfl); (focus exact rfl)) | (apply w_no; (focus exact rfl); (focus exact rfl); (focus exact rfl); (focus exact rfl); focus (first | rfl | assumption | exact neg_t (by assumption) | exact neg_f (by assumption))) | (apply w_qg; (focus exact rfl); (focus exact rfl); (focus exact rfl); (focus exact rfl); (focus (first | rfl | assumption | exact neg_t (by assumption) | exact neg_f (by assumption))); (focus (intro _; (refine zEl1 hxa0 ?_); exact det_refl))))
          try refine gW ?_
          try (first | (apply w_un; (focus exact rfl); (focus exact rfl); (focus exact rfl); (focus exact rfl)) | (apply w_no; (focus exact rfl); (focus exact rfl); (focus exact rfl); (focus exact rfl); focus (first | rfl | assumption | exact neg_t (by assumption) | exact neg_f (by assumption))) | (apply w_qg; (focus exact rfl); (focus exact rfl); (focus exact rfl); (focus exact rfl); (focus (first | rfl | assumption | exact neg_t (by assumption) | exact neg_f (by assumption))); (focus (intro _; (refine zIx 0 hpb ?_); exact det_refl))))
          (first | (apply w_un; (focus exact rfl); (focus exact rfl); (focus exact rfl); (focus exact rfl)) | (apply w_no; (focus exact rfl); (focus exact rfl); (focus exact rfl); (focus exact rfl); focus (first | rfl | assumption | exact neg_t (by assumption) | exact neg_f (by assumption))) | (apply w_qg; (focus exact rfl); (focus exact rfl); (focus exact rfl); (focus exact rfl); (focus (first | rfl | assumption | exact neg_t (by assumption) | exact neg_f (by assumption))); (focus (intro _; (refine zIxn 0 ?_); exact det_refl))))
          (first | (apply w_un; (focus exact rfl); (focus exact rfl); (focus exact rfl); (focus exact rfl)) | (apply w_no; (focus exact rfl); (focus exact rfl); (focus exact rfl); (focus exact rfl); focus (first | rfl | assumption | exact neg_t (by assumption) | exact neg_f (by assumption))) | (apply w_qg; (focus exact rfl); (focus exact rfl); (focus exact rfl); (focus exact rfl); (focus (first | rfl | assumption | exact neg_t (by assumption) | exact neg_f (by assumption))); (focus (intro _; (refine zEl1 hxb0 ?_); exact det_refl))))
          try refine gW ?_
          refine w_nil ?_
          repeat (first | refine zIxb 0 ?_ | refine zIxb 1 ?_ | refine zIxb 2 ?_ | refine gG ?_ | refine zN1 (fun hlen => ?_) | refine zN2 (fun hlen => ?_) | refine zAl (fun _ => ?_) | refine zBf ?_ | refine zAp (fun _ => ?_))
          exact ⟨(k + 1, v9), hk', by simp only; omega, x_wkd 4 ⟨rfl, rfl, trivial⟩ (by simp only [hn]; rfl) (by repeat (first | exact ag_refl | refine ag_upd rfl ?_ | refine ag_at rfl rfl ?_))⟩
        cases f5 : decide (xm = ym)
        · rw [f3, f4, f5] at hrd
          have hn := hn1 hrd
          clear hy1 hn1 hrd hss
          repeat (first | refine zIxb 0 ?_ | refine zIxb 1 ?_ | refine zIxb 2 ?_ | refine gG ?_ | refine zN1 (fun hlen => ?_) | refine zN2 (fun hlen => ?_) | refine zAl (fun _ => ?_) | refine zBf ?_ | refine zAp (fun _ => ?_))
          refine zIx (k) (hk') ?_
          repeat (first | refine gG ?_ | refine zN1 (fun hlen => ?_) | refine zN2 (fun hlen => ?_) | refine zAl (fun _ => ?_) | refine zBx (fun _ => ?_) | refine zAp (fun _ => ?_))
          refine zEl (hlt) (Ln.ts_len _) ?_
          repeat (first | refine zIxb 0 ?_ | refine zIxb 1 ?_ | refine zIxb 2 ?_ | refine gG ?_ | refine zN1 (fun hlen => ?_) | refine zN2 (fun hlen => ?_) | refine zAl (fun _ => ?_) | refine zBf ?_ | refine zAp (fun _ => ?_))
          refine ac_draw [1, 1, 1, 1, 1, 1, 1, 1, 1, 1, 1, 1] [0, 1, 2, 3, 4, 5, 6, 7, 8, 9, 10, 11] (by kernel_rfl) (by kernel_rfl) ?_
          refine gW ?_
          apply w_q; (focus exact rfl); (focus exact rfl); focus (intro _; (refine zIxb 0 ?_); exact det_refl)
          refine gW ?_
          apply w_q; (focus exact rfl); (focus exact rfl); focus (intro _; (refine zIxo a haL ?_); exact det_refl)
          apply w_q; (focus exact rfl); (focus exact rfl); focus (intro _; (refine zElo1 hwa ?_); exact det_refl)
          refine gW ?_
          apply w_q; (focus exact rfl); (focus exact rfl); focus (intro _; (refine zIxb 1 ?_); exact det_refl)
          refine gW ?_
          apply w_q; (focus exact rfl); (focus exact rfl); focus (intro _; (refine zIxo b hbL ?_); exact det_refl)
          apply w_q; (focus exact rfl); (focus exact rfl); focus (intro _; (refine zElo1 hwb ?_); exact det_refl)
          refine gW ?_
          refine w_nil ?_
          repeat (first | refine zIxb 0 ?_ | refine zIxb 1 ?_ | refine zIxb 2 ?_ | refine gG ?_ | refine zN1 (fun hlen => ?_) | refine zN2 (fun hlen => ?_) | refine zAl (fun _ => ?_) | refine zBf ?_ | refine zAp (fun _ => ?_))
          refine ac_drawB [0, 1, 3, 7, 15, 31, 63, 127, 255, 511, 1023, 2047, 4095, 511, 16383, 32767, 65535, 131071, 262143, 524287, 1048575, 131071, 4194303, 8388607, 16777215, 33554431, 67108863, 134217727, 268435455, 33554431, 570425343, 1644167167, 3791650815, 8589934591, 17179869183, 34359738367, 68719476735, 137438953471, 274877906943, 549755813887, 68719476735, 1168231104511, 3367254360063, 7765300871167, 17592186044415, 35184372088831, 70368744177663] [1, 1, 1, 1, 1, 1, 1, 1, 1, 1, 1, 1, 1, 1, 1, 1, 1, 1, 1, 1, 1, 1, 1, 1, 1, 1, 1, 1, 1, 1, 1, 1, 1, 1, 1, 1, 1, 1, 1, 1, 1, 1, 1, 1, 1, 1, 1] [0, 1, 2, 3, 4, 5, 6, 7, 8, 9, 10, 11, 12, 13, 14, 15, 16, 17, 18, 19, 20, 21, 22, 23, 24, 25, 26, 27, 28, 29, 30, 31, 32, 33, 34, 35, 36, 37, 38, 39, 40, 41, 42, 43, 44, 45, 46] (by kernel_rfl) (by kernel_rfl) ?_
          refine gW ?_
          try (first | (apply w_un; (focus exact rfl); (focus exact rfl); (focus exact rfl); (focus exact rfl)) | (apply w_no; (focus exact rfl); (focus exact rfl); (focus exact rfl); (focus exact rfl); focus (first | rfl | assumption | exact neg_t (by assumption) | exact neg_f (by assumption))) | (apply w_qg; (focus exact rfl); (focus exact rfl); (focus exact rfl); (focus exact rfl); (focus (first | rfl | assumption | exact neg_t (by assumption) | exact neg_f (by assumption))); (focus (intro _; (refine zIx 0 hpa ?_); exact det_refl))))
          (first | (apply w_un; (focus exact rfl); (focus exact rfl); (focus exact rfl); (focus exact rfl)) | (apply w_no; (focus exact rfl); (focus exact rfl); (focus exact rfl); (focus exact rfl); focus (first | rfl | assumption | exact neg_t (by assumption) | exact neg_f (by assumption))) | (apply w_qg; (focus exact rfl); (focus exact rfl); (focus exact rfl); (focus exact rfl); (focus (first | rfl | assumption | exact neg_t (by assumption) | exact neg_f (by assumption))); (focus (intro _; (refine zIxn 0 ?_); exact det_refl))))
          (first | (apply w_un; (focus exact rfl); (focus exact rfl); (focus exact rfl); (focus exact rfl)) | (apply w_no; (focus exact rfl); (focus exact rfl); (focus exact rfl); (focus exact rfl); focus (first | rfl | assumption | exact neg_t (by assumption) | exact neg_f (by assumption))) | (apply w_qg; (focus exact rfl); (focus exact rfl); (focus exact rfl); (focus exact rfl); (focus (first | rfl | assumption | exact neg_t (by assumption) | exact neg_f (by assumption))); (focus (intro _; (refine zEl1 hxa0 ?_); exact det_refl))))
          try refine gW ?_
          try (first | (apply w_un; (focus exact rfl); (focus exact rfl); (focus exact rfl); (focus exact rfl)) | (apply w_no; (focus exact rfl); (focus exact rfl); (focus exact rfl); (focus exact rfl); focus (first | rfl | assumption | exact neg_t (by assumption) | exact neg_f (by assumption))) | (apply w_qg; (focus exact rfl); (focus exact rfl); (focus exact rfl); (focus exact rfl); (focus (first | rfl | assumption | exact neg_t (by assumption) | exact neg_f (by assumption))); (focus (intro _; (refine zIx 0 hpb ?_); exact det_refl))))
          (first | (apply w_un; (focus exact rfl); (focus exact rfl); (focus exact rfl); (focus exact rfl)) | (apply w_no; (focus exact rfl); (focus exact rfl); (focus exact rfl); (focus exact rfl); focus (first | rfl | assumption | exact neg_t (by assumption) | exact neg_f (by assumption))) | (apply w_qg; (focus exact rfl); (focus exact rfl); (focus exact rfl); (focus exact rfl); (focus (first | rfl | assumption | exact neg_t (by assumption) | exact neg_f (by assumption))); (focus (intro _; (refine zIxn 0 ?_); exact det_refl))))
          (first | (apply w_un; (focus exact rfl); (focus exact rfl); (focus exact rfl); (focus exact rfl)) | (apply w_no; (focus exact rfl); (focus exact rfl); (focus exact rfl); (focus exact rfl); focus (first | rfl | assumption | exact neg_t (by assumption) | exact neg_f (by assumption))) | (apply w_qg; (focus exact rfl); (focus exact rfl); (focus exact rfl); (focus exact rfl); (focus (first | rfl | assumption | exact neg_t (by assumption) | exact neg_f (by assumption))); (focus (intro _; (refine zEl1 hxb0 ?_); exact det_refl))))
          try refine gW ?_
          try (first | (apply w_un; (focus exact rfl); (focus exact rfl); (focus exact rfl); (focus exact rfl)) | (apply w_no; (focus exact rfl); (focus exact rfl); (focus exact rfl); (focus exact rfl); focus (first | rfl | assumption | exact neg_t (by assumption) | exact neg_f (by assumption))) | (apply w_qg; (focus exact rfl); (focus exact rfl); (focus exact rfl); (focus exact rfl); (focus (first | rfl | assumption | exact neg_t (by assumption) | exact neg_f (by assumption))); (focus (intro _; (refine zIx 0 hpa ?_); exact det_refl))))
          (first | (apply w_un; (focus exact rfl); (focus exact rfl); (focus exact rfl); (focus exact rfl)) | (apply w_no; (focus exact rfl); (focus exact rfl); (focus exact rfl); (focus exact rfl); focus (first | rfl | assumption | exact neg_t (by assumption) | exact neg_f (by assumption))) | (apply w_qg; (focus exact rfl); (focus exact rfl); (focus exact rfl); (focus exact rfl); (focus (first | rfl | assumption | exact neg_t (by assumption) | exact neg_f (by assumption))); (focus (intro _; (refine zIxn 2 ?_); exact det_refl))))
          (first | (apply w_un; (focus exact rfl); (focus exact rfl); (focus exact rfl); (focus exact rfl)) | (apply w_no; (focus exact rfl); (focus exact rfl); (focus exact rfl); (focus exact rfl); focus (first | rfl | assumption | exact neg_t (by assumption) | exact neg_f (by assumption))) | (apply w_qg; (focus exact rfl); (focus exact rfl); (focus exact rfl); (focus exact rfl); (focus (first | rfl | assumption | exact neg_t (by assumption) | exact neg_f (by assumption))); (focus (intro _; (refine zEl1 hxa2 ?_); exact det_refl))))
          try refine gW ?_
          try (first | (apply w_un; (focus exact rfl); (focus exact rfl); (focus exact rfl); (focus exact rfl)) | (apply w_no; (focus exact rfl); (focus exact rfl); (focus exact rfl); (focus exact rfl); focus (first | rfl | assumption | exact neg_t (by assumption) | exact neg_f (by assumption))) | (apply w_qg; (focus exact rfl); (focus exact rfl); (focus exact rfl); (focus exact rfl); (focus (first | rfl | assumption | exact neg_t (by assumption) | exact neg_f (by assumption))); (focus (intro _; (refine zIx 0 hpb ?_); exact det_refl))))
          (first | (apply w_un; (focus exact rfl); (focus exact rfl); (focus exact rfl); (focus exact rfl)) | (apply w_no; (focus exact rfl); (focus exact rfl); (focus exact rfl); (focus exact rfl); focus (first | rfl | assumption | exact neg_t (by assumption) | exact neg_f (by assumption))) | (apply w_qg; (focus exact rfl); (focus exact rfl); (focus exact rfl); (focus exact rfl); (focus (first | rfl | assumption | exact neg_t (by assumption) | exact neg_f (by assumption))); (focus (intro _; (refine zIxn 2 ?_); exact det_refl))))
          (first | (apply w_un; (focus exact rfl); (focus exact rfl); (focus exact rfl); (focus exact rfl)) | (apply w_no; (focus exact rfl); (focus exact rfl); (focus exact rfl); (focus exact rfl); focus (first | rfl | assumption | exact neg_t (by assumption) | exact neg_f (by assumption))) | (apply w_qg; (focus exact rfl); (focus exact rfl); (focus exact rfl); (focus exact rfl); (focus (first | rfl | assumption | exact neg_t (by assumption) | exact neg_f (by assumption))); (focus (intro _; (refine zEl1 hxb2 ?_); exact det_refl))))
          try refine gW ?_
          refine w_nil ?_
          repeat (first | refine zIxb 0 ?_ | refine zIxb 1 ?_ | refine zIxb 2 ?_ | refine gG ?_ | refine zN1 (fun hlen => ?_) | refine zN2 (fun hlen => ?_) | refine zAl (fun _ => ?_) | refine zBf ?_ | refine zAp (fun _ => ?_))
          exact ⟨(k + 1, v9), hk', by simp only; omega, x_wkd 4 ⟨rfl, rfl, trivial⟩ (by simp only [hn]; rfl) (by repeat (first | exact ag_refl | refine ag_upd rfl ?_ | refine ag_at rfl rfl ?_))⟩
        cases f6 : decide (sgn xs + sgn ys = 1)
        · rw [f3, f4, f5, f6] at hrd
          have hn := hn1 hrd
          clear hy1 hn1 hrd hss
          repeat (first | refine zIxb 0 ?_ | refine zIxb 1 ?_ | refine zIxb 2 ?_ | refine gG ?_ | refine zN1 (fun hlen => ?_) | refine zN2 (fun hlen => ?_) | refine zAl (fun _ => ?_) | refine zBf ?_ | refine zAp (fun _ => ?_))
          refine zIx (k) (hk') ?_
          repeat (first | refine gG ?_ | refine zN1 (fun hlen => ?_) | refine zN2 (fun hlen => ?_) | refine zAl (fun _ => ?_) | refine zBx (fun _ => ?_) | refine zAp (fun _ => ?_))
          refine zEl (hlt) (Ln.ts_len _) ?_
          repeat (first | refine zIxb 0 ?_ | refine zIxb 1 ?_ | refine zIxb 2 ?_ | refine gG ?_ | refine zN1 (fun hlen => ?_) | refine zN2 (fun hlen => ?_) | refine zAl (fun _ => ?_) | refine zBf ?_ | refine zAp (fun _ => ?_))
          refine ac_draw [1, 1, 1, 1, 1, 1, 1, 1, 1, 1, 1, 1] [0, 1, 2, 3, 4, 5, 6, 7, 8, 9, 10, 11] (by kernel_rfl) (by kernel_rfl) ?_
          refine gW ?_
          apply w_q; (focus exact rfl); (focus exact rfl); focus (intro _; (refine zIxb 0 ?_); exact det_refl)
          refine gW ?_
          apply w_q; (focus exact rfl); (focus exact rfl); focus (intro _; (refine zIxo a haL ?_); exact det_refl)
          apply w_q; (focus exact rfl); (focus exact rfl); focus (intro _; (refine zElo1 hwa ?_); exact det_refl)
          refine gW ?_
          apply w_q; (focus exact rfl); (focus exact rfl); focus (intro _; (refine zIxb 1 ?_); exact det_refl)
          refine gW ?_
          apply w_q; (focus exact rfl); (focus exact rfl); focus (intro _; (refine zIxo b hbL ?_); exact det_refl)
          apply w_q; (focus exact rfl); (focus exact rfl); focus (intro _; (refine zElo1 hwb ?_); exact det_refl)
          refine gW ?_
          refine w_nil ?_
          repeat (first | refine zIxb 0 ?_ | refine zIxb 1 ?_ | refine zIxb 2 ?_ | refine gG ?_ | refine zN1 (fun hlen => ?_) | refine zN2 (fun hlen => ?_) | refine zAl (fun _ => ?_) | refine zBf ?_ | refine zAp (fun _ => ?_))
          refine ac_drawB [0, 1, 3, 7, 15, 31, 63, 127, 255, 511, 1023, 2047, 4095, 511, 16383, 32767, 65535, 131071, 262143, 524287, 1048575, 131071, 4194303, 8388607, 16777215, 33554431, 67108863, 134217727, 268435455, 33554431, 570425343, 1644167167, 3791650815, 8589934591, 17179869183, 34359738367, 68719476735, 137438953471, 274877906943, 549755813887, 68719476735, 1168231104511, 3367254360063, 7765300871167, 17592186044415, 35184372088831, 70368744177663] [1, 1, 1, 1, 1, 1, 1, 1, 1, 1, 1, 1, 1, 1, 1, 1, 1, 1, 1, 1, 1, 1, 1, 1, 1, 1, 1, 1, 1, 1, 1, 1, 1, 1, 1, 1, 1, 1, 1, 1, 1, 1, 1, 1, 1, 1, 1] [0, 1, 2, 3, 4, 5, 6, 7, 8, 9, 10, 11, 12, 13, 14, 15, 16, 17, 18, 19, 20, 21, 22, 23, 24, 25, 26, 27, 28, 29, 30, 31, 32, 33, 34, 35, 36, 37, 38, 39, 40, 41, 42, 43, 44, 45, 46] (by kernel_rfl) (by kernel_rfl) ?_
          refine gW ?_
          try (first | (apply w_un; (focus exact rfl); (focus exact rfl); (focus exact rfl); (focus exact rfl)) | (apply w_no; (focus exact rfl); (focus exact rfl); (focus exact rfl); (focus exact rfl); focus (first | rfl | assumption | exact neg_t (by assumption) | exact neg_f (by assumption))) | (apply w_qg; (focus exact rfl); (focus exact rfl); (focus exact rfl); (focus exact rfl); (focus (first | rfl | assumption | exact neg_t (by assumption) | exact neg_f (by assumption))); (focus (intro _; (refine zIx 0 hpa ?_); exact det_refl))))
          (first | (apply w_un; (focus exact rfl); (focus exact rfl); (focus exact rfl); (focus exact rfl)) | (apply w_no; (focus exact rfl); (focus exact rfl); (focus exact rfl); (focus exact rfl); focus (first | rfl | assumption | exact neg_t (by assumption) | exact neg_f (by assumption))) | (apply w_qg; (focus exact rfl); (focus exact rfl); (focus exact rfl); (focus exact rfl); (focus (first | rfl | assumption | exact neg_t (by assumption) | exact neg_f (by assumption))); (focus (intro _; (refine zIxn 0 ?_); exact det_refl))))
          (first | (apply w_un; (focus exact rfl); (focus exact rfl); (focus exact rfl); (focus exact rfl)) | (apply w_no; (focus exact rfl); (focus exact rfl); (focus exact rfl); (focus exact rfl); focus (first | rfl | assumption | exact neg_t (by assumption) | exact neg_f (by assumption))) | (apply w_qg; (focus exact rfl); (focus exact rfl); (focus exact rfl); (focus exact rfl); (focus (first | rfl | assumption | exact neg_t (by assumption) | exact neg_f (by assumption))); (focus (intro _; (refine zEl1 hxa0 ?_); exact det_refl))))
          try refine gW ?_
          try (first | (apply w_un; (focus exact rfl); (focus exact rfl); (focus exact rfl); (focus exact rfl)) | (apply w_no; (focus exact rfl); (focus exact rfl); (focus exact rfl); (focus exact rfl); focus (first | rfl | assumption | exact neg_t (by assumption) | exact neg_f (by assumption))) | (apply w_qg; (focus exact rfl); (focus exact rfl); (focus exact rfl); (focus exact rfl); (focus (first | rfl | assumption | exact neg_t (by assumption) | exact neg_f (by assumption))); (focus (intro _; (refine zIx 0 hpb ?_); exact det_refl))))
          (first | (apply w_un; (focus exact rfl); (focus exact rfl); (focus exact rfl); (focus exact rfl)) | (apply w_no; (focus exact rfl); (focus exact rfl); (focus exact rfl); (focus exact rfl); focus (first | rfl | assumption | exact neg_t (by assumption) | exact neg_f (by assumption))) | (apply w_qg; (focus exact rfl); (focus exact rfl); (focus exact rfl); (focus exact rfl); (focus (first | rfl | assumption | exact neg_t (by assumption) | exact neg_f (by assumption))); (focus (intro _; (refine zIxn 0 ?_); exact det_refl))))
          (first | (apply w_un; (focus exact rfl); (focus exact rfl); (focus exact rfl); (focus exact rfl)) | (apply w_no; (focus exact rfl); (focus exact rfl); (focus exact rfl); (focus exact rfl); focus (first | rfl | assumption | exact neg_t (by assumption) | exact neg_f (by assumption))) | (apply w_qg; (focus exact rfl); (focus exact rfl); (focus exact rfl); (focus exact rfl); (focus (first | rfl | assumption | exact neg_t (by assumption) | exact neg_f (by assumption))); (focus (intro _; (refine zEl1 hxb0 ?_); exact det_refl))))
          try refine gW ?_
          try (first | (apply w_un; (focus exact rfl); (focus exact rfl); (focus exact rfl); (focus exact rfl)) | (apply w_no; (focus exact rfl); (focus exact rfl); (focus exact rfl); (focus exact rfl); focus (first | rfl | assumption | exact neg_t (by assumption) | exact neg_f (by assumption))) | (apply w_qg; (focus exact rfl); (focus exact rfl); (focus exact rfl); (focus exact rfl); (focus (first | rfl | assumption | exact neg_t (by assumption) | exact neg_f (by assumption))); (focus (intro _; (refine zIx 0 hpa ?_); exact det_refl))))
          (first | (apply w_un; (focus exact rfl); (focus exact rfl); (focus exact rfl); (focus exact rfl)) | (apply w_no; (focus exact rfl); (focus exact rfl); (focus exact rfl); (focus exact rfl); focus (first | rfl | assumption | exact neg_t (by assumption) | exact neg_f (by assumption))) | (apply w_qg; (focus exact rfl); (focus exact rfl); (focus exact rfl); (focus exact rfl); (focus (first | rfl | assumption | exact neg_t (by assumption) | exact neg_f (by assumption))); (focus (intro _; (refine zIxn 2 ?_); exact det_refl))))
          (first | (apply w_un; (focus exact rfl); (focus exact rfl); (focus exact rfl); (focus exact rfl)) | (apply w_no; (focus exact rfl); (focus exact rfl); (focus exact rfl); (focus exact rfl); focus (first | rfl | assumption | exact neg_t (by assumption) | exact neg_f (by assumption))) | (apply w_qg; (focus exact rfl); (focus exact rfl); (focus exact rfl); (focus exact rfl); (focus (first | rfl | assumption | exact neg_t (by assumption) | exact neg_f (by assumption))); (focus (intro _; (refine zEl1 hxa2 ?_); exact det_refl))))
          try refine gW ?_
          try (first | (apply w_un; (focus exact rfl); (focus exact rfl); (focus exact rfl); (focus exact rfl)) | (apply w_no; (focus exact rfl); (focus exact rfl); (focus exact rfl); (focus exact rfl); focus (first | rfl | assumption | exact neg_t (by assumption) | exact neg_f (by assumption))) | (apply w_qg; (focus exact rfl); (focus exact rfl); (focus exact rfl); (focus exact rfl); (focus (first | rfl | assumption | exact neg_t (by assumption) | exact neg_f (by assumption))); (focus (intro _; (refine zIx 0 hpb ?_); exact det_refl))))
          (first | (apply w_un; (focus exact rfl); (focus exact rfl); (focus exact rfl); (focus exact rfl)) | (apply w_no; (focus exact rfl); (focus exact rfl); (focus exact rfl); (focus exact rfl); focus (first | rfl | assumption | exact neg_t (by assumption) | exact neg_f (by assumption))) | (apply w_qg; (focus exact rfl); (focus exact rfl); (focus exact rfl); (focus exact rfl); (focus (first | rfl | assumption | exact neg_t (by assumption) | exact neg_f (by assumption))); (focus (intro _; (refine zIxn 2 ?_); exact det_refl))))
          (first | (apply w_un; (focus exact rfl); (focus exact rfl); (focus exact rfl); (focus exact rfl)) | (apply w_no; (focus exact rfl); (focus exact rfl); (focus exact rfl); (focus exact rfl); focus (first | rfl | assumption | exact neg_t (by assumption) | exact neg_f (by assumption))) | (apply w_qg; (focus exact rfl); (focus exact rfl); (focus exact rfl); (focus exact rfl); (focus (first | rfl | assumption | exact neg_t (by assumption) | exact neg_f (by assumption))); (focus (intro _; (refine zEl1 hxb2 ?_); exact det_refl))))
          try refine gW ?_
          try (first | (apply w_un; (focus exact rfl); (focus exact rfl); (focus exact rfl); (focus exact rfl)) | (apply w_no; (focus exact rfl); (focus exact rfl); (focus exact rfl); (focus exact rfl); focus (first | rfl | assumption | exact neg_t (by assumption) | exact neg_f (by assumption))) | (apply w_qg; (focus exact rfl); (focus exact rfl); (focus exact rfl); (focus exact rfl); (focus (first | rfl | assumption | exact neg_t (by assumption) | exact neg_f (by assumption))); (focus (intro _; (refine zIx 0 hpa ?_); exact det_refl))))
          (first | (apply w_un; (focus exact rfl); (focus exact rfl); (focus exact rfl); (focus exact rfl)) | (apply w_no; (focus exact rfl); (focus exact rfl); (focus exact rfl); (focus exact rfl); focus (first | rfl | assumption | exact neg_t (by assumption) | exact neg_f (by assumption))) | (apply w_qg; (focus exact rfl); (focus exact rfl); (focus exact rfl); (focus exact rfl); (focus (first | rfl | assumption | exact neg_t (by assumption) | exact neg_f (by assumption))); (focus (intro _; (refine zIxn 1 ?_); exact det_refl))))
          (first | (apply w_un; (focus exact rfl); (focus exact rfl); (focus exact rfl); (focus exact rfl)) | (apply w_no; (focus exact rfl); (focus exact rfl); (focus exact rfl); (focus exact rfl); focus (first | rfl | assumption | exact neg_t (by assumption) | exact neg_f (by assumption))) | (apply w_qg; (focus exact rfl); (focus exact rfl); (focus exact rfl); (focus exact rfl); (focus (first | rfl | assumption | exact neg_t (by assumption) | exact neg_f (by assumption))); (focus (intro _; (refine zEl1 hxa1 ?_); exact det_refl))))
          try refine gW ?_
          try (first | (apply w_un; (focus exact rfl); (focus exact rfl); (focus exact rfl); (focus exact rfl)) | (apply w_no; (focus exact rfl); (focus exact rfl); (focus exact rfl); (focus exact rfl); focus (first | rfl | assumption | exact neg_t (by assumption) | exact neg_f (by assumption))) | (apply w_qg; (focus exact rfl); (focus exact rfl); (focus exact rfl); (focus exact rfl); (focus (first | rfl | assumption | exact neg_t (by assumption) | exact neg_f (by assumption))); (focus (intro _; (refine zIx 0 hpb ?_); exact det_refl))))
          (first | (apply w_un; (focus exact rfl); (focus exact rfl); (focus exact rfl); (focus exact rfl)) | (apply w_no; (focus exact rfl); (focus exact rfl); (focus exact rfl); (focus exact rfl); focus (first | rfl | assumption | exact neg_t (by assumption) | exact neg_f (by assumption))) | (apply w_qg; (focus exact rfl); (focus exact rfl); (focus exact rfl); (focus exact rfl); (focus (first | rfl | assumption | exact neg_t (by assumption) | exact neg_f (by assumption))); (focus (intro _; (refine zIxn 1 ?_); exact det_refl))))
          (first | (apply w_un; (focus exact rfl); (focus exact rfl); (focus exact rfl); (focus exact rfl)) | (apply w_no; (focus exact rfl); (focus exact rfl); (focus exact rfl); (focus exact rfl); focus (first | rfl | assumption | exact neg_t (by assumption) | exact neg_f (by assumption))) | (apply w_qg; (focus exact rfl); (focus exact rfl); (focus exact rfl); (focus exact rfl); (focus (first | rfl | assumption | exact neg_t (by assumption) | exact neg_f (by assumption))); (focus (intro _; (refine zEl1 hxb1 ?_); exact det_refl))))
          (first | (apply w_un; (focus exact rfl); (focus exact rfl); (focus exact rfl); (focus exact rfl)) | (apply w_no; (focus exact rfl); (focus exact rfl); (focus exact rfl); (focus exact rfl); focus (first | rfl | assumption | exact neg_t (by assumption) | exact neg_f (by assumption))) | (apply w_qg; (focus exact rfl); (focus exact rfl); (focus exact rfl); (focus exact rfl); (focus (first | rfl | assumption | exact neg_t (by assumption) | exact neg_f (by assumption))); (focus (intro _; (refine lo_add rfl rfl (r := sgn xs + sgn ys) (by show IntKind.wrap .i64 (sgn xs + sgn ys) = sgn xs + sgn ys; rw [IntWalk.i64_in _ (by omega)]) ?_); exact det_refl))))
          try refine gW ?_
          refine w_nil ?_
          repeat (first | refine zIxb 0 ?_ | refine zIxb 1 ?_ | refine zIxb 2 ?_ | refine gG ?_ | refine zN1 (fun hlen => ?_) | refine zN2 (fun hlen => ?_) | refine zAl (fun _ => ?_) | refine zBf ?_ | refine zAp (fun _ => ?_))
          exact ⟨(k + 1, v9), hk', by simp only; omega, x_wkd 4 ⟨rfl, rfl, trivial⟩ (by simp only [hn]; rfl) (by repeat (first | exact ag_refl | refine ag_upd rfl ?_ | refine ag_at rfl rfl ?_))⟩
        · rw [f3, f4, f5, f6] at hrd
          have hn := hy1 hrd
          clear hy1 hn1 hrd hss
          repeat (first | refine zIxb 0 ?_ | refine zIxb 1 ?_ | refine zIxb 2 ?_ | refine gG ?_ | refine zN1 (fun hlen => ?_) | refine zN2 (fun hlen => ?_) | refine zAl (fun _ => ?_) | refine zBf ?_ | refine zAp (fun _ => ?_))
          refine zIx (k) (hk') ?_
          repeat (first | refine gG ?_ | refine zN1 (fun hlen => ?_) | refine zN2 (fun hlen => ?_) | refine zAl (fun _ => ?_) | refine zBx (fun _ => ?_) | refine zAp (fun _ => ?_))
          refine zEl (hlt) (Ln.ts_len _) ?_
          repeat (first | refine zIxb 0 ?_ | refine zIxb 1 ?_ | refine zIxb 2 ?_ | refine gG ?_ | refine zN1 (fun hlen => ?_) | refine zN2 (fun hlen => ?_) | refine zAl (fun _ => ?_) | refine zBf ?_ | refine zAp (fun _ => ?_))
          refine ac_draw [1, 1, 1, 1, 1, 1, 1, 1, 1, 1, 1, 1] [0, 1, 2, 3, 4, 5, 6, 7, 8, 9, 10, 11] (by kernel_rfl) (by kernel_rfl) ?_
          refine gW ?_
          apply w_q; (focus exact rfl); (focus exact rfl); focus (intro _; (refine zIxb 0 ?_); exact det_refl)
          refine gW ?_
          apply w_q; (focus exact rfl); (focus exact rfl); focus (intro _; (refine zIxo a haL ?_); exact det_refl)
          apply w_q; (focus exact rfl); (focus exact rfl); focus (intro _; (refine zElo1 hwa ?_); exact det_refl)
          refine gW ?_
          apply w_q; (focus exact rfl); (focus exact rfl); focus (intro _; (refine zIxb 1 ?_); exact det_refl)
          refine gW ?_
          apply w_q; (focus exact rfl); (focus exact rfl); focus (intro _; (refine zIxo b hbL ?_); exact det_refl)
          apply w_q; (focus exact rfl); (focus exact rfl); focus (intro _; (refine zElo1 hwb ?_); exact det_refl)
          refine gW ?_
          refine w_nil ?_
          repeat (first | refine zIxb 0 ?_ | refine zIxb 1 ?_ | refine zIxb 2 ?_ | refine gG ?_ | refine zN1 (fun hlen => ?_) | refine zN2 (fun hlen => ?_) | refine zAl (fun _ => ?_) | refine zBf ?_ | refine zAp (fun _ => ?_))
          refine ac_drawB [0, 1, 3, 7, 15, 31, 63, 127, 255, 511, 1023, 2047, 4095, 511, 16383, 32767, 65535, 131071, 262143, 524287, 1048575, 131071, 4194303, 8388607, 16777215, 33554431, 67108863, 134217727, 268435455, 33554431, 570425343, 1644167167, 3791650815, 8589934591, 17179869183, 34359738367, 68719476735, 137438953471, 274877906943, 549755813887, 68719476735, 1168231104511, 3367254360063, 7765300871167, 17592186044415, 35184372088831, 70368744177663] [1, 1, 1, 1, 1, 1, 1, 1, 1, 1, 1, 1, 1, 1, 1, 1, 1, 1, 1, 1, 1, 1, 1, 1, 1, 1, 1, 1, 1, 1, 1, 1, 1, 1, 1, 1, 1, 1, 1, 1, 1, 1, 1, 1, 1, 1, 1] [0, 1, 2, 3, 4, 5, 6, 7, 8, 9, 10, 11, 12, 13, 14, 15, 16, 17, 18, 19, 20, 21, 22, 23, 24, 25, 26, 27, 28, 29, 30, 31, 32, 33, 34, 35, 36, 37, 38, 39, 40, 41, 42, 43, 44, 45, 46] (by kernel_rfl) (by kernel_rfl) ?_
          refine gW ?_
          try (first | (apply w_un; (focus exact rfl); (focus exact rfl); (focus exact rfl); (focus exact rfl)) | (apply w_no; (focus exact rfl); (focus exact rfl); (focus exact rfl); (focus exact rfl); focus (first | rfl | assumption | exact neg_t (by assumption) | exact neg_f (by assumption))) | (apply w_qg; (focus exact rfl); (focus exact rfl); (focus exact rfl); (focus exact rfl); (focus (first | rfl | assumption | exact neg_t (by assumption) | exact neg_f (by assumption))); (focus (intro _; (refine zIx 0 hpa ?_); exact det_refl))))
          (first | (apply w_un; (focus exact rfl); (focus exact rfl); (focus exact rfl); (focus exact rfl)) | (apply w_no; (focus exact rfl); (focus exact rfl); (focus exact rfl); (focus exact rfl); focus (first | rfl | assumption | exact neg_t (by assumption) | exact neg_f (by assumption))) | (apply w_qg; (focus exact rfl); (focus exact rfl); (focus exact rfl); (focus exact rfl); (focus (first | rfl | assumption | exact neg_t (by assumption) | exact neg_f (by assumption))); (focus (intro _; (refine zIxn 0 ?_); exact det_refl))))
          (first | (apply w_un; (focus exact rfl); (focus exact rfl); (focus exact rfl); (focus exact rfl)) | (apply w_no; (focus exact rfl); (focus exact rfl); (focus exact rfl); (focus exact rfl); focus (first | rfl | assumption | exact neg_t (by assumption) | exact neg_f (by assumption))) | (apply w_qg; (focus exact rfl); (focus exact rfl); (focus exact rfl); (focus exact rfl); (focus (first | rfl | assumption | exact neg_t (by assumption) | exact neg_f (by assumption))); (focus (intro _; (refine zEl1 hxa0 ?_); exact det_refl))))
          try refine gW ?_
          try (first | (apply w_un; (focus exact rfl); (focus exact rfl); (focus exact rfl); (focus exact rfl)) | (apply w_no; (focus exact rfl); (focus exact rfl); (focus exact rfl); (focus exact rfl); focus (first | rfl | assumption | exact neg_t (by assumption) | exact neg_f (by assumption))) | (apply w_qg; (focus exact rfl); (focus exact rfl); (focus exact rfl); (focus exact rfl); (focus (first | rfl | assumption | exact neg_t (by assumption) | exact neg_f (by assumption))); (focus (intro _; (refine zIx 0 hpb ?_); exact det_refl))))
          (first | (apply w_un; (focus exact rfl); (focus exact rfl); (focus exact rfl); (focus exact rfl)) | (apply w_no; (focus exact rfl); (focus exact rfl); (focus exact rfl); (focus exact rfl); focus (first | rfl | assumption | exact neg_t (by assumption) | exact neg_f (by assumption))) | (apply w_qg; (focus exact rfl); (focus exact rfl); (focus exact rfl); (focus exact rfl); (focus (first | rfl | assumption | exact neg_t (by assumption) | exact neg_f (by assumption))); (focus (intro _; (refine zIxn 0 ?_); exact det_refl))))
          (first | (apply w_un; (focus exact rfl); (focus exact rfl); (focus exact rfl); (focus exact rfl)) | (apply w_no; (focus exact rfl); (focus exact rfl); (focus exact rfl); (focus exact rfl); focus (first | rfl | assumption | exact neg_t (by assumption) | exact neg_f (by assumption))) | (apply w_qg; (focus exact rfl); (focus exact rfl); (focus exact rfl); (focus exact rfl); (focus (first | rfl | assumption | exact neg_t (by assumption) | exact neg_f (by assumption))); (focus (intro _; (refine zEl1 hxb0 ?_); exact det_refl))))
          try refine gW ?_
          try (first | (apply w_un; (focus exact rfl); (focus exact rfl); (focus exact rfl); (focus exact rfl)) | (apply w_no; (focus exact rfl); (focus exact rfl); (focus exact rfl); (focus exact rfl); focus (first | rfl | assumption | exact neg_t (by assumption) | exact neg_f (by assumption))) | (apply w_qg; (focus exact rfl); (focus exact rfl); (focus exact rfl); (focus exact rfl); (focus (first | rfl | assumption | exact neg_t (by assumption) | exact neg_f (by assumption))); (focus (intro _; (refine zIx 0 hpa ?_); exact det_refl))))
          (first | (apply w_un; (focus exact rfl); (focus exact rfl); (focus exact rfl); (focus exact rfl)) | (apply w_no; (focus exact rfl); (focus exact rfl); (focus exact rfl); (focus exact rfl); focus (first | rfl | assumption | exact neg_t (by assumption) | exact neg_f (by assumption))) | (apply w_qg; (focus exact rfl); (focus exact rfl); (focus exact rfl); (focus exact rfl); (focus (first | rfl | assumption | exact neg_t (by assumption) | exact neg_f (by assumption))); (focus (intro _; (refine zIxn 2 ?_); exact det_refl))))
          (first | (apply w_un; (focus exact rfl); (focus exact rfl); (focus exact rfl); (focus exact rfl)) | (apply w_no; (focus exact rfl); (focus exact rfl); (focus exact rfl); (focus exact rfl); focus (first | rfl | assumption | exact neg_t (by assumption) | exact neg_f (by assumption))) | (apply w_qg; (focus exact rfl); (focus exact rfl); (focus exact rfl); (focus exact rfl); (focus (first | rfl | assumption | exact neg_t (by assumption) | exact neg_f (by assumption))); (focus (intro _; (refine zEl1 hxa2 ?_); exact det_refl))))
          try refine gW ?_
          try (first | (apply w_un; (focus exact rfl); (focus exact rfl); (focus exact rfl); (focus exact rfl)) | (apply w_no; (focus exact rfl); (focus exact rfl); (focus exact rfl); (focus exact rfl); focus (first | rfl | assumption | exact neg_t (by assumption) | exact neg_f (by assumption))) | (apply w_qg; (focus exact rfl); (focus exact rfl); (focus exact rfl); (focus exact rfl); (focus (first | rfl | assumption | exact neg_t (by assumption) | exact neg_f (by assumption))); (focus (intro _; (refine zIx 0 hpb ?_); exact det_refl))))
          (first | (apply w_un; (focus exact rfl); (focus exact rfl); (focus exact rfl); (focus exact rfl)) | (apply w_no; (focus exact rfl); (focus exact rfl); (focus exact rfl); (focus exact rfl); focus (first | rfl | assumption | exact neg_t (by assumption) | exact neg_f (by assumption))) | (apply w_qg; (focus exact rfl); (focus exact rfl); (focus exact rfl); (focus exact rfl); (focus (first | rfl | assumption | exact neg_t (by assumption) | exact neg_f (by assumption))); (focus (intro _; (refine zIxn 2 ?_); exact det_refl))))
          (first | (apply w_un; (focus exact rfl); (focus exact rfl); (focus exact rfl); (focus exact rfl)) | (apply w_no; (focus exact rfl); (focus exact rfl); (focus exact rfl); (focus exact rfl); focus (first | rfl | assumption | exact neg_t (by assumption) | exact neg_f (by assumption))) | (apply w_qg; (focus exact rfl); (focus exact rfl); (focus exact rfl); (focus exact rfl); (focus (first | rfl | assumption | exact neg_t (by assumption) | exact neg_f (by assumption))); (focus (intro _; (refine zEl1 hxb2 ?_); exact det_refl))))
          try refine gW ?_
          try (first | (apply w_un; (focus exact rfl); (focus exact rfl); (focus exact rfl); (focus exact rfl)) | (apply w_no; (focus exact rfl); (focus exact rfl); (focus exact rfl); (focus exact rfl); focus (first | rfl | assumption | exact neg_t (by assumption) | exact neg_f (by assumption))) | (apply w_qg; (focus exact rfl); (focus exact rfl); (focus exact rfl); (focus exact rfl); (focus (first | rfl | assumption | exact neg_t (by assumption) | exact neg_f (by assumption))); (focus (intro _; (refine zIx 0 hpa ?_); exact det_refl))))
          (first | (apply w_un; (focus exact rfl); (focus exact rfl); (focus exact rfl); (focus exact rfl)) | (apply w_no; (focus exact rfl); (focus exact rfl); (focus exact rfl); (focus exact rfl); focus (first | rfl | assumption | exact neg_t (by assumption) | exact neg_f (by assumption))) | (apply w_qg; (focus exact rfl); (focus exact rfl); (focus exact rfl); (focus exact rfl); (focus (first | rfl | assumption | exact neg_t (by assumption) | exact neg_f (by assumption))); (focus (intro _; (refine zIxn 1 ?_); exact det_refl))))
          (first | (apply w_un; (focus exact rfl); (focus exact rfl); (focus exact rfl); (focus exact rfl)) | (apply w_no; (focus exact rfl); (focus exact rfl); (focus exact rfl); (focus exact rfl); focus (first | rfl | assumption | exact neg_t (by assumption) | exact neg_f (by assumption))) | (apply w_qg; (focus exact rfl); (focus exact rfl); (focus exact rfl); (focus exact rfl); (focus (first | rfl | assumption | exact neg_t (by assumption) | exact neg_f (by assumption))); (focus (intro _; (refine zEl1 hxa1 ?_); exact det_refl))))
          try refine gW ?_
          try (first | (apply w_un; (focus exact rfl); (focus exact rfl); (focus exact rfl); (focus exact rfl)) | (apply w_no; (focus exact rfl); (focus exact rfl); (focus exact rfl); (focus exact rfl); focus (first | rfl | assumption | exact neg_t (by assumption) | exact neg_f (by assumption))) | (apply w_qg; (focus exact rfl); (focus exact rfl); (focus exact rfl); (focus exact rfl); (focus (first | rfl | assumption | exact neg_t (by assumption) | exact neg_f (by assumption))); (focus (intro _; (refine zIx 0 hpb ?_); exact det_refl))))
          (first | (apply w_un; (focus exact rfl); (focus exact rfl); (focus exact rfl); (focus exact rfl)) | (apply w_no; (focus exact rfl); (focus exact rfl); (focus exact rfl); (focus exact rfl); focus (first | rfl | assumption | exact neg_t (by assumption) | exact neg_f (by assumption))) | (apply w_qg; (focus exact rfl); (focus exact rfl); (focus exact rfl); (focus exact rfl); (focus (first | rfl | assumption | exact neg_t (by assumption) | exact neg_f (by assumption))); (focus (intro _; (refine zIxn 1 ?_); exact det_refl))))
          (first | (apply w_un; (focus exact rfl); (focus exact rfl); (focus exact rfl); (focus exact rfl)) | (apply w_no; (focus exact rfl); (focus exact rfl); (focus exact rfl); (focus exact rfl); focus (first | rfl | assumption | exact neg_t (by assumption) | exact neg_f (by assumption))) | (apply w_qg; (focus exact rfl); (focus exact rfl); (focus exact rfl); (focus exact rfl); (focus (first | rfl | assumption | exact neg_t (by assumption) | exact neg_f (by assumption))); (focus (intro _; (refine zEl1 hxb1 ?_); exact det_refl))))
          (first | (apply w_un; (focus exact rfl); (focus exact rfl); (focus exact rfl); (focus exact rfl)) | (apply w_no; (focus exact rfl); (focus exact rfl); (focus exact rfl); (focus exact rfl); focus (first | rfl | assumption | exact neg_t (by assumption) | exact neg_f (by assumption))) | (apply w_qg; (focus exact rfl); (focus exact rfl); (focus exact rfl); (focus exact rfl); (focus (first | rfl | assumption | exact neg_t (by assumption) | exact neg_f (by assumption))); (focus (intro _; (refine lo_add rfl rfl (r := sgn xs + sgn ys) (by show IntKind.wrap .i64 (sgn xs + sgn ys) = sgn xs + sgn ys; rw [IntWalk.i64_in _ (by omega)]) ?_); exact det_refl))))
          try refine gW ?_
          refine w_nil ?_
          repeat (first | refine zIxb 0 ?_ | refine zIxb 1 ?_ | refine zIxb 2 ?_ | refine gG ?_ | refine zN1 (fun hlen => ?_) | refine zN2 (fun hlen => ?_) | refine zAl (fun _ => ?_) | refine zBf ?_ | refine zAp (fun _ => ?_))
          exact ⟨(k + 1, _), hk', by simp only; omega, x_wkd 4 ⟨rfl, rfl, trivial⟩ (by simp only [hn, List.flatMap_append, List.length_append]; rfl) (by repeat (first | exact ag_refl | refine ag_upd rfl ?_ | refine ag_at rfl rfl ?_))⟩
  · have hk' : k = ls.length := Nat.le_antisymm hk (Nat.le_of_not_lt (by simpa using h))
    subst hk'
    clear h hls hrl2 hyes2 hno2 hrlen2
    generalize rD ls.length = L at *
    have hL12 : L.length ≤ 12 := by omega
    by_cases h0 : L.length = 0
    · have d0 : decide (((L.length : Nat) : Int) = 0) = true := decide_eq_true (by omega)
      rw [hen2 h0]
      clear hen2 hst2 hG hLf
      repeat (first | refine zIxb 0 ?_ | refine zIxb 1 ?_ | refine zIxb 2 ?_ | refine gG ?_ | refine zN1 (fun hlen => ?_) | refine zN2 (fun hlen => ?_) | refine zAl (fun _ => ?_) | refine zBf ?_ | refine zAp (fun _ => ?_))
      first | refine zR (ts := [nRow ch, nRow D]) ?_ | refine zQ (ts := [nRow ch, nRow D]) ?_
      rfl
    have d0 : decide (((L.length : Nat) : Int) = 0) = false := decide_eq_false (by omega)
    obtain ⟨k, i, a, b, da, db, ra, rb, hk, hkl, hkz, hil, hA, hda, hdb, hG2⟩ := hst2 h0
    have hli := n_at hkz
    have hlt := flat_at Ln.ts 2 Ln.ts_len hA.ln
    have hda1 := n_at hA.hda
    have haD : a < D.length := (List.getElem?_eq_some_iff.1 hA.hda).1
    have hdb0 : (D.set a ((da : Int) + 1))[b]? = some (db : Int) := by rw [List.getElem?_set, if_neg hA.ne]; exact hA.hdb
    have hbD : b < (D.set a ((da : Int) + 1)).length := (List.getElem?_eq_some_iff.1 hdb0).1
    have hdb1 := n_at hdb0
    have hs1 := spl_n D a ((da : Int) + 1)
    have hs2 := spl_n (D.set a ((da : Int) + 1)) b ((db : Int) + 1)
    have hb1 : a * 1 + 1 ≤ (D.flatMap nTs).length := by rw [len_flat nTs_len]; omega
    have hb2 : b * 1 + 1 ≤ ((D.set a ((da : Int) + 1)).flatMap nTs).length := by rw [len_flat nTs_len]; omega
    have hLf1 := left_step hLf hA.hra hA.hda
    have hLf2 := left_step hLf1 hA.hrb hdb0
    have hra := hLf.at_ hA.hra hA.hda
    have hrb := hLf1.at_ hA.hrb hdb0
    have haL : a < Lf.length := (List.getElem?_eq_some_iff.1 hra).1
    have hbL := (List.getElem?_eq_some_iff.1 hrb).1
    have hwa := who_at3 hra
    have hwb := who_at3 hrb
    have hw1 := spl_w Lf a ((ra.drop da).drop 1)
    have hw2 := spl_w (Lf.set a ((ra.drop da).drop 1)) b ((rb.drop db).drop 1)
    have hv1 : a * 1 + 1 ≤ (Lf.flatMap whoTs3).length := by rw [len_flat whoTs3_len]; omega
    have hv2 : b * 1 + 1 ≤ ((Lf.set a ((ra.drop da).drop 1)).flatMap whoTs3).length := by rw [len_flat whoTs3_len]; omega
    have hpa : 1 ≤ (ra.drop da).length := by rw [List.length_drop]; omega
    have hpb : 1 ≤ (rb.drop db).length := by rw [List.length_drop]; omega
    have hD1l : (D.set a ((da : Int) + 1)).length = D.length := by simp
    have hD2l : ((D.set a ((da : Int) + 1)).set b ((db : Int) + 1)).length = (D.set a ((da : Int) + 1)).length := by simp
    have hL1l : (Lf.set a ((ra.drop da).drop 1)).length = Lf.length := by simp
    have hL2l : ((Lf.set a ((ra.drop da).drop 1)).set b ((rb.drop db).drop 1)).length = (Lf.set a ((ra.drop da).drop 1)).length := by simp
    have hr40 : (da : Int) < 9223372036854775807 ∧ (db : Int) < 9223372036854775807 := by
      have := h40 _ _ hA.hra
      have := h40 _ _ hA.hrb
      omega
    clear hen2 hst2 hG hLf hdb0 hkz hA h0 h40 hLf1 hra hrb
    generalize ra.drop da = A at *
    generalize rb.drop db = B at *
    generalize hDD : (D.set a ((da : Int) + 1)).set b ((db : Int) + 1) = D2 at *
    generalize D.set a ((da : Int) + 1) = D1 at *
    generalize hLL : (Lf.set a (A.drop 1)).set b (B.drop 1) = Lf2 at *
    generalize Lf.set a (A.drop 1) = Lf1 at *
    clear hDD hLL
    cases ps with
    | nil =>
      rw [kOf_nil] at hk
      obtain rfl : k = 0 := by omega
      repeat (first | refine zIxb 0 ?_ | refine zIxb 1 ?_ | refine zIxb 2 ?_ | refine gG ?_ | refine zN1 (fun hlen => ?_) | refine zN2 (fun hlen => ?_) | refine zAl (fun _ => ?_) | refine zBf ?_ | refine zAp (fun _ => ?_))
      refine ac_draw [1, 1, 1, 1, 1, 1, 1, 1, 1] [0, 1, 2, 3, 4, 5, 6, 7, 8] (by kernel_rfl) (by kernel_rfl) ?_
      refine gW ?_
      apply w_q; (focus exact rfl); (focus exact rfl); focus (intro _; (refine zIxo 0 hkl ?_); exact det_refl)
      apply w_q; (focus exact rfl); (focus exact rfl); focus (intro _; (refine zElo1 hli ?_); exact det_refl)
      apply w_q; (focus exact rfl); (focus exact rfl); focus (intro _; (refine zIx i hil ?_); exact det_refl)
      apply w_q; (focus exact rfl); (focus exact rfl); focus (intro _; (refine zEl hlt (Ln.ts_len _) ?_); exact det_refl)
      refine gW ?_
      refine w_nil ?_
      repeat (first | refine zIxb 0 ?_ | refine zIxb 1 ?_ | refine zIxb 2 ?_ | refine gG ?_ | refine zN1 (fun hlen => ?_) | refine zN2 (fun hlen => ?_) | refine zAl (fun _ => ?_) | refine zBf ?_ | refine zAp (fun _ => ?_))
      refine x_loop [16, 121, 122, 123, 124, 125, 126, 127, 128, 129, 130, 131, 132, 133, 134, 135, 136, 137, 138] (fun y : Nat × List Int × List (List Dd) => [(121, .c (.lit (.int .i64 (y.1 : Nat))))]) (fun y => [.row vL 43 1 y.2.2.length (y.2.2.flatMap whoTs3), .row vA 3 1 y.2.1.length (y.2.1.flatMap nTs), .row vc 3 1 ch.length (ch.flatMap nTs), .row v9 3 1 L.length (L.flatMap nTs)]) (fun y => (0 = y.1 ∧ D = y.2.1 ∧ Lf = y.2.2) ∨ (1 = y.1 ∧ D1 = y.2.1 ∧ Lf1 = y.2.2) ∨ (2 = y.1 ∧ D2 = y.2.1 ∧ Lf2 = y.2.2)) (fun y => 2 - y.1) (0, D, Lf) (.inl ⟨rfl, rfl, rfl⟩) ⟨rfl, trivial⟩ rfl ?_
      rintro ⟨j, D', Lf'⟩ hI
      dsimp only at hI ⊢
      rcases hI with ⟨x1, x2, x3⟩ | ⟨x1, x2, x3⟩ | ⟨x1, x2, x3⟩
      · subst x1 x2 x3
        have c0 : decide (((0 : Nat) : Int) < 2) = true := rfl
        repeat (first | refine zIxb 0 ?_ | refine zIxb 1 ?_ | refine zIxb 2 ?_ | refine gG ?_ | refine zN1 (fun hlen => ?_) | refine zN2 (fun hlen => ?_) | refine zAl (fun _ => ?_) | refine zBf ?_ | refine zAp (fun _ => ?_))
        refine zAi (n := 2) 0 (by decide) (v := .lit (.int .i64 ((a : Nat) : Int))) rfl ?_
        repeat (first | refine zIxb 0 ?_ | refine zIxb 1 ?_ | refine zIxb 2 ?_ | refine gG ?_ | refine zN1 (fun hlen => ?_) | refine zN2 (fun hlen => ?_) | refine zAl (fun _ => ?_) | refine zBf ?_ | refine zAp (fun _ => ?_))
        refine zIxo a haL ?_
        repeat (first | refine zIxb 0 ?_ | refine zIxb 1 ?_ | refine zIxb 2 ?_ | refine gG ?_ | refine zN1 (fun hlen => ?_) | refine zN2 (fun hlen => ?_) | refine zAl (fun _ => ?_) | refine zBf ?_ | refine zAp (fun _ => ?_))
        refine zElo1 hwa ?_
        repeat (first | refine zIxb 0 ?_ | refine zIxb 1 ?_ | refine zIxb 2 ?_ | refine gG ?_ | refine zN1 (fun hlen => ?_) | refine zN2 (fun hlen => ?_) | refine zAl (fun _ => ?_) | refine zBf ?_ | refine zAp (fun _ => ?_))
        refine zPlf (f := Dd.ts3) (l := A) 1 hpa Dd.ts3_len ?_
        repeat (first | refine zIxb 0 ?_ | refine zIxb 1 ?_ | refine zIxb 2 ?_ | refine gG ?_ | refine zN1 (fun hlen => ?_) | refine zN2 (fun hlen => ?_) | refine zAl (fun _ => ?_) | refine zBf ?_ | refine zAp (fun _ => ?_))
        refine zIxo a haL ?_
        repeat (first | refine zIxb 0 ?_ | refine zIxb 1 ?_ | refine zIxb 2 ?_ | refine gG ?_ | refine zN1 (fun hlen => ?_) | refine zN2 (fun hlen => ?_) | refine zAl (fun _ => ?_) | refine zBf ?_ | refine zAp (fun _ => ?_))
        refine zSe (us := [ddRow3 (A.drop 1)]) hw1 hv1 ?_
        repeat (first | refine zIxb 0 ?_ | refine zIxb 1 ?_ | refine zIxb 2 ?_ | refine gG ?_ | refine zN1 (fun hlen => ?_) | refine zN2 (fun hlen => ?_) | refine zAl (fun _ => ?_) | refine zBf ?_ | refine zAp (fun _ => ?_))
        refine zIxo a haD ?_
        repeat (first | refine zIxb 0 ?_ | refine zIxb 1 ?_ | refine zIxb 2 ?_ | refine gG ?_ | refine zN1 (fun hlen => ?_) | refine zN2 (fun hlen => ?_) | refine zAl (fun _ => ?_) | refine zBf ?_ | refine zAp (fun _ => ?_))
        refine zElo1 hda1 ?_
        repeat (first | refine zIxb 0 ?_ | refine zIxb 1 ?_ | refine zIxb 2 ?_ | refine gG ?_ | refine zN1 (fun hlen => ?_) | refine zN2 (fun hlen => ?_) | refine zAl (fun _ => ?_) | refine zBf ?_ | refine zAp (fun _ => ?_))
        refine zIxo a haD ?_
        repeat (first | refine zIxb 0 ?_ | refine zIxb 1 ?_ | refine zIxb 2 ?_ | refine gG ?_ | refine zN1 (fun hlen => ?_) | refine zN2 (fun hlen => ?_) | refine zAl (fun _ => ?_) | refine zBf ?_ | refine zAp (fun _ => ?_))
        refine zSe (us := [.lit (.int .i64 ((da : Int) + 1))]) hs1 hb1 ?_
        repeat (first | refine zIxb 0 ?_ | refine zIxb 1 ?_ | refine zIxb 2 ?_ | refine gG ?_ | refine zN1 (fun hlen => ?_) | refine zN2 (fun hlen => ?_) | refine zAl (fun _ => ?_) | refine zBf ?_ | refine zAp (fun _ => ?_))
        exact ⟨(1, D1, Lf1), .inr (.inl ⟨rfl, rfl, rfl⟩), by simp, x_wkd 4 ⟨rfl, trivial⟩ (by simp only [hD1l, hL1l]; try rfl) (by repeat (first | exact ag_refl | refine ag_upd rfl ?_ | refine ag_at rfl rfl ?_))⟩
      · subst x1 x2 x3
        have c0 : decide (((1 : Nat) : Int) < 2) = true := rfl
        repeat (first | refine zIxb 0 ?_ | refine zIxb 1 ?_ | refine zIxb 2 ?_ | refine gG ?_ | refine zN1 (fun hlen => ?_) | refine zN2 (fun hlen => ?_) | refine zAl (fun _ => ?_) | refine zBf ?_ | refine zAp (fun _ => ?_))
        refine zAi (n := 2) 1 (by decide) (v := .lit (.int .i64 ((b : Nat) : Int))) rfl ?_
        repeat (first | refine zIxb 0 ?_ | refine zIxb 1 ?_ | refine zIxb 2 ?_ | refine gG ?_ | refine zN1 (fun hlen => ?_) | refine zN2 (fun hlen => ?_) | refine zAl (fun _ => ?_) | refine zBf ?_ | refine zAp (fun _ => ?_))
        refine zIxo b hbL ?_
        repeat (first | refine zIxb 0 ?_ | refine zIxb 1 ?_ | refine zIxb 2 ?_ | refine gG ?_ | refine zN1 (fun hlen => ?_) | refine zN2 (fun hlen => ?_) | refine zAl (fun _ => ?_) | refine zBf ?_ | refine zAp (fun _ => ?_))
        refine zElo1 hwb ?_
        repeat (first | refine zIxb 0 ?_ | refine zIxb 1 ?_ | refine zIxb 2 ?_ | refine gG ?_ | refine zN1 (fun hlen => ?_) | refine zN2 (fun hlen => ?_) | refine zAl (fun _ => ?_) | refine zBf ?_ | refine zAp (fun _ => ?_))
        refine zPlf (f := Dd.ts3) (l := B) 1 hpb Dd.ts3_len ?_
        repeat (first | refine zIxb 0 ?_ | refine zIxb 1 ?_ | refine zIxb 2 ?_ | refine gG ?_ | refine zN1 (fun hlen => ?_) | refine zN2 (fun hlen => ?_) | refine zAl (fun _ => ?_) | refine zBf ?_ | refine zAp (fun _ => ?_))
        refine zIxo b hbL ?_
        repeat (first | refine zIxb 0 ?_ | refine zIxb 1 ?_ | refine zIxb 2 ?_ | refine gG ?_ | refine zN1 (fun hlen => ?_) | refine zN2 (fun hlen => ?_) | refine zAl (fun _ => ?_) | refine zBf ?_ | refine zAp (fun _ => ?_))
        refine zSe (us := [ddRow3 (B.drop 1)]) hw2 hv2 ?_
        repeat (first | refine zIxb 0 ?_ | refine zIxb 1 ?_ | refine zIxb 2 ?_ | refine gG ?_ | refine zN1 (fun hlen => ?_) | refine zN2 (fun hlen => ?_) | refine zAl (fun _ => ?_) | refine zBf ?_ | refine zAp (fun _ => ?_))
        refine zIxo b hbD ?_
        repeat (first | refine zIxb 0 ?_ | refine zIxb 1 ?_ | refine zIxb 2 ?_ | refine gG ?_ | refine zN1 (fun hlen => ?_) | refine zN2 (fun hlen => ?_) | refine zAl (fun _ => ?_) | refine zBf ?_ | refine zAp (fun _ => ?_))
        refine zElo1 hdb1 ?_
        repeat (first | refine zIxb 0 ?_ | refine zIxb 1 ?_ | refine zIxb 2 ?_ | refine gG ?_ | refine zN1 (fun hlen => ?_) | refine zN2 (fun hlen => ?_) | refine zAl (fun _ => ?_) | refine zBf ?_ | refine zAp (fun _ => ?_))
        refine zIxo b hbD ?_
        repeat (first | refine zIxb 0 ?_ | refine zIxb 1 ?_ | refine zIxb 2 ?_ | refine gG ?_ | refine zN1 (fun hlen => ?_) | refine zN2 (fun hlen => ?_) | refine zAl (fun _ => ?_) | refine zBf ?_ | refine zAp (fun _ => ?_))
        refine zSe (us := [.lit (.int .i64 ((db : Int) + 1))]) hs2 hb2 ?_
        repeat (first | refine zIxb 0 ?_ | refine zIxb 1 ?_ | refine zIxb 2 ?_ | refine gG ?_ | refine zN1 (fun hlen => ?_) | refine zN2 (fun hlen => ?_) | refine zAl (fun _ => ?_) | refine zBf ?_ | refine zAp (fun _ => ?_))
        exact ⟨(2, D2, Lf2), .inr (.inr ⟨rfl, rfl, rfl⟩), by simp, x_wkd 4 ⟨rfl, trivial⟩ (by simp only [hD2l, hL2l]; try rfl) (by repeat (first | exact ag_refl | refine ag_upd rfl ?_ | refine ag_at rfl rfl ?_))⟩
      · subst x1 x2 x3
        have c0 : decide (((2 : Nat) : Int) < 2) = false := rfl
        repeat (first | refine zIxb 0 ?_ | refine zIxb 1 ?_ | refine zIxb 2 ?_ | refine gG ?_ | refine zN1 (fun hlen => ?_) | refine zN2 (fun hlen => ?_) | refine zAl (fun _ => ?_) | refine zBf ?_ | refine zAp (fun _ => ?_))
        refine zIxo 0 hkl ?_
        repeat (first | refine zIxb 0 ?_ | refine zIxb 1 ?_ | refine zIxb 2 ?_ | refine gG ?_ | refine zN1 (fun hlen => ?_) | refine zN2 (fun hlen => ?_) | refine zAl (fun _ => ?_) | refine zBf ?_ | refine zAp (fun _ => ?_))
        refine zElo1 hli ?_
        repeat (first | refine zIxb 0 ?_ | refine zIxb 1 ?_ | refine zIxb 2 ?_ | refine gG ?_ | refine zN1 (fun hlen => ?_) | refine zN2 (fun hlen => ?_) | refine zAl (fun _ => ?_) | refine zBf ?_ | refine zAp (fun _ => ?_))
        exact ⟨(D2, Lf2, [], ch ++ [(i : Int)], _), ⟨hG2, hLf2⟩, by simp only [List.length_append, List.length_singleton]; omega, x_wkd 3 ⟨rfl, rfl, trivial⟩ (by simp only [List.flatMap_append, List.length_append]; rfl) (by repeat (first | exact ag_refl | refine ag_upd rfl ?_ | refine ag_at rfl rfl ?_))⟩
    | cons p r =>
      rw [kOf_cons] at hk
      have d1 : decide ((0 : Int) < (((p :: r).length : Nat) : Int)) = true := decide_eq_true (by simp only [List.length_cons]; omega)
      have hpl : 0 < (p :: r).length := by simp
      have hne := u64_ne (m := L.length) (by omega) hL12
      repeat (first | refine zIxb 0 ?_ | refine zIxb 1 ?_ | refine zIxb 2 ?_ | refine gG ?_ | refine zN1 (fun hlen => ?_) | refine zN2 (fun hlen => ?_) | refine zAl (fun _ => ?_) | refine zBf ?_ | refine zAp (fun _ => ?_))
      refine zIx 0 hpl ?_
      repeat (first | refine zIxb 0 ?_ | refine zIxb 1 ?_ | refine zIxb 2 ?_ | refine gG ?_ | refine zN1 (fun hlen => ?_) | refine zN2 (fun hlen => ?_) | refine zAl (fun _ => ?_) | refine zBf ?_ | refine zAp (fun _ => ?_))
      refine lo_conv tok rfl rfl rfl rfl (r := IntKind.wrap .u64 p) rfl ?_
      repeat (first | refine zIxb 0 ?_ | refine zIxb 1 ?_ | refine zIxb 2 ?_ | refine gG ?_ | refine zN1 (fun hlen => ?_) | refine zN2 (fun hlen => ?_) | refine zAl (fun _ => ?_) | refine zBf ?_ | refine zAp (fun _ => ?_))
      refine lo_conv tok rfl rfl rfl rfl (r := IntKind.wrap .u64 ((L.length : Nat) : Int)) rfl ?_
      repeat (first | refine zIxb 0 ?_ | refine zIxb 1 ?_ | refine zIxb 2 ?_ | refine gG ?_ | refine zN1 (fun hlen => ?_) | refine zN2 (fun hlen => ?_) | refine zAl (fun _ => ?_) | refine zBf ?_ | refine zAp (fun _ => ?_))
      refine lo_rem rfl rfl hne (r := Int.tmod (IntKind.wrap .u64 p) (IntKind.wrap .u64 ((L.length : Nat) : Int))) rfl ?_
      repeat (first | refine zIxb 0 ?_ | refine zIxb 1 ?_ | refine zIxb 2 ?_ | refine gG ?_ | refine zN1 (fun hlen => ?_) | refine zN2 (fun hlen => ?_) | refine zAl (fun _ => ?_) | refine zBf ?_ | refine zAp (fun _ => ?_))
      refine lo_conv tok rfl rfl rfl rfl (r := (k : Int)) hk ?_
      repeat (first | refine zIxb 0 ?_ | refine zIxb 1 ?_ | refine zIxb 2 ?_ | refine gG ?_ | refine zN1 (fun hlen => ?_) | refine zN2 (fun hlen => ?_) | refine zAl (fun _ => ?_) | refine zBf ?_ | refine zAp (fun _ => ?_))
      refine zPlf (f := nTs) (l := p :: r) 1 hpl nTs_len ?_
      repeat (first | refine zIxb 0 ?_ | refine zIxb 1 ?_ | refine zIxb 2 ?_ | refine gG ?_ | refine zN1 (fun hlen => ?_) | refine zN2 (fun hlen => ?_) | refine zAl (fun _ => ?_) | refine zBf ?_ | refine zAp (fun _ => ?_))
      refine ac_draw [1, 1, 1, 1, 1, 1, 1, 1, 1] [0, 1, 2, 3, 4, 5, 6, 7, 8] (by kernel_rfl) (by kernel_rfl) ?_
      refine gW ?_
      apply w_q; (focus exact rfl); (focus exact rfl); focus (intro _; (refine zIxo k hkl ?_); exact det_refl)
      apply w_q; (focus exact rfl); (focus exact rfl); focus (intro _; (refine zElo1 hli ?_); exact det_refl)
      apply w_q; (focus exact rfl); (focus exact rfl); focus (intro _; (refine zIx i hil ?_); exact det_refl)
      apply w_q; (focus exact rfl); (focus exact rfl); focus (intro _; (refine zEl hlt (Ln.ts_len _) ?_); exact det_refl)
      refine gW ?_
      refine w_nil ?_
      repeat (first | refine zIxb 0 ?_ | refine zIxb 1 ?_ | refine zIxb 2 ?_ | refine gG ?_ | refine zN1 (fun hlen => ?_) | refine zN2 (fun hlen => ?_) | refine zAl (fun _ => ?_) | refine zBf ?_ | refine zAp (fun _ => ?_))
      refine x_loop [16, 121, 122, 123, 124, 125, 126, 127, 128, 129, 130, 131, 132, 133, 134, 135, 136, 137, 138] (fun y : Nat × List Int × List (List Dd) => [(121, .c (.lit (.int .i64 (y.1 : Nat))))]) (fun y => [.row vL 43 1 y.2.2.length (y.2.2.flatMap whoTs3), .row vA 3 1 y.2.1.length (y.2.1.flatMap nTs), .row vc 3 1 ch.length (ch.flatMap nTs), .row v9 3 1 L.length (L.flatMap nTs)]) (fun y => (0 = y.1 ∧ D = y.2.1 ∧ Lf = y.2.2) ∨ (1 = y.1 ∧ D1 = y.2.1 ∧ Lf1 = y.2.2) ∨ (2 = y.1 ∧ D2 = y.2.1 ∧ Lf2 = y.2.2)) (fun y => 2 - y.1) (0, D, Lf) (.inl ⟨rfl, rfl, rfl⟩) ⟨rfl, trivial⟩ rfl ?_
      rintro ⟨j, D', Lf'⟩ hI
      dsimp only at hI ⊢
      rcases hI with ⟨x1, x2, x3⟩ | ⟨x1, x2, x3⟩ | ⟨x1, x2, x3⟩
      · subst x1 x2 x3
        have c0 : decide (((0 : Nat) : Int) < 2) = true := rfl
        repeat (first | refine zIxb 0 ?_ | refine zIxb 1 ?_ | refine zIxb 2 ?_ | refine gG ?_ | refine zN1 (fun hlen => ?_) | refine zN2 (fun hlen => ?_) | refine zAl (fun _ => ?_) | refine zBf ?_ | refine zAp (fun _ => ?_))
        refine zAi (n := 2) 0 (by decide) (v := .lit (.int .i64 ((a : Nat) : Int))) rfl ?_
        repeat (first | refine zIxb 0 ?_ | refine zIxb 1 ?_ | refine zIxb 2 ?_ | refine gG ?_ | refine zN1 (fun hlen => ?_) | refine zN2 (fun hlen => ?_) | refine zAl (fun _ => ?_) | refine zBf ?_ | refine zAp (fun _ => ?_))
        refine zIxo a haL ?_
        repeat (first | refine zIxb 0 ?_ | refine zIxb 1 ?_ | refine zIxb 2 ?_ | refine gG ?_ | refine zN1 (fun hlen => ?_) | refine zN2 (fun hlen => ?_) | refine zAl (fun _ => ?_) | refine zBf ?_ | refine zAp (fun _ => ?_))
        refine zElo1 hwa ?_
        repeat (first | refine zIxb 0 ?_ | refine zIxb 1 ?_ | refine zIxb 2 ?_ | refine gG ?_ | refine zN1 (fun hlen => ?_) | refine zN2 (fun hlen => ?_) | refine zAl (fun _ => ?_) | refine zBf ?_ | refine zAp (fun _ => ?_))
        refine zPlf (f := Dd.ts3) (l := A) 1 hpa Dd.ts3_len ?_
        repeat (first | refine zIxb 0 ?_ | refine zIxb 1 ?_ | refine zIxb 2 ?_ | refine gG ?_ | refine zN1 (fun hlen => ?_) | refine zN2 (fun hlen => ?_) | refine zAl (fun _ => ?_) | refine zBf ?_ | refine zAp (fun _ => ?_))
        refine zIxo a haL ?_
        repeat (first | refine zIxb 0 ?_ | refine zIxb 1 ?_ | refine zIxb 2 ?_ | refine gG ?_ | refine zN1 (fun hlen => ?_) | refine zN2 (fun hlen => ?_) | refine zAl (fun _ => ?_) | refine zBf ?_ | refine zAp (fun _ => ?_))
        refine zSe (us := [ddRow3 (A.drop 1)]) hw1 hv1 ?_
        repeat (first | refine zIxb 0 ?_ | refine zIxb 1 ?_ | refine zIxb 2 ?_ | refine gG ?_ | refine zN1 (fun hlen => ?_) | refine zN2 (fun hlen => ?_) | refine zAl (fun _ => ?_) | refine zBf ?_ | refine zAp (fun _ => ?_))
        refine zIxo a haD ?_
        repeat (first | refine zIxb 0 ?_ | refine zIxb 1 ?_ | refine zIxb 2 ?_ | refine gG ?_ | refine zN1 (fun hlen => ?_) | refine zN2 (fun hlen => ?_) | refine zAl (fun _ => ?_) | refine zBf ?_ | refine zAp (fun _ => ?_))
        refine zElo1 hda1 ?_
        repeat (first | refine zIxb 0 ?_ | refine zIxb 1 ?_ | refine zIxb 2 ?_ | refine gG ?_ | refine zN1 (fun hlen => ?_) | refine zN2 (fun hlen => ?_) | refine zAl (fun _ => ?_) | refine zBf ?_ | refine zAp (fun _ => ?_))
        refine zIxo a haD ?_
        repeat (first | refine zIxb 0 ?_ | refine zIxb 1 ?_ | refine zIxb 2 ?_ | refine gG ?_ | refine zN1 (fun hlen => ?_) | refine zN2 (fun hlen => ?_) | refine zAl (fun _ => ?_) | refine zBf ?_ | refine zAp (fun _ => ?_))
        refine zSe (us := [.lit (.int .i64 ((da : Int) + 1))]) hs1 hb1 ?_
        repeat (first | refine zIxb 0 ?_ | refine zIxb 1 ?_ | refine zIxb 2 ?_ | refine gG ?_ | refine zN1 (fun hlen => ?_) | refine zN2 (fun hlen => ?_) | refine zAl (fun _ => ?_) | refine zBf ?_ | refine zAp (fun _ => ?_))
        exact ⟨(1, D1, Lf1), .inr (.inl ⟨rfl, rfl, rfl⟩), by simp, x_wkd 4 ⟨rfl, trivial⟩ (by simp only [hD1l, hL1l]; try rfl) (by repeat (first | exact ag_refl | refine ag_upd rfl ?_ | refine ag_at rfl rfl ?_))⟩
      · subst x1 x2 x3
        have c0 : decide (((1 : Nat) : Int) < 2) = true := rfl
        repeat (first | refine zIxb 0 ?_ | refine zIxb 1 ?_ | refine zIxb 2 ?_ | refine gG ?_ | refine zN1 (fun hlen => ?_) | refine zN2 (fun hlen => ?_) | refine zAl (fun _ => ?_) | refine zBf ?_ | refine zAp (fun _ => ?_))
        refine zAi (n := 2) 1 (by decide) (v := .lit (.int .i64 ((b : Nat) : Int))) rfl ?_
        repeat (first | refine zIxb 0 ?_ | refine zIxb 1 ?_ | refine zIxb 2 ?_ | refine gG ?_ | refine zN1 (fun hlen => ?_) | refine zN2 (fun hlen => ?_) | refine zAl (fun _ => ?_) | refine zBf ?_ | refine zAp (fun _ => ?_))
        refine zIxo b hbL ?_
        repeat (first | refine zIxb 0 ?_ | refine zIxb 1 ?_ | refine zIxb 2 ?_ | refine gG ?_ | refine zN1 (fun hlen => ?_) | refine zN2 (fun hlen => ?_) | refine zAl (fun _ => ?_) | refine zBf ?_ | refine zAp (fun _ => ?_))
        refine zElo1 hwb ?_
        repeat (first | refine zIxb 0 ?_ | refine zIxb 1 ?_ | refine zIxb 2 ?_ | refine gG ?_ | refine zN1 (fun hlen => ?_) | refine zN2 (fun hlen => ?_) | refine zAl (fun _ => ?_) | refine zBf ?_ | refine zAp (fun _ => ?_))
        refine zPlf (f := Dd.ts3) (l := B) 1 hpb Dd.ts3_len ?_
        repeat (first | refine zIxb 0 ?_ | refine zIxb 1 ?_ | refine zIxb 2 ?_ | refine gG ?_ | refine zN1 (fun hlen => ?_) | refine zN2 (fun hlen => ?_) | refine zAl (fun _ => ?_) | refine zBf ?_ | refine zAp (fun _ => ?_))
        refine zIxo b hbL ?_
        repeat (first | refine zIxb 0 ?_ | refine zIxb 1 ?_ | refine zIxb 2 ?_ | refine gG ?_ | refine zN1 (fun hlen => ?_) | refine zN2 (fun hlen => ?_) | refine zAl (fun _ => ?_) | refine zBf ?_ | refine zAp (fun _ => ?_))
        refine zSe (us := [ddRow3 (B.drop 1)]) hw2 hv2 ?_
        repeat (first | refine zIxb 0 ?_ | refine zIxb 1 ?_ | refine zIxb 2 ?_ | refine gG ?_ | refine zN1 (fun hlen => ?_) | refine zN2 (fun hlen => ?_) | refine zAl (fun _ => ?_) | refine zBf ?_ | refine zAp (fun _ => ?_))
        refine zIxo b hbD ?_
        repeat (first | refine zIxb 0 ?_ | refine zIxb 1 ?_ | refine zIxb 2 ?_ | refine gG ?_ | refine zN1 (fun hlen => ?_) | refine zN2 (fun hlen => ?_) | refine zAl (fun _ => ?_) | refine zBf ?_ | refine zAp (fun _ => ?_))
        refine zElo1 hdb1 ?_
        repeat (first | refine zIxb 0 ?_ | refine zIxb 1 ?_ | refine zIxb 2 ?_ | refine gG ?_ | refine zN1 (fun hlen => ?_) | refine zN2 (fun hlen => ?_) | refine zAl (fun _ => ?_) | refine zBf ?_ | refine zAp (fun _ => ?_))
        refine zIxo b hbD ?_
        repeat (first | refine zIxb 0 ?_ | refine zIxb 1 ?_ | refine zIxb 2 ?_ | refine gG ?_ | refine zN1 (fun hlen => ?_) | refine zN2 (fun hlen => ?_) | refine zAl (fun _ => ?_) | refine zBf ?_ | refine zAp (fun _ => ?_))
        refine zSe (us := [.lit (.int .i64 ((db : Int) + 1))]) hs2 hb2 ?_
        repeat (first | refine zIxb 0 ?_ | refine zIxb 1 ?_ | refine zIxb 2 ?_ | refine gG ?_ | refine zN1 (fun hlen => ?_) | refine zN2 (fun hlen => ?_) | refine zAl (fun _ => ?_) | refine zBf ?_ | refine zAp (fun _ => ?_))
        exact ⟨(2, D2, Lf2), .inr (.inr ⟨rfl, rfl, rfl⟩), by simp, x_wkd 4 ⟨rfl, trivial⟩ (by simp only [hD2l, hL2l]; try rfl) (by repeat (first | exact ag_refl | refine ag_upd rfl ?_ | refine ag_at rfl rfl ?_))⟩
      · subst x1 x2 x3
        have c0 : decide (((2 : Nat) : Int) < 2) = false := rfl
        repeat (first | refine zIxb 0 ?_ | refine zIxb 1 ?_ | refine zIxb 2 ?_ | refine gG ?_ | refine zN1 (fun hlen => ?_) | refine zN2 (fun hlen => ?_) | refine zAl (fun _ => ?_) | refine zBf ?_ | refine zAp (fun _ => ?_))
        refine zIxo k hkl ?_
        repeat (first | refine zIxb 0 ?_ | refine zIxb 1 ?_ | refine zIxb 2 ?_ | refine gG ?_ | refine zN1 (fun hlen => ?_) | refine zN2 (fun hlen => ?_) | refine zAl (fun _ => ?_) | refine zBf ?_ | refine zAp (fun _ => ?_))
        refine zElo1 hli ?_
        repeat (first | refine zIxb 0 ?_ | refine zIxb 1 ?_ | refine zIxb 2 ?_ | refine gG ?_ | refine zN1 (fun hlen => ?_) | refine zN2 (fun hlen => ?_) | refine zAl (fun _ => ?_) | refine zBf ?_ | refine zAp (fun _ => ?_))
        exact ⟨(D2, Lf2, r, ch ++ [(i : Int)], _), ⟨hG2, hLf2⟩, by simp only [List.length_append, List.length_singleton]; omega, x_wkd 3 ⟨rfl, rfl, trivial⟩ (by simp only [List.flatMap_append, List.length_append]; rfl) (by repeat (first | exact ag_refl | refine ag_upd rfl ?_ | refine ag_at rfl rfl ?_))⟩
end Go.Proofs.Ytaoldigfefmamaa
