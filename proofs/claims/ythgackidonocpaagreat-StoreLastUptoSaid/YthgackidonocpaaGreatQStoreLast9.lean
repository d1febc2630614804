/-
  Texts of this proof, part 9: Trv2 Ttv Ttl TlwA.
-/
import Derived.Test.YthgackidonocpaaGreatQStoreLast8
import Derived.MapKept
namespace Go.Proofs.YthgackidonocpaaGreat
open Go.RowKit
set_option maxRecDepth 100000 in
set_option maxHeartbeats 4000000 in
theorem valueR_ag (b : Nat) : ∀ (f : Nat) (s : RS), 40 ≤ s.dep + f → s.dep ≤ 1000 → s.l.length ≤ 1099511627776 → AG Tryz.prog 105 [.ptr 0 b 0] [rdB b s] (Gives b (rVal f s).1.t (rVal f s).2) := by
  intro f
  induction f with
  | zero =>
    intro s hf hd hl
    obtain ⟨l, bad, d⟩ := s
    dsimp only at hf hd hl
    have d1 : decide ((40 : Int) < ((d + 1 : Nat) : Int)) = true := decide_eq_true (by omega)
    refine AG.re (R := fun r hs => Re r (.c V.zero.t) ∧ hs = [rdB b (RS.mk l bad d).up.fail]) ?_ (fun r hs h => ⟨_, h.1, rfl, h.2⟩)
    refine ag_enter 1 tok Tryz.func105 Tryz.ntmps105 Tryz.results105 rfl (by kernel_rfl) rfl fun F => ?_
    repeat (first | refine gG ?_ | refine zAl (fun _ => ?_))
    refine zG ?_
    exact ⟨re_cls (by repeat (first | exact rzs_nil | apply rzs_cons | exact rz_c | exact rz_nil rfl | apply rz_agg | exact rz_own rfl | apply rz_fn | exact rz_ptr rfl | apply rz_tup)), rfl⟩
  | succ f ih =>
    intro s hf hd hl
    by_cases h40 : 40 < s.dep + 1
    · rw [rVal_stop f s h40]
      obtain ⟨l, bad, d⟩ := s
      dsimp only at hf hd hl h40
      have d1 : decide ((40 : Int) < ((d + 1 : Nat) : Int)) = true := decide_eq_true (by omega)
      refine AG.re (R := fun r hs => Re r (.c V.zero.t) ∧ hs = [rdB b (RS.mk l bad d).up.fail]) ?_ (fun r hs h => ⟨_, h.1, rfl, h.2⟩)
      refine ag_enter 1 tok Tryz.func105 Tryz.ntmps105 Tryz.results105 rfl (by kernel_rfl) rfl fun F => ?_
      repeat (first | refine gG ?_ | refine zAl (fun _ => ?_))
      refine zG ?_
      exact ⟨re_cls (by repeat (first | exact rzs_nil | apply rzs_cons | exact rz_c | exact rz_nil rfl | apply rz_agg | exact rz_own rfl | apply rz_fn | exact rz_ptr rfl | apply rz_tup)), rfl⟩
    · rw [rVal, if_neg h40]
      have c1 := byte_ag b s.up
      have l1 := rByte_len s.up
      have p1 := rByte_dep s.up
      generalize rByte s.up = q1 at *
      obtain ⟨k, s1⟩ := q1
      dsimp only at c1 l1 p1 ⊢
      have c2 := intR_ag b s1
      have l2 := rInt_len s1
      have p2 := rInt_dep s1
      generalize rInt s1 = q2 at *
      obtain ⟨n, s2⟩ := q2
      dsimp only at c2 l2 p2 ⊢
      have c3 := textR_ag b s2
      have l3 := rText_len s2
      have p3 := rText_dep s2
      generalize rText s2 = q3 at *
      obtain ⟨t, s3⟩ := q3
      dsimp only at c3 l3 p3 ⊢
      have hu : s.up.l = s.l := rfl
      have hp : s.up.dep = s.dep + 1 := rfl
      rw [hu] at l1
      have c4 := someV_ag b (s.dep + 1) (rVal f) (rVal_fair f) 105 (fun s' hs' hl' => ih s' (by omega) (by omega) hl') s3 (by omega) (by omega)
      have p4 := (rSome_fair (rVal_fair f)).up s3
      have p5 := (rSome_fair (rVal_fair f)).top s3
      generalize rSome (rVal f) s3 = q4 at *
      obtain ⟨a, s4⟩ := q4
      dsimp only at c4 p4 p5 ⊢
      have hdn : IntKind.i64.wrap ((s4.dep : Int) - 1) = ((s4.dep - 1 : Nat) : Int) := by rw [IntWalk.i64_in _ (by omega)]; omega
      obtain ⟨l, bad, d⟩ := s
      dsimp only at hf hd hl h40 p4
      have d1 : decide ((40 : Int) < ((d + 1 : Nat) : Int)) = false := decide_eq_false (by omega)
      refine AG.re (R := fun r hs => Re r (.c (V.mk k n (bs t) a).t) ∧ hs = [rdB b s4.down]) ?_ (fun r hs h => ⟨_, h.1, rfl, h.2⟩)
      refine ag_enter 1 tok Tryz.func105 Tryz.ntmps105 Tryz.results105 rfl (by kernel_rfl) rfl fun F => ?_
      repeat (first | refine gG ?_ | refine zAl (fun _ => ?_))
      rename_i b2
      refine x_join [21, 22, 23, 24, 25, 26, 27, 28, 29, 30, 31, 32, 33, 34, 35, 36, 37, 38, 39, 3] (fun b3 : Nat => [(3, .ptr 2 b3 0)]) (fun b3 => [rdB b s4, .box b2 61 [.c (.lit (.int .i64 0)), .c (.lit (.int .i64 0)), .c (.lit (.string ⟨#[]⟩)), .c (.lit (.slice none 0 0))], .box b3 61 [.c (.lit (.int .i64 (k : Int))), .c (.lit (.int .i64 n)), .c (.lit (.string (bs t))), .c (V.row a)]]) ?_ ?_
      rotate_left
      · skip
        refine ac_drawT [0, 0, 0, 2, 0, 0, 0, 2, 0, 0, 0, 2, 0, 0, 0, 0, 0, 2, 0, 3, 2] (.fork [0, 1, 2, 4, 5, 6, 8, 9, 10, 12, 13, 14, 15, 16] 3 (.fork [] 7 (.fork [] 11 (.fork [] 17 (.fin [18, 19, 20]) 19 (.fin [17, 18, 20])) 19 (.fin [11, 17, 18, 20])) 19 (.fin [7, 11, 17, 18, 20])) 19 (.fin [3, 7, 11, 17, 18, 20])) (by kernel_rfl) (by kernel_rfl) ?_
        refine wt_fork ?_
        refine gW ?_
        apply w_p; (focus exact rfl); (focus exact rfl); focus (intro _; (refine zMf ?_); exact det_refl)
        refine w_nil ?_
        refine ⟨?_, ?_⟩
        · apply w_l; (focus exact rfl); (focus exact rfl); (refine zCallG [0] c1 ?_; rintro _ _ ⟨rfl, rfl⟩; refine ⟨_, _, re_refl, rfl, rfl, ?_⟩)
          refine w_nil ?_
          refine wt_fork ?_
          refine w_nil ?_
          refine ⟨?_, ?_⟩
          · apply w_l; (focus exact rfl); (focus exact rfl); (refine zCallG [0] c2 ?_; rintro _ _ ⟨rfl, rfl⟩; refine ⟨_, _, re_refl, rfl, rfl, ?_⟩)
            refine w_nil ?_
            refine wt_fork ?_
            refine w_nil ?_
            refine ⟨?_, ?_⟩
            · apply w_l; (focus exact rfl); (focus exact rfl); (refine zCallG [0] c3 ?_; rintro _ _ ⟨rfl, rfl⟩; refine ⟨_, _, re_refl, rfl, rfl, ?_⟩)
              refine w_nil ?_
              refine wt_fork ?_
              refine w_nil ?_
              refine ⟨?_, ?_⟩
              · apply w_l; (focus exact rfl); (focus exact rfl); (refine zCallG [0] c4 ?_; rintro _ _ ⟨rfl, rfl⟩; refine ⟨_, _, re_refl, rfl, rfl, ?_⟩)
                refine w_nil ?_
                refine wt_fin ?_
                refine gW ?_
                apply w_a; (focus exact rfl); (focus exact rfl); refine v_alloc tok rfl rfl rfl (fun _ => rfl) (fun _ => ⟨⟨_, rfl⟩, ?_⟩)
                apply w_l; (focus exact rfl); (focus exact rfl); (first | (refine zkL ?_; first | refine zL1 ?_ | refine zL2 ?_ | refine zL3 ?_ | refine zLp ?_) | refine zM ?_ | (refine zkF ?_; first | refine zF1 ?_ | refine zF2 ?_ | refine zF3 ?_) | refine zA ?_ | (refine zkB ?_; first | refine zC5 ?_ | refine zC6 ?_ | refine zC1 ?_ | refine zC2 ?_ | refine zC3 ?_ | refine zC4 ?_ | refine zS5 ?_ | refine zS6 ?_ | refine zS1 ?_ | refine zS2 ?_ | refine zS3 ?_ | refine zS4 ?_ | refine zInc ?_ | refine zQ1 ?_ | refine zQ2 ?_ | refine zQ3 ?_ | refine zQ4 ?_ | refine zQ5 ?_ | refine zQ6 ?_) | (refine zkI ?_; first | refine zN1 (fun hlen => ?_) | refine zN2 (fun hlen => ?_) | refine zN3 ?_ | refine zN4 ?_ | refine zAp (fun _ => ?_)) | refine zS ?_ | refine zAl (fun _ => ?_) | refine zBx (fun _ => ?_) | refine zPt ?_ | refine zPf ?_ | refine zE ?_ | refine zEA ?_ | refine zNot ?_ | refine zBd ?_ | refine zBs ?_ | refine zFn ?_ | refine zK1 ?_ | refine zK2 ?_)
                refine w_nil ?_
                exact ⟨_, x_wkd 3 ⟨rfl, trivial⟩ rfl (by repeat (first | exact ag_refl | refine ag_upd rfl ?_ | refine ag_at rfl rfl ?_))⟩
              · apply w_a; (focus exact rfl); (focus exact rfl); refine v_alloc tok rfl rfl rfl (fun _ => rfl) (fun _ => ⟨⟨_, rfl⟩, ?_⟩)
                refine w_nil ?_
                refine wt_fin ?_
                apply w_l; (focus exact rfl); (focus exact rfl); (refine zCallG [0] c4 ?_; rintro _ _ ⟨rfl, rfl⟩; refine ⟨_, _, re_refl, rfl, rfl, ?_⟩)
                refine gW ?_
                apply w_l; (focus exact rfl); (focus exact rfl); (first | (refine zkL ?_; first | refine zL1 ?_ | refine zL2 ?_ | refine zL3 ?_ | refine zLp ?_) | refine zM ?_ | (refine zkF ?_; first | refine zF1 ?_ | refine zF2 ?_ | refine zF3 ?_) | refine zA ?_ | (refine zkB ?_; first | refine zC5 ?_ | refine zC6 ?_ | refine zC1 ?_ | refine zC2 ?_ | refine zC3 ?_ | refine zC4 ?_ | refine zS5 ?_ | refine zS6 ?_ | refine zS1 ?_ | refine zS2 ?_ | refine zS3 ?_ | refine zS4 ?_ | refine zInc ?_ | refine zQ1 ?_ | refine zQ2 ?_ | refine zQ3 ?_ | refine zQ4 ?_ | refine zQ5 ?_ | refine zQ6 ?_) | (refine zkI ?_; first | refine zN1 (fun hlen => ?_) | refine zN2 (fun hlen => ?_) | refine zN3 ?_ | refine zN4 ?_ | refine zAp (fun _ => ?_)) | refine zS ?_ | refine zAl (fun _ => ?_) | refine zBx (fun _ => ?_) | refine zPt ?_ | refine zPf ?_ | refine zE ?_ | refine zEA ?_ | refine zNot ?_ | refine zBd ?_ | refine zBs ?_ | refine zFn ?_ | refine zK1 ?_ | refine zK2 ?_)
                refine w_nil ?_
                exact ⟨_, x_wkd 3 ⟨rfl, trivial⟩ rfl (by repeat (first | exact ag_refl | refine ag_upd rfl ?_ | refine ag_at rfl rfl ?_))⟩
            · apply w_a; (focus exact rfl); (focus exact rfl); refine v_alloc tok rfl rfl rfl (fun _ => rfl) (fun _ => ⟨⟨_, rfl⟩, ?_⟩)
              refine w_nil ?_
              refine wt_fin ?_
              apply w_l; (focus exact rfl); (focus exact rfl); (refine zCallG [0] c3 ?_; rintro _ _ ⟨rfl, rfl⟩; refine ⟨_, _, re_refl, rfl, rfl, ?_⟩)
              apply w_l; (focus exact rfl); (focus exact rfl); (refine zCallG [0] c4 ?_; rintro _ _ ⟨rfl, rfl⟩; refine ⟨_, _, re_refl, rfl, rfl, ?_⟩)
              refine gW ?_
              apply w_l; (focus exact rfl); (focus exact rfl); (first | (refine zkL ?_; first | refine zL1 ?_ | refine zL2 ?_ | refine zL3 ?_ | refine zLp ?_) | refine zM ?_ | (refine zkF ?_; first | refine zF1 ?_ | refine zF2 ?_ | refine zF3 ?_) | refine zA ?_ | (refine zkB ?_; first | refine zC5 ?_ | refine zC6 ?_ | refine zC1 ?_ | refine zC2 ?_ | refine zC3 ?_ | refine zC4 ?_ | refine zS5 ?_ | refine zS6 ?_ | refine zS1 ?_ | refine zS2 ?_ | refine zS3 ?_ | refine zS4 ?_ | refine zInc ?_ | refine zQ1 ?_ | refine zQ2 ?_ | refine zQ3 ?_ | refine zQ4 ?_ | refine zQ5 ?_ | refine zQ6 ?_) | (refine zkI ?_; first | refine zN1 (fun hlen => ?_) | refine zN2 (fun hlen => ?_) | refine zN3 ?_ | refine zN4 ?_ | refine zAp (fun _ => ?_)) | refine zS ?_ | refine zAl (fun _ => ?_) | refine zBx (fun _ => ?_) | refine zPt ?_ | refine zPf ?_ | refine zE ?_ | refine zEA ?_ | refine zNot ?_ | refine zBd ?_ | refine zBs ?_ | refine zFn ?_ | refine zK1 ?_ | refine zK2 ?_)
              refine w_nil ?_
              exact ⟨_, x_wkd 3 ⟨rfl, trivial⟩ rfl (by repeat (first | exact ag_refl | refine ag_upd rfl ?_ | refine ag_at rfl rfl ?_))⟩
          · apply w_a; (focus exact rfl); (focus exact rfl); refine v_alloc tok rfl rfl rfl (fun _ => rfl) (fun _ => ⟨⟨_, rfl⟩, ?_⟩)
            refine w_nil ?_
            refine wt_fin ?_
            apply w_l; (focus exact rfl); (focus exact rfl); (refine zCallG [0] c2 ?_; rintro _ _ ⟨rfl, rfl⟩; refine ⟨_, _, re_refl, rfl, rfl, ?_⟩)
            apply w_l; (focus exact rfl); (focus exact rfl); (refine zCallG [0] c3 ?_; rintro _ _ ⟨rfl, rfl⟩; refine ⟨_, _, re_refl, rfl, rfl, ?_⟩)
            apply w_l; (focus exact rfl); (focus exact rfl); (refine zCallG [0] c4 ?_; rintro _ _ ⟨rfl, rfl⟩; refine ⟨_, _, re_refl, rfl, rfl, ?_⟩)
            refine gW ?_
            apply w_l; (focus exact rfl); (focus exact rfl); (first | (refine zkL ?_; first | refine zL1 ?_ | refine zL2 ?_ | refine zL3 ?_ | refine zLp ?_) | refine zM ?_ | (refine zkF ?_; first | refine zF1 ?_ | refine zF2 ?_ | refine zF3 ?_) | refine zA ?_ | (refine zkB ?_; first | refine zC5 ?_ | refine zC6 ?_ | refine zC1 ?_ | refine zC2 ?_ | refine zC3 ?_ | refine zC4 ?_ | refine zS5 ?_ | refine zS6 ?_ | refine zS1 ?_ | refine zS2 ?_ | refine zS3 ?_ | refine zS4 ?_ | refine zInc ?_ | refine zQ1 ?_ | refine zQ2 ?_ | refine zQ3 ?_ | refine zQ4 ?_ | refine zQ5 ?_ | refine zQ6 ?_) | (refine zkI ?_; first | refine zN1 (fun hlen => ?_) | refine zN2 (fun hlen => ?_) | refine zN3 ?_ | refine zN4 ?_ | refine zAp (fun _ => ?_)) | refine zS ?_ | refine zAl (fun _ => ?_) | refine zBx (fun _ => ?_) | refine zPt ?_ | refine zPf ?_ | refine zE ?_ | refine zEA ?_ | refine zNot ?_ | refine zBd ?_ | refine zBs ?_ | refine zFn ?_ | refine zK1 ?_ | refine zK2 ?_)
            refine w_nil ?_
            exact ⟨_, x_wkd 3 ⟨rfl, trivial⟩ rfl (by repeat (first | exact ag_refl | refine ag_upd rfl ?_ | refine ag_at rfl rfl ?_))⟩
        · apply w_a; (focus exact rfl); (focus exact rfl); refine v_alloc tok rfl rfl rfl (fun _ => rfl) (fun _ => ⟨⟨_, rfl⟩, ?_⟩)
          refine w_nil ?_
          refine wt_fin ?_
          apply w_l; (focus exact rfl); (focus exact rfl); (refine zCallG [0] c1 ?_; rintro _ _ ⟨rfl, rfl⟩; refine ⟨_, _, re_refl, rfl, rfl, ?_⟩)
          apply w_l; (focus exact rfl); (focus exact rfl); (refine zCallG [0] c2 ?_; rintro _ _ ⟨rfl, rfl⟩; refine ⟨_, _, re_refl, rfl, rfl, ?_⟩)
          apply w_l; (focus exact rfl); (focus exact rfl); (refine zCallG [0] c3 ?_; rintro _ _ ⟨rfl, rfl⟩; refine ⟨_, _, re_refl, rfl, rfl, ?_⟩)
          apply w_l; (focus exact rfl); (focus exact rfl); (refine zCallG [0] c4 ?_; rintro _ _ ⟨rfl, rfl⟩; refine ⟨_, _, re_refl, rfl, rfl, ?_⟩)
          refine gW ?_
          apply w_l; (focus exact rfl); (focus exact rfl); (first | (refine zkL ?_; first | refine zL1 ?_ | refine zL2 ?_ | refine zL3 ?_ | refine zLp ?_) | refine zM ?_ | (refine zkF ?_; first | refine zF1 ?_ | refine zF2 ?_ | refine zF3 ?_) | refine zA ?_ | (refine zkB ?_; first | refine zC5 ?_ | refine zC6 ?_ | refine zC1 ?_ | refine zC2 ?_ | refine zC3 ?_ | refine zC4 ?_ | refine zS5 ?_ | refine zS6 ?_ | refine zS1 ?_ | refine zS2 ?_ | refine zS3 ?_ | refine zS4 ?_ | refine zInc ?_ | refine zQ1 ?_ | refine zQ2 ?_ | refine zQ3 ?_ | refine zQ4 ?_ | refine zQ5 ?_ | refine zQ6 ?_) | (refine zkI ?_; first | refine zN1 (fun hlen => ?_) | refine zN2 (fun hlen => ?_) | refine zN3 ?_ | refine zN4 ?_ | refine zAp (fun _ => ?_)) | refine zS ?_ | refine zAl (fun _ => ?_) | refine zBx (fun _ => ?_) | refine zPt ?_ | refine zPf ?_ | refine zE ?_ | refine zEA ?_ | refine zNot ?_ | refine zBd ?_ | refine zBs ?_ | refine zFn ?_ | refine zK1 ?_ | refine zK2 ?_)
          refine w_nil ?_
          exact ⟨_, x_wkd 3 ⟨rfl, trivial⟩ rfl (by repeat (first | exact ag_refl | refine ag_upd rfl ?_ | refine ag_at rfl rfl ?_))⟩
      intro b3
      repeat (first | refine gG ?_ | refine zAl (fun _ => ?_))
      refine lo_sub rfl rfl hdn ?_
      repeat (first | refine gG ?_ | refine zAl (fun _ => ?_))
      refine zG ?_
      exact ⟨re_cls (by repeat (first | exact rzs_nil | apply rzs_cons | exact rz_c | exact rz_nil rfl | apply rz_agg | exact rz_own rfl | apply rz_fn | exact rz_ptr rfl | apply rz_tup)), rfl⟩
end Go.Proofs.YthgackidonocpaaGreat
namespace Go.Proofs.YthgackidonocpaaGreat
open Go.RowKit
def lfB (c : Nat) (m : Int) : Blk := .box c 3 [.c (.lit (.int .i64 m))]
def Takes2 (b c : Nat) (t : T) (p : TS × Int) (r : AV) (hs : List Blk) : Prop := r = .c t ∧ hs = [tkB b p.1, lfB c p.2]
set_option maxRecDepth 100000 in
set_option maxHeartbeats 4000000 in
theorem tvalue_ag (b c : Nat) : ∀ (d : Nat) (s : TS) (m : Int), d ≤ 40 → 0 ≤ m → m ≤ 400 → AG Tryz.prog 100 [.ptr 0 b 0, .ptr 1 c 0, .c (.lit (.int .i64 (d : Int)))] [tkB b s, lfB c m] (Takes2 b c (tVal d s m).1.t (tVal d s m).2) := by
  intro d
  induction d with
  | zero =>
    intro s m hd hm hm'
    obtain ⟨l, ok⟩ := s
    refine AG.re (R := fun r hs => Re r (.c V.zero.t) ∧ hs = [tkB b (TS.mk l ok).fail, lfB c (m - 1)]) ?_ (fun r hs h => ⟨_, h.1, rfl, h.2⟩)
    refine ag_enter 2 tok Tryz.func100 Tryz.ntmps100 Tryz.results100 rfl (by kernel_rfl) rfl fun F => ?_
    cases d1 : decide (m - 1 < 0)
    · repeat (first | refine gG ?_ | refine zAl (fun _ => ?_) | refine zAp (fun _ => ?_))
      refine zSub ?_
      repeat (first | refine gG ?_ | refine zAl (fun _ => ?_) | refine zAp (fun _ => ?_))
      refine zG ?_
      exact ⟨re_cls (by repeat (first | exact rzs_nil | apply rzs_cons | exact rz_c | exact rz_nil rfl | apply rz_agg | exact rz_own rfl | apply rz_fn | exact rz_ptr rfl | apply rz_tup)), rfl⟩
    · repeat (first | refine gG ?_ | refine zAl (fun _ => ?_) | refine zAp (fun _ => ?_))
      refine zSub ?_
      repeat (first | refine gG ?_ | refine zAl (fun _ => ?_) | refine zAp (fun _ => ?_))
      refine zG ?_
      exact ⟨re_cls (by repeat (first | exact rzs_nil | apply rzs_cons | exact rz_c | exact rz_nil rfl | apply rz_agg | exact rz_own rfl | apply rz_fn | exact rz_ptr rfl | apply rz_tup)), rfl⟩
  | succ d ih =>
    intro s m hd hm hm'
    have e1 : decide (((d + 1 : Nat) : Int) < 1) = false := decide_eq_false (by omega)
    rw [tVal]
    by_cases h0 : m - 1 < 0
    · rw [if_pos h0]
      have d1 : decide (m - 1 < 0) = true := decide_eq_true h0
      obtain ⟨l, ok⟩ := s
      refine AG.re (R := fun r hs => Re r (.c V.zero.t) ∧ hs = [tkB b (TS.mk l ok).fail, lfB c (m - 1)]) ?_ (fun r hs h => ⟨_, h.1, rfl, h.2⟩)
      refine ag_enter 2 tok Tryz.func100 Tryz.ntmps100 Tryz.results100 rfl (by kernel_rfl) rfl fun F => ?_
      repeat (first | refine gG ?_ | refine zAl (fun _ => ?_) | refine zAp (fun _ => ?_))
      refine zSub ?_
      repeat (first | refine gG ?_ | refine zAl (fun _ => ?_) | refine zAp (fun _ => ?_))
      refine zG ?_
      exact ⟨re_cls (by repeat (first | exact rzs_nil | apply rzs_cons | exact rz_c | exact rz_nil rfl | apply rz_agg | exact rz_own rfl | apply rz_fn | exact rz_ptr rfl | apply rz_tup)), rfl⟩
    · rw [if_neg h0]
      have d1 : decide (m - 1 < 0) = false := decide_eq_false h0
      by_cases hok : s.ok = false
      · rw [if_pos hok]
        obtain ⟨l, ok⟩ := s
        dsimp only at hok
        subst hok
        refine AG.re (R := fun r hs => Re r (.c V.zero.t) ∧ hs = [tkB b (TS.mk l false), lfB c (m - 1)]) ?_ (fun r hs h => ⟨_, h.1, rfl, h.2⟩)
        refine ag_enter 2 tok Tryz.func100 Tryz.ntmps100 Tryz.results100 rfl (by kernel_rfl) rfl fun F => ?_
        repeat (first | refine gG ?_ | refine zAl (fun _ => ?_) | refine zAp (fun _ => ?_))
        refine zSub ?_
        repeat (first | refine gG ?_ | refine zAl (fun _ => ?_) | refine zAp (fun _ => ?_))
        refine zG ?_
        exact ⟨re_cls (by repeat (first | exact rzs_nil | apply rzs_cons | exact rz_c | exact rz_nil rfl | apply rz_agg | exact rz_own rfl | apply rz_fn | exact rz_ptr rfl | apply rz_tup)), rfl⟩
      · rw [if_neg hok]
        have c1 := one_ag b s
        generalize tOne s = q1 at *
        obtain ⟨k, s1⟩ := q1
        dsimp only at c1 ⊢
        have c2 := tnum_ag b s1
        generalize tNum s1 = q2 at *
        obtain ⟨n, s2⟩ := q2
        dsimp only at c2 ⊢
        have c3 := ttext_ag b s2
        generalize tText s2 = q3 at *
        obtain ⟨t, s3⟩ := q3
        dsimp only at c3 ⊢
        have c4 := tnat_ag b s3
        have hn4 : (tNat s3).1 ≤ 9223372036854775807 := tNat_lt s3
        generalize tNat s3 = q4 at *
        obtain ⟨n0, s4⟩ := q4
        dsimp only at c4 hn4 ⊢
        have hfg := tVal_fair d
        obtain ⟨l, ok⟩ := s
        cases ok
        · simp at hok
        refine AG.re (R := fun r hs => Re r (.c (V.mk k n (bs t) (tLoop (tVal d) n0 s4 (m - 1)).1).t) ∧ hs = [tkB b (tLoop (tVal d) n0 s4 (m - 1)).2.1, lfB c (tLoop (tVal d) n0 s4 (m - 1)).2.2]) ?_ (fun r hs h => ⟨_, h.1, rfl, h.2⟩)
        refine ag_enter 2 tok Tryz.func100 Tryz.ntmps100 Tryz.results100 rfl (by kernel_rfl) rfl fun F => ?_
        repeat (first | refine gG ?_ | refine zAl (fun _ => ?_) | refine zAp (fun _ => ?_))
        refine zSub ?_
        repeat (first | refine gG ?_ | refine zAl (fun _ => ?_) | refine zAp (fun _ => ?_))
        refine zCallG [0] c1 ?_
        rintro _ _ ⟨rfl, rfl⟩
        refine ⟨_, _, re_refl, rfl, rfl, ?_⟩
        repeat (first | refine gG ?_ | refine zAl (fun _ => ?_) | refine zAp (fun _ => ?_))
        refine zCallG [0] c2 ?_
        rintro _ _ ⟨rfl, rfl⟩
        refine ⟨_, _, re_refl, rfl, rfl, ?_⟩
        repeat (first | refine gG ?_ | refine zAl (fun _ => ?_) | refine zAp (fun _ => ?_))
        refine zCallG [0] c3 ?_
        rintro _ _ ⟨rfl, rfl⟩
        refine ⟨_, _, re_refl, rfl, rfl, ?_⟩
        repeat (first | refine gG ?_ | refine zAl (fun _ => ?_) | refine zAp (fun _ => ?_))
        refine zCallG [0] c4 ?_
        rintro _ _ ⟨rfl, rfl⟩
        refine ⟨_, _, re_refl, rfl, rfl, ?_⟩
        repeat (first | refine gG ?_ | refine zAl (fun _ => ?_) | refine zAp (fun _ => ?_))
        rename_i b2 b3
        refine x_own_cell 3 3 61 4 rfl rfl rfl rfl rfl rfl ?_
        refine x_loop [8, 42, 43, 44, 45, 46, 47, 48, 49, 50, 51, 52, 53, 54, 55, 56, 57, 58, 59, 60, 61] (fun y : Nat × List V × Value × TS × Int => [(8, .c (.lit (.int .i64 (y.1 : Int))))]) (fun y => [tkB b y.2.2.2.1, lfB c y.2.2.2.2, .box b2 61 [.c (.lit (.int .i64 0)), .c (.lit (.int .i64 0)), .c (.lit (.string ⟨#[]⟩)), .c (.lit (.slice none 0 0))], .box b3 61 [.c (.lit (.int .i64 (k : Int))), .c (.lit (.int .i64 n)), .c (.lit (.string (bs t))), .own 4 y.2.2.1], .row y.2.2.1 61 4 y.2.1.length (V.all y.2.1)])
          (fun y => -1 ≤ y.2.2.2.2 ∧ (y.2.2.2.1.ok = true → 0 ≤ y.2.2.2.2) ∧ (V.sizes y.2.1 : Int) + y.2.2.2.2 ≤ m ∧ y.1 ≤ 9223372036854775807 ∧ (y.2.1 ++ (tLoop (tVal d) y.1 y.2.2.2.1 y.2.2.2.2).1, (tLoop (tVal d) y.1 y.2.2.2.1 y.2.2.2.2).2) = tLoop (tVal d) n0 s4 (m - 1)) (fun y => y.1) (n0, [], .slice none 0 0, s4, m - 1) ⟨by simp only; omega, fun _ => by simp only; omega, by simp only [V.sizes]; omega, hn4, by simp⟩ ⟨rfl, trivial⟩ rfl ?_
        rintro ⟨j, out, v, s', m'⟩ ⟨h1, h2, h3, h4, hinv⟩
        dsimp only at h1 h2 h3 h4 hinv ⊢
        have hol := V.len_sizes out
        cases j with
        | zero =>
          have d2 : decide ((0 : Int) < ((0 : Nat) : Int)) = false := rfl
          simp only [tLoop, List.append_nil] at hinv
          refine x_fzc 3 3 ?_
          repeat (first | refine gG ?_ | refine zAl (fun _ => ?_) | refine zAp (fun _ => ?_))
          refine zG ?_
          rw [← hinv]
          exact ⟨re_cls (by repeat (first | exact rzs_nil | apply rzs_cons | exact rz_c | exact rz_nil rfl | apply rz_agg | exact rz_own rfl | apply rz_fn | exact rz_ptr rfl | apply rz_tup)), rfl⟩
        | succ j =>
          have d2 : decide ((0 : Int) < ((j + 1 : Nat) : Int)) = true := decide_eq_true (by omega)
          obtain ⟨l1, ok1⟩ := s'
          cases ok1
          · simp only [tLoop, Bool.false_eq_true, if_false, List.append_nil] at hinv
            refine x_fzc 3 3 ?_
            repeat (first | refine gG ?_ | refine zAl (fun _ => ?_) | refine zAp (fun _ => ?_))
            refine zG ?_
            rw [← hinv]
            exact ⟨re_cls (by repeat (first | exact rzs_nil | apply rzs_cons | exact rz_c | exact rz_nil rfl | apply rz_agg | exact rz_own rfl | apply rz_fn | exact rz_ptr rfl | apply rz_tup)), rfl⟩
          · have hm0 := h2 rfl
            have hca := ih ⟨l1, true⟩ m' (by omega) hm0 (by omega)
            obtain ⟨-, g2, g3, g4, -⟩ := hfg.fair ⟨l1, true⟩ m' hm0
            simp only [tLoop, if_true] at hinv
            generalize tVal d ⟨l1, true⟩ m' = q at *
            obtain ⟨⟨kv, nv, tv, lv⟩, s2', m2⟩ := q
            dsimp only at hinv hca g2 g3 g4
            repeat (first | refine gG ?_ | refine zAl (fun _ => ?_) | refine zAp (fun _ => ?_))
            refine ac_drawT [0, 2, 0, 0, 0, 0, 2, 0, 2, 0, 2] (.fork [0, 2, 3, 4, 5] 1 (.fin [6, 7, 8, 9, 10]) 6 (.fin [7, 1, 8, 9, 10])) (by kernel_rfl) (by kernel_rfl) ?_
            refine wt_fork ?_
            refine gW ?_
            apply w_p; (focus exact rfl); (focus exact rfl); focus (intro _; (refine lo_sub rfl rfl (r := (d : Int)) (by rw [IntWalk.i64_in _ (by omega)]; omega) ?_); exact det_refl)
            refine w_nil ?_
            refine ⟨?_, ?_⟩
            · apply w_l; (focus exact rfl); (focus exact rfl); (first | refine zL1 ?_ | refine zL2 ?_ | refine zL3 ?_ | refine zLp ?_)
              refine w_nil ?_
              refine wt_fin ?_
              apply w_l; (focus exact rfl); (focus exact rfl); (refine zCallG [0, 1] hca ?_; rintro _ _ ⟨rfl, rfl⟩; refine ⟨_, _, re_refl, rfl, rfl, ?_⟩)
              refine gW ?_
              apply w_l; (focus exact rfl); (focus exact rfl); (first | (refine zkL ?_; first | refine zL1 ?_ | refine zL2 ?_ | refine zL3 ?_ | refine zLp ?_) | refine zM ?_ | (refine zkF ?_; first | refine zF1 ?_ | refine zF2 ?_ | refine zF3 ?_) | refine zA ?_ | (refine zkB ?_; first | refine zC5 ?_ | refine zC6 ?_ | refine zC1 ?_ | refine zC2 ?_ | refine zC3 ?_ | refine zC4 ?_ | refine zS5 ?_ | refine zS6 ?_ | refine zS1 ?_ | refine zS2 ?_ | refine zS3 ?_ | refine zS4 ?_ | refine zInc ?_ | refine zQ1 ?_ | refine zQ2 ?_ | refine zQ3 ?_ | refine zQ4 ?_ | refine zQ5 ?_ | refine zQ6 ?_) | (refine zkI ?_; first | refine zN1 (fun hlen => ?_) | refine zN2 (fun hlen => ?_) | refine zN3 ?_ | refine zN4 ?_ | refine zAp (fun _ => ?_)) | refine zS ?_ | refine zAl (fun _ => ?_) | refine zBx (fun _ => ?_) | refine zPt ?_ | refine zPf ?_ | refine zE ?_ | refine zEA ?_ | refine zNot ?_ | refine zBd ?_ | refine zBs ?_ | refine zFn ?_ | refine zK1 ?_ | refine zK2 ?_)
              refine gW ?_
              apply w_l; (focus exact rfl); (focus exact rfl); (first | (refine zkL ?_; first | refine zL1 ?_ | refine zL2 ?_ | refine zL3 ?_ | refine zLp ?_) | refine zM ?_ | (refine zkF ?_; first | refine zF1 ?_ | refine zF2 ?_ | refine zF3 ?_) | refine zA ?_ | (refine zkB ?_; first | refine zC5 ?_ | refine zC6 ?_ | refine zC1 ?_ | refine zC2 ?_ | refine zC3 ?_ | refine zC4 ?_ | refine zS5 ?_ | refine zS6 ?_ | refine zS1 ?_ | refine zS2 ?_ | refine zS3 ?_ | refine zS4 ?_ | refine zInc ?_ | refine zQ1 ?_ | refine zQ2 ?_ | refine zQ3 ?_ | refine zQ4 ?_ | refine zQ5 ?_ | refine zQ6 ?_) | (refine zkI ?_; first | refine zN1 (fun hlen => ?_) | refine zN2 (fun hlen => ?_) | refine zN3 ?_ | refine zN4 ?_ | refine zAp (fun _ => ?_)) | refine zS ?_ | refine zAl (fun _ => ?_) | refine zBx (fun _ => ?_) | refine zPt ?_ | refine zPf ?_ | refine zE ?_ | refine zEA ?_ | refine zNot ?_ | refine zBd ?_ | refine zBs ?_ | refine zFn ?_ | refine zK1 ?_ | refine zK2 ?_)
              refine w_nil ?_
              repeat (first | refine gG ?_ | refine zAl (fun _ => ?_) | refine zAp (fun _ => ?_))
              refine lo_sub rfl rfl (r := (j : Int)) (by rw [IntWalk.i64_in _ (by omega)]; omega) ?_
              repeat (first | refine gG ?_ | refine zAl (fun _ => ?_) | refine zAp (fun _ => ?_))
              exact ⟨(j, out ++ [.mk kv nv tv lv], _, s2', m2), ⟨g3, g4, by simp only [V.sizes_app, V.sizes]; omega, by simp only; omega, by simpa using hinv⟩, by simp only; omega, x_wkd 5 ⟨rfl, trivial⟩ (by simp only [V.all_app, V.all_one, List.length_append, List.length_cons, List.length_nil]; rfl) (by repeat (first | exact ag_refl | refine ag_upd rfl ?_ | refine ag_at rfl rfl ?_))⟩
            · apply w_l; (focus exact rfl); (focus exact rfl); (refine zCallG [0, 1] hca ?_; rintro _ _ ⟨rfl, rfl⟩; refine ⟨_, _, re_refl, rfl, rfl, ?_⟩)
              refine w_nil ?_
              refine wt_fin ?_
              refine gW ?_
              apply w_l; (focus exact rfl); (focus exact rfl); (first | refine zL1 ?_ | refine zL2 ?_ | refine zL3 ?_ | refine zLp ?_)
              apply w_l; (focus exact rfl); (focus exact rfl); (first | (refine zkL ?_; first | refine zL1 ?_ | refine zL2 ?_ | refine zL3 ?_ | refine zLp ?_) | refine zM ?_ | (refine zkF ?_; first | refine zF1 ?_ | refine zF2 ?_ | refine zF3 ?_) | refine zA ?_ | (refine zkB ?_; first | refine zC5 ?_ | refine zC6 ?_ | refine zC1 ?_ | refine zC2 ?_ | refine zC3 ?_ | refine zC4 ?_ | refine zS5 ?_ | refine zS6 ?_ | refine zS1 ?_ | refine zS2 ?_ | refine zS3 ?_ | refine zS4 ?_ | refine zInc ?_ | refine zQ1 ?_ | refine zQ2 ?_ | refine zQ3 ?_ | refine zQ4 ?_ | refine zQ5 ?_ | refine zQ6 ?_) | (refine zkI ?_; first | refine zN1 (fun hlen => ?_) | refine zN2 (fun hlen => ?_) | refine zN3 ?_ | refine zN4 ?_ | refine zAp (fun _ => ?_)) | refine zS ?_ | refine zAl (fun _ => ?_) | refine zBx (fun _ => ?_) | refine zPt ?_ | refine zPf ?_ | refine zE ?_ | refine zEA ?_ | refine zNot ?_ | refine zBd ?_ | refine zBs ?_ | refine zFn ?_ | refine zK1 ?_ | refine zK2 ?_)
              refine gW ?_
              apply w_l; (focus exact rfl); (focus exact rfl); (first | (refine zkL ?_; first | refine zL1 ?_ | refine zL2 ?_ | refine zL3 ?_ | refine zLp ?_) | refine zM ?_ | (refine zkF ?_; first | refine zF1 ?_ | refine zF2 ?_ | refine zF3 ?_) | refine zA ?_ | (refine zkB ?_; first | refine zC5 ?_ | refine zC6 ?_ | refine zC1 ?_ | refine zC2 ?_ | refine zC3 ?_ | refine zC4 ?_ | refine zS5 ?_ | refine zS6 ?_ | refine zS1 ?_ | refine zS2 ?_ | refine zS3 ?_ | refine zS4 ?_ | refine zInc ?_ | refine zQ1 ?_ | refine zQ2 ?_ | refine zQ3 ?_ | refine zQ4 ?_ | refine zQ5 ?_ | refine zQ6 ?_) | (refine zkI ?_; first | refine zN1 (fun hlen => ?_) | refine zN2 (fun hlen => ?_) | refine zN3 ?_ | refine zN4 ?_ | refine zAp (fun _ => ?_)) | refine zS ?_ | refine zAl (fun _ => ?_) | refine zBx (fun _ => ?_) | refine zPt ?_ | refine zPf ?_ | refine zE ?_ | refine zEA ?_ | refine zNot ?_ | refine zBd ?_ | refine zBs ?_ | refine zFn ?_ | refine zK1 ?_ | refine zK2 ?_)
              refine w_nil ?_
              repeat (first | refine gG ?_ | refine zAl (fun _ => ?_) | refine zAp (fun _ => ?_))
              refine lo_sub rfl rfl (r := (j : Int)) (by rw [IntWalk.i64_in _ (by omega)]; omega) ?_
              repeat (first | refine gG ?_ | refine zAl (fun _ => ?_) | refine zAp (fun _ => ?_))
              exact ⟨(j, out ++ [.mk kv nv tv lv], _, s2', m2), ⟨g3, g4, by simp only [V.sizes_app, V.sizes]; omega, by simp only; omega, by simpa using hinv⟩, by simp only; omega, x_wkd 5 ⟨rfl, trivial⟩ (by simp only [V.all_app, V.all_one, List.length_append, List.length_cons, List.length_nil]; rfl) (by repeat (first | exact ag_refl | refine ag_upd rfl ?_ | refine ag_at rfl rfl ?_))⟩
end Go.Proofs.YthgackidonocpaaGreat
namespace Go.Proofs.YthgackidonocpaaGreat
open Go.RowKit
def tWhole (s : TS) : V × TS := ((tVal 40 s 400).1, (tVal 40 s 400).2.1)
set_option maxRecDepth 100000 in
set_option maxHeartbeats 4000000 in
theorem whole_ag (b : Nat) (s : TS) : AG Tryz.prog 72 [.ptr 0 b 0] [tkB b s] (Takes b (tWhole s).1.t (tWhole s).2) := by
  have hc := fun c => tvalue_ag b c 40 s 400 (by omega) (by omega) (by omega)
  unfold tWhole
  generalize tVal 40 s 400 = q at *
  obtain ⟨⟨k, n, t, a⟩, s', m'⟩ := q
  dsimp only at hc ⊢
  refine AG.re (R := fun r hs => Re r (.c (V.mk k n t a).t) ∧ hs = [tkB b s']) ?_ (fun r hs h => ⟨_, h.1, rfl, h.2⟩)
  refine ag_enter 1 tok Tryz.func72 Tryz.ntmps72 Tryz.results72 rfl (by kernel_rfl) rfl fun F => ?_
  repeat (first | refine gG ?_ | refine zAl (fun _ => ?_))
  refine zCallG [0, 2] (hc _) ?_
  rintro _ _ ⟨rfl, rfl⟩
  refine ⟨_, _, re_refl, rfl, rfl, ?_⟩
  repeat (first | refine gG ?_ | refine zAl (fun _ => ?_))
  refine zG ?_
  exact ⟨re_cls (by repeat (first | exact rzs_nil | apply rzs_cons | exact rz_c | exact rz_nil rfl | apply rz_agg | exact rz_own rfl | apply rz_fn | exact rz_ptr rfl | apply rz_tup)), rfl⟩
mutual
theorem V.bytes_len2 : ∀ v : V, v.ok → v.size ≤ 1048576 → v.txt ≤ 1099511627776 → v.bytes.length ≤ 32 * v.size + v.txt
  | .mk k n t l, ho, hs, ht => by
    simp only [V.ok, V.size, V.txt] at ho hs ht
    have h1 := uv_len64 (zz_lt ho.1)
    have h2 := uv_len64 (n := t.size) (by omega)
    have h3 := uv_len64 (n := l.length) (by have := V.len_sizes l; omega)
    have h4 := V.bytesAll_len2 l ho.2 (by omega) (by omega)
    simp only [V.bytes, V.size, V.txt, List.length_cons, List.length_append, sz_len]
    omega
theorem V.bytesAll_len2 : ∀ l : List V, V.oks l → V.sizes l ≤ 1048576 → V.txts l ≤ 1099511627776 → (V.bytesAll l).length ≤ 32 * V.sizes l + V.txts l
  | [], _, _, _ => by simp [V.bytesAll]
  | v :: l, ho, hs, ht => by
    simp only [V.oks, V.sizes, V.txts] at ho hs ht
    have h1 := V.bytes_len2 v ho.1 (by omega) (by omega)
    have h2 := V.bytesAll_len2 l ho.2 (by omega) (by omega)
    simp only [V.bytesAll, V.sizes, V.txts, List.length_append]
    omega
end
theorem rVal_ok' (f : Nat) (s : RS) (h : (rVal f s).2.bad = false) : s = ⟨(rVal f s).1.bytes ++ (rVal f s).2.l, false, (rVal f s).2.dep⟩ ∧ (rVal f s).1.ok ∧ (rVal f s).1.kin := rVal_ok f s (rVal f s).1 (rVal f s).2 rfl h
/-- what the taker takes is small -/
theorem tWhole_fair (s : TS) : (tWhole s).1.ok ∧ (tWhole s).1.size ≤ 401 ∧ (tWhole s).1.bytes.length ≤ 1700000 := by
  obtain ⟨h1, h2, h3, _, h5⟩ := (tVal_fair 40).fair s 400 (by omega)
  have h6 : (tWhole s).1.size ≤ 401 := by unfold tWhole; dsimp only; omega
  refine ⟨h1, h6, ?_⟩
  have h7 := V.bytes_len2 (tWhole s).1 h1 (by omega) (by unfold tWhole at h6 ⊢; dsimp only at h6 ⊢; omega)
  unfold tWhole at h6 h7 ⊢
  dsimp only at h6 h7 ⊢
  omega
theorem every_imp {p q : V → Nat → Bool} (v : V) : ∀ (d e : Nat), (∀ x i j, j + d = i + e → p x i = true → q x j = true) → v.every p d = true → v.every q e = true := by
  induction v using V.ind with
  | h k n t l ih =>
    intro d e h hv
    rw [V.every, V.everys_eq, Bool.and_eq_true, List.all_eq_true] at hv ⊢
    exact ⟨h _ d e (by omega) hv.1, fun x hx => ih x hx (d + 1) (e + 1) (fun x i j hij => h x i j (by omega)) (hv.2 x hx)⟩
theorem kin_of {v : V} : ∀ {d : Nat}, v.every formP d = true → v.kin := by
  induction v using V.ind with
  | h k n t l ih =>
    intro d hv
    rw [V.every, V.everys_eq, Bool.and_eq_true, List.all_eq_true] at hv
    simp only [V.kin]
    refine ⟨?_, (V.kins_iff l).2 fun x hx => ih x hx (hv.2 x hx)⟩
    have h := hv.1
    simp only [formP, formN] at h
    split at h
    · omega
    split at h
    · omega
    split at h
    · omega
    split at h
    · omega
    split at h
    · omega
    split at h
    · omega
    split at h
    · omega
    split at h
    · omega
    · cases h
theorem check_ok {v : V} (h : v.check = 0) : v.size ≤ 400 ∧ v.low 1 = true ∧ v.every (fun x _ => decide (x.text.size ≤ 4000)) 1 = true ∧ v.kin := by
  unfold V.check at h
  split at h
  · rename_i h1
    split at h
    · rename_i h2
      simp only [V.fitB, Bool.and_eq_true, decide_eq_true_eq] at h1
      refine ⟨h1.1, ?_, ?_, kin_of h2⟩
      · refine every_imp v 1 1 (fun x i j hij hb => ?_) h1.2
        simp only [bigN, Bool.and_eq_true, Bool.not_eq_true', decide_eq_false_iff_not] at hb
        simp only [decide_eq_true_eq]
        omega
      · refine every_imp v 1 1 (fun x i j hij hb => ?_) h1.2
        simp only [bigN, Bool.and_eq_true, Bool.not_eq_true', decide_eq_false_iff_not] at hb
        simp only [decide_eq_true_eq]
        omega
    · omega
  · omega
end Go.Proofs.YthgackidonocpaaGreat
namespace Go.Proofs.YthgackidonocpaaGreat
open Go.RowKit
inductive Lt where
  | mk (k fm tt n : Int) (t : ByteArray) (v : V)
def Lt.val : Lt → V
  | .mk _ _ _ _ _ v => v
def Lt.ts : Lt → List T
  | .mk k fm tt n t v => [.lit (.int .i64 k), .lit (.int .i64 fm), .lit (.int .i64 tt), .lit (.int .i64 n), .lit (.string t)] ++ v.ts
def Lt.t (x : Lt) : T := .agg x.ts
theorem Lt.ts_len (x : Lt) : x.ts.length = 9 := by obtain ⟨k, fm, tt, n, t, v⟩ := x; simp [Lt.ts, V.ts_len]
def V.isZ : V → Bool
  | .mk k n t l => decide (k = 0) && decide (n = 0) && decide (t = ⟨#[]⟩) && decide ((l.length : Int) = 0)
def Lt.bad1 (k fm tt n : Int) (t : ByteArray) : Bool := decide (fm < 0) || decide (tt < 0) || decide (k < 1) || decide ((5 : Int) < k) || ((!decide (t = ⟨#[]⟩)) && !(decide (k = 2) || decide (k = 5))) || ((!decide (n = 0)) && !decide (k = 2)) || decide (n < 0) || decide ((2 : Int) < n)
def Lt.check : Lt → Int
  | .mk k fm tt n t v => if decide ((4000 : Int) < (t.size : Int)) = true then 2 else if Lt.bad1 k fm tt n t = true then 3 else if decide (k = 1) = true then v.check else if (!v.isZ) = true then 3 else 0
def Lt.fault : Lt → Int
  | .mk k fm tt n t v => if decide ((4000 : Int) < (t.size : Int)) = true then 2 else if (decide (fm < 0) || decide (tt < 0) || decide (k < 1) || decide ((5 : Int) < k)) = true then 3 else if ((!decide (k = 2) && !decide (n = 0)) || decide (n < 0) || decide ((2 : Int) < n)) = true then 3 else if (!decide (k = 2) && !decide (k = 5) && !decide (t = ⟨#[]⟩)) = true then 3 else if decide (k = 1) = true then v.check else if (!v.isZ) = true then 3 else 0
theorem bool_fault (qA q1 q2 q3 q4 q5 q6 q7 : Bool) (X : Int) : (if qA = true then 2 else if q1 = true then 3 else if ((!q2 && !q4) || q5 || q6) = true then 3 else if (!q2 && !q3 && !q7) = true then 3 else X) = (if qA = true then 2 else if (q1 || ((!q7) && !(q2 || q3)) || ((!q4) && !q2) || q5 || q6) = true then 3 else X) := by
  cases qA <;> cases q1 <;> cases q2 <;> cases q3 <;> cases q4 <;> cases q5 <;> cases q6 <;> cases q7 <;> rfl
theorem Lt.fault_eq (x : Lt) : x.fault = x.check := by
  obtain ⟨k, fm, tt, n, t, v⟩ := x
  unfold Lt.fault Lt.check Lt.bad1
  exact bool_fault _ _ _ _ _ _ _ _ _
def Lt.bytes : Lt → List UInt8
  | .mk k fm tt n t v => kb k :: (uv fm.toNat ++ (uv tt.toNat ++ (uv n.toNat ++ (uv t.size ++ (t.data.toList ++ (if k = 1 then v.bytes else []))))))
/-- of a letter that is right -/
structure Lt.Right (k fm tt n : Int) (t : ByteArray) (v : V) : Prop where
  size : t.size ≤ 4000
  fm0 : 0 ≤ fm
  tt0 : 0 ≤ tt
  k1 : 1 ≤ k ∧ k ≤ 5
  n0 : 0 ≤ n ∧ n ≤ 2
  val : k = 1 → v.check = 0
  zero : k ≠ 1 → v = V.zero
theorem isZ_zero {v : V} (h : v.isZ = true) : v = V.zero := by
  obtain ⟨k, n, t, l⟩ := v
  simp only [V.isZ, Bool.and_eq_true, decide_eq_true_eq] at h
  obtain ⟨⟨⟨rfl, rfl⟩, rfl⟩, h4⟩ := h
  have : l = [] := List.eq_nil_of_length_eq_zero (by omega)
  subst this
  rfl
theorem Lt.right {k fm tt n : Int} {t : ByteArray} {v : V} (h : (Lt.mk k fm tt n t v).check = 0) : Lt.Right k fm tt n t v := by
  simp only [Lt.check] at h
  split at h
  · omega
  · rename_i h1
    split at h
    · omega
    · rename_i h2
      simp only [decide_eq_true_eq] at h1
      simp only [Lt.bad1, Bool.or_eq_true, not_or, decide_eq_true_eq] at h2
      obtain ⟨⟨⟨⟨⟨⟨⟨a1, a2⟩, a3⟩, a4⟩, -⟩, -⟩, a5⟩, a6⟩ := h2
      refine ⟨by omega, by omega, by omega, by omega, by omega, fun hk => ?_, fun hk => ?_⟩
      · rw [if_pos (by simpa using hk)] at h; exact h
      · rw [if_neg (by simpa using hk)] at h
        split at h
        · omega
        · rename_i h3
          exact isZ_zero (by simpa using h3)
def rLet (s : RS) : Lt × RS :=
  let p1 := rByte s
  let p2 := rNat p1.2
  let p3 := rNat p2.2
  let p4 := rNat p3.2
  let p5 := rText p4.2
  if p1.1 = 1 then (.mk p1.1 p2.1 p3.1 p4.1 (bs p5.1) (rVal 40 p5.2).1, (rVal 40 p5.2).2) else (.mk p1.1 p2.1 p3.1 p4.1 (bs p5.1) V.zero, p5.2)
/-- what is said of a letter that was read -/
def Lt.fine : Lt → Prop
  | .mk k fm tt n _ v => (0 ≤ k ∧ k < 256) ∧ inI fm ∧ inI tt ∧ inI n ∧ (k = 1 → v.ok ∧ v.kin) ∧ (k ≠ 1 → v = V.zero)
theorem rLet_ok : Reads rLet Lt.bytes Lt.fine := by
  intro s x s' h hb
  unfold rLet at h
  dsimp only at h
  generalize e1 : rByte s = p1 at h
  obtain ⟨x1, s1⟩ := p1
  dsimp only at h
  generalize e2 : rNat s1 = p2 at h
  obtain ⟨x2, s2⟩ := p2
  dsimp only at h
  generalize e3 : rNat s2 = p3 at h
  obtain ⟨x3, s3⟩ := p3
  dsimp only at h
  generalize e4 : rNat s3 = p4 at h
  obtain ⟨x4, s4⟩ := p4
  dsimp only at h
  generalize e5 : rText s4 = p5 at h
  obtain ⟨x5, s5⟩ := p5
  dsimp only at h
  split at h
  · rename_i hk
    have hv := rVal_ok' 40 s5
    generalize rVal 40 s5 = p6 at *
    obtain ⟨x6, s6⟩ := p6
    simp only [Prod.mk.injEq] at h
    obtain ⟨rfl, rfl⟩ := h
    dsimp only at hv
    obtain ⟨g1, g2, g3⟩ := hv hb
    obtain ⟨g5, g5'⟩ := rText_ok e5 (by rw [g1])
    obtain ⟨g6, g6'⟩ := rNat_ok e4 (by rw [g5])
    obtain ⟨g7, g7'⟩ := rNat_ok e3 (by rw [g6])
    obtain ⟨g8, g8'⟩ := rNat_ok e2 (by rw [g7])
    obtain ⟨a, g9, g9'⟩ := rByte_ok e1 (by rw [g8])
    have ha := a.toNat_lt
    refine ⟨?_, ?_⟩
    · rw [g9', g8, g7, g6, g5, g1]
      simp only [Lt.bytes, g9, kb_nat, Int.toNat_natCast, bs_size']
      rw [if_pos (by omega)]
      simp [bs]
    · simp only [Lt.fine, inI]
      exact ⟨⟨by omega, by omega⟩, by omega, by omega, by omega, fun _ => ⟨g2, g3⟩, fun h => absurd (by omega) h⟩
  · rename_i hk
    simp only [Prod.mk.injEq] at h
    obtain ⟨rfl, rfl⟩ := h
    obtain ⟨g5, g5'⟩ := rText_ok e5 hb
    obtain ⟨g6, g6'⟩ := rNat_ok e4 (by rw [g5])
    obtain ⟨g7, g7'⟩ := rNat_ok e3 (by rw [g6])
    obtain ⟨g8, g8'⟩ := rNat_ok e2 (by rw [g7])
    obtain ⟨a, g9, g9'⟩ := rByte_ok e1 (by rw [g8])
    have ha := a.toNat_lt
    refine ⟨?_, ?_⟩
    · rw [g9', g8, g7, g6, g5]
      simp only [Lt.bytes, g9, kb_nat, Int.toNat_natCast, bs_size']
      rw [if_neg (by omega)]
      simp [bs]
    · simp only [Lt.fine, inI]
      exact ⟨⟨by omega, by omega⟩, by omega, by omega, by omega, fun h => absurd (by omega) hk, fun _ => trivial⟩
theorem kb_toNat {k : Int} (h : 0 ≤ k ∧ k < 256) : (((kb k).toNat : Nat) : Int) = k := toNat_kb h
theorem nat_int {n : Int} (h : 0 ≤ n) : ((n.toNat : Nat) : Int) = n := by omega
theorem rLet_to {k fm tt n : Int} {t : ByteArray} {v : V} (h : Lt.Right k fm tt n t v) (hf : inI fm) (ht : inI tt) (hok : v.ok) (hlen : v.bytes.length ≤ 9223372036854775807) (r : List UInt8) (d : Nat) (hd : d = 0) : rLet ⟨(Lt.mk k fm tt n t v).bytes ++ r, false, d⟩ = (.mk k fm tt n t v, ⟨r, false, d⟩) := by
  subst hd
  unfold inI at hf ht
  have hk := kb_toNat (k := k) ⟨by have := h.k1; omega, by have := h.k1; omega⟩
  have hn := h.n0
  have hs := h.size
  have hb : rByte ⟨(Lt.mk k fm tt n t v).bytes ++ r, false, 0⟩ = ((kb k).toNat, ⟨uv fm.toNat ++ (uv tt.toNat ++ (uv n.toNat ++ (uv t.size ++ (t.data.toList ++ ((if k = 1 then v.bytes else []) ++ r))))), false, 0⟩) := by
    simp only [Lt.bytes, rByte, List.cons_append, List.append_assoc]
  have ht5 : rText ⟨uv t.size ++ (t.data.toList ++ ((if k = 1 then v.bytes else []) ++ r)), false, 0⟩ = (t.data.toList, ⟨(if k = 1 then v.bytes else []) ++ r, false, 0⟩) := by
    have := rText_to t.data.toList ((if k = 1 then v.bytes else []) ++ r) 0 (by rw [sz_len]; omega)
    rwa [sz_len] at this
  unfold rLet
  simp only [hb]
  rw [rNat_to fm.toNat _ 0 (by omega)]
  dsimp only
  rw [rNat_to tt.toNat _ 0 (by omega)]
  dsimp only
  rw [rNat_to n.toNat _ 0 (by omega)]
  dsimp only
  simp only [ht5, hk, nat_int h.fm0, nat_int h.tt0, nat_int hn.1, bs_self]
  by_cases h1 : k = 1
  · have h1' : (kb k).toNat = 1 := by omega
    rw [if_pos h1', if_pos h1]
    obtain ⟨c1, c2, c3, c4⟩ := check_ok (h.val h1)
    rw [rVal_to v 40 0 r hok c4 hlen c2 (by omega)]
  · have h1' : ¬ (kb k).toNat = 1 := by omega
    rw [if_neg h1', if_neg h1, h.zero h1]
    rfl
def tLet (s : TS) : Lt × TS :=
  let p1 := tOne s
  let p2 := tNat p1.2
  let p3 := tNat p2.2
  let p4 := tNat p3.2
  let p5 := tText p4.2
  if p1.1 = 1 ∧ p5.2.ok = true then (.mk p1.1 p2.1 p3.1 p4.1 (bs p5.1) (tWhole p5.2).1, (tWhole p5.2).2) else (.mk p1.1 p2.1 p3.1 p4.1 (bs p5.1) V.zero, p5.2)
theorem tWhole_to (v : V) (r : List UInt8) (hok : v.ok) (h : v.check = 0) : tWhole ⟨v.bytes ++ r, true⟩ = (v, ⟨r, true⟩) := by
  obtain ⟨c1, c2, c3, c4⟩ := check_ok h
  have ht := tVal_to v 40 0 1 r 400 hok c4 c3 c2 rfl (by omega) (by omega)
  unfold tWhole
  rw [ht]
theorem tLet_to {k fm tt n : Int} {t : ByteArray} {v : V} (h : Lt.Right k fm tt n t v) (hf : inI fm) (ht : inI tt) (hok : v.ok) (r : List UInt8) : tLet ⟨(Lt.mk k fm tt n t v).bytes ++ r, true⟩ = (.mk k fm tt n t v, ⟨r, true⟩) := by
  unfold inI at hf ht
  have hk := kb_toNat (k := k) ⟨by have := h.k1; omega, by have := h.k1; omega⟩
  have hn := h.n0
  have hs := h.size
  have hb : tOne ⟨(Lt.mk k fm tt n t v).bytes ++ r, true⟩ = ((kb k).toNat, ⟨uv fm.toNat ++ (uv tt.toNat ++ (uv n.toNat ++ (uv t.size ++ (t.data.toList ++ ((if k = 1 then v.bytes else []) ++ r))))), true⟩) := by
    simp only [Lt.bytes, tOne, List.cons_append, List.append_assoc]
  have ht5 : tText ⟨uv t.size ++ (t.data.toList ++ ((if k = 1 then v.bytes else []) ++ r)), true⟩ = (t.data.toList, ⟨(if k = 1 then v.bytes else []) ++ r, true⟩) := by
    have := tText_to t.data.toList ((if k = 1 then v.bytes else []) ++ r) (by rw [sz_len]; omega)
    rwa [sz_len] at this
  unfold tLet
  simp only [hb]
  rw [tNat_to fm.toNat _ (by omega)]
  dsimp only
  rw [tNat_to tt.toNat _ (by omega)]
  dsimp only
  rw [tNat_to n.toNat _ (by omega)]
  dsimp only
  simp only [ht5, hk, nat_int h.fm0, nat_int h.tt0, nat_int hn.1, bs_self]
  by_cases h1 : k = 1
  · have h1' : (kb k).toNat = 1 := by omega
    rw [if_pos ⟨h1', trivial⟩, if_pos h1, tWhole_to v r hok (h.val h1)]
  · have h1' : ¬ ((kb k).toNat = 1 ∧ True) := fun h => h1 (by omega)
    rw [if_neg h1', if_neg h1, h.zero h1]
    rfl
def Lt.out (x : Lt) : List UInt8 := if x.check = 0 then x.bytes else []
def Lt.zero : Lt := .mk 0 0 0 0 ⟨#[]⟩ V.zero
def rdL (l : List UInt8) : Lt × Int := if (!(rLet ⟨l, false, 0⟩).2.bad && decide ((rLet ⟨l, false, 0⟩).2.l = [])) && decide ((rLet ⟨l, false, 0⟩).1.check = 0) then ((rLet ⟨l, false, 0⟩).1, 0) else (Lt.zero, 3)
def rdLet (l : List UInt8) : Lt × Int := if 2097152 < l.length then (Lt.zero, 2) else rdL l
def tdL (l : List UInt8) : Lt × Int := if (((tLet ⟨l, true⟩).2.ok && !decide (0 < (tLet ⟨l, true⟩).2.l.length)) && decide ((tLet ⟨l, true⟩).1.check = 0)) && decide (bs (tLet ⟨l, true⟩).1.out = bs l) then ((tLet ⟨l, true⟩).1, 0) else (Lt.zero, 3)
def tdLet (l : List UInt8) : Lt × Int := if 2097152 < l.length then (Lt.zero, 2) else tdL l
/-- what was taken is small -/
structure Lt.Small (x : Lt) : Prop where
  ok : x.val.ok
  size : x.val.size ≤ 1048576
  bytes : x.val.bytes.length ≤ 1000000000
  nums : match x with | .mk _ fm tt n t _ => inI fm ∧ inI tt ∧ inI n ∧ t.size ≤ 1000000000
theorem zero_small : V.zero.ok ∧ V.zero.size ≤ 1048576 ∧ V.zero.bytes.length ≤ 1000000000 := by
  obtain ⟨h1, h2, h3⟩ := zero_fair
  have h4 := V.bytes_len V.zero h1 (by omega) (by omega)
  exact ⟨h1, by omega, by omega⟩
theorem tLet_small (s : TS) : (tLet s).1.Small := by
  unfold tLet
  dsimp only
  have n1 := tNat_lt (tOne s).2
  have n2 := tNat_lt (tNat (tOne s).2).2
  have n3 := tNat_lt (tNat (tNat (tOne s).2).2).2
  have n4 := tText_len (tNat (tNat (tNat (tOne s).2).2).2).2
  obtain ⟨f1, f2, f3⟩ := tWhole_fair (tText (tNat (tNat (tNat (tOne s).2).2).2).2).2
  generalize tText (tNat (tNat (tNat (tOne s).2).2).2).2 = p5 at *
  generalize tNat (tNat (tNat (tOne s).2).2).2 = p4 at *
  generalize tNat (tNat (tOne s).2).2 = p3 at *
  generalize tNat (tOne s).2 = p2 at *
  obtain ⟨z1, z2, z3⟩ := zero_small
  split
  · exact ⟨f1, by simp only [Lt.val]; omega, by simp only [Lt.val]; omega, by simp only [inI, bs_size']; omega⟩
  · exact ⟨z1, z2, z3, by simp only [inI, bs_size']; omega⟩
theorem rLet_ok' (s : RS) (h : (rLet s).2.bad = false) : s = ⟨(rLet s).1.bytes ++ (rLet s).2.l, false, (rLet s).2.dep⟩ ∧ (rLet s).1.fine := rLet_ok s (rLet s).1 (rLet s).2 rfl h
theorem zero_ok : V.zero.ok ∧ V.zero.bytes.length ≤ 9223372036854775807 := ⟨zero_small.1, by have := zero_small.2.2; omega⟩
theorem same_let (l : List UInt8) (hl : l.length ≤ 2097152) : rdL l = tdL l := by
  by_cases h1 : ((!(rLet ⟨l, false, 0⟩).2.bad && decide ((rLet ⟨l, false, 0⟩).2.l = [])) && decide ((rLet ⟨l, false, 0⟩).1.check = 0)) = true
  · have hr : rdL l = ((rLet ⟨l, false, 0⟩).1, 0) := by unfold rdL; rw [if_pos h1]
    rw [hr]
    simp only [Bool.and_eq_true, Bool.not_eq_true', decide_eq_true_eq] at h1
    obtain ⟨⟨a1, a2⟩, a3⟩ := h1
    obtain ⟨b1, b2⟩ := rLet_ok' _ a1
    generalize rLet ⟨l, false, 0⟩ = q at *
    obtain ⟨x, s⟩ := q
    dsimp only at a1 a2 a3 b1 b2 ⊢
    rw [a2, List.append_nil] at b1
    have hlv : l = x.bytes := by injection b1
    obtain ⟨k, fm, tt, n, t, v⟩ := x
    have hR := Lt.right a3
    simp only [Lt.fine] at b2
    obtain ⟨-, i1, i2, i3, i4, i5⟩ := b2
    have hok : v.ok := by
      by_cases hk : k = 1
      · exact (i4 hk).1
      · rw [i5 hk]; exact zero_ok.1
    have ht := tLet_to hR i1 i2 hok []
    rw [List.append_nil, ← hlv] at ht
    unfold tdL
    rw [ht]
    dsimp only
    rw [if_pos]
    simp only [Bool.and_eq_true, decide_eq_true_eq]
    refine ⟨⟨⟨trivial, by simp⟩, a3⟩, ?_⟩
    rw [Lt.out, if_pos a3, hlv]
  · have hr : rdL l = (Lt.zero, 3) := by unfold rdL; rw [if_neg h1]
    rw [hr]
    unfold tdL
    split
    · rename_i h2
      exfalso
      apply h1
      simp only [Bool.and_eq_true, decide_eq_true_eq] at h2
      obtain ⟨⟨⟨a1, a2⟩, a3⟩, a4⟩ := h2
      have hsm := tLet_small ⟨l, true⟩
      generalize tLet ⟨l, true⟩ = q at *
      obtain ⟨x, s⟩ := q
      dsimp only at a1 a2 a3 a4 hsm
      rw [Lt.out, if_pos a3] at a4
      have hlv := bs_inj a4
      obtain ⟨k, fm, tt, n, t, v⟩ := x
      obtain ⟨s1, s2, s3, s4⟩ := hsm
      simp only [Lt.val] at s1 s2 s3
      have ht := rLet_to (Lt.right a3) s4.1 s4.2.1 s1 (by omega) [] 0 rfl
      rw [List.append_nil, hlv] at ht
      rw [ht]
      simp [a3]
    · rfl
theorem same_letter (l : List UInt8) : rdLet l = tdLet l := by
  unfold rdLet tdLet
  split
  · rfl
  · exact same_let l (by omega)
end Go.Proofs.YthgackidonocpaaGreat
namespace Go.Proofs.YthgackidonocpaaGreat
open Go.RowKit
set_option maxRecDepth 100000 in
set_option maxHeartbeats 8000000 in
theorem isZero_af (v : V) : AF Tryz.prog 92 [v.t] (· = .lit (.bool v.isZ)) := by
  obtain ⟨k, n, t, l⟩ := v
  refine af_enter tok Tryz.func92 Tryz.ntmps92 Tryz.results92 rfl (by kernel_rfl) rfl rfl fun F hX => ?_
  cases d1 : decide (k = 0)
  · repeat (first | refine gG ?_ | refine zN1 (fun hlen => ?_) | refine zN2 (fun hlen => ?_) | refine zBf ?_)
    first | refine zR ?_ | refine zQ ?_
    simp only [V.isZ, d1]; rfl
  cases d2 : decide (n = 0)
  · repeat (first | refine gG ?_ | refine zN1 (fun hlen => ?_) | refine zN2 (fun hlen => ?_) | refine zBf ?_)
    first | refine zR ?_ | refine zQ ?_
    simp only [V.isZ, d1, d2]; rfl
  cases d3 : decide (t = ⟨#[]⟩)
  · repeat (first | refine gG ?_ | refine zN1 (fun hlen => ?_) | refine zN2 (fun hlen => ?_) | refine zBf ?_)
    first | refine zR ?_ | refine zQ ?_
    simp only [V.isZ, d1, d2, d3]; rfl
  repeat (first | refine gG ?_ | refine zN1 (fun hlen => ?_) | refine zN2 (fun hlen => ?_) | refine zBf ?_)
  first | refine zR ?_ | refine zQ ?_
  simp only [V.isZ, d1, d2, d3]; rfl
set_option maxRecDepth 100000 in
set_option maxHeartbeats 8000000 in
theorem none_af (v : V) : AF Tryz.prog 80 [v.t] (· = .lit (.bool v.isZ)) := by
  obtain ⟨k, n, t, l⟩ := v
  refine af_enter tok Tryz.func80 Tryz.ntmps80 Tryz.results80 rfl (by kernel_rfl) rfl rfl fun F hX => ?_
  cases d1 : decide (k = 0)
  · repeat (first | refine gG ?_ | refine zN1 (fun hlen => ?_) | refine zN2 (fun hlen => ?_) | refine zBf ?_)
    first | refine zR ?_ | refine zQ ?_
    simp only [V.isZ, d1]; rfl
  cases d2 : decide (n = 0)
  · repeat (first | refine gG ?_ | refine zN1 (fun hlen => ?_) | refine zN2 (fun hlen => ?_) | refine zBf ?_)
    first | refine zR ?_ | refine zQ ?_
    simp only [V.isZ, d1, d2]; rfl
  cases d3 : decide (t = ⟨#[]⟩)
  · repeat (first | refine gG ?_ | refine zN1 (fun hlen => ?_) | refine zN2 (fun hlen => ?_) | refine zBf ?_)
    first | refine zR ?_ | refine zQ ?_
    simp only [V.isZ, d1, d2, d3]; rfl
  repeat (first | refine gG ?_ | refine zN1 (fun hlen => ?_) | refine zN2 (fun hlen => ?_) | refine zBf ?_)
  first | refine zR ?_ | refine zQ ?_
  simp only [V.isZ, d1, d2, d3]; rfl
set_option maxRecDepth 100000 in
set_option maxHeartbeats 8000000 in
theorem checkLetter_af (x : Lt) : AF Tryz.prog 65 [x.t] (· = .lit (.int .i64 x.check)) := by
  obtain ⟨k, fm, tt, n, t, v⟩ := x
  have h1 := check_af v
  have h2 := isZero_af v
  simp only [Lt.check]
  generalize v.check = cv at *
  generalize v.isZ = zv at *
  obtain ⟨kv, nv, tv, lv⟩ := v
  refine af_enter tok Tryz.func65 Tryz.ntmps65 Tryz.results65 rfl (by kernel_rfl) rfl rfl fun F hX => ?_
  refine ac_seq ?_
  refine ac_region ?_
  repeat (first | refine gO ?_ | refine zN1 (fun hlen => ?_) | refine zN2 (fun hlen => ?_) | refine zBf ?_)
  refine ac_seq ?_
  refine x_join [4, 5, 6, 7, 8, 9, 10, 11, 3] (fun y : {y : Bool // y = (decide (k = 2) || decide (k = 5))} => [(3, .c (.lit (.bool y.1)))]) (fun _ => []) ?_ ?_
  rotate_left
  · cases qK2 : decide (k = 2)
    · refine ac_region ?_
      repeat (first | refine gO ?_ | refine zN1 (fun hlen => ?_) | refine zN2 (fun hlen => ?_) | refine zBx (fun _ => ?_))
      exact ⟨⟨decide (k = 5), rfl⟩, x_wkd 0 ⟨rfl, trivial⟩ rfl (by repeat (first | exact ag_refl | refine ag_upd rfl ?_ | refine ag_at rfl rfl ?_))⟩
    · refine ac_region ?_
      repeat (first | refine gO ?_ | refine zN1 (fun hlen => ?_) | refine zN2 (fun hlen => ?_) | refine zBx (fun _ => ?_))
      exact ⟨⟨true, rfl⟩, x_wkd 0 ⟨rfl, trivial⟩ rfl (by repeat (first | exact ag_refl | refine ag_upd rfl ?_ | refine ag_at rfl rfl ?_))⟩
  rintro ⟨tx, htx⟩
  dsimp only
  refine ac_seq ?_
  refine ac_block ?_
  refine ac_seq ?_
  refine ac_region ?_
  repeat (first | refine gO ?_ | refine zN1 (fun hlen => ?_) | refine zN2 (fun hlen => ?_) | refine zBx (fun _ => ?_))
  refine x_cond rfl (fun qA => ?_) (fun qA => ?_)
  · repeat (first | refine gG ?_ | refine zN1 (fun hlen => ?_) | refine zN2 (fun hlen => ?_) | refine zBx (fun _ => ?_))
    first | refine zR ?_ | refine zQ ?_
    rw [if_pos qA]; rfl
  rw [if_neg (by rw [qA]; decide)]
  refine ac_seq ?_
  refine x_join [18, 19, 20, 21, 22, 23, 24, 25, 26, 27, 28, 29, 30, 31, 32, 33, 34, 35, 36, 37, 38, 39, 40, 41, 42, 43, 44, 45, 46, 47, 48, 49, 50, 51, 52, 53, 54, 55, 56, 57, 58, 59, 60, 61, 62, 63, 64, 17] (fun y : {y : Bool // y = Lt.bad1 k fm tt n t} => [(17, .c (.lit (.bool y.1)))]) (fun _ => []) ?_ ?_
  rotate_left
  · skip
    cases qF : decide (fm < 0)
    · skip
      cases qT : decide (tt < 0)
      · skip
        cases qK1 : decide (k < 1)
        · skip
          cases qK5x : decide ((5 : Int) < k)
          · skip
            cases qE : decide (t = ⟨#[]⟩)
            · skip
              cases qTX : tx
              · skip
                refine ac_region ?_
                repeat (first | refine gO ?_ | refine zN1 (fun hlen => ?_) | refine zN2 (fun hlen => ?_) | refine zBx (fun _ => ?_))
                exact ⟨⟨true, by rw [Lt.bad1, ← htx, qTX]; simp only [qF, qT, qK1, qK5x, qE]; first | rfl | simp⟩, x_wkd 0 ⟨rfl, trivial⟩ rfl (by repeat (first | exact ag_refl | refine ag_upd rfl ?_ | refine ag_at rfl rfl ?_))⟩
              · skip
                cases qN0 : decide (n = 0)
                · skip
                  cases qK2 : decide (k = 2)
                  · skip
                    refine ac_region ?_
                    repeat (first | refine gO ?_ | refine zN1 (fun hlen => ?_) | refine zN2 (fun hlen => ?_) | refine zBx (fun _ => ?_))
                    exact ⟨⟨true, by rw [Lt.bad1, ← htx, qTX]; simp only [qF, qT, qK1, qK5x, qE, qN0, qK2]; first | rfl | simp⟩, x_wkd 0 ⟨rfl, trivial⟩ rfl (by repeat (first | exact ag_refl | refine ag_upd rfl ?_ | refine ag_at rfl rfl ?_))⟩
                  · skip
                    cases qNn : decide (n < 0)
                    · skip
                      refine ac_region ?_
                      repeat (first | refine gO ?_ | refine zN1 (fun hlen => ?_) | refine zN2 (fun hlen => ?_) | refine zBx (fun _ => ?_))
                      exact ⟨⟨decide ((2 : Int) < n), by rw [Lt.bad1, ← htx, qTX]; simp only [qF, qT, qK1, qK5x, qE, qN0, qK2, qNn]; first | rfl | simp⟩, x_wkd 0 ⟨rfl, trivial⟩ rfl (by repeat (first | exact ag_refl | refine ag_upd rfl ?_ | refine ag_at rfl rfl ?_))⟩
                    · skip
                      refine ac_region ?_
                      repeat (first | refine gO ?_ | refine zN1 (fun hlen => ?_) | refine zN2 (fun hlen => ?_) | refine zBx (fun _ => ?_))
                      exact ⟨⟨true, by rw [Lt.bad1, ← htx, qTX]; simp only [qF, qT, qK1, qK5x, qE, qN0, qK2, qNn]; first | rfl | simp⟩, x_wkd 0 ⟨rfl, trivial⟩ rfl (by repeat (first | exact ag_refl | refine ag_upd rfl ?_ | refine ag_at rfl rfl ?_))⟩
                · skip
                  cases qNn : decide (n < 0)
                  · skip
                    refine ac_region ?_
                    repeat (first | refine gO ?_ | refine zN1 (fun hlen => ?_) | refine zN2 (fun hlen => ?_) | refine zBx (fun _ => ?_))
                    exact ⟨⟨decide ((2 : Int) < n), by rw [Lt.bad1, ← htx, qTX]; simp only [qF, qT, qK1, qK5x, qE, qN0, qNn]; first | rfl | simp⟩, x_wkd 0 ⟨rfl, trivial⟩ rfl (by repeat (first | exact ag_refl | refine ag_upd rfl ?_ | refine ag_at rfl rfl ?_))⟩
                  · skip
                    refine ac_region ?_
                    repeat (first | refine gO ?_ | refine zN1 (fun hlen => ?_) | refine zN2 (fun hlen => ?_) | refine zBx (fun _ => ?_))
                    exact ⟨⟨true, by rw [Lt.bad1, ← htx, qTX]; simp only [qF, qT, qK1, qK5x, qE, qN0, qNn]; first | rfl | simp⟩, x_wkd 0 ⟨rfl, trivial⟩ rfl (by repeat (first | exact ag_refl | refine ag_upd rfl ?_ | refine ag_at rfl rfl ?_))⟩
            · skip
              cases qN0 : decide (n = 0)
              · skip
                cases qK2 : decide (k = 2)
                · skip
                  refine ac_region ?_
                  repeat (first | refine gO ?_ | refine zN1 (fun hlen => ?_) | refine zN2 (fun hlen => ?_) | refine zBx (fun _ => ?_))
                  exact ⟨⟨true, by rw [Lt.bad1, ← htx]; simp only [qF, qT, qK1, qK5x, qE, qN0, qK2]; first | rfl | simp⟩, x_wkd 0 ⟨rfl, trivial⟩ rfl (by repeat (first | exact ag_refl | refine ag_upd rfl ?_ | refine ag_at rfl rfl ?_))⟩
                · skip
                  cases qNn : decide (n < 0)
                  · skip
                    refine ac_region ?_
                    repeat (first | refine gO ?_ | refine zN1 (fun hlen => ?_) | refine zN2 (fun hlen => ?_) | refine zBx (fun _ => ?_))
                    exact ⟨⟨decide ((2 : Int) < n), by rw [Lt.bad1, ← htx]; simp only [qF, qT, qK1, qK5x, qE, qN0, qK2, qNn]; first | rfl | simp⟩, x_wkd 0 ⟨rfl, trivial⟩ rfl (by repeat (first | exact ag_refl | refine ag_upd rfl ?_ | refine ag_at rfl rfl ?_))⟩
                  · skip
                    refine ac_region ?_
                    repeat (first | refine gO ?_ | refine zN1 (fun hlen => ?_) | refine zN2 (fun hlen => ?_) | refine zBx (fun _ => ?_))
                    exact ⟨⟨true, by rw [Lt.bad1, ← htx]; simp only [qF, qT, qK1, qK5x, qE, qN0, qK2, qNn]; first | rfl | simp⟩, x_wkd 0 ⟨rfl, trivial⟩ rfl (by repeat (first | exact ag_refl | refine ag_upd rfl ?_ | refine ag_at rfl rfl ?_))⟩
              · skip
                cases qNn : decide (n < 0)
                · skip
                  refine ac_region ?_
                  repeat (first | refine gO ?_ | refine zN1 (fun hlen => ?_) | refine zN2 (fun hlen => ?_) | refine zBx (fun _ => ?_))
                  exact ⟨⟨decide ((2 : Int) < n), by rw [Lt.bad1, ← htx]; simp only [qF, qT, qK1, qK5x, qE, qN0, qNn]; first | rfl | simp⟩, x_wkd 0 ⟨rfl, trivial⟩ rfl (by repeat (first | exact ag_refl | refine ag_upd rfl ?_ | refine ag_at rfl rfl ?_))⟩
                · skip
                  refine ac_region ?_
                  repeat (first | refine gO ?_ | refine zN1 (fun hlen => ?_) | refine zN2 (fun hlen => ?_) | refine zBx (fun _ => ?_))
                  exact ⟨⟨true, by rw [Lt.bad1, ← htx]; simp only [qF, qT, qK1, qK5x, qE, qN0, qNn]; first | rfl | simp⟩, x_wkd 0 ⟨rfl, trivial⟩ rfl (by repeat (first | exact ag_refl | refine ag_upd rfl ?_ | refine ag_at rfl rfl ?_))⟩
          · skip
            refine ac_region ?_
            repeat (first | refine gO ?_ | refine zN1 (fun hlen => ?_) | refine zN2 (fun hlen => ?_) | refine zBx (fun _ => ?_))
            exact ⟨⟨true, by rw [Lt.bad1, ← htx]; simp only [qF, qT, qK1, qK5x]; first | rfl | simp⟩, x_wkd 0 ⟨rfl, trivial⟩ rfl (by repeat (first | exact ag_refl | refine ag_upd rfl ?_ | refine ag_at rfl rfl ?_))⟩
        · skip
          refine ac_region ?_
          repeat (first | refine gO ?_ | refine zN1 (fun hlen => ?_) | refine zN2 (fun hlen => ?_) | refine zBx (fun _ => ?_))
          exact ⟨⟨true, by rw [Lt.bad1, ← htx]; simp only [qF, qT, qK1]; first | rfl | simp⟩, x_wkd 0 ⟨rfl, trivial⟩ rfl (by repeat (first | exact ag_refl | refine ag_upd rfl ?_ | refine ag_at rfl rfl ?_))⟩
      · skip
        refine ac_region ?_
        repeat (first | refine gO ?_ | refine zN1 (fun hlen => ?_) | refine zN2 (fun hlen => ?_) | refine zBx (fun _ => ?_))
        exact ⟨⟨true, by rw [Lt.bad1, ← htx]; simp only [qF, qT]; first | rfl | simp⟩, x_wkd 0 ⟨rfl, trivial⟩ rfl (by repeat (first | exact ag_refl | refine ag_upd rfl ?_ | refine ag_at rfl rfl ?_))⟩
    · skip
      refine ac_region ?_
      repeat (first | refine gO ?_ | refine zN1 (fun hlen => ?_) | refine zN2 (fun hlen => ?_) | refine zBx (fun _ => ?_))
      exact ⟨⟨true, by rw [Lt.bad1, ← htx]; simp only [qF]; first | rfl | simp⟩, x_wkd 0 ⟨rfl, trivial⟩ rfl (by repeat (first | exact ag_refl | refine ag_upd rfl ?_ | refine ag_at rfl rfl ?_))⟩
  rintro ⟨bd, hbd⟩
  dsimp only
  rw [← hbd]
  cases bd
  rotate_left
  · repeat (first | refine gG ?_ | refine zN1 (fun hlen => ?_) | refine zN2 (fun hlen => ?_) | refine zBx (fun _ => ?_))
    first | refine zR ?_ | refine zQ ?_
    rfl
  cases qKM : decide (k = 1)
  · repeat (first | refine gG ?_ | refine zN1 (fun hlen => ?_) | refine zN2 (fun hlen => ?_) | refine zBx (fun _ => ?_))
    refine zCall (h2) ?_
    rintro _ rfl
    cases zv
    · repeat (first | refine gG ?_ | refine zN1 (fun hlen => ?_) | refine zN2 (fun hlen => ?_) | refine zBx (fun _ => ?_))
      first | refine zR ?_ | refine zQ ?_
      rfl
    · repeat (first | refine gG ?_ | refine zN1 (fun hlen => ?_) | refine zN2 (fun hlen => ?_) | refine zBx (fun _ => ?_))
      first | refine zR ?_ | refine zQ ?_
      rfl
  · repeat (first | refine gG ?_ | refine zN1 (fun hlen => ?_) | refine zN2 (fun hlen => ?_) | refine zBx (fun _ => ?_))
    refine zCall (h1) ?_
    rintro _ rfl
    repeat (first | refine gG ?_ | refine zN1 (fun hlen => ?_) | refine zN2 (fun hlen => ?_) | refine zBx (fun _ => ?_))
    first | refine zR ?_ | refine zQ ?_
    rfl
end Go.Proofs.YthgackidonocpaaGreat
