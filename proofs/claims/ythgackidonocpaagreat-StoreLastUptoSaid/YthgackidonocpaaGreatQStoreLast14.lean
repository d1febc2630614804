/-
  Texts of this proof, part 14: Tqr Tqt.
-/
import Derived.Test.YthgackidonocpaaGreatQStoreLast13
import Derived.MapKept
namespace Go.Proofs.YthgackidonocpaaGreat
open Go.RowKit
def rLetG (g : RS → V × RS) (s : RS) : Lt × RS := if (rByte s).1 = 1 then (.mk (rByte s).1 (rNat (rByte s).2).1 (rNat (rNat (rByte s).2).2).1 (rNat (rNat (rNat (rByte s).2).2).2).1 (bs (rText (rNat (rNat (rNat (rByte s).2).2).2).2).1) (g (rText (rNat (rNat (rNat (rByte s).2).2).2).2).2).1, (g (rText (rNat (rNat (rNat (rByte s).2).2).2).2).2).2) else (.mk (rByte s).1 (rNat (rByte s).2).1 (rNat (rNat (rByte s).2).2).1 (rNat (rNat (rNat (rByte s).2).2).2).1 (bs (rText (rNat (rNat (rNat (rByte s).2).2).2).2).1) V.zero, (rText (rNat (rNat (rNat (rByte s).2).2).2).2).2)
theorem rLetG_fair {g : RS → V × RS} (hv : Fair g) : Fair (rLetG g) := by
  have hl : ∀ s, (rText (rNat (rNat (rNat (rByte s).2).2).2).2).2.l.length ≤ s.l.length := fun s => Nat.le_trans (rText_len _) (Nat.le_trans (rNat_len _) (Nat.le_trans (rNat_len _) (Nat.le_trans (rNat_len _) (rByte_len s))))
  have hd : ∀ s, (rText (rNat (rNat (rNat (rByte s).2).2).2).2).2.dep = s.dep := fun s => by rw [rText_dep, rNat_dep, rNat_dep, rNat_dep, rByte_dep]
  refine ⟨fun s => ?_, fun s h => ?_, fun s => ?_, fun s => ?_⟩
  · unfold rLetG
    split
    · exact Nat.le_trans (hv.len _) (hl s)
    · exact hl s
  · unfold rLetG at h ⊢
    split
    · rename_i hc
      rw [if_pos hc] at h
      exact (hv.dep _ h).trans (hd s)
    · exact hd s
  · unfold rLetG
    split
    · have := hv.up (rText (rNat (rNat (rNat (rByte s).2).2).2).2).2; rw [hd] at this; exact this
    · exact Nat.le_of_eq (hd s).symm
  · unfold rLetG
    split
    · have := hv.top (rText (rNat (rNat (rNat (rByte s).2).2).2).2).2; rw [hd] at this; exact this
    · dsimp only; rw [hd]; exact Nat.le_succ _
theorem rLet_fair : Fair rLet := by
  have h := rLetG_fair (rVal_fair 40)
  have e : rLet = rLetG (rVal 40) := by
    funext s
    unfold rLet rLetG
    rfl
  rw [e]; exact h
theorem rNatI_fair : Fair rNatI :=
  ⟨fun s => rNat_len s, fun s _ => rNat_dep s, fun s => Nat.le_of_eq (rNat_dep s).symm, fun s => by show (rNat s).2.dep ≤ _; rw [rNat_dep]; exact Nat.le_succ _⟩
theorem rSav_len (s : RS) : (rSav s).2.l.length ≤ s.l.length := by
  have h1 := (rSome_fair rInp_fair).len (rSome (rVal 40) (rText s).2).2
  have h2 := (rSome_fair (rVal_fair 40)).len (rText s).2
  have h3 := rText_len s
  unfold rSav
  dsimp only
  omega
theorem rSav_top (s : RS) : (rSav s).2.dep ≤ s.dep + 2 := by
  have h1 := (rSome_fair rInp_fair).top (rSome (rVal 40) (rText s).2).2
  have h2 := (rSome_fair (rVal_fair 40)).top (rText s).2
  rw [rText_dep] at h2
  unfold rSav
  dsimp only
  omega
set_option maxRecDepth 100000 in
set_option maxHeartbeats 2000000 in
theorem someL_ag (b D : Nat) (g : RS → Lt × RS) (hfg : Fair g) (f : FuncId) (hg : ∀ s : RS, s.dep = D → s.l.length ≤ 1099511627776 → AG Tryz.prog f [.ptr 0 b 0] [rdB b s] (Gives b (.agg (Lt.ts (g s).1)) (g s).2))
    (s : RS) (hs : s.dep = D) (hl : s.l.length ≤ 1099511627776) :
    AG Tryz.prog 84 [.ptr 0 b 0, .own 0 (bfn f b 0)] [rdB b s] (Gives b (letRow (rSome g s).1) (rSome g s).2) := by
  have hc := countR_ag b s
  have hcl := rCount_len s
  have hcn := rCount_le s
  have hcd := rCount_dep s
  unfold rSome
  generalize rCount s = p at *
  obtain ⟨n0, s0⟩ := p
  dsimp only at hc hcl hcn hcd ⊢
  refine ag_enter 1 tok Tryz.func84 Tryz.ntmps84 Tryz.results84 rfl (by kernel_rfl) rfl fun F => ?_
  repeat (first | refine gG ?_ | refine zAp (fun _ => ?_))
  refine zCallG [0] hc ?_
  rintro _ _ ⟨rfl, rfl⟩
  refine ⟨_, _, re_refl, rfl, rfl, ?_⟩
  repeat (first | refine gG ?_ | refine zAp (fun _ => ?_))
  refine x_own 5 63 9 rfl rfl rfl rfl rfl ?_
  refine x_loop [5, 6, 9, 10, 11, 12, 13, 14, 15, 16, 17, 18, 19, 20, 21, 22, 23, 24] (fun y : Nat × List Lt × Value × RS => [(6, .c (.lit (.int .i64 (y.1 : Int)))), (5, .own 1 y.2.2.1)]) (fun y => [rdB b y.2.2.2, .row y.2.2.1 63 9 y.2.1.length (y.2.1.flatMap Lt.ts)])
    (fun y => (y.2.2.2.bad = false → y.2.2.2.dep = D) ∧ (y.2.1 ++ (rLoop g y.1 y.2.2.2).1, (rLoop g y.1 y.2.2.2).2) = rLoop g n0 s0 ∧ y.2.1.length + y.1 ≤ 1099511627776 ∧ y.2.2.2.l.length ≤ 1099511627776) (fun y => y.1) (n0, [], .slice none 0 0, s0) ⟨fun _ => hcd.trans hs, by simp, by simp only [List.length_nil]; omega, by simp only; omega⟩ ⟨rfl, rfl, trivial⟩ rfl ?_
  rintro ⟨n, out, v, s'⟩ ⟨hd, hinv, hlen, hsl⟩
  dsimp only at hd hinv hlen hsl ⊢
  cases n with
  | zero =>
    have d1 : decide ((0 : Int) < ((0 : Nat) : Int)) = false := rfl
    simp only [rLoop, List.append_nil] at hinv
    refine x_fz 5 rfl rfl rfl rfl ?_
    repeat (first | refine gG ?_ | refine zAp (fun _ => ?_))
    refine zG ?_
    rw [← hinv]
    exact ⟨rfl, rfl⟩
  | succ n =>
    have d1 : decide ((0 : Int) < ((n + 1 : Nat) : Int)) = true := decide_eq_true (by omega)
    obtain ⟨l1, bad1, dp1⟩ := s'
    cases bad1
    · have hdd := hd rfl
      have hca := hg ⟨l1, false, dp1⟩ hdd hsl
      have hgl := hfg.len ⟨l1, false, dp1⟩
      have hgd := hfg.dep ⟨l1, false, dp1⟩
      simp only [rLoop, Bool.false_eq_true, if_false] at hinv
      dsimp only at hdd hgl hgd
      generalize g ⟨l1, false, dp1⟩ = q at *
      obtain ⟨⟨ka, fa, ta, na, sa, ⟨kv, nv, tv, lv⟩⟩, s2⟩ := q
      dsimp only at hinv hca hgl hgd
      repeat (first | refine gG ?_ | refine zAp (fun _ => ?_))
      refine zCallGb [0] hca ?_
      rintro _ _ ⟨rfl, rfl⟩
      refine ⟨_, _, re_refl, rfl, rfl, ?_⟩
      repeat (first | refine gG ?_ | refine zAp (fun _ => ?_))
      refine lo_sub rfl rfl (r := (n : Int)) (by rw [IntWalk.i64_in _ (by omega)]; omega) ?_
      repeat (first | refine gG ?_ | refine zAp (fun _ => ?_))
      exact ⟨(n, out ++ [⟨ka, fa, ta, na, sa, ⟨kv, nv, tv, lv⟩⟩], _, s2), ⟨fun h => (hgd h).trans hdd, by simpa using hinv, by simp only [List.length_append, List.length_cons, List.length_nil]; omega, by simp only at hsl ⊢; omega⟩, by simp only; omega, x_wkd 2 ⟨rfl, rfl, trivial⟩ (by simp only [List.flatMap_append, List.flatMap_cons, List.flatMap_nil, List.append_nil, List.length_append, List.length_cons, List.length_nil]; rfl) (by repeat (first | exact ag_refl | refine ag_upd rfl ?_ | refine ag_at rfl rfl ?_))⟩
    · simp only [rLoop, if_true, List.append_nil] at hinv
      refine x_fz 5 rfl rfl rfl rfl ?_
      repeat (first | refine gG ?_ | refine zAp (fun _ => ?_))
      refine zG ?_
      rw [← hinv]
      exact ⟨rfl, rfl⟩
set_option maxRecDepth 100000 in
set_option maxHeartbeats 2000000 in
theorem someN_ag (b D : Nat) (g : RS → Int × RS) (hfg : Fair g) (f : FuncId) (hg : ∀ s : RS, s.dep = D → s.l.length ≤ 1099511627776 → AG Tryz.prog f [.ptr 0 b 0] [rdB b s] (Gives b (.lit (.int .i64 (g s).1)) (g s).2))
    (s : RS) (hs : s.dep = D) (hl : s.l.length ≤ 1099511627776) :
    AG Tryz.prog 87 [.ptr 0 b 0, .own 0 (bfn f b 0)] [rdB b s] (Gives b (intRow (rSome g s).1) (rSome g s).2) := by
  have hc := countR_ag b s
  have hcl := rCount_len s
  have hcn := rCount_le s
  have hcd := rCount_dep s
  unfold rSome
  generalize rCount s = p at *
  obtain ⟨n0, s0⟩ := p
  dsimp only at hc hcl hcn hcd ⊢
  refine ag_enter 1 tok Tryz.func87 Tryz.ntmps87 Tryz.results87 rfl (by kernel_rfl) rfl fun F => ?_
  repeat (first | refine gG ?_ | refine zAp (fun _ => ?_))
  refine zCallG [0] hc ?_
  rintro _ _ ⟨rfl, rfl⟩
  refine ⟨_, _, re_refl, rfl, rfl, ?_⟩
  repeat (first | refine gG ?_ | refine zAp (fun _ => ?_))
  refine x_own 5 3 1 rfl rfl rfl rfl rfl ?_
  refine x_loop [5, 6, 9, 10, 11, 12, 13, 14, 15, 16, 17, 18, 19, 20, 21, 22, 23, 24] (fun y : Nat × List Int × Value × RS => [(6, .c (.lit (.int .i64 (y.1 : Int)))), (5, .own 1 y.2.2.1)]) (fun y => [rdB b y.2.2.2, .row y.2.2.1 3 1 y.2.1.length (y.2.1.flatMap intTs)])
    (fun y => (y.2.2.2.bad = false → y.2.2.2.dep = D) ∧ (y.2.1 ++ (rLoop g y.1 y.2.2.2).1, (rLoop g y.1 y.2.2.2).2) = rLoop g n0 s0 ∧ y.2.1.length + y.1 ≤ 1099511627776 ∧ y.2.2.2.l.length ≤ 1099511627776) (fun y => y.1) (n0, [], .slice none 0 0, s0) ⟨fun _ => hcd.trans hs, by simp, by simp only [List.length_nil]; omega, by simp only; omega⟩ ⟨rfl, rfl, trivial⟩ rfl ?_
  rintro ⟨n, out, v, s'⟩ ⟨hd, hinv, hlen, hsl⟩
  dsimp only at hd hinv hlen hsl ⊢
  cases n with
  | zero =>
    have d1 : decide ((0 : Int) < ((0 : Nat) : Int)) = false := rfl
    simp only [rLoop, List.append_nil] at hinv
    refine x_fz 5 rfl rfl rfl rfl ?_
    repeat (first | refine gG ?_ | refine zAp (fun _ => ?_))
    refine zG ?_
    rw [← hinv]
    exact ⟨rfl, rfl⟩
  | succ n =>
    have d1 : decide ((0 : Int) < ((n + 1 : Nat) : Int)) = true := decide_eq_true (by omega)
    obtain ⟨l1, bad1, dp1⟩ := s'
    cases bad1
    · have hdd := hd rfl
      have hca := hg ⟨l1, false, dp1⟩ hdd hsl
      have hgl := hfg.len ⟨l1, false, dp1⟩
      have hgd := hfg.dep ⟨l1, false, dp1⟩
      simp only [rLoop, Bool.false_eq_true, if_false] at hinv
      dsimp only at hdd hgl hgd
      generalize g ⟨l1, false, dp1⟩ = q at *
      obtain ⟨kv, s2⟩ := q
      dsimp only at hinv hca hgl hgd
      repeat (first | refine gG ?_ | refine zAp (fun _ => ?_))
      refine zCallGb [0] hca ?_
      rintro _ _ ⟨rfl, rfl⟩
      refine ⟨_, _, re_refl, rfl, rfl, ?_⟩
      repeat (first | refine gG ?_ | refine zAp (fun _ => ?_))
      refine lo_sub rfl rfl (r := (n : Int)) (by rw [IntWalk.i64_in _ (by omega)]; omega) ?_
      repeat (first | refine gG ?_ | refine zAp (fun _ => ?_))
      exact ⟨(n, out ++ [kv], _, s2), ⟨fun h => (hgd h).trans hdd, by simpa using hinv, by simp only [List.length_append, List.length_cons, List.length_nil]; omega, by simp only at hsl ⊢; omega⟩, by simp only; omega, x_wkd 2 ⟨rfl, rfl, trivial⟩ (by simp only [List.flatMap_append, List.flatMap_cons, List.flatMap_nil, List.append_nil, List.length_append, List.length_cons, List.length_nil]; rfl) (by repeat (first | exact ag_refl | refine ag_upd rfl ?_ | refine ag_at rfl rfl ?_))⟩
    · simp only [rLoop, if_true, List.append_nil] at hinv
      refine x_fz 5 rfl rfl rfl rfl ?_
      repeat (first | refine gG ?_ | refine zAp (fun _ => ?_))
      refine zG ?_
      rw [← hinv]
      exact ⟨rfl, rfl⟩
set_option maxRecDepth 100000 in
set_option maxHeartbeats 4000000 in
theorem parcelR_ag (b : Nat) (s : RS) (hd : s.dep ≤ 900) (hl : s.l.length ≤ 1099511627776) : AG Tryz.prog 59 [.ptr 0 b 0] [rdB b s] (Gives b (rPar s).1.t (rPar s).2) := by
  unfold rPar
  dsimp only
  have c1 := natR_ag b s
  have l1 := rNat_len s
  have p1 := rNat_dep s
  generalize rNat s = q1 at *
  obtain ⟨rf, s1⟩ := q1
  dsimp only at c1 l1 p1 ⊢
  have c2 := savedR_ag b s1 (by omega) (by omega)
  have l2 := rSav_len s1
  have p2 := rSav_top s1
  generalize rSav s1 = q2 at *
  obtain ⟨⟨ac, st, ip⟩, s2⟩ := q2
  dsimp only at c2 l2 p2 ⊢
  have c3 := someL_ag b s2.dep rLet rLet_fair 85 (fun s' h' hl' => letterR_ag b s' (by omega) hl') s2 rfl (by omega)
  have l3 := (rSome_fair rLet_fair).len s2
  have p3 := (rSome_fair rLet_fair).top s2
  generalize rSome rLet s2 = q3 at *
  obtain ⟨bx, s3⟩ := q3
  dsimp only at c3 l3 p3 ⊢
  have c4 := intR_ag b s3
  have l4 := rInt_len s3
  have p4 := rInt_dep s3
  generalize rInt s3 = q4 at *
  obtain ⟨tk, s4⟩ := q4
  dsimp only at c4 l4 p4 ⊢
  have c5 := someN_ag b s4.dep rNatI rNatI_fair 82 (fun s' h' hl' => natR_ag b s') s4 rfl (by omega)
  have l5 := (rSome_fair rNatI_fair).len s4
  have p5 := (rSome_fair rNatI_fair).top s4
  generalize rSome rNatI s4 = q5 at *
  obtain ⟨wt, s5⟩ := q5
  dsimp only at c5 l5 p5 ⊢
  have c6 := someN_ag b s5.dep rNatI rNatI_fair 82 (fun s' h' hl' => natR_ag b s') s5 rfl (by omega)
  generalize rSome rNatI s5 = q6 at *
  obtain ⟨lk, s6⟩ := q6
  dsimp only at c6 ⊢
  refine AG.re (R := fun r hs => Re r (.c (Par.mk rf ⟨ac, st, ip⟩ bx tk wt lk).t) ∧ hs = [rdB b s6]) ?_ (fun r hs h => ⟨_, h.1, rfl, h.2⟩)
  refine ag_enter 1 tok Tryz.func59 Tryz.ntmps59 Tryz.results59 rfl (by kernel_rfl) rfl fun F => ?_
  repeat (first | refine gG ?_ | refine zAl (fun _ => ?_))
  rename_i b2
  refine x_join [4, 5, 6, 7, 8, 9, 10, 11, 12, 13, 14, 15, 16, 17, 18, 19, 20, 3] (fun b3 : Nat => [(3, .ptr 2 b3 0)]) (fun b3 => [rdB b s4, .box b2 53 [.c (.lit (.int .i64 0)), .c (.lit (.string ⟨#[]⟩)), .c (.lit (.slice none 0 0)), .c (.lit (.slice none 0 0)), .c (.lit (.slice none 0 0)), .c (.lit (.int .i64 0)), .c (.lit (.slice none 0 0)), .c (.lit (.slice none 0 0))], .box b3 53 [.c (.lit (.int .i64 (rf : Int))), .c (.lit (.string ac)), .c (V.row st), .c (inpRow ip), .c (letRow bx), .c (.lit (.int .i64 tk)), .c (.lit (.slice none 0 0)), .c (.lit (.slice none 0 0))]]) ?_ ?_
  rotate_left
  · skip
    refine ac_drawT [0, 0, 0, 2, 0, 2, 0, 0, 0, 0, 0, 2, 0, 0, 0, 2, 0, 3, 2] (.fork [0, 1, 2, 4, 6, 7, 8, 9, 10, 12, 13, 14] 3 (.fork [] 5 (.fork [] 11 (.fork [] 15 (.fin [16, 17, 18]) 17 (.fin [15, 16, 18])) 17 (.fin [11, 15, 16, 18])) 17 (.fin [5, 11, 15, 16, 18])) 17 (.fin [3, 5, 11, 15, 16, 18])) (by kernel_rfl) (by kernel_rfl) ?_
    refine wt_fork ?_
    refine gW ?_
    apply w_p; (focus exact rfl); (focus exact rfl); focus (intro _; (refine zMf ?_); exact det_refl)
    refine gW ?_
    refine w_nil ?_
    refine ⟨?_, ?_⟩
    · apply w_l; (focus exact rfl); (focus exact rfl); (refine zCallG [0] c1 ?_; rintro _ _ ⟨rfl, rfl⟩; refine ⟨_, _, re_refl, rfl, rfl, ?_⟩)
      refine w_nil ?_
      refine wt_fork ?_
      refine w_nil ?_
      refine ⟨?_, ?_⟩
      · apply w_l; (focus exact rfl); (focus exact rfl); (refine zCallG [0] c2 ?_; rintro _ _ ⟨rfl, rfl⟩; refine ⟨_, _, re_refl, rfl, rfl, ?_⟩)
        refine w_nil ?_
        refine wt_fork ?_
        refine w_nil ?_
        refine ⟨?_, ?_⟩
        · apply w_l; (focus exact rfl); (focus exact rfl); (refine zCallG [0] c3 ?_; rintro _ _ ⟨rfl, rfl⟩; refine ⟨_, _, re_refl, rfl, rfl, ?_⟩)
          refine w_nil ?_
          refine wt_fork ?_
          refine w_nil ?_
          refine ⟨?_, ?_⟩
          · apply w_l; (focus exact rfl); (focus exact rfl); (refine zCallG [0] c4 ?_; rintro _ _ ⟨rfl, rfl⟩; refine ⟨_, _, re_refl, rfl, rfl, ?_⟩)
            refine w_nil ?_
            refine wt_fin ?_
            refine gW ?_
            apply w_a; (focus exact rfl); (focus exact rfl); refine v_alloc tok rfl rfl rfl (fun _ => rfl) (fun _ => ⟨⟨_, rfl⟩, ?_⟩)
            apply w_l; (focus exact rfl); (focus exact rfl); (first | (refine zkL ?_; first | refine zL1 ?_ | refine zL2 ?_ | refine zL3 ?_ | refine zLp ?_) | refine zM ?_ | (refine zkF ?_; first | refine zF1 ?_ | refine zF2 ?_ | refine zF3 ?_) | refine zA ?_ | (refine zkB ?_; first | refine zC5 ?_ | refine zC6 ?_ | refine zC1 ?_ | refine zC2 ?_ | refine zC3 ?_ | refine zC4 ?_ | refine zS5 ?_ | refine zS6 ?_ | refine zS1 ?_ | refine zS2 ?_ | refine zS3 ?_ | refine zS4 ?_ | refine zInc ?_ | refine zQ1 ?_ | refine zQ2 ?_ | refine zQ3 ?_ | refine zQ4 ?_ | refine zQ5 ?_ | refine zQ6 ?_) | (refine zkI ?_; first | refine zN1 (fun hlen => ?_) | refine zN2 (fun hlen => ?_) | refine zN3 ?_ | refine zN4 ?_ | refine zAp (fun _ => ?_)) | refine zS ?_ | refine zAl (fun _ => ?_) | refine zBx (fun _ => ?_) | refine zPt ?_ | refine zPf ?_ | refine zE ?_ | refine zEA ?_ | refine zNot ?_ | refine zBd ?_ | refine zBs ?_ | refine zFn ?_ | refine zK1 ?_ | refine zK2 ?_)
            refine w_nil ?_
            exact ⟨_, x_wkd 3 ⟨rfl, trivial⟩ rfl (by repeat (first | exact ag_refl | refine ag_upd rfl ?_ | refine ag_at rfl rfl ?_))⟩
          · apply w_a; (focus exact rfl); (focus exact rfl); refine v_alloc tok rfl rfl rfl (fun _ => rfl) (fun _ => ⟨⟨_, rfl⟩, ?_⟩)
            refine w_nil ?_
            refine wt_fin ?_
            apply w_l; (focus exact rfl); (focus exact rfl); (refine zCallG [0] c4 ?_; rintro _ _ ⟨rfl, rfl⟩; refine ⟨_, _, re_refl, rfl, rfl, ?_⟩)
            refine gW ?_
            apply w_l; (focus exact rfl); (focus exact rfl); (first | (refine zkL ?_; first | refine zL1 ?_ | refine zL2 ?_ | refine zL3 ?_ | refine zLp ?_) | refine zM ?_ | (refine zkF ?_; first | refine zF1 ?_ | refine zF2 ?_ | refine zF3 ?_) | refine zA ?_ | (refine zkB ?_; first | refine zC5 ?_ | refine zC6 ?_ | refine zC1 ?_ | refine zC2 ?_ | refine zC3 ?_ | refine zC4 ?_ | refine zS5 ?_ | refine zS6 ?_ | refine zS1 ?_ | refine zS2 ?_ | refine zS3 ?_ | refine zS4 ?_ | refine zInc ?_ | refine zQ1 ?_ | refine zQ2 ?_ | refine zQ3 ?_ | refine zQ4 ?_ | refine zQ5 ?_ | refine zQ6 ?_) | (refine zkI ?_; first | refine zN1 (fun hlen => ?_) | refine zN2 (fun hlen => ?_) | refine zN3 ?_ | refine zN4 ?_ | refine zAp (fun _ => ?_)) | refine zS ?_ | refine zAl (fun _ => ?_) | refine zBx (fun _ => ?_) | refine zPt ?_ | refine zPf ?_ | refine zE ?_ | refine zEA ?_ | refine zNot ?_ | refine zBd ?_ | refine zBs ?_ | refine zFn ?_ | refine zK1 ?_ | refine zK2 ?_)
            refine w_nil ?_
            exact ⟨_, x_wkd 3 ⟨rfl, trivial⟩ rfl (by repeat (first | exact ag_refl | refine ag_upd rfl ?_ | refine ag_at rfl rfl ?_))⟩
        · apply w_a; (focus exact rfl); (focus exact rfl); refine v_alloc tok rfl rfl rfl (fun _ => rfl) (fun _ => ⟨⟨_, rfl⟩, ?_⟩)
          refine w_nil ?_
          refine wt_fin ?_
          apply w_l; (focus exact rfl); (focus exact rfl); (refine zCallG [0] c3 ?_; rintro _ _ ⟨rfl, rfl⟩; refine ⟨_, _, re_refl, rfl, rfl, ?_⟩)
          apply w_l; (focus exact rfl); (focus exact rfl); (refine zCallG [0] c4 ?_; rintro _ _ ⟨rfl, rfl⟩; refine ⟨_, _, re_refl, rfl, rfl, ?_⟩)
          refine gW ?_
          apply w_l; (focus exact rfl); (focus exact rfl); (first | (refine zkL ?_; first | refine zL1 ?_ | refine zL2 ?_ | refine zL3 ?_ | refine zLp ?_) | refine zM ?_ | (refine zkF ?_; first | refine zF1 ?_ | refine zF2 ?_ | refine zF3 ?_) | refine zA ?_ | (refine zkB ?_; first | refine zC5 ?_ | refine zC6 ?_ | refine zC1 ?_ | refine zC2 ?_ | refine zC3 ?_ | refine zC4 ?_ | refine zS5 ?_ | refine zS6 ?_ | refine zS1 ?_ | refine zS2 ?_ | refine zS3 ?_ | refine zS4 ?_ | refine zInc ?_ | refine zQ1 ?_ | refine zQ2 ?_ | refine zQ3 ?_ | refine zQ4 ?_ | refine zQ5 ?_ | refine zQ6 ?_) | (refine zkI ?_; first | refine zN1 (fun hlen => ?_) | refine zN2 (fun hlen => ?_) | refine zN3 ?_ | refine zN4 ?_ | refine zAp (fun _ => ?_)) | refine zS ?_ | refine zAl (fun _ => ?_) | refine zBx (fun _ => ?_) | refine zPt ?_ | refine zPf ?_ | refine zE ?_ | refine zEA ?_ | refine zNot ?_ | refine zBd ?_ | refine zBs ?_ | refine zFn ?_ | refine zK1 ?_ | refine zK2 ?_)
          refine w_nil ?_
          exact ⟨_, x_wkd 3 ⟨rfl, trivial⟩ rfl (by repeat (first | exact ag_refl | refine ag_upd rfl ?_ | refine ag_at rfl rfl ?_))⟩
      · apply w_a; (focus exact rfl); (focus exact rfl); refine v_alloc tok rfl rfl rfl (fun _ => rfl) (fun _ => ⟨⟨_, rfl⟩, ?_⟩)
        refine w_nil ?_
        refine wt_fin ?_
        apply w_l; (focus exact rfl); (focus exact rfl); (refine zCallG [0] c2 ?_; rintro _ _ ⟨rfl, rfl⟩; refine ⟨_, _, re_refl, rfl, rfl, ?_⟩)
        apply w_l; (focus exact rfl); (focus exact rfl); (refine zCallG [0] c3 ?_; rintro _ _ ⟨rfl, rfl⟩; refine ⟨_, _, re_refl, rfl, rfl, ?_⟩)
        apply w_l; (focus exact rfl); (focus exact rfl); (refine zCallG [0] c4 ?_; rintro _ _ ⟨rfl, rfl⟩; refine ⟨_, _, re_refl, rfl, rfl, ?_⟩)
        refine gW ?_
        apply w_l; (focus exact rfl); (focus exact rfl); (first | (refine zkL ?_; first | refine zL1 ?_ | refine zL2 ?_ | refine zL3 ?_ | refine zLp ?_) | refine zM ?_ | (refine zkF ?_; first | refine zF1 ?_ | refine zF2 ?_ | refine zF3 ?_) | refine zA ?_ | (refine zkB ?_; first | refine zC5 ?_ | refine zC6 ?_ | refine zC1 ?_ | refine zC2 ?_ | refine zC3 ?_ | refine zC4 ?_ | refine zS5 ?_ | refine zS6 ?_ | refine zS1 ?_ | refine zS2 ?_ | refine zS3 ?_ | refine zS4 ?_ | refine zInc ?_ | refine zQ1 ?_ | refine zQ2 ?_ | refine zQ3 ?_ | refine zQ4 ?_ | refine zQ5 ?_ | refine zQ6 ?_) | (refine zkI ?_; first | refine zN1 (fun hlen => ?_) | refine zN2 (fun hlen => ?_) | refine zN3 ?_ | refine zN4 ?_ | refine zAp (fun _ => ?_)) | refine zS ?_ | refine zAl (fun _ => ?_) | refine zBx (fun _ => ?_) | refine zPt ?_ | refine zPf ?_ | refine zE ?_ | refine zEA ?_ | refine zNot ?_ | refine zBd ?_ | refine zBs ?_ | refine zFn ?_ | refine zK1 ?_ | refine zK2 ?_)
        refine w_nil ?_
        exact ⟨_, x_wkd 3 ⟨rfl, trivial⟩ rfl (by repeat (first | exact ag_refl | refine ag_upd rfl ?_ | refine ag_at rfl rfl ?_))⟩
    · apply w_a; (focus exact rfl); (focus exact rfl); refine v_alloc tok rfl rfl rfl (fun _ => rfl) (fun _ => ⟨⟨_, rfl⟩, ?_⟩)
      refine w_nil ?_
      refine wt_fin ?_
      apply w_l; (focus exact rfl); (focus exact rfl); (refine zCallG [0] c1 ?_; rintro _ _ ⟨rfl, rfl⟩; refine ⟨_, _, re_refl, rfl, rfl, ?_⟩)
      apply w_l; (focus exact rfl); (focus exact rfl); (refine zCallG [0] c2 ?_; rintro _ _ ⟨rfl, rfl⟩; refine ⟨_, _, re_refl, rfl, rfl, ?_⟩)
      apply w_l; (focus exact rfl); (focus exact rfl); (refine zCallG [0] c3 ?_; rintro _ _ ⟨rfl, rfl⟩; refine ⟨_, _, re_refl, rfl, rfl, ?_⟩)
      apply w_l; (focus exact rfl); (focus exact rfl); (refine zCallG [0] c4 ?_; rintro _ _ ⟨rfl, rfl⟩; refine ⟨_, _, re_refl, rfl, rfl, ?_⟩)
      refine gW ?_
      apply w_l; (focus exact rfl); (focus exact rfl); (first | (refine zkL ?_; first | refine zL1 ?_ | refine zL2 ?_ | refine zL3 ?_ | refine zLp ?_) | refine zM ?_ | (refine zkF ?_; first | refine zF1 ?_ | refine zF2 ?_ | refine zF3 ?_) | refine zA ?_ | (refine zkB ?_; first | refine zC5 ?_ | refine zC6 ?_ | refine zC1 ?_ | refine zC2 ?_ | refine zC3 ?_ | refine zC4 ?_ | refine zS5 ?_ | refine zS6 ?_ | refine zS1 ?_ | refine zS2 ?_ | refine zS3 ?_ | refine zS4 ?_ | refine zInc ?_ | refine zQ1 ?_ | refine zQ2 ?_ | refine zQ3 ?_ | refine zQ4 ?_ | refine zQ5 ?_ | refine zQ6 ?_) | (refine zkI ?_; first | refine zN1 (fun hlen => ?_) | refine zN2 (fun hlen => ?_) | refine zN3 ?_ | refine zN4 ?_ | refine zAp (fun _ => ?_)) | refine zS ?_ | refine zAl (fun _ => ?_) | refine zBx (fun _ => ?_) | refine zPt ?_ | refine zPf ?_ | refine zE ?_ | refine zEA ?_ | refine zNot ?_ | refine zBd ?_ | refine zBs ?_ | refine zFn ?_ | refine zK1 ?_ | refine zK2 ?_)
      refine w_nil ?_
      exact ⟨_, x_wkd 3 ⟨rfl, trivial⟩ rfl (by repeat (first | exact ag_refl | refine ag_upd rfl ?_ | refine ag_at rfl rfl ?_))⟩
  intro b3
  repeat (first | refine gG ?_ | refine zAl (fun _ => ?_))
  refine ac_draw [0, 0, 0, 0, 0, 0, 0, 2, 0, 2] [0, 1, 2, 3, 4, 5, 6, 7, 8, 9] (by kernel_rfl) (by kernel_rfl) ?_
  refine gW ?_
  apply w_p; (focus exact rfl); (focus exact rfl); focus (intro _; (refine zMf ?_); exact det_refl)
  apply w_l; (focus exact rfl); (focus exact rfl); (refine zCallG [0] c5 ?_; rintro _ _ ⟨rfl, rfl⟩; refine ⟨_, _, re_refl, rfl, rfl, ?_⟩)
  refine gW ?_
  apply w_l; (focus exact rfl); (focus exact rfl); (first | (refine zkL ?_; first | refine zL1 ?_ | refine zL2 ?_ | refine zL3 ?_ | refine zLp ?_) | refine zM ?_ | (refine zkF ?_; first | refine zF1 ?_ | refine zF2 ?_ | refine zF3 ?_) | refine zA ?_ | (refine zkB ?_; first | refine zC5 ?_ | refine zC6 ?_ | refine zC1 ?_ | refine zC2 ?_ | refine zC3 ?_ | refine zC4 ?_ | refine zS5 ?_ | refine zS6 ?_ | refine zS1 ?_ | refine zS2 ?_ | refine zS3 ?_ | refine zS4 ?_ | refine zInc ?_ | refine zQ1 ?_ | refine zQ2 ?_ | refine zQ3 ?_ | refine zQ4 ?_ | refine zQ5 ?_ | refine zQ6 ?_) | (refine zkI ?_; first | refine zN1 (fun hlen => ?_) | refine zN2 (fun hlen => ?_) | refine zN3 ?_ | refine zN4 ?_ | refine zAp (fun _ => ?_)) | refine zS ?_ | refine zAl (fun _ => ?_) | refine zBx (fun _ => ?_) | refine zPt ?_ | refine zPf ?_ | refine zE ?_ | refine zEA ?_ | refine zNot ?_ | refine zBd ?_ | refine zBs ?_ | refine zFn ?_ | refine zK1 ?_ | refine zK2 ?_)
  refine w_nil ?_
  repeat (first | refine gG ?_ | refine zAl (fun _ => ?_))
  refine ac_draw [0, 0, 0, 0, 0, 0, 0, 2, 0, 2] [0, 1, 2, 3, 4, 5, 6, 7, 8, 9] (by kernel_rfl) (by kernel_rfl) ?_
  refine gW ?_
  apply w_p; (focus exact rfl); (focus exact rfl); focus (intro _; (refine zMf ?_); exact det_refl)
  apply w_l; (focus exact rfl); (focus exact rfl); (refine zCallG [0] c6 ?_; rintro _ _ ⟨rfl, rfl⟩; refine ⟨_, _, re_refl, rfl, rfl, ?_⟩)
  refine gW ?_
  apply w_l; (focus exact rfl); (focus exact rfl); (first | (refine zkL ?_; first | refine zL1 ?_ | refine zL2 ?_ | refine zL3 ?_ | refine zLp ?_) | refine zM ?_ | (refine zkF ?_; first | refine zF1 ?_ | refine zF2 ?_ | refine zF3 ?_) | refine zA ?_ | (refine zkB ?_; first | refine zC5 ?_ | refine zC6 ?_ | refine zC1 ?_ | refine zC2 ?_ | refine zC3 ?_ | refine zC4 ?_ | refine zS5 ?_ | refine zS6 ?_ | refine zS1 ?_ | refine zS2 ?_ | refine zS3 ?_ | refine zS4 ?_ | refine zInc ?_ | refine zQ1 ?_ | refine zQ2 ?_ | refine zQ3 ?_ | refine zQ4 ?_ | refine zQ5 ?_ | refine zQ6 ?_) | (refine zkI ?_; first | refine zN1 (fun hlen => ?_) | refine zN2 (fun hlen => ?_) | refine zN3 ?_ | refine zN4 ?_ | refine zAp (fun _ => ?_)) | refine zS ?_ | refine zAl (fun _ => ?_) | refine zBx (fun _ => ?_) | refine zPt ?_ | refine zPf ?_ | refine zE ?_ | refine zEA ?_ | refine zNot ?_ | refine zBd ?_ | refine zBs ?_ | refine zFn ?_ | refine zK1 ?_ | refine zK2 ?_)
  refine w_nil ?_
  repeat (first | refine gG ?_ | refine zAl (fun _ => ?_))
  refine zG ?_
  exact ⟨re_cls (by repeat (first | exact rzs_nil | apply rzs_cons | exact rz_c | exact rz_nil rfl | apply rz_agg | exact rz_own rfl | apply rz_fn | exact rz_ptr rfl | apply rz_tup)), rfl⟩
def OutP (x : Par) (e : Int) (t : T) : Prop := t = .tup [x.t, .lit (.int .i64 e)]
set_option maxRecDepth 100000 in
set_option maxHeartbeats 4000000 in
theorem readParcel_af (l : List UInt8) (hl : l.length ≤ 1099511627776) : AF Tryz.prog 37 [bytRow l] (OutP (rdP l).1 (rdP l).2) := by
  have h1 : AF Tryz.prog 58 [bytRow l, .fn (.func 59) [], .fn (.func 60) []] (OutP (rdP l).1 (rdP l).2) := by
    have h1 := fun b => parcelR_ag b ⟨l, false, 0⟩ (by simp) hl
    unfold rdP
    generalize rPar ⟨l, false, 0⟩ = q at *
    obtain ⟨x, s⟩ := q
    dsimp only at h1 ⊢
    have h2 := checkParcel_af x
    generalize x.check = e at *
    obtain ⟨rf, ⟨ac, st, ip⟩, bx, tk, wt, lk⟩ := x
    refine af_enter tok Tryz.func58 Tryz.ntmps58 Tryz.results58 rfl (by kernel_rfl) rfl rfl fun F hX => ?_
    repeat (first | refine gG ?_ | refine zAl (fun _ => ?_) | refine zBx (fun _ => ?_))
    refine zCallGc [1] (h1 _) ?_
    rintro _ _ ⟨rfl, rfl⟩
    refine ⟨_, _, re_refl, rfl, rfl, ?_⟩
    repeat (first | refine gG ?_ | refine zAl (fun _ => ?_) | refine zBx (fun _ => ?_))
    refine zCallG [1] (doneR_ag _ s) ?_
    rintro _ _ ⟨rfl, rfl⟩
    refine ⟨_, _, re_refl, rfl, rfl, ?_⟩
    cases d1 : (!s.bad && decide (s.l = []))
    · repeat (first | refine gG ?_ | refine zAl (fun _ => ?_) | refine zBx (fun _ => ?_))
      first | refine zR (ts := [Par.zero.t, .lit (.int .i64 3)]) ?_ | refine zQ (ts := [Par.zero.t, .lit (.int .i64 3)]) ?_
      rfl
    · repeat (first | refine gG ?_ | refine zAl (fun _ => ?_) | refine zBx (fun _ => ?_))
      refine zCallc (h2) ?_
      rintro _ rfl
      cases d2 : decide (e = 0)
      · repeat (first | refine gG ?_ | refine zAl (fun _ => ?_) | refine zBx (fun _ => ?_))
        first | refine zR (ts := [Par.zero.t, .lit (.int .i64 3)]) ?_ | refine zQ (ts := [Par.zero.t, .lit (.int .i64 3)]) ?_
        rfl
      · repeat (first | refine gG ?_ | refine zAl (fun _ => ?_) | refine zBx (fun _ => ?_))
        first | refine zR (ts := [(Par.mk rf ⟨ac, st, ip⟩ bx tk wt lk).t, .lit (.int .i64 0)]) ?_ | refine zQ (ts := [(Par.mk rf ⟨ac, st, ip⟩ bx tk wt lk).t, .lit (.int .i64 0)]) ?_
        rfl
  generalize rdP l = q at *
  obtain ⟨⟨rf, ⟨ac, st, ip⟩, bx, tk, wt, lk⟩, e⟩ := q
  dsimp only at h1 ⊢
  refine af_enter tok Tryz.func37 Tryz.ntmps37 Tryz.results37 rfl (by kernel_rfl) rfl rfl fun F hX => ?_
  repeat (first | refine gG ?_ | refine zAl (fun _ => ?_))
  refine zCall (h1) ?_
  rintro _ rfl
  repeat (first | refine gG ?_ | refine zAl (fun _ => ?_))
  first | refine zR (ts := [(Par.mk rf ⟨ac, st, ip⟩ bx tk wt lk).t, .lit (.int .i64 e)]) ?_ | refine zQ (ts := [(Par.mk rf ⟨ac, st, ip⟩ bx tk wt lk).t, .lit (.int .i64 e)]) ?_
  rfl
end Go.Proofs.YthgackidonocpaaGreat
namespace Go.Proofs.YthgackidonocpaaGreat
open Go.RowKit
theorem tPar_eq {s s1 s2 s3 s4 s5 s6 s7 s8 s9 : TS} {rf m3 m6 m8 : Nat} {sv : Sav} {bx : List Lt} {tk : Int} {wt lk : List Int} (e1 : tNat s = (rf, s1)) (e2 : tSav s1 = (sv, s2)) (e3 : tNat s2 = (m3, s3)) (e4 : tRep tLet m3 s3 = (bx, s4)) (e5 : tNum s4 = (tk, s5)) (e6 : tNat s5 = (m6, s6)) (e7 : tRep tNatI m6 s6 = (wt, s7)) (e8 : tNat s7 = (m8, s8)) (e9 : tRep tNatI m8 s8 = (lk, s9)) : tPar s = (⟨rf, sv, bx, tk, wt, lk⟩, s9) := by
  have h3 : tLets s2 = (bx, s4) := by unfold tLets; rw [e3]; exact e4
  have h5 : tNats s5 = (wt, s7) := by unfold tNats; rw [e6]; exact e7
  have h6 : tNats s7 = (lk, s9) := by unfold tNats; rw [e8]; exact e9
  unfold tPar
  simp only [e1, e2, h3, e5, h5, h6]
theorem tNatI_eq (s : TS) : tNatI s = (((tNat s).1 : Int), (tNat s).2) := rfl
set_option maxRecDepth 100000 in
set_option maxHeartbeats 4000000 in
theorem parcelOf_af (l : List UInt8) (hl : l.length ≤ 2097152) : AF Tryz.prog 17 [bytRow l] (OutP (tdP l).1 (tdP l).2) := by
  have hsm := tPar_small ⟨l, true⟩ hl
  rcases e1 : tNat ⟨l, true⟩ with ⟨rf, s1⟩
  have c1 := fun b => tnat_ag b ⟨l, true⟩
  have g1 := (tNat_et ⟨l, true⟩).1
  simp only [e1] at c1 g1
  rcases e2 : tSav s1 with ⟨⟨ac, st, ip⟩, s2⟩
  have c2 := fun b => savedT_ag b s1 (by omega)
  have g2 := (tSav_et s1).1
  simp only [e2] at c2 g2
  rcases e3 : tNat s2 with ⟨m3, s3⟩
  have c3 := fun b => tnat_ag b s2
  have n3 := tNat_lt s2
  have g3 := (tNat_et s2).1
  simp only [e3] at c3 n3 g3
  rcases hq4 : tRep tLet m3 s3 with ⟨bx, s4⟩
  have g4 := (tRep_dn tLet_et m3 s3).1.1
  rw [hq4] at g4
  rcases e5 : tNum s4 with ⟨tk, s5⟩
  have c5 := fun b => tnum_ag b s4
  have g5 := (tNum_et s4).1
  simp only [e5] at c5 g5
  rcases e6 : tNat s5 with ⟨m6, s6⟩
  have c6 := fun b => tnat_ag b s5
  have n6 := tNat_lt s5
  have g6 := (tNat_et s5).1
  simp only [e6] at c6 n6 g6
  rcases hq7 : tRep tNatI m6 s6 with ⟨wt, s7⟩
  have g7 := (tRep_dn tNatI_et m6 s6).1.1
  rw [hq7] at g7
  rcases e8 : tNat s7 with ⟨m8, s8⟩
  have c8 := fun b => tnat_ag b s7
  have n8 := tNat_lt s7
  have g8 := (tNat_et s7).1
  simp only [e8] at c8 n8 g8
  rcases hq9 : tRep tNatI m8 s8 with ⟨lk, s9⟩
  have hE := tPar_eq e1 e2 e3 hq4 e5 e6 hq7 e8 hq9
  rw [hE] at hsm
  unfold tdP
  rw [hE]
  dsimp only at hsm g4 g7 ⊢
  clear hE
  have hB := parcelBytes_af _ hsm
  clear hsm
  generalize hop : (Par.mk rf ⟨ac, st, ip⟩ bx tk wt lk).out = o at *
  generalize hep : (Par.mk rf ⟨ac, st, ip⟩ bx tk wt lk).check = e at *
  clear hop hep
  refine af_enter tok Tryz.func17 Tryz.ntmps17 Tryz.results17 rfl (by kernel_rfl) rfl rfl fun F hX => ?_
  repeat (first | refine gG ?_ | refine zN1 (fun hlen => ?_) | refine zN2 (fun hlen => ?_) | refine zAl (fun _ => ?_) | refine zBx (fun _ => ?_) | refine zAp (fun _ => ?_))
  refine zCallG [1] (c1 _) ?_
  rintro _ _ ⟨rfl, rfl⟩
  refine ⟨_, _, re_refl, rfl, rfl, ?_⟩
  repeat (first | refine gG ?_ | refine zN1 (fun hlen => ?_) | refine zN2 (fun hlen => ?_) | refine zAl (fun _ => ?_) | refine zBx (fun _ => ?_) | refine zAp (fun _ => ?_))
  refine zCallG [1] (c2 _) ?_
  rintro _ _ ⟨rfl, rfl⟩
  refine ⟨_, _, re_refl, rfl, rfl, ?_⟩
  repeat (first | refine gG ?_ | refine zN1 (fun hlen => ?_) | refine zN2 (fun hlen => ?_) | refine zAl (fun _ => ?_) | refine zBx (fun _ => ?_) | refine zAp (fun _ => ?_))
  refine zCallG [1] (c3 _) ?_
  rintro _ _ ⟨rfl, rfl⟩
  refine ⟨_, _, re_refl, rfl, rfl, ?_⟩
  repeat (first | refine gG ?_ | refine zN1 (fun hlen => ?_) | refine zN2 (fun hlen => ?_) | refine zAl (fun _ => ?_) | refine zBx (fun _ => ?_) | refine zAp (fun _ => ?_))
  rename_i b0 b1 b2
  refine x_own_cell 2 4 63 9 rfl rfl rfl rfl rfl rfl ?_
  refine x_loop [6, 22, 23, 24, 25, 26, 27, 28, 29, 30, 31, 32, 33, 34, 35, 36, 37, 38] (fun y : Nat × List Lt × Value × TS => [(6, .c (.lit (.int .i64 (y.1 : Int))))]) (fun y => [.box b0 53 [.c (.lit (.int .i64 0)), .c (.lit (.string ⟨#[]⟩)), .c (.lit (.slice none 0 0)), .c (.lit (.slice none 0 0)), .c (.lit (.slice none 0 0)), .c (.lit (.int .i64 0)), .c (.lit (.slice none 0 0)), .c (.lit (.slice none 0 0))], tkB b1 y.2.2.2, .box b2 53 [.c (.lit (.int .i64 (rf : Int))), .c (.lit (.string ac)), .c (V.row st), .c (inpRow ip), .own 3 y.2.2.1, .c (.lit (.int .i64 0)), .c (.lit (.slice none 0 0)), .c (.lit (.slice none 0 0))], .row y.2.2.1 63 9 y.2.1.length (y.2.1.flatMap Lt.ts)])
    (fun y => y.1 ≤ 9223372036854775807 ∧ (y.2.2.2.ok = true → y.2.1.length + y.2.2.2.l.length ≤ 2097152) ∧ (y.2.1 ++ (tRep tLet y.1 y.2.2.2).1, (tRep tLet y.1 y.2.2.2).2) = (bx, s4)) (fun y => y.1) (m3, [], .slice none 0 0, s3) ⟨n3, fun _ => by simp only [List.length_nil]; omega, by simp only [List.nil_append, hq4]⟩ ⟨rfl, trivial⟩ rfl ?_
  rintro ⟨j, out, v, s'⟩ ⟨h1, h2, hinv⟩
  dsimp only at h1 h2 hinv ⊢
  refine ac_seq ?_
  refine ac_seq ?_
  refine x_join [22, 23, 24, 25, 26, 27, 28, 29] (fun y : {c : Bool // c = (decide ((0 : Int) < (j : Int)) && s'.ok)} => [(29, .c (.lit (.bool y.1)))]) (fun _ => [.box b0 53 [.c (.lit (.int .i64 0)), .c (.lit (.string ⟨#[]⟩)), .c (.lit (.slice none 0 0)), .c (.lit (.slice none 0 0)), .c (.lit (.slice none 0 0)), .c (.lit (.int .i64 0)), .c (.lit (.slice none 0 0)), .c (.lit (.slice none 0 0))], tkB b1 s', .box b2 53 [.c (.lit (.int .i64 (rf : Int))), .c (.lit (.string ac)), .c (V.row st), .c (inpRow ip), .own 3 v, .c (.lit (.int .i64 0)), .c (.lit (.slice none 0 0)), .c (.lit (.slice none 0 0))], .row v 63 9 out.length (out.flatMap Lt.ts)]) ?_ ?_
  rotate_left
  · cases d1 : decide ((0 : Int) < (j : Int))
    · refine ac_region ?_
      repeat (first | refine gO ?_ | refine zN1 (fun hlen => ?_) | refine zN2 (fun hlen => ?_) | refine zAl (fun _ => ?_) | refine zBx (fun _ => ?_) | refine zAp (fun _ => ?_))
      exact ⟨⟨false, by simp⟩, x_wkd 4 ⟨rfl, trivial⟩ rfl (by repeat (first | exact ag_refl | refine ag_upd rfl ?_ | refine ag_at rfl rfl ?_))⟩
    · refine ac_region ?_
      repeat (first | refine gO ?_ | refine zN1 (fun hlen => ?_) | refine zN2 (fun hlen => ?_) | refine zAl (fun _ => ?_) | refine zBx (fun _ => ?_) | refine zAp (fun _ => ?_))
      exact ⟨⟨s'.ok, by simp⟩, x_wkd 4 ⟨rfl, trivial⟩ rfl (by repeat (first | exact ag_refl | refine ag_upd rfl ?_ | refine ag_at rfl rfl ?_))⟩
  rintro ⟨c, hc⟩
  dsimp only
  cases c
  rotate_left
  · obtain ⟨j', rfl, hok, hrep⟩ := tRep_go (g := tLet) hc.symm
    have hb := h2 hok
    have hca := letterT_ag b1 s'
    have he := tLet_et s'
    rw [hrep] at hinv
    generalize tLet s' = q at *
    obtain ⟨⟨ka, fa, ta, na, sa, ⟨kv, nv, tv, lv⟩⟩, s2'⟩ := q
    dsimp only at hinv hca he
    repeat (first | refine gG ?_ | refine zN1 (fun hlen => ?_) | refine zN2 (fun hlen => ?_) | refine zAl (fun _ => ?_) | refine zBx (fun _ => ?_) | refine zAp (fun _ => ?_))
    refine ac_drawT [0, 2, 0, 2, 0, 2, 0, 2] (.fork [0, 2] 1 (.fin [3, 4, 5, 6, 7]) 3 (.fin [4, 1, 5, 6, 7])) (by kernel_rfl) (by kernel_rfl) ?_
    refine wt_fork ?_
    refine gW ?_
    refine w_nil ?_
    refine ⟨?_, ?_⟩
    · apply w_l; (focus exact rfl); (focus exact rfl); (first | refine zL1 ?_ | refine zL2 ?_ | refine zL3 ?_ | refine zLp ?_)
      refine w_nil ?_
      refine wt_fin ?_
      apply w_l; (focus exact rfl); (focus exact rfl); (refine zCallG [1] hca ?_; rintro _ _ ⟨rfl, rfl⟩; refine ⟨_, _, re_refl, rfl, rfl, ?_⟩)
      refine gW ?_
      apply w_l; (focus exact rfl); (focus exact rfl); (first | (refine zkL ?_; first | refine zL1 ?_ | refine zL2 ?_ | refine zL3 ?_ | refine zLp ?_) | refine zM ?_ | (refine zkF ?_; first | refine zF1 ?_ | refine zF2 ?_ | refine zF3 ?_) | refine zA ?_ | (refine zkB ?_; first | refine zC5 ?_ | refine zC6 ?_ | refine zC1 ?_ | refine zC2 ?_ | refine zC3 ?_ | refine zC4 ?_ | refine zS5 ?_ | refine zS6 ?_ | refine zS1 ?_ | refine zS2 ?_ | refine zS3 ?_ | refine zS4 ?_ | refine zInc ?_ | refine zQ1 ?_ | refine zQ2 ?_ | refine zQ3 ?_ | refine zQ4 ?_ | refine zQ5 ?_ | refine zQ6 ?_) | (refine zkI ?_; first | refine zN1 (fun hlen => ?_) | refine zN2 (fun hlen => ?_) | refine zN3 ?_ | refine zN4 ?_ | refine zAp (fun _ => ?_)) | refine zS ?_ | refine zAl (fun _ => ?_) | refine zBx (fun _ => ?_) | refine zPt ?_ | refine zPf ?_ | refine zE ?_ | refine zEA ?_ | refine zNot ?_ | refine zBd ?_ | refine zBs ?_ | refine zFn ?_ | refine zK1 ?_ | refine zK2 ?_)
      refine gW ?_
      apply w_l; (focus exact rfl); (focus exact rfl); (first | (refine zkL ?_; first | refine zL1 ?_ | refine zL2 ?_ | refine zL3 ?_ | refine zLp ?_) | refine zM ?_ | (refine zkF ?_; first | refine zF1 ?_ | refine zF2 ?_ | refine zF3 ?_) | refine zA ?_ | (refine zkB ?_; first | refine zC5 ?_ | refine zC6 ?_ | refine zC1 ?_ | refine zC2 ?_ | refine zC3 ?_ | refine zC4 ?_ | refine zS5 ?_ | refine zS6 ?_ | refine zS1 ?_ | refine zS2 ?_ | refine zS3 ?_ | refine zS4 ?_ | refine zInc ?_ | refine zQ1 ?_ | refine zQ2 ?_ | refine zQ3 ?_ | refine zQ4 ?_ | refine zQ5 ?_ | refine zQ6 ?_) | (refine zkI ?_; first | refine zN1 (fun hlen => ?_) | refine zN2 (fun hlen => ?_) | refine zN3 ?_ | refine zN4 ?_ | refine zAp (fun _ => ?_)) | refine zS ?_ | refine zAl (fun _ => ?_) | refine zBx (fun _ => ?_) | refine zPt ?_ | refine zPf ?_ | refine zE ?_ | refine zEA ?_ | refine zNot ?_ | refine zBd ?_ | refine zBs ?_ | refine zFn ?_ | refine zK1 ?_ | refine zK2 ?_)
      refine w_nil ?_
      repeat (first | refine gG ?_ | refine zN1 (fun hlen => ?_) | refine zN2 (fun hlen => ?_) | refine zAl (fun _ => ?_) | refine zBx (fun _ => ?_) | refine zAp (fun _ => ?_))
      refine lo_sub rfl rfl (r := (j' : Int)) (by rw [IntWalk.i64_in _ (by omega)]; omega) ?_
      repeat (first | refine gG ?_ | refine zN1 (fun hlen => ?_) | refine zN2 (fun hlen => ?_) | refine zAl (fun _ => ?_) | refine zBx (fun _ => ?_) | refine zAp (fun _ => ?_))
      exact ⟨(j', out ++ [.mk ka fa ta na sa (.mk kv nv tv lv)], _, s2'), ⟨by simp only; omega, fun ho => by have := (he.2 ho).2; simp only [List.length_append, List.length_cons, List.length_nil] at this ⊢; omega, by simpa using hinv⟩, by simp only; omega, x_wkd 4 ⟨rfl, trivial⟩ (by simp only [List.flatMap_append, List.flatMap_cons, List.flatMap_nil, List.append_nil, List.length_append, List.length_cons, List.length_nil]; rfl) (by repeat (first | exact ag_refl | refine ag_upd rfl ?_ | refine ag_at rfl rfl ?_))⟩
    · apply w_l; (focus exact rfl); (focus exact rfl); (refine zCallG [1] hca ?_; rintro _ _ ⟨rfl, rfl⟩; refine ⟨_, _, re_refl, rfl, rfl, ?_⟩)
      refine w_nil ?_
      refine wt_fin ?_
      refine gW ?_
      apply w_l; (focus exact rfl); (focus exact rfl); (first | refine zL1 ?_ | refine zL2 ?_ | refine zL3 ?_ | refine zLp ?_)
      apply w_l; (focus exact rfl); (focus exact rfl); (first | (refine zkL ?_; first | refine zL1 ?_ | refine zL2 ?_ | refine zL3 ?_ | refine zLp ?_) | refine zM ?_ | (refine zkF ?_; first | refine zF1 ?_ | refine zF2 ?_ | refine zF3 ?_) | refine zA ?_ | (refine zkB ?_; first | refine zC5 ?_ | refine zC6 ?_ | refine zC1 ?_ | refine zC2 ?_ | refine zC3 ?_ | refine zC4 ?_ | refine zS5 ?_ | refine zS6 ?_ | refine zS1 ?_ | refine zS2 ?_ | refine zS3 ?_ | refine zS4 ?_ | refine zInc ?_ | refine zQ1 ?_ | refine zQ2 ?_ | refine zQ3 ?_ | refine zQ4 ?_ | refine zQ5 ?_ | refine zQ6 ?_) | (refine zkI ?_; first | refine zN1 (fun hlen => ?_) | refine zN2 (fun hlen => ?_) | refine zN3 ?_ | refine zN4 ?_ | refine zAp (fun _ => ?_)) | refine zS ?_ | refine zAl (fun _ => ?_) | refine zBx (fun _ => ?_) | refine zPt ?_ | refine zPf ?_ | refine zE ?_ | refine zEA ?_ | refine zNot ?_ | refine zBd ?_ | refine zBs ?_ | refine zFn ?_ | refine zK1 ?_ | refine zK2 ?_)
      refine gW ?_
      apply w_l; (focus exact rfl); (focus exact rfl); (first | (refine zkL ?_; first | refine zL1 ?_ | refine zL2 ?_ | refine zL3 ?_ | refine zLp ?_) | refine zM ?_ | (refine zkF ?_; first | refine zF1 ?_ | refine zF2 ?_ | refine zF3 ?_) | refine zA ?_ | (refine zkB ?_; first | refine zC5 ?_ | refine zC6 ?_ | refine zC1 ?_ | refine zC2 ?_ | refine zC3 ?_ | refine zC4 ?_ | refine zS5 ?_ | refine zS6 ?_ | refine zS1 ?_ | refine zS2 ?_ | refine zS3 ?_ | refine zS4 ?_ | refine zInc ?_ | refine zQ1 ?_ | refine zQ2 ?_ | refine zQ3 ?_ | refine zQ4 ?_ | refine zQ5 ?_ | refine zQ6 ?_) | (refine zkI ?_; first | refine zN1 (fun hlen => ?_) | refine zN2 (fun hlen => ?_) | refine zN3 ?_ | refine zN4 ?_ | refine zAp (fun _ => ?_)) | refine zS ?_ | refine zAl (fun _ => ?_) | refine zBx (fun _ => ?_) | refine zPt ?_ | refine zPf ?_ | refine zE ?_ | refine zEA ?_ | refine zNot ?_ | refine zBd ?_ | refine zBs ?_ | refine zFn ?_ | refine zK1 ?_ | refine zK2 ?_)
      refine w_nil ?_
      repeat (first | refine gG ?_ | refine zN1 (fun hlen => ?_) | refine zN2 (fun hlen => ?_) | refine zAl (fun _ => ?_) | refine zBx (fun _ => ?_) | refine zAp (fun _ => ?_))
      refine lo_sub rfl rfl (r := (j' : Int)) (by rw [IntWalk.i64_in _ (by omega)]; omega) ?_
      repeat (first | refine gG ?_ | refine zN1 (fun hlen => ?_) | refine zN2 (fun hlen => ?_) | refine zAl (fun _ => ?_) | refine zBx (fun _ => ?_) | refine zAp (fun _ => ?_))
      exact ⟨(j', out ++ [.mk ka fa ta na sa (.mk kv nv tv lv)], _, s2'), ⟨by simp only; omega, fun ho => by have := (he.2 ho).2; simp only [List.length_append, List.length_cons, List.length_nil] at this ⊢; omega, by simpa using hinv⟩, by simp only; omega, x_wkd 4 ⟨rfl, trivial⟩ (by simp only [List.flatMap_append, List.flatMap_cons, List.flatMap_nil, List.append_nil, List.length_append, List.length_cons, List.length_nil]; rfl) (by repeat (first | exact ag_refl | refine ag_upd rfl ?_ | refine ag_at rfl rfl ?_))⟩
  rw [tRep_stop hc.symm] at hinv
  simp only [List.append_nil, Prod.mk.injEq] at hinv
  obtain ⟨hx, hy⟩ := hinv
  subst out
  subst s'
  clear hc h1 h2
  refine x_fzc 2 4 ?_
  repeat (first | refine gG ?_ | refine zN1 (fun hlen => ?_) | refine zN2 (fun hlen => ?_) | refine zAl (fun _ => ?_) | refine zBx (fun _ => ?_) | refine zAp (fun _ => ?_))
  refine zCallG [1] (c5 _) ?_
  rintro _ _ ⟨rfl, rfl⟩
  refine ⟨_, _, re_refl, rfl, rfl, ?_⟩
  repeat (first | refine gG ?_ | refine zN1 (fun hlen => ?_) | refine zN2 (fun hlen => ?_) | refine zAl (fun _ => ?_) | refine zBx (fun _ => ?_) | refine zAp (fun _ => ?_))
  refine zCallG [1] (c6 _) ?_
  rintro _ _ ⟨rfl, rfl⟩
  refine ⟨_, _, re_refl, rfl, rfl, ?_⟩
  repeat (first | refine gG ?_ | refine zN1 (fun hlen => ?_) | refine zN2 (fun hlen => ?_) | refine zAl (fun _ => ?_) | refine zBx (fun _ => ?_) | refine zAp (fun _ => ?_))
  refine x_own_cell 2 6 3 1 rfl rfl rfl rfl rfl rfl ?_
  refine x_loop [7, 44, 45, 46, 47, 48, 49, 50, 51, 52, 53, 54, 55, 56, 57, 58, 59, 60] (fun y : Nat × List Int × Value × TS => [(7, .c (.lit (.int .i64 (y.1 : Int))))]) (fun y => [.box b0 53 [.c (.lit (.int .i64 0)), .c (.lit (.string ⟨#[]⟩)), .c (.lit (.slice none 0 0)), .c (.lit (.slice none 0 0)), .c (.lit (.slice none 0 0)), .c (.lit (.int .i64 0)), .c (.lit (.slice none 0 0)), .c (.lit (.slice none 0 0))], tkB b1 y.2.2.2, .box b2 53 [.c (.lit (.int .i64 (rf : Int))), .c (.lit (.string ac)), .c (V.row st), .c (inpRow ip), .c (.row bx.length 9 (bx.flatMap Lt.ts)), .c (.lit (.int .i64 tk)), .own 4 y.2.2.1, .c (.lit (.slice none 0 0))], .dead, .row y.2.2.1 3 1 y.2.1.length (y.2.1.flatMap intTs)])
    (fun y => y.1 ≤ 9223372036854775807 ∧ (y.2.2.2.ok = true → y.2.1.length + y.2.2.2.l.length ≤ 2097152) ∧ (y.2.1 ++ (tRep tNatI y.1 y.2.2.2).1, (tRep tNatI y.1 y.2.2.2).2) = (wt, s7)) (fun y => y.1) (m6, [], .slice none 0 0, s6) ⟨n6, fun _ => by simp only [List.length_nil]; omega, by simp only [List.nil_append, hq7]⟩ ⟨rfl, trivial⟩ rfl ?_
  rintro ⟨j, out, v, s'⟩ ⟨h1, h2, hinv⟩
  dsimp only at h1 h2 hinv ⊢
  refine ac_seq ?_
  refine ac_seq ?_
  refine x_join [44, 45, 46, 47, 48, 49, 50, 51] (fun y : {c : Bool // c = (decide ((0 : Int) < (j : Int)) && s'.ok)} => [(51, .c (.lit (.bool y.1)))]) (fun _ => [.box b0 53 [.c (.lit (.int .i64 0)), .c (.lit (.string ⟨#[]⟩)), .c (.lit (.slice none 0 0)), .c (.lit (.slice none 0 0)), .c (.lit (.slice none 0 0)), .c (.lit (.int .i64 0)), .c (.lit (.slice none 0 0)), .c (.lit (.slice none 0 0))], tkB b1 s', .box b2 53 [.c (.lit (.int .i64 (rf : Int))), .c (.lit (.string ac)), .c (V.row st), .c (inpRow ip), .c (.row bx.length 9 (bx.flatMap Lt.ts)), .c (.lit (.int .i64 tk)), .own 4 v, .c (.lit (.slice none 0 0))], .dead, .row v 3 1 out.length (out.flatMap intTs)]) ?_ ?_
  rotate_left
  · cases d1 : decide ((0 : Int) < (j : Int))
    · refine ac_region ?_
      repeat (first | refine gO ?_ | refine zN1 (fun hlen => ?_) | refine zN2 (fun hlen => ?_) | refine zAl (fun _ => ?_) | refine zBx (fun _ => ?_) | refine zAp (fun _ => ?_))
      exact ⟨⟨false, by simp⟩, x_wkd 5 ⟨rfl, trivial⟩ rfl (by repeat (first | exact ag_refl | refine ag_upd rfl ?_ | refine ag_at rfl rfl ?_))⟩
    · refine ac_region ?_
      repeat (first | refine gO ?_ | refine zN1 (fun hlen => ?_) | refine zN2 (fun hlen => ?_) | refine zAl (fun _ => ?_) | refine zBx (fun _ => ?_) | refine zAp (fun _ => ?_))
      exact ⟨⟨s'.ok, by simp⟩, x_wkd 5 ⟨rfl, trivial⟩ rfl (by repeat (first | exact ag_refl | refine ag_upd rfl ?_ | refine ag_at rfl rfl ?_))⟩
  rintro ⟨c, hc⟩
  dsimp only
  cases c
  rotate_left
  · obtain ⟨j', rfl, hok, hrep⟩ := tRep_go (g := tNatI) hc.symm
    have hb := h2 hok
    have hca := tnat_ag b1 s'
    have he := tNatI_et s'
    rw [hrep] at hinv
    rw [tNatI_eq s'] at hinv he
    generalize tNat s' = q at *
    obtain ⟨nv, s2'⟩ := q
    dsimp only at hinv hca he
    repeat (first | refine gG ?_ | refine zN1 (fun hlen => ?_) | refine zN2 (fun hlen => ?_) | refine zAl (fun _ => ?_) | refine zBx (fun _ => ?_) | refine zAp (fun _ => ?_))
    refine ac_drawT [0, 2, 0, 2, 0, 2, 0, 2] (.fork [0, 2] 1 (.fin [3, 4, 5, 6, 7]) 3 (.fin [4, 1, 5, 6, 7])) (by kernel_rfl) (by kernel_rfl) ?_
    refine wt_fork ?_
    refine gW ?_
    refine w_nil ?_
    refine ⟨?_, ?_⟩
    · apply w_l; (focus exact rfl); (focus exact rfl); (first | refine zL1 ?_ | refine zL2 ?_ | refine zL3 ?_ | refine zLp ?_)
      refine w_nil ?_
      refine wt_fin ?_
      apply w_l; (focus exact rfl); (focus exact rfl); (refine zCallG [1] hca ?_; rintro _ _ ⟨rfl, rfl⟩; refine ⟨_, _, re_refl, rfl, rfl, ?_⟩)
      refine gW ?_
      apply w_l; (focus exact rfl); (focus exact rfl); (first | (refine zkL ?_; first | refine zL1 ?_ | refine zL2 ?_ | refine zL3 ?_ | refine zLp ?_) | refine zM ?_ | (refine zkF ?_; first | refine zF1 ?_ | refine zF2 ?_ | refine zF3 ?_) | refine zA ?_ | (refine zkB ?_; first | refine zC5 ?_ | refine zC6 ?_ | refine zC1 ?_ | refine zC2 ?_ | refine zC3 ?_ | refine zC4 ?_ | refine zS5 ?_ | refine zS6 ?_ | refine zS1 ?_ | refine zS2 ?_ | refine zS3 ?_ | refine zS4 ?_ | refine zInc ?_ | refine zQ1 ?_ | refine zQ2 ?_ | refine zQ3 ?_ | refine zQ4 ?_ | refine zQ5 ?_ | refine zQ6 ?_) | (refine zkI ?_; first | refine zN1 (fun hlen => ?_) | refine zN2 (fun hlen => ?_) | refine zN3 ?_ | refine zN4 ?_ | refine zAp (fun _ => ?_)) | refine zS ?_ | refine zAl (fun _ => ?_) | refine zBx (fun _ => ?_) | refine zPt ?_ | refine zPf ?_ | refine zE ?_ | refine zEA ?_ | refine zNot ?_ | refine zBd ?_ | refine zBs ?_ | refine zFn ?_ | refine zK1 ?_ | refine zK2 ?_)
      refine gW ?_
      apply w_l; (focus exact rfl); (focus exact rfl); (first | (refine zkL ?_; first | refine zL1 ?_ | refine zL2 ?_ | refine zL3 ?_ | refine zLp ?_) | refine zM ?_ | (refine zkF ?_; first | refine zF1 ?_ | refine zF2 ?_ | refine zF3 ?_) | refine zA ?_ | (refine zkB ?_; first | refine zC5 ?_ | refine zC6 ?_ | refine zC1 ?_ | refine zC2 ?_ | refine zC3 ?_ | refine zC4 ?_ | refine zS5 ?_ | refine zS6 ?_ | refine zS1 ?_ | refine zS2 ?_ | refine zS3 ?_ | refine zS4 ?_ | refine zInc ?_ | refine zQ1 ?_ | refine zQ2 ?_ | refine zQ3 ?_ | refine zQ4 ?_ | refine zQ5 ?_ | refine zQ6 ?_) | (refine zkI ?_; first | refine zN1 (fun hlen => ?_) | refine zN2 (fun hlen => ?_) | refine zN3 ?_ | refine zN4 ?_ | refine zAp (fun _ => ?_)) | refine zS ?_ | refine zAl (fun _ => ?_) | refine zBx (fun _ => ?_) | refine zPt ?_ | refine zPf ?_ | refine zE ?_ | refine zEA ?_ | refine zNot ?_ | refine zBd ?_ | refine zBs ?_ | refine zFn ?_ | refine zK1 ?_ | refine zK2 ?_)
      refine w_nil ?_
      repeat (first | refine gG ?_ | refine zN1 (fun hlen => ?_) | refine zN2 (fun hlen => ?_) | refine zAl (fun _ => ?_) | refine zBx (fun _ => ?_) | refine zAp (fun _ => ?_))
      refine lo_sub rfl rfl (r := (j' : Int)) (by rw [IntWalk.i64_in _ (by omega)]; omega) ?_
      repeat (first | refine gG ?_ | refine zN1 (fun hlen => ?_) | refine zN2 (fun hlen => ?_) | refine zAl (fun _ => ?_) | refine zBx (fun _ => ?_) | refine zAp (fun _ => ?_))
      exact ⟨(j', out ++ [(nv : Int)], _, s2'), ⟨by simp only; omega, fun ho => by have := (he.2 ho).2; simp only [List.length_append, List.length_cons, List.length_nil] at this ⊢; omega, by simpa using hinv⟩, by simp only; omega, x_wkd 5 ⟨rfl, trivial⟩ (by simp only [List.flatMap_append, List.flatMap_cons, List.flatMap_nil, List.append_nil, List.length_append, List.length_cons, List.length_nil]; rfl) (by repeat (first | exact ag_refl | refine ag_upd rfl ?_ | refine ag_at rfl rfl ?_))⟩
    · apply w_l; (focus exact rfl); (focus exact rfl); (refine zCallG [1] hca ?_; rintro _ _ ⟨rfl, rfl⟩; refine ⟨_, _, re_refl, rfl, rfl, ?_⟩)
      refine w_nil ?_
      refine wt_fin ?_
      refine gW ?_
      apply w_l; (focus exact rfl); (focus exact rfl); (first | refine zL1 ?_ | refine zL2 ?_ | refine zL3 ?_ | refine zLp ?_)
      apply w_l; (focus exact rfl); (focus exact rfl); (first | (refine zkL ?_; first | refine zL1 ?_ | refine zL2 ?_ | refine zL3 ?_ | refine zLp ?_) | refine zM ?_ | (refine zkF ?_; first | refine zF1 ?_ | refine zF2 ?_ | refine zF3 ?_) | refine zA ?_ | (refine zkB ?_; first | refine zC5 ?_ | refine zC6 ?_ | refine zC1 ?_ | refine zC2 ?_ | refine zC3 ?_ | refine zC4 ?_ | refine zS5 ?_ | refine zS6 ?_ | refine zS1 ?_ | refine zS2 ?_ | refine zS3 ?_ | refine zS4 ?_ | refine zInc ?_ | refine zQ1 ?_ | refine zQ2 ?_ | refine zQ3 ?_ | refine zQ4 ?_ | refine zQ5 ?_ | refine zQ6 ?_) | (refine zkI ?_; first | refine zN1 (fun hlen => ?_) | refine zN2 (fun hlen => ?_) | refine zN3 ?_ | refine zN4 ?_ | refine zAp (fun _ => ?_)) | refine zS ?_ | refine zAl (fun _ => ?_) | refine zBx (fun _ => ?_) | refine zPt ?_ | refine zPf ?_ | refine zE ?_ | refine zEA ?_ | refine zNot ?_ | refine zBd ?_ | refine zBs ?_ | refine zFn ?_ | refine zK1 ?_ | refine zK2 ?_)
      refine gW ?_
      apply w_l; (focus exact rfl); (focus exact rfl); (first | (refine zkL ?_; first | refine zL1 ?_ | refine zL2 ?_ | refine zL3 ?_ | refine zLp ?_) | refine zM ?_ | (refine zkF ?_; first | refine zF1 ?_ | refine zF2 ?_ | refine zF3 ?_) | refine zA ?_ | (refine zkB ?_; first | refine zC5 ?_ | refine zC6 ?_ | refine zC1 ?_ | refine zC2 ?_ | refine zC3 ?_ | refine zC4 ?_ | refine zS5 ?_ | refine zS6 ?_ | refine zS1 ?_ | refine zS2 ?_ | refine zS3 ?_ | refine zS4 ?_ | refine zInc ?_ | refine zQ1 ?_ | refine zQ2 ?_ | refine zQ3 ?_ | refine zQ4 ?_ | refine zQ5 ?_ | refine zQ6 ?_) | (refine zkI ?_; first | refine zN1 (fun hlen => ?_) | refine zN2 (fun hlen => ?_) | refine zN3 ?_ | refine zN4 ?_ | refine zAp (fun _ => ?_)) | refine zS ?_ | refine zAl (fun _ => ?_) | refine zBx (fun _ => ?_) | refine zPt ?_ | refine zPf ?_ | refine zE ?_ | refine zEA ?_ | refine zNot ?_ | refine zBd ?_ | refine zBs ?_ | refine zFn ?_ | refine zK1 ?_ | refine zK2 ?_)
      refine w_nil ?_
      repeat (first | refine gG ?_ | refine zN1 (fun hlen => ?_) | refine zN2 (fun hlen => ?_) | refine zAl (fun _ => ?_) | refine zBx (fun _ => ?_) | refine zAp (fun _ => ?_))
      refine lo_sub rfl rfl (r := (j' : Int)) (by rw [IntWalk.i64_in _ (by omega)]; omega) ?_
      repeat (first | refine gG ?_ | refine zN1 (fun hlen => ?_) | refine zN2 (fun hlen => ?_) | refine zAl (fun _ => ?_) | refine zBx (fun _ => ?_) | refine zAp (fun _ => ?_))
      exact ⟨(j', out ++ [(nv : Int)], _, s2'), ⟨by simp only; omega, fun ho => by have := (he.2 ho).2; simp only [List.length_append, List.length_cons, List.length_nil] at this ⊢; omega, by simpa using hinv⟩, by simp only; omega, x_wkd 5 ⟨rfl, trivial⟩ (by simp only [List.flatMap_append, List.flatMap_cons, List.flatMap_nil, List.append_nil, List.length_append, List.length_cons, List.length_nil]; rfl) (by repeat (first | exact ag_refl | refine ag_upd rfl ?_ | refine ag_at rfl rfl ?_))⟩
  rw [tRep_stop hc.symm] at hinv
  simp only [List.append_nil, Prod.mk.injEq] at hinv
  obtain ⟨hx, hy⟩ := hinv
  subst out
  subst s'
  clear hc h1 h2
  refine x_fzc 2 6 ?_
  repeat (first | refine gG ?_ | refine zN1 (fun hlen => ?_) | refine zN2 (fun hlen => ?_) | refine zAl (fun _ => ?_) | refine zBx (fun _ => ?_) | refine zAp (fun _ => ?_))
  refine zCallG [1] (c8 _) ?_
  rintro _ _ ⟨rfl, rfl⟩
  refine ⟨_, _, re_refl, rfl, rfl, ?_⟩
  repeat (first | refine gG ?_ | refine zN1 (fun hlen => ?_) | refine zN2 (fun hlen => ?_) | refine zAl (fun _ => ?_) | refine zBx (fun _ => ?_) | refine zAp (fun _ => ?_))
  refine x_own_cell 2 7 3 1 rfl rfl rfl rfl rfl rfl ?_
  refine x_loop [8, 63, 64, 65, 66, 67, 68, 69, 70, 71, 72, 73, 74, 75, 76, 77, 78, 79] (fun y : Nat × List Int × Value × TS => [(8, .c (.lit (.int .i64 (y.1 : Int))))]) (fun y => [.box b0 53 [.c (.lit (.int .i64 0)), .c (.lit (.string ⟨#[]⟩)), .c (.lit (.slice none 0 0)), .c (.lit (.slice none 0 0)), .c (.lit (.slice none 0 0)), .c (.lit (.int .i64 0)), .c (.lit (.slice none 0 0)), .c (.lit (.slice none 0 0))], tkB b1 y.2.2.2, .box b2 53 [.c (.lit (.int .i64 (rf : Int))), .c (.lit (.string ac)), .c (V.row st), .c (inpRow ip), .c (.row bx.length 9 (bx.flatMap Lt.ts)), .c (.lit (.int .i64 tk)), .c (.row wt.length 1 (wt.flatMap intTs)), .own 5 y.2.2.1], .dead, .dead, .row y.2.2.1 3 1 y.2.1.length (y.2.1.flatMap intTs)])
    (fun y => y.1 ≤ 9223372036854775807 ∧ (y.2.2.2.ok = true → y.2.1.length + y.2.2.2.l.length ≤ 2097152) ∧ (y.2.1 ++ (tRep tNatI y.1 y.2.2.2).1, (tRep tNatI y.1 y.2.2.2).2) = (lk, s9)) (fun y => y.1) (m8, [], .slice none 0 0, s8) ⟨n8, fun _ => by simp only [List.length_nil]; omega, by simp only [List.nil_append, hq9]⟩ ⟨rfl, trivial⟩ rfl ?_
  rintro ⟨j, out, v, s'⟩ ⟨h1, h2, hinv⟩
  dsimp only at h1 h2 hinv ⊢
  refine ac_seq ?_
  refine ac_seq ?_
  refine x_join [63, 64, 65, 66, 67, 68, 69, 70] (fun y : {c : Bool // c = (decide ((0 : Int) < (j : Int)) && s'.ok)} => [(70, .c (.lit (.bool y.1)))]) (fun _ => [.box b0 53 [.c (.lit (.int .i64 0)), .c (.lit (.string ⟨#[]⟩)), .c (.lit (.slice none 0 0)), .c (.lit (.slice none 0 0)), .c (.lit (.slice none 0 0)), .c (.lit (.int .i64 0)), .c (.lit (.slice none 0 0)), .c (.lit (.slice none 0 0))], tkB b1 s', .box b2 53 [.c (.lit (.int .i64 (rf : Int))), .c (.lit (.string ac)), .c (V.row st), .c (inpRow ip), .c (.row bx.length 9 (bx.flatMap Lt.ts)), .c (.lit (.int .i64 tk)), .c (.row wt.length 1 (wt.flatMap intTs)), .own 5 v], .dead, .dead, .row v 3 1 out.length (out.flatMap intTs)]) ?_ ?_
  rotate_left
  · cases d1 : decide ((0 : Int) < (j : Int))
    · refine ac_region ?_
      repeat (first | refine gO ?_ | refine zN1 (fun hlen => ?_) | refine zN2 (fun hlen => ?_) | refine zAl (fun _ => ?_) | refine zBx (fun _ => ?_) | refine zAp (fun _ => ?_))
      exact ⟨⟨false, by simp⟩, x_wkd 6 ⟨rfl, trivial⟩ rfl (by repeat (first | exact ag_refl | refine ag_upd rfl ?_ | refine ag_at rfl rfl ?_))⟩
    · refine ac_region ?_
      repeat (first | refine gO ?_ | refine zN1 (fun hlen => ?_) | refine zN2 (fun hlen => ?_) | refine zAl (fun _ => ?_) | refine zBx (fun _ => ?_) | refine zAp (fun _ => ?_))
      exact ⟨⟨s'.ok, by simp⟩, x_wkd 6 ⟨rfl, trivial⟩ rfl (by repeat (first | exact ag_refl | refine ag_upd rfl ?_ | refine ag_at rfl rfl ?_))⟩
  rintro ⟨c, hc⟩
  dsimp only
  cases c
  rotate_left
  · obtain ⟨j', rfl, hok, hrep⟩ := tRep_go (g := tNatI) hc.symm
    have hb := h2 hok
    have hca := tnat_ag b1 s'
    have he := tNatI_et s'
    rw [hrep] at hinv
    rw [tNatI_eq s'] at hinv he
    generalize tNat s' = q at *
    obtain ⟨nv, s2'⟩ := q
    dsimp only at hinv hca he
    repeat (first | refine gG ?_ | refine zN1 (fun hlen => ?_) | refine zN2 (fun hlen => ?_) | refine zAl (fun _ => ?_) | refine zBx (fun _ => ?_) | refine zAp (fun _ => ?_))
    refine ac_drawT [0, 2, 0, 2, 0, 2, 0, 2] (.fork [0, 2] 1 (.fin [3, 4, 5, 6, 7]) 3 (.fin [4, 1, 5, 6, 7])) (by kernel_rfl) (by kernel_rfl) ?_
    refine wt_fork ?_
    refine gW ?_
    refine w_nil ?_
    refine ⟨?_, ?_⟩
    · apply w_l; (focus exact rfl); (focus exact rfl); (first | refine zL1 ?_ | refine zL2 ?_ | refine zL3 ?_ | refine zLp ?_)
      refine w_nil ?_
      refine wt_fin ?_
      apply w_l; (focus exact rfl); (focus exact rfl); (refine zCallG [1] hca ?_; rintro _ _ ⟨rfl, rfl⟩; refine ⟨_, _, re_refl, rfl, rfl, ?_⟩)
      refine gW ?_
      apply w_l; (focus exact rfl); (focus exact rfl); (first | (refine zkL ?_; first | refine zL1 ?_ | refine zL2 ?_ | refine zL3 ?_ | refine zLp ?_) | refine zM ?_ | (refine zkF ?_; first | refine zF1 ?_ | refine zF2 ?_ | refine zF3 ?_) | refine zA ?_ | (refine zkB ?_; first | refine zC5 ?_ | refine zC6 ?_ | refine zC1 ?_ | refine zC2 ?_ | refine zC3 ?_ | refine zC4 ?_ | refine zS5 ?_ | refine zS6 ?_ | refine zS1 ?_ | refine zS2 ?_ | refine zS3 ?_ | refine zS4 ?_ | refine zInc ?_ | refine zQ1 ?_ | refine zQ2 ?_ | refine zQ3 ?_ | refine zQ4 ?_ | refine zQ5 ?_ | refine zQ6 ?_) | (refine zkI ?_; first | refine zN1 (fun hlen => ?_) | refine zN2 (fun hlen => ?_) | refine zN3 ?_ | refine zN4 ?_ | refine zAp (fun _ => ?_)) | refine zS ?_ | refine zAl (fun _ => ?_) | refine zBx (fun _ => ?_) | refine zPt ?_ | refine zPf ?_ | refine zE ?_ | refine zEA ?_ | refine zNot ?_ | refine zBd ?_ | refine zBs ?_ | refine zFn ?_ | refine zK1 ?_ | refine zK2 ?_)
      refine gW ?_
      apply w_l; (focus exact rfl); (focus exact rfl); (first | (refine zkL ?_; first | refine zL1 ?_ | refine zL2 ?_ | refine zL3 ?_ | refine zLp ?_) | refine zM ?_ | (refine zkF ?_; first | refine zF1 ?_ | refine zF2 ?_ | refine zF3 ?_) | refine zA ?_ | (refine zkB ?_; first | refine zC5 ?_ | refine zC6 ?_ | refine zC1 ?_ | refine zC2 ?_ | refine zC3 ?_ | refine zC4 ?_ | refine zS5 ?_ | refine zS6 ?_ | refine zS1 ?_ | refine zS2 ?_ | refine zS3 ?_ | refine zS4 ?_ | refine zInc ?_ | refine zQ1 ?_ | refine zQ2 ?_ | refine zQ3 ?_ | refine zQ4 ?_ | refine zQ5 ?_ | refine zQ6 ?_) | (refine zkI ?_; first | refine zN1 (fun hlen => ?_) | refine zN2 (fun hlen => ?_) | refine zN3 ?_ | refine zN4 ?_ | refine zAp (fun _ => ?_)) | refine zS ?_ | refine zAl (fun _ => ?_) | refine zBx (fun _ => ?_) | refine zPt ?_ | refine zPf ?_ | refine zE ?_ | refine zEA ?_ | refine zNot ?_ | refine zBd ?_ | refine zBs ?_ | refine zFn ?_ | refine zK1 ?_ | refine zK2 ?_)
      refine w_nil ?_
      repeat (first | refine gG ?_ | refine zN1 (fun hlen => ?_) | refine zN2 (fun hlen => ?_) | refine zAl (fun _ => ?_) | refine zBx (fun _ => ?_) | refine zAp (fun _ => ?_))
      refine lo_sub rfl rfl (r := (j' : Int)) (by rw [IntWalk.i64_in _ (by omega)]; omega) ?_
      repeat (first | refine gG ?_ | refine zN1 (fun hlen => ?_) | refine zN2 (fun hlen => ?_) | refine zAl (fun _ => ?_) | refine zBx (fun _ => ?_) | refine zAp (fun _ => ?_))
      exact ⟨(j', out ++ [(nv : Int)], _, s2'), ⟨by simp only; omega, fun ho => by have := (he.2 ho).2; simp only [List.length_append, List.length_cons, List.length_nil] at this ⊢; omega, by simpa using hinv⟩, by simp only; omega, x_wkd 6 ⟨rfl, trivial⟩ (by simp only [List.flatMap_append, List.flatMap_cons, List.flatMap_nil, List.append_nil, List.length_append, List.length_cons, List.length_nil]; rfl) (by repeat (first | exact ag_refl | refine ag_upd rfl ?_ | refine ag_at rfl rfl ?_))⟩
    · apply w_l; (focus exact rfl); (focus exact rfl); (refine zCallG [1] hca ?_; rintro _ _ ⟨rfl, rfl⟩; refine ⟨_, _, re_refl, rfl, rfl, ?_⟩)
      refine w_nil ?_
      refine wt_fin ?_
      refine gW ?_
      apply w_l; (focus exact rfl); (focus exact rfl); (first | refine zL1 ?_ | refine zL2 ?_ | refine zL3 ?_ | refine zLp ?_)
      apply w_l; (focus exact rfl); (focus exact rfl); (first | (refine zkL ?_; first | refine zL1 ?_ | refine zL2 ?_ | refine zL3 ?_ | refine zLp ?_) | refine zM ?_ | (refine zkF ?_; first | refine zF1 ?_ | refine zF2 ?_ | refine zF3 ?_) | refine zA ?_ | (refine zkB ?_; first | refine zC5 ?_ | refine zC6 ?_ | refine zC1 ?_ | refine zC2 ?_ | refine zC3 ?_ | refine zC4 ?_ | refine zS5 ?_ | refine zS6 ?_ | refine zS1 ?_ | refine zS2 ?_ | refine zS3 ?_ | refine zS4 ?_ | refine zInc ?_ | refine zQ1 ?_ | refine zQ2 ?_ | refine zQ3 ?_ | refine zQ4 ?_ | refine zQ5 ?_ | refine zQ6 ?_) | (refine zkI ?_; first | refine zN1 (fun hlen => ?_) | refine zN2 (fun hlen => ?_) | refine zN3 ?_ | refine zN4 ?_ | refine zAp (fun _ => ?_)) | refine zS ?_ | refine zAl (fun _ => ?_) | refine zBx (fun _ => ?_) | refine zPt ?_ | refine zPf ?_ | refine zE ?_ | refine zEA ?_ | refine zNot ?_ | refine zBd ?_ | refine zBs ?_ | refine zFn ?_ | refine zK1 ?_ | refine zK2 ?_)
      refine gW ?_
      apply w_l; (focus exact rfl); (focus exact rfl); (first | (refine zkL ?_; first | refine zL1 ?_ | refine zL2 ?_ | refine zL3 ?_ | refine zLp ?_) | refine zM ?_ | (refine zkF ?_; first | refine zF1 ?_ | refine zF2 ?_ | refine zF3 ?_) | refine zA ?_ | (refine zkB ?_; first | refine zC5 ?_ | refine zC6 ?_ | refine zC1 ?_ | refine zC2 ?_ | refine zC3 ?_ | refine zC4 ?_ | refine zS5 ?_ | refine zS6 ?_ | refine zS1 ?_ | refine zS2 ?_ | refine zS3 ?_ | refine zS4 ?_ | refine zInc ?_ | refine zQ1 ?_ | refine zQ2 ?_ | refine zQ3 ?_ | refine zQ4 ?_ | refine zQ5 ?_ | refine zQ6 ?_) | (refine zkI ?_; first | refine zN1 (fun hlen => ?_) | refine zN2 (fun hlen => ?_) | refine zN3 ?_ | refine zN4 ?_ | refine zAp (fun _ => ?_)) | refine zS ?_ | refine zAl (fun _ => ?_) | refine zBx (fun _ => ?_) | refine zPt ?_ | refine zPf ?_ | refine zE ?_ | refine zEA ?_ | refine zNot ?_ | refine zBd ?_ | refine zBs ?_ | refine zFn ?_ | refine zK1 ?_ | refine zK2 ?_)
      refine w_nil ?_
      repeat (first | refine gG ?_ | refine zN1 (fun hlen => ?_) | refine zN2 (fun hlen => ?_) | refine zAl (fun _ => ?_) | refine zBx (fun _ => ?_) | refine zAp (fun _ => ?_))
      refine lo_sub rfl rfl (r := (j' : Int)) (by rw [IntWalk.i64_in _ (by omega)]; omega) ?_
      repeat (first | refine gG ?_ | refine zN1 (fun hlen => ?_) | refine zN2 (fun hlen => ?_) | refine zAl (fun _ => ?_) | refine zBx (fun _ => ?_) | refine zAp (fun _ => ?_))
      exact ⟨(j', out ++ [(nv : Int)], _, s2'), ⟨by simp only; omega, fun ho => by have := (he.2 ho).2; simp only [List.length_append, List.length_cons, List.length_nil] at this ⊢; omega, by simpa using hinv⟩, by simp only; omega, x_wkd 6 ⟨rfl, trivial⟩ (by simp only [List.flatMap_append, List.flatMap_cons, List.flatMap_nil, List.append_nil, List.length_append, List.length_cons, List.length_nil]; rfl) (by repeat (first | exact ag_refl | refine ag_upd rfl ?_ | refine ag_at rfl rfl ?_))⟩
  rw [tRep_stop hc.symm] at hinv
  simp only [List.append_nil, Prod.mk.injEq] at hinv
  obtain ⟨hx, hy⟩ := hinv
  subst out
  subst s'
  clear hc h1 h2
  refine x_fzc 2 7 ?_
  have e3 : decide ((0 : Int) < (s9.l.length : Int)) = decide (0 < s9.l.length) := by
    by_cases hz : 0 < s9.l.length
    · rw [decide_eq_true hz, decide_eq_true (by omega)]
    · rw [decide_eq_false hz, decide_eq_false (by omega)]
  repeat (first | refine gG ?_ | refine zN1 (fun hlen => ?_) | refine zN2 (fun hlen => ?_) | refine zAl (fun _ => ?_) | refine zBx (fun _ => ?_) | refine zAp (fun _ => ?_))
  refine zCall (hB) ?_
  rintro _ rfl
  cases g1 : s9.ok
  · repeat (first | refine gG ?_ | refine zN1 (fun hlen => ?_) | refine zN2 (fun hlen => ?_) | refine zAl (fun _ => ?_) | refine zBx (fun _ => ?_) | refine zAp (fun _ => ?_))
    first | refine zR (ts := [Par.zero.t, .lit (.int .i64 3)]) ?_ | refine zQ (ts := [Par.zero.t, .lit (.int .i64 3)]) ?_
    rfl
  cases g2 : decide (0 < s9.l.length)
  rotate_left
  · have g2' := e3.trans g2
    repeat (first | refine gG ?_ | refine zN1 (fun hlen => ?_) | refine zN2 (fun hlen => ?_) | refine zAl (fun _ => ?_) | refine zBx (fun _ => ?_) | refine zAp (fun _ => ?_))
    first | refine zR (ts := [Par.zero.t, .lit (.int .i64 3)]) ?_ | refine zQ (ts := [Par.zero.t, .lit (.int .i64 3)]) ?_
    rfl
  have g2' := e3.trans g2
  cases g3 : decide (e = 0)
  · repeat (first | refine gG ?_ | refine zN1 (fun hlen => ?_) | refine zN2 (fun hlen => ?_) | refine zAl (fun _ => ?_) | refine zBx (fun _ => ?_) | refine zAp (fun _ => ?_))
    first | refine zR (ts := [Par.zero.t, .lit (.int .i64 3)]) ?_ | refine zQ (ts := [Par.zero.t, .lit (.int .i64 3)]) ?_
    rfl
  repeat (first | refine gG ?_ | refine zN1 (fun hlen => ?_) | refine zN2 (fun hlen => ?_) | refine zAl (fun _ => ?_) | refine zBx (fun _ => ?_) | refine zAp (fun _ => ?_))
  refine zStr o rfl rfl ?_
  repeat (first | refine gG ?_ | refine zN1 (fun hlen => ?_) | refine zN2 (fun hlen => ?_) | refine zAl (fun _ => ?_) | refine zBx (fun _ => ?_) | refine zAp (fun _ => ?_))
  refine zStr l rfl rfl ?_
  cases g4 : decide (bs o = bs l)
  · repeat (first | refine gG ?_ | refine zN1 (fun hlen => ?_) | refine zN2 (fun hlen => ?_) | refine zAl (fun _ => ?_) | refine zBx (fun _ => ?_) | refine zAp (fun _ => ?_))
    first | refine zR (ts := [Par.zero.t, .lit (.int .i64 3)]) ?_ | refine zQ (ts := [Par.zero.t, .lit (.int .i64 3)]) ?_
    rfl
  · repeat (first | refine gG ?_ | refine zN1 (fun hlen => ?_) | refine zN2 (fun hlen => ?_) | refine zAl (fun _ => ?_) | refine zBx (fun _ => ?_) | refine zAp (fun _ => ?_))
    first | refine zR (ts := [(Par.mk rf ⟨ac, st, ip⟩ bx tk wt lk).t, .lit (.int .i64 0)]) ?_ | refine zQ (ts := [(Par.mk rf ⟨ac, st, ip⟩ bx tk wt lk).t, .lit (.int .i64 0)]) ?_
    rfl
end Go.Proofs.YthgackidonocpaaGreat
