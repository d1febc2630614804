/-
  Texts of this proof, part 11: Tsr Tst Tqd Tlf.
-/
import Derived.Test.YthgackidonocpaaGreatQStoreLast10
import Derived.MapKept
namespace Go.Proofs.YthgackidonocpaaGreat
open Go.RowKit
theorem rInp_fair : Fair rInp := by
  have hv := rVal_fair 40
  refine ⟨fun s => ?_, fun s h => ?_, fun s => ?_, fun s => ?_⟩
  · unfold rInp
    split
    · exact rByte_len s
    · exact Nat.le_trans (hv.len _) (rByte_len s)
  · unfold rInp at h ⊢
    split
    · exact rByte_dep s
    · rename_i hc
      rw [if_neg hc] at h
      exact (hv.dep _ h).trans (rByte_dep s)
  · unfold rInp
    split
    · exact Nat.le_of_eq (rByte_dep s).symm
    · have := hv.up (rByte s).2; rw [rByte_dep] at this; exact this
  · unfold rInp
    split
    · rw [rByte_dep]; exact Nat.le_succ _
    · have := hv.top (rByte s).2; rw [rByte_dep] at this; exact this
set_option maxRecDepth 100000 in
set_option maxHeartbeats 4000000 in
theorem inputR_ag (b : Nat) (s : RS) (hd : s.dep ≤ 1000) (hl : s.l.length ≤ 1099511627776) : AG Tryz.prog 107 [.ptr 0 b 0] [rdB b s] (Gives b (.agg (rInp s).1.ts) (rInp s).2) := by
  unfold rInp
  have c1 := byte_ag b s
  have l1 := rByte_len s
  have p1 := rByte_dep s
  generalize rByte s = q1 at *
  obtain ⟨k, s1⟩ := q1
  dsimp only at c1 l1 p1 ⊢
  have c6 := valueR_ag b 40 s1 (by omega) (by omega) (by omega)
  generalize rVal 40 s1 = q6 at *
  obtain ⟨⟨kv, nv, tv, lv⟩, s6⟩ := q6
  dsimp only at c6 ⊢
  refine AG.re (R := fun r hs => Re r (.c (.agg (if k = 3 then (Inp.mk k V.zero, s1) else (Inp.mk k (.mk kv nv tv lv), s6)).1.ts)) ∧ hs = [rdB b (if k = 3 then (Inp.mk k V.zero, s1) else (Inp.mk k (.mk kv nv tv lv), s6)).2]) ?_ (fun r hs h => ⟨_, h.1, rfl, h.2⟩)
  refine ag_enter 1 tok Tryz.func107 Tryz.ntmps107 Tryz.results107 rfl (by kernel_rfl) rfl fun F => ?_
  cases d1 : decide ((k : Int) = 3)
  · have h1 : ¬ k = 3 := by have := of_decide_eq_false d1; omega
    rw [if_neg h1]
    repeat (first | refine gG ?_ | refine zAl (fun _ => ?_))
    refine zCallG [0] c1 ?_
    rintro _ _ ⟨rfl, rfl⟩
    refine ⟨_, _, re_refl, rfl, rfl, ?_⟩
    repeat (first | refine gG ?_ | refine zAl (fun _ => ?_))
    refine zCallG [0] c6 ?_
    rintro _ _ ⟨rfl, rfl⟩
    refine ⟨_, _, re_refl, rfl, rfl, ?_⟩
    repeat (first | refine gG ?_ | refine zAl (fun _ => ?_))
    refine zG ?_
    exact ⟨re_cls (by repeat (first | exact rzs_nil | apply rzs_cons | exact rz_c | exact rz_nil rfl | apply rz_agg | exact rz_own rfl | apply rz_fn | exact rz_ptr rfl | apply rz_tup)), rfl⟩
  · have h1 : k = 3 := by have := of_decide_eq_true d1; omega
    rw [if_pos h1]
    repeat (first | refine gG ?_ | refine zAl (fun _ => ?_))
    refine zCallG [0] c1 ?_
    rintro _ _ ⟨rfl, rfl⟩
    refine ⟨_, _, re_refl, rfl, rfl, ?_⟩
    repeat (first | refine gG ?_ | refine zAl (fun _ => ?_))
    refine zG ?_
    exact ⟨re_cls (by repeat (first | exact rzs_nil | apply rzs_cons | exact rz_c | exact rz_nil rfl | apply rz_agg | exact rz_own rfl | apply rz_fn | exact rz_ptr rfl | apply rz_tup)), rfl⟩
set_option maxRecDepth 100000 in
set_option maxHeartbeats 2000000 in
theorem someI_ag (b D : Nat) (g : RS → Inp × RS) (hfg : Fair g) (f : FuncId) (hg : ∀ s : RS, s.dep = D → s.l.length ≤ 1099511627776 → AG Tryz.prog f [.ptr 0 b 0] [rdB b s] (Gives b (.agg (Inp.ts (g s).1)) (g s).2))
    (s : RS) (hs : s.dep = D) (hl : s.l.length ≤ 1099511627776) :
    AG Tryz.prog 106 [.ptr 0 b 0, .own 0 (bfn f b 0)] [rdB b s] (Gives b (inpRow (rSome g s).1) (rSome g s).2) := by
  have hc := countR_ag b s
  have hcl := rCount_len s
  have hcn := rCount_le s
  have hcd := rCount_dep s
  unfold rSome
  generalize rCount s = p at *
  obtain ⟨n0, s0⟩ := p
  dsimp only at hc hcl hcn hcd ⊢
  refine ag_enter 1 tok Tryz.func106 Tryz.ntmps106 Tryz.results106 rfl (by kernel_rfl) rfl fun F => ?_
  repeat (first | refine gG ?_ | refine zAp (fun _ => ?_))
  refine zCallG [0] hc ?_
  rintro _ _ ⟨rfl, rfl⟩
  refine ⟨_, _, re_refl, rfl, rfl, ?_⟩
  repeat (first | refine gG ?_ | refine zAp (fun _ => ?_))
  refine x_own 5 122 5 rfl rfl rfl rfl rfl ?_
  refine x_loop [5, 6, 9, 10, 11, 12, 13, 14, 15, 16, 17, 18, 19, 20, 21, 22, 23, 24] (fun y : Nat × List Inp × Value × RS => [(6, .c (.lit (.int .i64 (y.1 : Int)))), (5, .own 1 y.2.2.1)]) (fun y => [rdB b y.2.2.2, .row y.2.2.1 122 5 y.2.1.length (y.2.1.flatMap Inp.ts)])
    (fun y => (y.2.2.2.bad = false → y.2.2.2.dep = D) ∧ (y.2.1 ++ (rLoop g y.1 y.2.2.2).1, (rLoop g y.1 y.2.2.2).2) = rLoop g n0 s0 ∧ y.2.1.length + y.1 ≤ 1099511627776 ∧ y.2.2.2.l.length ≤ 1099511627776) (fun y => y.1) (n0, [], .slice none 0 0, s0) ⟨fun _ => hcd.trans hs, by simp, by simp only [List.length_nil]; omega, by simp only; omega⟩ ⟨rfl, rfl, trivial⟩ rfl ?_
  rintro ⟨n, out, v, s'⟩ ⟨hd, hinv, hlen, hsl⟩
  dsimp only at hd hinv hlen hsl ⊢
  cases n with
  | zero =>
    have d1 : decide ((0 : Int) < ((0 : Nat) : Int)) = false := rfl
    simp only [rLoop, List.append_nil] at hinv
    refine x_fz 5 rfl rfl rfl rfl ?_
    repeat (first | refine gG ?_ | refine zAp (fun _ => ?_))
    refine zG ?_
    rw [← hinv]
    exact ⟨rfl, rfl⟩
  | succ n =>
    have d1 : decide ((0 : Int) < ((n + 1 : Nat) : Int)) = true := decide_eq_true (by omega)
    obtain ⟨l1, bad1, dp1⟩ := s'
    cases bad1
    · have hdd := hd rfl
      have hca := hg ⟨l1, false, dp1⟩ hdd hsl
      have hgl := hfg.len ⟨l1, false, dp1⟩
      have hgd := hfg.dep ⟨l1, false, dp1⟩
      simp only [rLoop, Bool.false_eq_true, if_false] at hinv
      dsimp only at hdd hgl hgd
      generalize g ⟨l1, false, dp1⟩ = q at *
      obtain ⟨⟨kd, ⟨kv, nv, tv, lv⟩⟩, s2⟩ := q
      dsimp only at hinv hca hgl hgd
      repeat (first | refine gG ?_ | refine zAp (fun _ => ?_))
      refine zCallGb [0] hca ?_
      rintro _ _ ⟨rfl, rfl⟩
      refine ⟨_, _, re_refl, rfl, rfl, ?_⟩
      repeat (first | refine gG ?_ | refine zAp (fun _ => ?_))
      refine lo_sub rfl rfl (r := (n : Int)) (by rw [IntWalk.i64_in _ (by omega)]; omega) ?_
      repeat (first | refine gG ?_ | refine zAp (fun _ => ?_))
      exact ⟨(n, out ++ [⟨kd, ⟨kv, nv, tv, lv⟩⟩], _, s2), ⟨fun h => (hgd h).trans hdd, by simpa using hinv, by simp only [List.length_append, List.length_cons, List.length_nil]; omega, by simp only at hsl ⊢; omega⟩, by simp only; omega, x_wkd 2 ⟨rfl, rfl, trivial⟩ (by simp only [List.flatMap_append, List.flatMap_cons, List.flatMap_nil, List.append_nil, List.length_append, List.length_cons, List.length_nil]; rfl) (by repeat (first | exact ag_refl | refine ag_upd rfl ?_ | refine ag_at rfl rfl ?_))⟩
    · simp only [rLoop, if_true, List.append_nil] at hinv
      refine x_fz 5 rfl rfl rfl rfl ?_
      repeat (first | refine gG ?_ | refine zAp (fun _ => ?_))
      refine zG ?_
      rw [← hinv]
      exact ⟨rfl, rfl⟩
set_option maxRecDepth 100000 in
set_option maxHeartbeats 4000000 in
theorem savedR_ag (b : Nat) (s : RS) (hd : s.dep ≤ 900) (hl : s.l.length ≤ 1099511627776) : AG Tryz.prog 83 [.ptr 0 b 0] [rdB b s] (Gives b (rSav s).1.t (rSav s).2) := by
  unfold rSav
  have c1 := textR_ag b s
  have l1 := rText_len s
  have p1 := rText_dep s
  generalize rText s = q1 at *
  obtain ⟨t, s1⟩ := q1
  dsimp only at c1 l1 p1 ⊢
  have c2 := someV_ag b s1.dep (rVal 40) (rVal_fair 40) 105 (fun s' h' hl' => valueR_ag b 40 s' (by omega) (by omega) hl') s1 rfl (by omega)
  have l2 := (rSome_fair (rVal_fair 40)).len s1
  have p2 := (rSome_fair (rVal_fair 40)).top s1
  generalize rSome (rVal 40) s1 = q2 at *
  obtain ⟨a, s2⟩ := q2
  dsimp only at c2 l2 p2 ⊢
  have c3 := someI_ag b s2.dep rInp rInp_fair 107 (fun s' h' hl' => inputR_ag b s' (by omega) hl') s2 rfl (by omega)
  generalize rSome rInp s2 = q3 at *
  obtain ⟨ip, s3⟩ := q3
  dsimp only at c3 ⊢
  refine AG.re (R := fun r hs => Re r (.c (Sav.mk (bs t) a ip).t) ∧ hs = [rdB b s3]) ?_ (fun r hs h => ⟨_, h.1, rfl, h.2⟩)
  refine ag_enter 1 tok Tryz.func83 Tryz.ntmps83 Tryz.results83 rfl (by kernel_rfl) rfl fun F => ?_
  repeat (first | refine gG ?_ | refine zAl (fun _ => ?_))
  refine ac_draw [0, 0, 0, 2, 0, 0, 0, 0, 0, 2, 0, 0, 0, 0, 0, 2, 0, 2] [0, 1, 2, 4, 5, 6, 7, 8, 10, 11, 12, 13, 14, 3, 9, 15, 16, 17] (by kernel_rfl) (by kernel_rfl) ?_
  refine gW ?_
  apply w_p; (focus exact rfl); (focus exact rfl); focus (intro _; (refine zMf ?_); exact det_refl)
  refine gW ?_
  apply w_p; (focus exact rfl); (focus exact rfl); focus (intro _; (refine zMf ?_); exact det_refl)
  apply w_l; (focus exact rfl); (focus exact rfl); (refine zCallG [0] c1 ?_; rintro _ _ ⟨rfl, rfl⟩; refine ⟨_, _, re_refl, rfl, rfl, ?_⟩)
  apply w_l; (focus exact rfl); (focus exact rfl); (refine zCallG [0] c2 ?_; rintro _ _ ⟨rfl, rfl⟩; refine ⟨_, _, re_refl, rfl, rfl, ?_⟩)
  apply w_l; (focus exact rfl); (focus exact rfl); (refine zCallG [0] c3 ?_; rintro _ _ ⟨rfl, rfl⟩; refine ⟨_, _, re_refl, rfl, rfl, ?_⟩)
  refine gW ?_
  apply w_l; (focus exact rfl); (focus exact rfl); (first | (refine zkL ?_; first | refine zL1 ?_ | refine zL2 ?_ | refine zL3 ?_ | refine zLp ?_) | refine zM ?_ | (refine zkF ?_; first | refine zF1 ?_ | refine zF2 ?_ | refine zF3 ?_) | refine zA ?_ | (refine zkB ?_; first | refine zC5 ?_ | refine zC6 ?_ | refine zC1 ?_ | refine zC2 ?_ | refine zC3 ?_ | refine zC4 ?_ | refine zS5 ?_ | refine zS6 ?_ | refine zS1 ?_ | refine zS2 ?_ | refine zS3 ?_ | refine zS4 ?_ | refine zInc ?_ | refine zQ1 ?_ | refine zQ2 ?_ | refine zQ3 ?_ | refine zQ4 ?_ | refine zQ5 ?_ | refine zQ6 ?_) | (refine zkI ?_; first | refine zN1 (fun hlen => ?_) | refine zN2 (fun hlen => ?_) | refine zN3 ?_ | refine zN4 ?_ | refine zAp (fun _ => ?_)) | refine zS ?_ | refine zAl (fun _ => ?_) | refine zBx (fun _ => ?_) | refine zPt ?_ | refine zPf ?_ | refine zE ?_ | refine zEA ?_ | refine zNot ?_ | refine zBd ?_ | refine zBs ?_ | refine zFn ?_ | refine zK1 ?_ | refine zK2 ?_)
  refine w_nil ?_
  repeat (first | refine gG ?_ | refine zAl (fun _ => ?_))
  refine zG ?_
  exact ⟨re_cls (by repeat (first | exact rzs_nil | apply rzs_cons | exact rz_c | exact rz_nil rfl | apply rz_agg | exact rz_own rfl | apply rz_fn | exact rz_ptr rfl | apply rz_tup)), rfl⟩
end Go.Proofs.YthgackidonocpaaGreat
namespace Go.Proofs.YthgackidonocpaaGreat
open Go.RowKit
theorem tInp_eq (s : TS) : tInp s = if (tOne s).1 = 3 then (⟨(tOne s).1, V.zero⟩, (tOne s).2) else (⟨(tOne s).1, (tWhole (tOne s).2).1⟩, (tWhole (tOne s).2).2) := rfl
theorem tRep_stop {α : Type} {g : TS → α × TS} {n : Nat} {s : TS} (h : (decide ((0 : Int) < (n : Int)) && s.ok) = false) : tRep g n s = ([], s) := by
  cases n with
  | zero => rfl
  | succ n =>
    have : s.ok = false := by simpa [decide_eq_true (show (0 : Int) < ((n + 1 : Nat) : Int) by omega)] using h
    rw [tRep, if_neg (by rw [this]; decide)]
theorem tRep_go {α : Type} {g : TS → α × TS} {n : Nat} {s : TS} (h : (decide ((0 : Int) < (n : Int)) && s.ok) = true) : ∃ m, n = m + 1 ∧ s.ok = true ∧ tRep g n s = ((g s).1 :: (tRep g m (g s).2).1, (tRep g m (g s).2).2) := by
  cases n with
  | zero => simp at h
  | succ n =>
    have hs : s.ok = true := by rw [Bool.and_eq_true] at h; exact h.2
    exact ⟨n, rfl, hs, by rw [tRep, if_pos hs]⟩
set_option maxRecDepth 100000 in
set_option maxHeartbeats 4000000 in
theorem savedT_ag (b : Nat) (s : TS) (hl : s.l.length ≤ 2097152) : AG Tryz.prog 44 [.ptr 0 b 0] [tkB b s] (Takes b (tSav s).1.t (tSav s).2) := by
  unfold tSav
  have c1 := ttext_ag b s
  have g1 := (tText_et s).1
  generalize tText s = q1 at *
  obtain ⟨t, s1⟩ := q1
  dsimp only at c1 g1 ⊢
  unfold tVals
  have c2 := tnat_ag b s1
  have n2 := tNat_lt s1
  have g2 := (tNat_et s1).1
  generalize tNat s1 = q2 at *
  obtain ⟨m2, s2⟩ := q2
  dsimp only at c2 n2 g2 ⊢
  have g3 := (tRep_dn tWhole_et m2 s2).1.1
  generalize hq3 : tRep tWhole m2 s2 = q3 at *
  obtain ⟨vs, s3⟩ := q3
  dsimp only at g3 ⊢
  unfold tInps
  have c4 := tnat_ag b s3
  have n4 := tNat_lt s3
  have g4 := (tNat_et s3).1
  generalize tNat s3 = q4 at *
  obtain ⟨m4, s4⟩ := q4
  dsimp only at c4 n4 g4 ⊢
  generalize hq5 : tRep tInp m4 s4 = q5 at *
  obtain ⟨is, s5⟩ := q5
  dsimp only
  refine AG.re (R := fun r hs => Re r (.c (Sav.mk (bs t) vs is).t) ∧ hs = [tkB b s5]) ?_ (fun r hs h => ⟨_, h.1, rfl, h.2⟩)
  refine ag_enter 1 tok Tryz.func44 Tryz.ntmps44 Tryz.results44 rfl (by kernel_rfl) rfl fun F => ?_
  repeat (first | refine gG ?_ | refine zAl (fun _ => ?_) | refine zAp (fun _ => ?_))
  refine zCallG [0] c1 ?_
  rintro _ _ ⟨rfl, rfl⟩
  refine ⟨_, _, re_refl, rfl, rfl, ?_⟩
  repeat (first | refine gG ?_ | refine zAl (fun _ => ?_) | refine zAp (fun _ => ?_))
  refine zCallG [0] c2 ?_
  rintro _ _ ⟨rfl, rfl⟩
  refine ⟨_, _, re_refl, rfl, rfl, ?_⟩
  repeat (first | refine gG ?_ | refine zAl (fun _ => ?_) | refine zAp (fun _ => ?_))
  rename_i b2 b3
  refine x_own_cell 2 1 61 4 rfl rfl rfl rfl rfl rfl ?_
  refine x_loop [4, 12, 13, 14, 15, 16, 17, 18, 19, 20, 21, 22, 23, 24, 25, 26, 27, 28] (fun y : Nat × List V × Value × TS => [(4, .c (.lit (.int .i64 (y.1 : Int))))]) (fun y => [tkB b y.2.2.2, .box b2 49 [.c (.lit (.string ⟨#[]⟩)), .c (.lit (.slice none 0 0)), .c (.lit (.slice none 0 0))], .box b3 49 [.c (.lit (.string (bs t))), .own 3 y.2.2.1, .c (.lit (.slice none 0 0))], .row y.2.2.1 61 4 y.2.1.length (V.all y.2.1)])
    (fun y => y.1 ≤ 9223372036854775807 ∧ (y.2.2.2.ok = true → y.2.1.length + y.2.2.2.l.length ≤ 2097152) ∧ (y.2.1 ++ (tRep tWhole y.1 y.2.2.2).1, (tRep tWhole y.1 y.2.2.2).2) = (vs, s3)) (fun y => y.1) (m2, [], .slice none 0 0, s2) ⟨n2, fun _ => by simp only [List.length_nil]; omega, by simp only [List.nil_append, hq3]⟩ ⟨rfl, trivial⟩ rfl ?_
  rintro ⟨j, out, v, s'⟩ ⟨h1, h2, hinv⟩
  dsimp only at h1 h2 hinv ⊢
  refine ac_seq ?_
  refine ac_seq ?_
  refine x_join [12, 13, 14, 15, 16, 17, 18, 19] (fun y : {c : Bool // c = (decide ((0 : Int) < (j : Int)) && s'.ok)} => [(19, .c (.lit (.bool y.1)))]) (fun _ => [tkB b s', .box b2 49 [.c (.lit (.string ⟨#[]⟩)), .c (.lit (.slice none 0 0)), .c (.lit (.slice none 0 0))], .box b3 49 [.c (.lit (.string (bs t))), .own 3 v, .c (.lit (.slice none 0 0))], .row v 61 4 out.length (V.all out)]) ?_ ?_
  rotate_left
  · cases d1 : decide ((0 : Int) < (j : Int))
    · refine ac_region ?_
      repeat (first | refine gO ?_ | refine zAl (fun _ => ?_) | refine zAp (fun _ => ?_))
      exact ⟨⟨false, by simp⟩, x_wkd 4 ⟨rfl, trivial⟩ rfl (by repeat (first | exact ag_refl | refine ag_upd rfl ?_ | refine ag_at rfl rfl ?_))⟩
    · refine ac_region ?_
      repeat (first | refine gO ?_ | refine zAl (fun _ => ?_) | refine zAp (fun _ => ?_))
      exact ⟨⟨s'.ok, by simp⟩, x_wkd 4 ⟨rfl, trivial⟩ rfl (by repeat (first | exact ag_refl | refine ag_upd rfl ?_ | refine ag_at rfl rfl ?_))⟩
  rintro ⟨c, hc⟩
  dsimp only
  cases c
  rotate_left
  · obtain ⟨j', rfl, hok, hrep⟩ := tRep_go (g := tWhole) hc.symm
    have hb := h2 hok
    have hca := whole_ag b s'
    have he := tWhole_et s'
    rw [hrep] at hinv
    generalize tWhole s' = q at *
    obtain ⟨⟨kv, nv, tv, lv⟩, s2'⟩ := q
    dsimp only at hinv hca he
    repeat (first | refine gG ?_ | refine zAl (fun _ => ?_) | refine zAp (fun _ => ?_))
    refine ac_drawT [0, 2, 0, 2, 0, 2, 0, 2] (.fork [0, 2] 1 (.fin [3, 4, 5, 6, 7]) 3 (.fin [4, 1, 5, 6, 7])) (by kernel_rfl) (by kernel_rfl) ?_
    refine wt_fork ?_
    refine gW ?_
    refine w_nil ?_
    refine ⟨?_, ?_⟩
    · apply w_l; (focus exact rfl); (focus exact rfl); (first | refine zL1 ?_ | refine zL2 ?_ | refine zL3 ?_ | refine zLp ?_)
      refine w_nil ?_
      refine wt_fin ?_
      apply w_l; (focus exact rfl); (focus exact rfl); (refine zCallG [0] hca ?_; rintro _ _ ⟨rfl, rfl⟩; refine ⟨_, _, re_refl, rfl, rfl, ?_⟩)
      refine gW ?_
      apply w_l; (focus exact rfl); (focus exact rfl); (first | (refine zkL ?_; first | refine zL1 ?_ | refine zL2 ?_ | refine zL3 ?_ | refine zLp ?_) | refine zM ?_ | (refine zkF ?_; first | refine zF1 ?_ | refine zF2 ?_ | refine zF3 ?_) | refine zA ?_ | (refine zkB ?_; first | refine zC5 ?_ | refine zC6 ?_ | refine zC1 ?_ | refine zC2 ?_ | refine zC3 ?_ | refine zC4 ?_ | refine zS5 ?_ | refine zS6 ?_ | refine zS1 ?_ | refine zS2 ?_ | refine zS3 ?_ | refine zS4 ?_ | refine zInc ?_ | refine zQ1 ?_ | refine zQ2 ?_ | refine zQ3 ?_ | refine zQ4 ?_ | refine zQ5 ?_ | refine zQ6 ?_) | (refine zkI ?_; first | refine zN1 (fun hlen => ?_) | refine zN2 (fun hlen => ?_) | refine zN3 ?_ | refine zN4 ?_ | refine zAp (fun _ => ?_)) | refine zS ?_ | refine zAl (fun _ => ?_) | refine zBx (fun _ => ?_) | refine zPt ?_ | refine zPf ?_ | refine zE ?_ | refine zEA ?_ | refine zNot ?_ | refine zBd ?_ | refine zBs ?_ | refine zFn ?_ | refine zK1 ?_ | refine zK2 ?_)
      refine gW ?_
      apply w_l; (focus exact rfl); (focus exact rfl); (first | (refine zkL ?_; first | refine zL1 ?_ | refine zL2 ?_ | refine zL3 ?_ | refine zLp ?_) | refine zM ?_ | (refine zkF ?_; first | refine zF1 ?_ | refine zF2 ?_ | refine zF3 ?_) | refine zA ?_ | (refine zkB ?_; first | refine zC5 ?_ | refine zC6 ?_ | refine zC1 ?_ | refine zC2 ?_ | refine zC3 ?_ | refine zC4 ?_ | refine zS5 ?_ | refine zS6 ?_ | refine zS1 ?_ | refine zS2 ?_ | refine zS3 ?_ | refine zS4 ?_ | refine zInc ?_ | refine zQ1 ?_ | refine zQ2 ?_ | refine zQ3 ?_ | refine zQ4 ?_ | refine zQ5 ?_ | refine zQ6 ?_) | (refine zkI ?_; first | refine zN1 (fun hlen => ?_) | refine zN2 (fun hlen => ?_) | refine zN3 ?_ | refine zN4 ?_ | refine zAp (fun _ => ?_)) | refine zS ?_ | refine zAl (fun _ => ?_) | refine zBx (fun _ => ?_) | refine zPt ?_ | refine zPf ?_ | refine zE ?_ | refine zEA ?_ | refine zNot ?_ | refine zBd ?_ | refine zBs ?_ | refine zFn ?_ | refine zK1 ?_ | refine zK2 ?_)
      refine w_nil ?_
      repeat (first | refine gG ?_ | refine zAl (fun _ => ?_) | refine zAp (fun _ => ?_))
      refine lo_sub rfl rfl (r := (j' : Int)) (by rw [IntWalk.i64_in _ (by omega)]; omega) ?_
      repeat (first | refine gG ?_ | refine zAl (fun _ => ?_) | refine zAp (fun _ => ?_))
      exact ⟨(j', out ++ [.mk kv nv tv lv], _, s2'), ⟨by simp only; omega, fun ho => by have := (he.2 ho).2; simp only [List.length_append, List.length_cons, List.length_nil]; omega, by simpa using hinv⟩, by simp only; omega, x_wkd 4 ⟨rfl, trivial⟩ (by simp only [V.all_app, V.all_one, List.length_append, List.length_cons, List.length_nil]; rfl) (by repeat (first | exact ag_refl | refine ag_upd rfl ?_ | refine ag_at rfl rfl ?_))⟩
    · apply w_l; (focus exact rfl); (focus exact rfl); (refine zCallG [0] hca ?_; rintro _ _ ⟨rfl, rfl⟩; refine ⟨_, _, re_refl, rfl, rfl, ?_⟩)
      refine w_nil ?_
      refine wt_fin ?_
      refine gW ?_
      apply w_l; (focus exact rfl); (focus exact rfl); (first | refine zL1 ?_ | refine zL2 ?_ | refine zL3 ?_ | refine zLp ?_)
      apply w_l; (focus exact rfl); (focus exact rfl); (first | (refine zkL ?_; first | refine zL1 ?_ | refine zL2 ?_ | refine zL3 ?_ | refine zLp ?_) | refine zM ?_ | (refine zkF ?_; first | refine zF1 ?_ | refine zF2 ?_ | refine zF3 ?_) | refine zA ?_ | (refine zkB ?_; first | refine zC5 ?_ | refine zC6 ?_ | refine zC1 ?_ | refine zC2 ?_ | refine zC3 ?_ | refine zC4 ?_ | refine zS5 ?_ | refine zS6 ?_ | refine zS1 ?_ | refine zS2 ?_ | refine zS3 ?_ | refine zS4 ?_ | refine zInc ?_ | refine zQ1 ?_ | refine zQ2 ?_ | refine zQ3 ?_ | refine zQ4 ?_ | refine zQ5 ?_ | refine zQ6 ?_) | (refine zkI ?_; first | refine zN1 (fun hlen => ?_) | refine zN2 (fun hlen => ?_) | refine zN3 ?_ | refine zN4 ?_ | refine zAp (fun _ => ?_)) | refine zS ?_ | refine zAl (fun _ => ?_) | refine zBx (fun _ => ?_) | refine zPt ?_ | refine zPf ?_ | refine zE ?_ | refine zEA ?_ | refine zNot ?_ | refine zBd ?_ | refine zBs ?_ | refine zFn ?_ | refine zK1 ?_ | refine zK2 ?_)
      refine gW ?_
      apply w_l; (focus exact rfl); (focus exact rfl); (first | (refine zkL ?_; first | refine zL1 ?_ | refine zL2 ?_ | refine zL3 ?_ | refine zLp ?_) | refine zM ?_ | (refine zkF ?_; first | refine zF1 ?_ | refine zF2 ?_ | refine zF3 ?_) | refine zA ?_ | (refine zkB ?_; first | refine zC5 ?_ | refine zC6 ?_ | refine zC1 ?_ | refine zC2 ?_ | refine zC3 ?_ | refine zC4 ?_ | refine zS5 ?_ | refine zS6 ?_ | refine zS1 ?_ | refine zS2 ?_ | refine zS3 ?_ | refine zS4 ?_ | refine zInc ?_ | refine zQ1 ?_ | refine zQ2 ?_ | refine zQ3 ?_ | refine zQ4 ?_ | refine zQ5 ?_ | refine zQ6 ?_) | (refine zkI ?_; first | refine zN1 (fun hlen => ?_) | refine zN2 (fun hlen => ?_) | refine zN3 ?_ | refine zN4 ?_ | refine zAp (fun _ => ?_)) | refine zS ?_ | refine zAl (fun _ => ?_) | refine zBx (fun _ => ?_) | refine zPt ?_ | refine zPf ?_ | refine zE ?_ | refine zEA ?_ | refine zNot ?_ | refine zBd ?_ | refine zBs ?_ | refine zFn ?_ | refine zK1 ?_ | refine zK2 ?_)
      refine w_nil ?_
      repeat (first | refine gG ?_ | refine zAl (fun _ => ?_) | refine zAp (fun _ => ?_))
      refine lo_sub rfl rfl (r := (j' : Int)) (by rw [IntWalk.i64_in _ (by omega)]; omega) ?_
      repeat (first | refine gG ?_ | refine zAl (fun _ => ?_) | refine zAp (fun _ => ?_))
      exact ⟨(j', out ++ [.mk kv nv tv lv], _, s2'), ⟨by simp only; omega, fun ho => by have := (he.2 ho).2; simp only [List.length_append, List.length_cons, List.length_nil]; omega, by simpa using hinv⟩, by simp only; omega, x_wkd 4 ⟨rfl, trivial⟩ (by simp only [V.all_app, V.all_one, List.length_append, List.length_cons, List.length_nil]; rfl) (by repeat (first | exact ag_refl | refine ag_upd rfl ?_ | refine ag_at rfl rfl ?_))⟩
  · rw [tRep_stop hc.symm] at hinv
    simp only [List.append_nil, Prod.mk.injEq] at hinv
    obtain ⟨rfl, rfl⟩ := hinv
    refine x_fzc 2 1 ?_
    repeat (first | refine gG ?_ | refine zAl (fun _ => ?_) | refine zAp (fun _ => ?_))
    refine zCallG [0] c4 ?_
    rintro _ _ ⟨rfl, rfl⟩
    refine ⟨_, _, re_refl, rfl, rfl, ?_⟩
    repeat (first | refine gG ?_ | refine zAl (fun _ => ?_) | refine zAp (fun _ => ?_))
    refine x_own_cell 2 2 122 5 rfl rfl rfl rfl rfl rfl ?_
    refine x_loop [5, 6, 31, 32, 33, 34, 35, 36, 37, 38, 39, 40, 41, 42, 43, 44, 45, 46, 47, 48, 49, 50, 51, 52, 53, 54, 55] (fun y : Nat × List Inp × Value × TS => [(5, .c (.lit (.int .i64 (y.1 : Int))))]) (fun y => [tkB b y.2.2.2, .box b2 49 [.c (.lit (.string ⟨#[]⟩)), .c (.lit (.slice none 0 0)), .c (.lit (.slice none 0 0))], .box b3 49 [.c (.lit (.string (bs t))), .c (.row out.length 4 (V.all out)), .own 4 y.2.2.1], .dead, .row y.2.2.1 122 5 y.2.1.length (y.2.1.flatMap Inp.ts)]) 
      (fun y => y.1 ≤ 9223372036854775807 ∧ (y.2.2.2.ok = true → y.2.1.length + y.2.2.2.l.length ≤ 2097152) ∧ (y.2.1 ++ (tRep tInp y.1 y.2.2.2).1, (tRep tInp y.1 y.2.2.2).2) = (is, s5)) (fun y => y.1) (m4, [], .slice none 0 0, s4) ⟨n4, fun _ => by simp only [List.length_nil]; omega, by simp only [List.nil_append, hq5]⟩ ⟨rfl, trivial⟩ rfl ?_
    clear hc h2 v h1
    rintro ⟨j, out', v, s'⟩ ⟨h1, h2, hinv⟩
    dsimp only at h1 h2 hinv ⊢
    refine ac_seq ?_
    refine ac_seq ?_
    refine x_join [31, 32, 33, 34, 35, 36, 37, 38] (fun y : {c : Bool // c = (decide ((0 : Int) < (j : Int)) && s'.ok)} => [(38, .c (.lit (.bool y.1)))]) (fun _ => [tkB b s', .box b2 49 [.c (.lit (.string ⟨#[]⟩)), .c (.lit (.slice none 0 0)), .c (.lit (.slice none 0 0))], .box b3 49 [.c (.lit (.string (bs t))), .c (.row out.length 4 (V.all out)), .own 4 v], .dead, .row v 122 5 out'.length (out'.flatMap Inp.ts)]) ?_ ?_
    rotate_left
    · cases d1 : decide ((0 : Int) < (j : Int))
      · refine ac_region ?_
        repeat (first | refine gO ?_ | refine zAl (fun _ => ?_) | refine zAp (fun _ => ?_))
        exact ⟨⟨false, by simp⟩, x_wkd 5 ⟨rfl, trivial⟩ rfl (by repeat (first | exact ag_refl | refine ag_upd rfl ?_ | refine ag_at rfl rfl ?_))⟩
      · refine ac_region ?_
        repeat (first | refine gO ?_ | refine zAl (fun _ => ?_) | refine zAp (fun _ => ?_))
        exact ⟨⟨s'.ok, by simp⟩, x_wkd 5 ⟨rfl, trivial⟩ rfl (by repeat (first | exact ag_refl | refine ag_upd rfl ?_ | refine ag_at rfl rfl ?_))⟩
    rintro ⟨c, hc⟩
    dsimp only
    cases c
    rotate_left
    · obtain ⟨j', rfl, hok, hrep⟩ := tRep_go (g := tInp) hc.symm
      have hb := h2 hok
      have he := tInp_et s'
      rw [hrep] at hinv
      rw [tInp_eq s'] at hinv he
      have hca := one_ag b s'
      generalize tOne s' = q at *
      obtain ⟨k, s2'⟩ := q
      dsimp only at hinv hca he
      have hcw := whole_ag b s2'
      generalize tWhole s2' = q at *
      obtain ⟨⟨kv, nv, tv, lv⟩, s3'⟩ := q
      dsimp only at hinv hcw he
      by_cases hk : k = 3
      · have d1 : decide ((k : Int) = 3) = true := decide_eq_true (by omega)
        rw [if_pos hk] at hinv he
        repeat (first | refine gG ?_ | refine zAl (fun _ => ?_) | refine zAp (fun _ => ?_))
        refine zCallG [0] hca ?_
        rintro _ _ ⟨rfl, rfl⟩
        refine ⟨_, _, re_refl, rfl, rfl, ?_⟩
        repeat (first | refine gO ?_ | refine zAl (fun _ => ?_) | refine zAp (fun _ => ?_))
        refine x_cells 5 [.lit (.int .i64 (k : Int)), .lit (.int .i64 0), .lit (.int .i64 0), .lit (.string ⟨#[]⟩), V.row []] ?_
        repeat (first | refine gG ?_ | refine zAl (fun _ => ?_) | refine zAp (fun _ => ?_))
        refine lo_sub rfl rfl (r := (j' : Int)) (by rw [IntWalk.i64_in _ (by omega)]; omega) ?_
        repeat (first | refine gG ?_ | refine zAl (fun _ => ?_) | refine zAp (fun _ => ?_))
        exact ⟨(j', out' ++ [⟨k, V.zero⟩], _, s2'), ⟨by simp only; omega, fun ho => by have := (he.2 ho).2; simp only [List.length_append, List.length_cons, List.length_nil] at this ⊢; omega, by simpa using hinv⟩, by simp only; omega, x_wkd 5 ⟨rfl, trivial⟩ (by simp only [List.flatMap_append, List.flatMap_cons, List.flatMap_nil, List.append_nil, List.length_append, List.length_cons, List.length_nil]; rfl) (by repeat (first | exact ag_refl | refine ag_upd rfl ?_ | refine ag_at rfl rfl ?_))⟩
      · have d1 : decide ((k : Int) = 3) = false := decide_eq_false (by omega)
        rw [if_neg hk] at hinv he
        repeat (first | refine gG ?_ | refine zAl (fun _ => ?_) | refine zAp (fun _ => ?_))
        refine zCallG [0] hca ?_
        rintro _ _ ⟨rfl, rfl⟩
        refine ⟨_, _, re_refl, rfl, rfl, ?_⟩
        repeat (first | refine gG ?_ | refine zAl (fun _ => ?_) | refine zAp (fun _ => ?_))
        refine zCallG [0] hcw ?_
        rintro _ _ ⟨rfl, rfl⟩
        refine ⟨_, _, re_refl, rfl, rfl, ?_⟩
        repeat (first | refine gG ?_ | refine zAl (fun _ => ?_) | refine zAp (fun _ => ?_))
        refine lo_sub rfl rfl (r := (j' : Int)) (by rw [IntWalk.i64_in _ (by omega)]; omega) ?_
        repeat (first | refine gG ?_ | refine zAl (fun _ => ?_) | refine zAp (fun _ => ?_))
        exact ⟨(j', out' ++ [⟨k, .mk kv nv tv lv⟩], _, s3'), ⟨by simp only; omega, fun ho => by have := (he.2 ho).2; simp only [List.length_append, List.length_cons, List.length_nil] at this ⊢; omega, by simpa using hinv⟩, by simp only; omega, x_wkd 5 ⟨rfl, trivial⟩ (by simp only [List.flatMap_append, List.flatMap_cons, List.flatMap_nil, List.append_nil, List.length_append, List.length_cons, List.length_nil]; rfl) (by repeat (first | exact ag_refl | refine ag_upd rfl ?_ | refine ag_at rfl rfl ?_))⟩
    · rw [tRep_stop hc.symm] at hinv
      simp only [List.append_nil, Prod.mk.injEq] at hinv
      obtain ⟨rfl, rfl⟩ := hinv
      refine x_fzc 2 2 ?_
      repeat (first | refine gG ?_ | refine zAl (fun _ => ?_) | refine zAp (fun _ => ?_))
      refine zG ?_
      exact ⟨re_cls (by repeat (first | exact rzs_nil | apply rzs_cons | exact rz_c | exact rz_nil rfl | apply rz_agg | exact rz_own rfl | apply rz_fn | exact rz_ptr rfl | apply rz_tup)), rfl⟩
end Go.Proofs.YthgackidonocpaaGreat
namespace Go.Proofs.YthgackidonocpaaGreat
open Go.RowKit
def intTs (i : Int) : List T := [.lit (.int .i64 i)]
def intRow (l : List Int) : T := .row l.length 1 (l.flatMap intTs)
def letRow (l : List Lt) : T := .row l.length 9 (l.flatMap Lt.ts)
structure Par where
  ref : Int
  sav : Sav
  box : List Lt
  ticks : Int
  wat : List Int
  lnk : List Int
def Par.ts (p : Par) : List T := [.lit (.int .i64 p.ref), .lit (.string p.sav.actor), V.row p.sav.state, inpRow p.sav.inputs, letRow p.box, .lit (.int .i64 p.ticks), intRow p.wat, intRow p.lnk]
def Par.t (p : Par) : T := .agg p.ts
theorem Par.ts_len (p : Par) : p.ts.length = 8 := rfl
def low1 (n : Int) : Bool := decide (n < 1)
def Par.check (p : Par) : Int :=
  if (decide (p.ref < 1) || decide (p.ticks < -1)) = true then 3
  else if (decide ((60 : Int) < (p.box.length : Int)) || decide ((1000 : Int) < (p.wat.length : Int)) || decide ((1000 : Int) < (p.lnk.length : Int))) = true then 2
  else if ¬ p.sav.check = 0 then p.sav.check
  else if ¬ errs (p.box.map Lt.check) = 0 then errs (p.box.map Lt.check)
  else if (p.wat.any low1 || p.lnk.any low1) = true then 3 else 0
def nb (n : Int) : List UInt8 := uv n.toNat
def Par.bytes (p : Par) : List UInt8 := uv p.ref.toNat ++ (p.sav.bytes ++ (uv p.box.length ++ (p.box.flatMap Lt.bytes ++ (uv (zz p.ticks) ++ (uv p.wat.length ++ (p.wat.flatMap nb ++ (uv p.lnk.length ++ p.lnk.flatMap nb)))))))
structure Par.Right (p : Par) : Prop where
  ref : 1 ≤ p.ref
  sav : p.sav.check = 0
  box : ∀ x ∈ p.box, x.check = 0
  boxes : p.box.length ≤ 60
  wat : ∀ n ∈ p.wat, 1 ≤ n
  lnk : ∀ n ∈ p.lnk, 1 ≤ n
  wats : p.wat.length ≤ 1000
  lnks : p.lnk.length ≤ 1000
theorem low_all {l : List Int} (h : l.any low1 = false) : ∀ n ∈ l, 1 ≤ n := by
  intro n hn
  rw [List.any_eq_false] at h
  have := h n hn
  simp only [low1, decide_eq_true_eq] at this
  omega
theorem Par.right {p : Par} (h : p.check = 0) : p.Right := by
  unfold Par.check at h
  split at h
  · omega
  · rename_i h1
    split at h
    · omega
    · rename_i h2
      split at h
      · rename_i h3; exact absurd h h3
      · rename_i h3
        split at h
        · rename_i h4; exact absurd h h4
        · rename_i h4
          split at h
          · omega
          · rename_i h5
            simp only [Bool.or_eq_true, decide_eq_true_eq, not_or] at h1 h2
            simp only [Bool.not_eq_true, Bool.or_eq_false_iff] at h5
            exact ⟨by omega, by omega, errs_zero Lt.check (by omega), by omega, low_all h5.1, low_all h5.2, by omega, by omega⟩
def rNatI (s : RS) : Int × RS := (((rNat s).1 : Int), (rNat s).2)
def rPar (s : RS) : Par × RS :=
  let p1 := rNat s
  let p2 := rSav p1.2
  let p3 := rSome rLet p2.2
  let p4 := rInt p3.2
  let p5 := rSome rNatI p4.2
  let p6 := rSome rNatI p5.2
  (⟨p1.1, p2.1, p3.1, p4.1, p5.1, p6.1⟩, p6.2)
theorem rNatI_ok : Reads rNatI nb fun n => 0 ≤ n ∧ inI n := by
  intro s x s' h hb
  unfold rNatI at h
  generalize e : rNat s = p at h
  obtain ⟨x1, s1⟩ := p
  simp only [Prod.mk.injEq] at h
  obtain ⟨rfl, rfl⟩ := h
  obtain ⟨g1, g2⟩ := rNat_ok e hb
  exact ⟨by simpa [nb] using g1, by simp only [inI]; omega⟩
theorem rNatI_to {n : Int} (h : 0 ≤ n) (hn : inI n) (r : List UInt8) : rNatI ⟨nb n ++ r, false, 0⟩ = (n, ⟨r, false, 0⟩) := by
  unfold inI at hn
  unfold rNatI nb
  rw [rNat_to n.toNat r 0 (by omega)]
  simp only [nat_int h]
def Par.fine (p : Par) : Prop := inI p.ref ∧ p.sav.fine ∧ (∀ x ∈ p.box, x.fine) ∧ inI p.ticks ∧ (∀ n ∈ p.wat, 0 ≤ n ∧ inI n) ∧ ∀ n ∈ p.lnk, 0 ≤ n ∧ inI n
theorem rPar_ok : Reads rPar Par.bytes Par.fine := by
  intro s x s' h hb
  unfold rPar at h
  dsimp only at h
  generalize e1 : rNat s = p1 at h
  obtain ⟨x1, s1⟩ := p1
  dsimp only at h
  generalize e2 : rSav s1 = p2 at h
  obtain ⟨x2, s2⟩ := p2
  dsimp only at h
  generalize e3 : rSome rLet s2 = p3 at h
  obtain ⟨x3, s3⟩ := p3
  dsimp only at h
  generalize e4 : rInt s3 = p4 at h
  obtain ⟨x4, s4⟩ := p4
  dsimp only at h
  generalize e5 : rSome rNatI s4 = p5 at h
  obtain ⟨x5, s5⟩ := p5
  dsimp only at h
  generalize e6 : rSome rNatI s5 = p6 at h
  obtain ⟨x6, s6⟩ := p6
  simp only [Prod.mk.injEq] at h
  obtain ⟨rfl, rfl⟩ := h
  obtain ⟨a1, a2, a3⟩ := rSome_ok rNatI_ok e6 hb
  obtain ⟨b1, b2, b3⟩ := rSome_ok rNatI_ok e5 (by rw [a1])
  obtain ⟨c1, c2⟩ := rInt_ok e4 (by rw [b1])
  obtain ⟨d1, d2, d3⟩ := rSome_ok rLet_ok e3 (by rw [c1])
  obtain ⟨f1, f2⟩ := rSav_ok _ _ _ e2 (by rw [d1])
  obtain ⟨g1, g2⟩ := rNat_ok e1 (by rw [f1])
  refine ⟨?_, by simp only [inI]; omega, f2, d2, c2, b2, a2⟩
  rw [g1, f1, d1, c1, b1, a1]
  simp only [Par.bytes, Int.toNat_natCast, List.append_assoc]
def Lt.ok (x : Lt) : Prop := match x with | .mk _ fm tt n _ v => inI fm ∧ inI tt ∧ inI n ∧ v.ok ∧ v.bytes.length ≤ 9223372036854775807
theorem rLet_to' {x : Lt} (h : x.check = 0) (hok : x.ok) (r : List UInt8) : rLet ⟨x.bytes ++ r, false, 0⟩ = (x, ⟨r, false, 0⟩) := by
  obtain ⟨k, fm, tt, n, t, v⟩ := x
  obtain ⟨h1, h2, h3, h4, h5⟩ := hok
  exact rLet_to (Lt.right h) h1 h2 h4 h5 r 0 rfl
theorem Lt.bytes_pos (x : Lt) : 1 ≤ x.bytes.length := by obtain ⟨k, fm, tt, n, t, v⟩ := x; simp [Lt.bytes]
theorem nb_pos (n : Int) : 1 ≤ (nb n).length := uv_len_pos _
structure Par.Ok (p : Par) : Prop where
  ref : inI p.ref
  ticks : inI p.ticks
  st : ∀ v ∈ p.sav.state, v.ok ∧ v.bytes.length ≤ 9223372036854775807
  inp : ∀ x ∈ p.sav.inputs, x.val.ok ∧ x.val.bytes.length ≤ 9223372036854775807
  box : ∀ x ∈ p.box, x.ok
  wat : ∀ n ∈ p.wat, inI n
  lnk : ∀ n ∈ p.lnk, inI n
theorem rPar_to {p : Par} (h : p.Right) (ho : p.Ok) (r : List UInt8) : rPar ⟨p.bytes ++ r, false, 0⟩ = (p, ⟨r, false, 0⟩) := by
  obtain ⟨rf, sv, bx, tk, wt, lk⟩ := p
  obtain ⟨a1, a2, a3, a4, a5, a6, a7, a8⟩ := h
  obtain ⟨b1, b2, b3, b4, b5, b6, b7⟩ := ho
  dsimp only at a1 a2 a3 a4 a5 a6 a7 a8 b1 b2 b3 b4 b5 b6 b7
  unfold inI at b1
  have h6 : rSome rNatI ⟨uv lk.length ++ (lk.flatMap nb ++ r), false, 0⟩ = (lk, ⟨r, false, 0⟩) :=
    rSome_to lk r 0 (by omega) (fun x _ => nb_pos x) fun x hx r => rNatI_to (by have := a6 x hx; omega) (b7 x hx) r
  have h5 : rSome rNatI ⟨uv wt.length ++ (wt.flatMap nb ++ (uv lk.length ++ (lk.flatMap nb ++ r))), false, 0⟩ = (wt, ⟨uv lk.length ++ (lk.flatMap nb ++ r), false, 0⟩) :=
    rSome_to wt _ 0 (by omega) (fun x _ => nb_pos x) fun x hx r => rNatI_to (by have := a5 x hx; omega) (b6 x hx) r
  have h3 : rSome rLet ⟨uv bx.length ++ (bx.flatMap Lt.bytes ++ (uv (zz tk) ++ (uv wt.length ++ (wt.flatMap nb ++ (uv lk.length ++ (lk.flatMap nb ++ r)))))), false, 0⟩ = (bx, ⟨uv (zz tk) ++ (uv wt.length ++ (wt.flatMap nb ++ (uv lk.length ++ (lk.flatMap nb ++ r)))), false, 0⟩) :=
    rSome_to bx _ 0 (by omega) (fun x _ => Lt.bytes_pos x) fun x hx r => rLet_to' (a3 x hx) (b5 x hx) r
  have e0 : (Par.mk rf sv bx tk wt lk).bytes ++ r = uv rf.toNat ++ (sv.bytes ++ (uv bx.length ++ (bx.flatMap Lt.bytes ++ (uv (zz tk) ++ (uv wt.length ++ (wt.flatMap nb ++ (uv lk.length ++ (lk.flatMap nb ++ r)))))))) := by
    simp only [Par.bytes, List.append_assoc]
  unfold rPar
  rw [e0, rNat_to rf.toNat _ 0 (by omega)]
  dsimp only
  rw [rSav_to (Sav.right a2) b3 b4 _]
  dsimp only
  rw [h3]
  dsimp only
  rw [rInt_to tk _ 0 b2]
  dsimp only
  rw [h5]
  dsimp only
  rw [h6]
  simp only [nat_int (show 0 ≤ rf by omega)]
def tNatI (s : TS) : Int × TS := (((tNat s).1 : Int), (tNat s).2)
def tLets (s : TS) : List Lt × TS := tRep tLet (tNat s).1 (tNat s).2
def tNats (s : TS) : List Int × TS := tRep tNatI (tNat s).1 (tNat s).2
def tPar (s : TS) : Par × TS :=
  let p1 := tNat s
  let p2 := tSav p1.2
  let p3 := tLets p2.2
  let p4 := tNum p3.2
  let p5 := tNats p4.2
  let p6 := tNats p5.2
  (⟨p1.1, p2.1, p3.1, p4.1, p5.1, p6.1⟩, p6.2)
theorem tNatI_to {n : Int} (h : 0 ≤ n) (hn : inI n) (r : List UInt8) : tNatI ⟨nb n ++ r, true⟩ = (n, ⟨r, true⟩) := by
  unfold inI at hn
  unfold tNatI nb
  rw [tNat_to n.toNat r (by omega)]
  simp only [nat_int h]
theorem tLet_to' {x : Lt} (h : x.check = 0) (hok : x.ok) (r : List UInt8) : tLet ⟨x.bytes ++ r, true⟩ = (x, ⟨r, true⟩) := by
  obtain ⟨k, fm, tt, n, t, v⟩ := x
  obtain ⟨h1, h2, h3, h4, h5⟩ := hok
  exact tLet_to (Lt.right h) h1 h2 h4 r
theorem tNats_to {l : List Int} (hl : l.length ≤ 1000) (h : ∀ n ∈ l, 1 ≤ n) (hn : ∀ n ∈ l, inI n) (r : List UInt8) : tNats ⟨uv l.length ++ (l.flatMap nb ++ r), true⟩ = (l, ⟨r, true⟩) := by
  unfold tNats
  rw [tNat_to l.length _ (by omega)]
  exact tRep_to l r fun x hx r => tNatI_to (by have := h x hx; omega) (hn x hx) r
theorem tPar_to {p : Par} (h : p.Right) (ho : p.Ok) (r : List UInt8) : tPar ⟨p.bytes ++ r, true⟩ = (p, ⟨r, true⟩) := by
  obtain ⟨rf, sv, bx, tk, wt, lk⟩ := p
  obtain ⟨a1, a2, a3, a4, a5, a6, a7, a8⟩ := h
  obtain ⟨b1, b2, b3, b4, b5, b6, b7⟩ := ho
  dsimp only at a1 a2 a3 a4 a5 a6 a7 a8 b1 b2 b3 b4 b5 b6 b7
  unfold inI at b1
  have h3 : tLets ⟨uv bx.length ++ (bx.flatMap Lt.bytes ++ (uv (zz tk) ++ (uv wt.length ++ (wt.flatMap nb ++ (uv lk.length ++ (lk.flatMap nb ++ r)))))), true⟩ = (bx, ⟨uv (zz tk) ++ (uv wt.length ++ (wt.flatMap nb ++ (uv lk.length ++ (lk.flatMap nb ++ r)))), true⟩) := by
    unfold tLets
    rw [tNat_to bx.length _ (by omega)]
    exact tRep_to bx _ fun x hx r => tLet_to' (a3 x hx) (b5 x hx) r
  have e0 : (Par.mk rf sv bx tk wt lk).bytes ++ r = uv rf.toNat ++ (sv.bytes ++ (uv bx.length ++ (bx.flatMap Lt.bytes ++ (uv (zz tk) ++ (uv wt.length ++ (wt.flatMap nb ++ (uv lk.length ++ (lk.flatMap nb ++ r)))))))) := by
    simp only [Par.bytes, List.append_assoc]
  unfold tPar
  rw [e0, tNat_to rf.toNat _ (by omega)]
  dsimp only
  rw [tSav_to (Sav.right a2) (fun v hv => (b3 v hv).1) (fun x hx => (b4 x hx).1) _]
  dsimp only
  rw [h3]
  dsimp only
  rw [tNum_to tk _ b2]
  dsimp only
  rw [tNats_to a7 a5 b6]
  dsimp only
  rw [tNats_to a8 a6 b7]
  simp only [nat_int (show 0 ≤ rf by omega)]
def Lt.tiny (x : Lt) : Prop := x.ok ∧ x.val.size ≤ 1048576 ∧ x.bytes.length ≤ 40000000 ∧ x.Small
theorem tLet_et (s : TS) : Et s (tLet s).2 := by
  have h := ((((tOne_et s).trans (tNat_et _).dn).trans (tNat_et _).dn).trans (tNat_et _).dn).trans (tText_et (tNat (tNat (tNat (tOne s).2).2).2).2).dn
  unfold tLet
  dsimp only
  split
  · exact h.trans (tWhole_et _).dn
  · exact h
theorem tNatI_et (s : TS) : Et s (tNatI s).2 := tNat_et s
theorem Lt.tiny_of {k fm tt n : Int} {t : ByteArray} {v : V} (h1 : inI fm) (h2 : inI tt) (h3 : inI n) (h4 : t.size ≤ 4000000) (h5 : v.tiny) : (Lt.mk k fm tt n t v).tiny := by
  obtain ⟨v1, v2, v3⟩ := h5
  refine ⟨⟨h1, h2, h3, v1, by omega⟩, v2, ?_, ⟨v1, v2, by simp only [Lt.val]; omega, h1, h2, h3, by omega⟩⟩
  unfold inI at h1 h2 h3
  have u1 := uv_len64 (n := fm.toNat) (by omega)
  have u2 := uv_len64 (n := tt.toNat) (by omega)
  have u3 := uv_len64 (n := n.toNat) (by omega)
  have u4 := uv_len64 (n := t.size) (by omega)
  simp only [Lt.bytes, List.length_cons, List.length_append, sz_len]
  split
  · omega
  · simp only [List.length_nil]; omega
theorem tLet_tiny (s : TS) : (tLet s).1.tiny := by
  unfold tLet
  dsimp only
  have n1 := tNat_lt (tOne s).2
  have n2 := tNat_lt (tNat (tOne s).2).2
  have n3 := tNat_lt (tNat (tNat (tOne s).2).2).2
  have n4 := tText_len (tNat (tNat (tNat (tOne s).2).2).2).2
  have f := tWhole_tiny (tText (tNat (tNat (tNat (tOne s).2).2).2).2).2
  generalize tText (tNat (tNat (tNat (tOne s).2).2).2).2 = p5 at *
  generalize tNat (tNat (tNat (tOne s).2).2).2 = p4 at *
  generalize tNat (tNat (tOne s).2).2 = p3 at *
  generalize tNat (tOne s).2 = p2 at *
  split
  · exact Lt.tiny_of (by simp only [inI]; omega) (by simp only [inI]; omega) (by simp only [inI]; omega) (by simp only [bs_size']; omega) f
  · exact Lt.tiny_of (by simp only [inI]; omega) (by simp only [inI]; omega) (by simp only [inI]; omega) (by simp only [bs_size']; omega) zero_tiny
structure Par.Small (p : Par) : Prop where
  sav : p.sav.Small
  box : ∀ x ∈ p.box, x.tiny
  ref : inI p.ref
  ticks : inI p.ticks
  wat : ∀ n ∈ p.wat, inI n
  lnk : ∀ n ∈ p.lnk, inI n
theorem Par.Small.ok {p : Par} (h : p.Small) : p.Ok :=
  ⟨h.ref, h.ticks, fun v hv => ⟨(h.sav.state v hv).1, by have := (h.sav.state v hv).2.2; omega⟩, fun v hv => ⟨(h.sav.inp v hv).1, by have := (h.sav.inp v hv).2.2; omega⟩, fun x hx => (h.box x hx).1, h.wat, h.lnk⟩
theorem tNatI_in (s : TS) : inI (tNatI s).1 := by have := tNat_lt s; simp only [tNatI, inI]; omega
theorem tSav_et (s : TS) : Et s (tSav s).2 := by
  have h := ((tText_et s).trans (tNat_et _).dn).trans (tRep_dn tWhole_et (tNat (tText s).2).1 (tNat (tText s).2).2).1
  exact (h.trans (tNat_et _).dn).trans (tRep_dn tInp_et (tNat (tVals (tText s).2).2).1 (tNat (tVals (tText s).2).2).2).1
theorem tLets_tiny (s : TS) : ∀ x ∈ (tLets s).1, x.tiny := fun x hx => tRep_all (p := Lt.tiny) tLet_tiny (tNat s).1 (tNat s).2 x hx
theorem tNats_in (s : TS) : ∀ n ∈ (tNats s).1, inI n := fun x hx => tRep_all (p := inI) tNatI_in (tNat s).1 (tNat s).2 x hx
theorem tNum_in (s : TS) : inI (tNum s).1 := tNumL_in 10 0 0 s
theorem tPar_small (s : TS) (h : s.l.length ≤ 2097152) : (tPar s).1.Small := by
  unfold tPar
  dsimp only
  have h1 := tNat_lt s
  obtain ⟨h2, -, -⟩ := tSav_small (tNat s).2 (by have := (tNat_et s).1; omega)
  generalize tNat s = q1 at *
  generalize tSav q1.2 = q2 at *
  have h3 := tLets_tiny q2.2
  generalize tLets q2.2 = q3 at *
  have h4 := tNum_in q3.2
  generalize tNum q3.2 = q4 at *
  have h5 := tNats_in q4.2
  generalize tNats q4.2 = q5 at *
  have h6 := tNats_in q5.2
  generalize tNats q5.2 = q6 at *
  exact ⟨h2, h3, by simp only [inI]; omega, h4, h5, h6⟩
def Par.out (p : Par) : List UInt8 := if p.check = 0 then p.bytes else []
def Par.zero : Par := ⟨0, Sav.zero, [], 0, [], []⟩
def rdP (l : List UInt8) : Par × Int := if (!(rPar ⟨l, false, 0⟩).2.bad && decide ((rPar ⟨l, false, 0⟩).2.l = [])) && decide ((rPar ⟨l, false, 0⟩).1.check = 0) then ((rPar ⟨l, false, 0⟩).1, 0) else (Par.zero, 3)
def tdP (l : List UInt8) : Par × Int := if (((tPar ⟨l, true⟩).2.ok && !decide (0 < (tPar ⟨l, true⟩).2.l.length)) && decide ((tPar ⟨l, true⟩).1.check = 0)) && decide (bs (tPar ⟨l, true⟩).1.out = bs l) then ((tPar ⟨l, true⟩).1, 0) else (Par.zero, 3)
theorem rPar_ok' (s : RS) (h : (rPar s).2.bad = false) : s = ⟨(rPar s).1.bytes ++ (rPar s).2.l, false, (rPar s).2.dep⟩ ∧ (rPar s).1.fine := rPar_ok s (rPar s).1 (rPar s).2 (Prod.eta _).symm h
theorem flat_mem {α : Type} (f : α → List UInt8) {l : List α} {x : α} (h : x ∈ l) : (f x).length ≤ (l.flatMap f).length := by
  induction l with
  | nil => simp at h
  | cons a l ih =>
    simp only [List.flatMap_cons, List.length_append]
    rcases List.mem_cons.1 h with rfl | h
    · omega
    · have := ih h; omega
theorem Par.fine_ok {p : Par} (h : p.fine) (hl : p.bytes.length ≤ 2097152) : p.Ok := by
  obtain ⟨h1, h2, h3, h4, h5, h6⟩ := h
  simp only [Par.bytes, Sav.bytes, List.length_append] at hl
  refine ⟨h1, h4, fun v hv => ⟨h2.1 v hv, by have := flat_mem V.bytes hv; omega⟩, fun x hx => ⟨(h2.2 x hx).2.1, ?_⟩, fun x hx => ?_, fun n hn => (h5 n hn).2, fun n hn => (h6 n hn).2⟩
  · have h7 := flat_mem Inp.bytes hx
    by_cases hk : x.kind = 3
    · rw [(h2.2 x hx).2.2 hk]; exact zero_ok.2
    · rw [show (Inp.bytes x).length = x.val.bytes.length + 1 by simp [Inp.bytes, hk]] at h7
      omega
  · have h7 := flat_mem Lt.bytes hx
    have h8 := h3 x hx
    obtain ⟨k, fm, tt, n, t, v⟩ := x
    simp only [Lt.fine] at h8
    obtain ⟨-, i1, i2, i3, i4, i5⟩ := h8
    by_cases hk : k = 1
    · refine ⟨i1, i2, i3, (i4 hk).1, ?_⟩
      simp only [Lt.bytes, List.length_cons, List.length_append] at h7
      rw [if_pos hk] at h7
      omega
    · rw [i5 hk]
      exact ⟨i1, i2, i3, zero_ok.1, zero_ok.2⟩
theorem same_par (l : List UInt8) (hl : l.length ≤ 2097152) : rdP l = tdP l := by
  by_cases h1 : ((!(rPar ⟨l, false, 0⟩).2.bad && decide ((rPar ⟨l, false, 0⟩).2.l = [])) && decide ((rPar ⟨l, false, 0⟩).1.check = 0)) = true
  · have hr : rdP l = ((rPar ⟨l, false, 0⟩).1, 0) := by unfold rdP; rw [if_pos h1]
    rw [hr]
    simp only [Bool.and_eq_true, Bool.not_eq_true', decide_eq_true_eq] at h1
    obtain ⟨⟨a1, a2⟩, a3⟩ := h1
    obtain ⟨b1, b2⟩ := rPar_ok' _ a1
    generalize rPar ⟨l, false, 0⟩ = q at *
    obtain ⟨x, s⟩ := q
    dsimp only at a1 a2 a3 b1 b2 ⊢
    rw [a2, List.append_nil] at b1
    have hlv : l = x.bytes := by injection b1
    have hR := Par.right a3
    have ht := tPar_to hR (Par.fine_ok b2 (by rw [← hlv]; exact hl)) []
    rw [List.append_nil, ← hlv] at ht
    unfold tdP
    rw [ht]
    dsimp only
    rw [if_pos]
    simp only [Bool.and_eq_true, decide_eq_true_eq]
    refine ⟨⟨⟨trivial, by simp⟩, a3⟩, ?_⟩
    rw [Par.out, if_pos a3, hlv]
  · have hr : rdP l = (Par.zero, 3) := by unfold rdP; rw [if_neg h1]
    rw [hr]
    unfold tdP
    split
    · rename_i h2
      exfalso
      apply h1
      simp only [Bool.and_eq_true, decide_eq_true_eq] at h2
      obtain ⟨⟨⟨a1, a2⟩, a3⟩, a4⟩ := h2
      have hsm := tPar_small ⟨l, true⟩ hl
      generalize tPar ⟨l, true⟩ = q at *
      obtain ⟨x, s⟩ := q
      dsimp only at a1 a2 a3 a4 hsm
      rw [Par.out, if_pos a3] at a4
      have hlv := bs_inj a4
      have ht := rPar_to (Par.right a3) hsm.ok []
      rw [List.append_nil, hlv] at ht
      rw [ht]
      simp [a3]
    · rfl
end Go.Proofs.YthgackidonocpaaGreat
namespace Go.Proofs.YthgackidonocpaaGreat
open Go.RowKit
set_option maxRecDepth 100000 in
set_option maxHeartbeats 8000000 in
theorem letterFault_af (x : Lt) (hs : x.val.size ≤ 1048576) : AF Tryz.prog 53 [x.t] (· = .lit (.int .i64 x.fault)) := by
  obtain ⟨k, fm, tt, n, t, v⟩ := x
  have h1 := valueFault_af v hs
  have h2 := none_af v
  simp only [Lt.fault]
  generalize v.check = cv at *
  generalize v.isZ = zv at *
  obtain ⟨kv, nv, tv, lv⟩ := v
  refine af_enter tok Tryz.func53 Tryz.ntmps53 Tryz.results53 rfl (by kernel_rfl) rfl rfl fun F hX => ?_
  cases qA : decide ((4000 : Int) < (t.size : Int))
  · skip
    cases qF : decide (fm < 0)
    · skip
      cases qT : decide (tt < 0)
      · skip
        cases qK1 : decide (k < 1)
        · skip
          cases qK5x : decide ((5 : Int) < k)
          · skip
            cases qK2 : decide (k = 2)
            · skip
              cases qN0 : decide (n = 0)
              · skip
                repeat (first | refine gG ?_ | refine zN1 (fun hlen => ?_) | refine zN2 (fun hlen => ?_) | refine zBf ?_)
                first | refine zR ?_ | refine zQ ?_
                first | rfl | (simp only [qA, qF, qT, qK1, qK5x, qK2, qN0]; first | rfl | simp) | simp
              · skip
                cases qNn : decide (n < 0)
                · skip
                  cases qN2 : decide ((2 : Int) < n)
                  · skip
                    cases qK5 : decide (k = 5)
                    · skip
                      cases qE : decide (t = ⟨#[]⟩)
                      · skip
                        repeat (first | refine gG ?_ | refine zN1 (fun hlen => ?_) | refine zN2 (fun hlen => ?_) | refine zBf ?_)
                        first | refine zR ?_ | refine zQ ?_
                        first | rfl | (simp only [qA, qF, qT, qK1, qK5x, qK2, qN0, qNn, qN2, qK5, qE]; first | rfl | simp) | simp
                      · skip
                        cases qKM : decide (k = 1)
                        · skip
                          repeat (first | refine gG ?_ | refine zN1 (fun hlen => ?_) | refine zN2 (fun hlen => ?_) | refine zBf ?_)
                          refine zCall (h2) ?_
                          rintro _ rfl
                          cases zv
                          · repeat (first | refine gG ?_ | refine zN1 (fun hlen => ?_) | refine zN2 (fun hlen => ?_) | refine zBx (fun _ => ?_))
                            first | refine zR ?_ | refine zQ ?_
                            first | rfl | (simp only [qA, qF, qT, qK1, qK5x, qK2, qN0, qNn, qN2, qK5, qE, qKM]; first | rfl | simp) | simp
                          · repeat (first | refine gG ?_ | refine zN1 (fun hlen => ?_) | refine zN2 (fun hlen => ?_) | refine zBx (fun _ => ?_))
                            first | refine zR ?_ | refine zQ ?_
                            first | rfl | (simp only [qA, qF, qT, qK1, qK5x, qK2, qN0, qNn, qN2, qK5, qE, qKM]; first | rfl | simp) | simp
                        · skip
                          repeat (first | refine gG ?_ | refine zN1 (fun hlen => ?_) | refine zN2 (fun hlen => ?_) | refine zBf ?_)
                          refine zCall (h1) ?_
                          rintro _ rfl
                          repeat (first | refine gG ?_ | refine zN1 (fun hlen => ?_) | refine zN2 (fun hlen => ?_) | refine zBx (fun _ => ?_))
                          first | refine zR ?_ | refine zQ ?_
                          first | rfl | (simp only [qA, qF, qT, qK1, qK5x, qK2, qN0, qNn, qN2, qK5, qE, qKM]; first | rfl | simp) | simp
                    · skip
                      cases qKM : decide (k = 1)
                      · skip
                        repeat (first | refine gG ?_ | refine zN1 (fun hlen => ?_) | refine zN2 (fun hlen => ?_) | refine zBf ?_)
                        refine zCall (h2) ?_
                        rintro _ rfl
                        cases zv
                        · repeat (first | refine gG ?_ | refine zN1 (fun hlen => ?_) | refine zN2 (fun hlen => ?_) | refine zBx (fun _ => ?_))
                          first | refine zR ?_ | refine zQ ?_
                          first | rfl | (simp only [qA, qF, qT, qK1, qK5x, qK2, qN0, qNn, qN2, qK5, qKM]; first | rfl | simp) | simp
                        · repeat (first | refine gG ?_ | refine zN1 (fun hlen => ?_) | refine zN2 (fun hlen => ?_) | refine zBx (fun _ => ?_))
                          first | refine zR ?_ | refine zQ ?_
                          first | rfl | (simp only [qA, qF, qT, qK1, qK5x, qK2, qN0, qNn, qN2, qK5, qKM]; first | rfl | simp) | simp
                      · skip
                        repeat (first | refine gG ?_ | refine zN1 (fun hlen => ?_) | refine zN2 (fun hlen => ?_) | refine zBf ?_)
                        refine zCall (h1) ?_
                        rintro _ rfl
                        repeat (first | refine gG ?_ | refine zN1 (fun hlen => ?_) | refine zN2 (fun hlen => ?_) | refine zBx (fun _ => ?_))
                        first | refine zR ?_ | refine zQ ?_
                        first | rfl | (simp only [qA, qF, qT, qK1, qK5x, qK2, qN0, qNn, qN2, qK5, qKM]; first | rfl | simp) | simp
                  · skip
                    repeat (first | refine gG ?_ | refine zN1 (fun hlen => ?_) | refine zN2 (fun hlen => ?_) | refine zBf ?_)
                    first | refine zR ?_ | refine zQ ?_
                    first | rfl | (simp only [qA, qF, qT, qK1, qK5x, qK2, qN0, qNn, qN2]; first | rfl | simp) | simp
                · skip
                  repeat (first | refine gG ?_ | refine zN1 (fun hlen => ?_) | refine zN2 (fun hlen => ?_) | refine zBf ?_)
                  first | refine zR ?_ | refine zQ ?_
                  first | rfl | (simp only [qA, qF, qT, qK1, qK5x, qK2, qN0, qNn]; first | rfl | simp) | simp
            · skip
              cases qNn : decide (n < 0)
              · skip
                cases qN2 : decide ((2 : Int) < n)
                · skip
                  cases qKM : decide (k = 1)
                  · skip
                    repeat (first | refine gG ?_ | refine zN1 (fun hlen => ?_) | refine zN2 (fun hlen => ?_) | refine zBf ?_)
                    refine zCall (h2) ?_
                    rintro _ rfl
                    cases zv
                    · repeat (first | refine gG ?_ | refine zN1 (fun hlen => ?_) | refine zN2 (fun hlen => ?_) | refine zBx (fun _ => ?_))
                      first | refine zR ?_ | refine zQ ?_
                      first | rfl | (simp only [qA, qF, qT, qK1, qK5x, qK2, qNn, qN2, qKM]; first | rfl | simp) | simp
                    · repeat (first | refine gG ?_ | refine zN1 (fun hlen => ?_) | refine zN2 (fun hlen => ?_) | refine zBx (fun _ => ?_))
                      first | refine zR ?_ | refine zQ ?_
                      first | rfl | (simp only [qA, qF, qT, qK1, qK5x, qK2, qNn, qN2, qKM]; first | rfl | simp) | simp
                  · skip
                    repeat (first | refine gG ?_ | refine zN1 (fun hlen => ?_) | refine zN2 (fun hlen => ?_) | refine zBf ?_)
                    refine zCall (h1) ?_
                    rintro _ rfl
                    repeat (first | refine gG ?_ | refine zN1 (fun hlen => ?_) | refine zN2 (fun hlen => ?_) | refine zBx (fun _ => ?_))
                    first | refine zR ?_ | refine zQ ?_
                    first | rfl | (simp only [qA, qF, qT, qK1, qK5x, qK2, qNn, qN2, qKM]; first | rfl | simp) | simp
                · skip
                  repeat (first | refine gG ?_ | refine zN1 (fun hlen => ?_) | refine zN2 (fun hlen => ?_) | refine zBf ?_)
                  first | refine zR ?_ | refine zQ ?_
                  first | rfl | (simp only [qA, qF, qT, qK1, qK5x, qK2, qNn, qN2]; first | rfl | simp) | simp
              · skip
                repeat (first | refine gG ?_ | refine zN1 (fun hlen => ?_) | refine zN2 (fun hlen => ?_) | refine zBf ?_)
                first | refine zR ?_ | refine zQ ?_
                first | rfl | (simp only [qA, qF, qT, qK1, qK5x, qK2, qNn]; first | rfl | simp) | simp
          · skip
            repeat (first | refine gG ?_ | refine zN1 (fun hlen => ?_) | refine zN2 (fun hlen => ?_) | refine zBf ?_)
            first | refine zR ?_ | refine zQ ?_
            first | rfl | (simp only [qA, qF, qT, qK1, qK5x]; first | rfl | simp) | simp
        · skip
          repeat (first | refine gG ?_ | refine zN1 (fun hlen => ?_) | refine zN2 (fun hlen => ?_) | refine zBf ?_)
          first | refine zR ?_ | refine zQ ?_
          first | rfl | (simp only [qA, qF, qT, qK1]; first | rfl | simp) | simp
      · skip
        repeat (first | refine gG ?_ | refine zN1 (fun hlen => ?_) | refine zN2 (fun hlen => ?_) | refine zBf ?_)
        first | refine zR ?_ | refine zQ ?_
        first | rfl | (simp only [qA, qF, qT]; first | rfl | simp) | simp
    · skip
      repeat (first | refine gG ?_ | refine zN1 (fun hlen => ?_) | refine zN2 (fun hlen => ?_) | refine zBf ?_)
      first | refine zR ?_ | refine zQ ?_
      first | rfl | (simp only [qA, qF]; first | rfl | simp) | simp
  · skip
    repeat (first | refine gG ?_ | refine zN1 (fun hlen => ?_) | refine zN2 (fun hlen => ?_) | refine zBf ?_)
    first | refine zR ?_ | refine zQ ?_
    first | rfl | (simp only [qA]; first | rfl | simp) | simp
end Go.Proofs.YthgackidonocpaaGreat
