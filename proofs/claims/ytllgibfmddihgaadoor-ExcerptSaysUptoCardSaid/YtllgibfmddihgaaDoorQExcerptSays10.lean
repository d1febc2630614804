/-
  Texts of this proof, part 10: Tec Open Law OpenT OpenY.
-/
import Derived.Test.YtllgibfmddihgaaDoorQExcerptSays9
import Derived.Deep.Slices
import Derived.JoinedCond
import Derived.Laws.Strings2
import Derived.Laws.StructEq
import Derived.Lib.AppendStr
import Derived.Lib.MinMax
import Derived.MapKept
import Derived.OpenShut
import Derived.ProofKit
import Derived.Test.YtllgibfmddihgaaDoorRows
namespace Go.Proofs.YtllgibfmddihgaaDoor
open Go.RowKit
theorem sum_erase {α : Type} (f : α → Nat) : ∀ (l : List α) (i : Nat), ((l.eraseIdx i).map f).sum ≤ (l.map f).sum
  | [], i => by simp
  | a :: l, 0 => by simp
  | a :: l, i + 1 => by have := sum_erase f l i; simp only [List.eraseIdx_cons_succ, List.map_cons, List.sum_cons]; omega
theorem sum_cutl {α : Type} (f : α → Nat) (l : List α) (i : Int) : ((cutl l i).map f).sum ≤ (l.map f).sum := by
  unfold cutl
  cases decide (i < 0)
  · exact sum_erase f l i.toNat
  · exact Nat.le_refl _
theorem sans_mass (p : Pr) (k : Int) : (p.sans k).mass ≤ p.mass := by
  have h1 := sum_cutl Us.mass p.uses k
  have h2 := sum_cutl Da.mass p.datas (k - p.uses.length)
  have h3 := sum_cutl Tr.mass p.traits (k - p.uses.length - p.datas.length)
  have h4 := sum_cutl Im.mass p.impls (k - p.uses.length - p.datas.length - p.traits.length)
  have h5 := sum_cutl Fu.mass p.funcs (k - p.uses.length - p.datas.length - p.traits.length - p.impls.length)
  have h6 := sum_cutl Ac.mass p.actors (k - p.uses.length - p.datas.length - p.traits.length - p.impls.length - p.funcs.length)
  unfold Pr.mass
  dsimp only [Pr.sans]
  omega
theorem zero_mass : Pr.zero.mass ≤ 100 := by decide
theorem parts_mass (p : Pr) : p.parts ≤ p.mass := by
  have h1 := len_sum' Us.mass Us.mass_pos p.uses
  have h2 := len_sum' Da.mass Da.mass_pos p.datas
  have h3 := len_sum' Tr.mass Tr.mass_pos p.traits
  have h4 := len_sum' Im.mass Im.mass_pos p.impls
  have h5 := len_sum' Fu.mass Fu.mass_pos p.funcs
  have h6 := len_sum' Ac.mass Ac.mass_pos p.actors
  unfold Pr.mass Pr.parts
  omega
theorem cutl_drop {α : Type} (l : List α) (k : Int) : cutl l (dropAt k l.length) = cutl l k := by
  unfold dropAt
  by_cases h0 : 0 ≤ k
  · by_cases h1 : k < (l.length : Int)
    · rw [decide_eq_true h0, decide_eq_true h1]; rfl
    · rw [decide_eq_true h0, decide_eq_false h1, cutl_big l (i := k) (by omega)]
      exact cutl_neg l (i := -1) (by decide)
  · rw [decide_eq_false h0, cutl_neg l (i := k) (by omega)]
    exact cutl_neg l (i := -1) (by decide)
def el6 (a b c d e f : Nat) : Nat → Nat
  | 0 => a
  | 1 => b
  | 2 => c
  | 3 => d
  | 4 => e
  | _ => f
theorem ac6_el (a b c d e f : Nat) {j : Nat} (h : j < 6) : ac6 a b c d e f (j + 1) = ac6 a b c d e f j + el6 a b c d e f j := by
  rcases j with _ | _ | _ | _ | _ | _ | j
  · simp only [ac6, el6, Nat.zero_add]
  · rfl
  · rfl
  · rfl
  · rfl
  · rfl
  · omega
theorem ac6_le (a b c d e f j : Nat) : ac6 a b c d e f j ≤ a + b + c + d + e + f := by
  rcases j with _ | _ | _ | _ | _ | _ | j <;> simp only [ac6] <;> omega
theorem cells6_at (a b c d e f : Nat) {j : Nat} (h : j < 6) : ([.lit (.int .i64 (a : Nat)), .lit (.int .i64 (b : Nat)), .lit (.int .i64 (c : Nat)), .lit (.int .i64 (d : Nat)), .lit (.int .i64 (e : Nat)), .lit (.int .i64 (f : Nat))] : List T)[j * 1]? = some (.lit (.int .i64 (el6 a b c d e f j : Nat))) := by
  rcases j with _ | _ | _ | _ | _ | _ | j
  all_goals first | rfl | omega
theorem el6_le (a b c d e f j : Nat) : el6 a b c d e f j ≤ a + b + c + d + e + f := by
  rcases j with _ | _ | _ | _ | _ | _ | j <;> simp only [el6] <;> omega
set_option maxRecDepth 100000 in
set_option maxHeartbeats 16000000 in
theorem excerptSays_law (p : Pr) (k : Int) (hp : p.mass ≤ 1048576) : AF Tryd.prog 4 [p.t, .lit (.int .i64 k)] (· = .lit (.bool true)) := by
  have hpl := Nat.le_trans (parts_mass p) hp
  have hpa := excParts_af p hpl
  have hp1 : AF Tryd.prog 17 [Pr.t ⟨⟨#[]⟩, 0, [⟨⟨#[]⟩, 0, 0⟩], [], [], [], [], []⟩] (· = .lit (.int .i64 1)) := excParts_af ⟨⟨#[]⟩, 0, [⟨⟨#[]⟩, 0, 0⟩], [], [], [], [], []⟩ (by decide)
  obtain ⟨q, ec, hw, hqm, hq⟩ : ∃ (q : Pr) (ec : Int), AF Tryd.prog 16 [p.t, .lit (.int .i64 k)] (· = .tup [q.t, .lit (.int .i64 ec)]) ∧ q.mass ≤ 1048576 ∧ (((k < 0 ∨ (p.parts : Int) ≤ k) ∧ q = Pr.zero ∧ ec = 4) ∨ ((0 ≤ k ∧ k < (p.parts : Int)) ∧ q = p.sans k ∧ ec = 0)) := by
    by_cases hk : k < 0 ∨ (p.parts : Int) ≤ k
    · exact ⟨Pr.zero, 4, withoutOut_af p k hpl hk, by have := zero_mass; omega, .inl ⟨hk, rfl, rfl⟩⟩
    · have h0 : 0 ≤ k ∧ k < (p.parts : Int) := by omega
      obtain ⟨n, rfl⟩ := Int.eq_ofNat_of_zero_le h0.1
      exact ⟨p.sans (n : Int), 0, without_af p n hpl (by omega), Nat.le_trans (sans_mass p _) hp, .inr ⟨h0, rfl, rfl⟩⟩
  have hmq := mark_af q (q.mass_ok hqm) (by have := q.mark_le hqm; omega)
  have hm0 := mark_af Pr.zero (Pr.zero.mass_ok (by have := zero_mass; omega)) (by have := Pr.zero.mark_le (by have := zero_mass; omega); have := zero_mass; omega)
  have hmz : ((k < 0 ∨ (p.parts : Int) ≤ k) ∧ ec = 4 ∧ decide (bs q.mark = bs Pr.zero.mark) = true) ∨ ((0 ≤ k ∧ k < (p.parts : Int)) ∧ q = p.sans k ∧ ec = 0) := by
    rcases hq with ⟨h1, rfl, h3⟩ | h
    · exact .inl ⟨h1, h3, by simp⟩
    · exact .inr h
  clear hq hqm hp
  have e00 : decide ((0 : Int) = 0) = true := rfl
  have e44 : decide ((4 : Int) = 4) = true := rfl
  generalize hqk : bs q.mark = mq at *
  generalize bs Pr.zero.mark = m0 at *
  obtain ⟨nm, vr, us, ds, trs, ims, fus, acs⟩ := p
  simp only [Pr.parts] at hpa hmz hpl
  have hcutUs := fun i => cutUs_af us i (by omega)
  have hcutDa := fun i => cutDa_af ds i (by omega)
  have hcutTr := fun i => cutTr_af trs i (by omega)
  have hcutIm := fun i => cutIm_af ims i (by omega)
  have hcutFu := fun i => cutFu_af fus i (by omega)
  have hcutAc := fun i => cutAc_af acs i (by omega)
  have hcells := fun {j : Nat} (h : j < 6) => cells6_at us.length ds.length trs.length ims.length fus.length acs.length h
  refine af_enter tok Tryd.func4 Tryd.ntmps4 Tryd.results4 rfl (by kernel_rfl) rfl rfl fun F hX => ?_
  repeat (first | refine gG ?_ | refine zN1 (fun hlen => ?_) | refine zN2 (fun hlen => ?_) | refine zAl (fun _ => ?_) | refine zBx (fun _ => ?_))
  rename_i b2 b3 q1 q2 q3 q4 q5 q6
  clear q1 q2 q3 q4 q5 q6
  refine x_loop [6, 8, 33, 34, 35, 36, 37, 38, 39, 40] (fun j : Nat => [(33, .c (.lit (.int .i64 (j : Nat)))), (6, .c (.lit (.int .i64 (ac6 us.length ds.length trs.length ims.length fus.length acs.length j : Nat))))]) (fun j => [.box b2 29 [.c (.lit (.string nm)), .c (.lit (.int .i64 vr)), .c (Us.row us), .c (Da.row ds), .c (Tr.row trs), .c (Im.row ims), .c (Fu.row fus), .c (Ac.row acs)], .box b3 3 [.c (.lit (.int .i64 k))]])
    (fun j => j ≤ 6) (fun j => 6 - j) 0 (Nat.zero_le _) ⟨rfl, rfl, trivial⟩ rfl ?_
  intro j hj
  repeat (first | refine gG ?_ | refine zN1 (fun hlen => ?_) | refine zN2 (fun hlen => ?_) | refine zAl (fun _ => ?_) | refine zBx (fun _ => ?_))
  refine x_cond rfl (fun h => ?_) (fun h => ?_)
  · have hj' : j < 6 := by
      have : ((j : Nat) : Int) < 6 := by simpa using h
      omega
    have hac := ac6_el us.length ds.length trs.length ims.length fus.length acs.length hj'
    have hle := ac6_le us.length ds.length trs.length ims.length fus.length acs.length j
    have hel := el6_le us.length ds.length trs.length ims.length fus.length acs.length j
    clear h
    repeat (first | refine gG ?_ | refine zN1 (fun hlen => ?_) | refine zN2 (fun hlen => ?_) | refine zAl (fun _ => ?_) | refine zBx (fun _ => ?_))
    refine zIx j hj' ?_
    repeat (first | refine gG ?_ | refine zN1 (fun hlen => ?_) | refine zN2 (fun hlen => ?_) | refine zAl (fun _ => ?_) | refine zBx (fun _ => ?_))
    refine zEl1 (hcells hj') ?_
    repeat (first | refine gA ?_ | refine zN1 (fun hlen => ?_) | refine zN2 (fun hlen => ?_) | refine zAl (fun _ => ?_) | refine zBx (fun _ => ?_))
    exact ⟨j + 1, by omega, by omega, x_wkd 2 ⟨rfl, by rw [hac]; rfl, trivial⟩ rfl (by repeat (first | exact ag_refl | refine ag_upd rfl ?_ | refine ag_at rfl rfl ?_))⟩
  have hj6 : j = 6 := by
    have : ¬ ((j : Nat) : Int) < 6 := by simpa using h
    omega
  subst hj6
  clear h hj hcells
  simp only [ac6]
  repeat (first | refine gG ?_ | refine zN1 (fun hlen => ?_) | refine zN2 (fun hlen => ?_) | refine zAl (fun _ => ?_) | refine zBx (fun _ => ?_))
  refine zCall (hw) ?_
  rintro _ rfl
  obtain ⟨nm', vr', us', ds', trs', ims', fus', acs'⟩ := q
  repeat (first | refine gG ?_ | refine zN1 (fun hlen => ?_) | refine zN2 (fun hlen => ?_) | refine zAl (fun _ => ?_) | refine zBx (fun _ => ?_))
  rename_i b4
  refine zCall (hpa) ?_
  rintro _ rfl
  have ePP : decide (((us.length + ds.length + trs.length + ims.length + fus.length + acs.length : Nat) : Int) = ((us.length + ds.length + trs.length + ims.length + fus.length + acs.length : Nat) : Int)) = true := by simp
  have e11 : decide ((1 : Int) = 1) = true := rfl
  repeat (first | refine gG ?_ | refine zN1 (fun hlen => ?_) | refine zN2 (fun hlen => ?_) | refine zAl (fun _ => ?_) | refine zBx (fun _ => ?_))
  refine zCall (hp1) ?_
  rintro _ rfl
  rcases hmz with ⟨hk, rfl, hmm⟩ | ⟨⟨hk0, hk1⟩, hqs, rfl⟩
  · cases d0 : decide (k < 0)
    · have d1 : decide (((us.length + ds.length + trs.length + ims.length + fus.length + acs.length : Nat) : Int) ≤ k) = true := decide_eq_true (hk.resolve_left (by simpa using d0))
      clear hk
      repeat (first | refine gG ?_ | refine zN1 (fun hlen => ?_) | refine zN2 (fun hlen => ?_) | refine zAl (fun _ => ?_) | refine zBx (fun _ => ?_))
      refine zCall (hmq) ?_
      rintro _ rfl
      repeat (first | refine gG ?_ | refine zN1 (fun hlen => ?_) | refine zN2 (fun hlen => ?_) | refine zAl (fun _ => ?_) | refine zBx (fun _ => ?_))
      refine zCall (hm0) ?_
      rintro _ rfl
      repeat (first | refine gG ?_ | refine zN1 (fun hlen => ?_) | refine zN2 (fun hlen => ?_) | refine zAl (fun _ => ?_) | refine zBx (fun _ => ?_))
      first | refine zR ?_ | refine zQ ?_
      rw [hmm]
      rfl
    · clear hk
      repeat (first | refine gG ?_ | refine zN1 (fun hlen => ?_) | refine zN2 (fun hlen => ?_) | refine zAl (fun _ => ?_) | refine zBx (fun _ => ?_))
      refine zCall (hmq) ?_
      rintro _ rfl
      repeat (first | refine gG ?_ | refine zN1 (fun hlen => ?_) | refine zN2 (fun hlen => ?_) | refine zAl (fun _ => ?_) | refine zBx (fun _ => ?_))
      refine zCall (hm0) ?_
      rintro _ rfl
      repeat (first | refine gG ?_ | refine zN1 (fun hlen => ?_) | refine zN2 (fun hlen => ?_) | refine zAl (fun _ => ?_) | refine zBx (fun _ => ?_))
      first | refine zR ?_ | refine zQ ?_
      rw [hmm]
      rfl
  have d0 : decide (k < 0) = false := decide_eq_false (by omega)
  have d1 : decide (((us.length + ds.length + trs.length + ims.length + fus.length + acs.length : Nat) : Int) ≤ k) = false := decide_eq_false (by omega)
  simp only [Pr.sans, Pr.mk.injEq] at hqs
  obtain ⟨h1, h2, h3, h4, h5, h6, h7, h8⟩ := hqs
  replace h1 := h1.symm
  subst h1
  replace h2 := h2.symm
  subst h2
  replace h3 := h3.symm
  subst h3
  replace h4 := h4.symm
  subst h4
  replace h5 := h5.symm
  subst h5
  replace h6 := h6.symm
  subst h6
  replace h7 := h7.symm
  subst h7
  replace h8 := h8.symm
  subst h8
  have hmm : decide (mq = mq) = true := by simp
  clear hpa hp1 hw hm0
  repeat (first | refine gG ?_ | refine zN1 (fun hlen => ?_) | refine zN2 (fun hlen => ?_) | refine zAl (fun _ => ?_) | refine zBx (fun _ => ?_))
  rename_i b5
  have hd0 := dropNext_ag b3 (k) us.length (by omega) (by omega) (by omega)
  have hc0 := hcutUs (dropAt (k) us.length)
  rw [cutl_drop] at hc0
  refine x_join [75, 76, 77, 78, 79, 80, 81, 82] (fun _ : Unit => []) (fun _ => [.box b2 29 [.c (.lit (.string nm)), .c (.lit (.int .i64 vr)), .c (Us.row us), .c (Da.row ds), .c (Tr.row trs), .c (Im.row ims), .c (Fu.row fus), .c (Ac.row acs)], .box b3 3 [.c (.lit (.int .i64 (k - (us.length : Nat))))], .box b4 29 [.c (.lit (.string nm)), .c (.lit (.int .i64 vr)), .c (Us.row (cutl us (k))), .c (Da.row (cutl ds (k - (us.length : Nat)))), .c (Tr.row (cutl trs (k - (us.length : Nat) - (ds.length : Nat)))), .c (Im.row (cutl ims (k - (us.length : Nat) - (ds.length : Nat) - (trs.length : Nat)))), .c (Fu.row (cutl fus (k - (us.length : Nat) - (ds.length : Nat) - (trs.length : Nat) - (ims.length : Nat)))), .c (Ac.row (cutl acs (k - (us.length : Nat) - (ds.length : Nat) - (trs.length : Nat) - (ims.length : Nat) - (fus.length : Nat))))], .box b5 29 [.c (.lit (.string nm)), .c (.lit (.int .i64 vr)), .c (Us.row (cutl us (k))), .c (Da.row ds), .c (Tr.row trs), .c (Im.row ims), .c (Fu.row fus), .c (Ac.row acs)]]) (fun _ => ?_) ?_
  rotate_left
  · skip
    refine ac_drawT [0, 2, 0, 0, 0, 2, 1, 0, 2] (.fork [0, 2, 3, 4] 1 (.fin [5, 6, 7, 8]) 5 (.fin [1, 6, 7, 8])) (by kernel_rfl) (by kernel_rfl) ?_
    refine wt_fork ?_
    refine gW ?_
    apply w_p; (focus exact rfl); (focus exact rfl); focus (intro _; (refine zIx 0 (show 0 < 6 by omega) ?_); exact det_refl)
    refine gW ?_
    refine w_nil ?_
    refine ⟨?_, ?_⟩
    · apply w_l; (focus exact rfl); (focus exact rfl); (first | refine zL1 ?_ | refine zL2 ?_ | refine zL3 ?_ | refine zLp ?_)
      refine w_nil ?_
      refine wt_fin ?_
      apply w_l; (focus exact rfl); (focus exact rfl); (refine zCallG [1] hd0 ?_; rintro _ _ ⟨rfl, rfl⟩; refine ⟨.c _, _, re_refl, rfl, rfl, ?_⟩)
      apply w_q; (focus exact rfl); (focus exact rfl); focus (intro _; (refine zCall hc0 ?_; rintro _ rfl); exact det_refl)
      refine gW ?_
      apply w_l; (focus exact rfl); (focus exact rfl); (first | (refine zkL ?_; first | refine zL1 ?_ | refine zL2 ?_ | refine zL3 ?_ | refine zLp ?_) | refine zM ?_ | (refine zkF ?_; first | refine zF1 ?_ | refine zF2 ?_ | refine zF3 ?_) | refine zA ?_ | (refine zkB ?_; first | refine zC5 ?_ | refine zC6 ?_ | refine zC1 ?_ | refine zC2 ?_ | refine zC3 ?_ | refine zC4 ?_ | refine zS5 ?_ | refine zS6 ?_ | refine zS1 ?_ | refine zS2 ?_ | refine zS3 ?_ | refine zS4 ?_ | refine zInc ?_ | refine zQ1 ?_ | refine zQ2 ?_ | refine zQ3 ?_ | refine zQ4 ?_ | refine zQ5 ?_ | refine zQ6 ?_) | (refine zkI ?_; first | refine zN1 (fun hlen => ?_) | refine zN2 (fun hlen => ?_) | refine zN3 ?_ | refine zN4 ?_ | refine zAp (fun _ => ?_)) | refine zS ?_ | refine zAl (fun _ => ?_) | refine zBx (fun _ => ?_) | refine zPt ?_ | refine zPf ?_ | refine zE ?_ | refine zEA ?_ | refine zNot ?_ | refine zBd ?_ | refine zBs ?_ | refine zFn ?_ | refine zK1 ?_ | refine zK2 ?_)
      refine w_nil ?_
      exact ⟨(), x_wkd 4 trivial rfl (by repeat (first | exact ag_refl | refine ag_upd rfl ?_ | refine ag_at rfl rfl ?_))⟩
    · apply w_l; (focus exact rfl); (focus exact rfl); (refine zCallG [1] hd0 ?_; rintro _ _ ⟨rfl, rfl⟩; refine ⟨.c _, _, re_refl, rfl, rfl, ?_⟩)
      refine w_nil ?_
      refine wt_fin ?_
      apply w_l; (focus exact rfl); (focus exact rfl); (first | refine zL1 ?_ | refine zL2 ?_ | refine zL3 ?_ | refine zLp ?_)
      apply w_q; (focus exact rfl); (focus exact rfl); focus (intro _; (refine zCall hc0 ?_; rintro _ rfl); exact det_refl)
      refine gW ?_
      apply w_l; (focus exact rfl); (focus exact rfl); (first | (refine zkL ?_; first | refine zL1 ?_ | refine zL2 ?_ | refine zL3 ?_ | refine zLp ?_) | refine zM ?_ | (refine zkF ?_; first | refine zF1 ?_ | refine zF2 ?_ | refine zF3 ?_) | refine zA ?_ | (refine zkB ?_; first | refine zC5 ?_ | refine zC6 ?_ | refine zC1 ?_ | refine zC2 ?_ | refine zC3 ?_ | refine zC4 ?_ | refine zS5 ?_ | refine zS6 ?_ | refine zS1 ?_ | refine zS2 ?_ | refine zS3 ?_ | refine zS4 ?_ | refine zInc ?_ | refine zQ1 ?_ | refine zQ2 ?_ | refine zQ3 ?_ | refine zQ4 ?_ | refine zQ5 ?_ | refine zQ6 ?_) | (refine zkI ?_; first | refine zN1 (fun hlen => ?_) | refine zN2 (fun hlen => ?_) | refine zN3 ?_ | refine zN4 ?_ | refine zAp (fun _ => ?_)) | refine zS ?_ | refine zAl (fun _ => ?_) | refine zBx (fun _ => ?_) | refine zPt ?_ | refine zPf ?_ | refine zE ?_ | refine zEA ?_ | refine zNot ?_ | refine zBd ?_ | refine zBs ?_ | refine zFn ?_ | refine zK1 ?_ | refine zK2 ?_)
      refine w_nil ?_
      exact ⟨(), x_wkd 4 trivial rfl (by repeat (first | exact ag_refl | refine ag_upd rfl ?_ | refine ag_at rfl rfl ?_))⟩
  refine x_keep [(2, .ptr 0 b2 0), (3, .ptr 1 b3 0), (5, .c (.row 6 1 [.lit (.int .i64 us.length), .lit (.int .i64 ds.length), .lit (.int .i64 trs.length), .lit (.int .i64 ims.length), .lit (.int .i64 fus.length), .lit (.int .i64 acs.length)])), (9, .ptr 2 b4 0), (10, .c (.lit (.int .i64 0))), (11, .ptr 3 b5 0)] ⟨rfl, rfl, rfl, rfl, rfl, rfl, trivial⟩ ?_
  clear hd0 hc0
  repeat (first | refine gG ?_ | refine zN1 (fun hlen => ?_) | refine zN2 (fun hlen => ?_) | refine zAl (fun _ => ?_) | refine zBx (fun _ => ?_))
  have hd1 := dropNext_ag b3 (k - (us.length : Nat)) ds.length (by omega) (by omega) (by omega)
  have hc1 := hcutDa (dropAt (k - (us.length : Nat)) ds.length)
  rw [cutl_drop] at hc1
  refine x_join [83, 84, 85, 86, 87, 88, 89, 90] (fun _ : Unit => []) (fun _ => [.box b2 29 [.c (.lit (.string nm)), .c (.lit (.int .i64 vr)), .c (Us.row us), .c (Da.row ds), .c (Tr.row trs), .c (Im.row ims), .c (Fu.row fus), .c (Ac.row acs)], .box b3 3 [.c (.lit (.int .i64 (k - (us.length : Nat) - (ds.length : Nat))))], .box b4 29 [.c (.lit (.string nm)), .c (.lit (.int .i64 vr)), .c (Us.row (cutl us (k))), .c (Da.row (cutl ds (k - (us.length : Nat)))), .c (Tr.row (cutl trs (k - (us.length : Nat) - (ds.length : Nat)))), .c (Im.row (cutl ims (k - (us.length : Nat) - (ds.length : Nat) - (trs.length : Nat)))), .c (Fu.row (cutl fus (k - (us.length : Nat) - (ds.length : Nat) - (trs.length : Nat) - (ims.length : Nat)))), .c (Ac.row (cutl acs (k - (us.length : Nat) - (ds.length : Nat) - (trs.length : Nat) - (ims.length : Nat) - (fus.length : Nat))))], .box b5 29 [.c (.lit (.string nm)), .c (.lit (.int .i64 vr)), .c (Us.row (cutl us (k))), .c (Da.row (cutl ds (k - (us.length : Nat)))), .c (Tr.row trs), .c (Im.row ims), .c (Fu.row fus), .c (Ac.row acs)]]) (fun _ => ?_) ?_
  rotate_left
  · skip
    refine ac_drawT [0, 2, 0, 0, 0, 2, 1, 0, 2] (.fork [0, 2, 3, 4] 1 (.fin [5, 6, 7, 8]) 5 (.fin [1, 6, 7, 8])) (by kernel_rfl) (by kernel_rfl) ?_
    refine wt_fork ?_
    refine gW ?_
    apply w_p; (focus exact rfl); (focus exact rfl); focus (intro _; (refine zIx 1 (show 1 < 6 by omega) ?_); exact det_refl)
    refine gW ?_
    refine w_nil ?_
    refine ⟨?_, ?_⟩
    · apply w_l; (focus exact rfl); (focus exact rfl); (first | refine zL1 ?_ | refine zL2 ?_ | refine zL3 ?_ | refine zLp ?_)
      refine w_nil ?_
      refine wt_fin ?_
      apply w_l; (focus exact rfl); (focus exact rfl); (refine zCallG [1] hd1 ?_; rintro _ _ ⟨rfl, rfl⟩; refine ⟨.c _, _, re_refl, rfl, rfl, ?_⟩)
      apply w_q; (focus exact rfl); (focus exact rfl); focus (intro _; (refine zCall hc1 ?_; rintro _ rfl); exact det_refl)
      refine gW ?_
      apply w_l; (focus exact rfl); (focus exact rfl); (first | (refine zkL ?_; first | refine zL1 ?_ | refine zL2 ?_ | refine zL3 ?_ | refine zLp ?_) | refine zM ?_ | (refine zkF ?_; first | refine zF1 ?_ | refine zF2 ?_ | refine zF3 ?_) | refine zA ?_ | (refine zkB ?_; first | refine zC5 ?_ | refine zC6 ?_ | refine zC1 ?_ | refine zC2 ?_ | refine zC3 ?_ | refine zC4 ?_ | refine zS5 ?_ | refine zS6 ?_ | refine zS1 ?_ | refine zS2 ?_ | refine zS3 ?_ | refine zS4 ?_ | refine zInc ?_ | refine zQ1 ?_ | refine zQ2 ?_ | refine zQ3 ?_ | refine zQ4 ?_ | refine zQ5 ?_ | refine zQ6 ?_) | (refine zkI ?_; first | refine zN1 (fun hlen => ?_) | refine zN2 (fun hlen => ?_) | refine zN3 ?_ | refine zN4 ?_ | refine zAp (fun _ => ?_)) | refine zS ?_ | refine zAl (fun _ => ?_) | refine zBx (fun _ => ?_) | refine zPt ?_ | refine zPf ?_ | refine zE ?_ | refine zEA ?_ | refine zNot ?_ | refine zBd ?_ | refine zBs ?_ | refine zFn ?_ | refine zK1 ?_ | refine zK2 ?_)
      refine w_nil ?_
      exact ⟨(), x_wkd 4 trivial rfl (by repeat (first | exact ag_refl | refine ag_upd rfl ?_ | refine ag_at rfl rfl ?_))⟩
    · apply w_l; (focus exact rfl); (focus exact rfl); (refine zCallG [1] hd1 ?_; rintro _ _ ⟨rfl, rfl⟩; refine ⟨.c _, _, re_refl, rfl, rfl, ?_⟩)
      refine w_nil ?_
      refine wt_fin ?_
      apply w_l; (focus exact rfl); (focus exact rfl); (first | refine zL1 ?_ | refine zL2 ?_ | refine zL3 ?_ | refine zLp ?_)
      apply w_q; (focus exact rfl); (focus exact rfl); focus (intro _; (refine zCall hc1 ?_; rintro _ rfl); exact det_refl)
      refine gW ?_
      apply w_l; (focus exact rfl); (focus exact rfl); (first | (refine zkL ?_; first | refine zL1 ?_ | refine zL2 ?_ | refine zL3 ?_ | refine zLp ?_) | refine zM ?_ | (refine zkF ?_; first | refine zF1 ?_ | refine zF2 ?_ | refine zF3 ?_) | refine zA ?_ | (refine zkB ?_; first | refine zC5 ?_ | refine zC6 ?_ | refine zC1 ?_ | refine zC2 ?_ | refine zC3 ?_ | refine zC4 ?_ | refine zS5 ?_ | refine zS6 ?_ | refine zS1 ?_ | refine zS2 ?_ | refine zS3 ?_ | refine zS4 ?_ | refine zInc ?_ | refine zQ1 ?_ | refine zQ2 ?_ | refine zQ3 ?_ | refine zQ4 ?_ | refine zQ5 ?_ | refine zQ6 ?_) | (refine zkI ?_; first | refine zN1 (fun hlen => ?_) | refine zN2 (fun hlen => ?_) | refine zN3 ?_ | refine zN4 ?_ | refine zAp (fun _ => ?_)) | refine zS ?_ | refine zAl (fun _ => ?_) | refine zBx (fun _ => ?_) | refine zPt ?_ | refine zPf ?_ | refine zE ?_ | refine zEA ?_ | refine zNot ?_ | refine zBd ?_ | refine zBs ?_ | refine zFn ?_ | refine zK1 ?_ | refine zK2 ?_)
      refine w_nil ?_
      exact ⟨(), x_wkd 4 trivial rfl (by repeat (first | exact ag_refl | refine ag_upd rfl ?_ | refine ag_at rfl rfl ?_))⟩
  refine x_keep [(2, .ptr 0 b2 0), (3, .ptr 1 b3 0), (5, .c (.row 6 1 [.lit (.int .i64 us.length), .lit (.int .i64 ds.length), .lit (.int .i64 trs.length), .lit (.int .i64 ims.length), .lit (.int .i64 fus.length), .lit (.int .i64 acs.length)])), (9, .ptr 2 b4 0), (10, .c (.lit (.int .i64 0))), (11, .ptr 3 b5 0)] ⟨rfl, rfl, rfl, rfl, rfl, rfl, trivial⟩ ?_
  clear hd1 hc1
  repeat (first | refine gG ?_ | refine zN1 (fun hlen => ?_) | refine zN2 (fun hlen => ?_) | refine zAl (fun _ => ?_) | refine zBx (fun _ => ?_))
  have hd2 := dropNext_ag b3 (k - (us.length : Nat) - (ds.length : Nat)) trs.length (by omega) (by omega) (by omega)
  have hc2 := hcutTr (dropAt (k - (us.length : Nat) - (ds.length : Nat)) trs.length)
  rw [cutl_drop] at hc2
  refine x_join [91, 92, 93, 94, 95, 96, 97, 98] (fun _ : Unit => []) (fun _ => [.box b2 29 [.c (.lit (.string nm)), .c (.lit (.int .i64 vr)), .c (Us.row us), .c (Da.row ds), .c (Tr.row trs), .c (Im.row ims), .c (Fu.row fus), .c (Ac.row acs)], .box b3 3 [.c (.lit (.int .i64 (k - (us.length : Nat) - (ds.length : Nat) - (trs.length : Nat))))], .box b4 29 [.c (.lit (.string nm)), .c (.lit (.int .i64 vr)), .c (Us.row (cutl us (k))), .c (Da.row (cutl ds (k - (us.length : Nat)))), .c (Tr.row (cutl trs (k - (us.length : Nat) - (ds.length : Nat)))), .c (Im.row (cutl ims (k - (us.length : Nat) - (ds.length : Nat) - (trs.length : Nat)))), .c (Fu.row (cutl fus (k - (us.length : Nat) - (ds.length : Nat) - (trs.length : Nat) - (ims.length : Nat)))), .c (Ac.row (cutl acs (k - (us.length : Nat) - (ds.length : Nat) - (trs.length : Nat) - (ims.length : Nat) - (fus.length : Nat))))], .box b5 29 [.c (.lit (.string nm)), .c (.lit (.int .i64 vr)), .c (Us.row (cutl us (k))), .c (Da.row (cutl ds (k - (us.length : Nat)))), .c (Tr.row (cutl trs (k - (us.length : Nat) - (ds.length : Nat)))), .c (Im.row ims), .c (Fu.row fus), .c (Ac.row acs)]]) (fun _ => ?_) ?_
  rotate_left
  · skip
    refine ac_drawT [0, 2, 0, 0, 0, 2, 1, 0, 2] (.fork [0, 2, 3, 4] 1 (.fin [5, 6, 7, 8]) 5 (.fin [1, 6, 7, 8])) (by kernel_rfl) (by kernel_rfl) ?_
    refine wt_fork ?_
    refine gW ?_
    apply w_p; (focus exact rfl); (focus exact rfl); focus (intro _; (refine zIx 2 (show 2 < 6 by omega) ?_); exact det_refl)
    refine gW ?_
    refine w_nil ?_
    refine ⟨?_, ?_⟩
    · apply w_l; (focus exact rfl); (focus exact rfl); (first | refine zL1 ?_ | refine zL2 ?_ | refine zL3 ?_ | refine zLp ?_)
      refine w_nil ?_
      refine wt_fin ?_
      apply w_l; (focus exact rfl); (focus exact rfl); (refine zCallG [1] hd2 ?_; rintro _ _ ⟨rfl, rfl⟩; refine ⟨.c _, _, re_refl, rfl, rfl, ?_⟩)
      apply w_q; (focus exact rfl); (focus exact rfl); focus (intro _; (refine zCall hc2 ?_; rintro _ rfl); exact det_refl)
      refine gW ?_
      apply w_l; (focus exact rfl); (focus exact rfl); (first | (refine zkL ?_; first | refine zL1 ?_ | refine zL2 ?_ | refine zL3 ?_ | refine zLp ?_) | refine zM ?_ | (refine zkF ?_; first | refine zF1 ?_ | refine zF2 ?_ | refine zF3 ?_) | refine zA ?_ | (refine zkB ?_; first | refine zC5 ?_ | refine zC6 ?_ | refine zC1 ?_ | refine zC2 ?_ | refine zC3 ?_ | refine zC4 ?_ | refine zS5 ?_ | refine zS6 ?_ | refine zS1 ?_ | refine zS2 ?_ | refine zS3 ?_ | refine zS4 ?_ | refine zInc ?_ | refine zQ1 ?_ | refine zQ2 ?_ | refine zQ3 ?_ | refine zQ4 ?_ | refine zQ5 ?_ | refine zQ6 ?_) | (refine zkI ?_; first | refine zN1 (fun hlen => ?_) | refine zN2 (fun hlen => ?_) | refine zN3 ?_ | refine zN4 ?_ | refine zAp (fun _ => ?_)) | refine zS ?_ | refine zAl (fun _ => ?_) | refine zBx (fun _ => ?_) | refine zPt ?_ | refine zPf ?_ | refine zE ?_ | refine zEA ?_ | refine zNot ?_ | refine zBd ?_ | refine zBs ?_ | refine zFn ?_ | refine zK1 ?_ | refine zK2 ?_)
      refine w_nil ?_
      exact ⟨(), x_wkd 4 trivial rfl (by repeat (first | exact ag_refl | refine ag_upd rfl ?_ | refine ag_at rfl rfl ?_))⟩
    · apply w_l; (focus exact rfl); (focus exact rfl); (refine zCallG [1] hd2 ?_; rintro _ _ ⟨rfl, rfl⟩; refine ⟨.c _, _, re_refl, rfl, rfl, ?_⟩)
      refine w_nil ?_
      refine wt_fin ?_
      apply w_l; (focus exact rfl); (focus exact rfl); (first | refine zL1 ?_ | refine zL2 ?_ | refine zL3 ?_ | refine zLp ?_)
      apply w_q; (focus exact rfl); (focus exact rfl); focus (intro _; (refine zCall hc2 ?_; rintro _ rfl); exact det_refl)
      refine gW ?_
      apply w_l; (focus exact rfl); (focus exact rfl); (first | (refine zkL ?_; first | refine zL1 ?_ | refine zL2 ?_ | refine zL3 ?_ | refine zLp ?_) | refine zM ?_ | (refine zkF ?_; first | refine zF1 ?_ | refine zF2 ?_ | refine zF3 ?_) | refine zA ?_ | (refine zkB ?_; first | refine zC5 ?_ | refine zC6 ?_ | refine zC1 ?_ | refine zC2 ?_ | refine zC3 ?_ | refine zC4 ?_ | refine zS5 ?_ | refine zS6 ?_ | refine zS1 ?_ | refine zS2 ?_ | refine zS3 ?_ | refine zS4 ?_ | refine zInc ?_ | refine zQ1 ?_ | refine zQ2 ?_ | refine zQ3 ?_ | refine zQ4 ?_ | refine zQ5 ?_ | refine zQ6 ?_) | (refine zkI ?_; first | refine zN1 (fun hlen => ?_) | refine zN2 (fun hlen => ?_) | refine zN3 ?_ | refine zN4 ?_ | refine zAp (fun _ => ?_)) | refine zS ?_ | refine zAl (fun _ => ?_) | refine zBx (fun _ => ?_) | refine zPt ?_ | refine zPf ?_ | refine zE ?_ | refine zEA ?_ | refine zNot ?_ | refine zBd ?_ | refine zBs ?_ | refine zFn ?_ | refine zK1 ?_ | refine zK2 ?_)
      refine w_nil ?_
      exact ⟨(), x_wkd 4 trivial rfl (by repeat (first | exact ag_refl | refine ag_upd rfl ?_ | refine ag_at rfl rfl ?_))⟩
  refine x_keep [(2, .ptr 0 b2 0), (3, .ptr 1 b3 0), (5, .c (.row 6 1 [.lit (.int .i64 us.length), .lit (.int .i64 ds.length), .lit (.int .i64 trs.length), .lit (.int .i64 ims.length), .lit (.int .i64 fus.length), .lit (.int .i64 acs.length)])), (9, .ptr 2 b4 0), (10, .c (.lit (.int .i64 0))), (11, .ptr 3 b5 0)] ⟨rfl, rfl, rfl, rfl, rfl, rfl, trivial⟩ ?_
  clear hd2 hc2
  repeat (first | refine gG ?_ | refine zN1 (fun hlen => ?_) | refine zN2 (fun hlen => ?_) | refine zAl (fun _ => ?_) | refine zBx (fun _ => ?_))
  have hd3 := dropNext_ag b3 (k - (us.length : Nat) - (ds.length : Nat) - (trs.length : Nat)) ims.length (by omega) (by omega) (by omega)
  have hc3 := hcutIm (dropAt (k - (us.length : Nat) - (ds.length : Nat) - (trs.length : Nat)) ims.length)
  rw [cutl_drop] at hc3
  refine x_join [99, 100, 101, 102, 103, 104, 105, 106] (fun _ : Unit => []) (fun _ => [.box b2 29 [.c (.lit (.string nm)), .c (.lit (.int .i64 vr)), .c (Us.row us), .c (Da.row ds), .c (Tr.row trs), .c (Im.row ims), .c (Fu.row fus), .c (Ac.row acs)], .box b3 3 [.c (.lit (.int .i64 (k - (us.length : Nat) - (ds.length : Nat) - (trs.length : Nat) - (ims.length : Nat))))], .box b4 29 [.c (.lit (.string nm)), .c (.lit (.int .i64 vr)), .c (Us.row (cutl us (k))), .c (Da.row (cutl ds (k - (us.length : Nat)))), .c (Tr.row (cutl trs (k - (us.length : Nat) - (ds.length : Nat)))), .c (Im.row (cutl ims (k - (us.length : Nat) - (ds.length : Nat) - (trs.length : Nat)))), .c (Fu.row (cutl fus (k - (us.length : Nat) - (ds.length : Nat) - (trs.length : Nat) - (ims.length : Nat)))), .c (Ac.row (cutl acs (k - (us.length : Nat) - (ds.length : Nat) - (trs.length : Nat) - (ims.length : Nat) - (fus.length : Nat))))], .box b5 29 [.c (.lit (.string nm)), .c (.lit (.int .i64 vr)), .c (Us.row (cutl us (k))), .c (Da.row (cutl ds (k - (us.length : Nat)))), .c (Tr.row (cutl trs (k - (us.length : Nat) - (ds.length : Nat)))), .c (Im.row (cutl ims (k - (us.length : Nat) - (ds.length : Nat) - (trs.length : Nat)))), .c (Fu.row fus), .c (Ac.row acs)]]) (fun _ => ?_) ?_
  rotate_left
  · skip
    refine ac_drawT [0, 2, 0, 0, 0, 2, 1, 0, 2] (.fork [0, 2, 3, 4] 1 (.fin [5, 6, 7, 8]) 5 (.fin [1, 6, 7, 8])) (by kernel_rfl) (by kernel_rfl) ?_
    refine wt_fork ?_
    refine gW ?_
    apply w_p; (focus exact rfl); (focus exact rfl); focus (intro _; (refine zIx 3 (show 3 < 6 by omega) ?_); exact det_refl)
    refine gW ?_
    refine w_nil ?_
    refine ⟨?_, ?_⟩
    · apply w_l; (focus exact rfl); (focus exact rfl); (first | refine zL1 ?_ | refine zL2 ?_ | refine zL3 ?_ | refine zLp ?_)
      refine w_nil ?_
      refine wt_fin ?_
      apply w_l; (focus exact rfl); (focus exact rfl); (refine zCallG [1] hd3 ?_; rintro _ _ ⟨rfl, rfl⟩; refine ⟨.c _, _, re_refl, rfl, rfl, ?_⟩)
      apply w_q; (focus exact rfl); (focus exact rfl); focus (intro _; (refine zCall hc3 ?_; rintro _ rfl); exact det_refl)
      refine gW ?_
      apply w_l; (focus exact rfl); (focus exact rfl); (first | (refine zkL ?_; first | refine zL1 ?_ | refine zL2 ?_ | refine zL3 ?_ | refine zLp ?_) | refine zM ?_ | (refine zkF ?_; first | refine zF1 ?_ | refine zF2 ?_ | refine zF3 ?_) | refine zA ?_ | (refine zkB ?_; first | refine zC5 ?_ | refine zC6 ?_ | refine zC1 ?_ | refine zC2 ?_ | refine zC3 ?_ | refine zC4 ?_ | refine zS5 ?_ | refine zS6 ?_ | refine zS1 ?_ | refine zS2 ?_ | refine zS3 ?_ | refine zS4 ?_ | refine zInc ?_ | refine zQ1 ?_ | refine zQ2 ?_ | refine zQ3 ?_ | refine zQ4 ?_ | refine zQ5 ?_ | refine zQ6 ?_) | (refine zkI ?_; first | refine zN1 (fun hlen => ?_) | refine zN2 (fun hlen => ?_) | refine zN3 ?_ | refine zN4 ?_ | refine zAp (fun _ => ?_)) | refine zS ?_ | refine zAl (fun _ => ?_) | refine zBx (fun _ => ?_) | refine zPt ?_ | refine zPf ?_ | refine zE ?_ | refine zEA ?_ | refine zNot ?_ | refine zBd ?_ | refine zBs ?_ | refine zFn ?_ | refine zK1 ?_ | refine zK2 ?_)
      refine w_nil ?_
      exact ⟨(), x_wkd 4 trivial rfl (by repeat (first | exact ag_refl | refine ag_upd rfl ?_ | refine ag_at rfl rfl ?_))⟩
    · apply w_l; (focus exact rfl); (focus exact rfl); (refine zCallG [1] hd3 ?_; rintro _ _ ⟨rfl, rfl⟩; refine ⟨.c _, _, re_refl, rfl, rfl, ?_⟩)
      refine w_nil ?_
      refine wt_fin ?_
      apply w_l; (focus exact rfl); (focus exact rfl); (first | refine zL1 ?_ | refine zL2 ?_ | refine zL3 ?_ | refine zLp ?_)
      apply w_q; (focus exact rfl); (focus exact rfl); focus (intro _; (refine zCall hc3 ?_; rintro _ rfl); exact det_refl)
      refine gW ?_
      apply w_l; (focus exact rfl); (focus exact rfl); (first | (refine zkL ?_; first | refine zL1 ?_ | refine zL2 ?_ | refine zL3 ?_ | refine zLp ?_) | refine zM ?_ | (refine zkF ?_; first | refine zF1 ?_ | refine zF2 ?_ | refine zF3 ?_) | refine zA ?_ | (refine zkB ?_; first | refine zC5 ?_ | refine zC6 ?_ | refine zC1 ?_ | refine zC2 ?_ | refine zC3 ?_ | refine zC4 ?_ | refine zS5 ?_ | refine zS6 ?_ | refine zS1 ?_ | refine zS2 ?_ | refine zS3 ?_ | refine zS4 ?_ | refine zInc ?_ | refine zQ1 ?_ | refine zQ2 ?_ | refine zQ3 ?_ | refine zQ4 ?_ | refine zQ5 ?_ | refine zQ6 ?_) | (refine zkI ?_; first | refine zN1 (fun hlen => ?_) | refine zN2 (fun hlen => ?_) | refine zN3 ?_ | refine zN4 ?_ | refine zAp (fun _ => ?_)) | refine zS ?_ | refine zAl (fun _ => ?_) | refine zBx (fun _ => ?_) | refine zPt ?_ | refine zPf ?_ | refine zE ?_ | refine zEA ?_ | refine zNot ?_ | refine zBd ?_ | refine zBs ?_ | refine zFn ?_ | refine zK1 ?_ | refine zK2 ?_)
      refine w_nil ?_
      exact ⟨(), x_wkd 4 trivial rfl (by repeat (first | exact ag_refl | refine ag_upd rfl ?_ | refine ag_at rfl rfl ?_))⟩
  refine x_keep [(2, .ptr 0 b2 0), (3, .ptr 1 b3 0), (5, .c (.row 6 1 [.lit (.int .i64 us.length), .lit (.int .i64 ds.length), .lit (.int .i64 trs.length), .lit (.int .i64 ims.length), .lit (.int .i64 fus.length), .lit (.int .i64 acs.length)])), (9, .ptr 2 b4 0), (10, .c (.lit (.int .i64 0))), (11, .ptr 3 b5 0)] ⟨rfl, rfl, rfl, rfl, rfl, rfl, trivial⟩ ?_
  clear hd3 hc3
  repeat (first | refine gG ?_ | refine zN1 (fun hlen => ?_) | refine zN2 (fun hlen => ?_) | refine zAl (fun _ => ?_) | refine zBx (fun _ => ?_))
  have hd4 := dropNext_ag b3 (k - (us.length : Nat) - (ds.length : Nat) - (trs.length : Nat) - (ims.length : Nat)) fus.length (by omega) (by omega) (by omega)
  have hc4 := hcutFu (dropAt (k - (us.length : Nat) - (ds.length : Nat) - (trs.length : Nat) - (ims.length : Nat)) fus.length)
  rw [cutl_drop] at hc4
  refine x_join [107, 108, 109, 110, 111, 112, 113, 114] (fun _ : Unit => []) (fun _ => [.box b2 29 [.c (.lit (.string nm)), .c (.lit (.int .i64 vr)), .c (Us.row us), .c (Da.row ds), .c (Tr.row trs), .c (Im.row ims), .c (Fu.row fus), .c (Ac.row acs)], .box b3 3 [.c (.lit (.int .i64 (k - (us.length : Nat) - (ds.length : Nat) - (trs.length : Nat) - (ims.length : Nat) - (fus.length : Nat))))], .box b4 29 [.c (.lit (.string nm)), .c (.lit (.int .i64 vr)), .c (Us.row (cutl us (k))), .c (Da.row (cutl ds (k - (us.length : Nat)))), .c (Tr.row (cutl trs (k - (us.length : Nat) - (ds.length : Nat)))), .c (Im.row (cutl ims (k - (us.length : Nat) - (ds.length : Nat) - (trs.length : Nat)))), .c (Fu.row (cutl fus (k - (us.length : Nat) - (ds.length : Nat) - (trs.length : Nat) - (ims.length : Nat)))), .c (Ac.row (cutl acs (k - (us.length : Nat) - (ds.length : Nat) - (trs.length : Nat) - (ims.length : Nat) - (fus.length : Nat))))], .box b5 29 [.c (.lit (.string nm)), .c (.lit (.int .i64 vr)), .c (Us.row (cutl us (k))), .c (Da.row (cutl ds (k - (us.length : Nat)))), .c (Tr.row (cutl trs (k - (us.length : Nat) - (ds.length : Nat)))), .c (Im.row (cutl ims (k - (us.length : Nat) - (ds.length : Nat) - (trs.length : Nat)))), .c (Fu.row (cutl fus (k - (us.length : Nat) - (ds.length : Nat) - (trs.length : Nat) - (ims.length : Nat)))), .c (Ac.row acs)]]) (fun _ => ?_) ?_
  rotate_left
  · skip
    refine ac_drawT [0, 2, 0, 0, 0, 2, 1, 0, 2] (.fork [0, 2, 3, 4] 1 (.fin [5, 6, 7, 8]) 5 (.fin [1, 6, 7, 8])) (by kernel_rfl) (by kernel_rfl) ?_
    refine wt_fork ?_
    refine gW ?_
    apply w_p; (focus exact rfl); (focus exact rfl); focus (intro _; (refine zIx 4 (show 4 < 6 by omega) ?_); exact det_refl)
    refine gW ?_
    refine w_nil ?_
    refine ⟨?_, ?_⟩
    · apply w_l; (focus exact rfl); (focus exact rfl); (first | refine zL1 ?_ | refine zL2 ?_ | refine zL3 ?_ | refine zLp ?_)
      refine w_nil ?_
      refine wt_fin ?_
      apply w_l; (focus exact rfl); (focus exact rfl); (refine zCallG [1] hd4 ?_; rintro _ _ ⟨rfl, rfl⟩; refine ⟨.c _, _, re_refl, rfl, rfl, ?_⟩)
      apply w_q; (focus exact rfl); (focus exact rfl); focus (intro _; (refine zCall hc4 ?_; rintro _ rfl); exact det_refl)
      refine gW ?_
      apply w_l; (focus exact rfl); (focus exact rfl); (first | (refine zkL ?_; first | refine zL1 ?_ | refine zL2 ?_ | refine zL3 ?_ | refine zLp ?_) | refine zM ?_ | (refine zkF ?_; first | refine zF1 ?_ | refine zF2 ?_ | refine zF3 ?_) | refine zA ?_ | (refine zkB ?_; first | refine zC5 ?_ | refine zC6 ?_ | refine zC1 ?_ | refine zC2 ?_ | refine zC3 ?_ | refine zC4 ?_ | refine zS5 ?_ | refine zS6 ?_ | refine zS1 ?_ | refine zS2 ?_ | refine zS3 ?_ | refine zS4 ?_ | refine zInc ?_ | refine zQ1 ?_ | refine zQ2 ?_ | refine zQ3 ?_ | refine zQ4 ?_ | refine zQ5 ?_ | refine zQ6 ?_) | (refine zkI ?_; first | refine zN1 (fun hlen => ?_) | refine zN2 (fun hlen => ?_) | refine zN3 ?_ | refine zN4 ?_ | refine zAp (fun _ => ?_)) | refine zS ?_ | refine zAl (fun _ => ?_) | refine zBx (fun _ => ?_) | refine zPt ?_ | refine zPf ?_ | refine zE ?_ | refine zEA ?_ | refine zNot ?_ | refine zBd ?_ | refine zBs ?_ | refine zFn ?_ | refine zK1 ?_ | refine zK2 ?_)
      refine w_nil ?_
      exact ⟨(), x_wkd 4 trivial rfl (by repeat (first | exact ag_refl | refine ag_upd rfl ?_ | refine ag_at rfl rfl ?_))⟩
    · apply w_l; (focus exact rfl); (focus exact rfl); (refine zCallG [1] hd4 ?_; rintro _ _ ⟨rfl, rfl⟩; refine ⟨.c _, _, re_refl, rfl, rfl, ?_⟩)
      refine w_nil ?_
      refine wt_fin ?_
      apply w_l; (focus exact rfl); (focus exact rfl); (first | refine zL1 ?_ | refine zL2 ?_ | refine zL3 ?_ | refine zLp ?_)
      apply w_q; (focus exact rfl); (focus exact rfl); focus (intro _; (refine zCall hc4 ?_; rintro _ rfl); exact det_refl)
      refine gW ?_
      apply w_l; (focus exact rfl); (focus exact rfl); (first | (refine zkL ?_; first | refine zL1 ?_ | refine zL2 ?_ | refine zL3 ?_ | refine zLp ?_) | refine zM ?_ | (refine zkF ?_; first | refine zF1 ?_ | refine zF2 ?_ | refine zF3 ?_) | refine zA ?_ | (refine zkB ?_; first | refine zC5 ?_ | refine zC6 ?_ | refine zC1 ?_ | refine zC2 ?_ | refine zC3 ?_ | refine zC4 ?_ | refine zS5 ?_ | refine zS6 ?_ | refine zS1 ?_ | refine zS2 ?_ | refine zS3 ?_ | refine zS4 ?_ | refine zInc ?_ | refine zQ1 ?_ | refine zQ2 ?_ | refine zQ3 ?_ | refine zQ4 ?_ | refine zQ5 ?_ | refine zQ6 ?_) | (refine zkI ?_; first | refine zN1 (fun hlen => ?_) | refine zN2 (fun hlen => ?_) | refine zN3 ?_ | refine zN4 ?_ | refine zAp (fun _ => ?_)) | refine zS ?_ | refine zAl (fun _ => ?_) | refine zBx (fun _ => ?_) | refine zPt ?_ | refine zPf ?_ | refine zE ?_ | refine zEA ?_ | refine zNot ?_ | refine zBd ?_ | refine zBs ?_ | refine zFn ?_ | refine zK1 ?_ | refine zK2 ?_)
      refine w_nil ?_
      exact ⟨(), x_wkd 4 trivial rfl (by repeat (first | exact ag_refl | refine ag_upd rfl ?_ | refine ag_at rfl rfl ?_))⟩
  refine x_keep [(2, .ptr 0 b2 0), (3, .ptr 1 b3 0), (5, .c (.row 6 1 [.lit (.int .i64 us.length), .lit (.int .i64 ds.length), .lit (.int .i64 trs.length), .lit (.int .i64 ims.length), .lit (.int .i64 fus.length), .lit (.int .i64 acs.length)])), (9, .ptr 2 b4 0), (10, .c (.lit (.int .i64 0))), (11, .ptr 3 b5 0)] ⟨rfl, rfl, rfl, rfl, rfl, rfl, trivial⟩ ?_
  clear hd4 hc4
  repeat (first | refine gG ?_ | refine zN1 (fun hlen => ?_) | refine zN2 (fun hlen => ?_) | refine zAl (fun _ => ?_) | refine zBx (fun _ => ?_))
  have hd5 := dropNext_ag b3 (k - (us.length : Nat) - (ds.length : Nat) - (trs.length : Nat) - (ims.length : Nat) - (fus.length : Nat)) acs.length (by omega) (by omega) (by omega)
  have hc5 := hcutAc (dropAt (k - (us.length : Nat) - (ds.length : Nat) - (trs.length : Nat) - (ims.length : Nat) - (fus.length : Nat)) acs.length)
  rw [cutl_drop] at hc5
  refine x_join [115, 116, 117, 118, 119, 120, 121, 122] (fun _ : Unit => []) (fun _ => [.box b2 29 [.c (.lit (.string nm)), .c (.lit (.int .i64 vr)), .c (Us.row us), .c (Da.row ds), .c (Tr.row trs), .c (Im.row ims), .c (Fu.row fus), .c (Ac.row acs)], .box b3 3 [.c (.lit (.int .i64 (k - (us.length : Nat) - (ds.length : Nat) - (trs.length : Nat) - (ims.length : Nat) - (fus.length : Nat) - (acs.length : Nat))))], .box b4 29 [.c (.lit (.string nm)), .c (.lit (.int .i64 vr)), .c (Us.row (cutl us (k))), .c (Da.row (cutl ds (k - (us.length : Nat)))), .c (Tr.row (cutl trs (k - (us.length : Nat) - (ds.length : Nat)))), .c (Im.row (cutl ims (k - (us.length : Nat) - (ds.length : Nat) - (trs.length : Nat)))), .c (Fu.row (cutl fus (k - (us.length : Nat) - (ds.length : Nat) - (trs.length : Nat) - (ims.length : Nat)))), .c (Ac.row (cutl acs (k - (us.length : Nat) - (ds.length : Nat) - (trs.length : Nat) - (ims.length : Nat) - (fus.length : Nat))))], .box b5 29 [.c (.lit (.string nm)), .c (.lit (.int .i64 vr)), .c (Us.row (cutl us (k))), .c (Da.row (cutl ds (k - (us.length : Nat)))), .c (Tr.row (cutl trs (k - (us.length : Nat) - (ds.length : Nat)))), .c (Im.row (cutl ims (k - (us.length : Nat) - (ds.length : Nat) - (trs.length : Nat)))), .c (Fu.row (cutl fus (k - (us.length : Nat) - (ds.length : Nat) - (trs.length : Nat) - (ims.length : Nat)))), .c (Ac.row (cutl acs (k - (us.length : Nat) - (ds.length : Nat) - (trs.length : Nat) - (ims.length : Nat) - (fus.length : Nat))))]]) (fun _ => ?_) ?_
  rotate_left
  · skip
    refine ac_drawT [0, 2, 0, 0, 0, 2, 1, 0, 2] (.fork [0, 2, 3, 4] 1 (.fin [5, 6, 7, 8]) 5 (.fin [1, 6, 7, 8])) (by kernel_rfl) (by kernel_rfl) ?_
    refine wt_fork ?_
    refine gW ?_
    apply w_p; (focus exact rfl); (focus exact rfl); focus (intro _; (refine zIx 5 (show 5 < 6 by omega) ?_); exact det_refl)
    refine gW ?_
    refine w_nil ?_
    refine ⟨?_, ?_⟩
    · apply w_l; (focus exact rfl); (focus exact rfl); (first | refine zL1 ?_ | refine zL2 ?_ | refine zL3 ?_ | refine zLp ?_)
      refine w_nil ?_
      refine wt_fin ?_
      apply w_l; (focus exact rfl); (focus exact rfl); (refine zCallG [1] hd5 ?_; rintro _ _ ⟨rfl, rfl⟩; refine ⟨.c _, _, re_refl, rfl, rfl, ?_⟩)
      apply w_q; (focus exact rfl); (focus exact rfl); focus (intro _; (refine zCall hc5 ?_; rintro _ rfl); exact det_refl)
      refine gW ?_
      apply w_l; (focus exact rfl); (focus exact rfl); (first | (refine zkL ?_; first | refine zL1 ?_ | refine zL2 ?_ | refine zL3 ?_ | refine zLp ?_) | refine zM ?_ | (refine zkF ?_; first | refine zF1 ?_ | refine zF2 ?_ | refine zF3 ?_) | refine zA ?_ | (refine zkB ?_; first | refine zC5 ?_ | refine zC6 ?_ | refine zC1 ?_ | refine zC2 ?_ | refine zC3 ?_ | refine zC4 ?_ | refine zS5 ?_ | refine zS6 ?_ | refine zS1 ?_ | refine zS2 ?_ | refine zS3 ?_ | refine zS4 ?_ | refine zInc ?_ | refine zQ1 ?_ | refine zQ2 ?_ | refine zQ3 ?_ | refine zQ4 ?_ | refine zQ5 ?_ | refine zQ6 ?_) | (refine zkI ?_; first | refine zN1 (fun hlen => ?_) | refine zN2 (fun hlen => ?_) | refine zN3 ?_ | refine zN4 ?_ | refine zAp (fun _ => ?_)) | refine zS ?_ | refine zAl (fun _ => ?_) | refine zBx (fun _ => ?_) | refine zPt ?_ | refine zPf ?_ | refine zE ?_ | refine zEA ?_ | refine zNot ?_ | refine zBd ?_ | refine zBs ?_ | refine zFn ?_ | refine zK1 ?_ | refine zK2 ?_)
      refine w_nil ?_
      exact ⟨(), x_wkd 4 trivial rfl (by repeat (first | exact ag_refl | refine ag_upd rfl ?_ | refine ag_at rfl rfl ?_))⟩
    · apply w_l; (focus exact rfl); (focus exact rfl); (refine zCallG [1] hd5 ?_; rintro _ _ ⟨rfl, rfl⟩; refine ⟨.c _, _, re_refl, rfl, rfl, ?_⟩)
      refine w_nil ?_
      refine wt_fin ?_
      apply w_l; (focus exact rfl); (focus exact rfl); (first | refine zL1 ?_ | refine zL2 ?_ | refine zL3 ?_ | refine zLp ?_)
      apply w_q; (focus exact rfl); (focus exact rfl); focus (intro _; (refine zCall hc5 ?_; rintro _ rfl); exact det_refl)
      refine gW ?_
      apply w_l; (focus exact rfl); (focus exact rfl); (first | (refine zkL ?_; first | refine zL1 ?_ | refine zL2 ?_ | refine zL3 ?_ | refine zLp ?_) | refine zM ?_ | (refine zkF ?_; first | refine zF1 ?_ | refine zF2 ?_ | refine zF3 ?_) | refine zA ?_ | (refine zkB ?_; first | refine zC5 ?_ | refine zC6 ?_ | refine zC1 ?_ | refine zC2 ?_ | refine zC3 ?_ | refine zC4 ?_ | refine zS5 ?_ | refine zS6 ?_ | refine zS1 ?_ | refine zS2 ?_ | refine zS3 ?_ | refine zS4 ?_ | refine zInc ?_ | refine zQ1 ?_ | refine zQ2 ?_ | refine zQ3 ?_ | refine zQ4 ?_ | refine zQ5 ?_ | refine zQ6 ?_) | (refine zkI ?_; first | refine zN1 (fun hlen => ?_) | refine zN2 (fun hlen => ?_) | refine zN3 ?_ | refine zN4 ?_ | refine zAp (fun _ => ?_)) | refine zS ?_ | refine zAl (fun _ => ?_) | refine zBx (fun _ => ?_) | refine zPt ?_ | refine zPf ?_ | refine zE ?_ | refine zEA ?_ | refine zNot ?_ | refine zBd ?_ | refine zBs ?_ | refine zFn ?_ | refine zK1 ?_ | refine zK2 ?_)
      refine w_nil ?_
      exact ⟨(), x_wkd 4 trivial rfl (by repeat (first | exact ag_refl | refine ag_upd rfl ?_ | refine ag_at rfl rfl ?_))⟩
  refine x_keep [(2, .ptr 0 b2 0), (3, .ptr 1 b3 0), (5, .c (.row 6 1 [.lit (.int .i64 us.length), .lit (.int .i64 ds.length), .lit (.int .i64 trs.length), .lit (.int .i64 ims.length), .lit (.int .i64 fus.length), .lit (.int .i64 acs.length)])), (9, .ptr 2 b4 0), (10, .c (.lit (.int .i64 0))), (11, .ptr 3 b5 0)] ⟨rfl, rfl, rfl, rfl, rfl, rfl, trivial⟩ ?_
  clear hd5 hc5
  repeat (first | refine gG ?_ | refine zN1 (fun hlen => ?_) | refine zN2 (fun hlen => ?_) | refine zAl (fun _ => ?_) | refine zBx (fun _ => ?_))
  refine ac_draw [1, 1, 1, 1, 1, 1, 1, 1, 1, 1] [0, 1, 2, 3, 4, 5, 6, 7, 8, 9] (by kernel_rfl) (by kernel_rfl) ?_
  refine gW ?_
  try (first | (apply w_un; (focus exact rfl); (focus exact rfl); (focus exact rfl); (focus exact rfl)) | (apply w_no; (focus exact rfl); (focus exact rfl); (focus exact rfl); (focus exact rfl); focus (first | rfl | assumption | exact neg_t (by assumption) | exact neg_f (by assumption))) | (apply w_qg; (focus exact rfl); (focus exact rfl); (focus exact rfl); (focus exact rfl); (focus (first | rfl | assumption | exact neg_t (by assumption) | exact neg_f (by assumption))); (focus (intro _; (refine zCall hmq ?_; rintro _ rfl); exact det_refl))))
  try refine gW ?_
  try (first | (apply w_un; (focus exact rfl); (focus exact rfl); (focus exact rfl); (focus exact rfl)) | (apply w_no; (focus exact rfl); (focus exact rfl); (focus exact rfl); (focus exact rfl); focus (first | rfl | assumption | exact neg_t (by assumption) | exact neg_f (by assumption))) | (apply w_qg; (focus exact rfl); (focus exact rfl); (focus exact rfl); (focus exact rfl); (focus (first | rfl | assumption | exact neg_t (by assumption) | exact neg_f (by assumption))); (focus (intro _; (refine zCall hmq ?_; rintro _ rfl); exact det_refl))))
  (first | (apply w_un; (focus exact rfl); (focus exact rfl); (focus exact rfl); (focus exact rfl)) | (apply w_no; (focus exact rfl); (focus exact rfl); (focus exact rfl); (focus exact rfl); focus (first | rfl | assumption | exact neg_t (by assumption) | exact neg_f (by assumption))) | (apply w_qg; (focus exact rfl); (focus exact rfl); (focus exact rfl); (focus exact rfl); (focus (first | rfl | assumption | exact neg_t (by assumption) | exact neg_f (by assumption))); (focus (intro _; (refine lo_eqsr hmm ?_); exact det_refl))))
  try refine gW ?_
  refine w_nil ?_
  repeat (first | refine gG ?_ | refine zN1 (fun hlen => ?_) | refine zN2 (fun hlen => ?_) | refine zAl (fun _ => ?_) | refine zBx (fun _ => ?_))
  first | refine zR ?_ | refine zQ ?_
  rfl
end Go.Proofs.YtllgibfmddihgaaDoor
namespace Go.Proofs.YtllgibfmddihgaaDoor
open Go.ChangeShapes Go.WideShapes Go.ChangeAt Go.RowKit Go.Deep
section
variable {H : Type} {enc : TypeId × Value → H} {P : Program} {w : World} {base : Nat} {spare : Nat → Bool} {held : Bool}
theorem bulk_one (d : DataW H) : 1 ≤ Rows.uptoBulk d := by
  cases d with
  | lit l => cases l <;> simp [Rows.uptoBulk]
  | _ => simp [Rows.uptoBulk]
end
end Go.Proofs.YtllgibfmddihgaaDoor
namespace Go.Proofs.YtllgibfmddihgaaDoor
open Go.ChangeShapes Go.WideShapes Go.ChangeAt Go.RowKit
theorem own : ownKnob Tryd.prog.godebug = none := by kernel_rfl
theorem laidOut : laidOutB Tryd.prog = true := by kernel_rfl
section
variable {H : Type} {enc : TypeId × Value → H}
theorem trodAll_below {P : Program} (hl : laidOutB P = true) {W W' : World} (hb : Below W.heap.size W W') (ts : List TypeId) : ∀ (vs : List Value) (ds : List (DataW H)) (ps : List MemPlace),
    (ts.all fun t => P.readableRec t && decide (t < P.types.size)) = true → DataW.TrodAll enc P W 0 (fun _ => true) true ts vs ds ps → (∀ x ∈ ps, x.block < W.heap.size) →
    DataW.TrodAll enc P W' 0 (fun b => decide (b < W.heap.size)) true ts vs ds ps := by
  induction ts with
  | nil =>
    intro vs ds ps _ h _
    obtain ⟨rfl, rfl, rfl⟩ := trodAll_nil h
    rfl
  | cons t ts ih =>
    intro vs ds ps hr h hlt
    obtain ⟨v, vs', d, ds', p, q, rfl, rfl, rfl, h0, h1⟩ := trodAll_cons h
    simp only [List.all_cons, Bool.and_eq_true, decide_eq_true_eq] at hr
    refine ⟨p, q, Below.trod hl hr.1.1 hr.1.2 h0 hb fun x hx => hlt x (List.mem_append_left _ hx), ?_, rfl⟩
    exact ih vs' ds' q hr.2 h1 fun x hx => hlt x (List.mem_append_right _ hx)
theorem law_post {f : Func} {s : ChangeSpec} {W W' : World} {args : Array Value} {ds gs : List (DataW H)} {before : List MemPlace}
    (hW : DataW.Whole enc Tryd.prog f.params.toList s.vars false W args.toList ds gs before) (hv : s.vars = []) (hrt : f.resultTypes = #[4])
    (hr : (f.params.toList.all fun t => Tryd.prog.readableRec t && decide (t < Tryd.prog.types.size)) = true)
    (hres : (s.fn H (ds ++ gs)).results = [.lit (.bool true)]) (hargs : (s.fn H (ds ++ gs)).args = ds) (hvars : (s.fn H (ds ++ gs)).vars = []) (hb : Below W.heap.size W W') :
    s.post enc Tryd.prog f false true false false W args (.bool true) W' := by
  have hlt : ∀ p ∈ before, p.block < W.heap.size := fun p hp => hW.lt p hp
  have hW' := hW
  obtain ⟨p, q, hA, hV, rfl, _, _⟩ := hW'
  rw [hv] at hV
  obtain ⟨rfl, rfl⟩ := trodVars_none hV
  rw [List.append_nil] at hlt
  refine ⟨ds, [], _, [], p, [], hW, ?_, ?_, ?_, hb.frame _ |> World.keptBut_mono (fun x hx => ⟨hx, ?_⟩), fun h => by cases h⟩
  · rw [hrt, hres]
    exact trodAll_mk1 (shut_bool Tryd.underlying4 true)
  · rw [hargs]
    exact trodAll_below laidOut hb _ _ _ _ hr hA hlt
  · rw [hvars, hv]
    rfl
  · rw [List.append_nil] at hx
    exact .inr (.inl hx)
end
end Go.Proofs.YtllgibfmddihgaaDoor
namespace Go.Proofs.YtllgibfmddihgaaDoor
open Go.ChangeShapes Go.WideShapes Go.ChangeAt Go.RowKit Go.Deep
/-- all memory of a world -/
def memOf (w : World) : Mm := frz (fun _ => none) 0 w
theorem memOf_ok (w : World) : MemOk (memOf w) w := frz_ok (fun p v h => by cases h) 0
theorem memOf_at {w : World} {p : Addr} {v : Value} (h : w.cell? p = some v) (h1 : v.oneCell' = true) : memOf w p = some v := frz_new rfl (Nat.zero_le _) h h1
section
variable {H : Type} {enc : TypeId × Value → H} {P : Program} {w : World} {base : Nat} {spare : Nat → Bool} {held : Bool}
def Opens (enc : TypeId × Value → H) (P : Program) (w : World) (base : Nat) (spare : Nat → Bool) (held : Bool) (t : TypeId) {α : Type} (f : α → List T) (μ : α → Nat) (fuel : Nat) : Prop :=
  ∀ (cs : List Value) (x : DataW H × List MemPlace), DataW.trod enc P w base spare held fuel t cs = some x → ∃ a, RTs (memOf w) (f a) cs ∧ OneAll cs ∧ μ a ≤ Rows.uptoBulk x.1
theorem sum_le {α : Type} (μ : α → Nat) : ∀ (l : List α) (ds : List (DataW H)), l.length = ds.length → (∀ (i : Nat) (a : α) (d : DataW H), l[i]? = some a → ds[i]? = some d → μ a ≤ Rows.uptoBulk d) → (l.map μ).sum ≤ Rows.uptoBulkAll ds
  | [], [], _, _ => by simp [Rows.uptoBulkAll]
  | a :: l, d :: ds, hl, h => by
    have h1 := h 0 a d rfl rfl
    have h2 := sum_le μ l ds (by simpa using hl) fun i a d ha hd => h (i + 1) a d (by simpa using ha) (by simpa using hd)
    simp only [List.map_cons, List.sum_cons, Rows.uptoBulkAll]
    omega
  | [], _ :: _, hl, _ => by simp at hl
  | _ :: _, [], hl, _ => by simp at hl
theorem snoc_ind {α : Type} {p : List α → Prop} (h0 : p []) (h1 : ∀ l x, p l → p (l ++ [x])) (l : List α) : p l := by
  have : ∀ n (l : List α), l.length = n → p l := by
    intro n
    induction n with
    | zero => intro l hl; rw [List.eq_nil_of_length_eq_zero hl]; exact h0
    | succ n ih =>
      intro l hl
      have hne : l ≠ [] := fun e => by rw [e] at hl; cases hl
      rw [← List.dropLast_concat_getLast hne]
      exact h1 _ _ (ih _ (by simp [hl]))
  exact this l.length l rfl
theorem rows_of {α : Type} (f : α → List T) (sz : Nat) (hf : ∀ a, (f a).length = sz) {a : Addr} : ∀ (l : List α) (C : Nat → List Value), (∀ (i : Nat) (x : α), l[i]? = some x → RTs (memOf w) (f x) (C i) ∧ OneAll (C i) ∧ ∀ j u, (C i)[j]? = some u → w.cell? (a.add (i * sz + j)) = some u) →
    ∃ xs : List Value, xs.length = l.length * sz ∧ At (memOf w) a xs ∧ RTs (memOf w) (l.flatMap f) xs := by
  intro l
  induction l using snoc_ind with
  | h0 => exact fun _ _ => ⟨[], by simp, fun j x h => by simp at h, by simp [RTs]⟩
  | h1 l x ih =>
    intro C h
    obtain ⟨xs, h1, h2, h3⟩ := ih C fun i y hy => h i y (by rw [List.getElem?_append_left (List.getElem?_eq_some_iff.1 hy).1]; exact hy)
    obtain ⟨g1, g2, g3⟩ := h l.length x (by simp)
    have hcl := g1.len
    rw [hf] at hcl
    refine ⟨xs ++ C l.length, by simp [h1, hcl, Nat.add_mul], fun j u hu => ?_, ?_⟩
    · rw [List.getElem?_append] at hu
      split at hu
      · exact h2 j u hu
      · have := g3 _ u hu
        rw [show l.length * sz + (j - xs.length) = j by omega] at this
        exact memOf_at this (g2 u (List.mem_of_getElem? hu))
    · rw [List.flatMap_append]
      refine h3.app ?_
      simpa using g1
theorem opens_slice {α : Type} [Inhabited α] {t e : TypeId} (f : α → List T) (μ : α → Nat) (sz : Nat) (hsz : 0 < sz) (hf : ∀ a, (f a).length = sz) {fuel : Nat} (ht : P.underlying t = some (.slice e)) (hC : P.cellsOf e = sz)
    (hel : ∀ n, n < fuel → Opens enc P w base spare held e f μ n) : Opens enc P w base spare held t (fun l : List α => [.row l.length sz (l.flatMap f)]) (fun l => (l.map μ).sum + 1) fuel := by
  intro cs x h
  rcases DataW.trod_slice ht h with ⟨rfl, rfl⟩ | ⟨a, len, cap, elems, rest, n, hn, rfl, rfl, hb, hl, hm, hlen, hi, _, _⟩
  · refine ⟨[], ?_, fun u hu => by simp at hu; subst hu; rfl, by simp [Rows.uptoBulk]⟩
    simp only [RTs]
    exact ⟨_, _, rfl, rt_nil hsz (by simp only [RT]), rfl⟩
  · rw [hC] at hi
    have hv : ∀ i, i < len → ∃ p : α × List Value, (p.2.length = sz ∧ ∀ j u, p.2[j]? = some u → w.cell? (a.add (i * sz + j)) = some u) ∧ RTs (memOf w) (f p.1) p.2 ∧ OneAll p.2 ∧ ∀ y, elems[i]? = some y → μ p.1 ≤ Rows.uptoBulk y.1 := by
      intro i hil
      have hk := hi i hil
      rw [List.getElem?_eq_getElem (by omega)] at hk
      obtain ⟨cs', h1, h2⟩ := Option.bind_eq_some_iff.1 hk
      obtain ⟨el, h3, h4, h5⟩ := hel n (by omega) _ _ h2
      obtain ⟨_, hlen', hcell⟩ := World.cells?_some h1
      refine ⟨(el, cs'), ⟨hlen', fun j u hu => ?_⟩, h3, h4, fun y hy => ?_⟩
      · have hj : j < sz := by rw [← hlen']; exact (List.getElem?_eq_some_iff.1 hu).1
        rw [← hu, ← hcell j hj, add_add']
      · rw [List.getElem?_eq_getElem (by omega)] at hy
        injection hy with hy
        rw [← hy]; exact h5
    obtain ⟨G, hG⟩ := choose_lt (α := α × List Value) hv
    obtain ⟨xs, g1, g2, g3⟩ := rows_of (w := w) (a := a) f sz hf ((List.range len).map fun i => (G i).1) (fun i => (G i).2) (fun i x hx => by
      have hil : i < len := by have := (List.getElem?_eq_some_iff.1 hx).1; simpa using this
      simp [hil] at hx
      obtain ⟨k1, k2, k3, _⟩ := hG i hil
      rw [← hx]
      exact ⟨k2, k3, k1.2⟩)
    refine ⟨(List.range len).map fun i => (G i).1, ?_, fun u hu => by simp at hu; subst hu; rfl, ?_⟩
    · simp only [RTs]
      refine ⟨_, _, rfl, ?_, rfl⟩
      simp only [RT]
      exact ⟨some a, cap, xs, by simp, by simpa using hl, by simp; omega, hsz, g1, fun _ => ⟨a, rfl, g2⟩, g3⟩
    · have := sum_le μ ((List.range len).map fun i => (G i).1) (elems.map (·.1)) (by simp [hlen]) (fun i y d hy hd => by
        have hil : i < len := by have := (List.getElem?_eq_some_iff.1 hy).1; simpa using this
        simp [hil] at hy
        rw [List.getElem?_map] at hd
        obtain ⟨z, hz, rfl⟩ := Option.map_eq_some_iff.1 hd
        rw [← hy]
        exact (hG i hil).2.2.2 z hz)
      simp only [Rows.uptoBulk]
      omega
theorem opens_int {t : TypeId} {k : IntKind} {fuel : Nat} (ht : P.underlying t = some (.int k)) : Opens enc P w base spare held t (fun i : Int => [.lit (.int k i)]) (fun _ => 1) fuel := by
  intro cs x h
  obtain ⟨i, rfl, rfl, _⟩ := DataW.trod_int ht h
  exact ⟨i, by simp [RTs, RT], fun u hu => by simp at hu; subst hu; rfl, bulk_one _⟩
end
/-- from a walk to the call: every law that takes trees and tells true -/
theorem law_call {P : Program} {f : FuncId} {ts : List T} {vs : List Value} {W : World} (h : AF P f ts (· = .lit (.bool true))) (hv : RTs (memOf W) ts vs) (hG : Glob W := by first | assumption | (intro x h; simp [globTab] at h)) : Calls P f vs.toArray W fun e W' => e = .returned (.bool true) ∧ Below W.heap.size W W' :=
  (h.2 (memOf W) W vs hG (memOf_ok W) hv).mono fun e w' ⟨v, r, M', he, hr, _, _, hrt, hb⟩ => by
    subst hr
    simp only [RT] at hrt
    rw [he, hrt]
    exact ⟨rfl, hb⟩
end Go.Proofs.YtllgibfmddihgaaDoor
namespace Go.Proofs.YtllgibfmddihgaaDoor
open Go.ChangeShapes Go.WideShapes Go.ChangeAt Go.RowKit Go.Deep
theorem listN2 {α : Type} {l : List α} (h : l.length = 2) : ∃ a b, l = [a, b] := match l, h with | [a, b], _ => ⟨a, b, rfl⟩
theorem listN3 {α : Type} {l : List α} (h : l.length = 3) : ∃ a b c, l = [a, b, c] := match l, h with | [a, b, c], _ => ⟨a, b, c, rfl⟩
theorem listN4 {α : Type} {l : List α} (h : l.length = 4) : ∃ a b c d, l = [a, b, c, d] := match l, h with | [a, b, c, d], _ => ⟨a, b, c, d, rfl⟩
theorem listN5 {α : Type} {l : List α} (h : l.length = 5) : ∃ a b c d e, l = [a, b, c, d, e] := match l, h with | [a, b, c, d, e], _ => ⟨a, b, c, d, e, rfl⟩
theorem listN6 {α : Type} {l : List α} (h : l.length = 6) : ∃ a b c d e f, l = [a, b, c, d, e, f] := match l, h with | [a, b, c, d, e, f], _ => ⟨a, b, c, d, e, f, rfl⟩
theorem listN8 {α : Type} {l : List α} (h : l.length = 8) : ∃ a b c d e f g i, l = [a, b, c, d, e, f, g, i] := match l, h with | [a, b, c, d, e, f, g, i], _ => ⟨a, b, c, d, e, f, g, i, rfl⟩
theorem rts_seg {M : Mm} {ts us : List T} {cs : List Value} {o c : Nat} (h : RTs M ts ((cs.drop o).take c)) (h' : RTs M us (cs.drop (o + c))) : RTs M (ts ++ us) (cs.drop o) := by
  have := h.app h'
  rwa [← List.drop_drop, List.take_append_drop] at this
theorem rts_end {M : Mm} {cs : List Value} {o : Nat} (h : cs.length = o) : RTs M [] (cs.drop o) := by rw [← h, List.drop_length]; simp [RTs]
theorem one_seg {cs : List Value} {o c : Nat} (h : OneAll ((cs.drop o).take c)) (h' : OneAll (cs.drop (o + c))) : OneAll (cs.drop o) := by
  have := h.app h'
  rwa [← List.drop_drop, List.take_append_drop] at this
theorem one_end {cs : List Value} {o : Nat} (h : cs.length = o) : OneAll (cs.drop o) := by rw [← h, List.drop_length]; intro x hx; simp at hx
section
variable {H : Type} {enc : TypeId × Value → H} {P : Program} {w : World} {base : Nat} {spare : Nat → Bool} {held : Bool}
theorem opens_strz {t : TypeId} {fuel : Nat} (ht : P.underlying t = some .string) : Opens enc P w base spare held t (fun s : ByteArray => [.lit (.string s)]) (fun s => s.size + 1) fuel := by
  intro cs x h
  obtain ⟨i, rfl, rfl, _⟩ := DataW.trod_string ht h
  exact ⟨i, by simp [RTs, RT], fun u hu => by simp at hu; subst hu; rfl, by simp [Rows.uptoBulk]⟩
theorem cn_int : Tryd.prog.cellsOf 3 = 1 := by kernel_rfl
theorem cn_str : Tryd.prog.cellsOf 9 = 1 := by kernel_rfl
theorem cn_Y : Tryd.prog.cellsOf 64 = 3 := by kernel_rfl
theorem opensY : ∀ fuel, Opens enc Tryd.prog w base spare held 64 Y.ts Y.size fuel := by
  intro fuel
  induction fuel using Nat.strongRecOn with
  | _ fuel ih =>
    intro cs x h
    obtain ⟨ys, n, hn, rfl, hlen, hyl, hf⟩ := DataW.trod_struct Tryd.underlying64 h
    rw [cn_Y] at hlen
    obtain ⟨y0, y1, y2, rfl⟩ := listN3 hyl
    have f0 : DataW.trod enc Tryd.prog w base spare held n 3 ((cs.drop 0).take (Tryd.prog.cellsOf 3)) = some y0 := hf 0 _ rfl
    have f1 : DataW.trod enc Tryd.prog w base spare held n 9 ((cs.drop 1).take (Tryd.prog.cellsOf 9)) = some y1 := hf 1 _ rfl
    have f2 : DataW.trod enc Tryd.prog w base spare held n 37 ((cs.drop 2).take (Tryd.prog.cellsOf 37)) = some y2 := hf 2 _ rfl
    rw [cn_int] at f0
    rw [cn_str] at f1
    rw [show Tryd.prog.cellsOf 37 = 1 by kernel_rfl] at f2
    obtain ⟨a0, r0, o0, -⟩ := opens_int Tryd.underlying3 _ _ f0
    obtain ⟨a1, r1, o1, m1⟩ := opens_strz Tryd.underlying9 _ _ f1
    obtain ⟨a2, r2, o2, m2⟩ := opens_slice Y.ts Y.size 3 (by omega) Y.ts_len Tryd.underlying37 cn_Y (fun m hm => ih m (by omega)) _ _ f2
    refine ⟨.mk a0 a1 a2, ?_, ?_, ?_⟩
    · have := rts_seg r0 (rts_seg r1 (rts_seg r2 (rts_end hlen)))
      simpa [Y.ts, Y.all_eq] using this
    · have := one_seg o0 (one_seg o1 (one_seg o2 (one_end hlen)))
      simpa using this
    · simp only [Y.size, Y.sizes_sum, List.map_cons, List.map_nil, Rows.uptoBulk, Rows.uptoBulkAll] at m1 m2 ⊢
      omega
end
end Go.Proofs.YtllgibfmddihgaaDoor
