/-
  Texts of this proof, part 11: Kph Kpi Kpj Kpk.
-/
import Derived.Test.YtdogdjcjmhogmaaQMarkRuns10
namespace Go.Proofs.Ytdogdjcjmhogmaa
open Go.RowKit
theorem int_drop (z : Int) (l : List Int) : ((z :: l).flatMap intTs).drop (1 * 1) = l.flatMap intTs := by
  rw [List.flatMap_cons]; rfl
section
variable (x : Mx) (W : WayV) (rv : Nat → Nat → Value) (Q : Qs) (dk dn : Int) (a b : Nat) {k : Nat} (hQ : QOk x.n k Q) (ha : a < x.n) (hbn : b < x.n) (hne : a ≠ b)
include hQ ha hbn hne
set_option maxRecDepth 100000 in
set_option maxHeartbeats 16000000 in
theorem dm_walk (h2 : dk = 2) {j : Nat} {v : Value} {z : Int} {l : List Int} {Wb : WayL} {Q' : Qs} (g1 : gget ((a : Int), (b : Int)) W = some (v, z :: l)) (g2 : W[j]? = some (((a : Int), (b : Int)), (v, z :: l))) (g3 : ∀ b', gput ((a : Int), (b : Int)) b' W = W.set j (((a : Int), (b : Int)), b'))
    (hcome : ∀ v', AG Try.prog 80 [.ptr 0 x.b 0, .c (iL (a : Nat)), .c (iL (b : Nat)), .c (iL z)] (allM x (W.set j (((a : Int), (b : Int)), (v', l))) rv Q) (fun _ hs => GaveM x Wb Q' hs)) :
    AG Try.prog 59 [.ptr 0 x.b 0, .c (.agg (mdTs ⟨dk, a, b, dn⟩))] (allM x W rv Q) (fun _ hs => GaveM x Wb Q' hs) := by
  subst h2
  have hN := there_ag x Q.now (a : Int)
  rw [hQ.nl, decide_eq_true (show isP x.n (a : Int) by unfold isP; omega)] at hN
  have hN2 := there_ag x Q.now (b : Int)
  rw [hQ.nl, decide_eq_true (show isP x.n (b : Int) by unfold isP; omega)] at hN2
  have e2 : decide ((b : Int) = (a : Int)) = false := decide_eq_false (by omega)
  have hgT := mget_T litV ((a : Int), (b : Int)) W
  rw [g1] at hgT
  have hlk : (mget ((a : Int), (b : Int)) (mapT litV W)).getD (.lit (.slice none 0 0)) = .lit v := by rw [hgT]; rfl
  have hpt : ∀ v', mput ((a : Int), (b : Int)) (.lit v') (mapT litV W) = mapT litV (W.set j (((a : Int), (b : Int)), (v', l))) := fun v' => by
    have := mput_T litV ((a : Int), (b : Int)) (v', l) W
    rw [g3] at this
    exact this
  have hrow := fun h0 h1 h2 h3 => wrow_at W ((List.range x.n).flatMap (sdF x rv Q)) g2 h0 h1 h2 h3
  have hrow0 := fun h0 h1 h2 h3 => wrow_at0 W ((List.range x.n).flatMap (sdF x rv Q)) g2 h0 h1 h2 h3
  have hjl : j < W.length := (List.getElem?_eq_some_iff.1 g2).1
  dsimp only at hrow hrow0
  have hws := fun v' => wyR_set ((a : Int), (b : Int)) v' l W j
  have dl : decide ((((z :: l).length : Nat) : Int) > 0) = true := decide_eq_true (by rw [List.length_cons]; omega)
  have hset : ∀ v', (W.map wyR ++ (List.range x.n).flatMap (sdF x rv Q)).set j (.row v' 3 1 ((z :: l).length - 1) (((z :: l).flatMap intTs).drop (1 * 1))) = (W.set j (((a : Int), (b : Int)), (v', l))).map wyR ++ (List.range x.n).flatMap (sdF x rv Q) := fun v' => by
    rw [int_drop, List.set_append_left _ _ (by simpa using hjl), ← hws]
    rfl
  clear hgT g1 g2 g3 hws
  refine ag_enter (0 + lenM x.n Wb) tok Try.func59 Try.ntmps59 Try.results59 rfl (by kernel_rfl) rfl fun F => ?_
  repeat (first | refine gG ?_ | refine zN1 (fun hlen => ?_) | refine zN2 (fun hlen => ?_) | refine zSub ?_ | refine zAl (fun _ => ?_) | refine zBf ?_ | refine zAp (fun _ => ?_))
  refine zCallR [0, 1] hN (fun r hs h => h) ?_
  repeat (first | refine gG ?_ | refine zN1 (fun hlen => ?_) | refine zN2 (fun hlen => ?_) | refine zSub ?_ | refine zAl (fun _ => ?_) | refine zBx (fun _ => ?_) | refine zAp (fun _ => ?_))
  refine zCallR [0, 1] hN2 (fun r hs h => h) ?_
  repeat (first | refine gG ?_ | refine zN1 (fun hlen => ?_) | refine zN2 (fun hlen => ?_) | refine zSub ?_ | refine zAl (fun _ => ?_) | refine zBx (fun _ => ?_) | refine zAp (fun _ => ?_))
  refine zBda ?_
  repeat (first | refine gG ?_ | refine zN1 (fun hlen => ?_) | refine zN2 (fun hlen => ?_) | refine zSub ?_ | refine zAl (fun _ => ?_) | refine zBx (fun _ => ?_) | refine zAp (fun _ => ?_))
  refine zAlE (fun _ => ?_)
  repeat (first | refine gG ?_ | refine zN1 (fun hlen => ?_) | refine zN2 (fun hlen => ?_) | refine zSub ?_ | refine zAl (fun _ => ?_) | refine zBx (fun _ => ?_) | refine zAp (fun _ => ?_))
  refine zStE rfl ?_
  repeat (first | refine gO ?_ | refine ac_seq ?_ | refine ac_block ?_)
  refine x_frz0 4 [iL a, iL b] ?_
  repeat (first | refine gG ?_ | refine zN1 (fun hlen => ?_) | refine zN2 (fun hlen => ?_) | refine zSub ?_ | refine zAl (fun _ => ?_) | refine zBx (fun _ => ?_) | refine zAp (fun _ => ?_))
  refine ac_draw [1, 1, 1, 1, 1, 1, 1, 1] [0, 1, 2, 3, 4, 5, 6, 7] (by kernel_rfl) (by kernel_rfl) ?_
  refine gW ?_
  apply w_q; (focus exact rfl); (focus exact rfl); focus (intro _; (refine lo_as (j + 4) (zLkr 22 keyWay ((a : Int), (b : Int)) hlk ⟨_, _, _, _, _, rfl, hrow _ _ _ _ _, ?_⟩)); exact det_refl)
  apply w_q; (focus exact rfl); (focus exact rfl); focus (intro _; (refine lo_len_own tok rfl (hrow _ _ _ _ _) rfl rfl (fun _ => ?_)); exact det_refl)
  refine gW ?_
  refine w_nil ?_
  repeat (first | refine gG ?_ | refine zN1 (fun hlen => ?_) | refine zN2 (fun hlen => ?_) | refine zSub ?_ | refine zAl (fun _ => ?_) | refine zBx (fun _ => ?_) | refine zAp (fun _ => ?_))
  refine ac_draw [1, 1, 1, 1, 1, 1, 1, 1, 1] [0, 1, 2, 3, 4, 5, 6, 7, 8] (by kernel_rfl) (by kernel_rfl) ?_
  refine gW ?_
  apply w_q; (focus exact rfl); (focus exact rfl); focus (intro _; (refine lo_as (j + 4) (zLkr 22 keyWay ((a : Int), (b : Int)) hlk ⟨_, _, _, _, _, rfl, hrow _ _ _ _ _, ?_⟩)); exact det_refl)
  apply w_q; (focus exact rfl); (focus exact rfl); focus (intro _; (refine zIxo 0 (Nat.succ_pos _) ?_ tok rfl (hrow _ _ _ _ _)); exact det_refl)
  apply w_q; (focus exact rfl); (focus exact rfl); focus (intro _; (refine zElo1 (u := iL z) rfl ?_ tok rfl (hrow _ _ _ _ _)); exact det_refl)
  refine gW ?_
  refine w_nil ?_
  repeat (first | refine gG ?_ | refine zN1 (fun hlen => ?_) | refine zN2 (fun hlen => ?_) | refine zSub ?_ | refine zAl (fun _ => ?_) | refine zBx (fun _ => ?_) | refine zAp (fun _ => ?_))
  refine ac_drawT [0, 0, 0, 3, 0, 1, 1, 1, 1, 1, 1, 2, 2] (.fork [0, 1, 2, 4, 5, 6, 7, 8, 9, 10] 3 (.fin [11, 12]) 11 (.fin [3, 12])) (by kernel_rfl) (by kernel_rfl) ?_
  refine wt_fork ?_
  refine gW ?_
  apply w_q; (focus exact rfl); (focus exact rfl); focus (intro _; (refine lo_as (j + 4) (zLkr 22 keyWay ((a : Int), (b : Int)) hlk ⟨_, _, _, _, _, rfl, hrow _ _ _ _ _, ?_⟩)); exact det_refl)
  refine w_nil ?_
  refine ⟨?_, ?_⟩
  · apply w_a; (focus exact rfl); (focus exact rfl); refine zL1 ⟨⟨[], (List.append_nil _).symm⟩, ?_⟩
    refine w_nil ?_
    refine wt_fin ?_
    apply w_l; (focus exact rfl); (focus exact rfl); (refine lo_own_lo tok 1 (Nat.succ_pos _) rfl (hrow0 _ _ _ _) rfl rfl rfl rfl rfl rfl (fun v' => ?_))
    apply w_l; (focus exact rfl); (focus exact rfl); (refine zUprS 22 keyWay ((a : Int), (b : Int)) (hpt _) ?_)
    refine w_nil ?_
    rename_i v'
    refine x_eq (hp' := allM x (W.set j (((a : Int), (b : Int)), (v', l))) rv Q) (congrArg (fun r => hdM x Q.now (W.set j (((a : Int), (b : Int)), (v', l))) ++ r) (hset v')) ?_
    repeat (first | refine gG ?_ | refine zN1 (fun hlen => ?_) | refine zN2 (fun hlen => ?_) | refine zSub ?_ | refine zAl (fun _ => ?_) | refine zBx (fun _ => ?_) | refine zAp (fun _ => ?_))
    refine zCallAll (hcome v') (List.Perm.refl _) ?_
    rintro _ _ ⟨W', rv', hW', hq⟩
    refine ⟨_, re_refl, ?_⟩
    repeat (first | refine gG ?_ | refine zN1 (fun hlen => ?_) | refine zN2 (fun hlen => ?_) | refine zSub ?_ | refine zAl (fun _ => ?_) | refine zBx (fun _ => ?_) | refine zAp (fun _ => ?_))
    exact zGS (take_M hW' hq) ⟨W', rv', hW', hq⟩
      
  · apply w_l; (focus exact rfl); (focus exact rfl); (refine lo_own_lo tok 1 (Nat.succ_pos _) rfl (hrow0 _ _ _ _) rfl rfl rfl rfl rfl rfl (fun v' => ?_))
    refine w_nil ?_
    refine wt_fin ?_
    apply w_a; (focus exact rfl); (focus exact rfl); refine zL1 ⟨⟨[], (List.append_nil _).symm⟩, ?_⟩
    apply w_l; (focus exact rfl); (focus exact rfl); (refine zUprS 22 keyWay ((a : Int), (b : Int)) (hpt _) ?_)
    refine w_nil ?_
    rename_i v'
    refine x_eq (hp' := allM x (W.set j (((a : Int), (b : Int)), (v', l))) rv Q) (congrArg (fun r => hdM x Q.now (W.set j (((a : Int), (b : Int)), (v', l))) ++ r) (hset v')) ?_
    repeat (first | refine gG ?_ | refine zN1 (fun hlen => ?_) | refine zN2 (fun hlen => ?_) | refine zSub ?_ | refine zAl (fun _ => ?_) | refine zBx (fun _ => ?_) | refine zAp (fun _ => ?_))
    refine zCallAll (hcome v') (List.Perm.refl _) ?_
    rintro _ _ ⟨W', rv', hW', hq⟩
    refine ⟨_, re_refl, ?_⟩
    repeat (first | refine gG ?_ | refine zN1 (fun hlen => ?_) | refine zN2 (fun hlen => ?_) | refine zSub ?_ | refine zAl (fun _ => ?_) | refine zBx (fun _ => ?_) | refine zAp (fun _ => ?_))
    exact zGS (take_M hW' hq) ⟨W', rv', hW', hq⟩
set_option maxRecDepth 100000 in
set_option maxHeartbeats 16000000 in
theorem dm_dry (h2 : dk = 2) (hw : wayV ((a : Int), (b : Int)) W = []) :
    AG Try.prog 59 [.ptr 0 x.b 0, .c (.agg (mdTs ⟨dk, a, b, dn⟩))] (allM x W rv Q) (fun _ hs => GaveM x (bareI W) Q hs) := by
  subst h2
  have hN := there_ag x Q.now (a : Int)
  rw [hQ.nl, decide_eq_true (show isP x.n (a : Int) by unfold isP; omega)] at hN
  have hN2 := there_ag x Q.now (b : Int)
  rw [hQ.nl, decide_eq_true (show isP x.n (b : Int) by unfold isP; omega)] at hN2
  have e2 : decide ((b : Int) = (a : Int)) = false := decide_eq_false (by omega)
  have hgT := mget_T litV ((a : Int), (b : Int)) W
  unfold wayV at hw
  rcases gcase ((a : Int), (b : Int)) W with ⟨g1, _⟩ | ⟨j, ⟨v, r⟩, g1, g2, _⟩
  · rw [g1] at hgT
    have hlk : (mget ((a : Int), (b : Int)) (mapT litV W)).getD (.lit (.slice none 0 0)) = .lit (.slice none 0 0) := by rw [hgT]; rfl
    clear hgT g1 hw
    refine ag_enter (0 + lenM x.n (bareI W)) tok Try.func59 Try.ntmps59 Try.results59 rfl (by kernel_rfl) rfl fun F => ?_
    repeat (first | refine gG ?_ | refine zN1 (fun hlen => ?_) | refine zN2 (fun hlen => ?_) | refine zSub ?_ | refine zAl (fun _ => ?_) | refine zBf ?_ | refine zAp (fun _ => ?_))
    refine zCallR [0, 1] hN (fun r hs h => h) ?_
    repeat (first | refine gG ?_ | refine zN1 (fun hlen => ?_) | refine zN2 (fun hlen => ?_) | refine zSub ?_ | refine zAl (fun _ => ?_) | refine zBx (fun _ => ?_) | refine zAp (fun _ => ?_))
    refine zCallR [0, 1] hN2 (fun r hs h => h) ?_
    repeat (first | refine gG ?_ | refine zN1 (fun hlen => ?_) | refine zN2 (fun hlen => ?_) | refine zSub ?_ | refine zAl (fun _ => ?_) | refine zBx (fun _ => ?_) | refine zAp (fun _ => ?_))
    refine zBda ?_
    repeat (first | refine gG ?_ | refine zN1 (fun hlen => ?_) | refine zN2 (fun hlen => ?_) | refine zSub ?_ | refine zAl (fun _ => ?_) | refine zBx (fun _ => ?_) | refine zAp (fun _ => ?_))
    refine zAlE (fun _ => ?_)
    repeat (first | refine gG ?_ | refine zN1 (fun hlen => ?_) | refine zN2 (fun hlen => ?_) | refine zSub ?_ | refine zAl (fun _ => ?_) | refine zBx (fun _ => ?_) | refine zAp (fun _ => ?_))
    refine zStE rfl ?_
    repeat (first | refine gO ?_ | refine ac_seq ?_ | refine ac_block ?_)
    refine x_frz0 4 [iL a, iL b] ?_
    repeat (first | refine gG ?_ | refine zN1 (fun hlen => ?_) | refine zN2 (fun hlen => ?_) | refine zSub ?_ | refine zAl (fun _ => ?_) | refine zBx (fun _ => ?_) | refine zAp (fun _ => ?_))
    refine ac_draw [1, 1, 1, 1, 1, 1, 1, 1] [0, 1, 2, 3, 4, 5, 6, 7] (by kernel_rfl) (by kernel_rfl) ?_
    refine gW ?_
    apply w_q; (focus exact rfl); (focus exact rfl); focus (intro _; (refine zLkr 22 keyWay ((a : Int), (b : Int)) hlk ?_); exact det_refl)
    refine gW ?_
    refine w_nil ?_
    repeat (first | refine gG ?_ | refine zN1 (fun hlen => ?_) | refine zN2 (fun hlen => ?_) | refine zSub ?_ | refine zAl (fun _ => ?_) | refine zBx (fun _ => ?_) | refine zAp (fun _ => ?_))
    exact zGS (take_M rfl (List.Perm.refl _)) ⟨W, rv, rfl, List.Perm.refl _⟩
  · rw [g1] at hgT hw
    obtain rfl : r = [] := hw
    have hlk : (mget ((a : Int), (b : Int)) (mapT litV W)).getD (.lit (.slice none 0 0)) = .lit v := by rw [hgT]; rfl
    have hrow := fun h0 h1 h2 h3 => wrow_at W ((List.range x.n).flatMap (sdF x rv Q)) g2 h0 h1 h2 h3
    dsimp only at hrow
    clear hgT g1 g2
    refine ag_enter (0 + lenM x.n (bareI W)) tok Try.func59 Try.ntmps59 Try.results59 rfl (by kernel_rfl) rfl fun F => ?_
    repeat (first | refine gG ?_ | refine zN1 (fun hlen => ?_) | refine zN2 (fun hlen => ?_) | refine zSub ?_ | refine zAl (fun _ => ?_) | refine zBf ?_ | refine zAp (fun _ => ?_))
    refine zCallR [0, 1] hN (fun r hs h => h) ?_
    repeat (first | refine gG ?_ | refine zN1 (fun hlen => ?_) | refine zN2 (fun hlen => ?_) | refine zSub ?_ | refine zAl (fun _ => ?_) | refine zBx (fun _ => ?_) | refine zAp (fun _ => ?_))
    refine zCallR [0, 1] hN2 (fun r hs h => h) ?_
    repeat (first | refine gG ?_ | refine zN1 (fun hlen => ?_) | refine zN2 (fun hlen => ?_) | refine zSub ?_ | refine zAl (fun _ => ?_) | refine zBx (fun _ => ?_) | refine zAp (fun _ => ?_))
    refine zBda ?_
    repeat (first | refine gG ?_ | refine zN1 (fun hlen => ?_) | refine zN2 (fun hlen => ?_) | refine zSub ?_ | refine zAl (fun _ => ?_) | refine zBx (fun _ => ?_) | refine zAp (fun _ => ?_))
    refine zAlE (fun _ => ?_)
    repeat (first | refine gG ?_ | refine zN1 (fun hlen => ?_) | refine zN2 (fun hlen => ?_) | refine zSub ?_ | refine zAl (fun _ => ?_) | refine zBx (fun _ => ?_) | refine zAp (fun _ => ?_))
    refine zStE rfl ?_
    repeat (first | refine gO ?_ | refine ac_seq ?_ | refine ac_block ?_)
    refine x_frz0 4 [iL a, iL b] ?_
    repeat (first | refine gG ?_ | refine zN1 (fun hlen => ?_) | refine zN2 (fun hlen => ?_) | refine zSub ?_ | refine zAl (fun _ => ?_) | refine zBx (fun _ => ?_) | refine zAp (fun _ => ?_))
    refine ac_draw [1, 1, 1, 1, 1, 1, 1, 1] [0, 1, 2, 3, 4, 5, 6, 7] (by kernel_rfl) (by kernel_rfl) ?_
    refine gW ?_
    apply w_q; (focus exact rfl); (focus exact rfl); focus (intro _; (refine lo_as (j + 4) (zLkr 22 keyWay ((a : Int), (b : Int)) hlk ⟨_, _, _, _, _, rfl, hrow _ _ _ _ _, ?_⟩)); exact det_refl)
    apply w_q; (focus exact rfl); (focus exact rfl); focus (intro _; (refine lo_len_own tok rfl (hrow _ _ _ _ _) rfl rfl (fun _ => ?_)); exact det_refl)
    refine gW ?_
    refine w_nil ?_
    repeat (first | refine gG ?_ | refine zN1 (fun hlen => ?_) | refine zN2 (fun hlen => ?_) | refine zSub ?_ | refine zAl (fun _ => ?_) | refine zBx (fun _ => ?_) | refine zAp (fun _ => ?_))
    exact zGS (take_M rfl (List.Perm.refl _)) ⟨W, rv, rfl, List.Perm.refl _⟩
end
theorem dm_ag (x : Mx) (W : WayV) (rv : Nat → Nat → Value) (Q : Qs) (d : Md) {k : Nat} (hQ : QOk x.n k Q) (hW : WOk x.n Q.ch (bareI W)) (hk : k < 400) (h8 : x.n ≤ 8) :
    AG Try.prog 59 [.ptr 0 x.b 0, .c (.agg (mdTs d))] (allM x W rv Q) (fun _ hs => GaveM x (stepW x.n d Q (bareI W)) (stepQ x.n d Q) hs) := by
  obtain ⟨dk, ds, dd, dn⟩ := d
  have hb : ∀ key, (wayI key (bareI W)).length ≤ 100000 := fun key => by have := way_bd hQ hW key; omega
  unfold stepQ stepW
  dsimp only
  by_cases h1 : isP x.n ds
  · rw [if_pos h1, if_pos h1]
    by_cases h2 : dk = 3
    · rw [if_pos h2, if_pos h2]
      exact dm_beg x W rv Q dk ds dd dn hQ h8 hb h1 h2
    · rw [if_neg h2, if_neg h2]
      by_cases h3 : isP x.n dd ∧ dd ≠ ds
      · rw [if_pos h3, if_pos h3]
        obtain ⟨a, rfl⟩ : ∃ a : Nat, ds = (a : Int) := ⟨ds.toNat, by unfold isP at h1; omega⟩
        obtain ⟨b, rfl⟩ : ∃ b : Nat, dd = (b : Int) := ⟨dd.toNat, by have := h3.1; unfold isP at this; omega⟩
        have ha : a < x.n := by unfold isP at h1; omega
        have hbn : b < x.n := by have := h3.1; unfold isP at this; omega
        have hab : a ≠ b := fun e => h3.2 (by omega)
        have hta : ((a : Int)).toNat = a := rfl
        have htb : ((b : Int)).toNat = b := rfl
        have hc := hQ.ch a b
        have hqu := hW.qu a b ha hbn hab
        by_cases h4 : dk = 1
        · rw [if_pos h4, if_pos h4]
          have h := dm_pay x W rv Q dk a b dn hQ hk hb h1 h4 h3.1 h3.2
          have e : (0 < dn ∧ dn ≤ Q.now.getD ((a : Int)).toNat 0 ∧ thereC (Q.ch ((a : Int)).toNat ((b : Int)).toNat) < 200) ↔ (0 < dn ∧ dn ≤ Q.now.getD ((a : Int)).toNat 0 ∧ (wayI ((a : Int), (b : Int)) (bareI W)).length < 200) := by
            rw [hta, htb, hqu, ← qu_len hc]
            omega
          by_cases h5 : 0 < dn ∧ dn ≤ Q.now.getD ((a : Int)).toNat 0 ∧ (wayI ((a : Int), (b : Int)) (bareI W)).length < 200
          · rw [if_pos h5, if_pos h5] at h
            rw [if_pos h5, if_pos (e.2 h5)]
            exact h
          · rw [if_neg h5, if_neg h5] at h
            rw [if_neg h5, if_neg (fun h6 => h5 (e.1 h6))]
            exact h
        · rw [if_neg h4, if_neg h4]
          by_cases h5 : dk = 2
          · rw [if_pos h5, if_pos h5, hta, htb, hqu]
            by_cases h6 : (Q.ch a b).mark = ((Q.ch a b).got : Nat) ∧ (Q.ch a b).came = false
            · rw [if_pos h6]
              have hq := qu_mrk hc h6.1 h6.2
              rw [hq] at hqu ⊢
              dsimp only
              generalize quC { Q.ch a b with came := true } = l at hqu ⊢
              rw [← wayV_eq] at hqu
              unfold wayV at hqu
              rcases gcase ((a : Int), (b : Int)) W with ⟨g1, _⟩ | ⟨j, ⟨v, r⟩, g1, g2, g3⟩
              · rw [g1] at hqu; cases hqu
              · rw [g1] at hqu
                obtain rfl : r = -1 :: l := hqu
                unfold comeW
                rw [if_pos rfl]
                have hbw : ∀ v', bareI (W.set j (((a : Int), (b : Int)), (v', l))) = gput ((a : Int), (b : Int)) l (bareI W) := fun v' => by rw [← g3, bareI_put]
                refine dm_walk x W rv Q dk dn a b hQ ha hbn hab h5 g1 g2 g3 fun v' => ?_
                have h := come_mrk x (W.set j (((a : Int), (b : Int)), (v', l))) rv Q hQ h8 (fun key => by
                  rw [hbw, wayI_put]
                  split
                  · have := hb ((a : Int), (b : Int))
                    rw [← wayV_eq] at this
                    unfold wayV at this
                    rw [g1] at this
                    simp at this
                    omega
                  · exact hb key) a b ha hbn hab h6.1 h6.2
                rw [hbw] at h
                exact h
            · rw [if_neg h6]
              by_cases h7 : (Q.ch a b).got < (Q.ch a b).sent.length
              · rw [if_pos h7]
                have hq := qu_msg hc h6 h7
                have hz : (Q.ch a b).sent.getD (Q.ch a b).got 0 ≠ -1 := qu_pos hc _ (getD_mem h7)
                have hcm := fun v' l' j' => come_msg x (W.set j' (((a : Int), (b : Int)), (v', l'))) rv Q hQ hk a b ha hbn hab h7
                rw [hq] at hqu ⊢
                dsimp only
                generalize quC { Q.ch a b with got := (Q.ch a b).got + 1 } = l at hqu ⊢
                rw [← wayV_eq] at hqu
                unfold wayV at hqu
                rcases gcase ((a : Int), (b : Int)) W with ⟨g1, _⟩ | ⟨j, ⟨v, r⟩, g1, g2, g3⟩
                · rw [g1] at hqu; cases hqu
                · rw [g1] at hqu
                  obtain rfl : r = (Q.ch a b).sent.getD (Q.ch a b).got 0 :: l := hqu
                  unfold comeW
                  rw [if_neg hz]
                  have hbw : ∀ v', bareI (W.set j (((a : Int), (b : Int)), (v', l))) = gput ((a : Int), (b : Int)) l (bareI W) := fun v' => by rw [← g3, bareI_put]
                  refine dm_walk x W rv Q dk dn a b hQ ha hbn hab h5 g1 g2 g3 fun v' => ?_
                  have h := hcm v' l j
                  rw [hbw] at h
                  exact h
              · rw [if_neg h7, qu_none hc h6 h7]
                refine dm_dry x W rv Q dk dn a b hQ ha hbn hab h5 ?_
                rw [wayV_eq, hqu, qu_none hc h6 h7]
          · rw [if_neg h5, if_neg h5]
            exact dm_else x W rv Q dk a b dn hQ h1 h2 h4 h5 h3.1 h3.2
      · rw [if_neg h3, if_neg h3]
        exact dm_odd x W rv Q dk ds dd dn hQ h1 h2 h3
  · rw [if_neg h1, if_neg h1]
    exact dm_far x W rv Q dk ds dd dn hQ h1
end Go.Proofs.Ytdogdjcjmhogmaa
namespace Go.Proofs.Ytdogdjcjmhogmaa
open Go.RowKit
section
variable {P : Program} {F : Frm} {L : Tab} {d : Option Tmp} {ty : TypeId} {pos : String} {aft : Array Edge} {g : Option (Nat × Bool)} {ρ : Operand → AV} {hp : List Blk} {K : AV → List Blk → Prop}
/-- a literal slice of one pointer to a variable of the call's own -/
theorem zBsP {t el : TypeId} {ti te : TI} {y : Operand} {j b : Nat} (h : K (.c (.row 1 te.size [.lit (.pointer (some ⟨b, 0, none⟩))])) hp) (hL : TabOk P L := by exact tok) (ht : L.look t = some ti := by exact rfl) (hd : ti.d = .slice el := by exact rfl) (hte : L.look el = some te := by exact rfl) (h0 : Nat.ble 1 te.size = true := by exact rfl) (hn : Nat.ble (1 * te.size) 16777216 = true := by exact rfl)
    (hf : fillA (fun i => some (i * te.size, te.size)) ((List.range (1 * te.size)).map fun j => .c (.lit (te.zero.getD (j % te.size) undef))) ([(0, y)].map fun p => (p.1, ρ p.2)) = some [.ptr j b 0] := by exact rfl) : LO P F ⟨d, .buildSlice t 1 #[(0, y)], ty, pos, aft, g⟩ ρ hp K :=
  lo_bsliceR hL (parts := [(0, y)]) ht hd hte h0 hn hf (fun M us h => by simp only [RAs, RA, RTs, RT] at h ⊢; exact h) h
end
theorem perm_3 {A H B : List Blk} : (A ++ (H ++ B)).Perm (H ++ (B ++ A)) := by
  simpa using perm_parts [A, H, B] [1, 2, 0] (show List.Perm _ (List.range 3) by decide)
def rvN : Nat → Nat → Value := fun _ _ => .slice none 0 0
def peersT (i t : Nat) : List Int := ((List.range t).filter fun a => a != i).map fun a => ((a : Nat) : Int)
theorem peersT_succ (i t : Nat) : peersT i (t + 1) = if t = i then peersT i t else peersT i t ++ [((t : Nat) : Int)] := by
  unfold peersT
  rw [List.range_succ, List.filter_append, List.map_append]
  by_cases h : t = i
  · simp [h]
  · simp [h]
theorem peersT_le (i t : Nat) : (peersT i t).length ≤ t := by
  unfold peersT
  rw [List.length_map]
  have := List.length_filter_le (fun a => a != i) (List.range t)
  rw [List.length_range] at this
  exact this
@[reducible] def nwH (b bw : Nat) (l : List Int) (vc vs : Value) (sb : Nat → Nat) (i : Nat) : List Blk :=
  [.box b 190 [.own 1 vc, .own 2 vs, .own 3 (.map (some bw))], .row vc 3 1 l.length (l.flatMap intTs), .row vs 24 1 i ((List.range i).map fun j => T.lit (.pointer (some ⟨sb j, 0, none⟩))), .mp bw []]
/-- a side at the beginning -/
def sd0 (n : Nat) (sb : Nat → Nat) (vm vw : Nat → Value) (j : Nat) : List Blk := sdL ⟨0, 0, n, .nilFunc, .nilFunc, sb, vm, vw⟩ false 0 (fun _ => false) (fun _ => (.slice none 0 0, [])) j
theorem sd0_new (n : Nat) (sb : Nat → Nat) (vm vw : Nat → Value) (i b : Nat) (v1 v2 : Value) : (List.range (i + 1)).flatMap (sd0 n (updN sb i b) (updN vm i v1) (updN vw i v2)) = (List.range i).flatMap (sd0 n sb vm vw) ++ (sdB b (peersI n i) false 0 v1 v2 :: mkB v1 (List.replicate (peersI n i).length false) :: owB v2 (nils (peersI n i).length) :: (nils (peersI n i).length).map inB) := by
  rw [List.range_succ, List.flatMap_append, List.flatMap_singleton]
  congr 1
  · unfold List.flatMap
    congr 1
    refine List.map_congr_left fun a ha => ?_
    have hne : a ≠ i := by have := List.mem_range.1 ha; omega
    unfold sd0 sdL
    dsimp only
    rw [updN_ne _ hne, updN_ne _ hne, updN_ne _ hne]
  · unfold sd0 sdL
    dsimp only
    rw [updN_at, updN_at, updN_at, peers_len, List.map_const', List.map_const']
    rfl
theorem nils_inB (n : Nat) : List.replicate n (Blk.row (.slice none 0 0) 3 1 0 []) = (nils n).map inB := by
  unfold nils
  rw [List.map_replicate]; rfl
set_option maxRecDepth 100000 in
set_option maxHeartbeats 16000000 in
theorem nwm_ag (l : List Int) (hl : l.length ≤ 8) : AG Try.prog 58 [.c (intRow l)] [] (fun r hs => ∃ x : Mx, x.n = l.length ∧ r = .ptr 0 x.b 0 ∧ GaveM x [] (startQ l) hs) := by
  have hC := cloneInt_ag l (by omega)
  refine ag_enter (0 + lenM l.length []) tok Try.func58 Try.ntmps58 Try.results58 rfl (by kernel_rfl) rfl fun F => ?_
  repeat (first | refine gG ?_ | refine zN1 (fun hlen => ?_) | refine zN2 (fun hlen => ?_) | refine zBx (fun _ => ?_) | refine zAp (fun _ => ?_))
  refine zCallG [] hC ?_
  rintro _ _ ⟨vc, rfl, rfl⟩
  refine ⟨_, _, re_own (j := 0), rfl, rfl, ?_⟩
  repeat (first | refine gG ?_ | refine zN1 (fun hlen => ?_) | refine zN2 (fun hlen => ?_) | refine zBx (fun _ => ?_) | refine zAp (fun _ => ?_))
  refine zMm (fun bw => ?_)
  repeat (first | refine gG ?_ | refine zN1 (fun hlen => ?_) | refine zN2 (fun hlen => ?_) | refine zBx (fun _ => ?_) | refine zAp (fun _ => ?_))
  rename_i b
  refine x_eq (hp' := [.row vc 3 1 l.length (l.flatMap intTs), .mp bw [], .box b 190 [.own 0 vc, .c (.lit (.slice none 0 0)), .own 1 (.map (some bw))]]) rfl ?_
  refine x_own_cell 2 1 24 1 rfl rfl rfl rfl rfl rfl ?_
  refine x_perm (perm_sel _ [.box b 190 [.own 0 vc, .own 3 (.slice none 0 0), .own 1 (.map (some bw))], .row vc 3 1 l.length (l.flatMap intTs), .row (.slice none 0 0) 24 1 0 [], .mp bw []] 4 [2, 0, 3, 1] (by decide) rfl rfl) ?_
  refine x_boxR 0 [.own 1 vc, .own 2 (.slice none 0 0), .own 3 (.map (some bw))] ?_
  refine x_reptr 3 0 rfl ?_
  refine x_loop [4, 5, 6, 7, 8, 16, 17, 18, 19, 20, 21, 22, 23, 24, 25, 26, 27, 28, 29, 30, 31, 32, 33, 34, 35, 36, 37, 38, 39, 40, 41, 42, 43, 44, 45, 46, 47] (fun q : Nat × Value × (Nat → Nat) × (Nat → Value) × (Nat → Value) => [(16, .c (iL (q.1 : Nat)))]) (fun q => nwH b bw l vc q.2.1 q.2.2.1 q.1 ++ (List.range q.1).flatMap (sd0 l.length q.2.2.1 q.2.2.2.1 q.2.2.2.2)) (fun q => q.1 ≤ l.length) (fun q => l.length - q.1) (0, .slice none 0 0, (fun _ => 0), (fun _ => .nilFunc), (fun _ => .nilFunc)) (Nat.zero_le _) ⟨rfl, trivial⟩ rfl ?_
  rintro ⟨i, vs, sb, vm, vw⟩ hi
  dsimp only at hi ⊢
  repeat (first | refine gG ?_ | refine zN1 (fun hlen => ?_) | refine zN2 (fun hlen => ?_) | refine zBx (fun _ => ?_) | refine zAp (fun _ => ?_))
  refine x_cond rfl (fun h => ?_) (fun h => ?_)
  · have hi' : i < l.length := by simpa using h
    clear h
    have hle := oth_len l.length i
    rw [← peers_len] at hle
    repeat (first | refine gG ?_ | refine zN1 (fun hlen => ?_) | refine zN2 (fun hlen => ?_) | refine zBx (fun _ => ?_) | refine zAp (fun _ => ?_))
    refine x_ownP 5 3 1 4 (hp' := nwH b bw l vc vs sb i ++ (.row (.slice none 0 0) 3 1 0 [] :: (List.range i).flatMap (sd0 l.length sb vm vw))) (by
      rw [List.append_assoc]; exact List.Perm.append_left _ List.perm_append_comm) ?_
    refine x_loop [5, 6, 21, 22, 23, 24, 25, 26, 27, 28, 29, 30, 31] (fun q : Nat × Value => [(21, .c (iL (q.1 : Nat))), (5, .own 4 q.2)]) (fun q => nwH b bw l vc vs sb i ++ (.row q.2 3 1 (peersT i q.1).length ((peersT i q.1).flatMap intTs) :: (List.range i).flatMap (sd0 l.length sb vm vw))) (fun q => q.1 ≤ l.length) (fun q => l.length - q.1) (0, .slice none 0 0) (Nat.zero_le _) ⟨rfl, rfl, trivial⟩ rfl ?_
    rintro ⟨t, v⟩ ht
    dsimp only at ht ⊢
    repeat (first | refine gG ?_ | refine zN1 (fun hlen => ?_) | refine zN2 (fun hlen => ?_) | refine zBx (fun _ => ?_) | refine zAp (fun _ => ?_))
    refine x_cond rfl (fun h => ?_) (fun h => ?_)
    · have ht' : t < l.length := by simpa using h
      clear h
      have hps := peersT_succ i t
      have hpl := peersT_le i t
      cases dt : decide (((t : Nat) : Int) = ((i : Nat) : Int))
      · have dt' : (!decide (((t : Nat) : Int) = ((i : Nat) : Int))) = true := by rw [dt]; rfl
        rw [if_neg (by have := of_decide_eq_false dt; omega)] at hps
        clear dt
        repeat (first | refine gG ?_ | refine zN1 (fun hlen => ?_) | refine zN2 (fun hlen => ?_) | refine zBx (fun _ => ?_) | refine zAp (fun _ => ?_))
        refine zApS (fun v' => ?_)
        repeat (first | refine gG ?_ | refine zN1 (fun hlen => ?_) | refine zN2 (fun hlen => ?_) | refine zBx (fun _ => ?_) | refine zAp (fun _ => ?_))
        exact ⟨(t + 1, v'), ht', by dsimp only; omega, x_wk ⟨rfl, rfl, trivial⟩ (by dsimp only; rw [hps, ← int_snoc, List.length_append]; rfl) (by repeat (first | exact ag_refl | refine ag_upd rfl ?_ | refine ag_at rfl rfl ?_))⟩
      · have dt' : (!decide (((t : Nat) : Int) = ((i : Nat) : Int))) = false := by rw [dt]; rfl
        rw [if_pos (by have := of_decide_eq_true dt; omega)] at hps
        clear dt
        repeat (first | refine gG ?_ | refine zN1 (fun hlen => ?_) | refine zN2 (fun hlen => ?_) | refine zBx (fun _ => ?_) | refine zAp (fun _ => ?_))
        exact ⟨(t + 1, v), ht', by dsimp only; omega, x_wk ⟨rfl, rfl, trivial⟩ (by dsimp only; rw [hps]) (by repeat (first | exact ag_refl | refine ag_upd rfl ?_ | refine ag_at rfl rfl ?_))⟩
    have hte : t = l.length := by have : ¬ t < l.length := by simpa using h
                                  omega
    subst hte
    clear h ht
    refine ac_exit ?_
    refine x_fzS 5 ?_ rfl rfl
    refine ac_wk (wk_forget (H := nwH b bw l vc vs sb i) (a := .dead) (L := (List.range i).flatMap (sd0 l.length sb vm vw))) ?_
    repeat (first | refine gG ?_ | refine zN1 (fun hlen => ?_) | refine zN2 (fun hlen => ?_) | refine zBx (fun _ => ?_) | refine zAp (fun _ => ?_))
    refine lo_frame [] (nwH b bw l vc vs sb i ++ (List.range i).flatMap (sd0 l.length sb vm vw)) (List.Perm.refl _) (fun F' => ?_)
    refine zCallAll (new_ok (peersI l.length i) (by omega) (peers_nodup _ _)) (List.Perm.refl _) ?_
    rintro _ _ ⟨b', v1, v2, rfl, rfl⟩
    refine ⟨_, re_refl, ?_⟩
    refine al_wk (wk_perm (hp' := nwH b bw l vc vs sb i ++ ((List.range i).flatMap (sd0 l.length sb vm vw) ++ [sdB b' (peersI l.length i) false 0 v1 v2, mkB v1 (List.replicate (peersI l.length i).length false), owB v2 (nils (peersI l.length i).length)])) perm_3) ?_
    repeat (first | refine gX ?_ | refine zN1 (fun hlen => ?_) | refine zN2 (fun hlen => ?_) | refine zBx (fun _ => ?_) | refine zAp (fun _ => ?_))
    refine zBsP ?_
    repeat (first | refine gG ?_ | refine zN1 (fun hlen => ?_) | refine zN2 (fun hlen => ?_) | refine zBx (fun _ => ?_) | refine zAp (fun _ => ?_))
    refine zApS (fun vs' => ?_)
    repeat (first | refine gG ?_ | refine zN1 (fun hlen => ?_) | refine zN2 (fun hlen => ?_) | refine zBx (fun _ => ?_) | refine zAp (fun _ => ?_))
    refine zStS ?_
    repeat (first | refine gG ?_ | refine zN1 (fun hlen => ?_) | refine zN2 (fun hlen => ?_) | refine zBx (fun _ => ?_) | refine zAp (fun _ => ?_))
    refine ⟨(i + 1, vs', updN sb i b', updN vm i v1, updN vw i v2), hi', by dsimp only; omega, ?_⟩
    refine Wk.trans (wk_nils 3 1 (by omega) (peersI l.length i).length) ?_
    have hsn := sd0_new l.length sb vm vw i b' v1 v2
    have hrs : (List.range i).map (fun j => T.lit (.pointer (some ⟨sb j, 0, none⟩))) ++ [T.lit (.pointer (some ⟨b', 0, none⟩))] = (List.range (i + 1)).map fun j => T.lit (.pointer (some ⟨updN sb i b' j, 0, none⟩)) := by
      rw [List.range_succ, List.map_append, List.map_singleton, updN_at]
      congr 1
      exact List.map_congr_left fun a ha => by
        have hne : a ≠ i := by have := List.mem_range.1 ha; omega
        rw [updN_ne _ hne]
    refine x_wk ⟨rfl, trivial⟩ ?_ (by repeat (first | exact ag_refl | refine ag_upd rfl ?_ | refine ag_at rfl rfl ?_))
    dsimp only
    rw [hsn, ← nils_inB]
    simp only [nwH]
    rw [← hrs]
    simp only [List.cons_append, List.nil_append, List.set_cons_succ, List.set_cons_zero, List.append_assoc]
  have hie : i = l.length := by have : ¬ i < l.length := by simpa using h
                                omega
  subst hie
  clear h hi
  repeat (first | refine gG ?_ | refine zN1 (fun hlen => ?_) | refine zN2 (fun hlen => ?_) | refine zBx (fun _ => ?_) | refine zAp (fun _ => ?_))
  have hq : (nwH b bw l vc vs sb l.length ++ (List.range l.length).flatMap (sd0 l.length sb vm vw)).Perm (allM ⟨b, bw, l.length, vc, vs, sb, vm, vw⟩ [] rvN (startQ l)) := List.Perm.of_eq rfl
  exact zGS (take_M (x := ⟨b, bw, l.length, vc, vs, sb, vm, vw⟩) rfl hq) ⟨⟨b, bw, l.length, vc, vs, sb, vm, vw⟩, rfl, rfl, [], rvN, rfl, hq⟩
end Go.Proofs.Ytdogdjcjmhogmaa
namespace Go.Proofs.Ytdogdjcjmhogmaa
open Go.RowKit
section
variable {F : Frm} {τ : Nat → AV} {hp : List Blk} {N : Nat}
/-- a row that a variable holds becomes closed there -/
theorem wk_boxcell {b q : Nat} {t : TypeId} {v : Value} {e' : TypeId} {sz m : Nat} {cs : List AV} {ts : List T} (i k j : Nat) (hik : k ≠ i) (hi : hp[i]? = some (.box b t cs)) (hk : hp[k]? = some (.row v e' sz m ts)) (hj : cs[j]? = some (.own q v)) :
    Wk F ⟨τ, hp, N⟩ ⟨τ, (hp.set k .dead).set i (.box b t (cs.set j (.c (.row m sz ts)))), N⟩ := by
  intro M a w hr
  obtain ⟨h1, h2⟩ := heap_frz hr.heap hk
  have hi' : (hp.set k .dead)[i]? = some (.box b t cs) := by rw [List.getElem?_set_ne hik]; exact hi
  refine ⟨_, fun s => RA.mono (frB_sub _ _ _) _ _ (hr.tmps s), hr.size, hr.defers, h1.step i rfl rfl rfl (Nat.le_refl _) (fun _ _ _ => rfl) (Ext.refl _ _) (fun p v h1 h2 => by rw [h2] at h1; cases h1) (fun q hq => by rw [List.getElem?_set_ne (Ne.symm hq)]) (fun x' hx' => ?_)⟩
  have hlt : i < (hp.set k .dead).length := (List.getElem?_eq_some_iff.1 hi').1
  rw [List.getElem?_set_self hlt] at hx'
  obtain rfl : Blk.box b t (cs.set j (.c (.row m sz ts))) = x' := by injection hx'
  obtain ⟨xs, ho, hx, hone⟩ := h1.at_ i _ hi'
  refine ⟨⟨xs, ho, ?_, hone⟩, fun b' hb' => .inl ⟨_, hi', hb'⟩⟩
  obtain ⟨u, hu, hu2⟩ := hx.get hj
  simp only [RA] at hu2
  obtain ⟨hu2, _⟩ := hu2
  subst hu2
  have := RAs.set j hx (show RA _ (.c (.row m sz ts)) u by simp only [RA]; exact h2)
  rwa [set_get hu] at this
/-- a row of the call's own, said asq what lies in a variable -/
theorem re_co {i : Nat} {v : Value} (h : v.oneCell' = true) : Re (.c (.lit v)) (.own i v) := fun M u hu => by simp only [RA, RT] at hu ⊢; exact ⟨hu, h⟩
end
def okS (n : Nat) (Q : Qs) (i : Nat) : Bool := Q.bg i && !(((oth n i).map fun a => (Q.ch a i).came).any fun b => !b)
def stT (n : Nat) (Q : Qs) (i : Nat) : Int := if okS n Q i = true then Q.st i else 0
def wysT (n : Nat) (Q : Qs) (i : Nat) : T := if okS n Q i = true then .row (oth n i).length 1 ((oth n i).map fun a => intRow (recC true (Q.ch a i))) else .lit (.slice none 0 0)
def erT (n : Nat) (Q : Qs) (i : Nat) : Int := if okS n Q i = true then 0 else 8
theorem tell_side (x : Mx) (rv : Nat → Nat → Value) (Q : Qs) (i : Nat) {k : Nat} (hQ : QOk x.n k Q) (hk : k ≤ 400) (h8 : x.n ≤ 8) : AG Try.prog 13 [.ptr 0 (x.sb i) 0] (sdF x rv Q i) (fun r hs => r = .tup [.c (iL (stT x.n Q i)), .c (wysT x.n Q i), .c (iL (erT x.n Q i))] ∧ hs = sdF x rv Q i) := by
  unfold stT wysT erT
  cases hok : okS x.n Q i with
  | false =>
    rw [if_neg (by simp), if_neg (by simp), if_neg (by simp)]
    unfold okS at hok
    have h := AG.frame (hs := sdF x rv Q i) (owB (x.vw i) ((oth x.n i).map fun a => (rv i a, recC (Q.bg i) (Q.ch a i))) :: ((oth x.n i).map fun a => (rv i a, recC (Q.bg i) (Q.ch a i))).map inB) (tell_no (x.sb i) (peersI x.n i) (Q.bg i) (Q.st i) (x.vm i) (x.vw i) ((oth x.n i).map fun a => (Q.ch a i).came) hok) (List.Perm.refl _)
    refine AG.out h fun r hs ⟨A', e, hr, h⟩ => ⟨hr, ?_⟩
    rw [e, h]
    rfl
  | true =>
    rw [if_pos rfl, if_pos rfl, if_pos rfl]
    unfold okS at hok
    have hb : Q.bg i = true := by cases hb : Q.bg i <;> simp_all
    rw [hb, Bool.true_and] at hok
    have hm : (((oth x.n i).map fun a => (Q.ch a i).came).any fun b => !b) = false := by
      cases hz : ((oth x.n i).map fun a => (Q.ch a i).came).any fun b => !b <;> simp_all
    have hl := oth_len x.n i
    have h := tell_yes (x.sb i) (peersI x.n i) (Q.st i) (x.vm i) (x.vw i) ((oth x.n i).map fun a => (Q.ch a i).came) ((oth x.n i).map fun a => (rv i a, recC true (Q.ch a i))) hm (by rw [List.length_map]; omega) (fun y hy => by
      obtain ⟨a, ha, rfl⟩ := List.mem_map.1 hy
      have hc := hQ.ch a i
      rw [hb] at hc
      have h1 := rec_le hc
      have h2 := hc.gs
      have h3 := hc.ct
      rw [if_pos rfl] at h3
      dsimp only
      omega)
    unfold sdF sdL
    rw [hb]
    refine AG.out h fun r hs ⟨hr, h⟩ => ⟨?_, h⟩
    rw [hr]
    unfold rowsT
    rw [List.length_map, List.map_map]
    rfl
def posN (l : List Int) : Nat := (l.map Int.toNat).sum
theorem posN_app (l r : List Int) : posN (l ++ r) = posN l + posN r := by unfold posN; rw [List.map_append, List.sum_append]
theorem posN_qu {k : Nat} {ba bb : Bool} {c : Ch} (h : COk k ba bb c) : posN (quC c) = posN (c.sent.drop c.got) := by
  unfold quC
  split
  · rename_i hp
    rw [pend_iff h] at hp
    have hba : ba = true := by cases ba <;> simp_all
    have hca : c.came = false := by cases hc : c.came <;> simp_all
    have h1 := h.pn hba hca
    have h2 := h.mq hba
    have e : c.sent.drop c.got = (c.sent.take c.mark.toNat).drop c.got ++ c.sent.drop c.mark.toNat := by
      conv => lhs; rw [← List.take_append_drop c.mark.toNat c.sent]
      rw [List.drop_append_of_le_length (by rw [List.length_take]; omega)]
    rw [e, posN_app, posN_app]
    congr 1
    simp [posN]
  · rfl
def leftN (n : Nat) (Q : Qs) : Nat := ((List.range n).flatMap fun i => (List.range n).map fun k => posN ((Q.ch k i).sent.drop (Q.ch k i).got)).sum
def keysM (n : Nat) : List (Int × Int) := (List.range n).flatMap fun i => (List.range n).map fun k => (((k : Nat) : Int), ((i : Nat) : Int))
theorem keysM_nodup (n : Nat) : (keysM n).Nodup := by
  unfold keysM
  rw [List.nodup_iff_pairwise_ne, List.pairwise_flatMap]
  refine ⟨fun i _ => ?_, ?_⟩
  · exact List.pairwise_map.2 (List.nodup_range.imp fun h e => h (by have := (Prod.mk.inj e).1; omega))
  · refine List.nodup_range.imp fun {a b} hne => ?_
    intro p hp q hq e
    obtain ⟨_, _, rfl⟩ := List.mem_map.1 hp
    obtain ⟨_, _, rfl⟩ := List.mem_map.1 hq
    exact hne (by have := (Prod.mk.inj e).2; omega)
theorem keysM_mem {n k i : Nat} (hk : k < n) (hi : i < n) : ((k : Int), (i : Int)) ∈ keysM n := List.mem_flatMap.2 ⟨i, List.mem_range.2 hi, List.mem_map.2 ⟨k, List.mem_range.2 hk, rfl⟩⟩
theorem sum_zero {α : Type} {f : α → Nat} : ∀ {l : List α}, (∀ a ∈ l, f a = 0) → (l.map f).sum = 0
  | [], _ => rfl
  | a :: l, h => by
    rw [List.map_cons, List.sum_cons, h a List.mem_cons_self, sum_zero fun b hb => h b (List.mem_cons_of_mem _ hb)]
/-- a sum over all keys, where only some count -/
theorem sum_keys {K K' : List (Int × Int)} {f : Int × Int → Nat} (h1 : K.Nodup) (h2 : K'.Nodup) (hs : ∀ k ∈ K', k ∈ K) (hz : ∀ k ∈ K, k ∉ K' → f k = 0) : (K'.map f).sum = (K.map f).sum := by
  have hp : (K' ++ K.filter fun a => !K'.contains a).Perm K := by
    refine (List.perm_ext_iff_of_nodup ?_ h1).2 fun a => ?_
    · rw [List.nodup_append]
      refine ⟨h2, h1.filter _, fun a ha b hb e => ?_⟩
      subst e
      have := (List.mem_filter.1 hb).2
      rw [List.contains_iff_mem.2 ha] at this
      cases this
    · rw [List.mem_append, List.mem_filter]
      constructor
      · rintro (h | h)
        · exact hs a h
        · exact h.1
      · intro h
        by_cases hq : a ∈ K'
        · exact .inl hq
        · refine .inr ⟨h, ?_⟩
          cases hc : K'.contains a with
          | false => rfl
          | true => exact absurd (List.contains_iff_mem.1 hc) hq
  have := (hp.map f).sum_nat
  rw [List.map_append, List.sum_append] at this
  rw [← this, sum_zero (l := K.filter _) fun a ha => ?_]
  · rfl
  · obtain ⟨h3, h4⟩ := List.mem_filter.1 ha
    refine hz a h3 fun hm => ?_
    rw [List.contains_iff_mem.2 hm] at h4
    cases h4
theorem gget_nd {α β : Type} [DecidableEq α] : ∀ {W : List (α × β)} {p : α × β}, (W.map (·.1)).Nodup → p ∈ W → gget p.1 W = some p.2
  | [], _, _, h => by cases h
  | q :: W, p, hn, h => by
    rw [List.map_cons, List.nodup_cons] at hn
    obtain ⟨q1, q2⟩ := q
    unfold gget
    rcases List.mem_cons.1 h with rfl | h'
    · simp
    · rw [if_neg (fun e => hn.1 (List.mem_map.2 ⟨p, h', e⟩))]
      exact gget_nd hn.2 h'
theorem gget_no {α β : Type} [DecidableEq α] {k : α} : ∀ {W : List (α × β)}, k ∉ W.map (·.1) → gget k W = none
  | [], _ => rfl
  | (q1, q2) :: W, h => by
    rw [List.map_cons, List.mem_cons, not_or] at h
    unfold gget
    rw [if_neg h.1]
    exact gget_no h.2
theorem ways_sum {n k : Nat} {Q : Qs} {W : WayL} (hQ : QOk n k Q) (hW : WOk n Q.ch W) (hd : ∀ a, (Q.ch a a).sent = []) : (W.map fun p => posN p.2).sum = leftN n Q := by
  have e1 : (W.map fun p => posN p.2) = (W.map (·.1)).map fun key => posN ((Q.ch key.1.toNat key.2.toNat).sent.drop (Q.ch key.1.toNat key.2.toNat).got) := by
    rw [List.map_map]
    refine List.map_congr_left fun p hp => ?_
    obtain ⟨a, b, ha, hb, hab, e⟩ := hW.ks p hp
    have hq := hW.qu a b ha hb hab
    unfold wayI at hq
    rw [← e, gget_nd hW.nd hp] at hq
    have hp2 : p.2 = quC (Q.ch a b) := hq
    simp only [Function.comp]
    rw [hp2, posN_qu (hQ.ch a b), e]
    rfl
  rw [e1, sum_keys (keysM_nodup n) hW.nd]
  · unfold keysM leftN
    rw [List.map_flatMap]
    congr 2
    funext i
    rw [List.map_map]
    rfl
  · intro key hk
    obtain ⟨p, hp, rfl⟩ := List.mem_map.1 hk
    obtain ⟨a, b, ha, hb, hab, e⟩ := hW.ks p hp
    rw [e]
    exact keysM_mem ha hb
  · intro key hk hno
    obtain ⟨i, hi, hk2⟩ := List.mem_flatMap.1 hk
    obtain ⟨a, ha, rfl⟩ := List.mem_map.1 hk2
    have ha' := List.mem_range.1 ha
    have hi' := List.mem_range.1 hi
    show posN ((Q.ch a i).sent.drop (Q.ch a i).got) = 0
    by_cases hai : a = i
    · rw [hai, hd, List.drop_nil]; rfl
    · have hq := hW.qu a i ha' hi' hai
      unfold wayI at hq
      rw [gget_no hno] at hq
      rw [← posN_qu (hQ.ch a i), ← hq]
      rfl
end Go.Proofs.Ytdogdjcjmhogmaa
namespace Go.Proofs.Ytdogdjcjmhogmaa
open Go.RowKit
@[reducible] def obS (b : Nat) (dn : Bool) (l : List Int) (v1 v2 : Value) (lf : Int) : Blk := .box b 80 [.c (.lit (.bool dn)), .own 5 v1, .own 6 v2, .c (intRow l), .c (iL lf)]
@[reducible] def reS (b : Nat) : Blk := .box b 80 [.c (.lit (.bool false)), .c (.lit (.slice none 0 0)), .c (.lit (.slice none 0 0)), .c (.lit (.slice none 0 0)), .c (iL 0)]
def dnT (n : Nat) (Q : Qs) (m : Nat) : Bool := (List.range m).all (okS n Q)
theorem dnT_succ (n : Nat) (Q : Qs) (m : Nat) : dnT n Q (m + 1) = (dnT n Q m && okS n Q m) := by
  unfold dnT
  rw [List.range_succ, List.all_append]
  simp
def stL (n : Nat) (Q : Qs) (i : Nat) : List T := (List.range i).map fun j => iL (stT n Q j)
def wyL (n : Nat) (Q : Qs) (i : Nat) : List T := (List.range i).map (wysT n Q)
theorem stL_succ (n : Nat) (Q : Qs) (i : Nat) : stL n Q i ++ [iL (stT n Q i)] = stL n Q (i + 1) := by
  unfold stL
  rw [List.range_succ, List.map_append]; rfl
theorem wyL_succ (n : Nat) (Q : Qs) (i : Nat) : wyL n Q i ++ [wysT n Q i] = wyL n Q (i + 1) := by
  unfold wyL
  rw [List.range_succ, List.map_append]; rfl
def shotT (n : Nat) (Q : Qs) (lf : Int) : T := .agg [.lit (.bool (dnT n Q n)), if dnT n Q n = true then .row n 1 (stL n Q n) else .lit (.slice none 0 0), if dnT n Q n = true then .row n 1 (wyL n Q n) else .lit (.slice none 0 0), intRow Q.now, iL lf]
@[reducible] def shotA (n : Nat) (Q : Qs) (lf : Int) : AV := .agg [.c (.lit (.bool (dnT n Q n))), .c (if dnT n Q n = true then .row n 1 (stL n Q n) else .lit (.slice none 0 0)), .c (if dnT n Q n = true then .row n 1 (wyL n Q n) else .lit (.slice none 0 0)), .c (intRow Q.now), .c (iL lf)]
@[reducible] def shB (x : Mx) (W : WayV) (rv : Nat → Nat → Value) (Q : Qs) (b2 b3 i : Nat) (dn : Bool) (v1 v2 : Value) (lf : Int) : List Blk :=
  hdM x Q.now W ++ ([obS b3 dn Q.now v1 v2 lf, .row v1 3 1 i (stL x.n Q i), .row v2 38 1 i (wyL x.n Q i), reS b2] ++ (W.map wyR ++ (List.range x.n).flatMap (sdF x rv Q)))
@[reducible] def soC (b : Nat) (dn : Bool) (s w : T) (l : List Int) (lf : Int) : Blk := .box b 80 [.c (.lit (.bool dn)), .c s, .c w, .c (intRow l), .c (iL lf)]
def wayP (W : WayV) (k : Nat) : Nat := ((W[k]?).map fun p => posN p.2.2).getD 0
theorem entV {W : WayV} {k : Nat} {u : Value} {t : T} (h : (mkeys pI (mapT litV W))[k]? = some (u, t)) : ∃ p, W[k]? = some p ∧ u = pI p.1 ∧ t = .lit p.2.1 := by
  simp only [mkeys, mapT, List.map_map, List.getElem?_map] at h
  cases hD : W[k]? with
  | none => rw [hD] at h; cases h
  | some p =>
    rw [hD] at h
    simp only [Option.map_some, Option.some.injEq, Function.comp, Prod.mk.injEq] at h
    exact ⟨p, rfl, h.1.symm, h.2.symm⟩
@[reducible] def hdI (x : Mx) (l : List Int) (W : WayV) (s : Option (List Nat × Nat)) : List Blk := [mwB x, coB x l, ssB x, .mpx x.bw (mkeys pI (mapT litV W)) s]
theorem perm_sh {H R : List Blk} {a b c d : Blk} : ((((a :: ((H ++ R) ++ [b])) ++ [c]) ++ [d])).Perm (H ++ ([a, c, d, b] ++ R)) := by
  simpa using perm_parts [[a], H, R, [b], [c], [d]] [1, 0, 4, 5, 3, 2] (show List.Perm _ (List.range 6) by decide)
set_option maxRecDepth 100000 in
set_option maxHeartbeats 16000000 in
theorem shot_ag (x : Mx) (W : WayV) (rv : Nat → Nat → Value) (Q : Qs) {k : Nat} (hQ : QOk x.n k Q) (hk : k ≤ 400) (h8 : x.n ≤ 8) : AG Try.prog 60 [.ptr 0 x.b 0] (allM x W rv Q) (fun r hs => r = shotA x.n Q ((w64 (((bareI W).map fun p => posN p.2).sum : Nat))) ∧ hs = []) := by
  have hC := cloneInt_ag Q.now (by rw [hQ.nl]; omega)
  refine ag_enter (0) tok Try.func60 Try.ntmps60 Try.results60 rfl (by kernel_rfl) rfl fun F => ?_
  repeat (first | refine gG ?_ | refine zN1 (fun hlen => ?_) | refine zN2 (fun hlen => ?_) | refine zAl (fun _ => ?_) | refine zAp (fun _ => ?_))
  refine zAlE (fun b2 => ?_)
  repeat (first | refine gG ?_ | refine zN1 (fun hlen => ?_) | refine zN2 (fun hlen => ?_) | refine zAl (fun _ => ?_) | refine zAp (fun _ => ?_))
  refine zPeekC hC (fun r hs h => h) (flat_ints Q.now) ?_ rfl (rz2s_cons (rz2_own (rz_own rfl)) rz2s_nil)
  repeat (first | refine gG ?_ | refine zN1 (fun hlen => ?_) | refine zN2 (fun hlen => ?_) | refine zAl (fun _ => ?_) | refine zAp (fun _ => ?_))
  refine zAlE (fun b3 => ?_)
  repeat (first | refine gG ?_ | refine zN1 (fun hlen => ?_) | refine zN2 (fun hlen => ?_) | refine zAl (fun _ => ?_) | refine zAp (fun _ => ?_))
  refine zStE rfl ?_
  repeat (first | refine gO ?_ | refine ac_seq ?_ | refine ac_block ?_)
  refine ac_wk (Wk.trans (wk_nils 3 1 (by omega) 1) (wk_nils 38 1 (by omega) 1)) ?_
  refine x_perm (hp' := hdM x Q.now W ++ ([.box b3 80 [.c (.lit (.bool true)), .c (.lit (.slice none 0 0)), .c (.lit (.slice none 0 0)), .c (intRow Q.now), .c (iL 0)], .row (.slice none 0 0) 3 1 0 [], .row (.slice none 0 0) 38 1 0 [], reS b2] ++ (W.map wyR ++ (List.range x.n).flatMap (sdF x rv Q)))) perm_sh ?_
  refine ac_wk (wk_boxR 4 [.c (.lit (.bool true)), .own 5 (.slice none 0 0), .own 6 (.slice none 0 0), .c (intRow Q.now), .c (iL 0)] rfl (res_cons re_refl (res_cons (re_co rfl) (res_cons (re_co rfl) (res_cons re_refl (res_cons re_refl res_nil)))))) ?_
  refine x_eq (hp' := shB x W rv Q b2 b3 0 true (.slice none 0 0) (.slice none 0 0) 0) rfl ?_
  refine x_reptr 3 4 rfl (x_reptr 2 7 rfl ?_)
  repeat (first | refine gG ?_ | refine zN1 (fun hlen => ?_) | refine zN2 (fun hlen => ?_) | refine zAl (fun _ => ?_) | refine zAp (fun _ => ?_))
  refine x_loop [5, 6, 7, 8, 24, 25, 26, 27, 28, 29, 30, 31, 32, 33, 34, 35, 36, 37, 38, 39, 40, 41, 42, 43, 44, 45, 46, 47, 48, 49, 50, 51, 52, 53] (fun q : Nat × Value × Value => [(24, .c (iL (q.1 : Nat)))]) (fun q => shB x W rv Q b2 b3 q.1 (dnT x.n Q q.1) q.2.1 q.2.2 0) (fun q => q.1 ≤ x.n) (fun q => x.n - q.1) (0, .slice none 0 0, .slice none 0 0) (Nat.zero_le _) ⟨rfl, trivial⟩ rfl ?_
  rintro ⟨i, v1, v2⟩ hi
  dsimp only at hi ⊢
  repeat (first | refine gG ?_ | refine zN1 (fun hlen => ?_) | refine zN2 (fun hlen => ?_) | refine zAl (fun _ => ?_) | refine zAp (fun _ => ?_))
  refine x_cond rfl (fun h => ?_) (fun h => ?_)
  · have hi' : i < x.n := by simpa using h
    clear h
    have hds := dnT_succ x.n Q i
    repeat (first | refine gG ?_ | refine zN1 (fun hlen => ?_) | refine zN2 (fun hlen => ?_) | refine zAl (fun _ => ?_) | refine zAp (fun _ => ?_))
    refine zIxo i hi' ?_
    repeat (first | refine gG ?_ | refine zN1 (fun hlen => ?_) | refine zN2 (fun hlen => ?_) | refine zAl (fun _ => ?_) | refine zAp (fun _ => ?_))
    refine lo_asp 0 (zElo1 (rng_at1 (fun i => T.lit (.pointer (some ⟨x.sb i, 0, none⟩))) hi') ⟨_, _, rfl, ?_⟩)
    repeat (first | refine gG ?_ | refine zN1 (fun hlen => ?_) | refine zN2 (fun hlen => ?_) | refine zAl (fun _ => ?_) | refine zAp (fun _ => ?_))
    refine lo_frame (sdF x rv Q i) _ (pullS (H := hdM x Q.now W) (A := [obS b3 (dnT x.n Q i) Q.now v1 v2 0, .row v1 3 1 i (stL x.n Q i), .row v2 38 1 i (wyL x.n Q i), reS b2] ++ W.map wyR) (flat_out (f := sdF x rv Q) (g := sdF x rv Q) hi' (fun _ _ => rfl))) (fun F' => ?_)
    refine zCallAll (tell_side x rv Q i hQ hk h8) (List.Perm.refl _) ?_
    rintro _ _ ⟨rfl, rfl⟩
    refine ⟨_, re_refl, ?_⟩
    refine al_wk (wk_perm (hp' := shB x W rv Q b2 b3 i (dnT x.n Q i) v1 v2 0) (pullS (H := hdM x Q.now W) (A := [obS b3 (dnT x.n Q i) Q.now v1 v2 0, .row v1 3 1 i (stL x.n Q i), .row v2 38 1 i (wyL x.n Q i), reS b2] ++ W.map wyR) (flat_out (f := sdF x rv Q) (g := sdF x rv Q) hi' (fun _ _ => rfl))).symm) ?_
    generalize hst : stT x.n Q i = st at *
    generalize hwy : wysT x.n Q i = wy at *
    repeat (first | refine gO ?_ | refine ac_seq ?_ | refine ac_block ?_)
    have her : decide (erT x.n Q i = 0) = okS x.n Q i := by unfold erT; cases okS x.n Q i <;> rfl
    refine x_join [34, 35, 36, 37, 38, 39, 40] (fun _ : Unit => []) (fun _ => hdM x Q.now W ++ ([obS b3 (dnT x.n Q (i + 1)) Q.now v1 v2 0, .row v1 3 1 i (stL x.n Q i), .row v2 38 1 i (wyL x.n Q i), reS b2] ++ (W.map wyR ++ (List.range x.n).flatMap (sdF x rv Q)))) (fun _ => ?_) ?_
    rotate_left
    · rw [hds, ← her]
      cases d0 : dnT x.n Q i
      · repeat (first | refine gG ?_ | refine zN1 (fun hlen => ?_) | refine zN2 (fun hlen => ?_) | refine zAl (fun _ => ?_) | refine zAp (fun _ => ?_))
        refine zStS ?_
        repeat (first | refine gG ?_ | refine zN1 (fun hlen => ?_) | refine zN2 (fun hlen => ?_) | refine zAl (fun _ => ?_) | refine zAp (fun _ => ?_))
        exact ⟨(), x_wk trivial rfl (by repeat (first | exact ag_refl | refine ag_upd rfl ?_ | refine ag_at rfl rfl ?_))⟩
      · repeat (first | refine gG ?_ | refine zN1 (fun hlen => ?_) | refine zN2 (fun hlen => ?_) | refine zAl (fun _ => ?_) | refine zAp (fun _ => ?_))
        refine zStS ?_
        repeat (first | refine gG ?_ | refine zN1 (fun hlen => ?_) | refine zN2 (fun hlen => ?_) | refine zAl (fun _ => ?_) | refine zAp (fun _ => ?_))
        exact ⟨(), x_wk trivial (by rw [Bool.true_and]; rfl) (by repeat (first | exact ag_refl | refine ag_upd rfl ?_ | refine ag_at rfl rfl ?_))⟩
    have hs1 := stL_succ x.n Q i
    have hs2 := wyL_succ x.n Q i
    rw [hst] at hs1
    rw [hwy] at hs2
    have hwc : (∃ m ts, wy = .row m 1 ts) ∨ wy = .lit (.slice none 0 0) := by
      rw [← hwy]
      unfold wysT
      split
      · exact .inl ⟨_, _, rfl⟩
      · exact .inr rfl
    clear her hds hst hwy
    rcases hwc with ⟨m, ts, rfl⟩ | rfl
    · skip
      refine ac_drawT [0, 3, 0, 0, 2, 0, 3, 0, 0, 2, 0, 2, 0, 2] (.fork [0, 2, 3, 5, 7, 8] 1 (.fork [] 4 (.fin [6, 10, 9, 11, 12, 13]) 6 (.fin [4, 10, 9, 11, 12, 13])) 6 (.fin [1, 4, 10, 9, 11, 12, 13])) (by kernel_rfl) (by kernel_rfl) ?_
      refine wt_fork ?_
      refine gW ?_
      refine w_nil ?_
      refine ⟨?_, ?_⟩
      · apply w_a; (focus exact rfl); (focus exact rfl); refine zL1 ⟨⟨[], (List.append_nil _).symm⟩, ?_⟩
        refine w_nil ?_
        refine wt_fork ?_
        refine w_nil ?_
        refine ⟨?_, ?_⟩
        · apply w_l; (focus exact rfl); (focus exact rfl); (refine zApS (fun v3 => ?_))
          refine w_nil ?_
          refine wt_fin ?_
          apply w_a; (focus exact rfl); (focus exact rfl); refine zL1 ⟨⟨[], (List.append_nil _).symm⟩, ?_⟩
          refine gW ?_
          apply w_l; (focus exact rfl); (focus exact rfl); (refine zApS (fun v4 => ?_))
          apply w_l; (focus exact rfl); (focus exact rfl); (refine zStS ?_)
          refine gW ?_
          apply w_l; (focus exact rfl); (focus exact rfl); (refine zStS ?_)
          refine w_nil ?_
          repeat (first | refine gG ?_ | refine zN1 (fun hlen => ?_) | refine zN2 (fun hlen => ?_) | refine zAl (fun _ => ?_) | refine zAp (fun _ => ?_))
          exact ⟨(i + 1, v3, v4), hi', by dsimp only; omega, x_wk ⟨rfl, trivial⟩ (by dsimp only; rw [hs1, hs2]; rfl) (by repeat (first | exact ag_refl | refine ag_upd rfl ?_ | refine ag_at rfl rfl ?_))⟩
                
        · apply w_a; (focus exact rfl); (focus exact rfl); refine zL1 ⟨⟨[], (List.append_nil _).symm⟩, ?_⟩
          refine w_nil ?_
          refine wt_fin ?_
          apply w_l; (focus exact rfl); (focus exact rfl); (refine zApS (fun v3 => ?_))
          refine gW ?_
          apply w_l; (focus exact rfl); (focus exact rfl); (refine zApS (fun v4 => ?_))
          apply w_l; (focus exact rfl); (focus exact rfl); (refine zStS ?_)
          refine gW ?_
          apply w_l; (focus exact rfl); (focus exact rfl); (refine zStS ?_)
          refine w_nil ?_
          repeat (first | refine gG ?_ | refine zN1 (fun hlen => ?_) | refine zN2 (fun hlen => ?_) | refine zAl (fun _ => ?_) | refine zAp (fun _ => ?_))
          exact ⟨(i + 1, v3, v4), hi', by dsimp only; omega, x_wk ⟨rfl, trivial⟩ (by dsimp only; rw [hs1, hs2]; rfl) (by repeat (first | exact ag_refl | refine ag_upd rfl ?_ | refine ag_at rfl rfl ?_))⟩
                
      · apply w_a; (focus exact rfl); (focus exact rfl); refine zL1 ⟨⟨[], (List.append_nil _).symm⟩, ?_⟩
        refine w_nil ?_
        refine wt_fin ?_
        apply w_a; (focus exact rfl); (focus exact rfl); refine zL1 ⟨⟨[], (List.append_nil _).symm⟩, ?_⟩
        apply w_l; (focus exact rfl); (focus exact rfl); (refine zApS (fun v3 => ?_))
        refine gW ?_
        apply w_l; (focus exact rfl); (focus exact rfl); (refine zApS (fun v4 => ?_))
        apply w_l; (focus exact rfl); (focus exact rfl); (refine zStS ?_)
        refine gW ?_
        apply w_l; (focus exact rfl); (focus exact rfl); (refine zStS ?_)
        refine w_nil ?_
        repeat (first | refine gG ?_ | refine zN1 (fun hlen => ?_) | refine zN2 (fun hlen => ?_) | refine zAl (fun _ => ?_) | refine zAp (fun _ => ?_))
        exact ⟨(i + 1, v3, v4), hi', by dsimp only; omega, x_wk ⟨rfl, trivial⟩ (by dsimp only; rw [hs1, hs2]; rfl) (by repeat (first | exact ag_refl | refine ag_upd rfl ?_ | refine ag_at rfl rfl ?_))⟩
              
    · skip
      refine ac_drawT [0, 3, 0, 0, 2, 0, 3, 0, 0, 2, 0, 2, 0, 2] (.fork [0, 2, 3, 5, 7, 8] 1 (.fork [] 4 (.fin [6, 10, 9, 11, 12, 13]) 6 (.fin [4, 10, 9, 11, 12, 13])) 6 (.fin [1, 4, 10, 9, 11, 12, 13])) (by kernel_rfl) (by kernel_rfl) ?_
      refine wt_fork ?_
      refine gW ?_
      refine w_nil ?_
      refine ⟨?_, ?_⟩
      · apply w_a; (focus exact rfl); (focus exact rfl); refine zL1 ⟨⟨[], (List.append_nil _).symm⟩, ?_⟩
        refine w_nil ?_
        refine wt_fork ?_
        refine w_nil ?_
        refine ⟨?_, ?_⟩
        · apply w_l; (focus exact rfl); (focus exact rfl); (refine zApS (fun v3 => ?_))
          refine w_nil ?_
          refine wt_fin ?_
          apply w_a; (focus exact rfl); (focus exact rfl); refine zL1 ⟨⟨[], (List.append_nil _).symm⟩, ?_⟩
          refine gW ?_
          apply w_l; (focus exact rfl); (focus exact rfl); (refine zApS (fun v4 => ?_))
          apply w_l; (focus exact rfl); (focus exact rfl); (refine zStS ?_)
          refine gW ?_
          apply w_l; (focus exact rfl); (focus exact rfl); (refine zStS ?_)
          refine w_nil ?_
          repeat (first | refine gG ?_ | refine zN1 (fun hlen => ?_) | refine zN2 (fun hlen => ?_) | refine zAl (fun _ => ?_) | refine zAp (fun _ => ?_))
          exact ⟨(i + 1, v3, v4), hi', by dsimp only; omega, x_wk ⟨rfl, trivial⟩ (by dsimp only; rw [hs1, hs2]; rfl) (by repeat (first | exact ag_refl | refine ag_upd rfl ?_ | refine ag_at rfl rfl ?_))⟩
                
        · apply w_a; (focus exact rfl); (focus exact rfl); refine zL1 ⟨⟨[], (List.append_nil _).symm⟩, ?_⟩
          refine w_nil ?_
          refine wt_fin ?_
          apply w_l; (focus exact rfl); (focus exact rfl); (refine zApS (fun v3 => ?_))
          refine gW ?_
          apply w_l; (focus exact rfl); (focus exact rfl); (refine zApS (fun v4 => ?_))
          apply w_l; (focus exact rfl); (focus exact rfl); (refine zStS ?_)
          refine gW ?_
          apply w_l; (focus exact rfl); (focus exact rfl); (refine zStS ?_)
          refine w_nil ?_
          repeat (first | refine gG ?_ | refine zN1 (fun hlen => ?_) | refine zN2 (fun hlen => ?_) | refine zAl (fun _ => ?_) | refine zAp (fun _ => ?_))
          exact ⟨(i + 1, v3, v4), hi', by dsimp only; omega, x_wk ⟨rfl, trivial⟩ (by dsimp only; rw [hs1, hs2]; rfl) (by repeat (first | exact ag_refl | refine ag_upd rfl ?_ | refine ag_at rfl rfl ?_))⟩
                
      · apply w_a; (focus exact rfl); (focus exact rfl); refine zL1 ⟨⟨[], (List.append_nil _).symm⟩, ?_⟩
        refine w_nil ?_
        refine wt_fin ?_
        apply w_a; (focus exact rfl); (focus exact rfl); refine zL1 ⟨⟨[], (List.append_nil _).symm⟩, ?_⟩
        apply w_l; (focus exact rfl); (focus exact rfl); (refine zApS (fun v3 => ?_))
        refine gW ?_
        apply w_l; (focus exact rfl); (focus exact rfl); (refine zApS (fun v4 => ?_))
        apply w_l; (focus exact rfl); (focus exact rfl); (refine zStS ?_)
        refine gW ?_
        apply w_l; (focus exact rfl); (focus exact rfl); (refine zStS ?_)
        refine w_nil ?_
        repeat (first | refine gG ?_ | refine zN1 (fun hlen => ?_) | refine zN2 (fun hlen => ?_) | refine zAl (fun _ => ?_) | refine zAp (fun _ => ?_))
        exact ⟨(i + 1, v3, v4), hi', by dsimp only; omega, x_wk ⟨rfl, trivial⟩ (by dsimp only; rw [hs1, hs2]; rfl) (by repeat (first | exact ag_refl | refine ag_upd rfl ?_ | refine ag_at rfl rfl ?_))⟩
              
  have hie : i = x.n := by have : ¬ i < x.n := by simpa using h
                           omega
  subst hie
  clear h hi
  obtain ⟨R, hR⟩ : ∃ R : List Blk, R = W.map wyR ++ (List.range x.n).flatMap (sdF x rv Q) := ⟨_, rfl⟩
  refine ac_exit ?_
  refine ac_wk (wk_boxcell 4 5 1 (by omega) rfl rfl rfl) ?_
  refine ac_wk (wk_boxcell 4 6 2 (by omega) rfl rfl rfl) ?_
  refine x_eq (hp' := hdM x Q.now W ++ ([soC b3 (dnT x.n Q x.n) (.row x.n 1 (stL x.n Q x.n)) (.row x.n 1 (wyL x.n Q x.n)) Q.now 0] ++ (.dead :: (.dead :: (reS b2 :: R))))) (by rw [hR]; rfl) ?_
  refine ac_wk (Wk.trans (wk_forget (H := hdM x Q.now W ++ [soC b3 (dnT x.n Q x.n) (.row x.n 1 (stL x.n Q x.n)) (.row x.n 1 (wyL x.n Q x.n)) Q.now 0]) (a := .dead) (L := .dead :: (reS b2 :: R))) (wk_forget (H := hdM x Q.now W ++ [soC b3 (dnT x.n Q x.n) (.row x.n 1 (stL x.n Q x.n)) (.row x.n 1 (wyL x.n Q x.n)) Q.now 0]) (a := .dead) (L := reS b2 :: R))) ?_
  refine x_reptr 2 5 rfl ?_
  repeat (first | refine gG ?_ | refine zN1 (fun hlen => ?_) | refine zN2 (fun hlen => ?_) | refine zAl (fun _ => ?_) | refine zAp (fun _ => ?_))
  refine then_n ?_
  refine x_join [57, 58] (fun _ : Unit => []) (fun _ => hdM x Q.now W ++ ([soC b3 (dnT x.n Q x.n) (if dnT x.n Q x.n = true then .row x.n 1 (stL x.n Q x.n) else .lit (.slice none 0 0)) (if dnT x.n Q x.n = true then .row x.n 1 (wyL x.n Q x.n) else .lit (.slice none 0 0)) Q.now 0, reS b2] ++ R)) (fun _ => ?_) ?_
  rotate_left
  · cases d0 : dnT x.n Q x.n
    · repeat (first | refine gG ?_ | refine zN1 (fun hlen => ?_) | refine zN2 (fun hlen => ?_) | refine zAl (fun _ => ?_) | refine zAp (fun _ => ?_))
      refine zStS ?_
      repeat (first | refine gG ?_ | refine zN1 (fun hlen => ?_) | refine zN2 (fun hlen => ?_) | refine zAl (fun _ => ?_) | refine zAp (fun _ => ?_))
      refine zStS ?_
      repeat (first | refine gG ?_ | refine zN1 (fun hlen => ?_) | refine zN2 (fun hlen => ?_) | refine zAl (fun _ => ?_) | refine zAp (fun _ => ?_))
      exact ⟨(), x_wk trivial rfl (by repeat (first | exact ag_refl | refine ag_upd rfl ?_ | refine ag_at rfl rfl ?_))⟩
    · repeat (first | refine gG ?_ | refine zN1 (fun hlen => ?_) | refine zN2 (fun hlen => ?_) | refine zAl (fun _ => ?_) | refine zAp (fun _ => ?_))
      exact ⟨(), x_wk trivial rfl (by repeat (first | exact ag_refl | refine ag_upd rfl ?_ | refine ag_at rfl rfl ?_))⟩
  have hsT : ∀ lf, shotA x.n Q lf = .agg [.c (.lit (.bool (dnT x.n Q x.n))), .c (if dnT x.n Q x.n = true then .row x.n 1 (stL x.n Q x.n) else .lit (.slice none 0 0)), .c (if dnT x.n Q x.n = true then .row x.n 1 (wyL x.n Q x.n) else .lit (.slice none 0 0)), .c (intRow Q.now), .c (iL lf)] := fun _ => rfl
  have hsc : (∃ m ts, (if dnT x.n Q x.n = true then T.row x.n 1 (stL x.n Q x.n) else .lit (.slice none 0 0)) = .row m 1 ts) ∨ (if dnT x.n Q x.n = true then T.row x.n 1 (stL x.n Q x.n) else .lit (.slice none 0 0)) = .lit (.slice none 0 0) := by
    split
    · exact .inl ⟨_, _, rfl⟩
    · exact .inr rfl
  have hwc : (∃ m ts, (if dnT x.n Q x.n = true then T.row x.n 1 (wyL x.n Q x.n) else .lit (.slice none 0 0)) = .row m 1 ts) ∨ (if dnT x.n Q x.n = true then T.row x.n 1 (wyL x.n Q x.n) else .lit (.slice none 0 0)) = .lit (.slice none 0 0) := by
    split
    · exact .inl ⟨_, _, rfl⟩
    · exact .inr rfl
  generalize (if dnT x.n Q x.n = true then T.row x.n 1 (stL x.n Q x.n) else .lit (.slice none 0 0)) = sT at *
  generalize (if dnT x.n Q x.n = true then T.row x.n 1 (wyL x.n Q x.n) else .lit (.slice none 0 0)) = wT at *
  generalize dnT x.n Q x.n = dn at *
  repeat (first | refine gG ?_ | refine zN1 (fun hlen => ?_) | refine zN2 (fun hlen => ?_) | refine zAl (fun _ => ?_) | refine zAp (fun _ => ?_))
  refine lo_hint 6 (zRgS 128 22 (fun b' st c hsl => ⟨_, b', 0, rfl, ?_⟩))
  repeat (first | refine gO ?_ | refine ac_seq ?_ | refine ac_block ?_)
  refine x_perm (List.Perm.append_left (hdI x Q.now W (some (st, c)) ++ [soC b3 dn sT wT Q.now 0, reS b2]) (List.perm_append_comm (l₁ := R) (l₂ := [.it b' x.bw st c []]))) ?_
  refine x_loop [10, 12, 64, 65, 66, 67, 68, 69, 70, 71, 72, 73, 74, 75, 76, 77, 78, 79, 80] (fun _ : List Nat => []) (fun P => hdI x Q.now W (some (st, c)) ++ ([soC b3 dn sT wT Q.now (w64 (sumF (wayP W) P : Nat)), reS b2, .it b' x.bw st c P] ++ R)) (WalkQ W.length) (fun P => W.length - P.length) [] ⟨List.nodup_nil, fun _ h => by simp at h⟩ trivial rfl ?_
  intro P hP
  have hpl := walk_len hP.nd hP.lt
  have hel : (mkeys pI (mapT litV W)).length = W.length := by simp [mkeys, mapT]
  repeat (first | refine gG ?_ | refine zN1 (fun hlen => ?_) | refine zN2 (fun hlen => ?_) | refine zAl (fun _ => ?_) | refine zAp (fun _ => ?_))
  refine lo_next (j := 3) rfl rfl rfl (fun hdn => ?_) (fun kk wv t he hn => ?_)
  rotate_left
  · obtain ⟨p, hp, rfl, rfl⟩ := entV he
    have hkk : kk < W.length := (List.getElem?_eq_some_iff.1 hp).1
    obtain ⟨pk, pv, pl⟩ := p
    have hw := walk_snoc hP.nd hP.lt hkk hn
    have hwl := walk_len hw.1 hw.2
    rw [List.length_append] at hwl
    simp only [List.length_cons, List.length_nil] at hwl
    have hsn := sumF_snoc (wayP W) P kk
    have hwk : wayP W kk = posN pl := by unfold wayP; rw [hp]; rfl
    have hrow : R[kk]? = some (inB (pv, pl)) := by
      rw [hR, List.getElem?_append_left (by simpa using hkk), List.getElem?_map, hp]
      rfl
    clear hn
    repeat (first | refine gO ?_ | refine ac_seq ?_ | refine ac_block ?_ | refine zT ?_ | refine ac_skip ?_ | refine ac_region ?_)
    refine zEn 3 he ?_
    repeat (first | refine gG ?_ | refine zN1 (fun hlen => ?_) | refine zN2 (fun hlen => ?_) | refine zAl (fun _ => ?_) | refine zAp (fun _ => ?_))
    refine zLenL (kk + 7) hrow (fun _ => ?_)
    repeat (first | refine gO ?_ | refine ac_seq ?_ | refine ac_block ?_)
    refine x_asO 68 (kk + 7) rfl hrow ?_
    refine x_loop [12, 70, 71, 72, 73, 74, 75, 76, 77, 78, 79, 80] (fun m : Nat => [(70, .c (iL (m : Nat)))]) (fun m => hdI x Q.now W (some (st, c)) ++ ([soC b3 dn sT wT Q.now (w64 (sumF (wayP W) P + posN (pl.take m) : Nat)), reS b2, .it b' x.bw st c (P ++ [kk])] ++ R)) (fun m => m ≤ pl.length) (fun m => pl.length - m) 0 (Nat.zero_le _) ⟨rfl, trivial⟩ rfl ?_
    intro m hm
    repeat (first | refine gG ?_ | refine zN1 (fun hlen => ?_) | refine zN2 (fun hlen => ?_) | refine zAl (fun _ => ?_) | refine zAp (fun _ => ?_))
    refine x_cond rfl (fun h => ?_) (fun h => ?_)
    · have hm' : m < pl.length := by simpa using h
      obtain ⟨z, hz⟩ := nth hm'
      have hzt := ints_at hz
      have hps : posN (pl.take (m + 1)) = posN (pl.take m) + z.toNat := by
        obtain ⟨h1, h2⟩ := List.getElem?_eq_some_iff.1 hz
        rw [List.take_succ_eq_append_getElem h1, h2, posN_app]
        simp [posN]
      have hwz : w64 (w64 ((sumF (wayP W) P + posN (pl.take m) : Nat) : Int) + max z 0) = w64 ((sumF (wayP W) P + posN (pl.take (m + 1)) : Nat) : Int) := by
        rw [w64_add, hps]
        congr 1
        omega
      clear h
      repeat (first | refine gG ?_ | refine zN1 (fun hlen => ?_) | refine zN2 (fun hlen => ?_) | refine zAl (fun _ => ?_) | refine zAp (fun _ => ?_))
      refine zIxo m hm' ?_ tok rfl hrow
      repeat (first | refine gG ?_ | refine zN1 (fun hlen => ?_) | refine zN2 (fun hlen => ?_) | refine zAl (fun _ => ?_) | refine zAp (fun _ => ?_))
      refine zElo1 hzt ?_ tok rfl hrow
      repeat (first | refine gG ?_ | refine zN1 (fun hlen => ?_) | refine zN2 (fun hlen => ?_) | refine zAl (fun _ => ?_) | refine zAp (fun _ => ?_))
      refine zMax ?_
      repeat (first | refine gG ?_ | refine zN1 (fun hlen => ?_) | refine zN2 (fun hlen => ?_) | refine zAl (fun _ => ?_) | refine zAp (fun _ => ?_))
      refine lo_add rfl rfl (r := w64 ((sumF (wayP W) P + posN (pl.take (m + 1)) : Nat) : Int)) hwz ?_
      repeat (first | refine gG ?_ | refine zN1 (fun hlen => ?_) | refine zN2 (fun hlen => ?_) | refine zAl (fun _ => ?_) | refine zAp (fun _ => ?_))
      refine zStS ?_
      repeat (first | refine gG ?_ | refine zN1 (fun hlen => ?_) | refine zN2 (fun hlen => ?_) | refine zAl (fun _ => ?_) | refine zAp (fun _ => ?_))
      exact ⟨m + 1, hm', by omega, x_wk ⟨rfl, trivial⟩ rfl (by repeat (first | exact ag_refl | refine ag_upd rfl ?_ | refine ag_at rfl rfl ?_))⟩
    have hme : m = pl.length := by have : ¬ m < pl.length := by simpa using h
                                   omega
    subst hme
    clear h hm
    rw [List.take_length, ← hwk, ← hsn]
    refine ac_exit ?_
    repeat (first | refine gG ?_ | refine zN1 (fun hlen => ?_) | refine zN2 (fun hlen => ?_) | refine zAl (fun _ => ?_) | refine zAp (fun _ => ?_))
    exact ⟨P ++ [kk], ⟨hw.1, hw.2⟩, by rw [List.length_append, List.length_singleton]; omega, x_wk trivial rfl (by repeat (first | exact ag_refl | refine ag_upd rfl ?_ | refine ag_at rfl rfl ?_))⟩
  have hall : sumF (wayP W) P = ((bareI W).map fun p => posN p.2).sum := by
    have := sumF_all (fun p : (Int × Int) × (Value × List Int) => posN p.2.2) hP.nd hP.lt (fun k hk => hdn k (by rw [hel]; exact hk))
    rw [show sumF (wayP W) P = _ from this]
    simp [bareI, Function.comp_def]
  rw [hall]
  clear hP hpl hall
  generalize w64 ((((bareI W).map fun p => posN p.2).sum : Nat) : Int) = lf at *
  repeat (first | refine gO ?_ | refine ac_seq ?_ | refine ac_block ?_ | refine zF ?_ | refine ac_exit ?_)
  refine x_unitS 3 ?_ rfl
  rw [hsT]
  clear hsT
  rcases hsc with ⟨m1, ts1, rfl⟩ | rfl <;> rcases hwc with ⟨m2, ts2, rfl⟩ | rfl
  all_goals
    repeat (first | refine gG ?_ | refine zN1 (fun hlen => ?_) | refine zN2 (fun hlen => ?_) | refine zAl (fun _ => ?_) | refine zAp (fun _ => ?_))
    refine zStS ?_
    repeat (first | refine gG ?_ | refine zN1 (fun hlen => ?_) | refine zN2 (fun hlen => ?_) | refine zAl (fun _ => ?_) | refine zAp (fun _ => ?_))
    exact zGS rfl ⟨rfl, rfl⟩
end Go.Proofs.Ytdogdjcjmhogmaa
