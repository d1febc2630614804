/-
  Texts of this proof, part 14: Kfc.
-/
import Derived.Test.YtdogdjcjmhogmaaQMoveRuns13
import Derived.Lib.MinMax
namespace Go.Proofs.Ytdogdjcjmhogmaa
open Go.RowKit
theorem perm_mm (H A B : List Blk) (a b : Blk) : ((H ++ (A ++ B)) ++ [a] ++ [b]).Perm (H ++ ((A ++ [a]) ++ (B ++ [b]))) := by
  simpa using perm_parts [H, A, B, [a], [b]] [0, 1, 3, 2, 4] (show List.Perm _ (List.range 5) by decide)
theorem perm_mm' (H A B : List Blk) (a b : Blk) : ((H ++ (A ++ B)) ++ [b] ++ [a]).Perm (H ++ ((A ++ [a]) ++ (B ++ [b]))) := by
  simpa using perm_parts [H, A, B, [b], [a]] [0, 1, 4, 2, 3] (show List.Perm _ (List.range 5) by decide)
theorem perm_nils (H A B : List Blk) (nd : Nat) (l : List Int) : ((((H ++ (A ++ B)) ++ List.replicate (nd + 1) (Blk.row (.slice none 0 0) 145 7 0 [])) ++ List.replicate l.length (Blk.row (.slice none 0 0) 73 2 0 [])) ++ List.replicate (nd + 1) (Blk.row (.slice none 0 0) 143 2 0 [])).Perm
    (H ++ (((nilV (nd + 1)).map thR ++ ((nilV l.length).map goR ++ (A ++ B))) ++ (List.range (nd + 1)).map (kR (fun _ => .slice none 0 0) (cF l 0 0)))) := by
  have e1 : (nilV (nd + 1)).map thR = List.replicate (nd + 1) (Blk.row (.slice none 0 0) 145 7 0 []) := by simp only [nilV, List.map_replicate]; rfl
  have e2 : (nilV l.length).map goR = List.replicate l.length (Blk.row (.slice none 0 0) 73 2 0 []) := by simp only [nilV, List.map_replicate]; rfl
  have e3 : (List.range (nd + 1)).map (kR (fun _ => .slice none 0 0) (cF l 0 0)) = List.replicate (nd + 1) (Blk.row (.slice none 0 0) 143 2 0 []) := by rw [cF_00]; exact rng_const _ _
  rw [e1, e2, e3]
  simpa using perm_parts [H, A, B, List.replicate (nd + 1) (Blk.row (.slice none 0 0) 145 7 0 []), List.replicate l.length (Blk.row (.slice none 0 0) 73 2 0 []), List.replicate (nd + 1) (Blk.row (.slice none 0 0) 143 2 0 [])] [0, 3, 4, 1, 2, 5] (show List.Perm _ (List.range 6) by decide)
theorem pullK {H F K K' : List Blk} {c : Blk} (hK : K.Perm (c :: K')) : (H ++ (F ++ K)).Perm (H ++ (c :: (F ++ K'))) := by
  refine (List.Perm.append_left H (List.Perm.append_left F hK)).trans ?_
  simpa using perm_parts [H, F, [c], K'] [0, 2, 1, 3] (show List.Perm _ (List.range 4) by decide)
set_option maxRecDepth 100000 in
set_option maxHeartbeats 16000000 in
theorem mov_ok (nd : Nat) (l : List Int) (ds : List Dd) (h1 : 1 ≤ nd) (h8 : nd ≤ 8) (hl : l.length ≤ 5) (hd : ds.length ≤ 400) (ha : l.any (outN nd) = false) :
    AF Try.prog 31 [iL nd, intRow l, ddRow ds] (· = .tup [toldT l.length nd (ds.foldl (fun Z d => doZ nd d Z) (startZ nd l)), iL 0]) := by
  have hal : ∀ a ∈ l, 1 ≤ a ∧ a ≤ (nd : Int) := fun a hm => by
    have := List.any_eq_false.1 ha a hm
    unfold outN at this
    simp at this
    omega
  have d0 : decide ((nd : Int) < 1) = false := decide_eq_false (by omega)
  have d1 : decide ((nd : Int) > 8) = false := decide_eq_false (by omega)
  have d2 : decide (((l.length : Nat) : Int) > 5) = false := decide_eq_false (by omega)
  have d3 : decide (((ds.length : Nat) : Int) > 400) = false := decide_eq_false (by omega)
  refine af_enter tok Try.func31 Try.ntmps31 Try.results31 rfl (by kernel_rfl) rfl rfl fun F hX => ?_
  repeat (first | refine gG ?_ | refine zN1 (fun hlen => ?_) | refine zN2 (fun hlen => ?_) | refine zAl (fun _ => ?_) | refine zBf ?_ | refine zAp (fun _ => ?_))
  rename_i b6 _ _
  refine x_loop [7, 9, 59, 60, 61, 62, 63, 64, 65, 66, 67, 68, 69, 70, 71] (fun k : Nat => [(59, .c (iL (k : Nat)))]) (fun _ => [reB b6]) (fun k => k ≤ l.length) (fun k => l.length - k) 0 (Nat.zero_le _) ⟨rfl, trivial⟩ rfl ?_
  rintro k hk
  repeat (first | refine gG ?_ | refine zN1 (fun hlen => ?_) | refine zN2 (fun hlen => ?_) | refine zAl (fun _ => ?_) | refine zBx (fun _ => ?_) | refine zAp (fun _ => ?_))
  refine x_cond rfl (fun h => ?_) (fun h => ?_)
  · have hk' : k < l.length := by simpa using h
    obtain ⟨a, hka⟩ := nth hk'
    have hao := hal a (List.mem_of_getElem? hka)
    have e1 : decide (a < 1) = false := decide_eq_false (by omega)
    have e2 : decide (a > (nd : Int)) = false := decide_eq_false (by omega)
    clear h
    repeat (first | refine gG ?_ | refine zN1 (fun hlen => ?_) | refine zN2 (fun hlen => ?_) | refine zAl (fun _ => ?_) | refine zBx (fun _ => ?_) | refine zAp (fun _ => ?_))
    refine zIx k hk' ?_
    repeat (first | refine gG ?_ | refine zN1 (fun hlen => ?_) | refine zN2 (fun hlen => ?_) | refine zAl (fun _ => ?_) | refine zBx (fun _ => ?_) | refine zAp (fun _ => ?_))
    refine zEl1 (ints_at hka) ?_
    repeat (first | refine gG ?_ | refine zN1 (fun hlen => ?_) | refine zN2 (fun hlen => ?_) | refine zAl (fun _ => ?_) | refine zBx (fun _ => ?_) | refine zAp (fun _ => ?_))
    exact ⟨k + 1, hk', by omega, x_wkd 1 ⟨rfl, trivial⟩ rfl (by repeat (first | exact ag_refl | refine ag_upd rfl ?_ | refine ag_at rfl rfl ?_))⟩
  clear h hk
  repeat (first | refine gX ?_ | refine zN1 (fun hlen => ?_) | refine zN2 (fun hlen => ?_) | refine zAl (fun _ => ?_) | refine zBx (fun _ => ?_) | refine zAp (fun _ => ?_))
  refine zBo (fun _ => ?_)
  repeat (first | refine gG ?_ | refine zN1 (fun hlen => ?_) | refine zN2 (fun hlen => ?_) | refine zAl (fun _ => ?_) | refine zBx (fun _ => ?_) | refine zAp (fun _ => ?_))
  refine zMk l.length [.lit (.slice none 0 0)] (fun vg => ?_)
  repeat (first | refine gG ?_ | refine zN1 (fun hlen => ?_) | refine zN2 (fun hlen => ?_) | refine zAl (fun _ => ?_) | refine zBx (fun _ => ?_) | refine zAp (fun _ => ?_))
  refine zMk l.length [.lit (.map none)] (fun vn => ?_)
  repeat (first | refine gG ?_ | refine zN1 (fun hlen => ?_) | refine zN2 (fun hlen => ?_) | refine zAl (fun _ => ?_) | refine zBx (fun _ => ?_) | refine zAp (fun _ => ?_))
  refine zMk l.length [.lit (.map none)] (fun ve => ?_)
  repeat (first | refine gG ?_ | refine zN1 (fun hlen => ?_) | refine zN2 (fun hlen => ?_) | refine zAl (fun _ => ?_) | refine zBx (fun _ => ?_) | refine zAp (fun _ => ?_))
  refine zMk (nd + 1) [.lit (.slice none 0 0)] (fun vs => ?_)
  repeat (first | refine gG ?_ | refine zN1 (fun hlen => ?_) | refine zN2 (fun hlen => ?_) | refine zAl (fun _ => ?_) | refine zBx (fun _ => ?_) | refine zAp (fun _ => ?_))
  refine zMm (fun ms => ?_)
  repeat (first | refine gG ?_ | refine zN1 (fun hlen => ?_) | refine zN2 (fun hlen => ?_) | refine zAl (fun _ => ?_) | refine zBx (fun _ => ?_) | refine zAp (fun _ => ?_))
  refine zMk (nd + 1) [.lit (.slice none 0 0)] (fun vw => ?_)
  repeat (first | refine gG ?_ | refine zN1 (fun hlen => ?_) | refine zN2 (fun hlen => ?_) | refine zAl (fun _ => ?_) | refine zBx (fun _ => ?_) | refine zAp (fun _ => ?_))
  refine zMm (fun my => ?_)
  repeat (first | refine gG ?_ | refine zN1 (fun hlen => ?_) | refine zN2 (fun hlen => ?_) | refine zAl (fun _ => ?_) | refine zBx (fun _ => ?_) | refine zAp (fun _ => ?_))
  rename_i va ba _ bg _ bn _ be bs bw by_
  refine x_eq (hp' := [reB b6, .row va 3 1 l.length (l.flatMap intTs), .box ba 22 [.own 1 va], .row vg 71 1 l.length (litL (nilV (α := Int × Int) l.length)), .box bg 64 [.own 3 vg], .row vn 115 1 l.length (mpL l.length 0 fun _ => 0), .box bn 135 [.own 5 vn], .row ve 138 1 l.length (mpL l.length 0 fun _ => 0), .box be 136 [.own 7 ve],
    .row vs 141 1 (nd + 1) ((List.range (nd + 1)).map fun j => T.lit ((fun _ => .slice none 0 0 : Nat → Value) j)), .box bs 137 [.own 9 vs], .mp ms [], .row vw 146 1 (nd + 1) (litL (nilV (α := El) (nd + 1))), .box bw 139 [.own 12 vw], .mp my [], .box by_ 140 [.own 14 (.map (some my))]]) (by
      simp only [rep_one, mpL_0, rng_const, litL, nilV, List.map_replicate, Nat.zero_add]; rfl) ?_
  refine x_perm (perm_sel _ [.box ba 22 [.own 1 va], .box bg 64 [.own 3 vg], .box bn 135 [.own 5 vn], .box be 136 [.own 7 ve], .box bs 137 [.own 9 vs], .box bw 139 [.own 12 vw], .box by_ 140 [.own 14 (.map (some my))], reB b6,
    .row va 3 1 l.length (l.flatMap intTs), .row vg 71 1 l.length (litL (nilV (α := Int × Int) l.length)), .row vn 115 1 l.length (mpL l.length 0 fun _ => 0), .row ve 138 1 l.length (mpL l.length 0 fun _ => 0), .row vs 141 1 (nd + 1) ((List.range (nd + 1)).map fun j => T.lit ((fun _ => .slice none 0 0 : Nat → Value) j)), .row vw 146 1 (nd + 1) (litL (nilV (α := El) (nd + 1))), .mp my [], .mp ms []] 16 [2, 4, 6, 8, 10, 13, 15, 0, 1, 3, 5, 7, 9, 12, 14, 11] (by decide) rfl rfl) ?_
  refine x_boxR 0 [.own 8 va] ?_
  refine x_boxR 1 [.own 9 vg] ?_
  refine x_boxR 2 [.own 10 vn] ?_
  refine x_boxR 3 [.own 11 ve] ?_
  refine x_boxR 4 [.own 12 vs] ?_
  refine x_boxR 5 [.own 13 vw] ?_
  refine x_reptr 10 0 rfl (x_reptr 11 1 rfl (x_reptr 12 2 rfl (x_reptr 13 3 rfl (x_reptr 14 4 rfl (x_reptr 16 5 rfl (x_reptr 17 6 rfl (x_reptr 6 7 rfl ?_)))))))
  refine x_as 15 (.own 15 (.map (some ms))) (fun M u h => re_own M u h) ?_
  refine x_keep [(1, .c (intRow l)), (2, .c (ddRow ds)), (3, .c (.pin [iL nd] 0)), (6, .ptr 7 b6 0), (10, .ptr 0 ba 0), (11, .ptr 1 bg 0), (12, .ptr 2 bn 0), (13, .ptr 3 be 0), (14, .ptr 4 bs 0), (15, .own 15 (.map (some ms))), (16, .ptr 5 bw 0), (17, .ptr 6 by_ 0), (93, .c (iL (l.length : Nat))), (94, .c (iL (0 : Nat)))] ⟨rfl, rfl, rfl, rfl, rfl, rfl, rfl, rfl, rfl, rfl, rfl, rfl, rfl, rfl, trivial⟩ ?_
  obtain ⟨SU, hSU⟩ : ∃ SU, SU = (List.range (nd + 1)).map fun j => T.lit ((fun _ => .slice none 0 0 : Nat → Value) j) := ⟨_, rfl⟩
  rw [← hSU]
  refine x_loop [18, 94, 95, 96, 97, 98, 99, 100, 101, 102, 103, 104, 105] (fun q : Nat × (Nat → Nat) × (Nat → Nat) => [(94, .c (iL (q.1 : Nat)))]) (fun q => sH ba bg bn be bs bw by_ b6 my ms nd va vg vn ve vs vw l (mpL l.length q.1 q.2.1) (mpL l.length q.1 q.2.2) SU ++ (emL q.1 q.2.1 ++ emL q.1 q.2.2)) (fun q => q.1 ≤ l.length) (fun q => l.length - q.1) (0, (fun _ => 0), (fun _ => 0)) (Nat.zero_le _) ⟨rfl, trivial⟩ rfl ?_
  rintro ⟨w, mn, me⟩ hw
  dsimp only at hw ⊢
  repeat (first | refine gG ?_ | refine zN1 (fun hlen => ?_) | refine zN2 (fun hlen => ?_) | refine zAl (fun _ => ?_) | refine zBx (fun _ => ?_) | refine zAp (fun _ => ?_))
  refine x_cond rfl (fun h => ?_) (fun h => ?_)
  · -- BEGIN l2
    have hw' : w < l.length := by simpa using h
    clear h
    repeat (first | refine gG ?_ | refine zN1 (fun hlen => ?_) | refine zN2 (fun hlen => ?_) | refine zAl (fun _ => ?_) | refine zBx (fun _ => ?_) | refine zAp (fun _ => ?_))
    refine x_row 10 rfl (by omega) (fun hv1 => ?_)
    refine x_row 11 rfl (by omega) (fun hv2 => ?_)
    have hs1 : ∀ m, (mpL l.length w mn).set (w * 1) (.lit (.map (some m))) = mpL l.length (w + 1) (updN mn w m) := fun m => mpL_snoc _ _ _ m
    have hs2 : ∀ m, (mpL l.length w me).set (w * 1) (.lit (.map (some m))) = mpL l.length (w + 1) (updN me w m) := fun m => mpL_snoc _ _ _ m
    refine ac_drawT3 [1, 0, 3, 0, 3, 3, 0, 2, 0, 2] (.fork3 [0, 1, 3] 2 (.fork [] 4 (.fork [6] 5 (.fin [7, 8, 9]) 7 (.fin [5, 8, 9])) 5 (.fin [4, 6, 7, 8, 9])) 4 (.fork3 [6] 2 (.fork [] 5 (.fin [7, 8, 9]) 7 (.fin [5, 8, 9])) 5 (.fork [] 2 (.fin [7, 8, 9]) 7 (.fin [2, 8, 9])) 7 (.fork [] 2 (.fin [5, 8, 9]) 5 (.fin [2, 8, 9]))) 5 (.fork [] 2 (.fin [4, 6, 7, 8, 9]) 4 (.fork [6] 2 (.fin [7, 8, 9]) 7 (.fin [2, 8, 9])))) (by kernel_rfl) (by kernel_rfl) ?_
    refine wtt_fork3 ?_
    refine gW ?_
    refine w_nil ?_
    refine ⟨?_, ?_, ?_⟩
    · apply w_a; (focus exact rfl); (focus exact rfl); refine zL1 ⟨⟨[], (List.append_nil _).symm⟩, ?_⟩
      refine w_nil ?_
      refine wtt_fork ?_
      refine w_nil ?_
      refine ⟨?_, ?_⟩
      · apply w_a; (focus exact rfl); (focus exact rfl); refine lo_hintO 0 (lo_makeMap fun m1 => ⟨_, _, rfl, ⟨_, rfl⟩, ?_⟩)
        refine w_nil ?_
        refine wtt_fork ?_
        apply w_p; (focus exact rfl); (focus exact rfl); focus (intro _; (refine zIxp w hv1 hw' ?_); exact det_refl)
        refine w_nil ?_
        refine ⟨?_, ?_⟩
        · apply w_a; (focus exact rfl); (focus exact rfl); refine lo_hintO 0 (lo_makeMap fun m2 => ⟨_, _, rfl, ⟨_, rfl⟩, ?_⟩)
          refine w_nil ?_
          refine wtt_fin ?_
          apply w_l; (focus exact rfl); (focus exact rfl); (refine zSeo (show w * 1 + 1 ≤ (mpL l.length w mn).length by rw [mpL_len]; omega) ?_)
          apply w_p; (focus exact rfl); (focus exact rfl); focus (intro _; (refine zIxp w hv2 hw' ?_); exact det_refl)
          apply w_l; (focus exact rfl); (focus exact rfl); (refine zSeo (show w * 1 + 1 ≤ (mpL l.length w me).length by rw [mpL_len]; omega) ?_)
          refine w_nil ?_
          repeat (first | refine gG ?_ | refine zN1 (fun hlen => ?_) | refine zN2 (fun hlen => ?_) | refine zAl (fun _ => ?_) | refine zBx (fun _ => ?_) | refine zAp (fun _ => ?_))
          refine ⟨(w + 1, updN mn w m1, updN me w m2), hw', by dsimp only; omega, ?_⟩
          refine Wk.trans (wk_perm (hp' := sH ba bg bn be bs bw by_ b6 my ms nd va vg vn ve vs vw l ((mpL l.length w mn).set (w * 1) (.lit (.map (some m1)))) ((mpL l.length w me).set (w * 1) (.lit (.map (some m2)))) SU ++ ((emL w mn ++ [.mp m1 []]) ++ (emL w me ++ [.mp m2 []]))) (by first | exact (List.Perm.of_eq rfl).trans (perm_mm (sH ba bg bn be bs bw by_ b6 my ms nd va vg vn ve vs vw l ((mpL l.length w mn).set (w * 1) (.lit (.map (some m1)))) ((mpL l.length w me).set (w * 1) (.lit (.map (some m2)))) SU) (emL w mn) (emL w me) (.mp m1 []) (.mp m2 [])) | exact (List.Perm.of_eq rfl).trans (perm_mm' (sH ba bg bn be bs bw by_ b6 my ms nd va vg vn ve vs vw l ((mpL l.length w mn).set (w * 1) (.lit (.map (some m1)))) ((mpL l.length w me).set (w * 1) (.lit (.map (some m2)))) SU) (emL w mn) (emL w me) (.mp m1 []) (.mp m2 [])))) ?_
          exact x_wk ⟨rfl, trivial⟩ (by rw [hs1, hs2, ← emL_snoc, ← emL_snoc]) (by repeat (first | exact ag_refl | refine ag_upd rfl ?_ | refine ag_at rfl rfl ?_))
              
        · apply w_l; (focus exact rfl); (focus exact rfl); (refine zSeo (show w * 1 + 1 ≤ (mpL l.length w mn).length by rw [mpL_len]; omega) ?_)
          refine w_nil ?_
          refine wtt_fin ?_
          apply w_a; (focus exact rfl); (focus exact rfl); refine lo_hintO 0 (lo_makeMap fun m2 => ⟨_, _, rfl, ⟨_, rfl⟩, ?_⟩)
          apply w_p; (focus exact rfl); (focus exact rfl); focus (intro _; (refine zIxp w hv2 hw' ?_); exact det_refl)
          apply w_l; (focus exact rfl); (focus exact rfl); (refine zSeo (show w * 1 + 1 ≤ (mpL l.length w me).length by rw [mpL_len]; omega) ?_)
          refine w_nil ?_
          repeat (first | refine gG ?_ | refine zN1 (fun hlen => ?_) | refine zN2 (fun hlen => ?_) | refine zAl (fun _ => ?_) | refine zBx (fun _ => ?_) | refine zAp (fun _ => ?_))
          refine ⟨(w + 1, updN mn w m1, updN me w m2), hw', by dsimp only; omega, ?_⟩
          refine Wk.trans (wk_perm (hp' := sH ba bg bn be bs bw by_ b6 my ms nd va vg vn ve vs vw l ((mpL l.length w mn).set (w * 1) (.lit (.map (some m1)))) ((mpL l.length w me).set (w * 1) (.lit (.map (some m2)))) SU ++ ((emL w mn ++ [.mp m1 []]) ++ (emL w me ++ [.mp m2 []]))) (by first | exact (List.Perm.of_eq rfl).trans (perm_mm (sH ba bg bn be bs bw by_ b6 my ms nd va vg vn ve vs vw l ((mpL l.length w mn).set (w * 1) (.lit (.map (some m1)))) ((mpL l.length w me).set (w * 1) (.lit (.map (some m2)))) SU) (emL w mn) (emL w me) (.mp m1 []) (.mp m2 [])) | exact (List.Perm.of_eq rfl).trans (perm_mm' (sH ba bg bn be bs bw by_ b6 my ms nd va vg vn ve vs vw l ((mpL l.length w mn).set (w * 1) (.lit (.map (some m1)))) ((mpL l.length w me).set (w * 1) (.lit (.map (some m2)))) SU) (emL w mn) (emL w me) (.mp m1 []) (.mp m2 [])))) ?_
          exact x_wk ⟨rfl, trivial⟩ (by rw [hs1, hs2, ← emL_snoc, ← emL_snoc]) (by repeat (first | exact ag_refl | refine ag_upd rfl ?_ | refine ag_at rfl rfl ?_))
              
      · apply w_a; (focus exact rfl); (focus exact rfl); refine lo_hintO 0 (lo_makeMap fun m2 => ⟨_, _, rfl, ⟨_, rfl⟩, ?_⟩)
        refine w_nil ?_
        refine wtt_fin ?_
        apply w_a; (focus exact rfl); (focus exact rfl); refine lo_hintO 0 (lo_makeMap fun m1 => ⟨_, _, rfl, ⟨_, rfl⟩, ?_⟩)
        apply w_p; (focus exact rfl); (focus exact rfl); focus (intro _; (refine zIxp w hv1 hw' ?_); exact det_refl)
        apply w_l; (focus exact rfl); (focus exact rfl); (refine zSeo (show w * 1 + 1 ≤ (mpL l.length w mn).length by rw [mpL_len]; omega) ?_)
        apply w_p; (focus exact rfl); (focus exact rfl); focus (intro _; (refine zIxp w hv2 hw' ?_); exact det_refl)
        apply w_l; (focus exact rfl); (focus exact rfl); (refine zSeo (show w * 1 + 1 ≤ (mpL l.length w me).length by rw [mpL_len]; omega) ?_)
        refine w_nil ?_
        repeat (first | refine gG ?_ | refine zN1 (fun hlen => ?_) | refine zN2 (fun hlen => ?_) | refine zAl (fun _ => ?_) | refine zBx (fun _ => ?_) | refine zAp (fun _ => ?_))
        refine ⟨(w + 1, updN mn w m1, updN me w m2), hw', by dsimp only; omega, ?_⟩
        refine Wk.trans (wk_perm (hp' := sH ba bg bn be bs bw by_ b6 my ms nd va vg vn ve vs vw l ((mpL l.length w mn).set (w * 1) (.lit (.map (some m1)))) ((mpL l.length w me).set (w * 1) (.lit (.map (some m2)))) SU ++ ((emL w mn ++ [.mp m1 []]) ++ (emL w me ++ [.mp m2 []]))) (by first | exact (List.Perm.of_eq rfl).trans (perm_mm (sH ba bg bn be bs bw by_ b6 my ms nd va vg vn ve vs vw l ((mpL l.length w mn).set (w * 1) (.lit (.map (some m1)))) ((mpL l.length w me).set (w * 1) (.lit (.map (some m2)))) SU) (emL w mn) (emL w me) (.mp m1 []) (.mp m2 [])) | exact (List.Perm.of_eq rfl).trans (perm_mm' (sH ba bg bn be bs bw by_ b6 my ms nd va vg vn ve vs vw l ((mpL l.length w mn).set (w * 1) (.lit (.map (some m1)))) ((mpL l.length w me).set (w * 1) (.lit (.map (some m2)))) SU) (emL w mn) (emL w me) (.mp m1 []) (.mp m2 [])))) ?_
        exact x_wk ⟨rfl, trivial⟩ (by rw [hs1, hs2, ← emL_snoc, ← emL_snoc]) (by repeat (first | exact ag_refl | refine ag_upd rfl ?_ | refine ag_at rfl rfl ?_))
            
    · apply w_a; (focus exact rfl); (focus exact rfl); refine lo_hintO 0 (lo_makeMap fun m1 => ⟨_, _, rfl, ⟨_, rfl⟩, ?_⟩)
      refine w_nil ?_
      refine wtt_fork3 ?_
      apply w_p; (focus exact rfl); (focus exact rfl); focus (intro _; (refine zIxp w hv1 hw' ?_); exact det_refl)
      refine w_nil ?_
      refine ⟨?_, ?_, ?_⟩
      · apply w_a; (focus exact rfl); (focus exact rfl); refine zL1 ⟨⟨[], (List.append_nil _).symm⟩, ?_⟩
        refine w_nil ?_
        refine wtt_fork ?_
        refine w_nil ?_
        refine ⟨?_, ?_⟩
        · apply w_a; (focus exact rfl); (focus exact rfl); refine lo_hintO 0 (lo_makeMap fun m2 => ⟨_, _, rfl, ⟨_, rfl⟩, ?_⟩)
          refine w_nil ?_
          refine wtt_fin ?_
          apply w_l; (focus exact rfl); (focus exact rfl); (refine zSeo (show w * 1 + 1 ≤ (mpL l.length w mn).length by rw [mpL_len]; omega) ?_)
          apply w_p; (focus exact rfl); (focus exact rfl); focus (intro _; (refine zIxp w hv2 hw' ?_); exact det_refl)
          apply w_l; (focus exact rfl); (focus exact rfl); (refine zSeo (show w * 1 + 1 ≤ (mpL l.length w me).length by rw [mpL_len]; omega) ?_)
          refine w_nil ?_
          repeat (first | refine gG ?_ | refine zN1 (fun hlen => ?_) | refine zN2 (fun hlen => ?_) | refine zAl (fun _ => ?_) | refine zBx (fun _ => ?_) | refine zAp (fun _ => ?_))
          refine ⟨(w + 1, updN mn w m1, updN me w m2), hw', by dsimp only; omega, ?_⟩
          refine Wk.trans (wk_perm (hp' := sH ba bg bn be bs bw by_ b6 my ms nd va vg vn ve vs vw l ((mpL l.length w mn).set (w * 1) (.lit (.map (some m1)))) ((mpL l.length w me).set (w * 1) (.lit (.map (some m2)))) SU ++ ((emL w mn ++ [.mp m1 []]) ++ (emL w me ++ [.mp m2 []]))) (by first | exact (List.Perm.of_eq rfl).trans (perm_mm (sH ba bg bn be bs bw by_ b6 my ms nd va vg vn ve vs vw l ((mpL l.length w mn).set (w * 1) (.lit (.map (some m1)))) ((mpL l.length w me).set (w * 1) (.lit (.map (some m2)))) SU) (emL w mn) (emL w me) (.mp m1 []) (.mp m2 [])) | exact (List.Perm.of_eq rfl).trans (perm_mm' (sH ba bg bn be bs bw by_ b6 my ms nd va vg vn ve vs vw l ((mpL l.length w mn).set (w * 1) (.lit (.map (some m1)))) ((mpL l.length w me).set (w * 1) (.lit (.map (some m2)))) SU) (emL w mn) (emL w me) (.mp m1 []) (.mp m2 [])))) ?_
          exact x_wk ⟨rfl, trivial⟩ (by rw [hs1, hs2, ← emL_snoc, ← emL_snoc]) (by repeat (first | exact ag_refl | refine ag_upd rfl ?_ | refine ag_at rfl rfl ?_))
              
        · apply w_l; (focus exact rfl); (focus exact rfl); (refine zSeo (show w * 1 + 1 ≤ (mpL l.length w mn).length by rw [mpL_len]; omega) ?_)
          refine w_nil ?_
          refine wtt_fin ?_
          apply w_a; (focus exact rfl); (focus exact rfl); refine lo_hintO 0 (lo_makeMap fun m2 => ⟨_, _, rfl, ⟨_, rfl⟩, ?_⟩)
          apply w_p; (focus exact rfl); (focus exact rfl); focus (intro _; (refine zIxp w hv2 hw' ?_); exact det_refl)
          apply w_l; (focus exact rfl); (focus exact rfl); (refine zSeo (show w * 1 + 1 ≤ (mpL l.length w me).length by rw [mpL_len]; omega) ?_)
          refine w_nil ?_
          repeat (first | refine gG ?_ | refine zN1 (fun hlen => ?_) | refine zN2 (fun hlen => ?_) | refine zAl (fun _ => ?_) | refine zBx (fun _ => ?_) | refine zAp (fun _ => ?_))
          refine ⟨(w + 1, updN mn w m1, updN me w m2), hw', by dsimp only; omega, ?_⟩
          refine Wk.trans (wk_perm (hp' := sH ba bg bn be bs bw by_ b6 my ms nd va vg vn ve vs vw l ((mpL l.length w mn).set (w * 1) (.lit (.map (some m1)))) ((mpL l.length w me).set (w * 1) (.lit (.map (some m2)))) SU ++ ((emL w mn ++ [.mp m1 []]) ++ (emL w me ++ [.mp m2 []]))) (by first | exact (List.Perm.of_eq rfl).trans (perm_mm (sH ba bg bn be bs bw by_ b6 my ms nd va vg vn ve vs vw l ((mpL l.length w mn).set (w * 1) (.lit (.map (some m1)))) ((mpL l.length w me).set (w * 1) (.lit (.map (some m2)))) SU) (emL w mn) (emL w me) (.mp m1 []) (.mp m2 [])) | exact (List.Perm.of_eq rfl).trans (perm_mm' (sH ba bg bn be bs bw by_ b6 my ms nd va vg vn ve vs vw l ((mpL l.length w mn).set (w * 1) (.lit (.map (some m1)))) ((mpL l.length w me).set (w * 1) (.lit (.map (some m2)))) SU) (emL w mn) (emL w me) (.mp m1 []) (.mp m2 [])))) ?_
          exact x_wk ⟨rfl, trivial⟩ (by rw [hs1, hs2, ← emL_snoc, ← emL_snoc]) (by repeat (first | exact ag_refl | refine ag_upd rfl ?_ | refine ag_at rfl rfl ?_))
              
      · apply w_a; (focus exact rfl); (focus exact rfl); refine lo_hintO 0 (lo_makeMap fun m2 => ⟨_, _, rfl, ⟨_, rfl⟩, ?_⟩)
        refine w_nil ?_
        refine wtt_fork ?_
        refine w_nil ?_
        refine ⟨?_, ?_⟩
        · apply w_a; (focus exact rfl); (focus exact rfl); refine zL1 ⟨⟨[], (List.append_nil _).symm⟩, ?_⟩
          refine w_nil ?_
          refine wtt_fin ?_
          apply w_l; (focus exact rfl); (focus exact rfl); (refine zSeo (show w * 1 + 1 ≤ (mpL l.length w mn).length by rw [mpL_len]; omega) ?_)
          apply w_p; (focus exact rfl); (focus exact rfl); focus (intro _; (refine zIxp w hv2 hw' ?_); exact det_refl)
          apply w_l; (focus exact rfl); (focus exact rfl); (refine zSeo (show w * 1 + 1 ≤ (mpL l.length w me).length by rw [mpL_len]; omega) ?_)
          refine w_nil ?_
          repeat (first | refine gG ?_ | refine zN1 (fun hlen => ?_) | refine zN2 (fun hlen => ?_) | refine zAl (fun _ => ?_) | refine zBx (fun _ => ?_) | refine zAp (fun _ => ?_))
          refine ⟨(w + 1, updN mn w m1, updN me w m2), hw', by dsimp only; omega, ?_⟩
          refine Wk.trans (wk_perm (hp' := sH ba bg bn be bs bw by_ b6 my ms nd va vg vn ve vs vw l ((mpL l.length w mn).set (w * 1) (.lit (.map (some m1)))) ((mpL l.length w me).set (w * 1) (.lit (.map (some m2)))) SU ++ ((emL w mn ++ [.mp m1 []]) ++ (emL w me ++ [.mp m2 []]))) (by first | exact (List.Perm.of_eq rfl).trans (perm_mm (sH ba bg bn be bs bw by_ b6 my ms nd va vg vn ve vs vw l ((mpL l.length w mn).set (w * 1) (.lit (.map (some m1)))) ((mpL l.length w me).set (w * 1) (.lit (.map (some m2)))) SU) (emL w mn) (emL w me) (.mp m1 []) (.mp m2 [])) | exact (List.Perm.of_eq rfl).trans (perm_mm' (sH ba bg bn be bs bw by_ b6 my ms nd va vg vn ve vs vw l ((mpL l.length w mn).set (w * 1) (.lit (.map (some m1)))) ((mpL l.length w me).set (w * 1) (.lit (.map (some m2)))) SU) (emL w mn) (emL w me) (.mp m1 []) (.mp m2 [])))) ?_
          exact x_wk ⟨rfl, trivial⟩ (by rw [hs1, hs2, ← emL_snoc, ← emL_snoc]) (by repeat (first | exact ag_refl | refine ag_upd rfl ?_ | refine ag_at rfl rfl ?_))
              
        · apply w_l; (focus exact rfl); (focus exact rfl); (refine zSeo (show w * 1 + 1 ≤ (mpL l.length w mn).length by rw [mpL_len]; omega) ?_)
          refine w_nil ?_
          refine wtt_fin ?_
          apply w_a; (focus exact rfl); (focus exact rfl); refine zL1 ⟨⟨[], (List.append_nil _).symm⟩, ?_⟩
          apply w_p; (focus exact rfl); (focus exact rfl); focus (intro _; (refine zIxp w hv2 hw' ?_); exact det_refl)
          apply w_l; (focus exact rfl); (focus exact rfl); (refine zSeo (show w * 1 + 1 ≤ (mpL l.length w me).length by rw [mpL_len]; omega) ?_)
          refine w_nil ?_
          repeat (first | refine gG ?_ | refine zN1 (fun hlen => ?_) | refine zN2 (fun hlen => ?_) | refine zAl (fun _ => ?_) | refine zBx (fun _ => ?_) | refine zAp (fun _ => ?_))
          refine ⟨(w + 1, updN mn w m1, updN me w m2), hw', by dsimp only; omega, ?_⟩
          refine Wk.trans (wk_perm (hp' := sH ba bg bn be bs bw by_ b6 my ms nd va vg vn ve vs vw l ((mpL l.length w mn).set (w * 1) (.lit (.map (some m1)))) ((mpL l.length w me).set (w * 1) (.lit (.map (some m2)))) SU ++ ((emL w mn ++ [.mp m1 []]) ++ (emL w me ++ [.mp m2 []]))) (by first | exact (List.Perm.of_eq rfl).trans (perm_mm (sH ba bg bn be bs bw by_ b6 my ms nd va vg vn ve vs vw l ((mpL l.length w mn).set (w * 1) (.lit (.map (some m1)))) ((mpL l.length w me).set (w * 1) (.lit (.map (some m2)))) SU) (emL w mn) (emL w me) (.mp m1 []) (.mp m2 [])) | exact (List.Perm.of_eq rfl).trans (perm_mm' (sH ba bg bn be bs bw by_ b6 my ms nd va vg vn ve vs vw l ((mpL l.length w mn).set (w * 1) (.lit (.map (some m1)))) ((mpL l.length w me).set (w * 1) (.lit (.map (some m2)))) SU) (emL w mn) (emL w me) (.mp m1 []) (.mp m2 [])))) ?_
          exact x_wk ⟨rfl, trivial⟩ (by rw [hs1, hs2, ← emL_snoc, ← emL_snoc]) (by repeat (first | exact ag_refl | refine ag_upd rfl ?_ | refine ag_at rfl rfl ?_))
              
      · apply w_l; (focus exact rfl); (focus exact rfl); (refine zSeo (show w * 1 + 1 ≤ (mpL l.length w mn).length by rw [mpL_len]; omega) ?_)
        refine w_nil ?_
        refine wtt_fork ?_
        refine w_nil ?_
        refine ⟨?_, ?_⟩
        · apply w_a; (focus exact rfl); (focus exact rfl); refine zL1 ⟨⟨[], (List.append_nil _).symm⟩, ?_⟩
          refine w_nil ?_
          refine wtt_fin ?_
          apply w_a; (focus exact rfl); (focus exact rfl); refine lo_hintO 0 (lo_makeMap fun m2 => ⟨_, _, rfl, ⟨_, rfl⟩, ?_⟩)
          apply w_p; (focus exact rfl); (focus exact rfl); focus (intro _; (refine zIxp w hv2 hw' ?_); exact det_refl)
          apply w_l; (focus exact rfl); (focus exact rfl); (refine zSeo (show w * 1 + 1 ≤ (mpL l.length w me).length by rw [mpL_len]; omega) ?_)
          refine w_nil ?_
          repeat (first | refine gG ?_ | refine zN1 (fun hlen => ?_) | refine zN2 (fun hlen => ?_) | refine zAl (fun _ => ?_) | refine zBx (fun _ => ?_) | refine zAp (fun _ => ?_))
          refine ⟨(w + 1, updN mn w m1, updN me w m2), hw', by dsimp only; omega, ?_⟩
          refine Wk.trans (wk_perm (hp' := sH ba bg bn be bs bw by_ b6 my ms nd va vg vn ve vs vw l ((mpL l.length w mn).set (w * 1) (.lit (.map (some m1)))) ((mpL l.length w me).set (w * 1) (.lit (.map (some m2)))) SU ++ ((emL w mn ++ [.mp m1 []]) ++ (emL w me ++ [.mp m2 []]))) (by first | exact (List.Perm.of_eq rfl).trans (perm_mm (sH ba bg bn be bs bw by_ b6 my ms nd va vg vn ve vs vw l ((mpL l.length w mn).set (w * 1) (.lit (.map (some m1)))) ((mpL l.length w me).set (w * 1) (.lit (.map (some m2)))) SU) (emL w mn) (emL w me) (.mp m1 []) (.mp m2 [])) | exact (List.Perm.of_eq rfl).trans (perm_mm' (sH ba bg bn be bs bw by_ b6 my ms nd va vg vn ve vs vw l ((mpL l.length w mn).set (w * 1) (.lit (.map (some m1)))) ((mpL l.length w me).set (w * 1) (.lit (.map (some m2)))) SU) (emL w mn) (emL w me) (.mp m1 []) (.mp m2 [])))) ?_
          exact x_wk ⟨rfl, trivial⟩ (by rw [hs1, hs2, ← emL_snoc, ← emL_snoc]) (by repeat (first | exact ag_refl | refine ag_upd rfl ?_ | refine ag_at rfl rfl ?_))
              
        · apply w_a; (focus exact rfl); (focus exact rfl); refine lo_hintO 0 (lo_makeMap fun m2 => ⟨_, _, rfl, ⟨_, rfl⟩, ?_⟩)
          refine w_nil ?_
          refine wtt_fin ?_
          apply w_a; (focus exact rfl); (focus exact rfl); refine zL1 ⟨⟨[], (List.append_nil _).symm⟩, ?_⟩
          apply w_p; (focus exact rfl); (focus exact rfl); focus (intro _; (refine zIxp w hv2 hw' ?_); exact det_refl)
          apply w_l; (focus exact rfl); (focus exact rfl); (refine zSeo (show w * 1 + 1 ≤ (mpL l.length w me).length by rw [mpL_len]; omega) ?_)
          refine w_nil ?_
          repeat (first | refine gG ?_ | refine zN1 (fun hlen => ?_) | refine zN2 (fun hlen => ?_) | refine zAl (fun _ => ?_) | refine zBx (fun _ => ?_) | refine zAp (fun _ => ?_))
          refine ⟨(w + 1, updN mn w m1, updN me w m2), hw', by dsimp only; omega, ?_⟩
          refine Wk.trans (wk_perm (hp' := sH ba bg bn be bs bw by_ b6 my ms nd va vg vn ve vs vw l ((mpL l.length w mn).set (w * 1) (.lit (.map (some m1)))) ((mpL l.length w me).set (w * 1) (.lit (.map (some m2)))) SU ++ ((emL w mn ++ [.mp m1 []]) ++ (emL w me ++ [.mp m2 []]))) (by first | exact (List.Perm.of_eq rfl).trans (perm_mm (sH ba bg bn be bs bw by_ b6 my ms nd va vg vn ve vs vw l ((mpL l.length w mn).set (w * 1) (.lit (.map (some m1)))) ((mpL l.length w me).set (w * 1) (.lit (.map (some m2)))) SU) (emL w mn) (emL w me) (.mp m1 []) (.mp m2 [])) | exact (List.Perm.of_eq rfl).trans (perm_mm' (sH ba bg bn be bs bw by_ b6 my ms nd va vg vn ve vs vw l ((mpL l.length w mn).set (w * 1) (.lit (.map (some m1)))) ((mpL l.length w me).set (w * 1) (.lit (.map (some m2)))) SU) (emL w mn) (emL w me) (.mp m1 []) (.mp m2 [])))) ?_
          exact x_wk ⟨rfl, trivial⟩ (by rw [hs1, hs2, ← emL_snoc, ← emL_snoc]) (by repeat (first | exact ag_refl | refine ag_upd rfl ?_ | refine ag_at rfl rfl ?_))
              
    · apply w_a; (focus exact rfl); (focus exact rfl); refine lo_hintO 0 (lo_makeMap fun m2 => ⟨_, _, rfl, ⟨_, rfl⟩, ?_⟩)
      refine w_nil ?_
      refine wtt_fork ?_
      refine w_nil ?_
      refine ⟨?_, ?_⟩
      · apply w_a; (focus exact rfl); (focus exact rfl); refine zL1 ⟨⟨[], (List.append_nil _).symm⟩, ?_⟩
        refine w_nil ?_
        refine wtt_fin ?_
        apply w_a; (focus exact rfl); (focus exact rfl); refine lo_hintO 0 (lo_makeMap fun m1 => ⟨_, _, rfl, ⟨_, rfl⟩, ?_⟩)
        apply w_p; (focus exact rfl); (focus exact rfl); focus (intro _; (refine zIxp w hv1 hw' ?_); exact det_refl)
        apply w_l; (focus exact rfl); (focus exact rfl); (refine zSeo (show w * 1 + 1 ≤ (mpL l.length w mn).length by rw [mpL_len]; omega) ?_)
        apply w_p; (focus exact rfl); (focus exact rfl); focus (intro _; (refine zIxp w hv2 hw' ?_); exact det_refl)
        apply w_l; (focus exact rfl); (focus exact rfl); (refine zSeo (show w * 1 + 1 ≤ (mpL l.length w me).length by rw [mpL_len]; omega) ?_)
        refine w_nil ?_
        repeat (first | refine gG ?_ | refine zN1 (fun hlen => ?_) | refine zN2 (fun hlen => ?_) | refine zAl (fun _ => ?_) | refine zBx (fun _ => ?_) | refine zAp (fun _ => ?_))
        refine ⟨(w + 1, updN mn w m1, updN me w m2), hw', by dsimp only; omega, ?_⟩
        refine Wk.trans (wk_perm (hp' := sH ba bg bn be bs bw by_ b6 my ms nd va vg vn ve vs vw l ((mpL l.length w mn).set (w * 1) (.lit (.map (some m1)))) ((mpL l.length w me).set (w * 1) (.lit (.map (some m2)))) SU ++ ((emL w mn ++ [.mp m1 []]) ++ (emL w me ++ [.mp m2 []]))) (by first | exact (List.Perm.of_eq rfl).trans (perm_mm (sH ba bg bn be bs bw by_ b6 my ms nd va vg vn ve vs vw l ((mpL l.length w mn).set (w * 1) (.lit (.map (some m1)))) ((mpL l.length w me).set (w * 1) (.lit (.map (some m2)))) SU) (emL w mn) (emL w me) (.mp m1 []) (.mp m2 [])) | exact (List.Perm.of_eq rfl).trans (perm_mm' (sH ba bg bn be bs bw by_ b6 my ms nd va vg vn ve vs vw l ((mpL l.length w mn).set (w * 1) (.lit (.map (some m1)))) ((mpL l.length w me).set (w * 1) (.lit (.map (some m2)))) SU) (emL w mn) (emL w me) (.mp m1 []) (.mp m2 [])))) ?_
        exact x_wk ⟨rfl, trivial⟩ (by rw [hs1, hs2, ← emL_snoc, ← emL_snoc]) (by repeat (first | exact ag_refl | refine ag_upd rfl ?_ | refine ag_at rfl rfl ?_))
            
      · apply w_a; (focus exact rfl); (focus exact rfl); refine lo_hintO 0 (lo_makeMap fun m1 => ⟨_, _, rfl, ⟨_, rfl⟩, ?_⟩)
        refine w_nil ?_
        refine wtt_fork ?_
        apply w_p; (focus exact rfl); (focus exact rfl); focus (intro _; (refine zIxp w hv1 hw' ?_); exact det_refl)
        refine w_nil ?_
        refine ⟨?_, ?_⟩
        · apply w_a; (focus exact rfl); (focus exact rfl); refine zL1 ⟨⟨[], (List.append_nil _).symm⟩, ?_⟩
          refine w_nil ?_
          refine wtt_fin ?_
          apply w_l; (focus exact rfl); (focus exact rfl); (refine zSeo (show w * 1 + 1 ≤ (mpL l.length w mn).length by rw [mpL_len]; omega) ?_)
          apply w_p; (focus exact rfl); (focus exact rfl); focus (intro _; (refine zIxp w hv2 hw' ?_); exact det_refl)
          apply w_l; (focus exact rfl); (focus exact rfl); (refine zSeo (show w * 1 + 1 ≤ (mpL l.length w me).length by rw [mpL_len]; omega) ?_)
          refine w_nil ?_
          repeat (first | refine gG ?_ | refine zN1 (fun hlen => ?_) | refine zN2 (fun hlen => ?_) | refine zAl (fun _ => ?_) | refine zBx (fun _ => ?_) | refine zAp (fun _ => ?_))
          refine ⟨(w + 1, updN mn w m1, updN me w m2), hw', by dsimp only; omega, ?_⟩
          refine Wk.trans (wk_perm (hp' := sH ba bg bn be bs bw by_ b6 my ms nd va vg vn ve vs vw l ((mpL l.length w mn).set (w * 1) (.lit (.map (some m1)))) ((mpL l.length w me).set (w * 1) (.lit (.map (some m2)))) SU ++ ((emL w mn ++ [.mp m1 []]) ++ (emL w me ++ [.mp m2 []]))) (by first | exact (List.Perm.of_eq rfl).trans (perm_mm (sH ba bg bn be bs bw by_ b6 my ms nd va vg vn ve vs vw l ((mpL l.length w mn).set (w * 1) (.lit (.map (some m1)))) ((mpL l.length w me).set (w * 1) (.lit (.map (some m2)))) SU) (emL w mn) (emL w me) (.mp m1 []) (.mp m2 [])) | exact (List.Perm.of_eq rfl).trans (perm_mm' (sH ba bg bn be bs bw by_ b6 my ms nd va vg vn ve vs vw l ((mpL l.length w mn).set (w * 1) (.lit (.map (some m1)))) ((mpL l.length w me).set (w * 1) (.lit (.map (some m2)))) SU) (emL w mn) (emL w me) (.mp m1 []) (.mp m2 [])))) ?_
          exact x_wk ⟨rfl, trivial⟩ (by rw [hs1, hs2, ← emL_snoc, ← emL_snoc]) (by repeat (first | exact ag_refl | refine ag_upd rfl ?_ | refine ag_at rfl rfl ?_))
              
        · apply w_l; (focus exact rfl); (focus exact rfl); (refine zSeo (show w * 1 + 1 ≤ (mpL l.length w mn).length by rw [mpL_len]; omega) ?_)
          refine w_nil ?_
          refine wtt_fin ?_
          apply w_a; (focus exact rfl); (focus exact rfl); refine zL1 ⟨⟨[], (List.append_nil _).symm⟩, ?_⟩
          apply w_p; (focus exact rfl); (focus exact rfl); focus (intro _; (refine zIxp w hv2 hw' ?_); exact det_refl)
          apply w_l; (focus exact rfl); (focus exact rfl); (refine zSeo (show w * 1 + 1 ≤ (mpL l.length w me).length by rw [mpL_len]; omega) ?_)
          refine w_nil ?_
          repeat (first | refine gG ?_ | refine zN1 (fun hlen => ?_) | refine zN2 (fun hlen => ?_) | refine zAl (fun _ => ?_) | refine zBx (fun _ => ?_) | refine zAp (fun _ => ?_))
          refine ⟨(w + 1, updN mn w m1, updN me w m2), hw', by dsimp only; omega, ?_⟩
          refine Wk.trans (wk_perm (hp' := sH ba bg bn be bs bw by_ b6 my ms nd va vg vn ve vs vw l ((mpL l.length w mn).set (w * 1) (.lit (.map (some m1)))) ((mpL l.length w me).set (w * 1) (.lit (.map (some m2)))) SU ++ ((emL w mn ++ [.mp m1 []]) ++ (emL w me ++ [.mp m2 []]))) (by first | exact (List.Perm.of_eq rfl).trans (perm_mm (sH ba bg bn be bs bw by_ b6 my ms nd va vg vn ve vs vw l ((mpL l.length w mn).set (w * 1) (.lit (.map (some m1)))) ((mpL l.length w me).set (w * 1) (.lit (.map (some m2)))) SU) (emL w mn) (emL w me) (.mp m1 []) (.mp m2 [])) | exact (List.Perm.of_eq rfl).trans (perm_mm' (sH ba bg bn be bs bw by_ b6 my ms nd va vg vn ve vs vw l ((mpL l.length w mn).set (w * 1) (.lit (.map (some m1)))) ((mpL l.length w me).set (w * 1) (.lit (.map (some m2)))) SU) (emL w mn) (emL w me) (.mp m1 []) (.mp m2 [])))) ?_
          exact x_wk ⟨rfl, trivial⟩ (by rw [hs1, hs2, ← emL_snoc, ← emL_snoc]) (by repeat (first | exact ag_refl | refine ag_upd rfl ?_ | refine ag_at rfl rfl ?_))
              
    -- END l2
  have hwe : w = l.length := by have : ¬ w < l.length := by simpa using h
                                omega
  subst hwe
  clear h hw
  refine ac_exit ?_
  refine ac_wk (Wk.trans (wk_nils 145 7 (by omega) (nd + 1)) (Wk.trans (wk_nils 73 2 (by omega) l.length) (wk_nils 143 2 (by omega) (nd + 1)))) ?_
  obtain ⟨F0, hF0⟩ : ∃ F0, F0 = (nilV (nd + 1)).map thR ++ ((nilV l.length).map goR ++ (emL l.length mn ++ emL l.length me)) := ⟨_, rfl⟩
  obtain ⟨NX, hNX⟩ : ∃ NX, NX = mpL l.length l.length mn := ⟨_, rfl⟩
  obtain ⟨EX, hEX⟩ : ∃ EX, EX = mpL l.length l.length me := ⟨_, rfl⟩
  refine x_perm (hp' := sH ba bg bn be bs bw by_ b6 my ms nd va vg vn ve vs vw l NX EX ((List.range (nd + 1)).map fun j => T.lit ((fun _ => .slice none 0 0 : Nat → Value) j)) ++ (F0 ++ (List.range (nd + 1)).map (kR (fun _ => .slice none 0 0) (cF l 0 0)))) (by
    rw [← hSU, hF0, hNX, hEX]
    exact perm_nils _ _ _ nd l) ?_
  clear hSU
  repeat (first | refine gG ?_ | refine zN1 (fun hlen => ?_) | refine zN2 (fun hlen => ?_) | refine zAl (fun _ => ?_) | refine zBx (fun _ => ?_) | refine zAp (fun _ => ?_))
  refine x_loop [19, 21, 108, 109, 110, 111, 112, 113, 114, 115, 116, 117, 118, 119, 120, 121, 122, 123, 124, 125, 126, 127, 128, 129] (fun q : Nat × (Nat → Value) => [(108, .c (iL (q.1 : Nat)))]) (fun q => sH ba bg bn be bs bw by_ b6 my ms nd va vg vn ve vs vw l NX EX ((List.range (nd + 1)).map fun j => T.lit (q.2 j)) ++ (F0 ++ (List.range (nd + 1)).map (kR q.2 (cF l q.1 0)))) (fun q => q.1 ≤ nd + 1) (fun q => nd + 1 - q.1) (0, (fun _ => .slice none 0 0)) (Nat.zero_le _) ⟨rfl, trivial⟩ rfl ?_
  rintro ⟨i, sv⟩ hi
  dsimp only at hi ⊢
  repeat (first | refine gG ?_ | refine zN1 (fun hlen => ?_) | refine zN2 (fun hlen => ?_) | refine zAl (fun _ => ?_) | refine zBx (fun _ => ?_) | refine zAp (fun _ => ?_))
  refine x_cond rfl (fun h => ?_) (fun h => ?_)
  · -- BEGIN l3
    have hi' : i < nd + 1 := by have := of_decide_eq_true h; omega
    clear h
    repeat (first | refine gG ?_ | refine zN1 (fun hlen => ?_) | refine zN2 (fun hlen => ?_) | refine zAl (fun _ => ?_) | refine zBx (fun _ => ?_) | refine zAp (fun _ => ?_))
    refine x_loop [21, 113, 114, 115, 116, 117, 118, 119, 120, 121, 122, 123, 124, 125, 126, 127, 128] (fun q : Nat × (Nat → Value) => [(113, .c (iL (q.1 : Nat)))]) (fun q => sH ba bg bn be bs bw by_ b6 my ms nd va vg vn ve vs vw l NX EX ((List.range (nd + 1)).map fun j => T.lit (q.2 j)) ++ (F0 ++ (List.range (nd + 1)).map (kR q.2 (cF l i q.1)))) (fun q => q.1 ≤ l.length) (fun q => l.length - q.1) (0, sv) (Nat.zero_le _) ⟨rfl, trivial⟩ rfl ?_
    rintro ⟨k', sv'⟩ hk
    dsimp only at hk ⊢
    repeat (first | refine gG ?_ | refine zN1 (fun hlen => ?_) | refine zN2 (fun hlen => ?_) | refine zAl (fun _ => ?_) | refine zBx (fun _ => ?_) | refine zAp (fun _ => ?_))
    refine x_cond rfl (fun h => ?_) (fun h => ?_)
    · have hk' : k' < l.length := by simpa using h
      obtain ⟨a, hka⟩ := nth hk'
      clear h
      repeat (first | refine gG ?_ | refine zN1 (fun hlen => ?_) | refine zN2 (fun hlen => ?_) | refine zAl (fun _ => ?_) | refine zBx (fun _ => ?_) | refine zAp (fun _ => ?_))
      refine zIx k' hk' ?_
      repeat (first | refine gG ?_ | refine zN1 (fun hlen => ?_) | refine zN2 (fun hlen => ?_) | refine zAl (fun _ => ?_) | refine zBx (fun _ => ?_) | refine zAp (fun _ => ?_))
      refine zEl1 (ints_at hka) ?_
      repeat (first | refine gG ?_ | refine zN1 (fun hlen => ?_) | refine zN2 (fun hlen => ?_) | refine zAl (fun _ => ?_) | refine zBx (fun _ => ?_) | refine zAp (fun _ => ?_))
      have hK := fam_out (f := kR sv' (cF l i k')) (rng_get hi')
      rw [show kR sv' (cF l i k') i = .row (sv' i) 143 2 ((l.take k').map (·, (0 : Int))).length (((l.take k').map (·, (0 : Int))).flatMap goTs) by unfold kR; rw [cF_at]] at hK
      have hql : ((l.take k').map (·, (0 : Int))).length = k' := by simp; omega
      have hcs := cF_snoc l i k' hka
      generalize (l.take k').map (·, (0 : Int)) = q at hK hql hcs
      have hss : ∀ v', ((List.range (nd + 1)).map fun j => T.lit (sv' j)).set (i * 1) (.lit v') = (List.range (nd + 1)).map fun j => T.lit (updN sv' i v' j) := fun v' => svL_set sv' _ i v'
      have hrl : ((List.range (nd + 1)).map fun j => T.lit (sv' j)).length = nd + 1 := by simp
      refine x_perm (pullK hK) ?_
      refine x_row 12 rfl (by omega) (fun hv => ?_)
      refine ac_drawT [3, 0, 1, 1, 1, 1, 1, 1, 1, 2, 0, 2] (.fork [1, 2, 3, 4, 5, 6, 7, 8] 0 (.fin [9, 10, 11]) 9 (.fin [0, 10, 11])) (by kernel_rfl) (by kernel_rfl) ?_
      refine wt_fork ?_
      refine gW ?_
      apply w_q; (focus exact rfl); (focus exact rfl); focus (intro _; (refine zIxo i hi' ?_); exact det_refl)
      apply w_q; (focus exact rfl); (focus exact rfl); focus (intro _; (refine lo_as 16 (zElo1 (rng_at1 (fun j => T.lit (sv' j)) hi') ⟨_, _, _, _, _, rfl, rfl, ?_⟩)); exact det_refl)
      refine gW ?_
      refine w_nil ?_
      refine ⟨?_, ?_⟩
      · apply w_a; (focus exact rfl); (focus exact rfl); refine zL1 ⟨⟨[], (List.append_nil _).symm⟩, ?_⟩
        refine w_nil ?_
        refine wt_fin ?_
        apply w_l; (focus exact rfl); (focus exact rfl); (refine zApS (fun v' => ?_) tok rfl rfl)
        apply w_p; (focus exact rfl); (focus exact rfl); focus (intro _; (refine zIxp i hv hi' ?_); exact det_refl)
        apply w_l; (focus exact rfl); (focus exact rfl); (refine zSeo (show i * 1 + 1 ≤ ((List.range (nd + 1)).map fun j => T.lit (sv' j)).length by rw [hrl]; omega) ?_)
        refine w_nil ?_
        rename_i v'
        repeat (first | refine gG ?_ | refine zN1 (fun hlen => ?_) | refine zN2 (fun hlen => ?_) | refine zAl (fun _ => ?_) | refine zBx (fun _ => ?_) | refine zAp (fun _ => ?_))
        refine ⟨(k' + 1, updN sv' i v'), hk', by dsimp only; omega, ?_⟩
        have hK2 := kR_out sv' (cF l i k') v' (q ++ [(a, 0)]) hi'
        rw [List.length_append, List.length_singleton, List.flatMap_append] at hK2
        refine Wk.trans (wk_perm ((List.Perm.of_eq rfl).trans (pullK (H := sH ba bg bn be bs bw by_ b6 my ms nd va vg vn ve vs vw l NX EX (((List.range (nd + 1)).map fun j => T.lit (sv' j)).set (i * 1) (.lit v'))) (F := F0) hK2).symm)) ?_
        exact x_wk ⟨rfl, trivial⟩ (by dsimp only; rw [hss, hcs]) (by repeat (first | exact ag_refl | refine ag_upd rfl ?_ | refine ag_at rfl rfl ?_))
              
      · apply w_l; (focus exact rfl); (focus exact rfl); (refine zApS (fun v' => ?_) tok rfl rfl)
        refine w_nil ?_
        refine wt_fin ?_
        apply w_a; (focus exact rfl); (focus exact rfl); refine zL1 ⟨⟨[], (List.append_nil _).symm⟩, ?_⟩
        apply w_p; (focus exact rfl); (focus exact rfl); focus (intro _; (refine zIxp i hv hi' ?_); exact det_refl)
        apply w_l; (focus exact rfl); (focus exact rfl); (refine zSeo (show i * 1 + 1 ≤ ((List.range (nd + 1)).map fun j => T.lit (sv' j)).length by rw [hrl]; omega) ?_)
        refine w_nil ?_
        rename_i v'
        repeat (first | refine gG ?_ | refine zN1 (fun hlen => ?_) | refine zN2 (fun hlen => ?_) | refine zAl (fun _ => ?_) | refine zBx (fun _ => ?_) | refine zAp (fun _ => ?_))
        refine ⟨(k' + 1, updN sv' i v'), hk', by dsimp only; omega, ?_⟩
        have hK2 := kR_out sv' (cF l i k') v' (q ++ [(a, 0)]) hi'
        rw [List.length_append, List.length_singleton, List.flatMap_append] at hK2
        refine Wk.trans (wk_perm ((List.Perm.of_eq rfl).trans (pullK (H := sH ba bg bn be bs bw by_ b6 my ms nd va vg vn ve vs vw l NX EX (((List.range (nd + 1)).map fun j => T.lit (sv' j)).set (i * 1) (.lit v'))) (F := F0) hK2).symm)) ?_
        exact x_wk ⟨rfl, trivial⟩ (by dsimp only; rw [hss, hcs]) (by repeat (first | exact ag_refl | refine ag_upd rfl ?_ | refine ag_at rfl rfl ?_))
              
    have hke : k' = l.length := by have : ¬ k' < l.length := by simpa using h
                                   omega
    subst hke
    clear h hk
    repeat (first | refine gG ?_ | refine zN1 (fun hlen => ?_) | refine zN2 (fun hlen => ?_) | refine zAl (fun _ => ?_) | refine zBx (fun _ => ?_) | refine zAp (fun _ => ?_))
    exact ⟨(i + 1, sv'), hi', by dsimp only; omega, x_wk ⟨rfl, trivial⟩ (by dsimp only; rw [cF_next]) (by repeat (first | exact ag_refl | refine ag_upd rfl ?_ | refine ag_at rfl rfl ?_))⟩
    -- END l3
  have hie : i = nd + 1 := by have := of_decide_eq_false h; omega
  subst hie
  clear h hi
  repeat (first | refine gG ?_ | refine zN1 (fun hlen => ?_) | refine zN2 (fun hlen => ?_) | refine zAl (fun _ => ?_) | refine zBx (fun _ => ?_) | refine zAp (fun _ => ?_))
  refine zAlE (fun bp => ?_)
  repeat (first | refine gG ?_ | refine zN1 (fun hlen => ?_) | refine zN2 (fun hlen => ?_) | refine zAl (fun _ => ?_) | refine zBx (fun _ => ?_) | refine zAp (fun _ => ?_))
  refine zStE rfl ?_
  repeat (first | refine gO ?_ | refine ac_seq ?_ | refine ac_block ?_)
  subst hNX hEX
  refine x_perm (perm_st1 ba bg bn be bs bw by_ bp b6 my ms nd va vg vn ve vs vw l sv mn me (F0 ++ (List.range (nd + 1)).map (kR sv (cF l (nd + 1) 0)))) ?_
  refine x_reptr 6 15 rfl (x_reptr 22 7 rfl ?_)
  refine x_as 15 (.own 16 (.map (some ms))) (fun M u h => re_own M u h) ?_
  repeat (first | refine gG ?_ | refine zN1 (fun hlen => ?_) | refine zN2 (fun hlen => ?_) | refine zAl (fun _ => ?_) | refine zBx (fun _ => ?_) | refine zAp (fun _ => ?_))
  refine zAlE (fun bl => ?_)
  repeat (first | refine gG ?_ | refine zN1 (fun hlen => ?_) | refine zN2 (fun hlen => ?_) | refine zAl (fun _ => ?_) | refine zBx (fun _ => ?_) | refine zAp (fun _ => ?_))
  refine zStE rfl ?_
  repeat (first | refine gO ?_ | refine ac_seq ?_ | refine ac_block ?_)
  refine x_eq (hp' := lbB (gx0 ba bg bn be bs bw by_ bp my nd va vg vn ve vs vw l sv mn me) bl :: (rH (gx0 ba bg bn be bs bw by_ bp my nd va vg vn ve vs vw l sv mn me) (rs0 nd l) ++ ([reB b6, .mp ms []] ++ (F0 ++ (List.range (nd + 1)).map (kR sv (cF l (nd + 1) 0)))))) rfl ?_
  refine x_perm perm_st2 ?_
  refine x_reptr 6 17 rfl (x_reptr 23 15 rfl ?_)
  repeat (first | refine gG ?_ | refine zN1 (fun hlen => ?_) | refine zN2 (fun hlen => ?_) | refine zAl (fun _ => ?_) | refine zBx (fun _ => ?_) | refine zAp (fun _ => ?_))
  obtain ⟨x, hx⟩ : ∃ x : Gx, x = gx0 ba bg bn be bs bw by_ bp my nd va vg vn ve vs vw l sv mn me := ⟨_, rfl⟩
  have hR0 : F0 ++ (List.range (nd + 1)).map (kR sv (cF l (nd + 1) 0)) = rT (gx0 ba bg bn be bs bw by_ bp my nd va vg vn ve vs vw l sv mn me) (rs0 nd l) := by rw [hF0]; exact rest_st ba bg bn be bs bw by_ bp my nd va vg vn ve vs vw l sv mn me
  rw [hR0]
  refine x_eq (hp' := rD x bl ms b6 (startZ nd l).seqs (rs0 nd l)) (by rw [hx]; rfl) ?_
  have hA : x.nA = l.length := by rw [hx]
  have n1 : nd = x.nd := by rw [hx]
  have n2 : ba = x.ba := by rw [hx]
  have n3 : bg = x.bg := by rw [hx]
  have n4 : bn = x.bn := by rw [hx]
  have n5 : be = x.be := by rw [hx]
  have n6 : bs = x.bs := by rw [hx]
  have n7 : bw = x.bw := by rw [hx]
  have n8 : by_ = x.by_ := by rw [hx]
  have n9 : bp = x.bp := by rw [hx]
  refine x_keep [(1, .c (intRow l)), (2, .c (ddRow ds)), (3, .c (.pin [iL nd] 0)), (6, .ptr 17 b6 0), (10, .ptr 0 ba 0), (11, .ptr 1 bg 0), (12, .ptr 2 bn 0), (13, .ptr 3 be 0), (14, .ptr 4 bs 0), (15, .own 16 (.map (some ms))), (16, .ptr 5 bw 0), (17, .ptr 6 by_ 0), (22, .ptr 7 bp 0), (23, .ptr 15 bl 0), (24, .fn (.func 55) [.ptr 5 bw 0, .ptr 15 bl 0]), (133, .c (ddRow ds)), (134, .c (iL (ds.length : Nat))), (135, .c (iL (0 : Nat)))] ⟨rfl, rfl, rfl, rfl, rfl, rfl, rfl, rfl, rfl, rfl, rfl, rfl, rfl, rfl, rfl, rfl, rfl, rfl, trivial⟩ ?_
  clear hx hF0 hR0
  subst n1 n2 n3 n4 n5 n6 n7 n8 n9
  have hS0 := all_ok (nA := x.nA) (nd := x.nd) (by rw [hA]; exact start_ok l hal) hd
  have hst : ∀ k d, ds[k]? = some d → (ds.take (k + 1)).foldl (fun Z d => doZ x.nd d Z) (startZ x.nd l) = doZ x.nd d ((ds.take k).foldl (fun Z d => doZ x.nd d Z) (startZ x.nd l)) := fun k d h => fold_snocD h
  obtain ⟨Zk, hZk⟩ : ∃ Zk : Nat → Zt, Zk = fun k => (ds.take k).foldl (fun Z d => doZ x.nd d Z) (startZ x.nd l) := ⟨_, rfl⟩
  have hS : ∀ k, k ≤ ds.length → SOk x.nA x.nd k (Zk k) := fun k hk => by rw [hZk]; exact hS0 k hk
  replace hst : ∀ k d, ds[k]? = some d → Zk (k + 1) = doZ x.nd d (Zk k) := fun k d h => by rw [hZk]; exact hst k d h
  have hZ0 : Zk 0 = startZ x.nd l := by rw [hZk]; rfl
  have hZe : Zk ds.length = ds.foldl (fun Z d => doZ x.nd d Z) (startZ x.nd l) := by rw [hZk]; dsimp only; rw [List.take_length]
  rw [← hZe]
  clear hZk hS0 hZe
  refine x_loop [26, 27, 28, 29, 30, 31, 32, 33, 135, 136, 137, 138, 139, 140, 141, 142, 143, 144, 145, 146, 147, 148, 149, 150, 151, 152, 153, 154, 155, 156, 157, 158, 159, 160, 161, 162, 163, 164, 165, 166, 167, 168, 169, 170, 171, 172, 173, 174, 175, 176, 177, 178, 179, 180, 181, 182, 183, 184, 185, 186, 187, 188, 189, 190, 191, 192, 193, 194, 195, 196, 197, 198, 199, 200, 201, 202, 203, 204, 205, 206, 207, 208, 209, 210, 211, 212, 213, 214, 215, 216, 217, 218, 219, 220, 221, 222, 223, 224, 225, 226, 227, 228, 229, 230, 231, 232, 233, 234, 235, 236, 237, 238, 239, 240, 241, 242, 243, 244, 245, 246, 247, 248, 249, 250, 251, 252, 253, 254, 255, 256, 257, 258, 259, 260, 261, 262, 263, 264, 265, 266, 267, 268, 269, 270, 271, 272, 273, 274, 275, 276, 277, 278, 279, 280, 281, 282, 283, 284, 285, 286, 287, 288, 289, 290, 291, 292, 293, 294, 295, 296, 297, 298, 299, 300, 301, 302, 303, 304, 305, 306, 307, 308, 309, 310, 311, 312, 313, 314, 315, 316, 317, 318, 319, 320, 321, 322, 323, 324, 325, 326, 327, 328, 329, 330, 331, 332, 333, 334, 335, 336, 337, 338, 339, 340, 341, 342, 343, 344, 345, 346, 347, 348, 349, 350, 351, 352] (fun q : Nat × Rs => [(135, .c (iL (q.1 : Nat)))]) (fun q => rD x bl ms b6 (Zk q.1).seqs q.2) (fun q => q.1 ≤ ds.length ∧ Rel x q.2 (Zk q.1)) (fun q => ds.length - q.1) (0, rs0 x.nd l) ⟨Nat.zero_le _, by rw [hZ0]; exact rs0_rel x l⟩ ⟨rfl, trivial⟩ (by dsimp only; rw [hZ0]) ?_
  rintro ⟨k, u⟩ ⟨hk, hu⟩
  dsimp only at hk hu ⊢
  repeat (first | refine gG ?_ | refine zN1 (fun hlen => ?_) | refine zN2 (fun hlen => ?_) | refine zAl (fun _ => ?_) | refine zBx (fun _ => ?_) | refine zAp (fun _ => ?_))
  refine x_cond rfl (fun h => ?_) (fun h => ?_)
  · have hk' : k < ds.length := by simpa using h
    obtain ⟨d, hdk⟩ := nth hk'
    replace hst := hst k d hdk
    have hSk := hS k (by omega)
    clear h hS hZ0
    repeat (first | refine gG ?_ | refine zN1 (fun hlen => ?_) | refine zN2 (fun hlen => ?_) | refine zAl (fun _ => ?_) | refine zBx (fun _ => ?_) | refine zAp (fun _ => ?_))
    refine zIx k hk' ?_
    repeat (first | refine gG ?_ | refine zN1 (fun hlen => ?_) | refine zN2 (fun hlen => ?_) | refine zAl (fun _ => ?_) | refine zBx (fun _ => ?_) | refine zAp (fun _ => ?_))
    refine zEl (dd_at hdk) rfl ?_
    repeat (first | refine gG ?_ | refine zN1 (fun hlen => ?_) | refine zN2 (fun hlen => ?_) | refine zAl (fun _ => ?_) | refine zBx (fun _ => ?_) | refine zAp (fun _ => ?_))
    refine zAlE (fun _ => ?_)
    repeat (first | refine gG ?_ | refine zN1 (fun hlen => ?_) | refine zN2 (fun hlen => ?_) | refine zAl (fun _ => ?_) | refine zBx (fun _ => ?_) | refine zAp (fun _ => ?_))
    refine zStE rfl ?_
    repeat (first | refine gO ?_ | refine ac_seq ?_ | refine ac_block ?_)
    obtain ⟨dk, dsr, dd, dw, dn⟩ := d
    refine x_frz0 26 (ddTs ⟨dk, dsr, dd, dw, dn⟩) ?_
    refine ac_region ?_
    repeat (first | refine gO ?_ | refine ac_seq ?_ | refine ac_block ?_)
    have hal : u.at_.length = x.nA := by rw [hu.at_]; exact hSk.alen
    have hiw : decide (isW x.nA dw) = (decide (dw ≥ 0) && decide (dw < (l.length : Int))) := by
      rw [Bool.eq_iff_iff, decide_eq_true_iff, Bool.and_eq_true, decide_eq_true_iff, decide_eq_true_iff]; unfold isW; omega
    refine x_join [28, 140, 141, 142, 143, 144, 145, 146, 147, 148, 149] (fun _ : Unit => [(28, .c (.lit (.bool (decide (isW x.nA dw)))))]) (fun _ => rD x bl ms b6 (Zk k).seqs u) (fun _ => ?_) ?_
    rotate_left
    · cases c0 : decide (dw ≥ 0)
      · rw [c0, Bool.false_and] at hiw
        rw [hiw]
        repeat (first | refine gG ?_ | refine zN1 (fun hlen => ?_) | refine zN2 (fun hlen => ?_) | refine zAl (fun _ => ?_) | refine zBx (fun _ => ?_) | refine zAp (fun _ => ?_))
        exact ⟨(), x_wk ⟨rfl, trivial⟩ rfl (by repeat (first | exact ag_refl | refine ag_upd rfl ?_ | refine ag_at rfl rfl ?_))⟩
      · rw [c0, Bool.true_and] at hiw
        rw [hiw]
        repeat (first | refine gG ?_ | refine zN1 (fun hlen => ?_) | refine zN2 (fun hlen => ?_) | refine zAl (fun _ => ?_) | refine zBx (fun _ => ?_) | refine zAp (fun _ => ?_))
        exact ⟨(), x_wk ⟨rfl, trivial⟩ rfl (by repeat (first | exact ag_refl | refine ag_upd rfl ?_ | refine ag_at rfl rfl ?_))⟩
    clear hiw
    generalize eW : decide (isW x.nA dw) = W
    have hi1 := in_af x.nd dsr
    have hi2 := in_af x.nd dd
    refine ac_block (ac_seq ?_)
    refine x_join [150, 151, 152, 153, 154, 155, 156, 157, 158, 159, 160, 161, 162] (fun _ : Unit => [(150, .c (.lit (.bool (decide (dk = 1) && (decide (isN x.nd dsr) && W)))))]) (fun _ => rD x bl ms b6 (Zk k).seqs u) (fun _ => ?_) ?_
    rotate_left
    · -- BEGIN j2
      generalize decide (isN x.nd dsr) = I1 at hi1 ⊢
      cases c1 : decide (dk = 1)
      · repeat (first | refine gG ?_ | refine zN1 (fun hlen => ?_) | refine zN2 (fun hlen => ?_) | refine zAl (fun _ => ?_) | refine zBx (fun _ => ?_) | refine zAp (fun _ => ?_))
        exact ⟨(), x_wk ⟨rfl, trivial⟩ rfl (by repeat (first | exact ag_refl | refine ag_upd rfl ?_ | refine ag_at rfl rfl ?_))⟩
      · cases I1
        · repeat (first | refine gG ?_ | refine zN1 (fun hlen => ?_) | refine zN2 (fun hlen => ?_) | refine zAl (fun _ => ?_) | refine zBx (fun _ => ?_) | refine zAp (fun _ => ?_))
          refine zCall (hi1) ?_
          rintro _ rfl
          repeat (first | refine gG ?_ | refine zN1 (fun hlen => ?_) | refine zN2 (fun hlen => ?_) | refine zAl (fun _ => ?_) | refine zBx (fun _ => ?_) | refine zAp (fun _ => ?_))
          exact ⟨(), x_wk ⟨rfl, trivial⟩ rfl (by repeat (first | exact ag_refl | refine ag_upd rfl ?_ | refine ag_at rfl rfl ?_))⟩
        · repeat (first | refine gG ?_ | refine zN1 (fun hlen => ?_) | refine zN2 (fun hlen => ?_) | refine zAl (fun _ => ?_) | refine zBx (fun _ => ?_) | refine zAp (fun _ => ?_))
          refine zCall (hi1) ?_
          rintro _ rfl
          repeat (first | refine gG ?_ | refine zN1 (fun hlen => ?_) | refine zN2 (fun hlen => ?_) | refine zAl (fun _ => ?_) | refine zBx (fun _ => ?_) | refine zAp (fun _ => ?_))
          exact ⟨(), x_wk ⟨rfl, trivial⟩ rfl (by repeat (first | exact ag_refl | refine ag_upd rfl ?_ | refine ag_at rfl rfl ?_))⟩
      -- END j2
    clear hi1
    refine x_cond rfl (fun h => ?_) (fun h => ?_)
    · -- a letter is put
      -- BEGIN put
      simp only [Bool.and_eq_true, decide_eq_true_eq] at h
      obtain ⟨rfl, hN, rfl⟩ := h
      have hwho : isW x.nA dw := of_decide_eq_true eW
      have hq := seqG_ok (dsr, dw) (show ZOk x.nA x.nd k k (802 * k) (401 * k) (65000000 * k) (Zk k) from hSk)
      have hlk : (mget (dsr, dw) (mapT iL (Zk k).seqs)).getD (.lit (.int .i64 0)) = iL (seqG (dsr, dw) (Zk k).seqs) := by
        rw [mget_T]; unfold seqG; cases gget (dsr, dw) (Zk k).seqs <;> rfl
      have hput := mput_T iL (dsr, dw) (seqG (dsr, dw) (Zk k).seqs + 1) (Zk k).seqs
      have hP : Zk (k + 1) = procZ dsr ⟨0, dw, dsr, seqG (dsr, dw) (Zk k).seqs, dn, 0, 0⟩ { Zk k with seqs := gput (dsr, dw) (seqG (dsr, dw) (Zk k).seqs + 1) (Zk k).seqs } := by
        rw [hst]; unfold doZ; dsimp only; rw [if_pos rfl, if_pos ⟨hN, by rw [hSk.alen]; exact hwho⟩]
      rw [procZ_seqs] at hP
      generalize seqG (dsr, dw) (Zk k).seqs = q at *
      clear hst
      repeat (first | refine gG ?_ | refine zN1 (fun hlen => ?_) | refine zN2 (fun hlen => ?_) | refine zAl (fun _ => ?_) | refine zBx (fun _ => ?_) | refine zAp (fun _ => ?_))
      refine zBda ?_
      repeat (first | refine gG ?_ | refine zN1 (fun hlen => ?_) | refine zN2 (fun hlen => ?_) | refine zAl (fun _ => ?_) | refine zBx (fun _ => ?_) | refine zAp (fun _ => ?_))
      refine zAlE (fun _ => ?_)
      repeat (first | refine gG ?_ | refine zN1 (fun hlen => ?_) | refine zN2 (fun hlen => ?_) | refine zAl (fun _ => ?_) | refine zBx (fun _ => ?_) | refine zAp (fun _ => ?_))
      refine zStE rfl ?_
      repeat (first | refine gO ?_ | refine ac_seq ?_ | refine ac_block ?_)
      refine x_frz0 29 [iL dsr, iL dw] ?_
      refine ac_draw [1, 1, 1, 1, 1, 1, 1, 1, 1, 1, 1, 1, 1, 2] [0, 1, 2, 3, 4, 5, 6, 7, 8, 9, 10, 11, 12, 13] (by kernel_rfl) (by kernel_rfl) ?_
      refine gW ?_
      apply w_q; (focus exact rfl); (focus exact rfl); focus (intro _; (refine zLkr 3 keyWay (dsr, dw) hlk ?_); exact det_refl)
      refine gW ?_
      apply w_l; (focus exact rfl); (focus exact rfl); (refine lo_frame _ _ (rD_rB x bl ms b6 (Zk k).seqs u) (fun F' => ?_); refine zCallAll (letter_ag x u _ hu dsr ⟨0, dw, dsr, q, dn, 0, 0⟩ (show ZOk x.nA x.nd k k (802 * k) (401 * k) (65000000 * k) (Zk k) from hSk) (by omega) (by omega) (by omega) (by omega) hN ⟨by simp, hwho, fun _ => hN, fun h => absurd rfl h, by constructor <;> (dsimp only; omega)⟩ rfl) (List.Perm.refl _) ?_; rintro _ _ ⟨w', hz, hq'⟩; refine ⟨_, re_refl, ?_⟩)
      refine w_nil ?_
      refine x_perm ((hq'.append_right _).trans (rD_rB x bl ms b6 (Zk k).seqs w').symm) ?_
      refine ac_drawT [0, 0, 3, 0, 2, 0, 2] (.fork [0, 1] 2 (.fin [3, 4, 5, 6]) 4 (.fin [5, 2, 3, 6])) (by kernel_rfl) (by kernel_rfl) ?_
      refine wt_fork ?_
      refine gW ?_
      refine w_nil ?_
      refine ⟨?_, ?_⟩
      · apply w_a; (focus exact rfl); (focus exact rfl); (first | refine zLkr 3 keyWay (dsr, dw) hlk ⟨⟨[], (List.append_nil _).symm⟩, ?_⟩ (by kernel_rfl) tok rfl rfl rfl rfl rfl (by intro M u h; exact kv_c h) | refine zLkr 3 keyWay (dsr, dw) (show (mget (dsr, dw) l1).getD (.lit (.int .i64 0)) = iL q by rw [hj4]; exact hlk) ⟨⟨[], (List.append_nil _).symm⟩, ?_⟩ (by kernel_rfl) tok rfl rfl rfl rfl rfl (by intro M u h; exact kv_c h))
        refine w_nil ?_
        refine wt_fin ?_
        apply w_p; (focus exact rfl); (focus exact rfl); focus (intro _; (refine lo_add rfl rfl (r := q + 1) (by show IntKind.wrap .i64 (q + 1) = q + 1; exact IntWalk.i64_in _ (by omega)) ?_); exact det_refl)
        apply w_l; (focus exact rfl); (focus exact rfl); (refine zMe 3 (.lit (.int .i64 0)) keyWay (dsr, dw) (fun l1 jj st c vv hj1 hj2 hj3 hj4 => ?_))
        refine gW ?_
        apply w_l; (focus exact rfl); (focus exact rfl); (refine zEst (k := (dsr, dw)) (iL (q + 1)) hj1 hj2 ((hj3 _).trans hput) ?_)
        refine w_nil ?_
        refine x_eq (hp' := rD x bl ms b6 (gput (dsr, dw) (q + 1) (Zk k).seqs) w') rfl ?_
        repeat (first | refine gG ?_ | refine zN1 (fun hlen => ?_) | refine zN2 (fun hlen => ?_) | refine zAl (fun _ => ?_) | refine zBx (fun _ => ?_) | refine zAp (fun _ => ?_))
        exact ⟨(k + 1, w'), ⟨hk', by rw [hP]; exact hz.seqs _⟩, by dsimp only; omega, x_wk ⟨rfl, trivial⟩ (by dsimp only; rw [hP]) (by repeat (first | exact ag_refl | refine ag_upd rfl ?_ | refine ag_at rfl rfl ?_))⟩
              
      · apply w_l; (focus exact rfl); (focus exact rfl); (refine zMe 3 (.lit (.int .i64 0)) keyWay (dsr, dw) (fun l1 jj st c vv hj1 hj2 hj3 hj4 => ?_))
        refine w_nil ?_
        refine wt_fin ?_
        refine gW ?_
        apply w_a; (focus exact rfl); (focus exact rfl); (first | refine zLkr 3 keyWay (dsr, dw) hlk ⟨⟨[], (List.append_nil _).symm⟩, ?_⟩ (by kernel_rfl) tok rfl rfl rfl rfl rfl (by intro M u h; exact kv_c h) | refine zLkr 3 keyWay (dsr, dw) (show (mget (dsr, dw) l1).getD (.lit (.int .i64 0)) = iL q by rw [hj4]; exact hlk) ⟨⟨[], (List.append_nil _).symm⟩, ?_⟩ (by kernel_rfl) tok rfl rfl rfl rfl rfl (by intro M u h; exact kv_c h))
        apply w_p; (focus exact rfl); (focus exact rfl); focus (intro _; (refine lo_add rfl rfl (r := q + 1) (by show IntKind.wrap .i64 (q + 1) = q + 1; exact IntWalk.i64_in _ (by omega)) ?_); exact det_refl)
        apply w_l; (focus exact rfl); (focus exact rfl); (refine zEst (k := (dsr, dw)) (iL (q + 1)) hj1 hj2 ((hj3 _).trans hput) ?_)
        refine w_nil ?_
        refine x_eq (hp' := rD x bl ms b6 (gput (dsr, dw) (q + 1) (Zk k).seqs) w') rfl ?_
        repeat (first | refine gG ?_ | refine zN1 (fun hlen => ?_) | refine zN2 (fun hlen => ?_) | refine zAl (fun _ => ?_) | refine zBx (fun _ => ?_) | refine zAp (fun _ => ?_))
        exact ⟨(k + 1, w'), ⟨hk', by rw [hP]; exact hz.seqs _⟩, by dsimp only; omega, x_wk ⟨rfl, trivial⟩ (by dsimp only; rw [hP]) (by repeat (first | exact ag_refl | refine ag_upd rfl ?_ | refine ag_at rfl rfl ?_))⟩
              
      -- END put
    refine ac_seq ?_
    obtain ⟨c2, hc2⟩ : ∃ c2, c2 = (decide (dk = 2) && (W && (decide (isN x.nd dd) && (decide (u.at_.getD dw.toNat 0 > 0) && !decide (u.at_.getD dw.toNat 0 = dd))))) := ⟨_, rfl⟩
    refine x_join [188, 189, 190, 191, 192, 193, 194, 195, 196, 197, 198, 199, 200, 201, 202, 203, 204, 205, 206, 207, 208, 209, 210, 211, 212, 213, 214, 215, 216, 217, 218] (fun _ : Unit => [(188, .c (.lit (.bool c2)))]) (fun _ => rD x bl ms b6 (Zk k).seqs u) (fun _ => ?_) ?_
    rotate_left
    · -- BEGIN j3
      cases d2 : decide (dk = 2)
      · subst hc2
        rw [d2]
        refine ac_drawB [0, 1, 3, 7, 15, 31, 63, 127, 127, 383, 1023, 2047, 4095, 8191, 8191, 24575, 65535, 131071, 262143, 524287, 1048575, 2097151, 2097151, 6291455, 16777215, 33554431, 2097151, 69206015, 268435455, 536870911, 1073741823] [1, 1, 1, 1, 1, 1, 1, 1, 1, 1, 1, 1, 1, 1, 1, 1, 1, 1, 1, 1, 1, 1, 1, 1, 1, 1, 1, 1, 1, 1, 1] [0, 1, 2, 3, 4, 5, 6, 7, 8, 9, 10, 11, 12, 13, 14, 15, 16, 17, 18, 19, 20, 21, 22, 23, 24, 25, 26, 27, 28, 29, 30] (by kernel_rfl) (by kernel_rfl) ?_
        refine gW ?_
        refine w_nil ?_
        exact ⟨(), x_wk ⟨rfl, trivial⟩ rfl (by repeat (first | exact ag_refl | refine ag_upd rfl ?_ | refine ag_at rfl rfl ?_))⟩
      cases W
      · subst hc2
        rw [d2]
        refine ac_drawB [0, 1, 3, 7, 15, 31, 63, 127, 127, 383, 1023, 2047, 4095, 8191, 8191, 24575, 65535, 131071, 262143, 524287, 1048575, 2097151, 2097151, 6291455, 16777215, 33554431, 2097151, 69206015, 268435455, 536870911, 1073741823] [1, 1, 1, 1, 1, 1, 1, 1, 1, 1, 1, 1, 1, 1, 1, 1, 1, 1, 1, 1, 1, 1, 1, 1, 1, 1, 1, 1, 1, 1, 1] [0, 1, 2, 3, 4, 5, 6, 7, 8, 9, 10, 11, 12, 13, 14, 15, 16, 17, 18, 19, 20, 21, 22, 23, 24, 25, 26, 27, 28, 29, 30] (by kernel_rfl) (by kernel_rfl) ?_
        refine gW ?_
        refine w_nil ?_
        exact ⟨(), x_wk ⟨rfl, trivial⟩ rfl (by repeat (first | exact ag_refl | refine ag_upd rfl ?_ | refine ag_at rfl rfl ?_))⟩
      generalize decide (isN x.nd dd) = I2 at hi2 hc2
      cases I2
      · subst hc2
        rw [d2]
        refine ac_drawB [0, 1, 3, 7, 15, 31, 63, 127, 127, 383, 1023, 2047, 4095, 8191, 8191, 24575, 65535, 131071, 262143, 524287, 1048575, 2097151, 2097151, 6291455, 16777215, 33554431, 2097151, 69206015, 268435455, 536870911, 1073741823] [1, 1, 1, 1, 1, 1, 1, 1, 1, 1, 1, 1, 1, 1, 1, 1, 1, 1, 1, 1, 1, 1, 1, 1, 1, 1, 1, 1, 1, 1, 1] [0, 1, 2, 3, 4, 5, 6, 7, 8, 9, 10, 11, 12, 13, 14, 15, 16, 17, 18, 19, 20, 21, 22, 23, 24, 25, 26, 27, 28, 29, 30] (by kernel_rfl) (by kernel_rfl) ?_
        refine gW ?_
        try (first | (apply w_un; (focus exact rfl); (focus exact rfl); (focus exact rfl); (focus exact rfl)) | (apply w_no; (focus exact rfl); (focus exact rfl); (focus exact rfl); (focus exact rfl); focus (first | rfl | assumption | exact neg_t (by assumption) | exact neg_f (by assumption))) | (apply w_qg; (focus exact rfl); (focus exact rfl); (focus exact rfl); (focus exact rfl); (focus (first | rfl | assumption | exact neg_t (by assumption) | exact neg_f (by assumption))); (focus (intro _; (refine zCall hi2 ?_; rintro _ rfl); exact det_refl))))
        try refine gW ?_
        refine w_nil ?_
        exact ⟨(), x_wk ⟨rfl, trivial⟩ rfl (by repeat (first | exact ag_refl | refine ag_upd rfl ?_ | refine ag_at rfl rfl ?_))⟩
      have hwho : isW x.nA dw := of_decide_eq_true eW
      obtain ⟨j, rfl⟩ : ∃ j : Nat, dw = (j : Int) := ⟨dw.toNat, (isW_lt hwho).2.symm⟩
      have hjl : j < u.at_.length := by rw [hal]; exact (isW_lt hwho).1
      obtain ⟨a, ha⟩ := nth hjl
      have hat := ints_at ha
      have had : u.at_.getD ((j : Int)).toNat 0 = a := by show u.at_.getD j 0 = a; rw [List.getD, ha]; rfl
      rw [had] at hc2
      cases d3 : decide (a > 0)
      · subst hc2
        rw [d2, d3]
        refine ac_drawB [0, 1, 3, 7, 15, 31, 63, 127, 127, 383, 1023, 2047, 4095, 8191, 8191, 24575, 65535, 131071, 262143, 524287, 1048575, 2097151, 2097151, 6291455, 16777215, 33554431, 2097151, 69206015, 268435455, 536870911, 1073741823] [1, 1, 1, 1, 1, 1, 1, 1, 1, 1, 1, 1, 1, 1, 1, 1, 1, 1, 1, 1, 1, 1, 1, 1, 1, 1, 1, 1, 1, 1, 1] [0, 1, 2, 3, 4, 5, 6, 7, 8, 9, 10, 11, 12, 13, 14, 15, 16, 17, 18, 19, 20, 21, 22, 23, 24, 25, 26, 27, 28, 29, 30] (by kernel_rfl) (by kernel_rfl) ?_
        refine gW ?_
        try (first | (apply w_un; (focus exact rfl); (focus exact rfl); (focus exact rfl); (focus exact rfl)) | (apply w_no; (focus exact rfl); (focus exact rfl); (focus exact rfl); (focus exact rfl); focus (first | rfl | assumption | exact neg_t (by assumption) | exact neg_f (by assumption))) | (apply w_qg; (focus exact rfl); (focus exact rfl); (focus exact rfl); (focus exact rfl); (focus (first | rfl | assumption | exact neg_t (by assumption) | exact neg_f (by assumption))); (focus (intro _; (refine zCall hi2 ?_; rintro _ rfl); exact det_refl))))
        try refine gW ?_
        try (first | (apply w_un; (focus exact rfl); (focus exact rfl); (focus exact rfl); (focus exact rfl)) | (apply w_no; (focus exact rfl); (focus exact rfl); (focus exact rfl); (focus exact rfl); focus (first | rfl | assumption | exact neg_t (by assumption) | exact neg_f (by assumption))) | (apply w_qg; (focus exact rfl); (focus exact rfl); (focus exact rfl); (focus exact rfl); (focus (first | rfl | assumption | exact neg_t (by assumption) | exact neg_f (by assumption))); (focus (intro _; (refine zIxo j hjl ?_); exact det_refl))))
        (first | (apply w_un; (focus exact rfl); (focus exact rfl); (focus exact rfl); (focus exact rfl)) | (apply w_no; (focus exact rfl); (focus exact rfl); (focus exact rfl); (focus exact rfl); focus (first | rfl | assumption | exact neg_t (by assumption) | exact neg_f (by assumption))) | (apply w_qg; (focus exact rfl); (focus exact rfl); (focus exact rfl); (focus exact rfl); (focus (first | rfl | assumption | exact neg_t (by assumption) | exact neg_f (by assumption))); (focus (intro _; (refine zElo1 hat ?_); exact det_refl))))
        try refine gW ?_
        refine w_nil ?_
        exact ⟨(), x_wk ⟨rfl, trivial⟩ rfl (by repeat (first | exact ag_refl | refine ag_upd rfl ?_ | refine ag_at rfl rfl ?_))⟩
      · subst hc2
        rw [d2, d3]
        refine ac_drawB [0, 1, 3, 7, 15, 31, 63, 127, 127, 383, 1023, 2047, 4095, 8191, 8191, 24575, 65535, 131071, 262143, 524287, 1048575, 2097151, 2097151, 6291455, 16777215, 33554431, 2097151, 69206015, 268435455, 536870911, 1073741823] [1, 1, 1, 1, 1, 1, 1, 1, 1, 1, 1, 1, 1, 1, 1, 1, 1, 1, 1, 1, 1, 1, 1, 1, 1, 1, 1, 1, 1, 1, 1] [0, 1, 2, 3, 4, 5, 6, 7, 8, 9, 10, 11, 12, 13, 14, 15, 16, 17, 18, 19, 20, 21, 22, 23, 24, 25, 26, 27, 28, 29, 30] (by kernel_rfl) (by kernel_rfl) ?_
        refine gW ?_
        try (first | (apply w_un; (focus exact rfl); (focus exact rfl); (focus exact rfl); (focus exact rfl)) | (apply w_no; (focus exact rfl); (focus exact rfl); (focus exact rfl); (focus exact rfl); focus (first | rfl | assumption | exact neg_t (by assumption) | exact neg_f (by assumption))) | (apply w_qg; (focus exact rfl); (focus exact rfl); (focus exact rfl); (focus exact rfl); (focus (first | rfl | assumption | exact neg_t (by assumption) | exact neg_f (by assumption))); (focus (intro _; (refine zCall hi2 ?_; rintro _ rfl); exact det_refl))))
        try refine gW ?_
        try (first | (apply w_un; (focus exact rfl); (focus exact rfl); (focus exact rfl); (focus exact rfl)) | (apply w_no; (focus exact rfl); (focus exact rfl); (focus exact rfl); (focus exact rfl); focus (first | rfl | assumption | exact neg_t (by assumption) | exact neg_f (by assumption))) | (apply w_qg; (focus exact rfl); (focus exact rfl); (focus exact rfl); (focus exact rfl); (focus (first | rfl | assumption | exact neg_t (by assumption) | exact neg_f (by assumption))); (focus (intro _; (refine zIxo j hjl ?_); exact det_refl))))
        (first | (apply w_un; (focus exact rfl); (focus exact rfl); (focus exact rfl); (focus exact rfl)) | (apply w_no; (focus exact rfl); (focus exact rfl); (focus exact rfl); (focus exact rfl); focus (first | rfl | assumption | exact neg_t (by assumption) | exact neg_f (by assumption))) | (apply w_qg; (focus exact rfl); (focus exact rfl); (focus exact rfl); (focus exact rfl); (focus (first | rfl | assumption | exact neg_t (by assumption) | exact neg_f (by assumption))); (focus (intro _; (refine zElo1 hat ?_); exact det_refl))))
        try refine gW ?_
        try (first | (apply w_un; (focus exact rfl); (focus exact rfl); (focus exact rfl); (focus exact rfl)) | (apply w_no; (focus exact rfl); (focus exact rfl); (focus exact rfl); (focus exact rfl); focus (first | rfl | assumption | exact neg_t (by assumption) | exact neg_f (by assumption))) | (apply w_qg; (focus exact rfl); (focus exact rfl); (focus exact rfl); (focus exact rfl); (focus (first | rfl | assumption | exact neg_t (by assumption) | exact neg_f (by assumption))); (focus (intro _; (refine zIxo j hjl ?_); exact det_refl))))
        (first | (apply w_un; (focus exact rfl); (focus exact rfl); (focus exact rfl); (focus exact rfl)) | (apply w_no; (focus exact rfl); (focus exact rfl); (focus exact rfl); (focus exact rfl); focus (first | rfl | assumption | exact neg_t (by assumption) | exact neg_f (by assumption))) | (apply w_qg; (focus exact rfl); (focus exact rfl); (focus exact rfl); (focus exact rfl); (focus (first | rfl | assumption | exact neg_t (by assumption) | exact neg_f (by assumption))); (focus (intro _; (refine zElo1 hat ?_); exact det_refl))))
        try refine gW ?_
        refine w_nil ?_
        exact ⟨(), x_wk ⟨rfl, trivial⟩ rfl (by repeat (first | exact ag_refl | refine ag_upd rfl ?_ | refine ag_at rfl rfl ?_))⟩
      -- END j3
    clear hi2
    refine x_cond rfl (fun h2 => ?_) (fun h2 => ?_)
    · -- an actor leaves
      -- BEGIN shift
      rw [hc2] at h2
      simp only [Bool.and_eq_true, decide_eq_true_eq, Bool.not_eq_true', decide_eq_false_iff_not] at h2
      obtain ⟨rfl, rfl, hN, ha0, had⟩ := h2
      clear hc2 h
      have hwho : isW x.nA dw := of_decide_eq_true eW
      obtain ⟨j, rfl⟩ : ∃ j : Nat, dw = (j : Int) := ⟨dw.toNat, (isW_lt hwho).2.symm⟩
      have hjA : j < x.nA := (isW_lt hwho).1
      have hjl : j < u.at_.length := by rw [hal]; exact hjA
      obtain ⟨a, ha⟩ := nth hjl
      have hat := ints_at ha
      have hgd : u.at_.getD ((j : Int)).toNat 0 = a := by show u.at_.getD j 0 = a; rw [List.getD, ha]; rfl
      rw [hgd] at ha0 had
      have hao := at_ok (show ZOk x.nA x.nd k k (802 * k) (401 * k) (65000000 * k) (Zk k) from hSk) hwho
      rw [← hu.at_, hgd] at hao
      obtain ⟨m, rfl⟩ : ∃ m : Nat, a = (m : Int) := ⟨a.toNat, by omega⟩
      have hia : isN x.nd (m : Int) := by unfold isN; omega
      have hml : m < x.nd + 1 := by omega
      have hbo := hSk.bel (m : Int) (j : Int) hia hwho
      rw [← hu.bel] at hbo
      have hP : Zk (k + 1) = { Zk k with bel := upd2 (Zk k).bel (m : Int) (j : Int) (dd, (u.bel m j).2 + 1), at_ := (Zk k).at_.set j 0, ways := pushL ((m : Int), dd) ⟨1, j, 0, 0, 0, dd, (u.bel m j).2 + 1⟩ (Zk k).ways } := by
        have hgd' : (Zk k).at_.getD ((j : Int)).toNat 0 = (m : Int) := by rw [← hu.at_]; exact hgd
        rw [hst]; unfold doZ; dsimp only
        rw [if_neg (by decide), if_pos rfl, hgd', if_pos ⟨hN, by rw [hSk.alen]; exact hwho, by omega, had⟩, hu.bel]
        rfl
      clear hst
      have hyn := hSk.waysn
      have hbound := wayG_le ((m : Int), dd) (Zk k).ways
      generalize hsq : (Zk k).seqs = S
      repeat (first | refine gG ?_ | refine zN1 (fun hlen => ?_) | refine zN2 (fun hlen => ?_) | refine zAl (fun _ => ?_) | refine zBx (fun _ => ?_) | refine zAp (fun _ => ?_))
      refine zIxo j hjl ?_
      repeat (first | refine gG ?_ | refine zN1 (fun hlen => ?_) | refine zN2 (fun hlen => ?_) | refine zAl (fun _ => ?_) | refine zBx (fun _ => ?_) | refine zAp (fun _ => ?_))
      refine zElo1 hat ?_
      repeat (first | refine gG ?_ | refine zN1 (fun hlen => ?_) | refine zN2 (fun hlen => ?_) | refine zAl (fun _ => ?_) | refine zBx (fun _ => ?_) | refine zAp (fun _ => ?_))
      refine zIxo j hjl ?_
      repeat (first | refine gO ?_)
      refine zSei (show j * 1 + 1 ≤ (u.at_.flatMap intTs).length by rw [ints_len]; omega) ?_
      repeat (first | refine gO ?_ | refine ac_seq ?_ | refine ac_block ?_)
      refine x_eq (at_storeR x bl ms b6 S u j 0) ?_
      obtain ⟨u1, hu1⟩ : ∃ u1 : Rs, u1 = ⟨u.at_.set j 0, u.bel, u.nxt, u.ear, u.ways, u.wait, u.got⟩ := ⟨_, rfl⟩
      rw [← hu1]
      have hb1 : u1.bel = u.bel := by rw [hu1]
      have hsl := belL_at (n := x.nA) u1.bel m hjA
      rw [hb1] at hsl
      have hZ1 : Rel x u1 { Zk k with at_ := (Zk k).at_.set j 0 } := by
        rw [hu1]; exact ⟨by dsimp only; rw [hu.at_], hu.bel, hu.ways, hu.wait, hu.got, hu.nxt, hu.ear, hu.src⟩
      generalize htt : (u.bel (m : Int) (j : Int)).2 = tt at *
      have hrow := fam_out (f := suR x u1.bel) (rng_get hml)
      have hgt := go_turn hsl
      rw [htt] at hgt
      rw [← hb1] at hgt
      refine x_perm (rD_su x bl ms b6 S u1 hrow) ?_
      repeat (first | refine gG ?_ | refine zN1 (fun hlen => ?_) | refine zN2 (fun hlen => ?_) | refine zAl (fun _ => ?_) | refine zBx (fun _ => ?_) | refine zAp (fun _ => ?_))
      refine ac_drawB [0, 0, 3, 7, 0, 16, 0, 64, 0, 0, 768, 1792, 0, 4096, 16128, 32512, 65280, 130816, 262080, 524287, 1048575] [1, 1, 1, 1, 1, 1, 1, 1, 1, 1, 1, 1, 1, 1, 1, 1, 1, 1, 1, 1, 2] [0, 1, 2, 3, 4, 5, 6, 7, 8, 9, 10, 11, 12, 13, 14, 15, 16, 17, 18, 19, 20] (by kernel_rfl) (by kernel_rfl) ?_
      refine gW ?_
      apply w_q; (focus exact rfl); (focus exact rfl); focus (intro _; (refine zIxo m hml ?_); exact det_refl)
      apply w_q; (focus exact rfl); (focus exact rfl); focus (intro _; (refine lo_as 18 (zElo1 (rng_at1 (fun i => T.lit (x.sv i)) hml) ⟨_, _, _, _, _, rfl, rfl, ?_⟩)); exact det_refl)
      refine gW ?_
      apply w_q; (focus exact rfl); (focus exact rfl); focus (intro _; (refine zIxo m hml ?_); exact det_refl)
      apply w_q; (focus exact rfl); (focus exact rfl); focus (intro _; (refine lo_as 18 (zElo1 (rng_at1 (fun i => T.lit (x.sv i)) hml) ⟨_, _, _, _, _, rfl, rfl, ?_⟩)); exact det_refl)
      refine gW ?_
      apply w_q; (focus exact rfl); (focus exact rfl); focus (intro _; (refine zIxo j hjA ?_); exact det_refl)
      refine gW ?_
      apply w_q; (focus exact rfl); (focus exact rfl); focus (intro _; (refine zElo1 hgt ?_); exact det_refl)
      apply w_q; (focus exact rfl); (focus exact rfl); focus (intro _; (refine lo_add rfl rfl (r := tt + 1) (by show IntKind.wrap .i64 (tt + 1) = tt + 1; exact IntWalk.i64_in _ (by omega)) ?_); exact det_refl)
      refine gW ?_
      apply w_q; (focus exact rfl); (focus exact rfl); focus (intro _; (refine zIxo j hjA ?_); exact det_refl)
      apply w_l; (focus exact rfl); (focus exact rfl); (refine zSe2 dd (tt + 1) (show j * 2 + 2 ≤ ((belL x.nA u1.bel m).flatMap goTs).length by rw [gos_len, belL_len]; omega) ?_)
      refine w_nil ?_
      obtain ⟨R2, hR2⟩ : ∃ R2 : List Blk, R2 = u1.wait.map thR ++ (u1.got.map goR ++ ((List.range x.nA).map (nxR x u1.nxt) ++ ((List.range x.nA).map (eaR x u1.ear) ++ ((List.range (x.nd + 1)).eraseIdx m).map (suR x u1.bel)))) := ⟨_, rfl⟩
      refine x_eq (hp' := rH x u1 ++ (exB x bl ms b6 S ++ (.row (x.sv m) 143 2 x.nA (((belL x.nA u1.bel m).set j (dd, tt + 1)).flatMap goTs) :: (u1.ways.map rwayR ++ R2)))) (by rw [hR2, ← spl_go]; rfl) ?_
      have hsl2 : ((belL x.nA u1.bel m).set j (dd, tt + 1))[j]? = some (dd, tt + 1) := by
        rw [List.getElem?_set_self (by rw [belL_len]; exact hjA)]
      have hgt2 := go_turn hsl2
      dsimp only at hgt2
      repeat (first | refine gG ?_ | refine zN1 (fun hlen => ?_) | refine zN2 (fun hlen => ?_) | refine zAl (fun _ => ?_) | refine zBx (fun _ => ?_) | refine zAp (fun _ => ?_))
      refine ac_draw [1, 1, 1, 1, 1, 1, 1, 1, 1, 1, 1, 1, 1, 1, 1, 1, 1, 1, 2] [0, 1, 2, 3, 4, 5, 6, 7, 8, 9, 10, 11, 12, 13, 14, 15, 16, 17, 18] (by kernel_rfl) (by kernel_rfl) ?_
      refine gW ?_
      apply w_q; (focus exact rfl); (focus exact rfl); focus (intro _; (refine zIxo m hml ?_); exact det_refl)
      apply w_q; (focus exact rfl); (focus exact rfl); focus (intro _; (refine lo_as 18 (zElo1 (rng_at1 (fun i => T.lit (x.sv i)) hml) ⟨_, _, _, _, _, rfl, rfl, ?_⟩)); exact det_refl)
      refine gW ?_
      apply w_q; (focus exact rfl); (focus exact rfl); focus (intro _; (refine zIxo j hjA ?_); exact det_refl)
      refine gW ?_
      apply w_q; (focus exact rfl); (focus exact rfl); focus (intro _; (refine zElo1 hgt2 ?_); exact det_refl)
      refine gW ?_
      apply w_l; (focus exact rfl); (focus exact rfl); (refine lo_frame _ _ perm_sw (fun F' => ?_); refine zCallAll (put_ag x u1 m dd ⟨1, j, 0, 0, 0, dd, tt + 1⟩ (by rw [wayL_eq, hZ1.ways]; dsimp only; omega)) (List.Perm.refl _) ?_; rintro _ _ ⟨v1, rfl⟩; refine ⟨_, re_refl, ?_⟩)
      refine w_nil ?_
      obtain ⟨u3, hu3⟩ : ∃ u3 : Rs, u3 = ⟨u1.at_, upd2 u1.bel (m : Int) (j : Int) (dd, tt + 1), u1.nxt, u1.ear, gput ((m : Int), dd) (v1, wayL ((m : Int), dd) u1.ways ++ [⟨1, j, 0, 0, 0, dd, tt + 1⟩]) u1.ways, u1.wait, u1.got⟩ := ⟨_, rfl⟩
      have hz3 : Rel x u3 (Zk (k + 1)) := by
        rw [hP, hu3]
        exact ⟨hZ1.at_, by dsimp only; rw [hb1, hu.bel], by dsimp only; rw [bare_put, wayL_eq, hZ1.ways]; rfl, hZ1.wait, hZ1.got, hZ1.nxt, hZ1.ear, hZ1.src⟩
      refine x_perm (hp' := rD x bl ms b6 S u3) (by
        rw [hR2, hu3]
        exact perm_sw.symm.trans (rD_su x bl ms b6 S ⟨u1.at_, upd2 u1.bel (m : Int) (j : Int) (dd, tt + 1), u1.nxt, u1.ear, gput ((m : Int), dd) (v1, wayL ((m : Int), dd) u1.ways ++ [⟨1, j, 0, 0, 0, dd, tt + 1⟩]) u1.ways, u1.wait, u1.got⟩ (su_out (x := x) (f := u1.bel) (dd, tt + 1) hml)).symm) ?_
      repeat (first | refine gG ?_ | refine zN1 (fun hlen => ?_) | refine zN2 (fun hlen => ?_) | refine zAl (fun _ => ?_) | refine zBx (fun _ => ?_) | refine zAp (fun _ => ?_))
      exact ⟨(k + 1, u3), ⟨hk', hz3⟩, by dsimp only; omega, x_wk ⟨rfl, trivial⟩ (by dsimp only; rw [hP, ← hsq]) (by repeat (first | exact ag_refl | refine ag_upd rfl ?_ | refine ag_at rfl rfl ?_))⟩
      -- END shift
    -- BEGIN come
    have hno := fun h3 => none_ok (dn := dn) eW hSk.alen h (by rw [hc2, hu.at_] at h2; exact h2) h3 (fun a ha => (hSk.at_ a ha).1)
    rw [← hst] at hno
    clear hc2 h h2 eW
    generalize hsq : (Zk k).seqs = S
    cases d3 : decide (dk = 3)
    · have hz := hno (.inl (of_decide_eq_false d3))
      repeat (first | refine gG ?_ | refine zN1 (fun hlen => ?_) | refine zN2 (fun hlen => ?_) | refine zAl (fun _ => ?_) | refine zBx (fun _ => ?_) | refine zAp (fun _ => ?_))
      exact ⟨(k + 1, u), ⟨hk', by rw [hz]; exact hu⟩, by dsimp only; omega, x_wk ⟨rfl, trivial⟩ (by dsimp only; rw [hz, hsq]) (by repeat (first | exact ag_refl | refine ag_upd rfl ?_ | refine ag_at rfl rfl ?_))⟩
    obtain rfl := of_decide_eq_true d3
    have hgT := mget_T litV (dsr, dd) u.ways
    have hwy : wayG (dsr, dd) (Zk k).ways = wayL (dsr, dd) u.ways := by rw [wayL_eq, hu.ways]
    unfold wayL at hwy
    rw [hwy] at hno
    rcases gcase (dsr, dd) u.ways with ⟨g1, _⟩ | ⟨jj, ⟨v, wl⟩, g1, g2, g3⟩
    · rw [g1] at hgT hno
      have hlk : (mget (dsr, dd) (mapT litV u.ways)).getD (.lit (.slice none 0 0)) = .lit (.slice none 0 0) := by rw [hgT]; rfl
      have hz := hno (.inr rfl)
      repeat (first | refine gG ?_ | refine zN1 (fun hlen => ?_) | refine zN2 (fun hlen => ?_) | refine zAl (fun _ => ?_) | refine zBx (fun _ => ?_) | refine zAp (fun _ => ?_))
      refine zBda ?_
      repeat (first | refine gG ?_ | refine zN1 (fun hlen => ?_) | refine zN2 (fun hlen => ?_) | refine zAl (fun _ => ?_) | refine zBx (fun _ => ?_) | refine zAp (fun _ => ?_))
      refine zLkr 146 keyWay (dsr, dd) hlk ?_
      repeat (first | refine gG ?_ | refine zN1 (fun hlen => ?_) | refine zN2 (fun hlen => ?_) | refine zAl (fun _ => ?_) | refine zBx (fun _ => ?_) | refine zAp (fun _ => ?_))
      exact ⟨(k + 1, u), ⟨hk', by rw [hz]; exact hu⟩, by dsimp only; omega, x_wk ⟨rfl, trivial⟩ (by dsimp only; rw [hz, hsq]) (by repeat (first | exact ag_refl | refine ag_upd rfl ?_ | refine ag_at rfl rfl ?_))⟩
    rw [g1] at hgT hwy
    dsimp only [Option.map_some, Option.getD_some] at hwy
    clear hno
    have hlk : (mget (dsr, dd) (mapT litV u.ways)).getD (.lit (.slice none 0 0)) = .lit v := by rw [hgT]; rfl
    have hjj : jj < u.ways.length := (List.getElem?_eq_some_iff.1 g2).1
    have hrow : ∀ r, (rD x bl ms b6 S u ++ r)[jj + 18]? = some (thR (v, wl)) := fun r => by
      show (rT x u ++ r)[jj]? = _
      rw [rT, List.append_assoc, List.getElem?_append_left (by simpa using hjj), List.getElem?_map, g2]
      rfl
    have hrow0 : (rD x bl ms b6 S u)[jj + 18]? = some (thR (v, wl)) := by simpa using hrow []
    cases wl with
    | nil =>
      have hz : Zk (k + 1) = Zk k := by
        rw [hst]; unfold doZ; dsimp only
        rw [if_neg (by decide), if_neg (by decide), if_pos rfl, hwy]
      repeat (first | refine gG ?_ | refine zN1 (fun hlen => ?_) | refine zN2 (fun hlen => ?_) | refine zAl (fun _ => ?_) | refine zBx (fun _ => ?_) | refine zAp (fun _ => ?_))
      refine zBda ?_
      repeat (first | refine gG ?_ | refine zN1 (fun hlen => ?_) | refine zN2 (fun hlen => ?_) | refine zAl (fun _ => ?_) | refine zBx (fun _ => ?_) | refine zAp (fun _ => ?_))
      refine lo_as (jj + 18) (zLkr 146 keyWay (dsr, dd) hlk ⟨_, _, _, _, _, rfl, hrow0, ?_⟩)
      repeat (first | refine gG ?_ | refine zN1 (fun hlen => ?_) | refine zN2 (fun hlen => ?_) | refine zAl (fun _ => ?_) | refine zBx (fun _ => ?_) | refine zAp (fun _ => ?_))
      refine lo_len_own tok rfl hrow0 rfl rfl (fun _ => ?_)
      repeat (first | refine gG ?_ | refine zN1 (fun hlen => ?_) | refine zN2 (fun hlen => ?_) | refine zAl (fun _ => ?_) | refine zBx (fun _ => ?_) | refine zAp (fun _ => ?_))
      exact ⟨(k + 1, u), ⟨hk', by rw [hz]; exact hu⟩, by dsimp only; omega, x_wk ⟨rfl, trivial⟩ (by dsimp only; rw [hz, hsq]) (by repeat (first | exact ag_refl | refine ag_upd rfl ?_ | refine ag_at rfl rfl ?_))⟩
    | cons e wl =>
      obtain ⟨hNs, hNd, hel, hZ1⟩ := way_ok (show ZOk x.nA x.nd k k (802 * k) (401 * k) (65000000 * k) (Zk k) from hSk) hwy
      dsimp only at hNs hNd
      have hP : Zk (k + 1) = comeZ dd e { Zk k with ways := gput (dsr, dd) wl (Zk k).ways } := by
        rw [hst]; unfold doZ; dsimp only
        rw [if_neg (by decide), if_neg (by decide), if_pos rfl, hwy]
      have hsq2 : (Zk (k + 1)).seqs = S := by rw [hP, comeZ_sq]; exact hsq
      have hpt : ∀ v', mput (dsr, dd) (.lit v') (mapT litV u.ways) = mapT litV (u.ways.set jj ((dsr, dd), (v', wl))) := fun v' => by
        have := mput_T litV (dsr, dd) (v', wl) u.ways
        rw [g3] at this
        exact this
      have hz1 : ∀ v', Rel x ⟨u.at_, u.bel, u.nxt, u.ear, u.ways.set jj ((dsr, dd), (v', wl)), u.wait, u.got⟩ { Zk k with ways := gput (dsr, dd) wl (Zk k).ways } := fun v' => by
        refine ⟨hu.at_, hu.bel, ?_, hu.wait, hu.got, hu.nxt, hu.ear, hu.src⟩
        dsimp only
        rw [← g3 (v', wl), bare_put, hu.ways]
      have hset : ∀ v', rT x u = rT x u → (rT x u).set jj (.row v' 145 7 ((e :: wl).length - 1) (((e :: wl).flatMap thTs).drop (1 * 7))) = rT x ⟨u.at_, u.bel, u.nxt, u.ear, u.ways.set jj ((dsr, dd), (v', wl)), u.wait, u.got⟩ := fun v' _ => by
        rw [th_drop, rT, List.set_append_left _ _ (by simpa using hjj)]
        have := rway_set (dsr, dd) v' wl u.ways jj
        rw [thR] at this
        rw [rT, ← this]
        rfl
      have dl : decide ((((e :: wl).length : Nat) : Int) > 0) = true := decide_eq_true (by rw [List.length_cons]; omega)
      repeat (first | refine gG ?_ | refine zN1 (fun hlen => ?_) | refine zN2 (fun hlen => ?_) | refine zAl (fun _ => ?_) | refine zBx (fun _ => ?_) | refine zAp (fun _ => ?_))
      refine zBda ?_
      repeat (first | refine gG ?_ | refine zN1 (fun hlen => ?_) | refine zN2 (fun hlen => ?_) | refine zAl (fun _ => ?_) | refine zBx (fun _ => ?_) | refine zAp (fun _ => ?_))
      refine lo_as (jj + 18) (zLkr 146 keyWay (dsr, dd) hlk ⟨_, _, _, _, _, rfl, hrow0, ?_⟩)
      repeat (first | refine gG ?_ | refine zN1 (fun hlen => ?_) | refine zN2 (fun hlen => ?_) | refine zAl (fun _ => ?_) | refine zBx (fun _ => ?_) | refine zAp (fun _ => ?_))
      refine lo_len_own tok rfl hrow0 rfl rfl (fun _ => ?_)
      repeat (first | refine gG ?_ | refine zN1 (fun hlen => ?_) | refine zN2 (fun hlen => ?_) | refine zAl (fun _ => ?_) | refine zBx (fun _ => ?_) | refine zAp (fun _ => ?_))
      refine zBda ?_
      repeat (first | refine gG ?_ | refine zN1 (fun hlen => ?_) | refine zN2 (fun hlen => ?_) | refine zAl (fun _ => ?_) | refine zBx (fun _ => ?_) | refine zAp (fun _ => ?_))
      refine zAlE (fun _ => ?_)
      repeat (first | refine gG ?_ | refine zN1 (fun hlen => ?_) | refine zN2 (fun hlen => ?_) | refine zAl (fun _ => ?_) | refine zBx (fun _ => ?_) | refine zAp (fun _ => ?_))
      refine zStE rfl ?_
      repeat (first | refine gO ?_ | refine ac_seq ?_ | refine ac_block ?_)
      refine x_frz0 31 [iL dsr, iL dd] ?_
      repeat (first | refine gG ?_ | refine zN1 (fun hlen => ?_) | refine zN2 (fun hlen => ?_) | refine zAl (fun _ => ?_) | refine zBx (fun _ => ?_) | refine zAp (fun _ => ?_))
      refine lo_as (jj + 18) (zLkr 146 keyWay (dsr, dd) hlk ⟨_, _, _, _, _, rfl, hrow0, ?_⟩)
      repeat (first | refine gG ?_ | refine zN1 (fun hlen => ?_) | refine zN2 (fun hlen => ?_) | refine zAl (fun _ => ?_) | refine zBx (fun _ => ?_) | refine zAp (fun _ => ?_))
      refine zIxo 0 (Nat.succ_pos _) ?_ tok rfl hrow0
      repeat (first | refine gG ?_ | refine zN1 (fun hlen => ?_) | refine zN2 (fun hlen => ?_) | refine zAl (fun _ => ?_) | refine zBx (fun _ => ?_) | refine zAp (fun _ => ?_))
      refine zElo (ts := thTs e) rfl rfl ?_ tok rfl hrow0
      repeat (first | refine gG ?_ | refine zN1 (fun hlen => ?_) | refine zN2 (fun hlen => ?_) | refine zAl (fun _ => ?_) | refine zBx (fun _ => ?_) | refine zAp (fun _ => ?_))
      refine zAlE (fun _ => ?_)
      repeat (first | refine gG ?_ | refine zN1 (fun hlen => ?_) | refine zN2 (fun hlen => ?_) | refine zAl (fun _ => ?_) | refine zBx (fun _ => ?_) | refine zAp (fun _ => ?_))
      refine zStE rfl ?_
      repeat (first | refine gO ?_ | refine ac_seq ?_ | refine ac_block ?_)
      refine x_frz0 32 (thTs e) ?_
      repeat (first | refine gG ?_ | refine zN1 (fun hlen => ?_) | refine zN2 (fun hlen => ?_) | refine zAl (fun _ => ?_) | refine zBx (fun _ => ?_) | refine zAp (fun _ => ?_))
      refine x_join [292, 293, 294, 295, 296, 297] (fun _ : Value => []) (fun v' => rD x bl ms b6 S ⟨u.at_, u.bel, u.nxt, u.ear, u.ways.set jj ((dsr, dd), (v', wl)), u.wait, u.got⟩) (fun v' => ?_) ?_
      rotate_left
      · skip
        refine ac_drawT [3, 0, 1, 0, 1, 2, 2] (.fork [1, 2, 3, 4] 0 (.fin [5, 6]) 5 (.fin [0, 6])) (by kernel_rfl) (by kernel_rfl) ?_
        refine wt_fork ?_
        refine gW ?_
        apply w_q; (focus exact rfl); (focus exact rfl); focus (intro _; (refine lo_as (jj + 18) (zLkr 146 keyWay (dsr, dd) hlk ⟨_, _, _, _, _, rfl, hrow _, ?_⟩)); exact det_refl)
        refine w_nil ?_
        refine ⟨?_, ?_⟩
        · apply w_a; (focus exact rfl); (focus exact rfl); refine zL1 ⟨⟨[], (List.append_nil _).symm⟩, ?_⟩
          refine w_nil ?_
          refine wt_fin ?_
          apply w_l; (focus exact rfl); (focus exact rfl); (refine lo_own_lo tok 1 (Nat.succ_pos _) rfl hrow0 rfl rfl rfl rfl rfl rfl (fun v' => ?_))
          apply w_l; (focus exact rfl); (focus exact rfl); (refine zUprS 146 keyWay (dsr, dd) (hpt _) ?_)
          refine w_nil ?_
          rename_i v'
          exact ⟨v', x_wk trivial (congrArg (fun r => rH x ⟨u.at_, u.bel, u.nxt, u.ear, u.ways.set jj ((dsr, dd), (v', wl)), u.wait, u.got⟩ ++ (exB x bl ms b6 S ++ r)) (hset v' rfl)) (by repeat (first | exact ag_refl | refine ag_upd rfl ?_ | refine ag_at rfl rfl ?_))⟩
                  
        · apply w_l; (focus exact rfl); (focus exact rfl); (refine lo_own_lo tok 1 (Nat.succ_pos _) rfl hrow0 rfl rfl rfl rfl rfl rfl (fun v' => ?_))
          refine w_nil ?_
          refine wt_fin ?_
          apply w_a; (focus exact rfl); (focus exact rfl); refine zL1 ⟨⟨[], (List.append_nil _).symm⟩, ?_⟩
          apply w_l; (focus exact rfl); (focus exact rfl); (refine zUprS 146 keyWay (dsr, dd) (hpt _) ?_)
          refine w_nil ?_
          rename_i v'
          exact ⟨v', x_wk trivial (congrArg (fun r => rH x ⟨u.at_, u.bel, u.nxt, u.ear, u.ways.set jj ((dsr, dd), (v', wl)), u.wait, u.got⟩ ++ (exB x bl ms b6 S ++ r)) (hset v' rfl)) (by repeat (first | exact ag_refl | refine ag_upd rfl ?_ | refine ag_at rfl rfl ?_))⟩
                  
      have hu1 := hz1 v'
      generalize Rs.mk u.at_ u.bel u.nxt u.ear (u.ways.set jj ((dsr, dd), (v', wl))) u.wait u.got = u1 at hu1 ⊢
      clear hset hz1 hpt hrow hrow0 hgT hlk hwy g1 g2 g3 hu hsq hst
      have hsZ : ({ Zk k with ways := gput (dsr, dd) wl (Zk k).ways } : Zt).seqs = (Zk k).seqs := rfl
      generalize ({ Zk k with ways := gput (dsr, dd) wl (Zk k).ways } : Zt) = Z1 at hu1 hP hZ1
      obtain ⟨m, rfl⟩ : ∃ m : Nat, dd = (m : Int) := ⟨dd.toNat, (isN_lt hNd).2.symm⟩
      have hml : m < x.nd + 1 := (isN_lt hNd).1
      obtain ⟨yk, yw, ys, yq, yn, yo, yt⟩ := e
      have hwho := hel.who
      dsimp only at hwho
      obtain ⟨j, rfl⟩ : ∃ j : Nat, yw = (j : Int) := ⟨yw.toNat, (isW_lt hwho).2.symm⟩
      have hjA : j < x.nA := (isW_lt hwho).1
      have hal1 : u1.at_.length = x.nA := by rw [hu1.at_]; exact hZ1.alen
      have hjl : j < u1.at_.length := by rw [hal1]; exact hjA
      rw [comeZ_eq] at hP
      cases k0 : decide (yk + 1 = 1)
      rotate_left
      · have e0 : yk = 0 := by have := of_decide_eq_true k0; omega
        rw [if_pos e0] at hP
        repeat (first | refine gG ?_ | refine zN1 (fun hlen => ?_) | refine zN2 (fun hlen => ?_) | refine zAl (fun _ => ?_) | refine zBx (fun _ => ?_) | refine zAp (fun _ => ?_))
        refine lo_frame _ _ (rD_rB x bl ms b6 S u1) (fun F' => ?_)
        refine zCallAll (letter_ag x u1 _ hu1 m ⟨yk, j, ys, yq, yn, yo, yt⟩ hZ1 (by omega) (by omega) (by omega) (by omega) hNd hel e0) (List.Perm.refl _) ?_
        rintro _ _ ⟨w', hz', hq'⟩
        refine ⟨_, re_refl, ?_⟩
        refine al_wk (wk_perm ((hq'.append_right _).trans (rD_rB x bl ms b6 S w').symm)) ?_
        repeat (first | refine gG ?_ | refine zN1 (fun hlen => ?_) | refine zN2 (fun hlen => ?_) | refine zAl (fun _ => ?_) | refine zBx (fun _ => ?_) | refine zAp (fun _ => ?_))
        exact ⟨(k + 1, w'), ⟨hk', by rw [hP]; exact hz'⟩, by dsimp only; omega, x_wk ⟨rfl, trivial⟩ (by dsimp only; rw [hsq2]) (by repeat (first | exact ag_refl | refine ag_upd rfl ?_ | refine ag_at rfl rfl ?_))⟩
      have e0 : yk ≠ 0 := by have := of_decide_eq_false k0; omega
      rw [if_neg e0] at hP
      repeat (first | refine gG ?_ | refine zN1 (fun hlen => ?_) | refine zN2 (fun hlen => ?_) | refine zAl (fun _ => ?_) | refine zBx (fun _ => ?_) | refine zAp (fun _ => ?_))
      have e1 : decide (yk + 1 = 2) = decide (yk = 1) := by rw [Bool.eq_iff_iff, decide_eq_true_iff, decide_eq_true_iff]; omega
      refine then_n ?_
      refine x_join [309, 310, 311, 312, 313, 314] (fun _ : Unit => []) (fun _ => rD x bl ms b6 S (Rc m j (decide (yk = 1)) false (yo, yt) u1)) (fun _ => ?_) ?_
      rotate_left
      · cases d1 : decide (yk = 1)
        · rw [d1] at e1
          repeat (first | refine gG ?_ | refine zN1 (fun hlen => ?_) | refine zN2 (fun hlen => ?_) | refine zAl (fun _ => ?_) | refine zBx (fun _ => ?_) | refine zAp (fun _ => ?_))
          exact ⟨(), x_wk trivial rfl (by repeat (first | exact ag_refl | refine ag_upd rfl ?_ | refine ag_at rfl rfl ?_))⟩
        · rw [d1] at e1
          repeat (first | refine gG ?_ | refine zN1 (fun hlen => ?_) | refine zN2 (fun hlen => ?_) | refine zAl (fun _ => ?_) | refine zBx (fun _ => ?_) | refine zAp (fun _ => ?_))
          refine zIxo j hjl ?_
          repeat (first | refine gO ?_)
          refine zSei (show j * 1 + 1 ≤ (u1.at_.flatMap intTs).length by rw [ints_len]; omega) ?_
          repeat (first | refine gO ?_ | refine ac_seq ?_ | refine ac_block ?_)
          exact ⟨(), x_wk trivial (at_storeR x bl ms b6 S u1 j (m : Int)) (by repeat (first | exact ag_refl | refine ag_upd rfl ?_ | refine ag_at rfl rfl ?_))⟩
      have hz2 := Rc_rel m j (decide (yk = 1)) false (yo, yt) hu1
      have hbe : (Rc m j (decide (yk = 1)) false (yo, yt) u1).bel = u1.bel := rfl
      have hbz : (u1.bel (m : Int) (j : Int)).2 = (Z1.bel (m : Int) (j : Int)).2 := by rw [hu1.bel]
      have hR3 : ∀ tu, Rc m j (decide (yk = 1)) tu (yo, yt) u1 = ⟨(Rc m j (decide (yk = 1)) false (yo, yt) u1).at_, cond tu (upd2 u1.bel (m : Int) (j : Int) (yo, yt)) u1.bel, u1.nxt, u1.ear, u1.ways, u1.wait, u1.got⟩ := fun _ => rfl
      have hsl := belL_at (n := x.nA) u1.bel m hjA
      have hgt := go_turn hsl
      have hrow := fam_out (f := suR x u1.bel) (rng_get hml)
      generalize hu2 : Rc m j (decide (yk = 1)) false (yo, yt) u1 = u2 at *
      rw [← hbe] at hrow
      refine x_perm (rD_su x bl ms b6 S u2 hrow) ?_
      rw [← hbe] at hgt
      repeat (first | refine gG ?_ | refine zN1 (fun hlen => ?_) | refine zN2 (fun hlen => ?_) | refine zAl (fun _ => ?_) | refine zBx (fun _ => ?_) | refine zAp (fun _ => ?_))
      refine ac_draw [1, 1, 1, 1, 1, 1, 1, 1, 1, 1, 1, 1, 1, 1] [0, 1, 2, 3, 4, 5, 6, 7, 8, 9, 10, 11, 12, 13] (by kernel_rfl) (by kernel_rfl) ?_
      refine gW ?_
      apply w_q; (focus exact rfl); (focus exact rfl); focus (intro _; (refine zIxo m hml ?_); exact det_refl)
      apply w_q; (focus exact rfl); (focus exact rfl); focus (intro _; (refine lo_as 18 (zElo1 (rng_at1 (fun i => T.lit (x.sv i)) hml) ⟨_, _, _, _, _, rfl, rfl, ?_⟩)); exact det_refl)
      refine gW ?_
      apply w_q; (focus exact rfl); (focus exact rfl); focus (intro _; (refine zIxo j hjA ?_); exact det_refl)
      refine gW ?_
      apply w_q; (focus exact rfl); (focus exact rfl); focus (intro _; (refine zElo1 hgt ?_); exact det_refl)
      refine gW ?_
      refine w_nil ?_
      refine then_n (ac_seq ?_)
      refine x_join [328, 329, 330, 331, 332, 333, 334, 335, 336, 337, 338, 339, 340, 341] (fun _ : Unit => []) (fun _ => rD x bl ms b6 S (Rc m j (decide (yk = 1)) (decide ((u1.bel (m : Int) (j : Int)).2 < yt)) (yo, yt) u1)) (fun _ => ?_) ?_
      rotate_left
      · cases d2 : decide ((u1.bel (m : Int) (j : Int)).2 < yt)
        · have d2b : decide ((u2.bel (m : Int) (j : Int)).2 < yt) = false := by rw [hbe]; exact d2
          repeat (first | refine gG ?_ | refine zN1 (fun hlen => ?_) | refine zN2 (fun hlen => ?_) | refine zAl (fun _ => ?_) | refine zBx (fun _ => ?_) | refine zAp (fun _ => ?_))
          exact ⟨(), Wk.trans (wk_perm (rD_su x bl ms b6 S u2 hrow).symm) (x_wk trivial (by rw [hu2]) (by repeat (first | exact ag_refl | refine ag_upd rfl ?_ | refine ag_at rfl rfl ?_)))⟩
        · have d2b : decide ((u2.bel (m : Int) (j : Int)).2 < yt) = true := by rw [hbe]; exact d2
          repeat (first | refine gG ?_ | refine zN1 (fun hlen => ?_) | refine zN2 (fun hlen => ?_) | refine zAl (fun _ => ?_) | refine zBx (fun _ => ?_) | refine zAp (fun _ => ?_))
          refine ac_draw [1, 1, 1, 1, 1, 1, 1, 1, 1, 1, 1, 1, 1, 2] [0, 1, 2, 3, 4, 5, 6, 7, 8, 9, 10, 11, 12, 13] (by kernel_rfl) (by kernel_rfl) ?_
          refine gW ?_
          apply w_q; (focus exact rfl); (focus exact rfl); focus (intro _; (refine zIxo m hml ?_); exact det_refl)
          apply w_q; (focus exact rfl); (focus exact rfl); focus (intro _; (refine lo_as 18 (zElo1 (rng_at1 (fun i => T.lit (x.sv i)) hml) ⟨_, _, _, _, _, rfl, rfl, ?_⟩)); exact det_refl)
          refine gW ?_
          apply w_q; (focus exact rfl); (focus exact rfl); focus (intro _; (refine zIxo j hjA ?_); exact det_refl)
          apply w_l; (focus exact rfl); (focus exact rfl); (refine zSe2 yo yt (show j * 2 + 2 ≤ ((belL x.nA u2.bel m).flatMap goTs).length by rw [gos_len, belL_len]; omega) ?_)
          refine w_nil ?_
          have hso := su_out (x := x) (f := u2.bel) (i := m) (j := j) (yo, yt) hml
          rw [← spl_go] at hso
          exact ⟨(), Wk.trans (wk_perm ((List.Perm.of_eq rfl).trans (rD_su x bl ms b6 S ⟨u2.at_, upd2 u2.bel (m : Int) (j : Int) (yo, yt), u2.nxt, u2.ear, u2.ways, u2.wait, u2.got⟩ hso).symm)) (x_wk trivial (by rw [← hu2]; rfl) (by repeat (first | exact ag_refl | refine ag_upd rfl ?_ | refine ag_at rfl rfl ?_)))⟩
      clear hrow hgt hsl hR3 hz2 hu2
      have hz3 := Rc_rel m j (decide (yk = 1)) (decide ((u1.bel (m : Int) (j : Int)).2 < yt)) (yo, yt) hu1
      have hZ3 := Zc_ok m j (decide (yk = 1)) (decide ((u1.bel (m : Int) (j : Int)).2 < yt)) (yo, yt) hZ1 hNd (hel.node e0) hel.turn
      rw [← hbz] at hP
      generalize Rc m j (decide (yk = 1)) (decide ((u1.bel (m : Int) (j : Int)).2 < yt)) (yo, yt) u1 = u3 at hz3 ⊢
      cases d2 : decide ((u1.bel (m : Int) (j : Int)).2 < yt)
      · rw [d2] at hP hz3 hZ3
        have d2b : decide ((u2.bel (m : Int) (j : Int)).2 < yt) = false := by rw [hbe]; exact d2
        cases d1 : decide (yk = 1)
        · rw [d1] at hP hz3 hZ3 e1
          repeat (first | refine gG ?_ | refine zN1 (fun hlen => ?_) | refine zN2 (fun hlen => ?_) | refine zAl (fun _ => ?_) | refine zBx (fun _ => ?_) | refine zAp (fun _ => ?_))
          exact ⟨(k + 1, u3), ⟨hk', by rw [hP]; exact hz3⟩, by dsimp only; omega, x_wk ⟨rfl, trivial⟩ (by dsimp only; rw [hsq2]) (by repeat (first | exact ag_refl | refine ag_upd rfl ?_ | refine ag_at rfl rfl ?_))⟩
        · rw [d1] at hP hz3 hZ3 e1
          repeat (first | refine gG ?_ | refine zN1 (fun hlen => ?_) | refine zN2 (fun hlen => ?_) | refine zAl (fun _ => ?_) | refine zBx (fun _ => ?_) | refine zAp (fun _ => ?_))
          refine lo_frame _ _ (rD_rA x bl ms b6 S u3) (fun F' => ?_)
          refine zCallAll (again_ag x bl u3 _ hz3 m hZ3 (by omega) (by omega) (by omega) (by omega) hNd) (List.Perm.refl _) ?_
          rintro _ _ ⟨w', hz', hq'⟩
          refine ⟨_, re_refl, ?_⟩
          refine al_wk (wk_perm ((hq'.append_right _).trans (rD_rA x bl ms b6 S w').symm)) ?_
          repeat (first | refine gG ?_ | refine zN1 (fun hlen => ?_) | refine zN2 (fun hlen => ?_) | refine zAl (fun _ => ?_) | refine zBx (fun _ => ?_) | refine zAp (fun _ => ?_))
          exact ⟨(k + 1, w'), ⟨hk', by rw [hP]; exact hz'⟩, by dsimp only; omega, x_wk ⟨rfl, trivial⟩ (by dsimp only; rw [hsq2]) (by repeat (first | exact ag_refl | refine ag_upd rfl ?_ | refine ag_at rfl rfl ?_))⟩
      · rw [d2, Bool.or_true, if_pos rfl] at hP
        rw [d2] at hz3 hZ3
        have d2b : decide ((u2.bel (m : Int) (j : Int)).2 < yt) = true := by rw [hbe]; exact d2
        repeat (first | refine gG ?_ | refine zN1 (fun hlen => ?_) | refine zN2 (fun hlen => ?_) | refine zAl (fun _ => ?_) | refine zBx (fun _ => ?_) | refine zAp (fun _ => ?_))
        refine lo_frame _ _ (rD_rA x bl ms b6 S u3) (fun F' => ?_)
        refine zCallAll (again_ag x bl u3 _ hz3 m hZ3 (by omega) (by omega) (by omega) (by omega) hNd) (List.Perm.refl _) ?_
        rintro _ _ ⟨w', hz', hq'⟩
        refine ⟨_, re_refl, ?_⟩
        refine al_wk (wk_perm ((hq'.append_right _).trans (rD_rA x bl ms b6 S w').symm)) ?_
        repeat (first | refine gG ?_ | refine zN1 (fun hlen => ?_) | refine zN2 (fun hlen => ?_) | refine zAl (fun _ => ?_) | refine zBx (fun _ => ?_) | refine zAp (fun _ => ?_))
        exact ⟨(k + 1, w'), ⟨hk', by rw [hP]; exact hz'⟩, by dsimp only; omega, x_wk ⟨rfl, trivial⟩ (by dsimp only; rw [hsq2]) (by repeat (first | exact ag_refl | refine ag_upd rfl ?_ | refine ag_at rfl rfl ?_))⟩
    -- END come
  -- BEGIN fin
  have hk2 : k = ds.length := by have : ¬ k < ds.length := by simpa using h
                                 omega
  subst hk2
  clear h hst
  have hSe := hS ds.length (Nat.le_refl _)
  clear hS hZ0
  generalize Zk ds.length = Z at hu hSe ⊢
  have hwl : u.wait.length = x.nd + 1 := by have := hSe.wlen; rw [← hu.wait, List.length_map] at this; exact this
  have hgl : u.got.length = x.nA := by have := hSe.glen; rw [← hu.got, List.length_map] at this; exact this
  have hwn : sumL (u.wait.map (·.2)) ≤ ds.length := by rw [hu.wait]; exact hSe.waitn
  have hwy : sumW (bare u.ways) ≤ 802 * ds.length := by rw [hu.ways]; exact hSe.waysn
  repeat (first | refine gG ?_ | refine zN1 (fun hlen => ?_) | refine zN2 (fun hlen => ?_) | refine zAl (fun _ => ?_) | refine zBx (fun _ => ?_) | refine zAp (fun _ => ?_))
  refine zAlE (fun bo => ?_)
  repeat (first | refine gG ?_ | refine zN1 (fun hlen => ?_) | refine zN2 (fun hlen => ?_) | refine zAl (fun _ => ?_) | refine zBx (fun _ => ?_) | refine zAp (fun _ => ?_))
  refine zStE rfl ?_
  repeat (first | refine gO ?_ | refine ac_seq ?_ | refine ac_block ?_)
  obtain ⟨TT, hT⟩ : ∃ TT : List Blk, TT = exB x bl ms b6 Z.seqs ++ rT x u := ⟨_, rfl⟩
  refine x_perm (hp' := rH x u ++ (obR bo x 0 0 :: TT)) (by subst hT; exact List.perm_middle.symm) ?_
  refine x_reptr 34 15 rfl ?_
  repeat (first | refine gG ?_ | refine zN1 (fun hlen => ?_) | refine zN2 (fun hlen => ?_) | refine zAl (fun _ => ?_) | refine zBx (fun _ => ?_) | refine zAp (fun _ => ?_))
  refine x_loop [36, 358, 359, 360, 361, 362, 363, 364, 365, 366, 367, 368] (fun k : Nat => [(358, .c (iL (k : Nat)))]) (fun k => rH x u ++ (obR bo x 0 (sumL ((u.wait.take k).map (·.2))) :: TT)) (fun k => k ≤ u.wait.length) (fun k => u.wait.length - k) 0 (Nat.zero_le _) ⟨rfl, trivial⟩ rfl ?_
  intro k hk
  repeat (first | refine gG ?_ | refine zN1 (fun hlen => ?_) | refine zN2 (fun hlen => ?_) | refine zAl (fun _ => ?_) | refine zBx (fun _ => ?_) | refine zAp (fun _ => ?_))
  refine x_cond rfl (fun h => ?_) (fun h => ?_)
  · have hk' : k < u.wait.length := by simpa using h
    obtain ⟨⟨pv, pl⟩, hp⟩ := nth hk'
    have hrow : (rH x u ++ (obR bo x 0 (sumL ((u.wait.take k).map (·.2))) :: TT))[u.ways.length + k + 19]? = some (thR (pv, pl)) := by
      show TT[u.ways.length + k + 3]? = _
      rw [hT]
      show (rT x u)[u.ways.length + k]? = _
      rw [rT, List.getElem?_append_right (by simp), List.getElem?_append_left (by simpa using hk'), List.length_map, Nat.add_sub_cancel_left, List.getElem?_map, hp]
      rfl
    have hsn : sumL ((u.wait.take (k + 1)).map (·.2)) = sumL ((u.wait.take k).map (·.2)) + pl.length := by
      obtain ⟨h1, h2⟩ := List.getElem?_eq_some_iff.1 hp
      rw [List.take_succ_eq_append_getElem h1, h2]
      simp [sumL]
    have hle : sumL ((u.wait.take (k + 1)).map (·.2)) ≤ sumL (u.wait.map (·.2)) := by
      have := sum_take_le ((u.wait.map (·.2)).map List.length) (k + 1)
      unfold sumL
      rw [List.map_take, List.map_take]
      exact this
    rw [hsn] at hle
    clear h
    repeat (first | refine gG ?_ | refine zN1 (fun hlen => ?_) | refine zN2 (fun hlen => ?_) | refine zAl (fun _ => ?_) | refine zBx (fun _ => ?_) | refine zAp (fun _ => ?_))
    refine zIxo k hk' ?_
    repeat (first | refine gG ?_ | refine zN1 (fun hlen => ?_) | refine zN2 (fun hlen => ?_) | refine zAl (fun _ => ?_) | refine zBx (fun _ => ?_) | refine zAp (fun _ => ?_))
    refine zElo1 (litL_at hp) ?_
    repeat (first | refine gG ?_ | refine zN1 (fun hlen => ?_) | refine zN2 (fun hlen => ?_) | refine zAl (fun _ => ?_) | refine zBx (fun _ => ?_) | refine zAp (fun _ => ?_))
    refine zLenL (u.ways.length + k + 19) hrow (fun _ => ?_)
    repeat (first | refine gG ?_ | refine zN1 (fun hlen => ?_) | refine zN2 (fun hlen => ?_) | refine zAl (fun _ => ?_) | refine zBx (fun _ => ?_) | refine zAp (fun _ => ?_))
    refine lo_add rfl rfl (r := ((sumL ((u.wait.take k).map (·.2)) + pl.length : Nat) : Int)) (by show IntKind.wrap .i64 ((sumL ((u.wait.take k).map (·.2)) : Int) + (pl.length : Int)) = _; rw [IntWalk.i64_in _ (by omega)]; omega) ?_
    repeat (first | refine gO ?_ | refine zF1 ?_)
    refine zStS ?_
    repeat (first | refine gG ?_ | refine zN1 (fun hlen => ?_) | refine zN2 (fun hlen => ?_) | refine zAl (fun _ => ?_) | refine zBx (fun _ => ?_) | refine zAp (fun _ => ?_))
    exact ⟨k + 1, hk', by omega, x_wk ⟨rfl, trivial⟩ (by rw [hsn]; rfl) (by repeat (first | exact ag_refl | refine ag_upd rfl ?_ | refine ag_at rfl rfl ?_))⟩
  have hk3 : k = u.wait.length := by have : ¬ k < u.wait.length := by simpa using h
                                     omega
  subst hk3
  clear h hk
  rw [List.take_length]
  generalize hsw : sumL (u.wait.map (·.2)) = sw at *
  have hE : ∀ j, (u.ear j).length ≤ 1283200 := fun j => by
    rw [ear_len hu]
    have h1 := rng_le (f := fun i => (Z.sto ((i + 1 : Nat) : Int) (j : Int)).length) (c := 160400) (fun i => Nat.le_trans (hSe.sto _ _) (by omega)) x.nd
    have h2 : x.nd * 160400 ≤ 8 * 160400 := Nat.mul_le_mul_right _ h8
    omega
  have hsE : ∀ k, sumE u.ear k ≤ k * 1283200 := fun k => rng_le hE k
  repeat (first | refine gG ?_ | refine zN1 (fun hlen => ?_) | refine zN2 (fun hlen => ?_) | refine zAl (fun _ => ?_) | refine zBx (fun _ => ?_) | refine zAp (fun _ => ?_))
  refine x_loop [38, 371, 372, 373, 374, 375, 376, 377, 378, 379, 380, 381] (fun k : Nat => [(371, .c (iL (k : Nat)))]) (fun k => rH x u ++ (obR bo x 0 (sw + sumE u.ear k) :: TT)) (fun k => k ≤ x.nA) (fun k => x.nA - k) 0 (Nat.zero_le _) ⟨rfl, trivial⟩ rfl ?_
  intro k hk
  repeat (first | refine gG ?_ | refine zN1 (fun hlen => ?_) | refine zN2 (fun hlen => ?_) | refine zAl (fun _ => ?_) | refine zBx (fun _ => ?_) | refine zAp (fun _ => ?_))
  refine x_cond rfl (fun h => ?_) (fun h => ?_)
  · have hk' : k < x.nA := by simpa using h
    have hrow : (rH x u ++ (obR bo x 0 (sw + sumE u.ear k) :: TT))[u.ways.length + (u.wait.length + (u.got.length + (x.nA + k))) + 19]? = some (eaR x u.ear k) := by
      show TT[u.ways.length + (u.wait.length + (u.got.length + (x.nA + k))) + 3]? = _
      rw [hT]
      show (rT x u)[u.ways.length + (u.wait.length + (u.got.length + (x.nA + k)))]? = _
      rw [rT, List.getElem?_append_right (by simp), List.length_map, Nat.add_sub_cancel_left, List.getElem?_append_right (by simp), List.length_map, Nat.add_sub_cancel_left, List.getElem?_append_right (by simp), List.length_map, Nat.add_sub_cancel_left, List.getElem?_append_right (by simp), List.length_map, List.length_range, Nat.add_sub_cancel_left, List.getElem?_append_left (by simpa using hk'), rng_at _ hk']
    have hle := hsE (k + 1)
    rw [sumE_succ] at hle
    clear h
    repeat (first | refine gG ?_ | refine zN1 (fun hlen => ?_) | refine zN2 (fun hlen => ?_) | refine zAl (fun _ => ?_) | refine zBx (fun _ => ?_) | refine zAp (fun _ => ?_))
    refine zIxo k hk' ?_
    repeat (first | refine gG ?_ | refine zN1 (fun hlen => ?_) | refine zN2 (fun hlen => ?_) | refine zAl (fun _ => ?_) | refine zBx (fun _ => ?_) | refine zAp (fun _ => ?_))
    refine lo_asm (u.ways.length + (u.wait.length + (u.got.length + (x.nA + k))) + 19) (zElo1 (rng_at1 (fun j => T.lit (.map (some (x.me j)))) hk') ⟨_, rfl, ?_⟩)
    repeat (first | refine gG ?_ | refine zN1 (fun hlen => ?_) | refine zN2 (fun hlen => ?_) | refine zAl (fun _ => ?_) | refine zBx (fun _ => ?_) | refine zAp (fun _ => ?_))
    refine lo_mapLen (isMap_eq (kT := 128) (eT := 3) (by kernel_rfl)) rfl hrow ?_
    repeat (first | refine gG ?_ | refine zN1 (fun hlen => ?_) | refine zN2 (fun hlen => ?_) | refine zAl (fun _ => ?_) | refine zBx (fun _ => ?_) | refine zAp (fun _ => ?_))
    refine lo_add rfl rfl (r := ((sw + sumE u.ear k + (u.ear k).length : Nat) : Int)) (by show IntKind.wrap .i64 (((sw + sumE u.ear k : Nat) : Int) + ((mapT iL (u.ear k)).length : Int)) = _; rw [mapT_len, IntWalk.i64_in _ (by omega)]; omega) ?_
    repeat (first | refine gO ?_ | refine zF1 ?_)
    refine zStS ?_
    repeat (first | refine gG ?_ | refine zN1 (fun hlen => ?_) | refine zN2 (fun hlen => ?_) | refine zAl (fun _ => ?_) | refine zBx (fun _ => ?_) | refine zAp (fun _ => ?_))
    exact ⟨k + 1, hk', by omega, x_wk ⟨rfl, trivial⟩ (by rw [sumE_succ, ← Nat.add_assoc]; rfl) (by repeat (first | exact ag_refl | refine ag_upd rfl ?_ | refine ag_at rfl rfl ?_))⟩
  have hk4 : k = x.nA := by have : ¬ k < x.nA := by simpa using h
                            omega
  subst hk4
  clear h hk
  rw [ear_sum hu]
  repeat (first | refine gG ?_ | refine zN1 (fun hlen => ?_) | refine zN2 (fun hlen => ?_) | refine zAl (fun _ => ?_) | refine zBx (fun _ => ?_) | refine zAp (fun _ => ?_))
  generalize hse : sumS x.nA x.nd Z.sto = se at *
  refine lo_hint 16 (zRgS 128 146 (fun b' st c hsl => ⟨_, b', 0, rfl, ?_⟩))
  repeat (first | refine gO ?_ | refine ac_seq ?_ | refine ac_block ?_)
  refine x_perm (List.Perm.append_left (rI x u (some (st, c)) ++ [obR bo x 0 (sw + se)]) (List.perm_append_comm (l₁ := TT) (l₂ := [.it b' x.my st c []]))) ?_
  refine x_loop [40, 384, 385, 386, 387, 388, 389, 390, 391, 392, 393] (fun _ : List Nat => []) (fun P => rI x u (some (st, c)) ++ ([obR bo x (sumF (wayN u.ways) P) (sw + se), .it b' x.my st c P] ++ TT)) (WalkQ u.ways.length) (fun P => u.ways.length - P.length) [] ⟨List.nodup_nil, fun _ h => by simp at h⟩ trivial rfl ?_
  intro P hP
  have hpl := walk_len hP.nd hP.lt
  have hel : (mkeys pI (mapT litV u.ways)).length = u.ways.length := by simp [mkeys, mapT]
  repeat (first | refine gG ?_ | refine zN1 (fun hlen => ?_) | refine zN2 (fun hlen => ?_) | refine zAl (fun _ => ?_) | refine zBx (fun _ => ?_) | refine zAp (fun _ => ?_))
  refine lo_next (j := 14) rfl rfl rfl (fun hdn => ?_) (fun kk wv t he hn => ?_)
  rotate_left
  · obtain ⟨p, hp, rfl, rfl⟩ := entW he
    have hkk : kk < u.ways.length := (List.getElem?_eq_some_iff.1 hp).1
    obtain ⟨pk, pv, pl⟩ := p
    have hw := walk_snoc hP.nd hP.lt hkk hn
    have hwl := walk_len hw.1 hw.2
    rw [List.length_append] at hwl
    simp only [List.length_cons, List.length_nil] at hwl
    have hsn := sumF_snoc (wayN u.ways) P kk
    have hle := wayN_le hw.1 hw.2
    have hwk : wayN u.ways kk = pl.length := by unfold wayN; rw [hp]; rfl
    rw [hsn, hwk] at hle
    have hrow : TT[kk + 3]? = some (thR (pv, pl)) := by
      rw [hT]
      show (rT x u)[kk]? = _
      rw [rT, List.getElem?_append_left (by simpa using hkk), List.getElem?_map, hp]
      rfl
    clear hn
    repeat (first | refine gO ?_ | refine ac_seq ?_ | refine ac_block ?_ | refine zT ?_ | refine ac_skip ?_ | refine ac_region ?_)
    refine zEn 14 he ?_
    repeat (first | refine gG ?_ | refine zN1 (fun hlen => ?_) | refine zN2 (fun hlen => ?_) | refine zAl (fun _ => ?_) | refine zBx (fun _ => ?_) | refine zAp (fun _ => ?_))
    refine zLenL (kk + 20) hrow (fun _ => ?_)
    repeat (first | refine gG ?_ | refine zN1 (fun hlen => ?_) | refine zN2 (fun hlen => ?_) | refine zAl (fun _ => ?_) | refine zBx (fun _ => ?_) | refine zAp (fun _ => ?_))
    refine lo_add rfl rfl (r := ((sumF (wayN u.ways) P + pl.length : Nat) : Int)) (by show IntKind.wrap .i64 ((sumF (wayN u.ways) P : Int) + (pl.length : Int)) = _; rw [IntWalk.i64_in _ (by omega)]; omega) ?_
    repeat (first | refine gO ?_ | refine zF1 ?_)
    refine zStS ?_
    repeat (first | refine gG ?_ | refine zN1 (fun hlen => ?_) | refine zN2 (fun hlen => ?_) | refine zAl (fun _ => ?_) | refine zBx (fun _ => ?_) | refine zAp (fun _ => ?_))
    exact ⟨P ++ [kk], ⟨hw.1, hw.2⟩, by rw [List.length_append, List.length_singleton]; omega, x_wk trivial (by rw [hsn, hwk]; rfl) (by repeat (first | exact ag_refl | refine ag_upd rfl ?_ | refine ag_at rfl rfl ?_))⟩
  have hall := wayN_all hP.nd hP.lt (fun k hk => hdn k (by rw [hel]; exact hk))
  rw [hall]
  clear hP hpl hall
  repeat (first | refine gO ?_ | refine ac_seq ?_ | refine ac_block ?_ | refine zF ?_ | refine ac_exit ?_)
  refine x_unitS 14 ?_ rfl
  refine ac_wk (wk_forget (H := rH x u ++ [obR bo x (sumW (bare u.ways)) (sw + se)]) (a := .it b' x.my st c P) (L := TT)) ?_
  generalize hwy2 : sumW (bare u.ways) = wy at *
  subst hT
  refine x_perm (perm_end x bl ms b6 bo wy (sw + se) Z.seqs u) ?_
  refine ac_wk (wk_drop (Blk.row x.vg 71 1 u.got.length (litL u.got) :: (u.got.map goR ++ [.row x.va 3 1 u.at_.length (u.at_.flatMap intTs), obR bo x wy (sw + se), reB b6])).length) ?_
  dsimp only
  rw [List.take_left]
  refine ac_wk (wk_shutF (vg := x.vg) (e := 71) (e' := 73) (n := u.got.length) (sz := 2) (fun l : List (Int × Int) => l.length) (fun l => l.flatMap goTs) u.got [] [.row x.va 3 1 u.at_.length (u.at_.flatMap intTs), obR bo x wy (sw + se), reB b6]) ?_
  refine x_eq (hp' := [.row x.vg 71 1 u.got.length (u.got.map fun q => gotT q.2), .row x.va 3 1 u.at_.length (u.at_.flatMap intTs), obR bo x wy (sw + se), reB b6]) rfl ?_
  refine x_boxR 2 [.own 0 x.vg, .own 1 x.va, .c (iL wy), .c (iL (sw + se : Nat))] ?_
  refine x_reptr 34 2 rfl ?_
  refine x_reptr 6 3 rfl ?_
  repeat (first | refine gG ?_ | refine zN1 (fun hlen => ?_) | refine zN2 (fun hlen => ?_) | refine zAl (fun _ => ?_) | refine zBx (fun _ => ?_) | refine zAp (fun _ => ?_))
  have hres : toldT l.length x.nd Z = .agg [.row u.got.length 1 (u.got.map fun q => gotT q.2), intRow u.at_, iL wy, iL (sw + se : Nat)] := by
    have e1 : Z.got = u.got.map (·.2) := hu.got.symm
    have e2 : Z.wait = u.wait.map (·.2) := hu.wait.symm
    rw [← hA]
    simp only [toldT, e1, e2, ← hu.ways, ← hu.at_, List.length_map, List.map_map, hwy2, hsw, hse]
    rfl
  rw [hres]
  first | refine zR ?_ | refine zQ ?_
  rfl
  -- END fin
end Go.Proofs.Ytdogdjcjmhogmaa
