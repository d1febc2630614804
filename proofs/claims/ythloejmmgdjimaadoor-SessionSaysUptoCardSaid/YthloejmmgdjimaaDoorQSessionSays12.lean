/-
  Texts of this proof, part 12: Ysu Titoa Tmz Tit Ysi Ysj Ysm Ysv Open.
-/
import Derived.Test.YthloejmmgdjimaaDoorQSessionSays11
import Derived.Deep.Slices
import Derived.JoinedCond
import Derived.Lib.AppendStr
import Derived.Lib.AppendZerosOnto
import Derived.Lib.ItoaLen
import Derived.Lib.MinMax
import Derived.OpenShut
import Derived.ProofKit
import Derived.Shelf.LaysM
import Derived.Shelf.Strconv.Itoa3
import Derived.Test.YthloejmmgdjimaaDoorProg
import Derived.Test.YthloejmmgdjimaaDoorRows
import Derived.WideKeyEntry
namespace Go.Proofs.YthloejmmgdjimaaDoor
open Go.RowKit
theorem moved_ok {l : List Se} (hl : LOk l) {i : Int} (hi : inR l i) : LOk (movedS l i) := by
  have hlen : (movedS l i).length = l.length := by simp [movedS]
  refine ⟨by rw [hlen]; exact hl.n1, by rw [hlen]; exact hl.n16, fun s hs => ?_⟩
  rw [hlen]
  obtain ⟨k, hk, rfl⟩ := List.mem_map.1 hs
  have hk := List.mem_range.1 hk
  have h1 := (atS_nn (k := (k : Nat)) hi.1).2 (by omega)
  have h2 := atS_lt (k := (k : Nat)) hi.1 hi.2 (by omega)
  have so := hl.at h1 h2
  refine ⟨so.k1, so.k3, fun e => ?_, ?_, fun z hz => ?_, ?_⟩
  · show (stAt l _).br.map _ = []
    rw [so.e3 e]; rfl
  · show ((stAt l _).br.map _).length ≤ 6
    rw [List.length_map]; exact so.len
  · obtain ⟨w, hw, rfl⟩ := List.mem_map.1 hz
    have := so.rng w hw
    refine ⟨this.1, this.2.1, ?_, ?_⟩
    · dsimp only; exact (atS_nn hi.1).2 this.2.2.1
    · dsimp only; exact atS_lt hi.1 hi.2 this.2.2.2
  · show ((stAt l _).br.map _).Pairwise _
    exact List.Pairwise.map _ (fun _ _ h => h) so.srt
theorem same_two {l : List Se} {i k : Int} (hi : inR l i) (hk : inR l k) : sameB l i k = (subB (movedS l i) (movedS l k) && subB (movedS l k) (movedS l i)) := by
  rw [Bool.eq_iff_iff, sameB_t, Bool.and_eq_true, subB_t, subB_t, moved_sub hi hk, moved_sub hk hi]
  rfl
set_option maxRecDepth 100000 in
set_option maxHeartbeats 2000000 in
theorem same1_af (l : List Se) (hl : LOk l) (i k : Int) (hi : inR l i) (hk : inR l k) : AF Tryd.prog 24 [iL i, iL k, .pin [seRow l] 0] (· = .lit (.bool (sameB l i k))) := by
  have h1 := moved_af l hl i hi
  have h2 := moved_af l hl k hk
  have h3 := below_af _ _ (moved_ok hl hi) (moved_ok hl hk)
  have h4 := below_af _ _ (moved_ok hl hk) (moved_ok hl hi)
  rw [same_two hi hk]
  generalize subB (movedS l i) (movedS l k) = x at *
  generalize subB (movedS l k) (movedS l i) = y at *
  generalize movedS l i = a at *
  generalize movedS l k = b at *
  cases x
  · refine af_enter tok Tryd.func24 Tryd.ntmps24 Tryd.results24 rfl (by kernel_rfl) rfl rfl fun F hX => ?_
    repeat (first | refine gG ?_)
    refine ac_draw [1, 1, 1, 1, 1, 1, 1, 1] [0, 1, 2, 3, 4, 5, 6, 7] (by kernel_rfl) (by kernel_rfl) ?_
    refine gW ?_
    apply w_q; (focus exact rfl); (focus exact rfl); focus (intro _; (refine zCall h1 ?_; rintro _ rfl); exact det_refl)
    refine gW ?_
    apply w_q; (focus exact rfl); (focus exact rfl); focus (intro _; (refine zCall h2 ?_; rintro _ rfl); exact det_refl)
    refine gW ?_
    refine w_nil ?_
    repeat (first | refine gG ?_)
    refine zCall (h3) ?_
    rintro _ rfl
    repeat (first | refine gG ?_)
    first | refine zR ?_ | refine zQ ?_
    rfl
  · refine af_enter tok Tryd.func24 Tryd.ntmps24 Tryd.results24 rfl (by kernel_rfl) rfl rfl fun F hX => ?_
    repeat (first | refine gG ?_)
    refine ac_draw [1, 1, 1, 1, 1, 1, 1, 1] [0, 1, 2, 3, 4, 5, 6, 7] (by kernel_rfl) (by kernel_rfl) ?_
    refine gW ?_
    apply w_q; (focus exact rfl); (focus exact rfl); focus (intro _; (refine zCall h1 ?_; rintro _ rfl); exact det_refl)
    refine gW ?_
    apply w_q; (focus exact rfl); (focus exact rfl); focus (intro _; (refine zCall h2 ?_; rintro _ rfl); exact det_refl)
    refine gW ?_
    refine w_nil ?_
    repeat (first | refine gG ?_)
    refine zCall (h3) ?_
    rintro _ rfl
    repeat (first | refine gG ?_)
    refine zCall (h4) ?_
    rintro _ rfl
    repeat (first | refine gG ?_)
    first | refine zR ?_ | refine zQ ?_
    rfl
set_option maxRecDepth 100000 in
set_option maxHeartbeats 2000000 in
theorem same2_af (l : List Se) (hl : LOk l) (i m x : Int) (hi : inR l i) (hx : inR l x) : AF Tryd.prog 27 [iL i, .pin [.fn (.func 24) [.pin [seRow l] 0]] 0, .pin [iL m, iL x] 0] (· = .lit (.bool (sameB l i x))) := by
  have h := same1_af l hl i x hi hx
  generalize sameB l i x = z at *
  refine af_enter tok Tryd.func27 Tryd.ntmps27 Tryd.results27 rfl (by kernel_rfl) rfl rfl fun F hX => ?_
  repeat (first | refine gG ?_)
  refine zIxn 1 ?_
  repeat (first | refine gG ?_)
  refine zCallc (h) ?_
  rintro _ rfl
  repeat (first | refine gG ?_)
  first | refine zR ?_ | refine zQ ?_
  rfl
set_option maxRecDepth 100000 in
set_option maxHeartbeats 8000000 in
theorem fewest_af (l : List Se) (hl : LOk l) : AF Tryd.prog 14 [seRow l] (· = seRow (leastL l)) := by
  have h16 := hl.n16
  have h1 := hl.n1
  refine af_enter tok Tryd.func14 Tryd.ntmps14 Tryd.results14 rfl (by kernel_rfl) rfl rfl fun F hX => ?_
  repeat (first | refine gX ?_ | refine zN1 (fun hlen => ?_) | refine zN2 (fun hlen => ?_) | refine zAl (fun _ => ?_) | refine zBf ?_ | refine zAp (fun _ => ?_))
  refine zBo (fun v0 => ?_)
  repeat (first | refine gG ?_ | refine zN1 (fun hlen => ?_) | refine zN2 (fun hlen => ?_) | refine zAl (fun _ => ?_) | refine zBx (fun _ => ?_) | refine zAp (fun _ => ?_))
  refine x_frz0 3 [.fn (.func 24) [.pin [seRow l] 0]] ?_
  refine x_as 4 (.own 0 v0) re_own ?_
  refine x_own 5 59 2 rfl rfl rfl rfl rfl ?_
  have hR := fun k => least_inv hl k
  have hRs : ∀ k, leastR (sameB l) l (k + 1) = lstep (sameB l) l (leastR (sameB l) l k) := fun _ => rfl
  have hend := fun {k : Nat} h1 h2 => least_end hl (k := k) h1 h2
  obtain ⟨R, hRd⟩ : ∃ R, R = leastR (sameB l) l := ⟨_, rfl⟩
  have hR0 : R 0 = ([0], []) := by rw [hRd]; rfl
  rw [← hRd] at hR hRs hend
  clear hRd
  refine x_eq (hp' := [.row v0 3 1 ((R 0).1).length (((R 0).1).flatMap intTs), .row (.slice none 0 0) 59 2 ((R 0).2).length (((R 0).2).flatMap Se.ts)]) (by rw [hR0]; rfl) ?_
  refine x_loop [4, 5, 6, 7, 9, 10, 13, 14, 15, 16, 17, 18, 19, 20, 21, 22, 23, 24, 25, 26, 27, 28, 29, 30, 31, 32, 33, 34, 35, 36, 37, 38, 39, 40, 41, 42, 43, 44, 45, 46, 47, 48, 49, 50, 51, 52, 53, 54, 55, 56, 57, 58, 59, 60, 61, 62, 63, 64, 65, 66] (fun q : Nat × Value × Value => [(6, .c (iL (q.1 : Nat))), (4, .own 0 q.2.1), (5, .own 1 q.2.2)]) (fun q => [.row q.2.1 3 1 ((R q.1).1).length (((R q.1).1).flatMap intTs), .row q.2.2 59 2 ((R q.1).2).length (((R q.1).2).flatMap Se.ts)]) (fun q => (R q.1).2.length = q.1) (fun q => l.length - q.1) (0, v0, .slice none 0 0) (by rw [hR0]; rfl) ⟨rfl, rfl, rfl, trivial⟩ rfl ?_
  rintro ⟨k, vo, vt⟩ hk
  dsimp only at hk ⊢
  have hRk := hR k
  have hol := hRk.o.len
  have hout := hRk.out
  have hk9 : k ≤ 9223372036854775806 := by omega
  repeat (first | refine gG ?_ | refine zN1 (fun hlen => ?_) | refine zN2 (fun hlen => ?_) | refine zAl (fun _ => ?_) | refine zBx (fun _ => ?_) | refine zAp (fun _ => ?_))
  refine x_cond rfl (fun h => ?_) (fun h => ?_)
  · have hk' : k < (R k).1.length := by simpa using h
    obtain ⟨s, hs⟩ := nth hk'
    have hsr := hRk.o.rg s (List.mem_of_getElem? hs)
    replace hRs := hRs k
    rw [lstep_go (by rw [hk]; exact hs)] at hRs
    obtain ⟨n, rfl⟩ : ∃ n : Nat, s = (n : Int) := ⟨s.toNat, by have := hsr.1; omega⟩
    have hn : n < l.length := by have := hsr.2; omega
    obtain ⟨st, hst, est⟩ : ∃ s, l[n]? = some s ∧ stAt l (n : Nat) = s := by
      obtain ⟨s, hs⟩ := nth hn
      exact ⟨s, hs, stAt_nat hs⟩
    have so := hl.st _ (List.mem_of_getElem? hst)
    rw [est] at hRs
    have hat := int_at hs
    have hkd : (l.flatMap Se.ts)[n * 2 + 0]? = some (iL st.kind) := flat_get Se.ts 2 (fun _ => rfl) hst (j := 0) (by omega)
    have hbr : (l.flatMap Se.ts)[n * 2 + 1]? = some (.row st.br.length 2 (st.br.flatMap prTs)) := flat_get Se.ts 2 (fun _ => rfl) hst (j := 1) (by omega)
    have hrng : ∀ z ∈ st.br, inR l z.2 := fun z hz => ⟨(so.rng z hz).2.2.1, (so.rng z hz).2.2.2⟩
    have hlen6 := so.len
    have hLI := hRk.o
    have hinv := fun {j : Nat} => bs_inv hl (st.br.take j) (bs := []) hLI (fun z hz => hrng z (List.mem_of_mem_take hz))
    have hfl := fun {j : Nat} {z : Int × Int} (h : st.br[j]? = some z) => foldl_snoc (bstep (sameB l)) ((R k).1, ([] : List (Int × Int))) h
    clear h hs hst est so hR hsr hRk
    obtain ⟨kd, br⟩ := st
    dsimp only at *
    generalize hR1 : R (k + 1) = R1 at *
    generalize R k = r at *
    obtain ⟨o, ou⟩ := r
    dsimp only at *
    subst hRs
    repeat (first | refine gG ?_ | refine zN1 (fun hlen => ?_) | refine zN2 (fun hlen => ?_) | refine zAl (fun _ => ?_) | refine zBx (fun _ => ?_) | refine zAp (fun _ => ?_))
    refine x_row 0 rfl (show 0 < o.length by omega) (fun hvo => ?_)
    refine x_join [7, 19, 20, 21, 22, 23, 24, 25, 26, 27] (fun b : Nat => [(7, .ptr 2 b 0)]) (fun b => [.row vo 3 1 o.length (o.flatMap intTs), .row vt 59 2 ou.length (ou.flatMap Se.ts), .box b 59 [.c (iL kd), .c (.lit (.slice none 0 0))]]) (fun b7 => ?_) ?_
    rotate_left
    · skip
      refine ac_drawT3 [0, 0, 0, 0, 2, 0, 0, 0, 0, 3, 2] (.fork [0, 1, 2, 3] 4 (.fin [5, 6, 7, 8, 9, 10]) 9 (.fin [4, 5, 6, 7, 8, 10])) (by kernel_rfl) (by kernel_rfl) ?_
      refine wtt_fork ?_
      refine gW ?_
      apply w_p; (focus exact rfl); (focus exact rfl); focus (intro _; (refine zIxp (n := o.length) k hvo hk' ?_); exact det_refl)
      refine w_nil ?_
      refine ⟨?_, ?_⟩
      · apply w_l; (focus exact rfl); (focus exact rfl); (refine zElo1 hat ?_)
        refine w_nil ?_
        refine wtt_fin ?_
        apply w_p; (focus exact rfl); (focus exact rfl); focus (intro _; (refine zIx n hn ?_); exact det_refl)
        refine gW ?_
        apply w_p; (focus exact rfl); (focus exact rfl); focus (intro _; (refine zEl1 hkd ?_); exact det_refl)
        refine gW ?_
        apply w_a; (focus exact rfl); (focus exact rfl); refine v_alloc tok rfl rfl rfl (fun _ => rfl) (fun _ => ⟨⟨_, rfl⟩, ?_⟩)
        apply w_l; (focus exact rfl); (focus exact rfl); (refine zS ?_)
        refine w_nil ?_
        exact ⟨_, x_wkd 3 ⟨rfl, trivial⟩ rfl (by repeat (first | exact ag_refl | refine ag_upd rfl ?_ | refine ag_at rfl rfl ?_))⟩
      · apply w_a; (focus exact rfl); (focus exact rfl); refine v_alloc tok rfl rfl rfl (fun _ => rfl) (fun _ => ⟨⟨_, rfl⟩, ?_⟩)
        refine w_nil ?_
        refine wtt_fin ?_
        apply w_l; (focus exact rfl); (focus exact rfl); (refine zElo1 hat ?_)
        apply w_p; (focus exact rfl); (focus exact rfl); focus (intro _; (refine zIx n hn ?_); exact det_refl)
        refine gW ?_
        apply w_p; (focus exact rfl); (focus exact rfl); focus (intro _; (refine zEl1 hkd ?_); exact det_refl)
        refine gW ?_
        apply w_l; (focus exact rfl); (focus exact rfl); (refine zS ?_)
        refine w_nil ?_
        exact ⟨_, x_wkd 3 ⟨rfl, trivial⟩ rfl (by repeat (first | exact ag_refl | refine ag_upd rfl ?_ | refine ag_at rfl rfl ?_))⟩
    repeat (first | refine gO ?_ | refine ac_seq ?_ | refine ac_block ?_)
    refine ac_draw [1, 1, 1, 1, 1, 1, 1, 1, 1, 1] [0, 1, 2, 3, 4, 5, 6, 7, 8, 9] (by kernel_rfl) (by kernel_rfl) ?_
    refine gW ?_
    apply w_q; (focus exact rfl); (focus exact rfl); focus (intro _; (refine zIxo k hk' ?_); exact det_refl)
    apply w_q; (focus exact rfl); (focus exact rfl); focus (intro _; (refine zElo1 hat ?_); exact det_refl)
    apply w_q; (focus exact rfl); (focus exact rfl); focus (intro _; (refine zIx n hn ?_); exact det_refl)
    refine gW ?_
    apply w_q; (focus exact rfl); (focus exact rfl); focus (intro _; (refine zEl1 hbr ?_); exact det_refl)
    refine gW ?_
    refine w_nil ?_
    repeat (first | refine gG ?_ | refine zN1 (fun hlen => ?_) | refine zN2 (fun hlen => ?_) | refine zAl (fun _ => ?_) | refine zBx (fun _ => ?_) | refine zAp (fun _ => ?_))
    refine x_own_cell 2 1 40 2 rfl rfl rfl rfl rfl rfl ?_
    obtain ⟨G, hGd⟩ : ∃ G : Nat → List Int × List (Int × Int), G = fun j => (br.take j).foldl (bstep (sameB l)) (o, []) := ⟨_, rfl⟩
    have hG0 : G 0 = (o, []) := by rw [hGd]; rfl
    have hGe : G br.length = br.foldl (bstep (sameB l)) (o, []) := by rw [hGd]; dsimp only; rw [List.take_length]
    have hGs : ∀ {j : Nat} {z : Int × Int}, br[j]? = some z → G (j + 1) = bstep (sameB l) (G j) z := fun h => by rw [hGd]; exact hfl h
    have hGi : ∀ j, LInv l (G j).1 := fun j => by rw [hGd]; exact hinv
    have hGl : ∀ j, j ≤ br.length → (G j).2.length = j := fun j hj => by
      rw [hGd]
      dsimp only
      rw [bs_len, List.length_take, Nat.min_eq_left hj]
      simp
    rw [← hGe] at hR1
    clear hGe hGd hfl hinv hLI hkd hbr hat
    refine x_eq (hp' := [.row vo 3 1 (G 0).1.length ((G 0).1.flatMap intTs), .row vt 59 2 ou.length (ou.flatMap Se.ts), .box b7 59 [.c (iL kd), .own 3 (.slice none 0 0)], .row (.slice none 0 0) 40 2 (G 0).2.length ((G 0).2.flatMap prTs)]) (by rw [hG0]; rfl) ?_
    refine x_loop [4, 9, 10, 37, 38, 39, 40, 41, 42, 43, 44, 45, 46, 47, 48, 49, 50, 51, 52, 53, 54, 55, 56, 57, 58, 59, 60, 61, 62] (fun q : Nat × Value × Value => [(37, .c (iL (q.1 : Nat))), (4, .own 0 q.2.1)]) (fun q => [.row q.2.1 3 1 (G q.1).1.length ((G q.1).1.flatMap intTs), .row vt 59 2 ou.length (ou.flatMap Se.ts), .box b7 59 [.c (iL kd), .own 3 q.2.2], .row q.2.2 40 2 (G q.1).2.length ((G q.1).2.flatMap prTs)]) (fun q => q.1 ≤ br.length) (fun q => br.length - q.1) (0, vo, .slice none 0 0) (Nat.zero_le _) ⟨rfl, rfl, trivial⟩ rfl ?_
    rintro ⟨j, vo', vb⟩ hj
    dsimp only at hj ⊢
    repeat (first | refine gG ?_ | refine zN1 (fun hlen => ?_) | refine zN2 (fun hlen => ?_) | refine zAl (fun _ => ?_) | refine zBx (fun _ => ?_) | refine zAp (fun _ => ?_))
    refine x_cond rfl (fun h => ?_) (fun h => ?_)
    · have hj' : j < br.length := by simpa using h
      obtain ⟨⟨m, x⟩, hz⟩ := nth hj'
      have hxr := hrng _ (List.mem_of_getElem? hz)
      have htz := pr_at hz
      replace hGs := hGs hz
      have hGij := hGi j
      have hGlj := hGl j hj
      dsimp only at hxr
      have hix := idxIntF_af (fun i => sameB l i x) 27 [.pin [.fn (.func 24) [.pin [seRow l] 0]] 0, .pin [iL m, iL x] 0] (G j).1 (fun a ha => same2_af l hl a m x (hGij.rg a ha) hxr)
      clear h hz hrng hGi hGl hR1 hG0 hend hR0
      generalize hG1 : G (j + 1) = G1 at *
      generalize hGj : G j = g at *
      clear hGj
      obtain ⟨oj, bj⟩ := g
      dsimp only at *
      have hojl := hGij.len
      clear hGij hxr
      cases hf : oj.findIdx? (fun i => sameB l i x) with
      | none =>
        rw [idxI_none hf] at hix
        rw [bstep_none (by exact hf)] at hGs
        subst hGs
        clear hf
        repeat (first | refine gG ?_ | refine zN1 (fun hlen => ?_) | refine zN2 (fun hlen => ?_) | refine zAl (fun _ => ?_) | refine zBx (fun _ => ?_) | refine zAp (fun _ => ?_))
        refine zIx j hj' ?_
        repeat (first | refine gG ?_ | refine zN1 (fun hlen => ?_) | refine zN2 (fun hlen => ?_) | refine zAl (fun _ => ?_) | refine zBx (fun _ => ?_) | refine zAp (fun _ => ?_))
        refine zEl htz rfl ?_
        repeat (first | refine gG ?_ | refine zN1 (fun hlen => ?_) | refine zN2 (fun hlen => ?_) | refine zAl (fun _ => ?_) | refine zBx (fun _ => ?_) | refine zAp (fun _ => ?_))
        refine zPeek (hix) ?_
        rintro _ rfl
        refine ⟨rfl, ?_⟩
        repeat (first | refine zIxb 0 ?_ | refine zIxb 1 ?_ | refine zIxb 2 ?_ | refine gG ?_ | refine zN1 (fun hlen => ?_) | refine zN2 (fun hlen => ?_) | refine zAl (fun _ => ?_) | refine zBf ?_ | refine zAp (fun _ => ?_))
        refine zBda ?_
        repeat (first | refine zIxb 0 ?_ | refine zIxb 1 ?_ | refine zIxb 2 ?_ | refine gG ?_ | refine zN1 (fun hlen => ?_) | refine zN2 (fun hlen => ?_) | refine zAl (fun _ => ?_) | refine zBf ?_ | refine zAp (fun _ => ?_))
        exact ⟨(j + 1, _, _), hj', by dsimp only; omega, x_wkd 4 ⟨rfl, rfl, trivial⟩ (by dsimp only; rw [hG1]; simp only [List.length_append, List.flatMap_append]; rfl) (by repeat (first | exact ag_refl | refine ag_upd rfl ?_ | refine ag_at rfl rfl ?_))⟩
      | some p =>
        rw [idxI_some hf] at hix
        rw [bstep_some (by exact hf)] at hGs
        subst hGs
        clear hf
        repeat (first | refine gG ?_ | refine zN1 (fun hlen => ?_) | refine zN2 (fun hlen => ?_) | refine zAl (fun _ => ?_) | refine zBx (fun _ => ?_) | refine zAp (fun _ => ?_))
        refine zIx j hj' ?_
        repeat (first | refine gG ?_ | refine zN1 (fun hlen => ?_) | refine zN2 (fun hlen => ?_) | refine zAl (fun _ => ?_) | refine zBx (fun _ => ?_) | refine zAp (fun _ => ?_))
        refine zEl htz rfl ?_
        repeat (first | refine gG ?_ | refine zN1 (fun hlen => ?_) | refine zN2 (fun hlen => ?_) | refine zAl (fun _ => ?_) | refine zBx (fun _ => ?_) | refine zAp (fun _ => ?_))
        refine zPeek (hix) ?_
        rintro _ rfl
        refine ⟨rfl, ?_⟩
        repeat (first | refine zIxb 0 ?_ | refine zIxb 1 ?_ | refine zIxb 2 ?_ | refine gG ?_ | refine zN1 (fun hlen => ?_) | refine zN2 (fun hlen => ?_) | refine zAl (fun _ => ?_) | refine zBf ?_ | refine zAp (fun _ => ?_))
        refine zBda ?_
        repeat (first | refine zIxb 0 ?_ | refine zIxb 1 ?_ | refine zIxb 2 ?_ | refine gG ?_ | refine zN1 (fun hlen => ?_) | refine zN2 (fun hlen => ?_) | refine zAl (fun _ => ?_) | refine zBf ?_ | refine zAp (fun _ => ?_))
        exact ⟨(j + 1, _, _), hj', by dsimp only; omega, x_wkd 4 ⟨rfl, rfl, trivial⟩ (by dsimp only; rw [hG1]; simp only [List.length_append, List.flatMap_append]; rfl) (by repeat (first | exact ag_refl | refine ag_upd rfl ?_ | refine ag_at rfl rfl ?_))⟩
    · have hj' : j = br.length := by have : ¬ j < br.length := by simpa using h
                                     omega
      subst hj'
      have hGij := (hGi br.length).len
      have hGlj := hGl br.length (Nat.le_refl _)
      clear h hGs hGi hGl hG0 hrng hend
      generalize G br.length = g at *
      obtain ⟨oj, bj⟩ := g
      dsimp only at *
      refine x_fzc 2 1 ?_
      repeat (first | refine gG ?_ | refine zN1 (fun hlen => ?_) | refine zN2 (fun hlen => ?_) | refine zAl (fun _ => ?_) | refine zBx (fun _ => ?_) | refine zAp (fun _ => ?_))
      exact ⟨(k + 1, vo', _), by dsimp only; rw [hR1, List.length_append, hk]; rfl, by dsimp only; omega, x_wkd 2 ⟨rfl, rfl, rfl, trivial⟩ (by dsimp only; rw [hR1]; simp only [List.length_append, List.flatMap_append]; rfl) (by repeat (first | exact ag_refl | refine ag_upd rfl ?_ | refine ag_at rfl rfl ?_))⟩
  · have hke : k = (R k).1.length := by have := of_decide_eq_false h; omega
    have he := hend hk hke.symm
    clear h hend hR hRs hRk hol hout
    generalize R k = r at *
    obtain ⟨o, ou⟩ := r
    dsimp only at *
    subst he
    repeat (first | refine gG ?_ | refine zN1 (fun hlen => ?_) | refine zN2 (fun hlen => ?_) | refine zAl (fun _ => ?_) | refine zBx (fun _ => ?_) | refine zAp (fun _ => ?_))
    first | refine zR ?_ | refine zQ ?_
    rfl
end Go.Proofs.YthloejmmgdjimaaDoor
namespace Go.Proofs.YthloejmmgdjimaaDoor
open Go.Shelf
def itoaRen : Go.Shelf.Ren := ⟨fun | 171 => 35 | 243 => 40 | 246 => 41 | 283 => 42 | 284 => 43 | 285 => 44 | 286 => 45 | 129 => 47 | 317 => 46 | 318 => 48 | 319 => 49 | 320 => 50 | 337 => 51 | 338 => 52 | n => n, fun | 3 => 3 | 9 => 9 | 2 => 2 | 4 => 4 | 171 => 81 | 0 => 0 | 53 => 82 | 37 => 85 | 5 => 5 | 173 => 86 | 212 => 89 | 51 => 90 | 20 => 20 | 213 => 91 | 46 => 92 | 232 => 95 | 233 => 96 | n => n, fun | 17 => 0 | 18 => 1 | 19 => 2 | n => n⟩
theorem itoaLays : Go.Proofs.LaysM.n171 Tryd.prog itoaRen := {
  mixed := by kernel_rfl
  f129 := Tryd.func47.trans (congrArg some (by kernel_rfl))
  f171 := Tryd.func35.trans (congrArg some (by kernel_rfl))
  f243 := Tryd.func40.trans (congrArg some (by kernel_rfl))
  f246 := Tryd.func41.trans (congrArg some (by kernel_rfl))
  f283 := Tryd.func42.trans (congrArg some (by kernel_rfl))
  f284 := Tryd.func43.trans (congrArg some (by kernel_rfl))
  f285 := Tryd.func44.trans (congrArg some (by kernel_rfl))
  f286 := Tryd.func45.trans (congrArg some (by kernel_rfl))
  f317 := Tryd.func46.trans (congrArg some (by kernel_rfl))
  f318 := Tryd.func48.trans (congrArg some (by kernel_rfl))
  f319 := Tryd.func49.trans (congrArg some (by kernel_rfl))
  f320 := Tryd.func50.trans (congrArg some (by kernel_rfl))
  f337 := Tryd.func51.trans (congrArg some (by kernel_rfl))
  f338 := Tryd.func52.trans (congrArg some (by kernel_rfl))
  t0 := Tryd.underlying0
  a0 := Tryd.isAgg0
  z0 := Tryd.sizeOf0
  v0 := Tryd.zeroValue0
  t2 := Tryd.underlying2
  a2 := Tryd.isAgg2
  z2 := Tryd.sizeOf2
  v2 := Tryd.zeroValue2
  t3 := Tryd.underlying3
  a3 := Tryd.isAgg3
  z3 := Tryd.sizeOf3
  v3 := Tryd.zeroValue3
  t4 := Tryd.underlying4
  a4 := Tryd.isAgg4
  z4 := Tryd.sizeOf4
  v4 := Tryd.zeroValue4
  t5 := Tryd.underlying5
  a5 := Tryd.isAgg5
  z5 := Tryd.sizeOf5
  v5 := Tryd.zeroValue5
  t9 := Tryd.underlying9
  a9 := Tryd.isAgg9
  z9 := Tryd.sizeOf9
  v9 := Tryd.zeroValue9
  t20 := Tryd.underlying20
  a20 := Tryd.isAgg20
  z20 := Tryd.sizeOf20
  v20 := Tryd.zeroValue20
  t37 := Tryd.underlying85
  a37 := Tryd.isAgg85
  z37 := Tryd.sizeOf85
  v37 := Tryd.zeroValue85
  t46 := Tryd.underlying92
  a46 := Tryd.isAgg92
  z46 := Tryd.sizeOf92
  v46 := Tryd.zeroValue92
  t51 := Tryd.underlying90
  a51 := Tryd.isAgg90
  z51 := Tryd.sizeOf90
  v51 := Tryd.zeroValue90
  t53 := Tryd.underlying82
  a53 := Tryd.isAgg82
  z53 := Tryd.sizeOf82
  v53 := Tryd.zeroValue82
  t171 := Tryd.underlying81
  a171 := Tryd.isAgg81
  z171 := Tryd.sizeOf81
  v171 := Tryd.zeroValue81
  t173 := Tryd.underlying86
  a173 := Tryd.isAgg86
  z173 := Tryd.sizeOf86
  v173 := Tryd.zeroValue86
  t212 := Tryd.underlying89
  a212 := Tryd.isAgg89
  z212 := Tryd.sizeOf89
  v212 := Tryd.zeroValue89
  t213 := Tryd.underlying91
  a213 := Tryd.isAgg91
  z213 := Tryd.sizeOf91
  t232 := Tryd.underlying95
  a232 := Tryd.isAgg95
  z232 := Tryd.sizeOf95
  v232 := Tryd.zeroValue95
  t233 := Tryd.underlying96
  a233 := Tryd.isAgg96
  z233 := Tryd.sizeOf96
  v233 := Tryd.zeroValue96
  g17 := by kernel_rfl
  g18 := by kernel_rfl
  g19 := by kernel_rfl
  i0 := by kernel_rfl
  i2 := by kernel_rfl
  i3 := by kernel_rfl
  i4 := by kernel_rfl
  i5 := by kernel_rfl
  i9 := by kernel_rfl
  i20 := by kernel_rfl
  i37 := by kernel_rfl
  i46 := by kernel_rfl
  i51 := by kernel_rfl
  i53 := by kernel_rfl
  i171 := by kernel_rfl
  i173 := by kernel_rfl
  i212 := by kernel_rfl
  i232 := by kernel_rfl
  i233 := by kernel_rfl
  m17 := by kernel_rfl
  m18 := by kernel_rfl
  m19 := by kernel_rfl }
open Go.RowKit Go.Sort Go.Lib in
theorem itoa_calls (n : Int) (h0 : -9223372036854775808 ≤ n) (h1 : n ≤ 9223372036854775807) (w : World) (htab : Lib.TabIs Tryd.prog w "internal/strconv.uint64pow10" .u64 Lib.pow10Tab) :
    Calls Tryd.prog 35 #[.int .i64 n] w fun e w' => e = .returned (.string ⟨(Lib.itoa n).toArray⟩) ∧ ∃ k os, w' = grow (w.drewN k) os := Any.strconv_Itoa itoaLays n h0 h1 w htab
end Go.Proofs.YthloejmmgdjimaaDoor
namespace Go.Proofs.YthloejmmgdjimaaDoor
def inI (n : Int) : Prop := -9223372036854775808 ≤ n ∧ n ≤ 9223372036854775807
instance (n : Int) : Decidable (inI n) := by unfold inI; infer_instance
def far (n : Int) : Nat := if inI n then 1 else 1099511627776
end Go.Proofs.YthloejmmgdjimaaDoor
namespace Go.Proofs.YthloejmmgdjimaaDoor
open Go.RowKit
theorem gPow : Tryd.prog.globalNamed "internal/strconv.uint64pow10" = some 0 := by kernel_rfl
theorem itoa_af (n : Int) (h : inI n) : AF Tryd.prog 35 [.lit (.int .i64 n)] (· = .lit (.string (bs (Lib.itoa n)))) := by
  refine ⟨⟨_, Tryd.func35, by kernel_rfl, by kernel_rfl⟩, fun M w vs hG hM hvs => ?_⟩
  simp only [RTs, RT] at hvs
  obtain ⟨x, r, rfl, rfl, rfl⟩ := hvs
  obtain ⟨t, fr, e⟩ := hG _ (List.mem_singleton.2 rfl)
  have htab : Lib.TabIs Tryd.prog w "internal/strconv.uint64pow10" .u64 Lib.pow10Tab := by
    unfold Lib.TabIs World.var?
    rw [gPow]
    simp only [Option.bind_some]
    rw [e]
  refine (itoa_calls n h.1 h.2 w htab).mono fun e w' ⟨he, k, os, hw⟩ => ?_
  subst he
  have hb : Below w.heap.size w w' := by
    subst hw
    refine ⟨rfl, rfl, rfl, ?_, fun b hb => ?_⟩
    · show w.heap.size ≤ (w.heap ++ os).size
      simp
    · show (w.heap ++ os)[b]? = w.heap[b]?
      rw [Array.getElem?_append_left hb]
  exact ⟨_, _, M, rfl, rfl, Ext.refl _ _, hM.below hb, by simp only [RT]; rfl, hb⟩
end Go.Proofs.YthloejmmgdjimaaDoor
namespace Go.Proofs.YthloejmmgdjimaaDoor
open Go.RowKit
def numB (n : Int) : List UInt8 := Lib.itoa n ++ [44]
def numsB (l : List Int) : List UInt8 := l.flatMap numB
theorem numB_le {n : Int} (h : inI n) : (numB n).length ≤ 22 := by
  have := Lib.itoa_length_le n h.1 h.2
  unfold numB
  rw [List.length_append]
  simp only [List.length_cons, List.length_nil]
  omega
theorem flat_le {α : Type} (f : α → List UInt8) (c : Nat) : ∀ {l : List α}, (∀ a ∈ l, (f a).length ≤ c) → (l.flatMap f).length ≤ l.length * c
  | [], _ => by simp
  | a :: l, h => by
    have h1 := h a List.mem_cons_self
    have h2 := flat_le f c (l := l) (fun a ha => h a (List.mem_cons_of_mem _ ha))
    rw [List.flatMap_cons, List.length_append, List.length_cons, Nat.add_mul]
    omega
theorem flat_take_le {α : Type} (f : α → List UInt8) (c : Nat) {l : List α} (h : ∀ a ∈ l, (f a).length ≤ c) {k : Nat} (hk : k ≤ l.length) : ((l.take k).flatMap f).length ≤ k * c := by
  have := flat_le f c (l := l.take k) (fun a ha => h a (List.mem_of_mem_take ha))
  rwa [List.length_take, Nat.min_eq_left hk] at this
theorem flat_snocB {α : Type} (f : α → List UInt8) {l : List α} {k : Nat} {a : α} (h : l[k]? = some a) : (l.take (k + 1)).flatMap f = (l.take k).flatMap f ++ f a := by
  obtain ⟨h1, rfl⟩ := List.getElem?_eq_some_iff.1 h
  rw [List.take_succ_eq_append_getElem h1, List.flatMap_append]
  simp
set_option maxRecDepth 100000 in
set_option maxHeartbeats 1000000 in
theorem nums_af (l : List Int) (hi : ∀ n ∈ l, inI n) (hn : l.length ≤ 4) : AF Tryd.prog 23 [intRow l] (· = .lit (.string (bs (numsB l)))) := by
  refine af_enter tok Tryd.func23 Tryd.ntmps23 Tryd.results23 rfl (by kernel_rfl) rfl rfl fun F hX => ?_
  repeat (first | refine gG ?_ | refine zN1 (fun hlen => ?_) | refine zN2 (fun hlen => ?_))
  refine x_loop [3, 5, 8, 9, 10, 11, 12, 13, 14, 15, 16, 17] (fun k : Nat => [(8, .c (.lit (.int .i64 (k : Nat)))), (3, .c (.lit (.string (bs ((l.take k).flatMap numB)))))]) (fun _ => []) (fun k => k ≤ l.length) (fun k => l.length - k) 0 (Nat.zero_le _) ⟨rfl, rfl, trivial⟩ rfl ?_
  intro k hk
  repeat (first | refine gG ?_ | refine zN1 (fun hlen => ?_) | refine zN2 (fun hlen => ?_))
  refine x_cond rfl (fun h => ?_) (fun h => ?_)
  · have hk' : k < l.length := by simpa using h
    obtain ⟨a, ha⟩ := nth hk'
    have hia := hi a (List.mem_of_getElem? ha)
    have hc := itoa_af a hia
    have hsn := flat_snocB numB ha
    have h1 := flat_take_le numB 22 (fun a ha => numB_le (hi a ha)) hk
    have h2 := numB_le hia
    have e2 : numB a = Lib.itoa a ++ [44] := rfl
    have h3 : (numB a).length = (Lib.itoa a).length + 1 := by rw [e2, List.length_append]; rfl
    clear h
    repeat (first | refine gG ?_ | refine zN1 (fun hlen => ?_) | refine zN2 (fun hlen => ?_))
    refine zIx k hk' ?_
    repeat (first | refine gG ?_ | refine zN1 (fun hlen => ?_) | refine zN2 (fun hlen => ?_))
    refine zEl1 (v := .lit (.int .i64 a)) (int_at ha) ?_
    repeat (first | refine gG ?_ | refine zN1 (fun hlen => ?_) | refine zN2 (fun hlen => ?_))
    refine zCall (hc) ?_
    rintro _ rfl
    repeat (first | refine gG ?_ | refine zN1 (fun hlen => ?_) | refine zN2 (fun hlen => ?_))
    refine zCatb (Lib.itoa a) [44] (by simp only [List.length_cons, List.length_nil]; omega) ?_
    repeat (first | refine gG ?_ | refine zN1 (fun hlen => ?_) | refine zN2 (fun hlen => ?_))
    refine zCatb ((l.take k).flatMap numB) (numB a) (by omega) ?_
    repeat (first | refine gG ?_ | refine zN1 (fun hlen => ?_) | refine zN2 (fun hlen => ?_))
    exact ⟨k + 1, hk', by omega, x_wkd 0 ⟨rfl, by rw [hsn]; rfl, trivial⟩ rfl (by repeat (first | exact ag_refl | refine ag_upd rfl ?_ | refine ag_at rfl rfl ?_))⟩
  · have hk' : k = l.length := by have : ¬ k < l.length := by simpa using h
                                  omega
    subst hk'
    repeat (first | refine gG ?_ | refine zN1 (fun hlen => ?_) | refine zN2 (fun hlen => ?_))
    first | refine zR ?_ | refine zQ ?_
    rw [List.take_length]
    rfl
def prB (z : Int × Int) : List UInt8 := numsB [z.1, z.2]
def seB (s : Se) : List UInt8 := numsB [s.kind, ((s.br.length : Nat) : Int)] ++ s.br.flatMap prB
def marksB (l : List Se) : List UInt8 := numsB [((l.length : Nat) : Int)] ++ l.flatMap seB
theorem sm_inI {n : Int} (h0 : 0 ≤ n) (h1 : n ≤ 1000) : inI n := by unfold inI; omega
theorem numsB_le {l : List Int} (h : ∀ n ∈ l, 0 ≤ n ∧ n ≤ 1000) : (numsB l).length ≤ l.length * 22 := flat_le numB 22 fun a ha => numB_le (sm_inI (h a ha).1 (h a ha).2)
set_option maxRecDepth 100000 in
set_option maxHeartbeats 4000000 in
theorem marks_af (l : List Se) (hl : Sml l) : AF Tryd.prog 12 [seRow l] (· = .lit (.string (bs (marksB l)))) := by
  have h16 := hl.n
  have hcl := nums_af [((l.length : Nat) : Int)] (by intro n hn; rw [List.mem_singleton] at hn; subst hn; exact sm_inI (by omega) (by omega)) (by simp)
  have hl0 : (numsB [((l.length : Nat) : Int)]).length ≤ 22 := numsB_le (l := [((l.length : Nat) : Int)]) (by intro n hn; rw [List.mem_singleton] at hn; subst hn; omega)
  have hpr : ∀ s ∈ l, ∀ z ∈ s.br, (prB z).length ≤ 44 := fun s hs z hz => by
    have := (hl.st s hs).2.2.2 z hz
    exact numsB_le (l := [z.1, z.2]) (by intro n hn; simp only [List.mem_cons, List.not_mem_nil, or_false] at hn; rcases hn with rfl | rfl <;> omega)
  have hh : ∀ s ∈ l, (numsB [s.kind, ((s.br.length : Nat) : Int)]).length ≤ 44 := fun s hs => by
    have := hl.st s hs
    exact numsB_le (l := [s.kind, ((s.br.length : Nat) : Int)]) (by intro n hn; simp only [List.mem_cons, List.not_mem_nil, or_false] at hn; rcases hn with rfl | rfl <;> omega)
  have hse : ∀ s ∈ l, (seB s).length ≤ 400 := fun s hs => by
    have h1 := hl.st s hs
    have h2 := flat_le prB 44 (hpr s hs)
    have h3 := hh s hs
    unfold seB
    rw [List.length_append]
    omega
  have hsn := fun {k : Nat} {s : Se} (h : l[k]? = some s) => flat_snocB seB h
  have hrep : marksB l = numsB [((l.length : Nat) : Int)] ++ l.flatMap seB := rfl
  rw [hrep]
  generalize numsB [((l.length : Nat) : Int)] = N0 at *
  refine af_enter tok Tryd.func12 Tryd.ntmps12 Tryd.results12 rfl (by kernel_rfl) rfl rfl fun F hX => ?_
  repeat (first | refine gG ?_ | refine zN1 (fun hlen => ?_) | refine zN2 (fun hlen => ?_) | refine zAl (fun _ => ?_))
  refine zCall (hcl) ?_
  rintro _ rfl
  repeat (first | refine gG ?_ | refine zN1 (fun hlen => ?_) | refine zN2 (fun hlen => ?_) | refine zAl (fun _ => ?_))
  refine x_loop [3, 5, 7, 14, 15, 16, 17, 18, 19, 20, 21, 22, 23, 24, 25, 26, 27, 28, 29, 30, 31, 32, 33, 34, 35, 36, 37, 38, 39, 40, 41, 42, 43] (fun k : Nat => [(14, .c (iL (k : Nat))), (3, .c (.lit (.string (bs (N0 ++ (l.take k).flatMap seB)))))]) (fun _ => []) (fun k => k ≤ l.length) (fun k => l.length - k) 0 (Nat.zero_le _) ⟨rfl, by simp; rfl, trivial⟩ rfl ?_
  intro k hk
  repeat (first | refine gG ?_ | refine zN1 (fun hlen => ?_) | refine zN2 (fun hlen => ?_) | refine zAl (fun _ => ?_))
  refine x_cond rfl (fun h => ?_) (fun h => ?_)
  · have hk' : k < l.length := by simpa using h
    obtain ⟨s, hs⟩ := nth hk'
    have hm := List.mem_of_getElem? hs
    have ht := se_at hs
    replace hsn := hsn hs
    have h0 := flat_take_le seB 400 hse hk
    have hsm := hl.st s hm
    have h3 := hh s hm
    have h4 := hpr s hm
    have hse' : seB s = numsB [s.kind, ((s.br.length : Nat) : Int)] ++ s.br.flatMap prB := rfl
    have hc2 := nums_af [s.kind, ((s.br.length : Nat) : Int)] (by intro n hn; simp only [List.mem_cons, List.not_mem_nil, or_false] at hn; rcases hn with rfl | rfl <;> exact sm_inI (by omega) (by omega)) (by simp)
    have hc3 : ∀ z ∈ s.br, AF Tryd.prog 23 [intRow [z.1, z.2]] (· = .lit (.string (bs (prB z)))) := fun z hz => nums_af [z.1, z.2] (by have := hsm.2.2.2 z hz; intro n hn; simp only [List.mem_cons, List.not_mem_nil, or_false] at hn; rcases hn with rfl | rfl <;> exact sm_inI (by omega) (by omega)) (by simp)
    rw [hse'] at hsn
    clear h hs hh hpr hse hse' hcl hrep hl
    obtain ⟨kd, br⟩ := s
    dsimp only at *
    generalize numsB [kd, ((br.length : Nat) : Int)] = N1 at *
    generalize (l.take k).flatMap seB = P0 at *
    have hpl := fun {j : Nat} (hj : j ≤ br.length) => flat_take_le prB 44 h4 hj
    repeat (first | refine gG ?_ | refine zN1 (fun hlen => ?_) | refine zN2 (fun hlen => ?_) | refine zAl (fun _ => ?_))
    refine zIx k hk' ?_
    repeat (first | refine gG ?_ | refine zN1 (fun hlen => ?_) | refine zN2 (fun hlen => ?_) | refine zAl (fun _ => ?_))
    refine zEl ht rfl ?_
    repeat (first | refine gG ?_ | refine zN1 (fun hlen => ?_) | refine zN2 (fun hlen => ?_) | refine zAl (fun _ => ?_))
    refine zCall (hc2) ?_
    rintro _ rfl
    repeat (first | refine gG ?_ | refine zN1 (fun hlen => ?_) | refine zN2 (fun hlen => ?_) | refine zAl (fun _ => ?_))
    refine zCatb (N0 ++ P0) N1 (by rw [List.length_append]; omega) ?_
    repeat (first | refine gG ?_ | refine zN1 (fun hlen => ?_) | refine zN2 (fun hlen => ?_) | refine zAl (fun _ => ?_))
    refine x_frz0 5 (Se.ts ⟨kd, br⟩) ?_
    refine x_loop [3, 7, 30, 31, 32, 33, 34, 35, 36, 37, 38, 39, 40, 41, 42] (fun j : Nat => [(30, .c (iL (j : Nat))), (3, .c (.lit (.string (bs (N0 ++ P0 ++ N1 ++ (br.take j).flatMap prB)))))]) (fun _ => []) (fun j => j ≤ br.length) (fun j => br.length - j) 0 (Nat.zero_le _) ⟨rfl, by simp; rfl, trivial⟩ rfl ?_
    intro j hj
    repeat (first | refine gG ?_ | refine zN1 (fun hlen => ?_) | refine zN2 (fun hlen => ?_) | refine zAl (fun _ => ?_))
    refine x_cond rfl (fun h => ?_) (fun h => ?_)
    · have hj' : j < br.length := by simpa using h
      obtain ⟨⟨m, x⟩, hp⟩ := nth hj'
      have hc4 := hc3 _ (List.mem_of_getElem? hp)
      have h5 := h4 _ (List.mem_of_getElem? hp)
      have h6 := hpl hj
      have hsp := flat_snocB prB hp
      have htp := pr_at hp
      clear h ht hc3 hpl h4
      dsimp only at hc4
      repeat (first | refine gG ?_ | refine zN1 (fun hlen => ?_) | refine zN2 (fun hlen => ?_) | refine zAl (fun _ => ?_))
      refine zIx j hj' ?_
      repeat (first | refine gG ?_ | refine zN1 (fun hlen => ?_) | refine zN2 (fun hlen => ?_) | refine zAl (fun _ => ?_))
      refine zEl htp rfl ?_
      repeat (first | refine zIxb 0 ?_ | refine zIxb 1 ?_ | refine zIxb 2 ?_ | refine gG ?_ | refine zN1 (fun hlen => ?_) | refine zN2 (fun hlen => ?_) | refine zAl (fun _ => ?_) | refine zBf ?_ | refine zAp (fun _ => ?_))
      refine zCall (hc4) ?_
      rintro _ rfl
      repeat (first | refine zIxb 0 ?_ | refine zIxb 1 ?_ | refine zIxb 2 ?_ | refine gG ?_ | refine zN1 (fun hlen => ?_) | refine zN2 (fun hlen => ?_) | refine zAl (fun _ => ?_) | refine zBf ?_ | refine zAp (fun _ => ?_))
      refine zCatb (N0 ++ P0 ++ N1 ++ (br.take j).flatMap prB) (prB (m, x)) (by simp only [List.length_append]; omega) ?_
      repeat (first | refine zIxb 0 ?_ | refine zIxb 1 ?_ | refine zIxb 2 ?_ | refine gG ?_ | refine zN1 (fun hlen => ?_) | refine zN2 (fun hlen => ?_) | refine zAl (fun _ => ?_) | refine zBf ?_ | refine zAp (fun _ => ?_))
      exact ⟨j + 1, hj', by omega, x_wkd 0 ⟨rfl, by rw [hsp, ← List.append_assoc]; rfl, trivial⟩ rfl (by repeat (first | exact ag_refl | refine ag_upd rfl ?_ | refine ag_at rfl rfl ?_))⟩
    · have hj' : j = br.length := by have : ¬ j < br.length := by simpa using h
                                     omega
      subst hj'
      rw [List.take_length]
      clear ht hc3 hpl
      repeat (first | refine gG ?_ | refine zN1 (fun hlen => ?_) | refine zN2 (fun hlen => ?_) | refine zAl (fun _ => ?_))
      exact ⟨k + 1, hk', by omega, x_wkd 0 ⟨rfl, by rw [hsn, ← List.append_assoc, ← List.append_assoc]; rfl, trivial⟩ rfl (by repeat (first | exact ag_refl | refine ag_upd rfl ?_ | refine ag_at rfl rfl ?_))⟩
  · have hk' : k = l.length := by have : ¬ k < l.length := by simpa using h
                                  omega
    subst hk'
    repeat (first | refine gG ?_ | refine zN1 (fun hlen => ?_) | refine zN2 (fun hlen => ?_) | refine zAl (fun _ => ?_))
    first | refine zR ?_ | refine zQ ?_
    rw [List.take_length]
    rfl
end Go.Proofs.YthloejmmgdjimaaDoor
namespace Go.Proofs.YthloejmmgdjimaaDoor
open Go.RowKit
structure Wd where
  send : Bool
  msg : Int
instance : Inhabited Wd := ⟨⟨false, 0⟩⟩
@[reducible] def Wd.ts (w : Wd) : List T := [.lit (.bool w.send), iL w.msg]
@[reducible] def Wd.ss (w : Wd) : List T := [iL (if w.send = true then 1 else 2), iL w.msg]
def wdRow (l : List Wd) : T := .row l.length 2 (l.flatMap Wd.ts)
def stpRow (l : List Wd) : T := .row l.length 2 (l.flatMap Wd.ss)
theorem wd_at {l : List Wd} {k : Nat} {w : Wd} (h : l[k]? = some w) : ((l.flatMap Wd.ts).drop (k * 2)).take 2 = Wd.ts w := flat_at Wd.ts 2 (fun _ => rfl) h
theorem stp_at {l : List Wd} {k : Nat} {w : Wd} (h : l[k]? = some w) : ((l.flatMap Wd.ss).drop (k * 2)).take 2 = Wd.ss w := flat_at Wd.ss 2 (fun _ => rfl) h
def followP (l : List Se) : Int → List Wd → Int × Int
  | a, [] => (a, 0)
  | a, w :: ws => if (stAt l a).kind = 3 ∨ ¬ w.send = decide ((stAt l a).kind = 1) then (0, 8) else if nxS (stAt l a).br w.msg < 0 then (0, 4) else followP l (nxS (stAt l a).br w.msg) ws
theorem follow_drop {l : List Se} {a : Int} {ws : List Wd} {k : Nat} {w : Wd} (h : ws[k]? = some w) : followP l a (ws.drop k) = if (stAt l a).kind = 3 ∨ ¬ w.send = decide ((stAt l a).kind = 1) then (0, 8) else if nxS (stAt l a).br w.msg < 0 then (0, 4) else followP l (nxS (stAt l a).br w.msg) (ws.drop (k + 1)) := by
  obtain ⟨h1, h2⟩ := List.getElem?_eq_some_iff.1 h
  rw [List.drop_eq_getElem_cons h1, h2]
  rfl
theorem st_nat {l : List Se} {a : Nat} (h : a < l.length) : ∃ s, l[a]? = some s ∧ stAt l (a : Nat) = s := by
  obtain ⟨s, hs⟩ := nth h
  exact ⟨s, hs, stAt_nat hs⟩
set_option maxRecDepth 100000 in
set_option maxHeartbeats 4000000 in
theorem after_af (l : List Se) (ws : List Wd) : AF Tryd.prog 6 [seRow l, wdRow ws] (· = .tup [iL (if seErr l = 0 then (followP l 0 ws).1 else 0), iL (if seErr l = 0 then (followP l 0 ws).2 else seErr l)]) := by
  have hc := check_af l
  by_cases he : seErr l = 0
  rotate_left
  · rw [if_neg he, if_neg he]
    generalize seErr l = e at *
    have d1 : (!decide (e = 0)) = true := by rw [decide_eq_false he]; rfl
    refine af_enter tok Tryd.func6 Tryd.ntmps6 Tryd.results6 rfl (by kernel_rfl) rfl rfl fun F hX => ?_
    repeat (first | refine gG ?_ | refine zN1 (fun hlen => ?_) | refine zN2 (fun hlen => ?_) | refine zAl (fun _ => ?_))
    refine zCall (hc) ?_
    rintro _ rfl
    repeat (first | refine gG ?_ | refine zN1 (fun hlen => ?_) | refine zN2 (fun hlen => ?_) | refine zAl (fun _ => ?_))
    first | refine zR ?_ | refine zQ ?_
    rfl
  have hl := lok_of he
  rw [if_pos he, if_pos he]
  rw [he] at hc
  have h16 := hl.n16
  have h1 := hl.n1
  refine af_enter tok Tryd.func6 Tryd.ntmps6 Tryd.results6 rfl (by kernel_rfl) rfl rfl fun F hX => ?_
  repeat (first | refine gG ?_ | refine zN1 (fun hlen => ?_) | refine zN2 (fun hlen => ?_) | refine zAl (fun _ => ?_))
  refine zCall (hc) ?_
  rintro _ rfl
  repeat (first | refine gG ?_ | refine zN1 (fun hlen => ?_) | refine zN2 (fun hlen => ?_) | refine zAl (fun _ => ?_))
  generalize hF : followP l 0 ws = r
  clear hc he
  refine x_loop [4, 5, 7, 9, 10, 18, 19, 20, 21, 22, 23, 24, 25, 26, 27, 28, 29, 30, 31, 32, 33, 34, 35, 36, 37, 38, 39, 40, 41, 42, 43] (fun q : Nat × Nat => [(18, .c (iL (q.1 : Nat))), (7, .c (iL (q.2 : Nat)))]) (fun _ => []) (fun q => q.1 ≤ ws.length ∧ q.2 < l.length ∧ followP l (q.2 : Nat) (ws.drop q.1) = r) (fun q => ws.length - q.1) (0, 0) ⟨Nat.zero_le _, h1, hF⟩ ⟨rfl, rfl, trivial⟩ rfl ?_
  rintro ⟨k, a⟩ ⟨hk, ha, hf⟩
  dsimp only at hk ha hf ⊢
  repeat (first | refine gG ?_ | refine zN1 (fun hlen => ?_) | refine zN2 (fun hlen => ?_) | refine zAl (fun _ => ?_))
  refine x_cond rfl (fun h => ?_) (fun h => ?_)
  · have hk' : k < ws.length := by simpa using h
    obtain ⟨⟨b, m⟩, hw⟩ := nth hk'
    obtain ⟨s, hs, hst⟩ := st_nat ha
    have hso := hl.st _ (List.mem_of_getElem? hs)
    have htw := wd_at hw
    have hts := se_at hs
    have hn := next_af s m
    have hnl := nx_lt (n := (l.length : Nat)) (by omega) (l := s.br) (k := m) (fun z hz => ⟨(hso.rng z hz).2.2.1, (hso.rng z hz).2.2.2⟩)
    rw [follow_drop hw, hst] at hf
    clear h hF hw hs hst
    dsimp only at hf
    generalize nxS s.br m = n at *
    obtain ⟨kd, br⟩ := s
    dsimp only at hf
    clear hso
    replace hf := fun _ : Unit => hf
    repeat (first | refine gG ?_ | refine zN1 (fun hlen => ?_) | refine zN2 (fun hlen => ?_) | refine zAl (fun _ => ?_))
    refine zIx k hk' ?_
    repeat (first | refine gG ?_ | refine zN1 (fun hlen => ?_) | refine zN2 (fun hlen => ?_) | refine zAl (fun _ => ?_))
    refine zEl htw rfl ?_
    repeat (first | refine gG ?_ | refine zN1 (fun hlen => ?_) | refine zN2 (fun hlen => ?_) | refine zAl (fun _ => ?_))
    refine zIx a ha ?_
    repeat (first | refine gG ?_ | refine zN1 (fun hlen => ?_) | refine zN2 (fun hlen => ?_) | refine zAl (fun _ => ?_))
    refine zEl hts rfl ?_
    replace hf := hf ()
    by_cases d3 : kd = 3
    · have e3 : decide (kd = 3) = true := decide_eq_true d3
      rw [if_pos (.inl d3)] at hf
      subst hf
      repeat (first | refine gG ?_ | refine zN1 (fun hlen => ?_) | refine zN2 (fun hlen => ?_) | refine zAl (fun _ => ?_))
      first | refine zR ?_ | refine zQ ?_
      rfl
    have e3 : decide (kd = 3) = false := decide_eq_false d3
    by_cases d4 : b = decide (kd = 1)
    rotate_left
    · have e4 : (!decide (b = decide (kd = 1))) = true := by rw [decide_eq_false d4]; rfl
      rw [if_pos (.inr d4)] at hf
      subst hf
      repeat (first | refine gG ?_ | refine zN1 (fun hlen => ?_) | refine zN2 (fun hlen => ?_) | refine zAl (fun _ => ?_))
      refine lo_nebr e4 ?_
      repeat (first | refine gG ?_ | refine zN1 (fun hlen => ?_) | refine zN2 (fun hlen => ?_) | refine zAl (fun _ => ?_))
      first | refine zR ?_ | refine zQ ?_
      rfl
    have e4 : (!decide (b = decide (kd = 1))) = false := by rw [decide_eq_true d4]; rfl
    rw [if_neg (fun h => by rcases h with h | h <;> contradiction)] at hf
    clear d4
    by_cases d5 : n < 0
    · have e5 : decide (n < 0) = true := decide_eq_true d5
      rw [if_pos d5] at hf
      subst hf
      repeat (first | refine gG ?_ | refine zN1 (fun hlen => ?_) | refine zN2 (fun hlen => ?_) | refine zAl (fun _ => ?_))
      refine lo_nebr e4 ?_
      repeat (first | refine gG ?_ | refine zN1 (fun hlen => ?_) | refine zN2 (fun hlen => ?_) | refine zAl (fun _ => ?_))
      refine zCall (hn) ?_
      rintro _ rfl
      repeat (first | refine gG ?_ | refine zN1 (fun hlen => ?_) | refine zN2 (fun hlen => ?_) | refine zAl (fun _ => ?_))
      first | refine zR ?_ | refine zQ ?_
      rfl
    rw [if_neg d5] at hf
    obtain ⟨n, rfl⟩ : ∃ j : Nat, n = (j : Int) := ⟨n.toNat, by omega⟩
    have e5 : decide (((n : Nat) : Int) < 0) = false := decide_eq_false d5
    repeat (first | refine gG ?_ | refine zN1 (fun hlen => ?_) | refine zN2 (fun hlen => ?_) | refine zAl (fun _ => ?_))
    refine lo_nebr e4 ?_
    repeat (first | refine gG ?_ | refine zN1 (fun hlen => ?_) | refine zN2 (fun hlen => ?_) | refine zAl (fun _ => ?_))
    refine zCall (hn) ?_
    rintro _ rfl
    repeat (first | refine gG ?_ | refine zN1 (fun hlen => ?_) | refine zN2 (fun hlen => ?_) | refine zAl (fun _ => ?_))
    exact ⟨(k + 1, n), ⟨hk', by dsimp only; omega, hf⟩, by dsimp only; omega, x_wkd 0 ⟨rfl, rfl, trivial⟩ rfl (by repeat (first | exact ag_refl | refine ag_upd rfl ?_ | refine ag_at rfl rfl ?_))⟩
  · have hk' : k = ws.length := by have : ¬ k < ws.length := by simpa using h
                                   omega
    subst hk'
    rw [List.drop_length] at hf
    subst hf
    repeat (first | refine gG ?_ | refine zN1 (fun hlen => ?_) | refine zN2 (fun hlen => ?_) | refine zAl (fun _ => ?_))
    first | refine zR ?_ | refine zQ ?_
    rfl
end Go.Proofs.YthloejmmgdjimaaDoor
namespace Go.Proofs.YthloejmmgdjimaaDoor
open Go.RowKit
set_option maxRecDepth 100000 in
set_option maxHeartbeats 4000000 in
theorem followed_af (l : List Se) (hl : LOk l) (ws : List Wd) : AF Tryd.prog 15 [seRow l, stpRow ws] (· = .tup [iL (followP l 0 ws).1, iL (followP l 0 ws).2]) := by
  have h16 := hl.n16
  have h1 := hl.n1
  refine af_enter tok Tryd.func15 Tryd.ntmps15 Tryd.results15 rfl (by kernel_rfl) rfl rfl fun F hX => ?_
  repeat (first | refine gG ?_ | refine zN1 (fun hlen => ?_) | refine zN2 (fun hlen => ?_) | refine zAl (fun _ => ?_))
  generalize hF : followP l 0 ws = r
  refine x_loop [4, 5, 6, 8, 9, 12, 13, 14, 15, 16, 17, 18, 19, 20, 21, 22, 23, 24, 25, 26, 27, 28, 29, 30, 31, 32, 33, 34] (fun q : Nat × Nat => [(12, .c (iL (q.1 : Nat))), (6, .c (iL (q.2 : Nat)))]) (fun _ => []) (fun q => q.1 ≤ ws.length ∧ q.2 < l.length ∧ followP l (q.2 : Nat) (ws.drop q.1) = r) (fun q => ws.length - q.1) (0, 0) ⟨Nat.zero_le _, h1, hF⟩ ⟨rfl, rfl, trivial⟩ rfl ?_
  rintro ⟨k, a⟩ ⟨hk, ha, hf⟩
  dsimp only at hk ha hf ⊢
  repeat (first | refine gG ?_ | refine zN1 (fun hlen => ?_) | refine zN2 (fun hlen => ?_) | refine zAl (fun _ => ?_))
  refine x_cond rfl (fun h => ?_) (fun h => ?_)
  · have hk' : k < ws.length := by simpa using h
    obtain ⟨⟨b, m⟩, hw⟩ := nth hk'
    obtain ⟨s, hs, hst⟩ := st_nat ha
    have hso := hl.st _ (List.mem_of_getElem? hs)
    have htw := stp_at hw
    have hts := se_at hs
    have hn := behind_af s m
    have hnl := nx_lt (n := (l.length : Nat)) (by omega) (l := s.br) (k := m) (fun z hz => ⟨(hso.rng z hz).2.2.1, (hso.rng z hz).2.2.2⟩)
    have hkd : (l.flatMap Se.ts)[a * 2 + 0]? = some (iL s.kind) := flat_get Se.ts 2 (fun _ => rfl) hs (j := 0) (by omega)
    rw [follow_drop hw, hst] at hf
    clear h hF hw hs hst
    dsimp only at hf
    have hk1 := hso.k1
    have hk3 := hso.k3
    generalize nxS s.br m = n at *
    obtain ⟨kd, br⟩ := s
    dsimp only at hf hk1 hk3 hkd
    clear hso
    have hcd : (kd = 3 ∨ ¬ b = decide (kd = 1)) ↔ ¬ kd = if b = true then 1 else 2 := by
      have : kd = 1 ∨ kd = 2 ∨ kd = 3 := by omega
      rcases this with rfl | rfl | rfl <;> cases b <;> simp
    change _ = [iL (if b = true then 1 else 2), iL m] at htw
    generalize (if b = true then (1 : Int) else 2) = z at *
    replace hf := fun _ : Unit => hf
    replace hcd := fun _ : Unit => hcd
    repeat (first | refine gG ?_ | refine zN1 (fun hlen => ?_) | refine zN2 (fun hlen => ?_) | refine zAl (fun _ => ?_))
    refine zIx k hk' ?_
    repeat (first | refine gG ?_ | refine zN1 (fun hlen => ?_) | refine zN2 (fun hlen => ?_) | refine zAl (fun _ => ?_))
    refine zEl htw rfl ?_
    repeat (first | refine zIxb 0 ?_ | refine zIxb 1 ?_ | refine zIxb 2 ?_ | refine gG ?_ | refine zN1 (fun hlen => ?_) | refine zN2 (fun hlen => ?_) | refine zAl (fun _ => ?_) | refine zBf ?_ | refine zAp (fun _ => ?_))
    replace hf := hf ()
    replace hcd := hcd ()
    by_cases d3 : kd = z
    rotate_left
    · have e3 : (!decide (kd = z)) = true := by rw [decide_eq_false d3]; rfl
      rw [if_pos (hcd.2 d3)] at hf
      subst hf
      clear hcd
      refine ac_draw [0, 0, 1, 1, 1, 1, 1, 1] [0, 1, 2, 3, 4, 5, 6, 7] (by kernel_rfl) (by kernel_rfl) ?_
      refine gW ?_
      apply w_q; (focus exact rfl); (focus exact rfl); focus (intro _; (refine zIx a ha ?_); exact det_refl)
      refine gW ?_
      apply w_q; (focus exact rfl); (focus exact rfl); focus (intro _; (refine zEl1 hkd ?_); exact det_refl)
      apply w_q; (focus exact rfl); (focus exact rfl); focus (intro _; (refine zIxb 0 ?_); exact det_refl)
      refine gW ?_
      refine w_nil ?_
      repeat (first | refine gG ?_ | refine zN1 (fun hlen => ?_) | refine zN2 (fun hlen => ?_) | refine zAl (fun _ => ?_))
      first | refine zR ?_ | refine zQ ?_
      rfl
    have e3 : (!decide (kd = z)) = false := by rw [decide_eq_true d3]; rfl
    rw [if_neg (fun h => hcd.1 h d3)] at hf
    clear hcd
    by_cases d5 : n < 0
    · have e5 : decide (n < 0) = true := decide_eq_true d5
      rw [if_pos d5] at hf
      subst hf
      refine ac_draw [0, 0, 1, 1, 1, 1, 1, 1] [0, 1, 2, 3, 4, 5, 6, 7] (by kernel_rfl) (by kernel_rfl) ?_
      refine gW ?_
      apply w_q; (focus exact rfl); (focus exact rfl); focus (intro _; (refine zIx a ha ?_); exact det_refl)
      refine gW ?_
      apply w_q; (focus exact rfl); (focus exact rfl); focus (intro _; (refine zEl1 hkd ?_); exact det_refl)
      apply w_q; (focus exact rfl); (focus exact rfl); focus (intro _; (refine zIxb 0 ?_); exact det_refl)
      refine gW ?_
      refine w_nil ?_
      repeat (first | refine gG ?_ | refine zN1 (fun hlen => ?_) | refine zN2 (fun hlen => ?_) | refine zAl (fun _ => ?_))
      refine ac_draw [0, 0, 1, 1, 1, 1, 1, 1] [0, 1, 2, 3, 4, 5, 6, 7] (by kernel_rfl) (by kernel_rfl) ?_
      refine gW ?_
      apply w_q; (focus exact rfl); (focus exact rfl); focus (intro _; (refine zIx a ha ?_); exact det_refl)
      apply w_q; (focus exact rfl); (focus exact rfl); focus (intro _; (refine zEl hts rfl ?_); exact det_refl)
      apply w_q; (focus exact rfl); (focus exact rfl); focus (intro _; (refine zIxb 1 ?_); exact det_refl)
      refine gW ?_
      apply w_q; (focus exact rfl); (focus exact rfl); focus (intro _; (refine zCall hn ?_; rintro _ rfl); exact det_refl)
      refine gW ?_
      refine w_nil ?_
      repeat (first | refine gG ?_ | refine zN1 (fun hlen => ?_) | refine zN2 (fun hlen => ?_) | refine zAl (fun _ => ?_))
      first | refine zR ?_ | refine zQ ?_
      rfl
    rw [if_neg d5] at hf
    obtain ⟨n, rfl⟩ : ∃ j : Nat, n = (j : Int) := ⟨n.toNat, by omega⟩
    have e5 : decide (((n : Nat) : Int) < 0) = false := decide_eq_false d5
    refine ac_draw [0, 0, 1, 1, 1, 1, 1, 1] [0, 1, 2, 3, 4, 5, 6, 7] (by kernel_rfl) (by kernel_rfl) ?_
    refine gW ?_
    apply w_q; (focus exact rfl); (focus exact rfl); focus (intro _; (refine zIx a ha ?_); exact det_refl)
    refine gW ?_
    apply w_q; (focus exact rfl); (focus exact rfl); focus (intro _; (refine zEl1 hkd ?_); exact det_refl)
    apply w_q; (focus exact rfl); (focus exact rfl); focus (intro _; (refine zIxb 0 ?_); exact det_refl)
    refine gW ?_
    refine w_nil ?_
    repeat (first | refine gG ?_ | refine zN1 (fun hlen => ?_) | refine zN2 (fun hlen => ?_) | refine zAl (fun _ => ?_))
    refine ac_draw [0, 0, 1, 1, 1, 1, 1, 1] [0, 1, 2, 3, 4, 5, 6, 7] (by kernel_rfl) (by kernel_rfl) ?_
    refine gW ?_
    apply w_q; (focus exact rfl); (focus exact rfl); focus (intro _; (refine zIx a ha ?_); exact det_refl)
    apply w_q; (focus exact rfl); (focus exact rfl); focus (intro _; (refine zEl hts rfl ?_); exact det_refl)
    apply w_q; (focus exact rfl); (focus exact rfl); focus (intro _; (refine zIxb 1 ?_); exact det_refl)
    refine gW ?_
    apply w_q; (focus exact rfl); (focus exact rfl); focus (intro _; (refine zCall hn ?_; rintro _ rfl); exact det_refl)
    refine gW ?_
    refine w_nil ?_
    repeat (first | refine gG ?_ | refine zN1 (fun hlen => ?_) | refine zN2 (fun hlen => ?_) | refine zAl (fun _ => ?_))
    exact ⟨(k + 1, n), ⟨hk', by dsimp only; omega, hf⟩, by dsimp only; omega, x_wkd 0 ⟨rfl, rfl, trivial⟩ rfl (by repeat (first | exact ag_refl | refine ag_upd rfl ?_ | refine ag_at rfl rfl ?_))⟩
  · have hk' : k = ws.length := by have : ¬ k < ws.length := by simpa using h
                                   omega
    subst hk'
    rw [List.drop_length] at hf
    subst hf
    repeat (first | refine gG ?_ | refine zN1 (fun hlen => ?_) | refine zN2 (fun hlen => ?_) | refine zAl (fun _ => ?_))
    first | refine zR ?_ | refine zQ ?_
    rfl
end Go.Proofs.YthloejmmgdjimaaDoor
namespace Go.Proofs.YthloejmmgdjimaaDoor
open Go.RowKit
theorem AF.out {P : Program} {f : FuncId} {l : List T} {t t' : T} (h : AF P f l (· = t)) (hr : ∀ M u, RT M t u → RT M t' u) : AF P f l (· = t') :=
  ⟨h.1, fun M w vs hg hm hv => (h.2 M w vs hg hm hv).mono fun e w' ⟨v, r, M', he, hR, hx, hmk, hrt, hb⟩ => ⟨v, t', M', he, rfl, hx, hmk, hr _ _ (by have e : r = t := hR; rw [← e]; exact hrt), hb⟩⟩
theorem nil_out {e : Int} : ∀ M u, RT M (.tup [.lit (.slice none 0 0), iL e]) u → RT M (.tup [seRow [], iL e]) u := by
  intro M u h
  simp only [RT, RTs] at h ⊢
  obtain ⟨xs, rfl, a, _, rfl, ha, _, _, rfl, he, rfl⟩ := h
  refine ⟨_, rfl, _, _, rfl, ?_, _, _, rfl, he, rfl⟩
  exact rt_nil (by omega) (by simp only [RT]; exact ha)
theorem dual_sml {l : List Se} (h : LOk l) : Sml (l.map dualS) := by
  have h1 := h.sml
  refine ⟨by rw [List.length_map]; exact h1.n, fun s hs => ?_⟩
  obtain ⟨t, ht, rfl⟩ := List.mem_map.1 hs
  have h2 := h1.st t ht
  refine ⟨?_, ?_, h2.2.2⟩
  · unfold dualS; dsimp only; split
    · omega
    · split <;> omega
  · unfold dualS; dsimp only; split
    · omega
    · split <;> omega
set_option maxRecDepth 100000 in
set_option maxHeartbeats 8000000 in
theorem sessionSays_law (a b : List Se) (ws : List Wd) (ha : a.length ≤ 1048576) (hb : b.length ≤ 1048576) (hab : ∀ s ∈ a, s.br.length ≤ 1048576) (hbb : ∀ s ∈ b, s.br.length ≤ 1048576) (hw : ws.length ≤ 1048576) : AF Tryd.prog 3 [seRow a, seRow b, wdRow ws] (· = .lit (.bool true)) := by
  have c1 := dual_af a
  have c2 := least_af a
  have c3 := after_af a ws
  have c4 := sub_af a b
  have c5 := same_af a b
  have c6 := machine_af a ha hab
  have c7 := machine_af b hb hbb
  have c8 := sessErr_af a
  have c9 := sessErr_af b
  have c10 := check_af a
  have c11 := check_af b
  by_cases ea : seErr a = 0
  rotate_left
  · rw [if_neg ea] at c1 c2
    replace c1 := c1.out nil_out
    replace c2 := c2.out nil_out
    rw [if_neg ea, if_neg ea] at c3
    have hE : subE a b = seErr a := by unfold subE; rw [if_pos ea]
    rw [hE, decide_eq_false ea, Bool.false_and] at c4 c5
    generalize seErr a = e at *
    generalize seErr b = e' at *
    have d1 : (!decide (e = e)) = false := by simp
    have d2 : (!decide (e' = e')) = false := by simp
    have d3 : (!decide (e = 0)) = true := by rw [decide_eq_false ea]; rfl
    have d4 : decide (e = e) = true := by simp
    clear hE ea hab hbb
    refine af_enter tok Tryd.func3 Tryd.ntmps3 Tryd.results3 rfl (by kernel_rfl) rfl rfl fun F hX => ?_
    repeat (first | refine gG ?_ | refine zN1 (fun hlen => ?_) | refine zN2 (fun hlen => ?_) | refine zAl (fun _ => ?_) | refine zAp (fun _ => ?_))
    refine zCall (c1) ?_
    rintro _ rfl
    repeat (first | refine gG ?_ | refine zN1 (fun hlen => ?_) | refine zN2 (fun hlen => ?_) | refine zAl (fun _ => ?_) | refine zAp (fun _ => ?_))
    refine zCall (c2) ?_
    rintro _ rfl
    repeat (first | refine gG ?_ | refine zN1 (fun hlen => ?_) | refine zN2 (fun hlen => ?_) | refine zAl (fun _ => ?_) | refine zAp (fun _ => ?_))
    refine zCall (c3) ?_
    rintro _ rfl
    repeat (first | refine gG ?_ | refine zN1 (fun hlen => ?_) | refine zN2 (fun hlen => ?_) | refine zAl (fun _ => ?_) | refine zAp (fun _ => ?_))
    refine zCall (c4) ?_
    rintro _ rfl
    repeat (first | refine gG ?_ | refine zN1 (fun hlen => ?_) | refine zN2 (fun hlen => ?_) | refine zAl (fun _ => ?_) | refine zAp (fun _ => ?_))
    refine zCall (c5) ?_
    rintro _ rfl
    repeat (first | refine gG ?_ | refine zN1 (fun hlen => ?_) | refine zN2 (fun hlen => ?_) | refine zAl (fun _ => ?_) | refine zAp (fun _ => ?_))
    refine zCall (c6) ?_
    rintro _ rfl
    repeat (first | refine gG ?_ | refine zN1 (fun hlen => ?_) | refine zN2 (fun hlen => ?_) | refine zAl (fun _ => ?_) | refine zAp (fun _ => ?_))
    refine zCall (c7) ?_
    rintro _ rfl
    repeat (first | refine gG ?_ | refine zN1 (fun hlen => ?_) | refine zN2 (fun hlen => ?_) | refine zAl (fun _ => ?_) | refine zAp (fun _ => ?_))
    refine zCall (c8) ?_
    rintro _ rfl
    repeat (first | refine gG ?_ | refine zN1 (fun hlen => ?_) | refine zN2 (fun hlen => ?_) | refine zAl (fun _ => ?_) | refine zAp (fun _ => ?_))
    refine zCall (c9) ?_
    rintro _ rfl
    repeat (first | refine gG ?_ | refine zN1 (fun hlen => ?_) | refine zN2 (fun hlen => ?_) | refine zAl (fun _ => ?_) | refine zAp (fun _ => ?_))
    refine zCall (c10) ?_
    rintro _ rfl
    repeat (first | refine gG ?_ | refine zN1 (fun hlen => ?_) | refine zN2 (fun hlen => ?_) | refine zAl (fun _ => ?_) | refine zAp (fun _ => ?_))
    refine zCall (c11) ?_
    rintro _ rfl
    repeat (first | refine gG ?_ | refine zN1 (fun hlen => ?_) | refine zN2 (fun hlen => ?_) | refine zAl (fun _ => ?_) | refine zAp (fun _ => ?_))
    refine lo_add rfl rfl (r := 0) (by rfl) ?_
    have d5 : decide ((0 : Int) = 0) = true := rfl
    repeat (first | refine gG ?_ | refine zN1 (fun hlen => ?_) | refine zN2 (fun hlen => ?_) | refine zAl (fun _ => ?_) | refine zAp (fun _ => ?_))
    first | refine zR ?_ | refine zQ ?_
    rfl
  have la := lok_of ea
  rw [if_pos ea, ea] at c1 c2
  rw [if_pos ea, if_pos ea] at c3
  rw [ea] at c8 c10
  have k1 := machine_af (a.map dualS) (by rw [List.length_map]; exact ha) (fun s hs => by obtain ⟨t, ht, rfl⟩ := List.mem_map.1 hs; exact hab t ht)
  have k2 := marks_af _ (dual_sml la)
  have k3 := turned_af a la
  have k4 := machine_af (leastL a) (by have := (least_sml la).n; omega) (fun s hs => by have := ((least_sml la).st s hs).2.2.1; omega)
  have k5 := marks_af _ (least_sml la)
  have k6 := fewest_af a la
  have k7 := followed_af a la ws
  have hwt := fun {k : Nat} {w : Wd} (h : ws[k]? = some w) => flat_snoc2 Wd.ss h
  generalize followP a 0 ws = p at *
  obtain ⟨p1, p2⟩ := p
  dsimp only at c3 k7
  have hle1 : (a.map dualS).length ≤ 9223372036854775807 := by rw [List.length_map]; omega
  generalize marksB (a.map dualS) = m1 at *
  generalize marksB (leastL a) = m2 at *
  generalize a.map dualS = da at *
  generalize leastL a = le at *
  generalize hE : subE a b = E1 at *
  have hE2 : E1 = seErr b := by rw [← hE]; unfold subE; rw [if_neg (fun h => h ea)]
  subst hE2
  have kb1 : seErr b = 0 → AF Tryd.prog 16 [seRow a, seRow b] (· = .lit (.bool (subB a b))) := fun h => below_af a b la (lok_of h)
  have kb2 : seErr b = 0 → AF Tryd.prog 16 [seRow b, seRow a] (· = .lit (.bool (subB b a))) := fun h => below_af b a (lok_of h) la
  generalize subB a b = X at *
  generalize subB b a = Y at *
  generalize seErr b = e' at *
  have d1 : (!decide ((0 : Int) = 0)) = false := rfl
  have d2 : (!decide (e' = e')) = false := by simp
  have d3 : (!decide (bs m1 = bs m1)) = false := by simp
  have d4 : (!decide (bs m2 = bs m2)) = false := by simp
  have d5 : (!decide (p1 = p1)) = false := by simp
  have d6 : (!decide (p2 = p2)) = false := by simp
  have d7 : decide (e' = e') = true := by simp
  clear hE ea hab hbb la
  refine af_enter tok Tryd.func3 Tryd.ntmps3 Tryd.results3 rfl (by kernel_rfl) rfl rfl fun F hX => ?_
  repeat (first | refine gG ?_ | refine zN1 (fun hlen => ?_) | refine zN2 (fun hlen => ?_) | refine zAl (fun _ => ?_) | refine zAp (fun _ => ?_))
  refine zCall (c1) ?_
  rintro _ rfl
  repeat (first | refine gG ?_ | refine zN1 (fun hlen => ?_) | refine zN2 (fun hlen => ?_) | refine zAl (fun _ => ?_) | refine zAp (fun _ => ?_))
  refine zCall (c2) ?_
  rintro _ rfl
  repeat (first | refine gG ?_ | refine zN1 (fun hlen => ?_) | refine zN2 (fun hlen => ?_) | refine zAl (fun _ => ?_) | refine zAp (fun _ => ?_))
  refine zCall (c3) ?_
  rintro _ rfl
  repeat (first | refine gG ?_ | refine zN1 (fun hlen => ?_) | refine zN2 (fun hlen => ?_) | refine zAl (fun _ => ?_) | refine zAp (fun _ => ?_))
  refine zCall (c4) ?_
  rintro _ rfl
  repeat (first | refine gG ?_ | refine zN1 (fun hlen => ?_) | refine zN2 (fun hlen => ?_) | refine zAl (fun _ => ?_) | refine zAp (fun _ => ?_))
  refine zCall (c5) ?_
  rintro _ rfl
  repeat (first | refine gG ?_ | refine zN1 (fun hlen => ?_) | refine zN2 (fun hlen => ?_) | refine zAl (fun _ => ?_) | refine zAp (fun _ => ?_))
  refine zCall (c6) ?_
  rintro _ rfl
  repeat (first | refine gG ?_ | refine zN1 (fun hlen => ?_) | refine zN2 (fun hlen => ?_) | refine zAl (fun _ => ?_) | refine zAp (fun _ => ?_))
  refine zCall (c7) ?_
  rintro _ rfl
  repeat (first | refine gG ?_ | refine zN1 (fun hlen => ?_) | refine zN2 (fun hlen => ?_) | refine zAl (fun _ => ?_) | refine zAp (fun _ => ?_))
  refine zCall (c8) ?_
  rintro _ rfl
  repeat (first | refine gG ?_ | refine zN1 (fun hlen => ?_) | refine zN2 (fun hlen => ?_) | refine zAl (fun _ => ?_) | refine zAp (fun _ => ?_))
  refine zCall (c9) ?_
  rintro _ rfl
  repeat (first | refine gG ?_ | refine zN1 (fun hlen => ?_) | refine zN2 (fun hlen => ?_) | refine zAl (fun _ => ?_) | refine zAp (fun _ => ?_))
  refine zCall (c10) ?_
  rintro _ rfl
  repeat (first | refine gG ?_ | refine zN1 (fun hlen => ?_) | refine zN2 (fun hlen => ?_) | refine zAl (fun _ => ?_) | refine zAp (fun _ => ?_))
  refine zCall (c11) ?_
  rintro _ rfl
  repeat (first | refine gG ?_ | refine zN1 (fun hlen => ?_) | refine zN2 (fun hlen => ?_) | refine zAl (fun _ => ?_) | refine zAp (fun _ => ?_))
  refine zCall (k1) ?_
  rintro _ rfl
  repeat (first | refine gG ?_ | refine zN1 (fun hlen => ?_) | refine zN2 (fun hlen => ?_) | refine zAl (fun _ => ?_) | refine zAp (fun _ => ?_))
  refine zCall (k2) ?_
  rintro _ rfl
  repeat (first | refine gG ?_ | refine zN1 (fun hlen => ?_) | refine zN2 (fun hlen => ?_) | refine zAl (fun _ => ?_) | refine zAp (fun _ => ?_))
  refine zCall (k3) ?_
  rintro _ rfl
  repeat (first | refine gG ?_ | refine zN1 (fun hlen => ?_) | refine zN2 (fun hlen => ?_) | refine zAl (fun _ => ?_) | refine zAp (fun _ => ?_))
  refine zCall (k2) ?_
  rintro _ rfl
  repeat (first | refine gG ?_ | refine zN1 (fun hlen => ?_) | refine zN2 (fun hlen => ?_) | refine zAl (fun _ => ?_) | refine zAp (fun _ => ?_))
  refine zCall (k4) ?_
  rintro _ rfl
  repeat (first | refine gG ?_ | refine zN1 (fun hlen => ?_) | refine zN2 (fun hlen => ?_) | refine zAl (fun _ => ?_) | refine zAp (fun _ => ?_))
  refine zCall (k5) ?_
  rintro _ rfl
  repeat (first | refine gG ?_ | refine zN1 (fun hlen => ?_) | refine zN2 (fun hlen => ?_) | refine zAl (fun _ => ?_) | refine zAp (fun _ => ?_))
  refine zCall (k6) ?_
  rintro _ rfl
  repeat (first | refine gG ?_ | refine zN1 (fun hlen => ?_) | refine zN2 (fun hlen => ?_) | refine zAl (fun _ => ?_) | refine zAp (fun _ => ?_))
  refine zCall (k5) ?_
  rintro _ rfl
  repeat (first | refine gG ?_ | refine zN1 (fun hlen => ?_) | refine zN2 (fun hlen => ?_) | refine zAl (fun _ => ?_) | refine zAp (fun _ => ?_))
  refine x_own 21 40 2 rfl rfl rfl rfl rfl ?_
  refine x_loop [21, 23, 24, 144, 145, 146, 147, 148, 149, 150, 151, 152, 153, 154, 155, 156, 157] (fun q : Nat × Value => [(144, .c (iL (q.1 : Nat))), (21, .own 0 q.2)]) (fun q => [.row q.2 40 2 q.1 ((ws.take q.1).flatMap Wd.ss)]) (fun q => q.1 ≤ ws.length) (fun q => ws.length - q.1) (0, .slice none 0 0) (Nat.zero_le _) ⟨rfl, rfl, trivial⟩ rfl ?_
  rintro ⟨k, v⟩ hk
  dsimp only at hk ⊢
  repeat (first | refine gG ?_ | refine zN1 (fun hlen => ?_) | refine zN2 (fun hlen => ?_) | refine zAl (fun _ => ?_) | refine zAp (fun _ => ?_))
  refine x_cond rfl (fun h => ?_) (fun h => ?_)
  · have hk' : k < ws.length := by simpa using h
    obtain ⟨⟨s, m⟩, hs⟩ := nth hk'
    have ht := wd_at hs
    replace hwt := hwt hs
    clear h hs c1 c2 c3 c4 c5 c6 c7 c8 c9 c10 c11 k1 k2 k3 k4 k5 k6 k7 kb1 kb2
    cases s
    · repeat (first | refine gG ?_ | refine zN1 (fun hlen => ?_) | refine zN2 (fun hlen => ?_) | refine zAl (fun _ => ?_) | refine zAp (fun _ => ?_))
      refine zIx k hk' ?_
      repeat (first | refine gG ?_ | refine zN1 (fun hlen => ?_) | refine zN2 (fun hlen => ?_) | refine zAl (fun _ => ?_) | refine zAp (fun _ => ?_))
      refine zEl ht rfl ?_
      repeat (first | refine gG ?_ | refine zN1 (fun hlen => ?_) | refine zN2 (fun hlen => ?_) | refine zAl (fun _ => ?_) | refine zAp (fun _ => ?_))
      refine zBda ?_
      repeat (first | refine gG ?_ | refine zN1 (fun hlen => ?_) | refine zN2 (fun hlen => ?_) | refine zAl (fun _ => ?_) | refine zAp (fun _ => ?_))
      exact ⟨(k + 1, _), hk', by dsimp only; omega, x_wkd 1 ⟨rfl, rfl, trivial⟩ (by dsimp only; rw [← hwt]; rfl) (by repeat (first | exact ag_refl | refine ag_upd rfl ?_ | refine ag_at rfl rfl ?_))⟩
    · repeat (first | refine gG ?_ | refine zN1 (fun hlen => ?_) | refine zN2 (fun hlen => ?_) | refine zAl (fun _ => ?_) | refine zAp (fun _ => ?_))
      refine zIx k hk' ?_
      repeat (first | refine gG ?_ | refine zN1 (fun hlen => ?_) | refine zN2 (fun hlen => ?_) | refine zAl (fun _ => ?_) | refine zAp (fun _ => ?_))
      refine zEl ht rfl ?_
      repeat (first | refine gG ?_ | refine zN1 (fun hlen => ?_) | refine zN2 (fun hlen => ?_) | refine zAl (fun _ => ?_) | refine zAp (fun _ => ?_))
      refine zBda ?_
      repeat (first | refine gG ?_ | refine zN1 (fun hlen => ?_) | refine zN2 (fun hlen => ?_) | refine zAl (fun _ => ?_) | refine zAp (fun _ => ?_))
      exact ⟨(k + 1, _), hk', by dsimp only; omega, x_wkd 1 ⟨rfl, rfl, trivial⟩ (by dsimp only; rw [← hwt]; rfl) (by repeat (first | exact ag_refl | refine ag_upd rfl ?_ | refine ag_at rfl rfl ?_))⟩
  have hk' : k = ws.length := by have : ¬ k < ws.length := by simpa using h
                                 omega
  subst hk'
  rw [List.take_length]
  clear h hwt hk
  repeat (first | refine gG ?_ | refine zN1 (fun hlen => ?_) | refine zN2 (fun hlen => ?_) | refine zAl (fun _ => ?_) | refine zAp (fun _ => ?_))
  refine zPeek (k7) ?_
  rintro _ rfl
  refine ⟨rfl, ?_⟩
  by_cases eb : e' = 0
  rotate_left
  · have d8 : (!decide (e' = 0)) = true := by rw [decide_eq_false eb]; rfl
    have d9 : (!(decide (e' = 0) && X)) = true := by rw [decide_eq_false eb]; rfl
    have d10 : (!(decide (e' = 0) && (X && Y))) = true := by rw [decide_eq_false eb]; rfl
    repeat (first | refine gG ?_ | refine zN1 (fun hlen => ?_) | refine zN2 (fun hlen => ?_) | refine zAl (fun _ => ?_) | refine zAp (fun _ => ?_))
    first | refine zR ?_ | refine zQ ?_
    rw [d10]
    rfl
  · subst eb
    replace kb1 := kb1 rfl
    replace kb2 := kb2 rfl
    have d8 : decide ((0 : Int) = 0) = true := rfl
    cases X
    · repeat (first | refine gG ?_ | refine zN1 (fun hlen => ?_) | refine zN2 (fun hlen => ?_) | refine zAl (fun _ => ?_) | refine zAp (fun _ => ?_))
      refine zCall (kb1) ?_
      rintro _ rfl
      repeat (first | refine gG ?_ | refine zN1 (fun hlen => ?_) | refine zN2 (fun hlen => ?_) | refine zAl (fun _ => ?_) | refine zAp (fun _ => ?_))
      refine lo_eqbr (a := decide ((0 : Int) = 0) && false) (b := false) (r := true) (by simp) ?_
      repeat (first | refine gG ?_ | refine zN1 (fun hlen => ?_) | refine zN2 (fun hlen => ?_) | refine zAl (fun _ => ?_) | refine zAp (fun _ => ?_))
      refine zCall (kb1) ?_
      rintro _ rfl
      repeat (first | refine gG ?_ | refine zN1 (fun hlen => ?_) | refine zN2 (fun hlen => ?_) | refine zAl (fun _ => ?_) | refine zAp (fun _ => ?_))
      refine lo_eqbr (a := decide ((0 : Int) = 0) && (false && Y)) (b := false) (r := true) (by simp) ?_
      repeat (first | refine gG ?_ | refine zN1 (fun hlen => ?_) | refine zN2 (fun hlen => ?_) | refine zAl (fun _ => ?_) | refine zAp (fun _ => ?_))
      first | refine zR ?_ | refine zQ ?_
      rfl
    · repeat (first | refine gG ?_ | refine zN1 (fun hlen => ?_) | refine zN2 (fun hlen => ?_) | refine zAl (fun _ => ?_) | refine zAp (fun _ => ?_))
      refine zCall (kb1) ?_
      rintro _ rfl
      repeat (first | refine gG ?_ | refine zN1 (fun hlen => ?_) | refine zN2 (fun hlen => ?_) | refine zAl (fun _ => ?_) | refine zAp (fun _ => ?_))
      refine lo_eqbr (a := decide ((0 : Int) = 0) && true) (b := true) (r := true) (by simp) ?_
      repeat (first | refine gG ?_ | refine zN1 (fun hlen => ?_) | refine zN2 (fun hlen => ?_) | refine zAl (fun _ => ?_) | refine zAp (fun _ => ?_))
      refine zCall (kb1) ?_
      rintro _ rfl
      repeat (first | refine gG ?_ | refine zN1 (fun hlen => ?_) | refine zN2 (fun hlen => ?_) | refine zAl (fun _ => ?_) | refine zAp (fun _ => ?_))
      refine zCall (kb2) ?_
      rintro _ rfl
      repeat (first | refine gG ?_ | refine zN1 (fun hlen => ?_) | refine zN2 (fun hlen => ?_) | refine zAl (fun _ => ?_) | refine zAp (fun _ => ?_))
      refine lo_eqbr (a := decide ((0 : Int) = 0) && (true && Y)) (b := Y) (r := true) (by simp) ?_
      repeat (first | refine gG ?_ | refine zN1 (fun hlen => ?_) | refine zN2 (fun hlen => ?_) | refine zAl (fun _ => ?_) | refine zAp (fun _ => ?_))
      first | refine zR ?_ | refine zQ ?_
      rfl
end Go.Proofs.YthloejmmgdjimaaDoor
namespace Go.Proofs.YthloejmmgdjimaaDoor
open Go.ChangeShapes Go.WideShapes Go.ChangeAt Go.RowKit Go.Deep
section
variable {H : Type} {enc : TypeId × Value → H} {P : Program} {w : World} {base : Nat} {spare : Nat → Bool} {held : Bool}
theorem bulk_one (d : DataW H) : 1 ≤ Rows.uptoBulk d := by
  cases d with
  | lit l => cases l <;> simp [Rows.uptoBulk]
  | _ => simp [Rows.uptoBulk]
end
end Go.Proofs.YthloejmmgdjimaaDoor
