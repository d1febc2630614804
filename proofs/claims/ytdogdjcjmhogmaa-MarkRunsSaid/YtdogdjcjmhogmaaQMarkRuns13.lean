/-
  Texts of this proof, part 13: Kqc.
-/
import Derived.Test.YtdogdjcjmhogmaaQMarkRuns12
namespace Go.Proofs.Ytdogdjcjmhogmaa
open Go.RowKit
def ksP (n a b : Nat) : List (Nat × Nat) := ((List.range a).flatMap fun a' => (List.range n).map fun b' => (a', b')) ++ (List.range b).map fun b' => (a, b')
theorem ksP_succ (n a b : Nat) : ksP n a (b + 1) = ksP n a b ++ [(a, b)] := by
  unfold ksP
  rw [List.range_succ, List.map_append, List.append_assoc]
  rfl
theorem ksP_next (n a : Nat) : ksP n a n = ksP n (a + 1) 0 := by
  unfold ksP
  rw [List.range_succ, List.flatMap_append]
  simp
theorem ksP_end (n : Nat) : ksP n n 0 = kN n := by unfold ksP kN; simp
theorem ksP_new (n a b : Nat) : (a, b) ∉ ksP n a b := by
  intro h
  unfold ksP at h
  rcases List.mem_append.1 h with h | h
  · obtain ⟨a', h1, h2⟩ := List.mem_flatMap.1 h
    obtain ⟨b', _, e⟩ := List.mem_map.1 h2
    have := (Prod.mk.inj e).1
    have := List.mem_range.1 h1
    omega
  · obtain ⟨b', h1, e⟩ := List.mem_map.1 h
    have := (Prod.mk.inj e).2
    have := List.mem_range.1 h1
    omega
def updW (wb : Nat → Nat → Nat) (a b p : Nat) : Nat → Nat → Nat := fun a' b' => if a' = a ∧ b' = b then p else wb a' b'
def chN (wb : Nat → Nat → Nat) (p : Nat × Nat) : List Blk := chL (wb p.1 p.2) (.slice none 0 0) ch0
@[reducible] def suB (b4 bn by_ my : Nat) (vn : Value) (l : List Int) (wb : Nat → Nat → Nat) (ks : List (Nat × Nat)) : List Blk :=
  [reS b4, .box bn 22 [.own 2 vn], .row vn 3 1 l.length (l.flatMap intTs), .box by_ 154 [.own 4 (.map (some my))], .mp my (mkeys pI (tabK (wpT wb) (ks.map cI)))] ++ ks.flatMap (chN wb)
theorem tab_wb (wb : Nat → Nat → Nat) (n a b p : Nat) : mput ((a : Int), (b : Int)) (.lit (.pointer (some ⟨p, 0, none⟩))) (tabK (wpT wb) ((ksP n a b).map cI)) = tabK (wpT (updW wb a b p)) ((ksP n a (b + 1)).map cI) := by
  have hnew : cI (a, b) ∉ (ksP n a b).map cI := fun h => by
    obtain ⟨q, hq, e⟩ := List.mem_map.1 h
    obtain ⟨q1, q2⟩ := q
    unfold cI at e
    have h1 := (Prod.mk.inj e).1
    have h2 := (Prod.mk.inj e).2
    dsimp only at h1 h2
    rw [show q1 = a by omega, show q2 = b by omega] at hq
    exact ksP_new n a b hq
  have h1 := tab_new (wpT (updW wb a b p)) (cI (a, b)) hnew
  have h2 : tabK (wpT (updW wb a b p)) ((ksP n a b).map cI) = tabK (wpT wb) ((ksP n a b).map cI) := by
    unfold tabK
    rw [List.map_map, List.map_map]
    refine List.map_congr_left fun q hq => ?_
    have hne : ¬ (q.1 = a ∧ q.2 = b) := fun e => ksP_new n a b (by have : q = (a, b) := Prod.ext e.1 e.2; rw [← this]; exact hq)
    simp only [Function.comp]
    unfold wpT updW cI
    simp only [Int.toNat_natCast, if_neg hne]
  have h3 : wpT (updW wb a b p) (cI (a, b)) = .lit (.pointer (some ⟨p, 0, none⟩)) := by
    unfold wpT updW cI
    simp
  rw [h2, h3] at h1
  rw [ksP_succ, List.map_append]
  exact h1
theorem fam_wb (wb : Nat → Nat → Nat) (n a b p : Nat) : (ksP n a (b + 1)).flatMap (chN (updW wb a b p)) = (ksP n a b).flatMap (chN wb) ++ chL p (.slice none 0 0) ch0 := by
  rw [ksP_succ, List.flatMap_append, List.flatMap_singleton]
  congr 1
  · unfold List.flatMap
    refine congrArg _ (List.map_congr_left fun q hq => ?_)
    have hne : ¬ (q.1 = a ∧ q.2 = b) := fun e => ksP_new n a b (by have : q = (a, b) := Prod.ext e.1 e.2; rw [← this]; exact hq)
    unfold chN updW
    rw [if_neg hne]
  · unfold chN updW
    simp
theorem wk_boxEnd {F : Frm} {τ : Nat → AV} {H : List Blk} {N : Nat} {b : Nat} {t : TypeId} {cs : List AV} (cs' : List AV) (hz : Res cs cs') : Wk F ⟨τ, H ++ [.box b t cs], N⟩ ⟨τ, H ++ [.box b t cs'], N⟩ := by
  have h := wk_boxR (F := F) (τ := τ) (N := N) (hp := H ++ [.box b t cs]) (b := b) (t := t) (cs := cs) H.length cs' (by simp) hz
  rwa [List.set_append_right _ _ (Nat.le_refl _), Nat.sub_self, List.set_cons_zero] at h
theorem perm_mk {s a b c d e f g h : Blk} {R : List Blk} : ((c :: ((a :: ([s, b, f, d, h] ++ R ++ [e])) ++ [g]))).Perm ([a, b, c, d, e, f, g, h] ++ (s :: R)) := by
  simpa using perm_parts [[c], [a], [s], [b], [f], [d], [h], R, [e], [g]] [1, 3, 0, 5, 8, 4, 9, 6, 2, 7] (show List.Perm _ (List.range 10) by decide)
/-- the blocks of a round -/
@[reducible] def rM (x : Ry) (b4 : Nat) (sv : Nat → Nat → Value) (Q : Qs) : List Blk := hR x Q.bg Q.now Q.st ++ (reS b4 :: (kN x.n).flatMap (chF x sv Q.ch))
@[reducible] def ry0 (bb bn bs by_ my : Nat) (vb vn vs : Value) (wb : Nat → Nat → Nat) (n : Nat) : Ry := ⟨bb, bn, bs, by_, my, n, vb, vn, vs, wb⟩
def updV (sv : Nat → Nat → Value) (a b : Nat) (v : Value) : Nat → Nat → Value := fun a' b' => if a' = a ∧ b' = b then v else sv a' b'
theorem rM_allR (x : Ry) (b4 : Nat) (sv : Nat → Nat → Value) (Q : Qs) : (rM x b4 sv Q).Perm (allR x sv Q ++ [reS b4]) := by
  simpa using perm_parts [hR x Q.bg Q.now Q.st, [reS b4], (kN x.n).flatMap (chF x sv Q.ch)] [0, 2, 1] (show List.Perm _ (List.range 3) by decide)
theorem perm_q1 {H C R : List Blk} {s : Blk} : (s :: (H ++ (C ++ R))).Perm (H ++ (C ++ (s :: R))) := by
  simpa using perm_parts [[s], H, C, R] [1, 2, 0, 3] (show List.Perm _ (List.range 4) by decide)
theorem rM_out (x : Ry) (b4 : Nat) (sv : Nat → Nat → Value) (Q : Qs) {a b j : Nat} (hj : (kN x.n)[j]? = some (a, b)) : (rM x b4 sv Q).Perm (hR x Q.bg Q.now Q.st ++ (chL (x.wb a b) (sv a b) (Q.ch a b) ++ (reS b4 :: ((kN x.n).eraseIdx j).flatMap (chF x sv Q.ch)))) :=
  (List.perm_middle.trans ((ch_out x sv sv Q.ch Q.ch (hR x Q.bg Q.now Q.st) hj (fun _ _ _ _ _ => rfl) (fun _ _ _ => rfl)).cons _)).trans perm_q1
theorem rM_in (x : Ry) (b4 : Nat) (sv : Nat → Nat → Value) (Q : Qs) {a b j : Nat} (hj : (kN x.n)[j]? = some (a, b)) (bg : Nat → Bool) (now : List Int) (st : Nat → Int) (v : Value) (c : Ch) : (hR x bg now st ++ (chL (x.wb a b) v c ++ (reS b4 :: ((kN x.n).eraseIdx j).flatMap (chF x sv Q.ch)))).Perm (rM x b4 (updV sv a b v) ⟨now, updC Q.ch a b c, bg, st⟩) := by
  have h := ch_out x sv (updV sv a b v) Q.ch (updC Q.ch a b c) (hR x bg now st) hj (fun a' b' _ _ hne => by unfold updC; rw [if_neg hne]) (fun a' b' hne => by unfold updV; rw [if_neg hne])
  rw [updC_at, show updV sv a b v a b = v from if_pos ⟨rfl, rfl⟩] at h
  exact (perm_q1.symm.trans ((h.symm).cons _)).trans List.perm_middle.symm
theorem now_eqR (x : Ry) (bg : Nat → Bool) (now : List Int) (st : Nat → Int) (R : List Blk) (t : Nat) (z : Int) : (hR x bg now st ++ R).set 5 (.row x.vn 3 1 now.length ((now.flatMap intTs).set (t * 1) (iL z))) = hR x bg (now.set t z) st ++ R := by
  simp only [hR, ints_set, List.length_set]
  rfl
theorem wk_fzS {F : Frm} {τ : Nat → AV} {hp : List Blk} {N : Nat} (s : Nat) {i : Nat} {v : Value} {e : TypeId} {sz n : Nat} {ts : List T} (hs : τ s = .own i v) (hi : hp[i]? = some (.row v e sz n ts)) : Wk F ⟨τ, hp, N⟩ ⟨upd N s (.c (.row n sz ts)) τ, hp.set i .dead, N⟩ := by
  intro M a w hr
  obtain ⟨h1, h2⟩ := heap_frz hr.heap hi
  refine ⟨_, fun k => ?_, hr.size, hr.defers, h1⟩
  have h3 := hr.tmps k
  simp only [upd]
  cases hc : Nat.beq k s with
  | false => simp only [Bool.false_and, cond_false]; exact RA.mono (frB_sub _ _ _) _ _ h3
  | true =>
    obtain rfl := Nat.eq_of_beq_eq_true hc
    cases hN : Nat.blt k N with
    | false => simp only [Bool.and_false, cond_false]; exact RA.mono (frB_sub _ _ _) _ _ h3
    | true =>
      simp only [hs, RA] at h3
      simp only [Bool.and_true, cond_true, RA]
      rw [h3.1]; exact h2
set_option maxRecDepth 100000 in
set_option maxHeartbeats 16000000 in
theorem mked_ok (l : List Int) (ds : List Md) (he : markErr l ds = 0) : AF Try.prog 35 [intRow l, mdRow ds] (· = .tup [markT l ds, iL 0]) := by
  have hl : l.length ≤ 8 ∧ ds.length ≤ 400 ∧ l.any outC = false := by
    unfold markErr at he
    have c1 : ¬ (8 < l.length ∨ 400 < ds.length) := fun h => absurd he (by rw [if_pos h]; decide)
    rw [if_neg c1] at he
    refine ⟨by omega, by omega, ?_⟩
    cases h : l.any outC with
    | false => rfl
    | true => exact absurd he (by rw [h, if_pos rfl]; decide)
  obtain ⟨hl, hd, ha⟩ := hl
  have hal : ∀ a ∈ l, decide (a < 0) = false ∧ decide (a > 1000000) = false := fun a hm => by
    have := List.any_eq_false.1 ha a hm
    unfold outC at this
    simp at this
    exact ⟨decide_eq_false (by omega), decide_eq_false (by omega)⟩
  have d2 : decide (((l.length : Nat) : Int) > 8) = false := decide_eq_false (by omega)
  have d3 : decide (((ds.length : Nat) : Int) > 400) = false := decide_eq_false (by omega)
  clear he ha
  refine af_enter tok Try.func35 Try.ntmps35 Try.results35 rfl (by kernel_rfl) rfl rfl fun F hX => ?_
  repeat (first | refine gG ?_ | refine zN1 (fun hlen => ?_) | refine zN2 (fun hlen => ?_) | refine zAl (fun _ => ?_) | refine zBf ?_ | refine zAp (fun _ => ?_))
  rename_i b4 _ b6 _
  refine x_loop [5, 8, 43, 44, 45, 46, 47, 48, 49, 50, 51, 52, 53, 54] (fun k : Nat => [(43, .c (iL (k : Nat)))]) (fun _ => [reS b4, .box b6 3 [.c (iL (l.length : Nat))]]) (fun k => k ≤ l.length) (fun k => l.length - k) 0 (Nat.zero_le _) ⟨rfl, trivial⟩ rfl ?_
  rintro k hk
  repeat (first | refine gG ?_ | refine zN1 (fun hlen => ?_) | refine zN2 (fun hlen => ?_) | refine zAl (fun _ => ?_) | refine zBx (fun _ => ?_) | refine zAp (fun _ => ?_))
  refine x_cond rfl (fun h => ?_) (fun h => ?_)
  · have hk' : k < l.length := by simpa using h
    obtain ⟨a, hka⟩ := nth hk'
    obtain ⟨e1, e2⟩ := hal a (List.mem_of_getElem? hka)
    clear h
    repeat (first | refine gG ?_ | refine zN1 (fun hlen => ?_) | refine zN2 (fun hlen => ?_) | refine zAl (fun _ => ?_) | refine zBx (fun _ => ?_) | refine zAp (fun _ => ?_))
    refine zIx k hk' ?_
    repeat (first | refine gG ?_ | refine zN1 (fun hlen => ?_) | refine zN2 (fun hlen => ?_) | refine zAl (fun _ => ?_) | refine zBx (fun _ => ?_) | refine zAp (fun _ => ?_))
    refine zEl1 (ints_at hka) ?_
    repeat (first | refine gG ?_ | refine zN1 (fun hlen => ?_) | refine zN2 (fun hlen => ?_) | refine zAl (fun _ => ?_) | refine zBx (fun _ => ?_) | refine zAp (fun _ => ?_))
    exact ⟨k + 1, hk', by omega, x_wkd 2 ⟨rfl, trivial⟩ rfl (by repeat (first | exact ag_refl | refine ag_upd rfl ?_ | refine ag_at rfl rfl ?_))⟩
  clear h hk hal
  refine ac_exit ?_
  refine ac_wk (wk_frzqS (i := 1) 6 [iL (l.length : Nat)] rfl rfl (rzs_cons rz_c rzs_nil) rfl) ?_
  refine x_drop 1 (hp' := [reS b4]) rfl ?_
  repeat (first | refine gX ?_ | refine zN1 (fun hlen => ?_) | refine zN2 (fun hlen => ?_) | refine zAl (fun _ => ?_) | refine zBx (fun _ => ?_) | refine zAp (fun _ => ?_))
  refine zBo (fun vn => ?_)
  repeat (first | refine gG ?_ | refine zN1 (fun hlen => ?_) | refine zN2 (fun hlen => ?_) | refine zAl (fun _ => ?_) | refine zBx (fun _ => ?_) | refine zAp (fun _ => ?_))
  refine zMm (fun my => ?_)
  repeat (first | refine gG ?_ | refine zN1 (fun hlen => ?_) | refine zN2 (fun hlen => ?_) | refine zAl (fun _ => ?_) | refine zBx (fun _ => ?_) | refine zAp (fun _ => ?_))
  rename_i v2 bn by_
  refine x_eq (hp' := [reS b4, .row v2 3 1 l.length (l.flatMap intTs), .box bn 22 [.own 1 v2], .mp my [], .box by_ 154 [.own 3 (.map (some my))]]) (by simp only [Nat.zero_add]; rfl) ?_
  refine x_perm (perm_sel _ [reS b4, .box bn 22 [.own 1 v2], .row v2 3 1 l.length (l.flatMap intTs), .box by_ 154 [.own 3 (.map (some my))], .mp my []] 5 [0, 2, 1, 4, 3] (by decide) rfl rfl) ?_
  refine x_boxR 1 [.own 2 v2] ?_
  refine x_boxR 3 [.own 4 (.map (some my))] ?_
  refine x_reptr 9 1 rfl (x_reptr 10 3 rfl ?_)
  refine x_loop [11, 12, 59, 60, 61, 62, 63, 64, 65, 66, 67, 68, 69, 70, 71, 72, 73, 74] (fun q : Nat × (Nat → Nat → Nat) => [(11, .c (iL (q.1 : Nat)))]) (fun q => suB b4 bn by_ my v2 l q.2 (ksP l.length q.1 0)) (fun q => q.1 ≤ l.length) (fun q => l.length - q.1) (0, fun _ _ => 0) (Nat.zero_le _) ⟨rfl, trivial⟩ rfl ?_
  rintro ⟨a, wb⟩ hka
  dsimp only at hka ⊢
  repeat (first | refine gG ?_ | refine zN1 (fun hlen => ?_) | refine zN2 (fun hlen => ?_) | refine zAl (fun _ => ?_) | refine zBx (fun _ => ?_) | refine zAp (fun _ => ?_))
  refine x_cond rfl (fun h => ?_) (fun h => ?_)
  · have ha' : a < l.length := by have := of_decide_eq_true h; omega
    clear h
    repeat (first | refine gG ?_ | refine zN1 (fun hlen => ?_) | refine zN2 (fun hlen => ?_) | refine zAl (fun _ => ?_) | refine zBx (fun _ => ?_) | refine zAp (fun _ => ?_))
    refine x_loop [12, 64, 65, 66, 67, 68, 69, 70, 71, 72, 73, 74] (fun q : Nat × (Nat → Nat → Nat) => [(12, .c (iL (q.1 : Nat)))]) (fun q => suB b4 bn by_ my v2 l q.2 (ksP l.length a q.1)) (fun q => q.1 ≤ l.length) (fun q => l.length - q.1) (0, wb) (Nat.zero_le _) ⟨rfl, trivial⟩ rfl ?_
    rintro ⟨b, wb'⟩ hkb
    dsimp only at hkb ⊢
    repeat (first | refine gG ?_ | refine zN1 (fun hlen => ?_) | refine zN2 (fun hlen => ?_) | refine zAl (fun _ => ?_) | refine zBx (fun _ => ?_) | refine zAp (fun _ => ?_))
    refine x_cond rfl (fun h => ?_) (fun h => ?_)
    · have hb' : b < l.length := by have := of_decide_eq_true h; omega
      clear h
      have htb := tab_wb wb' l.length a b
      have hfb := fam_wb wb' l.length a b
      repeat (first | refine gG ?_ | refine zN1 (fun hlen => ?_) | refine zN2 (fun hlen => ?_) | refine zAl (fun _ => ?_) | refine zBx (fun _ => ?_) | refine zAp (fun _ => ?_))
      refine zBda ?_
      repeat (first | refine gG ?_ | refine zN1 (fun hlen => ?_) | refine zN2 (fun hlen => ?_) | refine zAl (fun _ => ?_) | refine zBx (fun _ => ?_) | refine zAp (fun _ => ?_))
      refine zBxE (fun p => ?_)
      repeat (first | refine gG ?_ | refine zN1 (fun hlen => ?_) | refine zN2 (fun hlen => ?_) | refine zAl (fun _ => ?_) | refine zBx (fun _ => ?_) | refine zAp (fun _ => ?_))
      refine zUprS 155 keyWay ((a : Int), (b : Int)) (htb p) ?_
      repeat (first | refine gG ?_ | refine zN1 (fun hlen => ?_) | refine zN2 (fun hlen => ?_) | refine zAl (fun _ => ?_) | refine zBx (fun _ => ?_) | refine zAp (fun _ => ?_))
      refine ⟨(b + 1, updW wb' a b p), hb', by dsimp only; omega, ?_⟩
      refine Wk.trans (wk_boxEnd (H := [reS b4, .box bn 22 [.own 2 v2], .row v2 3 1 l.length (l.flatMap intTs), .box by_ 154 [.own 4 (.map (some my))], .mp my (mkeys pI (tabK (wpT (updW wb' a b p)) ((ksP l.length a (b + 1)).map cI)))] ++ (ksP l.length a b).flatMap (chN wb')) [.own 9 (.slice none 0 0), .c (iL 0), .c (iL (-1)), .c (.lit (.bool false)), .c (iL 0)] (res_cons (re_co rfl) (res_cons re_refl (res_cons re_refl (res_cons re_refl (res_cons re_refl res_nil)))))) ?_
      refine Wk.trans (wk_nils 3 1 (by omega) 1) ?_
      refine x_wk ⟨rfl, trivial⟩ ?_ (by repeat (first | exact ag_refl | refine ag_upd rfl ?_ | refine ag_at rfl rfl ?_))
      dsimp only
      rw [suB, hfb p, ← List.append_assoc, List.append_assoc _ [_] _]
      rfl
    have hbe : b = l.length := by have := of_decide_eq_false h; omega
    subst hbe
    clear h hkb
    repeat (first | refine gG ?_ | refine zN1 (fun hlen => ?_) | refine zN2 (fun hlen => ?_) | refine zAl (fun _ => ?_) | refine zBx (fun _ => ?_) | refine zAp (fun _ => ?_))
    exact ⟨(a + 1, wb'), ha', by dsimp only; omega, x_wk ⟨rfl, trivial⟩ (by dsimp only; rw [ksP_next]) (by repeat (first | exact ag_refl | refine ag_upd rfl ?_ | refine ag_at rfl rfl ?_))⟩
  have hae : a = l.length := by have := of_decide_eq_false h; omega
  subst hae
  clear h hka
  rw [ksP_end]
  repeat (first | refine gG ?_ | refine zN1 (fun hlen => ?_) | refine zN2 (fun hlen => ?_) | refine zAl (fun _ => ?_) | refine zBx (fun _ => ?_) | refine zAp (fun _ => ?_))
  refine lo_hintO 0 (lo_make tok l.length rfl rfl rfl rfl rfl rfl rfl rfl (by simp only []; omega) (by omega) (z := [.lit (.bool false)]) (rzs_cons rz_c rzs_nil) fun vb => ⟨_, _, rfl, ?_⟩)
  repeat (first | refine gG ?_ | refine zN1 (fun hlen => ?_) | refine zN2 (fun hlen => ?_) | refine zAl (fun _ => ?_) | refine zBx (fun _ => ?_) | refine zAp (fun _ => ?_))
  refine zAlE (fun bb => ?_)
  repeat (first | refine gG ?_ | refine zN1 (fun hlen => ?_) | refine zN2 (fun hlen => ?_) | refine zAl (fun _ => ?_) | refine zBx (fun _ => ?_) | refine zAp (fun _ => ?_))
  refine zStE rfl ?_
  repeat (first | refine gO ?_ | refine ac_seq ?_ | refine ac_block ?_)
  refine ac_region ?_
  repeat (first | refine gO ?_)
  refine lo_hintO 0 (lo_make tok l.length rfl rfl rfl rfl rfl rfl rfl rfl (by simp only []; omega) (by omega) (z := [iL 0]) (rzs_cons rz_c rzs_nil) fun vs => ⟨_, _, rfl, ?_⟩)
  repeat (first | refine gO ?_)
  refine zAlE (fun bs => ?_)
  repeat (first | refine gO ?_)
  refine zStE rfl ?_
  repeat (first | refine gO ?_ | refine ac_seq ?_ | refine ac_block ?_)
  rw [rep_one, rep_one]
  refine x_perm (hp' := [.box bb 97 [.own 0 vb], .box bn 22 [.own 2 v2], .box bs 22 [.own 0 vs], .box by_ 154 [.own 4 (.map (some my))], .row vb 4 1 l.length (List.replicate l.length (.lit (.bool false))), .row v2 3 1 l.length (l.flatMap intTs), .row vs 3 1 l.length (List.replicate l.length (iL 0)), .mp my (mkeys pI (tabK (wpT wb) ((kN l.length).map cI)))] ++ (reS b4 :: (kN l.length).flatMap (chN wb))) perm_mk ?_
  refine ac_wk (Wk.trans (wk_boxR 0 [.own 4 vb] rfl (res_cons re_own res_nil)) (Wk.trans (wk_boxR 1 [.own 5 v2] rfl (res_cons re_own res_nil)) (Wk.trans (wk_boxR 2 [.own 6 vs] rfl (res_cons re_own res_nil)) (wk_boxR 3 [.own 7 (.map (some my))] rfl (res_cons re_own res_nil))))) ?_
  refine x_eq (hp' := rM (ry0 bb bn bs by_ my vb v2 vs wb l.length) b4 rvN (startQ l)) (by rw [← rng_const, ← rng_const]; rfl) ?_
  refine x_reptr 13 0 rfl (x_reptr 14 2 rfl (x_reptr 4 8 rfl ?_))
  repeat (first | refine gG ?_ | refine zN1 (fun hlen => ?_) | refine zN2 (fun hlen => ?_) | refine zAl (fun _ => ?_) | refine zBx (fun _ => ?_) | refine zAp (fun _ => ?_))
  obtain ⟨x, hx⟩ : ∃ x : Ry, x = ry0 bb bn bs by_ my vb v2 vs wb l.length := ⟨_, rfl⟩
  refine x_eq (hp' := rM x b4 rvN (startQ l)) (by rw [hx]) ?_
  have hA : x.n = l.length := by rw [hx]
  have n2 : bb = x.bb := by rw [hx]
  have n3 : bn = x.bn := by rw [hx]
  have n4 : bs = x.bs := by rw [hx]
  have n5 : by_ = x.by_ := by rw [hx]
  refine x_keep [(1, .c (mdRow ds)), (4, .ptr 8 b4 0), (6, .c (.pin [iL (l.length : Nat)] 0)), (9, .ptr 1 bn 0), (10, .ptr 3 by_ 0), (13, .ptr 0 bb 0), (14, .ptr 2 bs 0), (15, .fn (.func 61) [.ptr 0 bb 0, .ptr 1 bn 0, .ptr 2 bs 0, .c (.pin [iL (l.length : Nat)] 0), .ptr 3 by_ 0]), (80, .c (mdRow ds)), (81, .c (iL (ds.length : Nat))), (82, .c (iL (0 : Nat)))] ⟨rfl, rfl, rfl, rfl, rfl, rfl, rfl, rfl, rfl, rfl, rfl, trivial⟩ ?_
  clear hx
  subst n2 n3 n4 n5
  have hQ0 := steps_q (l := l) (ds := ds)
  have hst : ∀ k d, ds[k]? = some d → (ds.take (k + 1)).foldl (fun Q d => stepQ l.length d Q) (startQ l) = stepQ l.length d ((ds.take k).foldl (fun Q d => stepQ l.length d Q) (startQ l)) := fun k d h => by
    obtain ⟨h1, rfl⟩ := List.getElem?_eq_some_iff.1 h
    rw [List.take_succ_eq_append_getElem h1, List.foldl_append]
    rfl
  have hdg := fun k (hk : k ≤ ds.length) => (all_p (l := l) (ds := ds) k hk).dg
  have hfst : ∀ k, ((ds.take k).foldl (fun p d => stepP l.length d p) (startQ l, [])).1 = (ds.take k).foldl (fun Q d => stepQ l.length d Q) (startQ l) := fun k => end_fst l (ds.take k)
  obtain ⟨Qk, hQk⟩ : ∃ Qk : Nat → Qs, Qk = fun k => (ds.take k).foldl (fun Q d => stepQ l.length d Q) (startQ l) := ⟨_, rfl⟩
  have hQ : ∀ k, k ≤ ds.length → QOk l.length k (Qk k) := fun k hk => by rw [hQk]; exact hQ0 k hk
  have hDg : ∀ k, k ≤ ds.length → ∀ a, ((Qk k).ch a a).sent = [] := fun k hk => by rw [hQk]; dsimp only; rw [← hfst]; exact hdg k hk
  replace hst : ∀ k d, ds[k]? = some d → Qk (k + 1) = stepQ l.length d (Qk k) := fun k d h => by rw [hQk]; exact hst k d h
  have hZ0 : Qk 0 = startQ l := by rw [hQk]; rfl
  have hZe : Qk ds.length = endQ l ds := by rw [hQk]; dsimp only; rw [List.take_length]; rfl
  unfold markT
  rw [← hZe]
  clear hQk hQ0 hZe hdg hfst
  refine x_loop [17, 18, 19, 82, 83, 84, 85, 86, 87, 88, 89, 90, 91, 92, 93, 94, 95, 96, 97, 98, 99, 100, 101, 102, 103, 104, 105, 106, 107, 108, 109, 110, 111, 112, 113, 114, 115, 116, 117, 118, 119, 120, 121, 122, 123, 124, 125, 126, 127, 128, 129, 130, 131, 132, 133, 134, 135, 136, 137, 138, 139, 140, 141, 142, 143, 144, 145, 146, 147, 148, 149, 150, 151, 152, 153, 154, 155, 156, 157, 158, 159, 160, 161, 162, 163, 164, 165, 166, 167, 168, 169, 170, 171, 172, 173, 174, 175, 176, 177, 178, 179, 180, 181, 182, 183, 184, 185, 186, 187, 188, 189, 190, 191, 192, 193, 194, 195, 196, 197, 198, 199, 200, 201, 202, 203, 204, 205, 206, 207, 208, 209, 210, 211, 212, 213, 214, 215, 216, 217, 218, 219, 220, 221, 222, 223, 224, 225, 226, 227, 228, 229, 230, 231, 232, 233, 234, 235, 236, 237, 238, 239, 240, 241, 242, 243, 244, 245, 246, 247, 248, 249, 250, 251, 252, 253, 254, 255, 256, 257, 258, 259, 260, 261, 262, 263, 264, 265, 266, 267, 268] (fun q : Nat × (Nat → Nat → Value) => [(82, .c (iL (q.1 : Nat)))]) (fun q => rM x b4 q.2 (Qk q.1)) (fun q => q.1 ≤ ds.length) (fun q => ds.length - q.1) (0, rvN) (Nat.zero_le _) ⟨rfl, trivial⟩ (by dsimp only; rw [hZ0]) ?_
  rintro ⟨k, sv⟩ hk
  dsimp only at hk ⊢
  repeat (first | refine gG ?_ | refine zN1 (fun hlen => ?_) | refine zN2 (fun hlen => ?_) | refine zAl (fun _ => ?_) | refine zBx (fun _ => ?_) | refine zAp (fun _ => ?_))
  refine x_cond rfl (fun h => ?_) (fun h => ?_)
  · -- BEGIN deed
    have hk' : k < ds.length := by simpa using h
    obtain ⟨d, hdk⟩ := nth hk'
    replace hst := hst k d hdk
    have hQ' := hQ k (by omega)
    clear h hQ hZ0 hDg
    generalize Qk k = Q at hst hQ' ⊢
    have hcap : capY x = [.ptr 0 x.bb 0, .ptr 1 x.bn 0, .ptr 2 x.bs 0, .c (.pin [iL (l.length : Nat)] 0), .ptr 3 x.by_ 0] := by unfold capY; rw [hA]
    have hbeg := fun sv' Q' i h1 h2 => beg_ag x sv' Q' i h1 h2 (by omega)
    rw [hcap] at hbeg
    repeat (first | refine gG ?_ | refine zN1 (fun hlen => ?_) | refine zN2 (fun hlen => ?_) | refine zAl (fun _ => ?_) | refine zBx (fun _ => ?_) | refine zAp (fun _ => ?_))
    refine zIx k hk' ?_
    repeat (first | refine gG ?_ | refine zN1 (fun hlen => ?_) | refine zN2 (fun hlen => ?_) | refine zAl (fun _ => ?_) | refine zBx (fun _ => ?_) | refine zAp (fun _ => ?_))
    refine zEl (md_at hdk) rfl ?_
    repeat (first | refine gG ?_ | refine zN1 (fun hlen => ?_) | refine zN2 (fun hlen => ?_) | refine zAl (fun _ => ?_) | refine zBx (fun _ => ?_) | refine zAp (fun _ => ?_))
    refine zAlE (fun _ => ?_)
    repeat (first | refine gG ?_ | refine zN1 (fun hlen => ?_) | refine zN2 (fun hlen => ?_) | refine zAl (fun _ => ?_) | refine zBx (fun _ => ?_) | refine zAp (fun _ => ?_))
    refine zStE rfl ?_
    repeat (first | refine gO ?_ | refine ac_seq ?_ | refine ac_block ?_)
    refine x_frz0 17 (mdTs d) ?_
    refine x_join [86, 87, 88, 89, 90, 91, 92, 93, 94, 95, 96, 97, 98, 99, 100, 101, 102, 103, 104, 105, 106, 107, 108, 109, 110, 111, 112, 113, 114, 115, 116, 117] (fun _ : Unit => [(117, .c (.lit (.bool (badM l.length d))))]) (fun _ => rM x b4 sv Q) (fun _ => ?_) ?_
    rotate_left
    · unfold badM
      cases e1 : decide (d.src < 0)
      · cases e2 : decide (d.src ≥ ((l.length : Nat) : Int))
        · cases e3 : decide (d.kind = 3)
          · have e3' : (!decide (d.kind = 3)) = true := by rw [e3]; rfl
            cases e4 : decide (d.dst < 0)
            · cases e5 : decide (d.dst ≥ ((l.length : Nat) : Int))
              · repeat (first | refine gG ?_ | refine zN1 (fun hlen => ?_) | refine zN2 (fun hlen => ?_) | refine zAl (fun _ => ?_) | refine zBx (fun _ => ?_) | refine zAp (fun _ => ?_))
                exact ⟨(), x_wk ⟨rfl, trivial⟩ rfl (by repeat (first | exact ag_refl | refine ag_upd rfl ?_ | refine ag_at rfl rfl ?_))⟩
              · repeat (first | refine gG ?_ | refine zN1 (fun hlen => ?_) | refine zN2 (fun hlen => ?_) | refine zAl (fun _ => ?_) | refine zBx (fun _ => ?_) | refine zAp (fun _ => ?_))
                exact ⟨(), x_wk ⟨rfl, trivial⟩ rfl (by repeat (first | exact ag_refl | refine ag_upd rfl ?_ | refine ag_at rfl rfl ?_))⟩
            · repeat (first | refine gG ?_ | refine zN1 (fun hlen => ?_) | refine zN2 (fun hlen => ?_) | refine zAl (fun _ => ?_) | refine zBx (fun _ => ?_) | refine zAp (fun _ => ?_))
              exact ⟨(), x_wk ⟨rfl, trivial⟩ rfl (by repeat (first | exact ag_refl | refine ag_upd rfl ?_ | refine ag_at rfl rfl ?_))⟩
          · have e3' : (!decide (d.kind = 3)) = false := by rw [e3]; rfl
            repeat (first | refine gG ?_ | refine zN1 (fun hlen => ?_) | refine zN2 (fun hlen => ?_) | refine zAl (fun _ => ?_) | refine zBx (fun _ => ?_) | refine zAp (fun _ => ?_))
            exact ⟨(), x_wk ⟨rfl, trivial⟩ rfl (by repeat (first | exact ag_refl | refine ag_upd rfl ?_ | refine ag_at rfl rfl ?_))⟩
        · repeat (first | refine gG ?_ | refine zN1 (fun hlen => ?_) | refine zN2 (fun hlen => ?_) | refine zAl (fun _ => ?_) | refine zBx (fun _ => ?_) | refine zAp (fun _ => ?_))
          exact ⟨(), x_wk ⟨rfl, trivial⟩ rfl (by repeat (first | exact ag_refl | refine ag_upd rfl ?_ | refine ag_at rfl rfl ?_))⟩
      · repeat (first | refine gG ?_ | refine zN1 (fun hlen => ?_) | refine zN2 (fun hlen => ?_) | refine zAl (fun _ => ?_) | refine zBx (fun _ => ?_) | refine zAp (fun _ => ?_))
        exact ⟨(), x_wk ⟨rfl, trivial⟩ rfl (by repeat (first | exact ag_refl | refine ag_upd rfl ?_ | refine ag_at rfl rfl ?_))⟩
    refine x_cond rfl (fun hb => ?_) (fun hb => ?_)
    · have hz : Qk (k + 1) = Q := hst.trans (noneM Q hb)
      repeat (first | refine gG ?_ | refine zN1 (fun hlen => ?_) | refine zN2 (fun hlen => ?_) | refine zAl (fun _ => ?_) | refine zBx (fun _ => ?_) | refine zAp (fun _ => ?_))
      exact ⟨(k + 1, sv), hk', by dsimp only; omega, x_wk ⟨rfl, trivial⟩ (by dsimp only; rw [hz]) (by repeat (first | exact ag_refl | refine ag_upd rfl ?_ | refine ag_at rfl rfl ?_))⟩
    obtain ⟨hs, hor⟩ := (badM_iff _ _).1 hb
    clear hb
    obtain ⟨dk, dsr, dd, dn⟩ := d
    dsimp only at hs hor
    obtain ⟨a, rfl⟩ : ∃ a : Nat, dsr = (a : Int) := ⟨dsr.toNat, by unfold isP at hs; omega⟩
    have ha : a < x.n := by unfold isP at hs; omega
    cases e3 : decide (dk = 3)
    rotate_left
    · obtain rfl := of_decide_eq_true e3
      have hz : Qk (k + 1) = begQ a Q := by
        rw [hst]; unfold stepQ; dsimp only; rw [if_pos hs, if_pos rfl]; rfl
      repeat (first | refine gG ?_ | refine zN1 (fun hlen => ?_) | refine zN2 (fun hlen => ?_) | refine zAl (fun _ => ?_) | refine zBx (fun _ => ?_) | refine zAp (fun _ => ?_))
      refine lo_frame (allR x sv Q) [reS b4] (rM_allR x b4 sv Q) (fun F' => ?_)
      refine zCallAll (hbeg sv Q a (by rw [hA]; exact hQ'.nl) ha) (List.Perm.refl _) ?_
      rintro _ _ hq
      refine ⟨_, re_refl, ?_⟩
      refine al_wk (wk_perm (hp' := rM x b4 sv (begQ a Q)) ((hq.append_right _).trans (rM_allR x b4 sv (begQ a Q)).symm)) ?_
      repeat (first | refine gG ?_ | refine zN1 (fun hlen => ?_) | refine zN2 (fun hlen => ?_) | refine zAl (fun _ => ?_) | refine zBx (fun _ => ?_) | refine zAp (fun _ => ?_))
      exact ⟨(k + 1, sv), hk', by dsimp only; omega, x_wk ⟨rfl, trivial⟩ (by dsimp only; rw [hz]) (by repeat (first | exact ag_refl | refine ag_upd rfl ?_ | refine ag_at rfl rfl ?_))⟩
    have n3 := of_decide_eq_false e3
    have hPd := hor.resolve_left n3
    obtain ⟨b, rfl⟩ : ∃ b : Nat, dd = (b : Int) := ⟨dd.toNat, by have := hPd.1; unfold isP at this; omega⟩
    have hbn : b < x.n := by have := hPd.1; unfold isP at this; omega
    have hab : a ≠ b := fun e => hPd.2 (by omega)
    obtain ⟨j, hj⟩ := List.getElem?_of_mem (kN_mem.2 ⟨ha, hbn⟩)
    have hl1 := wlk x.wb ha hbn
    have hc := hQ'.ch a b
    have hct := hc.ct
    have hgs := hc.gs
    have hin := rM_in x b4 sv Q hj
    have hnl : Q.now.length = x.n := by rw [hA]; exact hQ'.nl
    have hal : a < Q.now.length := by rw [hnl]; exact ha
    have hbl : b < Q.now.length := by rw [hnl]; exact hbn
    obtain ⟨na, hna⟩ := nth hal
    obtain ⟨nb, hnb⟩ := nth hbl
    have hnat := ints_at hna
    have hnbt := ints_at hnb
    have hnad : Q.now.getD a 0 = na := by rw [List.getD, hna]; rfl
    have hnbd : Q.now.getD b 0 = nb := by rw [List.getD, hnb]; rfl
    replace hst : Qk (k + 1) = (if dk = 1 then if 0 < dn ∧ dn ≤ na ∧ thereC (Q.ch a b) < 200 then payQ a b dn Q else Q
        else if dk = 2 then if (Q.ch a b).mark = ((Q.ch a b).got : Nat) ∧ (Q.ch a b).came = false then mrkQ a b Q else if (Q.ch a b).got < (Q.ch a b).sent.length then msgQ a b Q else Q else Q) := by
      rw [hst]; unfold stepQ; dsimp only
      rw [if_pos hs, if_neg n3, if_pos hPd, ← hnad]
      rfl
    refine x_perm (rM_out x b4 sv Q hj) ?_
    obtain ⟨RE, hRE⟩ : ∃ RE : List Blk, RE = reS b4 :: ((kN x.n).eraseIdx j).flatMap (chF x sv Q.ch) := ⟨_, rfl⟩
    rw [← hRE]
    rw [← hRE] at hin
    have hout := (rM_out x b4 sv Q hj).symm
    rw [← hRE] at hout
    clear hRE
    generalize hsv : sv a b = v at *
    generalize hcc : Q.ch a b = c at *
    repeat (first | refine gG ?_ | refine zN1 (fun hlen => ?_) | refine zN2 (fun hlen => ?_) | refine zAl (fun _ => ?_) | refine zBx (fun _ => ?_) | refine zAp (fun _ => ?_))
    refine zBda ?_
    repeat (first | refine gG ?_ | refine zN1 (fun hlen => ?_) | refine zN2 (fun hlen => ?_) | refine zAl (fun _ => ?_) | refine zBx (fun _ => ?_) | refine zAp (fun _ => ?_))
    refine lo_asp 8 (zLkr 155 keyWay ((a : Int), (b : Int)) hl1 ⟨_, _, rfl, ?_⟩)
    repeat (first | refine gG ?_ | refine zN1 (fun hlen => ?_) | refine zN2 (fun hlen => ?_) | refine zAl (fun _ => ?_) | refine zBx (fun _ => ?_) | refine zAp (fun _ => ?_))
    refine ac_draw [1, 1, 1, 1, 1, 1, 1, 1, 1, 1, 1] [0, 1, 2, 3, 4, 5, 6, 7, 8, 9, 10] (by kernel_rfl) (by kernel_rfl) ?_
    refine gW ?_
    apply w_q; (focus exact rfl); (focus exact rfl); focus (intro _; (refine lo_sub rfl rfl (r := ((c.sent.length : Nat) : Int) - (c.got : Nat)) (by show IntKind.wrap .i64 _ = _; exact IntWalk.i64_in _ (by omega)) ?_); exact det_refl)
    refine gW ?_
    refine w_nil ?_
    refine then_n (ac_seq ?_)
    refine x_join [19, 142, 143, 144, 145, 146, 147, 148, 149, 150, 151, 152, 153, 154, 155] (fun _ : Unit => [(19, .c (iL (thereC c)))]) (fun _ => hR x Q.bg Q.now Q.st ++ (chL (x.wb a b) v c ++ RE)) (fun _ => ?_) ?_
    rotate_left
    · have e0 : decide (0 ≤ c.mark) = decide (c.mark ≥ 0) := rfl
      cases e1 : decide (c.mark ≥ 0)
      · have ht : thereC c = ((c.sent.length : Nat) : Int) - (c.got : Nat) := by unfold thereC pend; rw [e0, e1]; simp
        rw [ht]
        repeat (first | refine gG ?_ | refine zN1 (fun hlen => ?_) | refine zN2 (fun hlen => ?_) | refine zAl (fun _ => ?_) | refine zBx (fun _ => ?_) | refine zAp (fun _ => ?_))
        exact ⟨(), x_wk ⟨rfl, trivial⟩ rfl (by repeat (first | exact ag_refl | refine ag_upd rfl ?_ | refine ag_at rfl rfl ?_))⟩
      · cases e2 : c.came
        · have ht : thereC c = ((c.sent.length : Nat) : Int) - (c.got : Nat) + 1 := by unfold thereC pend; rw [e0, e1, e2]; simp
          rw [ht]
          repeat (first | refine gG ?_ | refine zN1 (fun hlen => ?_) | refine zN2 (fun hlen => ?_) | refine zAl (fun _ => ?_) | refine zBx (fun _ => ?_) | refine zAp (fun _ => ?_))
          refine lo_add rfl rfl (r := ((c.sent.length : Nat) : Int) - (c.got : Nat) + 1) (by show IntKind.wrap .i64 _ = _; exact IntWalk.i64_in _ (by omega)) ?_
          repeat (first | refine gG ?_ | refine zN1 (fun hlen => ?_) | refine zN2 (fun hlen => ?_) | refine zAl (fun _ => ?_) | refine zBx (fun _ => ?_) | refine zAp (fun _ => ?_))
          exact ⟨(), x_wk ⟨rfl, trivial⟩ rfl (by repeat (first | exact ag_refl | refine ag_upd rfl ?_ | refine ag_at rfl rfl ?_))⟩
        · have ht : thereC c = ((c.sent.length : Nat) : Int) - (c.got : Nat) := by unfold thereC pend; rw [e0, e1, e2]; simp
          rw [ht]
          repeat (first | refine gG ?_ | refine zN1 (fun hlen => ?_) | refine zN2 (fun hlen => ?_) | refine zAl (fun _ => ?_) | refine zBx (fun _ => ?_) | refine zAp (fun _ => ?_))
          exact ⟨(), x_wk ⟨rfl, trivial⟩ rfl (by repeat (first | exact ag_refl | refine ag_upd rfl ?_ | refine ag_at rfl rfl ?_))⟩
    obtain ⟨c1, hc1⟩ : ∃ c1, c1 = (((decide (dk = 1) && decide (dn > 0)) && decide (dn ≤ na)) && decide (thereC c < 200)) := ⟨_, rfl⟩
    refine ac_block (ac_seq ?_)
    refine x_join [156, 157, 158, 159, 160, 161, 162, 163, 164, 165, 166, 167, 168, 169, 170, 171, 172, 173, 174, 175, 176, 177, 178] (fun _ : Unit => [(156, .c (.lit (.bool c1)))]) (fun _ => hR x Q.bg Q.now Q.st ++ (chL (x.wb a b) v c ++ RE)) (fun _ => ?_) ?_
    rotate_left
    · cases f1 : decide (dk = 1)
      · subst hc1
        rw [f1]
        refine ac_drawB [0, 1, 3, 7, 15, 31, 63, 127, 255, 511, 1023, 511, 511, 4607, 14847, 31231, 65535, 131071, 262143, 524287, 1048575, 2097151, 4194303] [1, 1, 1, 1, 1, 1, 1, 1, 1, 1, 1, 1, 1, 1, 1, 1, 1, 1, 1, 1, 1, 1, 1] [0, 1, 2, 3, 4, 5, 6, 7, 8, 9, 10, 11, 12, 13, 14, 15, 16, 17, 18, 19, 20, 21, 22] (by kernel_rfl) (by kernel_rfl) ?_
        refine gW ?_
        refine w_nil ?_
        exact ⟨(), x_wk ⟨rfl, trivial⟩ rfl (by repeat (first | exact ag_refl | refine ag_upd rfl ?_ | refine ag_at rfl rfl ?_))⟩
      cases f2 : decide (dn > 0)
      · subst hc1
        rw [f1, f2]
        refine ac_drawB [0, 1, 3, 7, 15, 31, 63, 127, 255, 511, 1023, 511, 511, 4607, 14847, 31231, 65535, 131071, 262143, 524287, 1048575, 2097151, 4194303] [1, 1, 1, 1, 1, 1, 1, 1, 1, 1, 1, 1, 1, 1, 1, 1, 1, 1, 1, 1, 1, 1, 1] [0, 1, 2, 3, 4, 5, 6, 7, 8, 9, 10, 11, 12, 13, 14, 15, 16, 17, 18, 19, 20, 21, 22] (by kernel_rfl) (by kernel_rfl) ?_
        refine gW ?_
        refine w_nil ?_
        exact ⟨(), x_wk ⟨rfl, trivial⟩ rfl (by repeat (first | exact ag_refl | refine ag_upd rfl ?_ | refine ag_at rfl rfl ?_))⟩
      cases f3 : decide (dn ≤ na)
      · subst hc1
        rw [f1, f2, f3]
        refine ac_drawB [0, 1, 3, 7, 15, 31, 63, 127, 255, 511, 1023, 511, 511, 4607, 14847, 31231, 65535, 131071, 262143, 524287, 1048575, 2097151, 4194303] [1, 1, 1, 1, 1, 1, 1, 1, 1, 1, 1, 1, 1, 1, 1, 1, 1, 1, 1, 1, 1, 1, 1] [0, 1, 2, 3, 4, 5, 6, 7, 8, 9, 10, 11, 12, 13, 14, 15, 16, 17, 18, 19, 20, 21, 22] (by kernel_rfl) (by kernel_rfl) ?_
        refine gW ?_
        try (first | (apply w_un; (focus exact rfl); (focus exact rfl); (focus exact rfl); (focus exact rfl)) | (apply w_no; (focus exact rfl); (focus exact rfl); (focus exact rfl); (focus exact rfl); focus (first | rfl | assumption | exact neg_t (by assumption) | exact neg_f (by assumption))) | (apply w_qg; (focus exact rfl); (focus exact rfl); (focus exact rfl); (focus exact rfl); (focus (first | rfl | assumption | exact neg_t (by assumption) | exact neg_f (by assumption))); (focus (intro _; (refine zIxo a hal ?_); exact det_refl))))
        (first | (apply w_un; (focus exact rfl); (focus exact rfl); (focus exact rfl); (focus exact rfl)) | (apply w_no; (focus exact rfl); (focus exact rfl); (focus exact rfl); (focus exact rfl); focus (first | rfl | assumption | exact neg_t (by assumption) | exact neg_f (by assumption))) | (apply w_qg; (focus exact rfl); (focus exact rfl); (focus exact rfl); (focus exact rfl); (focus (first | rfl | assumption | exact neg_t (by assumption) | exact neg_f (by assumption))); (focus (intro _; (refine zElo1 hnat ?_); exact det_refl))))
        try refine gW ?_
        refine w_nil ?_
        exact ⟨(), x_wk ⟨rfl, trivial⟩ rfl (by repeat (first | exact ag_refl | refine ag_upd rfl ?_ | refine ag_at rfl rfl ?_))⟩
      · subst hc1
        rw [f1, f2, f3]
        refine ac_drawB [0, 1, 3, 7, 15, 31, 63, 127, 255, 511, 1023, 511, 511, 4607, 14847, 31231, 65535, 131071, 262143, 524287, 1048575, 2097151, 4194303] [1, 1, 1, 1, 1, 1, 1, 1, 1, 1, 1, 1, 1, 1, 1, 1, 1, 1, 1, 1, 1, 1, 1] [0, 1, 2, 3, 4, 5, 6, 7, 8, 9, 10, 11, 12, 13, 14, 15, 16, 17, 18, 19, 20, 21, 22] (by kernel_rfl) (by kernel_rfl) ?_
        refine gW ?_
        try (first | (apply w_un; (focus exact rfl); (focus exact rfl); (focus exact rfl); (focus exact rfl)) | (apply w_no; (focus exact rfl); (focus exact rfl); (focus exact rfl); (focus exact rfl); focus (first | rfl | assumption | exact neg_t (by assumption) | exact neg_f (by assumption))) | (apply w_qg; (focus exact rfl); (focus exact rfl); (focus exact rfl); (focus exact rfl); (focus (first | rfl | assumption | exact neg_t (by assumption) | exact neg_f (by assumption))); (focus (intro _; (refine zIxo a hal ?_); exact det_refl))))
        (first | (apply w_un; (focus exact rfl); (focus exact rfl); (focus exact rfl); (focus exact rfl)) | (apply w_no; (focus exact rfl); (focus exact rfl); (focus exact rfl); (focus exact rfl); focus (first | rfl | assumption | exact neg_t (by assumption) | exact neg_f (by assumption))) | (apply w_qg; (focus exact rfl); (focus exact rfl); (focus exact rfl); (focus exact rfl); (focus (first | rfl | assumption | exact neg_t (by assumption) | exact neg_f (by assumption))); (focus (intro _; (refine zElo1 hnat ?_); exact det_refl))))
        try refine gW ?_
        refine w_nil ?_
        exact ⟨(), x_wk ⟨rfl, trivial⟩ rfl (by repeat (first | exact ag_refl | refine ag_upd rfl ?_ | refine ag_at rfl rfl ?_))⟩
    refine x_cond rfl (fun h1 => ?_) (fun h1 => ?_)
    · -- something is paid
      rw [hc1] at h1
      simp only [Bool.and_eq_true, decide_eq_true_eq] at h1
      obtain ⟨⟨⟨rfl, p2⟩, p3⟩, p4⟩ := h1
      clear hc1
      have hz : Qk (k + 1) = ⟨Q.now.set a (w64 (na - dn)), updC Q.ch a b { c with sent := c.sent ++ [dn] }, Q.bg, Q.st⟩ := by
        rw [hst, if_pos rfl, if_pos ⟨p2, p3, p4⟩]; unfold payQ; rw [hnad, hcc]
      repeat (first | refine gG ?_ | refine zN1 (fun hlen => ?_) | refine zN2 (fun hlen => ?_) | refine zAl (fun _ => ?_) | refine zBx (fun _ => ?_) | refine zAp (fun _ => ?_))
      refine ac_draw [1, 1, 1, 1, 1, 1, 1, 1, 1, 2] [0, 1, 2, 3, 4, 5, 6, 7, 8, 9] (by kernel_rfl) (by kernel_rfl) ?_
      refine gW ?_
      apply w_q; (focus exact rfl); (focus exact rfl); focus (intro _; (refine zIxo a hal ?_); exact det_refl)
      apply w_q; (focus exact rfl); (focus exact rfl); focus (intro _; (refine zElo1 hnat ?_); exact det_refl)
      refine gW ?_
      apply w_q; (focus exact rfl); (focus exact rfl); focus (intro _; (refine lo_sub rfl rfl (r := w64 (na - dn)) rfl ?_); exact det_refl)
      apply w_q; (focus exact rfl); (focus exact rfl); focus (intro _; (refine zIxo a hal ?_); exact det_refl)
      apply w_l; (focus exact rfl); (focus exact rfl); (refine zSei (show a * 1 + 1 ≤ (Q.now.flatMap intTs).length by rw [ints_len]; omega) ?_)
      refine w_nil ?_
      refine x_eq (now_eqR x Q.bg Q.now Q.st _ a (w64 (na - dn))) ?_
      repeat (first | refine gG ?_ | refine zN1 (fun hlen => ?_) | refine zN2 (fun hlen => ?_) | refine zAl (fun _ => ?_) | refine zBx (fun _ => ?_) | refine zAp (fun _ => ?_))
      refine ac_draw [0, 0, 0, 0, 1, 0, 0, 0, 2, 0, 0, 2] [0, 1, 2, 3, 4, 5, 6, 7, 8, 9, 10, 11] (by kernel_rfl) (by kernel_rfl) ?_
      refine gW ?_
      apply w_l; (focus exact rfl); (focus exact rfl); (refine zApS (fun v' => ?_))
      refine gW ?_
      apply w_l; (focus exact rfl); (focus exact rfl); (refine zStS ?_)
      refine w_nil ?_
      have hq := hin Q.bg (Q.now.set a (w64 (na - dn))) Q.st v' { c with sent := c.sent ++ [dn] }
      unfold chL at hq
      rw [← int_snoc, List.length_append] at hq
      refine x_perm ((List.Perm.of_eq rfl).trans hq) ?_
      repeat (first | refine gG ?_ | refine zN1 (fun hlen => ?_) | refine zN2 (fun hlen => ?_) | refine zAl (fun _ => ?_) | refine zBx (fun _ => ?_) | refine zAp (fun _ => ?_))
      exact ⟨(k + 1, updV sv a b v'), hk', by dsimp only; omega, x_wk ⟨rfl, trivial⟩ (by dsimp only; rw [hz]) (by repeat (first | exact ag_refl | refine ag_upd rfl ?_ | refine ag_at rfl rfl ?_))⟩
    -- BEGIN other
    replace hst : Qk (k + 1) = if dk = 2 then if c.mark = ((c.got : Nat) : Int) ∧ c.came = false then mrkQ a b Q else if c.got < c.sent.length then msgQ a b Q else Q else Q := by
      rw [hst]
      by_cases p1 : dk = 1
      · rw [if_pos p1, if_neg (by omega : ¬ dk = 2), if_neg]
        rintro ⟨p2, p3, p4⟩
        rw [hc1, decide_eq_true p1, decide_eq_true p2, decide_eq_true p3, decide_eq_true p4] at h1
        exact absurd h1 (by decide)
      · rw [if_neg p1]
    clear hc1 h1
    refine ac_seq ?_
    obtain ⟨c2, hc2⟩ : ∃ c2, c2 = ((decide (dk = 2) && decide (c.mark = ((c.got : Nat) : Int))) && !c.came) := ⟨_, rfl⟩
    refine x_join [199, 200, 201, 202, 203, 204, 205, 206, 207, 208, 209, 210, 211, 212, 213, 214, 215, 216, 217, 218, 219, 220] (fun _ : Unit => [(199, .c (.lit (.bool c2)))]) (fun _ => hR x Q.bg Q.now Q.st ++ (chL (x.wb a b) v c ++ RE)) (fun _ => ?_) ?_
    rotate_left
    · cases f1 : decide (dk = 2)
      · subst hc2
        rw [f1]
        refine ac_drawB [0, 1, 3, 7, 15, 31, 63, 127, 15, 271, 783, 1807, 4095, 8191, 16383, 32767, 65535, 131071, 262143, 524287, 1048575, 2097151] [1, 1, 1, 1, 1, 1, 1, 1, 1, 1, 1, 1, 1, 1, 1, 1, 1, 1, 1, 1, 1, 1] [0, 1, 2, 3, 4, 5, 6, 7, 8, 9, 10, 11, 12, 13, 14, 15, 16, 17, 18, 19, 20, 21] (by kernel_rfl) (by kernel_rfl) ?_
        refine gW ?_
        refine w_nil ?_
        exact ⟨(), x_wk ⟨rfl, trivial⟩ rfl (by repeat (first | exact ag_refl | refine ag_upd rfl ?_ | refine ag_at rfl rfl ?_))⟩
      cases f2 : decide (c.mark = ((c.got : Nat) : Int))
      · subst hc2
        rw [f1, f2]
        refine ac_drawB [0, 1, 3, 7, 15, 31, 63, 127, 15, 271, 783, 1807, 4095, 8191, 16383, 32767, 65535, 131071, 262143, 524287, 1048575, 2097151] [1, 1, 1, 1, 1, 1, 1, 1, 1, 1, 1, 1, 1, 1, 1, 1, 1, 1, 1, 1, 1, 1] [0, 1, 2, 3, 4, 5, 6, 7, 8, 9, 10, 11, 12, 13, 14, 15, 16, 17, 18, 19, 20, 21] (by kernel_rfl) (by kernel_rfl) ?_
        refine gW ?_
        refine w_nil ?_
        exact ⟨(), x_wk ⟨rfl, trivial⟩ rfl (by repeat (first | exact ag_refl | refine ag_upd rfl ?_ | refine ag_at rfl rfl ?_))⟩
      · subst hc2
        rw [f1, f2]
        refine ac_drawB [0, 1, 3, 7, 15, 31, 63, 127, 15, 271, 783, 1807, 4095, 8191, 16383, 32767, 65535, 131071, 262143, 524287, 1048575, 2097151] [1, 1, 1, 1, 1, 1, 1, 1, 1, 1, 1, 1, 1, 1, 1, 1, 1, 1, 1, 1, 1, 1] [0, 1, 2, 3, 4, 5, 6, 7, 8, 9, 10, 11, 12, 13, 14, 15, 16, 17, 18, 19, 20, 21] (by kernel_rfl) (by kernel_rfl) ?_
        refine gW ?_
        refine w_nil ?_
        exact ⟨(), x_wk ⟨rfl, trivial⟩ rfl (by repeat (first | exact ag_refl | refine ag_upd rfl ?_ | refine ag_at rfl rfl ?_))⟩
    refine x_cond rfl (fun h2 => ?_) (fun h2 => ?_)
    · -- the marker comes
      rw [hc2] at h2
      simp only [Bool.and_eq_true, decide_eq_true_eq, Bool.not_eq_true'] at h2
      obtain ⟨⟨rfl, p2⟩, p3⟩ := h2
      clear hc2
      have hz : Qk (k + 1) = begQ b ⟨Q.now, updC Q.ch a b { c with came := true }, Q.bg, Q.st⟩ := by
        rw [hst, if_pos rfl, if_pos ⟨p2, p3⟩]; unfold mrkQ; rw [hcc]
      repeat (first | refine gG ?_ | refine zN1 (fun hlen => ?_) | refine zN2 (fun hlen => ?_) | refine zAl (fun _ => ?_) | refine zBx (fun _ => ?_) | refine zAp (fun _ => ?_))
      refine zStS ?_
      repeat (first | refine gG ?_ | refine zN1 (fun hlen => ?_) | refine zN2 (fun hlen => ?_) | refine zAl (fun _ => ?_) | refine zBx (fun _ => ?_) | refine zAp (fun _ => ?_))
      have hq := hin Q.bg Q.now Q.st v { c with came := true }
      refine lo_frame (allR x (updV sv a b v) ⟨Q.now, updC Q.ch a b { c with came := true }, Q.bg, Q.st⟩) [reS b4] (((List.Perm.of_eq rfl).trans hq).trans (rM_allR x b4 _ _)) (fun F' => ?_)
      refine zCallAll (hbeg (updV sv a b v) ⟨Q.now, updC Q.ch a b { c with came := true }, Q.bg, Q.st⟩ b hnl hbn) (List.Perm.refl _) ?_
      rintro _ _ hq
      refine ⟨_, re_refl, ?_⟩
      refine al_wk (wk_perm (hp' := rM x b4 (updV sv a b v) (Qk (k + 1))) (by rw [hz]; exact (hq.append_right _).trans (rM_allR x b4 _ _).symm)) ?_
      repeat (first | refine gG ?_ | refine zN1 (fun hlen => ?_) | refine zN2 (fun hlen => ?_) | refine zAl (fun _ => ?_) | refine zBx (fun _ => ?_) | refine zAp (fun _ => ?_))
      exact ⟨(k + 1, updV sv a b v), hk', by dsimp only; omega, x_wk ⟨rfl, trivial⟩ rfl (by repeat (first | exact ag_refl | refine ag_upd rfl ?_ | refine ag_at rfl rfl ?_))⟩
    replace hst : Qk (k + 1) = if dk = 2 then if c.got < c.sent.length then msgQ a b Q else Q else Q := by
      rw [hst]
      by_cases p1 : dk = 2
      · rw [if_pos p1, if_pos p1, if_neg]
        rintro ⟨p2, p3⟩
        rw [hc2, decide_eq_true p1, decide_eq_true p2, p3] at h2
        exact absurd h2 (by decide)
      · rw [if_neg p1, if_neg p1]
    clear hc2 h2
    refine ac_seq ?_
    obtain ⟨c3, hc3⟩ : ∃ c3, c3 = (decide (dk = 2) && decide (((c.got : Nat) : Int) < ((c.sent.length : Nat) : Int))) := ⟨_, rfl⟩
    refine x_join [228, 229, 230, 231, 232, 233, 234, 235, 236, 237, 238, 239, 240, 241, 242, 243] (fun _ : Unit => [(228, .c (.lit (.bool c3)))]) (fun _ => hR x Q.bg Q.now Q.st ++ (chL (x.wb a b) v c ++ RE)) (fun _ => ?_) ?_
    rotate_left
    · cases f1 : decide (dk = 2)
      · subst hc3
        rw [f1]
        refine ac_draw [1, 1, 1, 1, 1, 1, 1, 1, 1, 1, 1, 1, 1, 1, 1, 1] [0, 1, 2, 3, 4, 5, 6, 7, 8, 9, 10, 11, 12, 13, 14, 15] (by kernel_rfl) (by kernel_rfl) ?_
        refine gW ?_
        refine w_nil ?_
        exact ⟨(), x_wk ⟨rfl, trivial⟩ rfl (by repeat (first | exact ag_refl | refine ag_upd rfl ?_ | refine ag_at rfl rfl ?_))⟩
      · subst hc3
        rw [f1]
        refine ac_draw [1, 1, 1, 1, 1, 1, 1, 1, 1, 1, 1, 1, 1, 1, 1, 1] [0, 1, 2, 3, 4, 5, 6, 7, 8, 9, 10, 11, 12, 13, 14, 15] (by kernel_rfl) (by kernel_rfl) ?_
        refine gW ?_
        try (first | (apply w_un; (focus exact rfl); (focus exact rfl); (focus exact rfl); (focus exact rfl)) | (apply w_no; (focus exact rfl); (focus exact rfl); (focus exact rfl); (focus exact rfl); focus (first | rfl | assumption | exact neg_t (by assumption) | exact neg_f (by assumption))) | (apply w_qg; (focus exact rfl); (focus exact rfl); (focus exact rfl); (focus exact rfl); (focus (first | rfl | assumption | exact neg_t (by assumption) | exact neg_f (by assumption))); (focus (intro _; (refine lo_len_own tok rfl rfl rfl rfl (fun _ => ?_)); exact det_refl))))
        try refine gW ?_
        refine w_nil ?_
        exact ⟨(), x_wk ⟨rfl, trivial⟩ rfl (by repeat (first | exact ag_refl | refine ag_upd rfl ?_ | refine ag_at rfl rfl ?_))⟩
    refine x_cond rfl (fun h3 => ?_) (fun h3 => ?_)
    · -- a message comes
      rw [hc3] at h3
      simp only [Bool.and_eq_true, decide_eq_true_eq] at h3
      obtain ⟨rfl, p2⟩ := h3
      clear hc3
      have hgl : c.got < c.sent.length := by omega
      obtain ⟨m, hm⟩ := nth hgl
      have hz : Qk (k + 1) = ⟨Q.now.set b (w64 (nb + m)), updC Q.ch a b { c with got := c.got + 1 }, Q.bg, Q.st⟩ := by
        rw [hst, if_pos rfl, if_pos hgl]; unfold msgQ; rw [hnbd, hcc, List.getD, hm]; rfl
      repeat (first | refine gG ?_ | refine zN1 (fun hlen => ?_) | refine zN2 (fun hlen => ?_) | refine zAl (fun _ => ?_) | refine zBx (fun _ => ?_) | refine zAp (fun _ => ?_))
      refine ac_draw [1, 1, 1, 1, 1, 1, 1, 1, 1, 1, 1, 1, 1, 1, 1, 1, 1, 2] [0, 1, 2, 3, 4, 5, 6, 7, 8, 9, 10, 11, 12, 13, 14, 15, 16, 17] (by kernel_rfl) (by kernel_rfl) ?_
      refine gW ?_
      apply w_q; (focus exact rfl); (focus exact rfl); focus (intro _; (refine zIxo b hbl ?_); exact det_refl)
      apply w_q; (focus exact rfl); (focus exact rfl); focus (intro _; (refine zElo1 hnbt ?_); exact det_refl)
      refine gW ?_
      apply w_q; (focus exact rfl); (focus exact rfl); focus (intro _; (refine zIxo c.got hgl ?_); exact det_refl)
      apply w_q; (focus exact rfl); (focus exact rfl); focus (intro _; (refine zElo1 (ints_at hm) ?_); exact det_refl)
      apply w_q; (focus exact rfl); (focus exact rfl); focus (intro _; (refine lo_add rfl rfl (r := w64 (nb + m)) rfl ?_); exact det_refl)
      apply w_q; (focus exact rfl); (focus exact rfl); focus (intro _; (refine zIxo b hbl ?_); exact det_refl)
      apply w_l; (focus exact rfl); (focus exact rfl); (refine zSei (show b * 1 + 1 ≤ (Q.now.flatMap intTs).length by rw [ints_len]; omega) ?_)
      refine w_nil ?_
      refine x_eq (now_eqR x Q.bg Q.now Q.st _ b (w64 (nb + m))) ?_
      repeat (first | refine gG ?_ | refine zN1 (fun hlen => ?_) | refine zN2 (fun hlen => ?_) | refine zAl (fun _ => ?_) | refine zBx (fun _ => ?_) | refine zAp (fun _ => ?_))
      refine zStS ?_
      have hq := hin Q.bg (Q.now.set b (w64 (nb + m))) Q.st v { c with got := c.got + 1 }
      repeat (first | refine gG ?_ | refine zN1 (fun hlen => ?_) | refine zN2 (fun hlen => ?_) | refine zAl (fun _ => ?_) | refine zBx (fun _ => ?_) | refine zAp (fun _ => ?_))
      exact ⟨(k + 1, updV sv a b v), hk', by dsimp only; omega, Wk.trans (wk_perm ((List.Perm.of_eq rfl).trans hq)) (x_wk ⟨rfl, trivial⟩ (by dsimp only; rw [hz]) (by repeat (first | exact ag_refl | refine ag_upd rfl ?_ | refine ag_at rfl rfl ?_)))⟩
    have hz : Qk (k + 1) = Q := by
      rw [hst]
      by_cases p1 : dk = 2
      · rw [if_pos p1, if_neg]
        intro p2
        rw [hc3, decide_eq_true p1, decide_eq_true (by omega : ((c.got : Nat) : Int) < ((c.sent.length : Nat) : Int))] at h3
        exact absurd h3 (by decide)
      · rw [if_neg p1]
    refine x_perm hout ?_
    repeat (first | refine gG ?_ | refine zN1 (fun hlen => ?_) | refine zN2 (fun hlen => ?_) | refine zAl (fun _ => ?_) | refine zBx (fun _ => ?_) | refine zAp (fun _ => ?_))
    exact ⟨(k + 1, sv), hk', by dsimp only; omega, x_wk ⟨rfl, trivial⟩ (by dsimp only; rw [hz]) (by repeat (first | exact ag_refl | refine ag_upd rfl ?_ | refine ag_at rfl rfl ?_))⟩
    -- END other
    -- END deed
  · -- BEGIN rest
    have hke : k = ds.length := by have : ¬ k < ds.length := by simpa using h
                                   omega
    subst hke
    have hQ' := hQ _ hk
    clear h hst hZ0 hk hQ hDg
    generalize Qk ds.length = Q at hQ' ⊢
    refine ac_exit ?_
    refine ac_wk (frz_rM x b4 sv Q) ?_
    obtain ⟨M, hM⟩ : ∃ M, M = (kN x.n).map (wcF x Q.ch) := ⟨_, rfl⟩
    rw [← hM]
    refine x_reptr 4 5 rfl ?_
    repeat (first | refine gG ?_ | refine zN1 (fun hlen => ?_) | refine zN2 (fun hlen => ?_) | refine zAl (fun _ => ?_) | refine zBx (fun _ => ?_) | refine zAp (fun _ => ?_))
    refine zAlE (fun bo => ?_)
    repeat (first | refine gG ?_ | refine zN1 (fun hlen => ?_) | refine zN2 (fun hlen => ?_) | refine zAl (fun _ => ?_) | refine zBx (fun _ => ?_) | refine zAp (fun _ => ?_))
    refine zStE rfl ?_
    repeat (first | refine gO ?_ | refine ac_seq ?_ | refine ac_block ?_)
    refine x_perm (hp' := fB x b4 Q ++ (soC bo true (.lit (.slice none 0 0)) (.lit (.slice none 0 0)) Q.now 0 :: M)) List.perm_middle.symm ?_
    refine x_reptr 20 6 rfl ?_
    repeat (first | refine gG ?_ | refine zN1 (fun hlen => ?_) | refine zN2 (fun hlen => ?_) | refine zAl (fun _ => ?_) | refine zBx (fun _ => ?_) | refine zAp (fun _ => ?_))
    refine x_loop [21, 22, 23, 25, 271, 272, 273, 274, 275, 276, 277, 278, 279, 280, 281, 282, 283, 284, 285, 286, 287, 288, 289, 290, 291, 292, 293, 294, 295, 296, 297, 298, 299, 300, 301, 302, 303, 304, 305, 306, 307, 308, 309, 310, 311, 312, 313, 314, 315, 316, 317, 318, 319, 320, 321, 322, 323, 324, 325, 326, 327, 328] (fun i : Nat => [(21, .c (iL (i : Nat)))]) (fun i => fB x b4 Q ++ (soC bo (dnT l.length Q i) (.lit (.slice none 0 0)) (.lit (.slice none 0 0)) Q.now (w64 (lfS l.length Q i 0 : Nat)) :: M)) (fun i => i ≤ l.length) (fun i => l.length - i) 0 (Nat.zero_le _) ⟨rfl, trivial⟩ rfl ?_
    rintro i hi
    repeat (first | refine gG ?_ | refine zN1 (fun hlen => ?_) | refine zN2 (fun hlen => ?_) | refine zAl (fun _ => ?_) | refine zBx (fun _ => ?_) | refine zAp (fun _ => ?_))
    refine x_cond rfl (fun h => ?_) (fun h => ?_)
    · -- BEGIN left
      have hi' : i < l.length := by simpa using h
      have hix : i < x.n := by rw [hA]; exact hi'
      clear h
      refine ac_skip (then_n (ac_seq (ac_block (ac_seq ?_))))
      refine x_join [276, 277, 278, 279, 280, 281, 282, 283, 284] (fun _ : Unit => []) (fun _ => fB x b4 Q ++ (soC bo (dnT l.length Q i && Q.bg i) (.lit (.slice none 0 0)) (.lit (.slice none 0 0)) Q.now (w64 (lfS l.length Q i 0 : Nat)) :: M)) (fun _ => ?_) ?_
      rotate_left
      · cases d0 : dnT l.length Q i
        · repeat (first | refine gG ?_ | refine zN1 (fun hlen => ?_) | refine zN2 (fun hlen => ?_) | refine zAl (fun _ => ?_) | refine zBx (fun _ => ?_) | refine zAp (fun _ => ?_))
          refine zStS ?_
          repeat (first | refine gG ?_ | refine zN1 (fun hlen => ?_) | refine zN2 (fun hlen => ?_) | refine zAl (fun _ => ?_) | refine zBx (fun _ => ?_) | refine zAp (fun _ => ?_))
          exact ⟨(), x_wk trivial rfl (by repeat (first | exact ag_refl | refine ag_upd rfl ?_ | refine ag_at rfl rfl ?_))⟩
        · repeat (first | refine gG ?_ | refine zN1 (fun hlen => ?_) | refine zN2 (fun hlen => ?_) | refine zAl (fun _ => ?_) | refine zBx (fun _ => ?_) | refine zAp (fun _ => ?_))
          refine zIx i hix ?_
          repeat (first | refine gG ?_ | refine zN1 (fun hlen => ?_) | refine zN2 (fun hlen => ?_) | refine zAl (fun _ => ?_) | refine zBx (fun _ => ?_) | refine zAp (fun _ => ?_))
          refine zEl1 (rng_at1 (fun i => T.lit (.bool (Q.bg i))) hix) ?_
          repeat (first | refine gG ?_ | refine zN1 (fun hlen => ?_) | refine zN2 (fun hlen => ?_) | refine zAl (fun _ => ?_) | refine zBx (fun _ => ?_) | refine zAp (fun _ => ?_))
          refine zStS ?_
          repeat (first | refine gG ?_ | refine zN1 (fun hlen => ?_) | refine zN2 (fun hlen => ?_) | refine zAl (fun _ => ?_) | refine zBx (fun _ => ?_) | refine zAp (fun _ => ?_))
          exact ⟨(), x_wk trivial (by rw [Bool.true_and]; rfl) (by repeat (first | exact ag_refl | refine ag_upd rfl ?_ | refine ag_at rfl rfl ?_))⟩
      obtain ⟨D, hD⟩ : ∃ D, D = (dnT l.length Q i && Q.bg i) := ⟨_, rfl⟩
      rw [← hD]
      repeat (first | refine gG ?_ | refine zN1 (fun hlen => ?_) | refine zN2 (fun hlen => ?_) | refine zAl (fun _ => ?_) | refine zBx (fun _ => ?_) | refine zAp (fun _ => ?_))
      refine x_loop [22, 23, 25, 285, 286, 287, 288, 289, 290, 291, 292, 293, 294, 295, 296, 297, 298, 299, 300, 301, 302, 303, 304, 305, 306, 307, 308, 309, 310, 311, 312, 313, 314, 315, 316, 317, 318, 319, 320, 321, 322, 323, 324, 325, 326, 327, 328] (fun k : Nat => [(22, .c (iL (k : Nat)))]) (fun k => fB x b4 Q ++ (soC bo (D && dI Q i k) (.lit (.slice none 0 0)) (.lit (.slice none 0 0)) Q.now (w64 (lfS l.length Q i k : Nat)) :: M)) (fun k => k ≤ l.length) (fun k => l.length - k) 0 (Nat.zero_le _) ⟨rfl, trivial⟩ (by rw [show dI Q i 0 = true from rfl, Bool.and_true]) ?_
      rintro k hk
      repeat (first | refine gG ?_ | refine zN1 (fun hlen => ?_) | refine zN2 (fun hlen => ?_) | refine zAl (fun _ => ?_) | refine zBx (fun _ => ?_) | refine zAp (fun _ => ?_))
      refine x_cond rfl (fun h => ?_) (fun h => ?_)
      · -- BEGIN way
        have hk' : k < l.length := by simpa using h
        have hkx : k < x.n := by rw [hA]; exact hk'
        clear h
        obtain ⟨j, hj⟩ := List.getElem?_of_mem (kN_mem.2 ⟨hkx, hix⟩)
        have hl1 := wlk x.wb hkx hix
        obtain ⟨M', hM'⟩ : ∃ M', M' = ((kN x.n).eraseIdx j).map (wcF x Q.ch) := ⟨_, rfl⟩
        have hpm : M.Perm (wyC (x.wb k i) (Q.ch k i) :: M') := by rw [hM, hM']; exact fam_out hj
        have hc := hQ'.ch k i
        have hgs := hc.gs
        have hpos := hc.pos
        have hsl : (Q.ch k i).sent.length ≤ 400 := by have := hc.ct; omega
        have hls := lfS_succ l.length Q i k
        have hdi : (D && dI Q i (k + 1)) = ((D && dI Q i k) && (decide (((k : Nat) : Int) = ((i : Nat) : Int)) || (Q.ch k i).came)) := by rw [dI_succ, Bool.and_assoc]
        clear hc hj
        have hpf : ∀ dn lf, (fB x b4 Q ++ (soC bo dn (.lit (.slice none 0 0)) (.lit (.slice none 0 0)) Q.now lf :: M)).Perm (fB x b4 Q ++ (soC bo dn (.lit (.slice none 0 0)) (.lit (.slice none 0 0)) Q.now lf :: wyC (x.wb k i) (Q.ch k i) :: M')) := fun _ _ => (hpm.cons _).append_left (fB x b4 Q)
        generalize Q.ch k i = c at *
        refine x_perm (hpf _ _) ?_
        repeat (first | refine gG ?_ | refine zN1 (fun hlen => ?_) | refine zN2 (fun hlen => ?_) | refine zAl (fun _ => ?_) | refine zBx (fun _ => ?_) | refine zAp (fun _ => ?_))
        refine zBda ?_
        repeat (first | refine gG ?_ | refine zN1 (fun hlen => ?_) | refine zN2 (fun hlen => ?_) | refine zAl (fun _ => ?_) | refine zBx (fun _ => ?_) | refine zAp (fun _ => ?_))
        refine lo_asp 7 (zLkr 155 keyWay ((k : Int), (i : Int)) hl1 ⟨_, _, rfl, ?_⟩)
        repeat (first | refine gO ?_ | refine ac_seq ?_ | refine ac_block ?_)
        refine x_join [295, 296, 297, 298, 299, 300, 301, 302, 303, 304, 305, 306, 307, 308] (fun _ : Unit => []) (fun _ => fB x b4 Q ++ (soC bo (D && dI Q i (k + 1)) (.lit (.slice none 0 0)) (.lit (.slice none 0 0)) Q.now (w64 (lfS l.length Q i k : Nat)) :: wyC (x.wb k i) c :: M')) (fun _ => ?_) ?_
        rotate_left
        · rw [hdi]
          cases d0 : (D && dI Q i k)
          · repeat (first | refine gG ?_ | refine zN1 (fun hlen => ?_) | refine zN2 (fun hlen => ?_) | refine zAl (fun _ => ?_) | refine zBx (fun _ => ?_) | refine zAp (fun _ => ?_))
            refine zStS ?_
            repeat (first | refine gG ?_ | refine zN1 (fun hlen => ?_) | refine zN2 (fun hlen => ?_) | refine zAl (fun _ => ?_) | refine zBx (fun _ => ?_) | refine zAp (fun _ => ?_))
            exact ⟨(), x_wk trivial rfl (by repeat (first | exact ag_refl | refine ag_upd rfl ?_ | refine ag_at rfl rfl ?_))⟩
          · cases e1 : decide (((k : Nat) : Int) = ((i : Nat) : Int))
            · repeat (first | refine gG ?_ | refine zN1 (fun hlen => ?_) | refine zN2 (fun hlen => ?_) | refine zAl (fun _ => ?_) | refine zBx (fun _ => ?_) | refine zAp (fun _ => ?_))
              refine zStS ?_
              repeat (first | refine gG ?_ | refine zN1 (fun hlen => ?_) | refine zN2 (fun hlen => ?_) | refine zAl (fun _ => ?_) | refine zBx (fun _ => ?_) | refine zAp (fun _ => ?_))
              exact ⟨(), x_wk trivial (by rw [Bool.true_and, Bool.false_or]; rfl) (by repeat (first | exact ag_refl | refine ag_upd rfl ?_ | refine ag_at rfl rfl ?_))⟩
            · repeat (first | refine gG ?_ | refine zN1 (fun hlen => ?_) | refine zN2 (fun hlen => ?_) | refine zAl (fun _ => ?_) | refine zBx (fun _ => ?_) | refine zAp (fun _ => ?_))
              refine zStS ?_
              repeat (first | refine gG ?_ | refine zN1 (fun hlen => ?_) | refine zN2 (fun hlen => ?_) | refine zAl (fun _ => ?_) | refine zBx (fun _ => ?_) | refine zAp (fun _ => ?_))
              exact ⟨(), x_wk trivial rfl (by repeat (first | exact ag_refl | refine ag_upd rfl ?_ | refine ag_at rfl rfl ?_))⟩
        clear hdi
        obtain ⟨pl, hpl⟩ : ∃ pl, pl = c.sent.drop c.got := ⟨_, rfl⟩
        refine ac_seq ?_
        refine ac_draw [1, 1, 1, 1, 1, 1, 1, 1, 1, 1, 1] [0, 1, 2, 3, 4, 5, 6, 7, 8, 9, 10] (by kernel_rfl) (by kernel_rfl) ?_
        refine gW ?_
        apply w_q; (focus exact rfl); (focus exact rfl); focus (intro _; (refine zPlf (f := intTs) (l := c.sent) c.got hgs (fun _ => rfl) ?_); exact det_refl)
        refine gW ?_
        refine w_nil ?_
        rw [← hpl]
        refine then_n ?_
        repeat (first | refine gG ?_ | refine zN1 (fun hlen => ?_) | refine zN2 (fun hlen => ?_) | refine zAl (fun _ => ?_) | refine zBx (fun _ => ?_) | refine zAp (fun _ => ?_))
        rw [← hpl] at hls
        have hpn : pl.length ≤ 400 := by rw [hpl, List.length_drop]; omega
        refine x_loop [25, 319, 320, 321, 322, 323, 324, 325, 326, 327, 328] (fun m : Nat => [(319, .c (iL (m : Nat)))]) (fun m => fB x b4 Q ++ (soC bo (D && dI Q i (k + 1)) (.lit (.slice none 0 0)) (.lit (.slice none 0 0)) Q.now (w64 (lfS l.length Q i k + posN (pl.take m) : Nat)) :: wyC (x.wb k i) c :: M')) (fun m => m ≤ pl.length) (fun m => pl.length - m) 0 (Nat.zero_le _) ⟨rfl, trivial⟩ rfl ?_
        intro m hm
        repeat (first | refine gG ?_ | refine zN1 (fun hlen => ?_) | refine zN2 (fun hlen => ?_) | refine zAl (fun _ => ?_) | refine zBx (fun _ => ?_) | refine zAp (fun _ => ?_))
        refine x_cond rfl (fun h => ?_) (fun h => ?_)
        · have hm' : m < pl.length := by simpa using h
          obtain ⟨z, hz⟩ := nth hm'
          have hzt := ints_at hz
          have hz0 : 0 < z := hpos z (by have := List.mem_of_getElem? hz; rw [hpl] at this; exact List.mem_of_mem_drop this)
          have hps : posN (pl.take (m + 1)) = posN (pl.take m) + z.toNat := by
            obtain ⟨h1, h2⟩ := List.getElem?_eq_some_iff.1 hz
            rw [List.take_succ_eq_append_getElem h1, h2, posN_app]
            simp [posN]
          have hwz : w64 (w64 ((lfS l.length Q i k + posN (pl.take m) : Nat) : Int) + z) = w64 ((lfS l.length Q i k + posN (pl.take (m + 1)) : Nat) : Int) := by
            rw [w64_add, hps]
            congr 1
            omega
          clear h
          repeat (first | refine gG ?_ | refine zN1 (fun hlen => ?_) | refine zN2 (fun hlen => ?_) | refine zAl (fun _ => ?_) | refine zBx (fun _ => ?_) | refine zAp (fun _ => ?_))
          refine zIx m hm' ?_
          repeat (first | refine gG ?_ | refine zN1 (fun hlen => ?_) | refine zN2 (fun hlen => ?_) | refine zAl (fun _ => ?_) | refine zBx (fun _ => ?_) | refine zAp (fun _ => ?_))
          refine zEl1 hzt ?_
          repeat (first | refine gG ?_ | refine zN1 (fun hlen => ?_) | refine zN2 (fun hlen => ?_) | refine zAl (fun _ => ?_) | refine zBx (fun _ => ?_) | refine zAp (fun _ => ?_))
          refine lo_add rfl rfl (r := w64 ((lfS l.length Q i k + posN (pl.take (m + 1)) : Nat) : Int)) hwz ?_
          repeat (first | refine gG ?_ | refine zN1 (fun hlen => ?_) | refine zN2 (fun hlen => ?_) | refine zAl (fun _ => ?_) | refine zBx (fun _ => ?_) | refine zAp (fun _ => ?_))
          refine zStS ?_
          repeat (first | refine gG ?_ | refine zN1 (fun hlen => ?_) | refine zN2 (fun hlen => ?_) | refine zAl (fun _ => ?_) | refine zBx (fun _ => ?_) | refine zAp (fun _ => ?_))
          exact ⟨m + 1, hm', by omega, x_wk ⟨rfl, trivial⟩ rfl (by repeat (first | exact ag_refl | refine ag_upd rfl ?_ | refine ag_at rfl rfl ?_))⟩
        have hme : m = pl.length := by have : ¬ m < pl.length := by simpa using h
                                       omega
        subst hme
        clear h hm
        rw [List.take_length, ← hls]
        refine ac_exit ?_
        repeat (first | refine gG ?_ | refine zN1 (fun hlen => ?_) | refine zN2 (fun hlen => ?_) | refine zAl (fun _ => ?_) | refine zBx (fun _ => ?_) | refine zAp (fun _ => ?_))
        exact ⟨k + 1, hk', by omega, Wk.trans (wk_perm (hpf _ _).symm) (x_wk ⟨rfl, trivial⟩ rfl (by repeat (first | exact ag_refl | refine ag_upd rfl ?_ | refine ag_at rfl rfl ?_)))⟩
        -- END way
      have hke : k = l.length := by have : ¬ k < l.length := by simpa using h
                                    omega
      subst hke
      clear h hk
      rw [lfS_next, show (D && dI Q i l.length) = dnT l.length Q (i + 1) by rw [dnT_succ, okS_dI, hD, Bool.and_assoc]]
      refine ac_exit ?_
      repeat (first | refine gG ?_ | refine zN1 (fun hlen => ?_) | refine zN2 (fun hlen => ?_) | refine zAl (fun _ => ?_) | refine zBx (fun _ => ?_) | refine zAp (fun _ => ?_))
      exact ⟨i + 1, hi', by omega, x_wk ⟨rfl, trivial⟩ rfl (by repeat (first | exact ag_refl | refine ag_upd rfl ?_ | refine ag_at rfl rfl ?_))⟩
      -- END left
    have hie : i = l.length := by have : ¬ i < l.length := by simpa using h
                                  omega
    subst hie
    clear h hi
    rw [lfS_end]
    refine ac_exit ?_
    repeat (first | refine gG ?_ | refine zN1 (fun hlen => ?_) | refine zN2 (fun hlen => ?_) | refine zAl (fun _ => ?_) | refine zBx (fun _ => ?_) | refine zAp (fun _ => ?_))
    generalize w64 ((leftN l.length Q : Nat) : Int) = lf at *
    have hall := fun hd => @all_okS l.length Q hd
    cases hdn : dnT l.length Q l.length
    · -- not done: no rows
      refine x_loop [26, 27, 28, 29, 30, 329, 330, 331, 332, 333, 334, 335, 336, 337, 338, 339, 340, 341, 342, 343, 344, 345, 346, 347, 348, 349, 350, 351, 352, 353, 354, 355, 356, 357, 358, 359, 360, 361, 362, 363, 364, 365, 366, 367, 368, 369, 370, 371, 372, 373, 374, 375, 376, 377, 378, 379, 380, 381, 382, 383, 384, 385, 386, 387, 388, 389, 390, 391, 392, 393] (fun _ : Unit => [(26, .c (iL (0 : Nat)))]) (fun _ => fB x b4 Q ++ (soC bo false (.lit (.slice none 0 0)) (.lit (.slice none 0 0)) Q.now lf :: M)) (fun _ => True) (fun _ => 0) () trivial ⟨rfl, trivial⟩ rfl ?_
      rintro _ _
      cases e1 : decide (((0 : Nat) : Int) < ((l.length : Nat) : Int))
      · repeat (first | refine gG ?_ | refine zN1 (fun hlen => ?_) | refine zN2 (fun hlen => ?_) | refine zAl (fun _ => ?_) | refine zBx (fun _ => ?_) | refine zAp (fun _ => ?_))
        refine zStS ?_
        repeat (first | refine gG ?_ | refine zN1 (fun hlen => ?_) | refine zN2 (fun hlen => ?_) | refine zAl (fun _ => ?_) | refine zBx (fun _ => ?_) | refine zAp (fun _ => ?_))
        first | refine zR ?_ | refine zQ ?_
        unfold shotT
        rw [hdn]
        rfl
      · repeat (first | refine gG ?_ | refine zN1 (fun hlen => ?_) | refine zN2 (fun hlen => ?_) | refine zAl (fun _ => ?_) | refine zBx (fun _ => ?_) | refine zAp (fun _ => ?_))
        refine zStS ?_
        repeat (first | refine gG ?_ | refine zN1 (fun hlen => ?_) | refine zN2 (fun hlen => ?_) | refine zAl (fun _ => ?_) | refine zBx (fun _ => ?_) | refine zAp (fun _ => ?_))
        first | refine zR ?_ | refine zQ ?_
        unfold shotT
        rw [hdn]
        rfl
    · -- BEGIN done
      replace hall := fun i hi => hall hdn (i := i) hi
      have hst1 : ∀ i, i < l.length → stT l.length Q i = Q.st i := fun i hi => by unfold stT; rw [if_pos (hall i hi)]
      have hwy1 : ∀ i, i < l.length → wysT l.length Q i = .row (oth l.length i).length 1 (wyP Q i l.length) := fun i hi => by unfold wysT; rw [if_pos (hall i hi)]; rfl
      refine ac_wk (Wk.trans (wk_nils 3 1 (by omega) 1) (wk_nils 38 1 (by omega) 1)) ?_
      refine x_perm (hp' := fB x b4 Q ++ (soC bo true (.lit (.slice none 0 0)) (.lit (.slice none 0 0)) Q.now lf :: .row (.slice none 0 0) 3 1 0 [] :: .row (.slice none 0 0) 38 1 0 [] :: M)) perm_r2 ?_
      refine ac_wk (wk_boxR 6 [.c (.lit (.bool true)), .own 7 (.slice none 0 0), .own 8 (.slice none 0 0), .c (intRow Q.now), .c (iL lf)] rfl (res_cons re_refl (res_cons (re_co rfl) (res_cons (re_co rfl) (res_cons re_refl (res_cons re_refl res_nil)))))) ?_
      refine x_loop [26, 27, 28, 29, 30, 329, 330, 331, 332, 333, 334, 335, 336, 337, 338, 339, 340, 341, 342, 343, 344, 345, 346, 347, 348, 349, 350, 351, 352, 353, 354, 355, 356, 357, 358, 359, 360, 361, 362, 363, 364, 365, 366, 367, 368, 369, 370, 371, 372, 373, 374, 375, 376, 377, 378, 379, 380, 381, 382, 383, 384, 385, 386, 387, 388, 389, 390, 391, 392, 393] (fun q : Nat × Value × Value => [(26, .c (iL (q.1 : Nat)))]) (fun q => fB x b4 Q ++ (obQ bo q.2.1 q.2.2 Q.now lf :: .row q.2.1 3 1 q.1 (stL l.length Q q.1) :: .row q.2.2 38 1 q.1 (wyL l.length Q q.1) :: M)) (fun q => q.1 ≤ l.length) (fun q => l.length - q.1) (0, .slice none 0 0, .slice none 0 0) (Nat.zero_le _) ⟨rfl, trivial⟩ rfl ?_
      rintro ⟨i, v1, v2⟩ hi
      dsimp only at hi ⊢
      cases e1 : decide (((i : Nat) : Int) < ((l.length : Nat) : Int))
      · -- BEGIN out
        have hie : i = l.length := by have := of_decide_eq_false e1; omega
        subst hie
        clear e1 hi
        refine ac_wk (wk_boxcell 6 7 1 (by omega) rfl rfl rfl) ?_
        refine ac_wk (wk_boxcell 6 8 2 (by omega) rfl rfl rfl) ?_
        refine ac_wk (wk_forget (H := fB x b4 Q ++ [soC bo true (.row l.length 1 (stL l.length Q l.length)) (.row l.length 1 (wyL l.length Q l.length)) Q.now lf]) (a := .dead) (L := .dead :: M)) ?_
        refine ac_wk (wk_forget (H := fB x b4 Q ++ [soC bo true (.row l.length 1 (stL l.length Q l.length)) (.row l.length 1 (wyL l.length Q l.length)) Q.now lf]) (a := .dead) (L := M)) ?_
        have e1 : decide (((l.length : Nat) : Int) < ((l.length : Nat) : Int)) = false := decide_eq_false (by omega)
        repeat (first | refine gG ?_ | refine zN1 (fun hlen => ?_) | refine zN2 (fun hlen => ?_) | refine zAl (fun _ => ?_) | refine zBx (fun _ => ?_) | refine zAp (fun _ => ?_))
        refine zStS ?_
        repeat (first | refine gG ?_ | refine zN1 (fun hlen => ?_) | refine zN2 (fun hlen => ?_) | refine zAl (fun _ => ?_) | refine zBx (fun _ => ?_) | refine zAp (fun _ => ?_))
        first | refine zR ?_ | refine zQ ?_
        unfold shotT
        rw [hdn]
        rfl
        -- END out
      · -- BEGIN row
        have hi' : i < l.length := by have := of_decide_eq_true e1; omega
        have hix : i < x.n := by rw [hA]; exact hi'
        have hs1 := stL_succ l.length Q i
        have hs2 := wyL_succ l.length Q i
        rw [hst1 i hi'] at hs1
        rw [hwy1 i hi'] at hs2
        repeat (first | refine gG ?_ | refine zN1 (fun hlen => ?_) | refine zN2 (fun hlen => ?_) | refine zAl (fun _ => ?_) | refine zBx (fun _ => ?_) | refine zAp (fun _ => ?_))
        refine ac_draw [0, 1, 1, 1, 1, 1, 1, 2, 0, 2] [0, 1, 2, 3, 4, 5, 6, 7, 8, 9] (by kernel_rfl) (by kernel_rfl) ?_
        refine gW ?_
        apply w_q; (focus exact rfl); (focus exact rfl); focus (intro _; (refine zIx i hix ?_); exact det_refl)
        apply w_q; (focus exact rfl); (focus exact rfl); focus (intro _; (refine zEl1 (rng_at1 (fun i => iL (Q.st i)) hix) ?_); exact det_refl)
        refine gW ?_
        apply w_l; (focus exact rfl); (focus exact rfl); (refine zApS (fun v3 => ?_))
        refine gW ?_
        apply w_l; (focus exact rfl); (focus exact rfl); (refine zStS ?_)
        refine w_nil ?_
        repeat (first | refine gG ?_ | refine zN1 (fun hlen => ?_) | refine zN2 (fun hlen => ?_) | refine zAl (fun _ => ?_) | refine zBx (fun _ => ?_) | refine zAp (fun _ => ?_))
        refine x_eq (hp' := fB x b4 Q ++ (obQ bo v3 v2 Q.now lf :: .row v3 3 1 (i + 1) (stL l.length Q (i + 1)) :: .row v2 38 1 i (wyL l.length Q i) :: M)) (by rw [← hs1]; rfl) ?_
        refine ac_wk (wk_nils 22 1 (by omega) 1) ?_
        refine x_perm (hp' := fB x b4 Q ++ (obQ bo v3 v2 Q.now lf :: .row v3 3 1 (i + 1) (stL l.length Q (i + 1)) :: .row v2 38 1 i (wyL l.length Q i) :: .row (.slice none 0 0) 22 1 0 [] :: M)) perm_r3 ?_
        refine x_as 27 (.own 9 (.slice none 0 0)) (re_co rfl) ?_
        refine x_loop [27, 28, 29, 30, 347, 348, 349, 350, 351, 352, 353, 354, 355, 356, 357, 358, 359, 360, 361, 362, 363, 364, 365, 366, 367, 368, 369, 370, 371, 372, 373, 374, 375, 376, 377, 378, 379, 380, 381, 382, 383, 384, 385, 386, 387] (fun q : Nat × Value => [(27, .own 9 q.2), (28, .c (iL (q.1 : Nat)))]) (fun q => fB x b4 Q ++ (obQ bo v3 v2 Q.now lf :: .row v3 3 1 (i + 1) (stL l.length Q (i + 1)) :: .row v2 38 1 i (wyL l.length Q i) :: .row q.2 22 1 (oth q.1 i).length (wyP Q i q.1) :: M)) (fun q => q.1 ≤ l.length) (fun q => l.length - q.1) (0, .slice none 0 0) (Nat.zero_le _) ⟨rfl, rfl, trivial⟩ rfl ?_
        rintro ⟨k, vw⟩ hk
        dsimp only at hk ⊢
        repeat (first | refine gG ?_ | refine zN1 (fun hlen => ?_) | refine zN2 (fun hlen => ?_) | refine zAl (fun _ => ?_) | refine zBx (fun _ => ?_) | refine zAp (fun _ => ?_))
        refine x_cond rfl (fun h => ?_) (fun h => ?_)
        · -- BEGIN cell
          have hk' : k < l.length := by have := of_decide_eq_true h; omega
          have hkx : k < x.n := by rw [hA]; exact hk'
          clear h
          obtain ⟨j, hj⟩ := List.getElem?_of_mem (kN_mem.2 ⟨hkx, hix⟩)
          have hl1 := wlk x.wb hkx hix
          obtain ⟨M', hM'⟩ : ∃ M', M' = ((kN x.n).eraseIdx j).map (wcF x Q.ch) := ⟨_, rfl⟩
          have hpm : M.Perm (wyC (x.wb k i) (Q.ch k i) :: M') := by rw [hM, hM']; exact fam_out hj
          have hos := oth_succ k i
          have hbk : Q.bg k = true := by have := hall k hk'; unfold okS at this; simp only [Bool.and_eq_true] at this; exact this.1
          have hbi : Q.bg i = true := by have := hall i hi'; unfold okS at this; simp only [Bool.and_eq_true] at this; exact this.1
          have hmq := (hQ'.ch k i).mq hbk
          have hab := (hQ'.ch k i).ab hbi
          have hgs := (hQ'.ch k i).gs
          have hsl : (Q.ch k i).sent.length ≤ 400 := by have := (hQ'.ch k i).ct; omega
          have hcm := fun hne => ok_came (hall i hi') hk' hne
          have hwp : wyP Q i (k + 1) = if k = i then wyP Q i k else wyP Q i k ++ [intRow (recC true (Q.ch k i))] := by
            unfold wyP
            rw [hos]
            split
            · rfl
            · rw [List.map_append]; rfl
          have hpf : ∀ o r1 r2 r3, (fB x b4 Q ++ (o :: r1 :: r2 :: r3 :: M)).Perm (fB x b4 Q ++ (o :: r1 :: r2 :: r3 :: wyC (x.wb k i) (Q.ch k i) :: M')) := fun _ _ _ _ => ((((hpm.cons _).cons _).cons _).cons _).append_left (fB x b4 Q)
          clear hj
          generalize Q.ch k i = c at *
          refine x_perm (hpf _ _ _ _) ?_
          repeat (first | refine gG ?_ | refine zN1 (fun hlen => ?_) | refine zN2 (fun hlen => ?_) | refine zAl (fun _ => ?_) | refine zBx (fun _ => ?_) | refine zAp (fun _ => ?_))
          refine zBda ?_
          repeat (first | refine gG ?_ | refine zN1 (fun hlen => ?_) | refine zN2 (fun hlen => ?_) | refine zAl (fun _ => ?_) | refine zBx (fun _ => ?_) | refine zAp (fun _ => ?_))
          refine lo_asp 10 (zLkr 155 keyWay ((k : Int), (i : Int)) hl1 ⟨_, _, rfl, ?_⟩)
          repeat (first | refine gG ?_ | refine zN1 (fun hlen => ?_) | refine zN2 (fun hlen => ?_) | refine zAl (fun _ => ?_) | refine zBx (fun _ => ?_) | refine zAp (fun _ => ?_))
          refine x_cond rfl (fun h => ?_) (fun h => ?_)
          · have hki : k ≠ i := by simp at h; omega
            rw [if_neg hki] at hos hwp
            have hcm := hcm hki
            clear h
            have hol : (oth k i).length ≤ k := by unfold oth; exact Nat.le_trans (List.length_filter_le _ _) (by simp)
            have hxr : recC true c = (c.sent.take c.mark.toNat).drop c.atB := by unfold recC; rw [if_pos rfl, if_pos hcm]
            refine ac_seq (ac_region ?_)
            repeat (refine gO ?_)
            try refine then_n ?_
            refine ac_seq ?_
            refine x_join [30, 360, 361, 362, 363, 364, 365, 366, 367, 368, 369, 370, 371, 372, 373, 374, 375, 376, 377, 378, 379, 380, 381, 382, 383] (fun _ : Unit => [(30, .c (intRow (recC true c)))]) (fun _ => fB x b4 Q ++ (obQ bo v3 v2 Q.now lf :: .row v3 3 1 (i + 1) (stL l.length Q (i + 1)) :: .row v2 38 1 i (wyL l.length Q i) :: .row vw 22 1 (oth k i).length (wyP Q i k) :: wyC (x.wb k i) c :: M')) (fun _ => ?_) ?_
            rotate_left
            · -- BEGIN cut
              refine ac_seq ?_
              refine ac_draw [1, 1, 1, 1, 1, 1, 1, 1, 1] [0, 1, 2, 3, 4, 5, 6, 7, 8] (by kernel_rfl) (by kernel_rfl) ?_
              refine gW ?_
              refine w_nil ?_
              refine then_n ?_
              refine x_cond rfl (fun h => ?_) (fun h => ?_)
              · -- BEGIN app
                have hmt : c.mark = ((c.mark.toNat : Nat) : Int) := by omega
                have hgt : c.atB < c.mark.toNat := by have := of_decide_eq_true h; omega
                have htl : ((c.sent.take c.mark.toNat).drop c.atB).length ≤ 400 := by rw [List.length_drop, List.length_take]; omega
                refine ac_wk (wk_nils 3 1 (by omega) 1) ?_
                refine x_perm perm_r5 ?_
                refine x_as 30 (.own 11 (.slice none 0 0)) (re_co rfl) ?_
                refine ac_draw [0, 0, 0, 0, 1, 0, 0, 0, 1, 0, 0, 0, 1, 1, 2, 1] [0, 1, 2, 3, 4, 5, 6, 7, 8, 9, 10, 11, 12, 13, 14, 15] (by kernel_rfl) (by kernel_rfl) ?_
                refine gW ?_
                apply w_q; (focus exact rfl); (focus exact rfl); focus (intro _; (refine zPmi (l := c.sent) c.atB c.mark.toNat (by omega) (by omega) ?_ rfl hmt); exact det_refl)
                apply w_l; (focus exact rfl); (focus exact rfl); (refine zApS (fun v' => ?_))
                refine gW ?_
                refine w_nil ?_
                refine then_n ?_
                refine ⟨(), Wk.trans (wk_fzS 30 (i := 11) rfl rfl) (Wk.trans (wk_forget (H := fB x b4 Q ++ [obQ bo v3 v2 Q.now lf, .row v3 3 1 (i + 1) (stL l.length Q (i + 1)), .row v2 38 1 i (wyL l.length Q i), .row vw 22 1 (oth k i).length (wyP Q i k), wyC (x.wb k i) c]) (a := .dead) (L := M')) (x_wk ⟨?_, trivial⟩ rfl (by repeat (first | exact ag_refl | refine ag_upd rfl ?_ | refine ag_at rfl rfl ?_))))⟩
                rw [hxr]
                exact congrArg AV.c (by unfold intRow; rw [Nat.zero_add]; rfl)
                -- END app
              · have hre : recC true c = [] := by
                  rw [hxr, List.drop_eq_nil_iff, List.length_take]
                  have := of_decide_eq_false h
                  omega
                rw [hre]
                refine x_as 30 (.c (intRow [])) (fun M u h => by have h' := nil_ints M u (ra_c h); simpa only [RA] using h') ?_
                repeat (first | refine gG ?_ | refine zN1 (fun hlen => ?_) | refine zN2 (fun hlen => ?_) | refine zAl (fun _ => ?_) | refine zBx (fun _ => ?_) | refine zAp (fun _ => ?_))
                exact ⟨(), x_wk ⟨rfl, trivial⟩ rfl (by repeat (first | exact ag_refl | refine ag_upd rfl ?_ | refine ag_at rfl rfl ?_))⟩
              -- END cut
            repeat (first | refine gG ?_ | refine zN1 (fun hlen => ?_) | refine zN2 (fun hlen => ?_) | refine zAl (fun _ => ?_) | refine zBx (fun _ => ?_) | refine zAp (fun _ => ?_))
            refine zApS (fun vw' => ?_)
            repeat (first | refine gG ?_ | refine zN1 (fun hlen => ?_) | refine zN2 (fun hlen => ?_) | refine zAl (fun _ => ?_) | refine zBx (fun _ => ?_) | refine zAp (fun _ => ?_))
            exact ⟨(k + 1, vw'), hk', by dsimp only; omega, Wk.trans (wk_perm (hpf _ _ _ _).symm) (x_wk ⟨rfl, rfl, trivial⟩ (by dsimp only; rw [hos, hwp, List.length_append]; rfl) (by repeat (first | exact ag_refl | refine ag_upd rfl ?_ | refine ag_at rfl rfl ?_)))⟩
          · have hki : k = i := by simp at h; omega
            rw [if_pos hki] at hos hwp
            clear h hcm
            repeat (first | refine gG ?_ | refine zN1 (fun hlen => ?_) | refine zN2 (fun hlen => ?_) | refine zAl (fun _ => ?_) | refine zBx (fun _ => ?_) | refine zAp (fun _ => ?_))
            refine ⟨(k + 1, vw), hk', by dsimp only; omega, Wk.trans (wk_perm (hpf _ _ _ _).symm) (x_wk ⟨rfl, rfl, trivial⟩ (by dsimp only; rw [hos, hwp]) (by repeat (first | exact ag_refl | refine ag_upd rfl ?_ | refine ag_at rfl rfl ?_)))⟩
          -- END cell
        have hke : k = l.length := by have := of_decide_eq_false h; omega
        subst hke
        clear h hk
        refine ac_exit ?_
        refine x_fzS 27 ?_
        refine ac_wk (wk_forget (H := fB x b4 Q ++ [obQ bo v3 v2 Q.now lf, .row v3 3 1 (i + 1) (stL l.length Q (i + 1)), .row v2 38 1 i (wyL l.length Q i)]) (a := .dead) (L := M)) ?_
        repeat (first | refine gG ?_ | refine zN1 (fun hlen => ?_) | refine zN2 (fun hlen => ?_) | refine zAl (fun _ => ?_) | refine zBx (fun _ => ?_) | refine zAp (fun _ => ?_))
        refine zApS (fun v4 => ?_)
        repeat (first | refine gG ?_ | refine zN1 (fun hlen => ?_) | refine zN2 (fun hlen => ?_) | refine zAl (fun _ => ?_) | refine zBx (fun _ => ?_) | refine zAp (fun _ => ?_))
        refine zStS ?_
        repeat (first | refine gG ?_ | refine zN1 (fun hlen => ?_) | refine zN2 (fun hlen => ?_) | refine zAl (fun _ => ?_) | refine zBx (fun _ => ?_) | refine zAp (fun _ => ?_))
        exact ⟨(i + 1, v3, v4), hi', by dsimp only; omega, x_wk ⟨rfl, trivial⟩ (by dsimp only; rw [← hs2]; rfl) (by repeat (first | exact ag_refl | refine ag_upd rfl ?_ | refine ag_at rfl rfl ?_))⟩
        -- END row
      -- END done
    -- END rest
end Go.Proofs.Ytdogdjcjmhogmaa
