/-
  Texts of this proof, part 9: Koe Kof Kog.
-/
import Derived.Test.YtdogdjcjmhogmaaQMoveRuns8
import Derived.Lib.MinMax
namespace Go.Proofs.Ytdogdjcjmhogmaa
open Go.RowKit
theorem keysE_nodup (nA nd : Nat) : (keysE nA nd).Nodup := by
  unfold keysE List.Nodup
  rw [List.pairwise_flatMap]
  refine ⟨fun w _ => ?_, ?_⟩
  · refine List.Pairwise.map _ (fun a b h => ?_) List.nodup_range
    intro e
    have := (Prod.mk.injEq ..).mp e
    omega
  · refine List.Pairwise.imp (fun {a b} h => ?_) List.nodup_range
    intro x hx y hy e
    obtain ⟨i, _, rfl⟩ := List.mem_map.1 hx
    obtain ⟨j, _, rfl⟩ := List.mem_map.1 hy
    have := (Prod.mk.injEq ..).mp e
    omega
/-- the parts of a world's blocks behind its head -/
theorem pull3 {H A B C D E C' D' E' : List Blk} {c d e : Blk} (hC : C.Perm (c :: C')) (hD : D.Perm (d :: D')) (hE : E.Perm (e :: E')) : (H ++ (A ++ (B ++ (C ++ (D ++ E))))).Perm ((H ++ [d, e, c]) ++ (A ++ (B ++ (C' ++ (D' ++ E'))))) := by
  refine (List.Perm.append_left H (List.Perm.append_left A (List.Perm.append_left B (hC.append (hD.append hE))))).trans ?_
  have := perm_parts [H, A, B, [c], C', [d], D', [e], E'] [0, 5, 7, 3, 1, 2, 4, 6, 8] (show List.Perm _ (List.range 9) by decide)
  simpa using this
theorem pullB {H A B R B' : List Blk} {b : Blk} (hB : B.Perm (b :: B')) : (H ++ (A ++ (B ++ R))).Perm (H ++ (b :: (A ++ (B' ++ R)))) := by
  refine (List.Perm.append_left H (List.Perm.append_left A (hB.append_right R))).trans ?_
  have := perm_parts [H, A, [b], B', R] [0, 2, 1, 3, 4] (show List.Perm _ (List.range 5) by decide)
  simpa using this
theorem in_same {x : Fx} {f : Int → Int → Int} {k : Int × Int} {n : Int} {l : List (Int × Int)} (h : k ∉ l) : l.map (inR x (upd2 f k.1 k.2 n)) = l.map (inR x f) := by
  refine List.map_congr_left fun a ha => ?_
  have : ¬ (a.1 = k.1 ∧ a.2 = k.2) := fun e => h ((Prod.ext e.1 e.2 : a = k) ▸ ha)
  simp only [inR, upd2, if_neg this]
theorem st_same {x : Fx} {f : Int → Int → List (Int × Int)} {k : Int × Int} {n : List (Int × Int)} {l : List (Int × Int)} (h : k ∉ l) : l.map (stR x (upd2 f k.1 k.2 n)) = l.map (stR x f) := by
  refine List.map_congr_left fun a ha => ?_
  have : ¬ (a.1 = k.1 ∧ a.2 = k.2) := fun e => h ((Prod.ext e.1 e.2 : a = k) ▸ ha)
  simp only [stR, upd2, if_neg this]
theorem ints_at {l : List Int} {j : Nat} {a : Int} (h : l[j]? = some a) : (l.flatMap intTs)[j * 1]? = some (iL a) := flat_get intTs 1 (fun _ => rfl) h (j := 0) (by omega)
/-- how many blocks a world has -/
def lenB (x : Fx) (Z : Zt) : Nat := 8 + (Z.ways.length + (Z.wait.length + (Z.got.length + ((keysE x.nA x.nd).length + (keysE x.nA x.nd).length))))
theorem lenB_all (x : Fx) (w : Ws) : (allB x w).length = lenB x w.z := by
  simp only [allB, hdB, List.length_append, List.length_map, List.length_cons, List.length_nil, lenB, Ws.z, bare]
theorem take_allB' {x : Fx} {w : Ws} {Z : Zt} {l : List Blk} (h : w.z = Z) (hl : l.Perm (allB x w)) : l.take (0 + lenB x Z) = l := List.take_of_length_le (by rw [hl.length_eq, lenB_all, h]; omega)
/-- the blocks of a world that stands so, in any order -/
def Gave (x : Fx) (Z : Zt) (hs : List Blk) : Prop := ∃ w', w'.z = Z ∧ hs.Perm (allB x w')
theorem in_out {x : Fx} {f : Int → Int → Int} {ks : List (Int × Int)} {p : Nat} {k : Int × Int} (n : Int) (hn : ks.Nodup) (hp : ks[p]? = some k) : (ks.map (inR x (upd2 f k.1 k.2 n))).Perm (inV x k n :: (ks.eraseIdx p).map (inR x f)) := by
  have := fam_out (f := inR x (upd2 f k.1 k.2 n)) hp
  rw [in_same (erase_not hn hp)] at this
  have e : inR x (upd2 f k.1 k.2 n) k = inV x k n := by simp only [inR, inV, upd2_at]
  rwa [e] at this
theorem st_out {x : Fx} {f : Int → Int → List (Int × Int)} {ks : List (Int × Int)} {p : Nat} {k : Int × Int} (n : List (Int × Int)) (hn : ks.Nodup) (hp : ks[p]? = some k) : (ks.map (stR x (upd2 f k.1 k.2 n))).Perm (stV x k n :: (ks.eraseIdx p).map (stR x f)) := by
  have := fam_out (f := stR x (upd2 f k.1 k.2 n)) hp
  rw [st_same (erase_not hn hp)] at this
  have e : stR x (upd2 f k.1 k.2 n) k = stV x k n := by simp only [stR, stV, upd2_at]
  rwa [e] at this
theorem bare_put (k : Int × Int) (v : Value) (l : List El) : ∀ W : List ((Int × Int) × (Value × List El)), bare (gput k (v, l) W) = gput k l (bare W)
  | [] => rfl
  | (k', q) :: W => by
    have ih := bare_put k v l W
    unfold bare at ih ⊢
    by_cases h : k = k' <;> simp [gput, h, ih]
theorem wayL_eq (k : Int × Int) : ∀ W : List ((Int × Int) × (Value × List El)), wayL k W = wayG k (bare W)
  | [] => rfl
  | (k', q) :: W => by
    have ih := wayL_eq k W
    unfold wayL wayG bare at ih ⊢
    by_cases h : k = k' <;> simp [gget, h, ih]
theorem wayG_le (k : Int × Int) : ∀ W : List ((Int × Int) × List El), (wayG k W).length ≤ sumW W
  | [] => Nat.zero_le _
  | (k', q) :: W => by
    have ih := wayG_le k W
    unfold wayG sumW at ih ⊢
    by_cases h : k = k'
    · simp [gget, h]
    · simp only [gget, h, if_false, List.map_cons, List.sum_cons]; omega
theorem nodup_ks (x : Fx) : (keysE x.nA x.nd).Nodup := keysE_nodup _ _
set_option maxRecDepth 100000 in
set_option maxHeartbeats 8000000 in
theorem proc_ag (x : Fx) (w : Ws) (i : Int) (y : El) {t cw cy cs cg : Nat} (hZ : ZOk x.nA x.nd t cw cy cs cg w.z) (h1 : cw ≤ 1000000) (h2 : cy + 2 ≤ 1000000) (h3 : cs ≤ 1000000) (h4 : cg + cs + 1 ≤ 100000000000) (hi : isN x.nd i) (hy : ElOk x.nA x.nd t y) (hk : y.kind = 0) :
    AG Try.prog 75 [.ptr 0 x.b 0, .c (iL i), .c (.agg (elTs y))] (allB x w) (fun _ hs => Gave x (procZ i y w.z) hs) := by
  obtain ⟨m, rfl⟩ : ∃ m : Nat, i = (m : Int) := ⟨i.toNat, (isN_lt hi).2.symm⟩
  obtain ⟨yk, yw, ys, yq, yn, yo, yt⟩ := y
  have hwho := hy.who
  have hsrc := hy.src hk
  dsimp only at hk hwho hsrc
  subst hk
  obtain ⟨j, rfl⟩ : ∃ j : Nat, yw = (j : Int) := ⟨yw.toNat, (isW_lt hwho).2.symm⟩
  have hm := keysE_mem hi hwho
  have hms := keysE_mem hsrc hwho
  have hjA : j < x.nA := (isW_lt hwho).1
  have hlk : (mget ((m : Int), (j : Int)) (tabK (belT w.bel) (keysE x.nA x.nd))).getD (.agg [.lit (.int .i64 0), .lit (.int .i64 0)]) = belT w.bel ((m : Int), (j : Int)) := by rw [tabK_get _ _ hm]; rfl
  have hal : w.at_.length = x.nA := hZ.alen
  have hjl : j < w.at_.length := by rw [hal]; exact hjA
  obtain ⟨a, ha⟩ := nth hjl
  have hat := ints_at ha
  have hP : procZ m ⟨0, j, ys, yq, yn, yo, yt⟩ w.z = if a = (m : Int) then recvZ ⟨0, j, ys, yq, yn, yo, yt⟩ w.z
      else if (w.bel m j).1 = (m : Int) then { w.z with wait := w.z.wait.set m (w.z.wait.getD m [] ++ [⟨0, j, ys, yq, yn, yo, yt⟩]) }
      else { w.z with ways := pushL ((m : Int), (w.bel m j).1) ⟨0, j, ys, yq, yn, yo, yt⟩ (if ys = (m : Int) then w.z.ways else pushL ((m : Int), ys) (noteE ⟨0, j, ys, yq, yn, yo, yt⟩ (w.bel m j)) w.z.ways) } := by
    have had : w.z.at_.getD ((j : Int)).toNat 0 = a := by show w.at_.getD j 0 = a; rw [List.getD, ha]; rfl
    unfold procZ
    dsimp only
    rw [had]
    rfl
  generalize procZ m ⟨0, j, ys, yq, yn, yo, yt⟩ w.z = Z at hP ⊢
  refine ag_enter (0 + lenB x Z) tok Try.func75 Try.ntmps75 Try.results75 rfl (by kernel_rfl) rfl fun F => ?_
  repeat (first | refine gG ?_ | refine zAl (fun _ => ?_) | refine zBf ?_ | refine zAp (fun _ => ?_))
  refine ac_draw [1, 1, 1, 1, 1, 1, 1, 1, 1, 3, 2] [0, 1, 2, 3, 4, 5, 6, 7, 8, 9, 10] (by kernel_rfl) (by kernel_rfl) ?_
  refine gW ?_
  apply w_q; (focus exact rfl); (focus exact rfl); focus (intro _; (refine zLkrn 182 keySpot ((m : Int), (j : Int)) hlk ?_); exact det_refl)
  apply w_a; (focus exact rfl); (focus exact rfl); refine zAlE (fun _ => ⟨⟨_, rfl⟩, ?_⟩)
  apply w_l; (focus exact rfl); (focus exact rfl); (refine zStE rfl ?_)
  refine w_nil ?_
  refine x_frz0 6 [iL (w.bel m j).1, iL (w.bel m j).2] ?_
  repeat (first | refine gG ?_ | refine zAl (fun _ => ?_) | refine zBx (fun _ => ?_) | refine zAp (fun _ => ?_))
  refine ac_draw [1, 1, 1, 1, 1, 1, 1, 1, 1, 1, 1] [0, 1, 2, 3, 4, 5, 6, 7, 8, 9, 10] (by kernel_rfl) (by kernel_rfl) ?_
  refine gW ?_
  apply w_q; (focus exact rfl); (focus exact rfl); focus (intro _; (refine zIxo j hjl ?_); exact det_refl)
  apply w_q; (focus exact rfl); (focus exact rfl); focus (intro _; (refine zElo1 hat ?_); exact det_refl)
  refine gW ?_
  refine w_nil ?_
  cases d0 : decide (a = (m : Int))
  rotate_left
  · rw [if_pos (of_decide_eq_true d0)] at hP
    obtain ⟨⟨v, l⟩, hg⟩ := nth (show j < w.got.length by have : w.z.got.length = x.nA := hZ.glen; simp only [Ws.z, List.length_map] at this; omega)
    have hgl : w.z.got.getD j [] = l := by
      show (w.got.map (·.2)).getD j [] = l
      rw [List.getD, List.getElem?_map, hg]; rfl
    obtain ⟨p, hp⟩ := List.getElem?_of_mem hms
    have hln := hZ.got l (by rw [← hgl]; exact getD_mem (by rw [hZ.glen]; exact hjA))
    have hnx := hZ.nxt ys j
    have hst := hZ.sto ys j
    have hpull := pull3 (H := hdB x w) (A := w.ways.map wayR) (B := w.wait.map elR) (fam_out (f := goR) hg) (fam_out (f := inR x w.nxt) hp) (fam_out (f := stR x w.sto) hp)
    repeat (first | refine gG ?_ | refine zAl (fun _ => ?_) | refine zBx (fun _ => ?_) | refine zAp (fun _ => ?_))
    by_cases c1 : yq < w.nxt ys j
    · have hz : w.z = Z := by
        rw [hP]; unfold recvZ
        rw [if_pos (show (El.seq _) < w.z.nxt _ _ from c1)]
      refine lo_frame _ _ hpull (fun F' => ?_)
      refine zCallAll (recv_old x w ⟨0, j, ys, yq, yn, yo, yt⟩ (ys, (j : Int)) rfl hms (w.nxt ys j) c1 (w.sto ys j) (v, l)) (List.Perm.refl _) ?_
      rintro _ _ rfl
      refine ⟨_, re_refl, ?_⟩
      repeat (first | refine gG ?_ | refine zAl (fun _ => ?_) | refine zBx (fun _ => ?_) | refine zAp (fun _ => ?_))
      exact zGS (take_allB' hz hpull.symm) ⟨w, hz, hpull.symm⟩
    · refine lo_frame _ _ hpull (fun F' => ?_)
      refine zCallAll (recv_new x w ⟨0, j, ys, yq, yn, yo, yt⟩ (ys, (j : Int)) rfl hms (w.nxt ys j) (w.sto ys j) v l j rfl hg (by dsimp only; omega) (by have := hnx.1; simp only [Ws.z] at this; omega) (by simp only [Ws.z] at hnx hst; omega) (by simp only [Ws.z] at hst; omega)) (List.Perm.refl _) ?_
      rintro _ _ ⟨v', rfl⟩
      refine ⟨_, re_refl, ?_⟩
      have hz : (Ws.mk w.at_ w.bel (upd2 w.nxt ys j (drain (gput yq yn (w.sto ys j)).length (w.nxt ys j) (gput yq yn (w.sto ys j))).1) (upd2 w.sto ys j (drain (gput yq yn (w.sto ys j)).length (w.nxt ys j) (gput yq yn (w.sto ys j))).2.1) w.seqs w.ways w.wait (w.got.set j (v', l ++ (drain (gput yq yn (w.sto ys j)).length (w.nxt ys j) (gput yq yn (w.sto ys j))).2.2.map (ys, ·)))).z = Z := by
        rw [hP]; unfold recvZ
        rw [if_neg (show ¬ (El.seq _) < w.z.nxt _ _ from c1)]
        dsimp only
        rw [show ((j : Int)).toNat = j from rfl, hgl]
        simp only [Ws.z, List.map_set]
      have hback := pull3 (H := hdB x ⟨w.at_, w.bel, upd2 w.nxt ys j (drain (gput yq yn (w.sto ys j)).length (w.nxt ys j) (gput yq yn (w.sto ys j))).1, upd2 w.sto ys j (drain (gput yq yn (w.sto ys j)).length (w.nxt ys j) (gput yq yn (w.sto ys j))).2.1, w.seqs, w.ways, w.wait, w.got.set j (v', l ++ (drain (gput yq yn (w.sto ys j)).length (w.nxt ys j) (gput yq yn (w.sto ys j))).2.2.map (ys, ·))⟩) (A := w.ways.map wayR) (B := w.wait.map elR)
        (fam_in (f := goR) (l := w.got) (i := j) (List.getElem?_eq_some_iff.1 hg).1 (v', l ++ (drain (gput yq yn (w.sto ys j)).length (w.nxt ys j) (gput yq yn (w.sto ys j))).2.2.map (ys, ·))).symm (in_out (x := x) (f := w.nxt) (k := (ys, (j : Int))) (drain (gput yq yn (w.sto ys j)).length (w.nxt ys j) (gput yq yn (w.sto ys j))).1 (nodup_ks x) hp) (st_out (x := x) (f := w.sto) (k := (ys, (j : Int))) (drain (gput yq yn (w.sto ys j)).length (w.nxt ys j) (gput yq yn (w.sto ys j))).2.1 (nodup_ks x) hp)
      repeat (first | refine gG ?_ | refine zAl (fun _ => ?_) | refine zBx (fun _ => ?_) | refine zAp (fun _ => ?_))
      exact zGS (take_allB' hz hback.symm) ⟨_, hz, hback.symm⟩
  rw [if_neg (of_decide_eq_false d0)] at hP
  repeat (first | refine gG ?_ | refine zAl (fun _ => ?_) | refine zBx (fun _ => ?_) | refine zAp (fun _ => ?_))
  cases d1 : decide ((w.bel m j).1 = (m : Int))
  rotate_left
  · rw [if_pos (of_decide_eq_true d1)] at hP
    have hml : m < w.wait.length := by
      have h1 : w.z.wait.length = x.nd + 1 := hZ.wlen
      have h2 := (isN_lt hi).1
      simp only [Ws.z, List.length_map] at h1
      rw [h1]; exact h2
    obtain ⟨⟨v, l⟩, hq⟩ := nth hml
    have hql : w.z.wait.getD m [] = l := by
      show (w.wait.map (·.2)).getD m [] = l
      rw [List.getD, List.getElem?_map, hq]; rfl
    have hln : l.length ≤ cw := by
      have h1 := getD_le_sumL (l := w.z.wait) (j := m)
      have h2 := hZ.waitn
      rw [hql] at h1
      omega
    have hat2 := litL_at hq
    have hll := litL_len w.wait
    have hset : ∀ v', (litL w.wait).set (m * 1) (.lit v') = litL (w.wait.set m (v', l ++ [⟨0, j, ys, yq, yn, yo, yt⟩])) := fun v' => litL_set w.wait m (v', l ++ [⟨0, j, ys, yq, yn, yo, yt⟩])
    have hgl2 : ∀ v' : Value, (w.wait.set m (v', l ++ [⟨0, j, ys, yq, yn, yo, yt⟩])).length = w.wait.length := fun v' => List.length_set
    have hz : ∀ v', (Ws.mk w.at_ w.bel w.nxt w.sto w.seqs w.ways (w.wait.set m (v', l ++ [⟨0, j, ys, yq, yn, yo, yt⟩])) w.got).z = Z := fun v' => by
      rw [hP, hql]
      simp only [Ws.z, List.map_set]
    have e1 : ∀ v', elR (v', l ++ [⟨0, j, ys, yq, yn, yo, yt⟩]) = .row v' 184 7 (l.length + 1) (l.flatMap elTs ++ elTs ⟨0, j, ys, yq, yn, yo, yt⟩) := fun v' => by
      rw [elR, el_snoc, List.length_append]; rfl
    repeat (first | refine gG ?_ | refine zAl (fun _ => ?_) | refine zBx (fun _ => ?_) | refine zAp (fun _ => ?_))
    refine x_perm (pullB (H := hdB x w) (A := w.ways.map wayR) (fam_out (f := elR) hq)) ?_
    refine x_row 6 rfl (by omega) (fun hv => ?_)
    refine ac_drawT [0, 0, 0, 3, 0, 1, 1, 1, 1, 1, 1, 1, 1, 1, 2, 0, 2] (.fork [0, 1, 2, 4, 5, 6, 7, 8, 9, 10, 11, 12, 13] 3 (.fin [14, 15, 16]) 14 (.fin [3, 15, 16])) (by kernel_rfl) (by kernel_rfl) ?_
    refine wt_fork ?_
    refine gW ?_
    apply w_q; (focus exact rfl); (focus exact rfl); focus (intro _; (refine zIxo m hml ?_); exact det_refl)
    apply w_q; (focus exact rfl); (focus exact rfl); focus (intro _; (refine lo_as 8 (zElo1 hat2 ⟨_, _, _, _, _, rfl, rfl, ?_⟩)); exact det_refl)
    refine gW ?_
    refine w_nil ?_
    refine ⟨?_, ?_⟩
    · apply w_a; (focus exact rfl); (focus exact rfl); refine zL1 ⟨⟨[], (List.append_nil _).symm⟩, ?_⟩
      refine w_nil ?_
      refine wt_fin ?_
      apply w_l; (focus exact rfl); (focus exact rfl); (refine zApS (fun v' => ?_) tok rfl rfl)
      apply w_p; (focus exact rfl); (focus exact rfl); focus (intro _; (refine zIxp m hv hml ?_); exact det_refl)
      apply w_l; (focus exact rfl); (focus exact rfl); (refine zSeo (show m * 1 + 1 ≤ (litL w.wait).length by rw [hll]; omega) ?_)
      refine w_nil ?_
      rename_i v'
      repeat (first | refine gG ?_ | refine zAl (fun _ => ?_) | refine zBx (fun _ => ?_) | refine zAp (fun _ => ?_))
      have hb := pullB (H := hdB x ⟨w.at_, w.bel, w.nxt, w.sto, w.seqs, w.ways, w.wait.set m (v', l ++ [⟨0, j, ys, yq, yn, yo, yt⟩]), w.got⟩) (A := w.ways.map wayR) (R := w.got.map goR ++ ((keysE x.nA x.nd).map (inR x w.nxt) ++ (keysE x.nA x.nd).map (stR x w.sto))) (fam_in (f := elR) hml (v', l ++ [⟨0, j, ys, yq, yn, yo, yt⟩])).symm
      refine zGS ?_ ⟨_, hz v', hb.symm⟩
      refine Eq.trans (congrArg (List.take (0 + lenB x Z)) ?_) (take_allB' (hz v') hb.symm)
      rw [e1]
      simp only [hset, hdB, waB, hgl2]
      rfl
          
    · apply w_l; (focus exact rfl); (focus exact rfl); (refine zApS (fun v' => ?_) tok rfl rfl)
      refine w_nil ?_
      refine wt_fin ?_
      apply w_a; (focus exact rfl); (focus exact rfl); refine zL1 ⟨⟨[], (List.append_nil _).symm⟩, ?_⟩
      apply w_p; (focus exact rfl); (focus exact rfl); focus (intro _; (refine zIxp m hv hml ?_); exact det_refl)
      apply w_l; (focus exact rfl); (focus exact rfl); (refine zSeo (show m * 1 + 1 ≤ (litL w.wait).length by rw [hll]; omega) ?_)
      refine w_nil ?_
      rename_i v'
      repeat (first | refine gG ?_ | refine zAl (fun _ => ?_) | refine zBx (fun _ => ?_) | refine zAp (fun _ => ?_))
      have hb := pullB (H := hdB x ⟨w.at_, w.bel, w.nxt, w.sto, w.seqs, w.ways, w.wait.set m (v', l ++ [⟨0, j, ys, yq, yn, yo, yt⟩]), w.got⟩) (A := w.ways.map wayR) (R := w.got.map goR ++ ((keysE x.nA x.nd).map (inR x w.nxt) ++ (keysE x.nA x.nd).map (stR x w.sto))) (fam_in (f := elR) hml (v', l ++ [⟨0, j, ys, yq, yn, yo, yt⟩])).symm
      refine zGS ?_ ⟨_, hz v', hb.symm⟩
      refine Eq.trans (congrArg (List.take (0 + lenB x Z)) ?_) (take_allB' (hz v') hb.symm)
      rw [e1]
      simp only [hset, hdB, waB, hgl2]
      rfl
          
  rw [if_neg (of_decide_eq_false d1)] at hP
  have hbel := (hZ.bel (m : Int) (j : Int) hi hwho).1
  have hbound := wayG_le ((m : Int), ys) w.z.ways
  have hbound2 := wayG_le ((m : Int), (w.bel m j).1) w.z.ways
  have hbound3 := wayG_le ((m : Int), (w.bel m j).1) (pushL ((m : Int), ys) (noteE ⟨0, j, ys, yq, yn, yo, yt⟩ (w.bel m j)) w.z.ways)
  have hps := (push_ok (k := ((m : Int), ys)) hZ.ways hi hsrc (note_ok hZ hi hy)).2
  have hyn := hZ.waysn
  have hw1 : ∀ v', (Ws.mk w.at_ w.bel w.nxt w.sto w.seqs (gput ((m : Int), ys) (v', wayL ((m : Int), ys) w.ways ++ [noteE ⟨0, j, ys, yq, yn, yo, yt⟩ (w.bel m j)]) w.ways) w.wait w.got).z = { w.z with ways := pushL ((m : Int), ys) (noteE ⟨0, j, ys, yq, yn, yo, yt⟩ (w.bel m j)) w.z.ways } := fun v' => by
    simp only [Ws.z, bare_put, wayL_eq, pushL]
  have hw2 : ∀ (W : Ws) v', (Ws.mk W.at_ W.bel W.nxt W.sto W.seqs (gput ((m : Int), (w.bel m j).1) (v', wayL ((m : Int), (w.bel m j).1) W.ways ++ [⟨0, j, ys, yq, yn, yo, yt⟩]) W.ways) W.wait W.got).z = { W.z with ways := pushL ((m : Int), (w.bel m j).1) ⟨0, j, ys, yq, yn, yo, yt⟩ W.z.ways } := fun W v' => by
    simp only [Ws.z, bare_put, wayL_eq, pushL]
  have hap : ∀ (W : Ws), (allB x W).Perm ((hdB x W ++ W.ways.map wayR) ++ (W.wait.map elR ++ (W.got.map goR ++ ((keysE x.nA x.nd).map (inR x W.nxt) ++ (keysE x.nA x.nd).map (stR x W.sto))))) := fun W => by
    rw [List.append_assoc]
  repeat (first | refine gG ?_ | refine zAl (fun _ => ?_) | refine zBx (fun _ => ?_) | refine zAp (fun _ => ?_))
  cases d2 : decide (ys = (m : Int))
  rotate_left
  · have hs : ys = (m : Int) := of_decide_eq_true d2
    rw [if_pos hs] at hP
    repeat (first | refine gG ?_ | refine zAl (fun _ => ?_) | refine zBx (fun _ => ?_) | refine zAp (fun _ => ?_))
    refine lo_frame _ _ (hap w) (fun F' => ?_)
    refine zCallAll (push_ag x w m (w.bel m j).1 ⟨0, j, ys, yq, yn, yo, yt⟩ (by rw [wayL_eq]; simp only [Ws.z] at hbound2 hyn; omega)) (List.Perm.refl _) ?_
    rintro _ _ ⟨v1, rfl⟩
    refine ⟨_, re_refl, ?_⟩
    have hz := (hw2 w v1).trans hP.symm
    have hb := (hap ⟨w.at_, w.bel, w.nxt, w.sto, w.seqs, gput ((m : Int), (w.bel m j).1) (v1, wayL ((m : Int), (w.bel m j).1) w.ways ++ [⟨0, j, ys, yq, yn, yo, yt⟩]) w.ways, w.wait, w.got⟩).symm
    repeat (first | refine gG ?_ | refine zAl (fun _ => ?_) | refine zBx (fun _ => ?_) | refine zAp (fun _ => ?_))
    exact zGS (take_allB' hz hb) ⟨_, hz, hb⟩
  · have hs : ys ≠ (m : Int) := of_decide_eq_false d2
    rw [if_neg hs] at hP
    repeat (first | refine gG ?_ | refine zAl (fun _ => ?_) | refine zBx (fun _ => ?_) | refine zAp (fun _ => ?_))
    refine lo_frame _ _ (hap w) (fun F' => ?_)
    refine zCallAll (push_ag x w m ys (noteE ⟨0, j, ys, yq, yn, yo, yt⟩ (w.bel m j)) (by rw [wayL_eq]; simp only [Ws.z] at hbound hyn; omega)) (List.Perm.refl _) ?_
    rintro _ _ ⟨v1, rfl⟩
    refine ⟨_, re_refl, ?_⟩
    have hz1 := hw1 v1
    refine al_wk (wk_perm (hap ⟨w.at_, w.bel, w.nxt, w.sto, w.seqs, gput ((m : Int), ys) (v1, wayL ((m : Int), ys) w.ways ++ [noteE ⟨0, j, ys, yq, yn, yo, yt⟩ (w.bel m j)]) w.ways, w.wait, w.got⟩).symm) ?_
    generalize Ws.mk w.at_ w.bel w.nxt w.sto w.seqs (gput ((m : Int), ys) (v1, wayL ((m : Int), ys) w.ways ++ [noteE ⟨0, j, ys, yq, yn, yo, yt⟩ (w.bel m j)]) w.ways) w.wait w.got = W at hz1 ⊢
    repeat (first | refine gG ?_ | refine zAl (fun _ => ?_) | refine zBx (fun _ => ?_) | refine zAp (fun _ => ?_))
    refine lo_frame _ _ (hap W) (fun F' => ?_)
    refine zCallAll (push_ag x W m (w.bel m j).1 ⟨0, j, ys, yq, yn, yo, yt⟩ (by rw [wayL_eq]; have e : bare W.ways = _ := congrArg Zt.ways hz1; rw [e]; simp only [Ws.z] at hbound3 hps hyn ⊢; omega)) (List.Perm.refl _) ?_
    rintro _ _ ⟨v2, rfl⟩
    refine ⟨_, re_refl, ?_⟩
    have hz := hw2 W v2
    rw [hz1] at hz
    replace hz := hz.trans hP.symm
    have hb := (hap ⟨W.at_, W.bel, W.nxt, W.sto, W.seqs, gput ((m : Int), (w.bel m j).1) (v2, wayL ((m : Int), (w.bel m j).1) W.ways ++ [⟨0, j, ys, yq, yn, yo, yt⟩]) W.ways, W.wait, W.got⟩).symm
    repeat (first | refine gG ?_ | refine zAl (fun _ => ?_) | refine zBx (fun _ => ?_) | refine zAp (fun _ => ?_))
    exact zGS (take_allB' hz hb) ⟨_, hz, hb⟩
end Go.Proofs.Ytdogdjcjmhogmaa
namespace Go.Proofs.Ytdogdjcjmhogmaa
open Go.RowKit
section
variable {P : Program} {F : Frm} {L : Tab} {d : Option Tmp} {ty : TypeId} {pos : String} {aft : Array Edge} {g : Option (Nat × Bool)} {ρ : Operand → AV} {hp : List Blk} {K : AV → List Blk → Prop}
theorem shut_lit {u : Value} (h : u.oneCell' = true) : Shut (.c (.lit u)) [.lit u] := by
  intro M v hv
  simp only [RA, RT] at hv
  subst hv
  rw [cells_one h]
  exact ⟨by simp [RTs, RT], fun x hx => by simp at hx; rw [hx]; exact h⟩
/-- a cell into an element of an own row, where the other blocks are not written out -/
theorem zSei {t : TypeId} {ti : TI} {x y : Operand} {i off n sz : Nat} {v u : Value} {e' : TypeId} {cs : List T} (hb : off + 1 ≤ cs.length) (h : K (.c (.lit undef)) (hp.set i (.row v e' sz n (cs.set off (.lit u))))) (hL : TabOk P L := by exact tok) (hx : ρ x = .eptr i v off := by exact rfl) (hi : hp[i]? = some (.row v e' sz n cs) := by exact rfl) (hy : ρ y = .c (.lit u) := by exact rfl) (h1 : u.oneCell' = true := by exact rfl) (ht : L.look t = some ti := by exact rfl) (hs : ti.size = 1 := by exact rfl) : LO P F ⟨d, .store t x y, ty, pos, aft, g⟩ ρ hp K :=
  lo_store_eG hL hx hi (us := [.lit u]) (by rw [hy]; exact shut_lit h1) ht (by rw [hs]; rfl) (by rw [hs]; exact hb) h
end
theorem ints_map (l : List Int) : l.flatMap intTs = l.map iL := by
  induction l with
  | nil => rfl
  | cons a l ih => rw [List.flatMap_cons, ih]; rfl
theorem ints_set (l : List Int) (j : Nat) (a : Int) : (l.flatMap intTs).set (j * 1) (iL a) = (l.set j a).flatMap intTs := by
  rw [ints_map, ints_map, Nat.mul_one, List.map_set]
theorem ints_len (l : List Int) : (l.flatMap intTs).length = l.length := by rw [ints_map, List.length_map]
theorem at_store (x : Fx) (w : Ws) (j : Nat) (a : Int) : (allB x w).set 1 (.row x.va 3 1 w.at_.length ((w.at_.flatMap intTs).set (j * 1) (iL a))) = allB x ⟨w.at_.set j a, w.bel, w.nxt, w.sto, w.seqs, w.ways, w.wait, w.got⟩ := by
  simp only [allB, hdB, atB, ints_set, List.length_set]
  rfl
theorem tab_put (f : Int × Int → T) (k : Int × Int) (t : T) : ∀ {ks : List (Int × Int)}, k ∈ ks → ks.Nodup → mput k t (tabK f ks) = tabK (fun k' => if k' = k then t else f k') ks
  | [], h, _ => by cases h
  | k' :: ks, h, hn => by
    obtain ⟨hn1, hn2⟩ := List.nodup_cons.1 hn
    show mput k t ((k', f k') :: tabK f ks) = (k', if k' = k then t else f k') :: tabK (fun k' => if k' = k then t else f k') ks
    unfold mput
    by_cases hk : k = k'
    · subst hk
      rw [if_pos rfl, if_pos rfl]
      congr 1
      refine List.map_congr_left fun a ha => ?_
      dsimp only
      rw [if_neg (fun e : a = k => hn1 (e ▸ ha))]
    · rw [if_neg hk, if_neg (Ne.symm hk), tab_put f k t (by rcases List.mem_cons.1 h with h | h; exact absurd h hk; exact h) hn2]
theorem bel_put {nA nd : Nat} (b : Int → Int → Int × Int) (i w : Int) (p : Int × Int) (h : (i, w) ∈ keysE nA nd) : mput (i, w) (.agg [iL p.1, iL p.2]) (tabK (belT b) (keysE nA nd)) = tabK (belT (upd2 b i w p)) (keysE nA nd) := by
  rw [tab_put _ _ _ h (keysE_nodup _ _)]
  refine List.map_congr_left fun a _ => ?_
  unfold belT upd2
  by_cases e : a = (i, w)
  · subst e; simp
  · dsimp only
    rw [if_neg e, if_neg (fun h => e (Prod.ext h.1 h.2))]
theorem el_at7 {l : List El} {k : Nat} {y : El} (h : l[k]? = some y) : ((l.flatMap elTs).drop (k * 7)).take 7 = elTs y := flat_at elTs 7 (fun _ => rfl) h
theorem fold_snoc {f : Zt → El → Zt} {Z : Zt} {l : List El} {k : Nat} {y : El} (h : l[k]? = some y) : (l.take (k + 1)).foldl f Z = f ((l.take k).foldl f Z) y := by
  obtain ⟨h1, rfl⟩ := List.getElem?_eq_some_iff.1 h
  rw [List.take_succ_eq_append_getElem h1, List.foldl_append]
  rfl
theorem ok3 {x : Fx} {t cw cy cs cg m : Nat} (w : Ws) (at_ : List Int) (bel : Int → Int → Int × Int) (h : ZOk x.nA x.nd t cw cy cs cg w.z) (hm : m < w.wait.length) (h1 : ∀ a ∈ at_, 0 ≤ a ∧ a ≤ x.nd) (h2 : ∀ i w, isN x.nd i → isW x.nA w → isN x.nd (bel i w).1 ∧ 0 ≤ (bel i w).2 ∧ (bel i w).2 ≤ t) (h3 : at_.length = x.nA) :
    ZOk x.nA x.nd t cw cy cs cg (Ws.mk at_ bel w.nxt w.sto w.seqs w.ways (w.wait.set m (.slice none 0 0, [])) w.got).z := by
  have hs := sumL_set (l := w.z.wait) (i := m) (v := []) (by simpa [Ws.z] using hm)
  have hw := h.waitn
  have e : (Ws.mk at_ bel w.nxt w.sto w.seqs w.ways (w.wait.set m (.slice none 0 0, [])) w.got).z.wait = w.z.wait.set m [] := by simp only [Ws.z, List.map_set]
  refine ⟨h3, h1, h.glen, by rw [e, List.length_set]; exact h.wlen, h2, h.seqs, h.ways, fun l hl y hy => ?_, ?_, h.waysn, h.sto, h.got, h.nxt⟩
  · rw [e] at hl
    rcases mem_set_or hl with hl | rfl
    · exact h.wait l hl y hy
    · cases hy
  · rw [e]
    simp only [List.length_nil] at hs
    omega
theorem wk_dead_nil {F : Frm} {τ : Nat → AV} {N : Nat} {H T : List Blk} (e : TypeId) (sz : Nat) (h0 : 0 < sz) : Wk F ⟨τ, H ++ (.dead :: T), N⟩ ⟨τ, H ++ (.row (.slice none 0 0) e sz 0 [] :: T), N⟩ := by
  refine Wk.trans (wk_perm (hp' := (H ++ T) ++ [Blk.dead]) ?_) ?_
  · simpa using perm_parts [H, [Blk.dead], T] [0, 2, 1] (show List.Perm _ (List.range 3) by decide)
  refine Wk.trans (wk_drop (H ++ T).length) ?_
  dsimp only
  rw [show ((H ++ T) ++ [Blk.dead]).take (H ++ T).length = H ++ T from List.take_left]
  refine Wk.trans (wk_nils e sz h0 1) ?_
  refine wk_perm ?_
  simpa using perm_parts [H, T, [Blk.row (.slice none 0 0) e sz 0 []]] [0, 2, 1] (show List.Perm _ (List.range 3) by decide)
set_option maxRecDepth 100000 in
set_option maxHeartbeats 8000000 in
theorem come_ag (x : Fx) (w : Ws) (i : Int) (y : El) {t cw cy cs cg : Nat} (hZ : ZOk x.nA x.nd t cw cy cs cg w.z) (h1 : cw ≤ 10000) (h2 : cy ≤ 900000) (h3 : cs ≤ 900000) (h4 : cg ≤ 30000000000) (hi : isN x.nd i) (hy : ElOk x.nA x.nd t y) :
    AG Try.prog 77 [.ptr 0 x.b 0, .c (iL i), .c (.agg (elTs y))] (allB x w) (fun _ hs => Gave x (comeZ i y w.z) hs) := by
  obtain ⟨m, rfl⟩ : ∃ m : Nat, i = (m : Int) := ⟨i.toNat, (isN_lt hi).2.symm⟩
  have hy0 := hy
  obtain ⟨yk, yw, ys, yq, yn, yo, yt⟩ := y
  have hwho := hy.who
  dsimp only at hwho
  obtain ⟨j, rfl⟩ : ∃ j : Nat, yw = (j : Int) := ⟨yw.toNat, (isW_lt hwho).2.symm⟩
  have hm := keysE_mem hi hwho
  have hjA : j < x.nA := (isW_lt hwho).1
  have hlk : ∀ b : Int → Int → Int × Int, (mget ((m : Int), (j : Int)) (tabK (belT b) (keysE x.nA x.nd))).getD (.agg [.lit (.int .i64 0), .lit (.int .i64 0)]) = belT b ((m : Int), (j : Int)) := fun b => by rw [tabK_get _ _ hm]; rfl
  have hbp := bel_put w.bel (m : Int) (j : Int) (yo, yt) hm
  have hal : w.at_.length = x.nA := hZ.alen
  have hjl : j < w.at_.length := by rw [hal]; exact hjA
  have hP : comeZ m ⟨yk, j, ys, yq, yn, yo, yt⟩ w.z = if yk = 0 then procZ m ⟨yk, j, ys, yq, yn, yo, yt⟩ w.z else
      if yk = 1 ∨ turned m ⟨yk, j, ys, yq, yn, yo, yt⟩ w.z = true then
        (w.z.wait.getD m []).foldl (fun Z y => procZ m y Z) { w.z with at_ := if yk = 1 then w.at_.set j m else w.at_, bel := if turned m ⟨yk, j, ys, yq, yn, yo, yt⟩ w.z = true then upd2 w.bel m j (yo, yt) else w.bel, wait := w.z.wait.set m [] }
      else { w.z with at_ := if yk = 1 then w.at_.set j m else w.at_, bel := if turned m ⟨yk, j, ys, yq, yn, yo, yt⟩ w.z = true then upd2 w.bel m j (yo, yt) else w.bel } := by
    unfold comeZ
    dsimp only
    by_cases e1 : yk = 0
    · rw [if_pos e1, if_pos e1]
    · rw [if_neg e1, if_neg e1]
      by_cases e2 : yk = 1 <;> cases e3 : turned m ⟨yk, j, ys, yq, yn, yo, yt⟩ w.z <;> simp only [e2, e3, if_true, if_false, Bool.false_eq_true, or_true, true_or, or_false, or_self] <;> rfl
  have hT : turned m ⟨yk, j, ys, yq, yn, yo, yt⟩ w.z = decide ((w.bel m j).2 < yt) := rfl
  have hml : m < w.wait.length := by
    have h1 : w.z.wait.length = x.nd + 1 := hZ.wlen
    have h2 := (isN_lt hi).1
    simp only [Ws.z, List.length_map] at h1
    rw [h1]; exact h2
  obtain ⟨⟨v, l⟩, hq⟩ := nth hml
  have hql : w.z.wait.getD m [] = l := by
    show (w.wait.map (·.2)).getD m [] = l
    rw [List.getD, List.getElem?_map, hq]; rfl
  have hln : l.length ≤ cw := by
    have h1 := getD_le_sumL (l := w.z.wait) (j := m)
    have h2 := hZ.waitn
    rw [hql] at h1
    omega
  have hlall : ∀ y ∈ l, ElOk x.nA x.nd t y ∧ y.kind = 0 := by
    have := hZ.wait _ (getD_mem (d := []) (show m < w.z.wait.length by simpa [Ws.z] using hml))
    rw [hql] at this
    exact this
  rw [hql, hT] at hP
  generalize comeZ m ⟨yk, j, ys, yq, yn, yo, yt⟩ w.z = Z at hP ⊢
  refine ag_enter (0 + lenB x Z) tok Try.func77 Try.ntmps77 Try.results77 rfl (by kernel_rfl) rfl fun F => ?_
  repeat (first | refine gG ?_ | refine zN1 (fun hlen => ?_) | refine zN2 (fun hlen => ?_) | refine zAl (fun _ => ?_) | refine zBf ?_)
  cases dk : decide (yk = 0)
  rotate_left
  · have ek := of_decide_eq_true dk
    rw [if_pos ek] at hP
    repeat (first | refine gG ?_ | refine zN1 (fun hlen => ?_) | refine zN2 (fun hlen => ?_) | refine zAl (fun _ => ?_) | refine zBx (fun _ => ?_))
    refine zCallAll (proc_ag x w m ⟨yk, j, ys, yq, yn, yo, yt⟩ hZ (by omega) (by omega) (by omega) (by omega) hi hy0 ek) (List.Perm.refl _) ?_
    rintro _ _ ⟨w', hz, hq'⟩
    refine ⟨_, re_refl, ?_⟩
    rw [← hP] at hz
    repeat (first | refine gG ?_ | refine zN1 (fun hlen => ?_) | refine zN2 (fun hlen => ?_) | refine zAl (fun _ => ?_) | refine zBx (fun _ => ?_))
    exact zGS (take_allB' hz hq') ⟨w', hz, hq'⟩
  have ek := of_decide_eq_false dk
  rw [if_neg ek] at hP
  have hyo := hy0.node ek
  have hok2 : ∀ i w', isN x.nd i → isW x.nA w' → isN x.nd (upd2 w.bel (m : Int) (j : Int) (yo, yt) i w').1 ∧ 0 ≤ (upd2 w.bel (m : Int) (j : Int) (yo, yt) i w').2 ∧ (upd2 w.bel (m : Int) (j : Int) (yo, yt) i w').2 ≤ t := fun i w' hi' hw' => by
    unfold upd2
    split
    · exact ⟨hyo, hy0.turn.1, hy0.turn.2⟩
    · exact hZ.bel i w' hi' hw'
  have hok1 : ∀ a ∈ w.at_.set j (m : Int), 0 ≤ a ∧ a ≤ x.nd := fun a ha => by
    rcases mem_set_or ha with ha | rfl
    · exact hZ.at_ a ha
    · unfold isN at hi; omega
  repeat (first | refine gG ?_ | refine zN1 (fun hlen => ?_) | refine zN2 (fun hlen => ?_) | refine zAl (fun _ => ?_) | refine zBx (fun _ => ?_))
  cases d1 : decide (yk = 1)
  · have e1 := of_decide_eq_false d1
    have e2 : ¬ (yk = 1) := e1
    repeat (first | refine gG ?_ | refine zN1 (fun hlen => ?_) | refine zN2 (fun hlen => ?_) | refine zAl (fun _ => ?_) | refine zBx (fun _ => ?_))
    refine zAlE (fun _ => ?_)
    repeat (first | refine gG ?_ | refine zN1 (fun hlen => ?_) | refine zN2 (fun hlen => ?_) | refine zAl (fun _ => ?_) | refine zBx (fun _ => ?_))
    refine zStE rfl ?_
    repeat (first | refine gO ?_ | refine ac_seq ?_ | refine ac_block ?_)
    refine x_frz0 7 [iL m, iL j] ?_
    repeat (first | refine gG ?_ | refine zN1 (fun hlen => ?_) | refine zN2 (fun hlen => ?_) | refine zAl (fun _ => ?_) | refine zBx (fun _ => ?_))
    refine ac_draw [1, 1, 1, 1, 1, 1, 1, 1, 1, 1, 1] [0, 1, 2, 3, 4, 5, 6, 7, 8, 9, 10] (by kernel_rfl) (by kernel_rfl) ?_
    refine gW ?_
    apply w_q; (focus exact rfl); (focus exact rfl); focus (intro _; (refine zLkrn 182 keySpot ((m : Int), (j : Int)) (hlk w.bel) ?_); exact det_refl)
    apply w_q; (focus exact rfl); (focus exact rfl); focus (intro _; (refine zFd1 3 ?_); exact det_refl)
    refine gW ?_
    refine w_nil ?_
    cases dt : decide ((w.bel m j).2 < yt)
    · -- nothing
      have hz : w.z = Z := by
        rw [hP, if_neg (by simp [e1, dt]), if_neg e1, dt]; rfl
      repeat (first | refine gG ?_ | refine zN1 (fun hlen => ?_) | refine zN2 (fun hlen => ?_) | refine zAl (fun _ => ?_) | refine zBx (fun _ => ?_))
      exact zGS (take_allB' hz (List.Perm.refl _)) ⟨w, hz, List.Perm.refl _⟩
    · repeat (first | refine gG ?_ | refine zN1 (fun hlen => ?_) | refine zN2 (fun hlen => ?_) | refine zAl (fun _ => ?_) | refine zBx (fun _ => ?_))
      refine ac_draw [1, 1, 1, 1, 1, 0, 0, 2, 0, 2, 0] [0, 1, 2, 3, 4, 5, 6, 7, 8, 9, 10] (by kernel_rfl) (by kernel_rfl) ?_
      refine gW ?_
      apply w_l; (focus exact rfl); (focus exact rfl); (refine zMe 182 (.agg [.lit (.int .i64 0), .lit (.int .i64 0)]) keySpot ((m : Int), (j : Int)) (fun l1 jj st c vv hj1 hj2 hj3 _ => ?_))
      refine gW ?_
      apply w_l; (focus exact rfl); (focus exact rfl); (refine zEst (k := ((m : Int), (j : Int))) (.agg [iL yo, iL yt]) hj1 hj2 ((hj3 _).trans hbp) ?_)
      refine gW ?_
      refine w_nil ?_
      refine x_eq (hp' := allB x (Ws.mk w.at_ (upd2 w.bel m j (yo, yt)) w.nxt w.sto w.seqs w.ways w.wait w.got)) rfl ?_
      have hz3 : (l.foldl (fun Z y => procZ m y Z) (Ws.mk w.at_ (upd2 w.bel m j (yo, yt)) w.nxt w.sto w.seqs w.ways (w.wait.set m (.slice none 0 0, [])) w.got).z) = Z := by
        rw [hP, if_pos (.inr dt)]
        simp only [e1, dt, if_true, if_false, Bool.false_eq_true, Ws.z, List.map_set]
      have hZ3 : ZOk x.nA x.nd t cw cy cs cg (Ws.mk w.at_ (upd2 w.bel m j (yo, yt)) w.nxt w.sto w.seqs w.ways (w.wait.set m (.slice none 0 0, [])) w.got).z := ok3 w _ _ hZ hml (by first | exact hok1 | exact hZ.at_) (by first | exact hok2 | exact hZ.bel) (by simp [hal])
      have hset3 : (litL w.wait).set (m * 1) (.lit (.slice none 0 0)) = litL (w.wait.set m (.slice none 0 0, [])) := litL_set w.wait m (.slice none 0 0, [])
      refine x_perm (pullB (H := hdB x (Ws.mk w.at_ (upd2 w.bel m j (yo, yt)) w.nxt w.sto w.seqs w.ways w.wait w.got)) (A := w.ways.map wayR) (fam_out (f := elR) hq)) ?_
      refine x_row 6 rfl (by show 0 < w.wait.length; omega) (fun hv6 => ?_)
      repeat (first | refine gG ?_ | refine zN1 (fun hlen => ?_) | refine zN2 (fun hlen => ?_) | refine zAl (fun _ => ?_) | refine zBx (fun _ => ?_))
      refine zIxo m hml ?_
      repeat (first | refine gO ?_)
      refine lo_as 8 (zElo1 (litL_at hq) ⟨_, _, _, _, _, rfl, rfl, ?_⟩)
      repeat (first | refine gG ?_ | refine zN1 (fun hlen => ?_) | refine zN2 (fun hlen => ?_) | refine zAl (fun _ => ?_) | refine zBx (fun _ => ?_))
      refine zIxp m hv6 hml ?_
      repeat (first | refine gO ?_)
      refine zSei (show m * 1 + 1 ≤ (litL w.wait).length by rw [litL_len]; omega) ?_
      repeat (first | refine gO ?_ | refine ac_seq ?_ | refine ac_block ?_)
      refine x_fzS 8 ?_
      refine x_eq (hp' := hdB x (Ws.mk w.at_ (upd2 w.bel m j (yo, yt)) w.nxt w.sto w.seqs w.ways (w.wait.set m (.slice none 0 0, [])) w.got) ++ (.dead :: (w.ways.map wayR ++ ((w.wait.eraseIdx m).map elR ++ (w.got.map goR ++ ((keysE x.nA x.nd).map (inR x w.nxt) ++ (keysE x.nA x.nd).map (stR x w.sto))))))) (by simp only [hdB, waB, List.length_set]; rw [← hset3]; rfl) ?_
      refine ac_wk (wk_dead_nil 184 7 (by omega)) ?_
      refine x_perm (pullB (H := hdB x (Ws.mk w.at_ (upd2 w.bel m j (yo, yt)) w.nxt w.sto w.seqs w.ways (w.wait.set m (.slice none 0 0, [])) w.got)) (A := w.ways.map wayR) (fam_in (f := elR) hml (.slice none 0 0, [])).symm).symm ?_
      repeat (first | refine gG ?_ | refine zN1 (fun hlen => ?_) | refine zN2 (fun hlen => ?_) | refine zAl (fun _ => ?_) | refine zBx (fun _ => ?_))
      refine x_loop [10, 71, 72, 73, 74, 75, 76, 77, 78, 79] (fun q : Nat × Ws => [(71, .c (iL (q.1 : Nat)))]) (fun q => allB x q.2) (fun q => q.1 ≤ l.length ∧ q.2.z = (l.take q.1).foldl (fun Z y => procZ m y Z) (Ws.mk w.at_ (upd2 w.bel m j (yo, yt)) w.nxt w.sto w.seqs w.ways (w.wait.set m (.slice none 0 0, [])) w.got).z) (fun q => l.length - q.1) (0, (Ws.mk w.at_ (upd2 w.bel m j (yo, yt)) w.nxt w.sto w.seqs w.ways (w.wait.set m (.slice none 0 0, [])) w.got)) ⟨Nat.zero_le _, rfl⟩ ⟨rfl, trivial⟩ rfl ?_
      rintro ⟨k, u⟩ ⟨hk, hu⟩
      dsimp only at hk hu ⊢
      repeat (first | refine gG ?_ | refine zN1 (fun hlen => ?_) | refine zN2 (fun hlen => ?_) | refine zAl (fun _ => ?_) | refine zBx (fun _ => ?_))
      refine x_cond rfl (fun h => ?_) (fun h => ?_)
      · have hk' : k < l.length := by simpa using h
        obtain ⟨b, hb⟩ := nth hk'
        have hbl := hlall b (List.mem_of_getElem? hb)
        have hfo := fold_ok hi (l.take k) _ _ _ _ _ (fun y hy => hlall y (List.mem_of_mem_take hy)) hZ3
        rw [← hu, List.length_take, Nat.min_eq_left (by omega)] at hfo
        have hmul : k * (cs + k + 1) ≤ 10000 * 910001 := Nat.mul_le_mul (by omega) (by omega)
        repeat (first | refine gG ?_ | refine zN1 (fun hlen => ?_) | refine zN2 (fun hlen => ?_) | refine zAl (fun _ => ?_) | refine zBx (fun _ => ?_))
        refine zIx k hk' ?_
        repeat (first | refine gG ?_ | refine zN1 (fun hlen => ?_) | refine zN2 (fun hlen => ?_) | refine zAl (fun _ => ?_) | refine zBx (fun _ => ?_))
        refine zEl (el_at7 hb) rfl ?_
        repeat (first | refine gG ?_ | refine zN1 (fun hlen => ?_) | refine zN2 (fun hlen => ?_) | refine zAl (fun _ => ?_) | refine zBx (fun _ => ?_))
        refine zAlE (fun _ => ?_)
        repeat (first | refine gG ?_ | refine zN1 (fun hlen => ?_) | refine zN2 (fun hlen => ?_) | refine zAl (fun _ => ?_) | refine zBx (fun _ => ?_))
        refine zStE rfl ?_
        repeat (first | refine gO ?_ | refine ac_seq ?_ | refine ac_block ?_)
        refine x_frz0 10 (elTs b) ?_
        repeat (first | refine gG ?_ | refine zN1 (fun hlen => ?_) | refine zN2 (fun hlen => ?_) | refine zAl (fun _ => ?_) | refine zBx (fun _ => ?_))
        refine zCallAll (proc_ag x u m b hfo (by omega) (by omega) (by omega) (by omega) hi hbl.1 hbl.2) (List.Perm.refl _) ?_
        rintro _ _ ⟨w', hz, hq'⟩
        refine ⟨_, re_refl, ?_⟩
        refine al_wk (wk_perm hq') ?_
        repeat (first | refine gG ?_ | refine zN1 (fun hlen => ?_) | refine zN2 (fun hlen => ?_) | refine zAl (fun _ => ?_) | refine zBx (fun _ => ?_))
        exact ⟨(k + 1, w'), ⟨hk', by rw [hz, hu, fold_snoc hb]⟩, by dsimp only; omega, x_wk ⟨rfl, trivial⟩ rfl (by repeat (first | exact ag_refl | refine ag_upd rfl ?_ | refine ag_at rfl rfl ?_))⟩
      · have hk' : k = l.length := by have : ¬ k < l.length := by simpa using h
                                      omega
        subst hk'
        rw [List.take_length] at hu
        have hz := hu.trans hz3
        repeat (first | refine gG ?_ | refine zN1 (fun hlen => ?_) | refine zN2 (fun hlen => ?_) | refine zAl (fun _ => ?_) | refine zBx (fun _ => ?_))
        exact zGS (take_allB' hz (List.Perm.refl _)) ⟨u, hz, List.Perm.refl _⟩
  · have e1 := of_decide_eq_true d1
    repeat (first | refine gG ?_ | refine zN1 (fun hlen => ?_) | refine zN2 (fun hlen => ?_) | refine zAl (fun _ => ?_) | refine zBx (fun _ => ?_))
    refine x_row 1 rfl (by show 0 < w.at_.length; omega) (fun hv => ?_)
    refine ac_draw [1, 1, 1, 1, 1, 1, 1, 1, 2] [0, 1, 2, 3, 4, 5, 6, 7, 8] (by kernel_rfl) (by kernel_rfl) ?_
    refine gW ?_
    apply w_q; (focus exact rfl); (focus exact rfl); focus (intro _; (refine zIxp j hv hjl ?_); exact det_refl)
    apply w_l; (focus exact rfl); (focus exact rfl); (refine zSei (show j * 1 + 1 ≤ (w.at_.flatMap intTs).length by rw [ints_len]; omega) ?_)
    refine w_nil ?_
    refine x_eq (at_store x w j (m : Int)) ?_
    repeat (first | refine gG ?_ | refine zN1 (fun hlen => ?_) | refine zN2 (fun hlen => ?_) | refine zAl (fun _ => ?_) | refine zBx (fun _ => ?_))
    refine zAlE (fun _ => ?_)
    repeat (first | refine gG ?_ | refine zN1 (fun hlen => ?_) | refine zN2 (fun hlen => ?_) | refine zAl (fun _ => ?_) | refine zBx (fun _ => ?_))
    refine zStE rfl ?_
    repeat (first | refine gO ?_ | refine ac_seq ?_ | refine ac_block ?_)
    refine x_frz0 7 [iL m, iL j] ?_
    repeat (first | refine gG ?_ | refine zN1 (fun hlen => ?_) | refine zN2 (fun hlen => ?_) | refine zAl (fun _ => ?_) | refine zBx (fun _ => ?_))
    refine ac_draw [1, 1, 1, 1, 1, 1, 1, 1, 1, 1, 1] [0, 1, 2, 3, 4, 5, 6, 7, 8, 9, 10] (by kernel_rfl) (by kernel_rfl) ?_
    refine gW ?_
    apply w_q; (focus exact rfl); (focus exact rfl); focus (intro _; (refine zLkrn 182 keySpot ((m : Int), (j : Int)) (hlk w.bel) ?_); exact det_refl)
    apply w_q; (focus exact rfl); (focus exact rfl); focus (intro _; (refine zFd1 3 ?_); exact det_refl)
    refine gW ?_
    refine w_nil ?_
    cases dt : decide ((w.bel m j).2 < yt)
    · repeat (first | refine zF ?_ | refine ac_seq ?_ | refine ac_block ?_ | refine ac_skip ?_ | refine ac_exit ?_)
      refine x_eq (hp' := allB x (Ws.mk (w.at_.set j (m : Int)) w.bel w.nxt w.sto w.seqs w.ways w.wait w.got)) rfl ?_
      have hz3 : (l.foldl (fun Z y => procZ m y Z) (Ws.mk (w.at_.set j (m : Int)) w.bel w.nxt w.sto w.seqs w.ways (w.wait.set m (.slice none 0 0, [])) w.got).z) = Z := by
        rw [hP, if_pos (.inl e1)]
        simp only [e1, dt, if_true, if_false, Bool.false_eq_true, Ws.z, List.map_set]
      have hZ3 : ZOk x.nA x.nd t cw cy cs cg (Ws.mk (w.at_.set j (m : Int)) w.bel w.nxt w.sto w.seqs w.ways (w.wait.set m (.slice none 0 0, [])) w.got).z := ok3 w _ _ hZ hml (by first | exact hok1 | exact hZ.at_) (by first | exact hok2 | exact hZ.bel) (by simp [hal])
      have hset3 : (litL w.wait).set (m * 1) (.lit (.slice none 0 0)) = litL (w.wait.set m (.slice none 0 0, [])) := litL_set w.wait m (.slice none 0 0, [])
      refine x_perm (pullB (H := hdB x (Ws.mk (w.at_.set j (m : Int)) w.bel w.nxt w.sto w.seqs w.ways w.wait w.got)) (A := w.ways.map wayR) (fam_out (f := elR) hq)) ?_
      refine x_row 6 rfl (by show 0 < w.wait.length; omega) (fun hv6 => ?_)
      repeat (first | refine gG ?_ | refine zN1 (fun hlen => ?_) | refine zN2 (fun hlen => ?_) | refine zAl (fun _ => ?_) | refine zBx (fun _ => ?_))
      refine zIxo m hml ?_
      repeat (first | refine gO ?_)
      refine lo_as 8 (zElo1 (litL_at hq) ⟨_, _, _, _, _, rfl, rfl, ?_⟩)
      repeat (first | refine gG ?_ | refine zN1 (fun hlen => ?_) | refine zN2 (fun hlen => ?_) | refine zAl (fun _ => ?_) | refine zBx (fun _ => ?_))
      refine zIxp m hv6 hml ?_
      repeat (first | refine gO ?_)
      refine zSei (show m * 1 + 1 ≤ (litL w.wait).length by rw [litL_len]; omega) ?_
      repeat (first | refine gO ?_ | refine ac_seq ?_ | refine ac_block ?_)
      refine x_fzS 8 ?_
      refine x_eq (hp' := hdB x (Ws.mk (w.at_.set j (m : Int)) w.bel w.nxt w.sto w.seqs w.ways (w.wait.set m (.slice none 0 0, [])) w.got) ++ (.dead :: (w.ways.map wayR ++ ((w.wait.eraseIdx m).map elR ++ (w.got.map goR ++ ((keysE x.nA x.nd).map (inR x w.nxt) ++ (keysE x.nA x.nd).map (stR x w.sto))))))) (by simp only [hdB, waB, List.length_set]; rw [← hset3]; rfl) ?_
      refine ac_wk (wk_dead_nil 184 7 (by omega)) ?_
      refine x_perm (pullB (H := hdB x (Ws.mk (w.at_.set j (m : Int)) w.bel w.nxt w.sto w.seqs w.ways (w.wait.set m (.slice none 0 0, [])) w.got)) (A := w.ways.map wayR) (fam_in (f := elR) hml (.slice none 0 0, [])).symm).symm ?_
      repeat (first | refine gG ?_ | refine zN1 (fun hlen => ?_) | refine zN2 (fun hlen => ?_) | refine zAl (fun _ => ?_) | refine zBx (fun _ => ?_))
      refine x_loop [10, 71, 72, 73, 74, 75, 76, 77, 78, 79] (fun q : Nat × Ws => [(71, .c (iL (q.1 : Nat)))]) (fun q => allB x q.2) (fun q => q.1 ≤ l.length ∧ q.2.z = (l.take q.1).foldl (fun Z y => procZ m y Z) (Ws.mk (w.at_.set j (m : Int)) w.bel w.nxt w.sto w.seqs w.ways (w.wait.set m (.slice none 0 0, [])) w.got).z) (fun q => l.length - q.1) (0, (Ws.mk (w.at_.set j (m : Int)) w.bel w.nxt w.sto w.seqs w.ways (w.wait.set m (.slice none 0 0, [])) w.got)) ⟨Nat.zero_le _, rfl⟩ ⟨rfl, trivial⟩ rfl ?_
      rintro ⟨k, u⟩ ⟨hk, hu⟩
      dsimp only at hk hu ⊢
      repeat (first | refine gG ?_ | refine zN1 (fun hlen => ?_) | refine zN2 (fun hlen => ?_) | refine zAl (fun _ => ?_) | refine zBx (fun _ => ?_))
      refine x_cond rfl (fun h => ?_) (fun h => ?_)
      · have hk' : k < l.length := by simpa using h
        obtain ⟨b, hb⟩ := nth hk'
        have hbl := hlall b (List.mem_of_getElem? hb)
        have hfo := fold_ok hi (l.take k) _ _ _ _ _ (fun y hy => hlall y (List.mem_of_mem_take hy)) hZ3
        rw [← hu, List.length_take, Nat.min_eq_left (by omega)] at hfo
        have hmul : k * (cs + k + 1) ≤ 10000 * 910001 := Nat.mul_le_mul (by omega) (by omega)
        repeat (first | refine gG ?_ | refine zN1 (fun hlen => ?_) | refine zN2 (fun hlen => ?_) | refine zAl (fun _ => ?_) | refine zBx (fun _ => ?_))
        refine zIx k hk' ?_
        repeat (first | refine gG ?_ | refine zN1 (fun hlen => ?_) | refine zN2 (fun hlen => ?_) | refine zAl (fun _ => ?_) | refine zBx (fun _ => ?_))
        refine zEl (el_at7 hb) rfl ?_
        repeat (first | refine gG ?_ | refine zN1 (fun hlen => ?_) | refine zN2 (fun hlen => ?_) | refine zAl (fun _ => ?_) | refine zBx (fun _ => ?_))
        refine zAlE (fun _ => ?_)
        repeat (first | refine gG ?_ | refine zN1 (fun hlen => ?_) | refine zN2 (fun hlen => ?_) | refine zAl (fun _ => ?_) | refine zBx (fun _ => ?_))
        refine zStE rfl ?_
        repeat (first | refine gO ?_ | refine ac_seq ?_ | refine ac_block ?_)
        refine x_frz0 10 (elTs b) ?_
        repeat (first | refine gG ?_ | refine zN1 (fun hlen => ?_) | refine zN2 (fun hlen => ?_) | refine zAl (fun _ => ?_) | refine zBx (fun _ => ?_))
        refine zCallAll (proc_ag x u m b hfo (by omega) (by omega) (by omega) (by omega) hi hbl.1 hbl.2) (List.Perm.refl _) ?_
        rintro _ _ ⟨w', hz, hq'⟩
        refine ⟨_, re_refl, ?_⟩
        refine al_wk (wk_perm hq') ?_
        repeat (first | refine gG ?_ | refine zN1 (fun hlen => ?_) | refine zN2 (fun hlen => ?_) | refine zAl (fun _ => ?_) | refine zBx (fun _ => ?_))
        exact ⟨(k + 1, w'), ⟨hk', by rw [hz, hu, fold_snoc hb]⟩, by dsimp only; omega, x_wk ⟨rfl, trivial⟩ rfl (by repeat (first | exact ag_refl | refine ag_upd rfl ?_ | refine ag_at rfl rfl ?_))⟩
      · have hk' : k = l.length := by have : ¬ k < l.length := by simpa using h
                                      omega
        subst hk'
        rw [List.take_length] at hu
        have hz := hu.trans hz3
        repeat (first | refine gG ?_ | refine zN1 (fun hlen => ?_) | refine zN2 (fun hlen => ?_) | refine zAl (fun _ => ?_) | refine zBx (fun _ => ?_))
        exact zGS (take_allB' hz (List.Perm.refl _)) ⟨u, hz, List.Perm.refl _⟩
    · repeat (first | refine gG ?_ | refine zN1 (fun hlen => ?_) | refine zN2 (fun hlen => ?_) | refine zAl (fun _ => ?_) | refine zBx (fun _ => ?_))
      refine ac_draw [1, 1, 1, 1, 1, 0, 0, 2, 0, 2, 0] [0, 1, 2, 3, 4, 5, 6, 7, 8, 9, 10] (by kernel_rfl) (by kernel_rfl) ?_
      refine gW ?_
      apply w_l; (focus exact rfl); (focus exact rfl); (refine zMe 182 (.agg [.lit (.int .i64 0), .lit (.int .i64 0)]) keySpot ((m : Int), (j : Int)) (fun l1 jj st c vv hj1 hj2 hj3 _ => ?_))
      refine gW ?_
      apply w_l; (focus exact rfl); (focus exact rfl); (refine zEst (k := ((m : Int), (j : Int))) (.agg [iL yo, iL yt]) hj1 hj2 ((hj3 _).trans hbp) ?_)
      refine gW ?_
      refine w_nil ?_
      refine x_eq (hp' := allB x (Ws.mk (w.at_.set j (m : Int)) (upd2 w.bel m j (yo, yt)) w.nxt w.sto w.seqs w.ways w.wait w.got)) rfl ?_
      have hz3 : (l.foldl (fun Z y => procZ m y Z) (Ws.mk (w.at_.set j (m : Int)) (upd2 w.bel m j (yo, yt)) w.nxt w.sto w.seqs w.ways (w.wait.set m (.slice none 0 0, [])) w.got).z) = Z := by
        rw [hP, if_pos (.inl e1)]
        simp only [e1, dt, if_true, if_false, Bool.false_eq_true, Ws.z, List.map_set]
      have hZ3 : ZOk x.nA x.nd t cw cy cs cg (Ws.mk (w.at_.set j (m : Int)) (upd2 w.bel m j (yo, yt)) w.nxt w.sto w.seqs w.ways (w.wait.set m (.slice none 0 0, [])) w.got).z := ok3 w _ _ hZ hml (by first | exact hok1 | exact hZ.at_) (by first | exact hok2 | exact hZ.bel) (by simp [hal])
      have hset3 : (litL w.wait).set (m * 1) (.lit (.slice none 0 0)) = litL (w.wait.set m (.slice none 0 0, [])) := litL_set w.wait m (.slice none 0 0, [])
      refine x_perm (pullB (H := hdB x (Ws.mk (w.at_.set j (m : Int)) (upd2 w.bel m j (yo, yt)) w.nxt w.sto w.seqs w.ways w.wait w.got)) (A := w.ways.map wayR) (fam_out (f := elR) hq)) ?_
      refine x_row 6 rfl (by show 0 < w.wait.length; omega) (fun hv6 => ?_)
      repeat (first | refine gG ?_ | refine zN1 (fun hlen => ?_) | refine zN2 (fun hlen => ?_) | refine zAl (fun _ => ?_) | refine zBx (fun _ => ?_))
      refine zIxo m hml ?_
      repeat (first | refine gO ?_)
      refine lo_as 8 (zElo1 (litL_at hq) ⟨_, _, _, _, _, rfl, rfl, ?_⟩)
      repeat (first | refine gG ?_ | refine zN1 (fun hlen => ?_) | refine zN2 (fun hlen => ?_) | refine zAl (fun _ => ?_) | refine zBx (fun _ => ?_))
      refine zIxp m hv6 hml ?_
      repeat (first | refine gO ?_)
      refine zSei (show m * 1 + 1 ≤ (litL w.wait).length by rw [litL_len]; omega) ?_
      repeat (first | refine gO ?_ | refine ac_seq ?_ | refine ac_block ?_)
      refine x_fzS 8 ?_
      refine x_eq (hp' := hdB x (Ws.mk (w.at_.set j (m : Int)) (upd2 w.bel m j (yo, yt)) w.nxt w.sto w.seqs w.ways (w.wait.set m (.slice none 0 0, [])) w.got) ++ (.dead :: (w.ways.map wayR ++ ((w.wait.eraseIdx m).map elR ++ (w.got.map goR ++ ((keysE x.nA x.nd).map (inR x w.nxt) ++ (keysE x.nA x.nd).map (stR x w.sto))))))) (by simp only [hdB, waB, List.length_set]; rw [← hset3]; rfl) ?_
      refine ac_wk (wk_dead_nil 184 7 (by omega)) ?_
      refine x_perm (pullB (H := hdB x (Ws.mk (w.at_.set j (m : Int)) (upd2 w.bel m j (yo, yt)) w.nxt w.sto w.seqs w.ways (w.wait.set m (.slice none 0 0, [])) w.got)) (A := w.ways.map wayR) (fam_in (f := elR) hml (.slice none 0 0, [])).symm).symm ?_
      repeat (first | refine gG ?_ | refine zN1 (fun hlen => ?_) | refine zN2 (fun hlen => ?_) | refine zAl (fun _ => ?_) | refine zBx (fun _ => ?_))
      refine x_loop [10, 71, 72, 73, 74, 75, 76, 77, 78, 79] (fun q : Nat × Ws => [(71, .c (iL (q.1 : Nat)))]) (fun q => allB x q.2) (fun q => q.1 ≤ l.length ∧ q.2.z = (l.take q.1).foldl (fun Z y => procZ m y Z) (Ws.mk (w.at_.set j (m : Int)) (upd2 w.bel m j (yo, yt)) w.nxt w.sto w.seqs w.ways (w.wait.set m (.slice none 0 0, [])) w.got).z) (fun q => l.length - q.1) (0, (Ws.mk (w.at_.set j (m : Int)) (upd2 w.bel m j (yo, yt)) w.nxt w.sto w.seqs w.ways (w.wait.set m (.slice none 0 0, [])) w.got)) ⟨Nat.zero_le _, rfl⟩ ⟨rfl, trivial⟩ rfl ?_
      rintro ⟨k, u⟩ ⟨hk, hu⟩
      dsimp only at hk hu ⊢
      repeat (first | refine gG ?_ | refine zN1 (fun hlen => ?_) | refine zN2 (fun hlen => ?_) | refine zAl (fun _ => ?_) | refine zBx (fun _ => ?_))
      refine x_cond rfl (fun h => ?_) (fun h => ?_)
      · have hk' : k < l.length := by simpa using h
        obtain ⟨b, hb⟩ := nth hk'
        have hbl := hlall b (List.mem_of_getElem? hb)
        have hfo := fold_ok hi (l.take k) _ _ _ _ _ (fun y hy => hlall y (List.mem_of_mem_take hy)) hZ3
        rw [← hu, List.length_take, Nat.min_eq_left (by omega)] at hfo
        have hmul : k * (cs + k + 1) ≤ 10000 * 910001 := Nat.mul_le_mul (by omega) (by omega)
        repeat (first | refine gG ?_ | refine zN1 (fun hlen => ?_) | refine zN2 (fun hlen => ?_) | refine zAl (fun _ => ?_) | refine zBx (fun _ => ?_))
        refine zIx k hk' ?_
        repeat (first | refine gG ?_ | refine zN1 (fun hlen => ?_) | refine zN2 (fun hlen => ?_) | refine zAl (fun _ => ?_) | refine zBx (fun _ => ?_))
        refine zEl (el_at7 hb) rfl ?_
        repeat (first | refine gG ?_ | refine zN1 (fun hlen => ?_) | refine zN2 (fun hlen => ?_) | refine zAl (fun _ => ?_) | refine zBx (fun _ => ?_))
        refine zAlE (fun _ => ?_)
        repeat (first | refine gG ?_ | refine zN1 (fun hlen => ?_) | refine zN2 (fun hlen => ?_) | refine zAl (fun _ => ?_) | refine zBx (fun _ => ?_))
        refine zStE rfl ?_
        repeat (first | refine gO ?_ | refine ac_seq ?_ | refine ac_block ?_)
        refine x_frz0 10 (elTs b) ?_
        repeat (first | refine gG ?_ | refine zN1 (fun hlen => ?_) | refine zN2 (fun hlen => ?_) | refine zAl (fun _ => ?_) | refine zBx (fun _ => ?_))
        refine zCallAll (proc_ag x u m b hfo (by omega) (by omega) (by omega) (by omega) hi hbl.1 hbl.2) (List.Perm.refl _) ?_
        rintro _ _ ⟨w', hz, hq'⟩
        refine ⟨_, re_refl, ?_⟩
        refine al_wk (wk_perm hq') ?_
        repeat (first | refine gG ?_ | refine zN1 (fun hlen => ?_) | refine zN2 (fun hlen => ?_) | refine zAl (fun _ => ?_) | refine zBx (fun _ => ?_))
        exact ⟨(k + 1, w'), ⟨hk', by rw [hz, hu, fold_snoc hb]⟩, by dsimp only; omega, x_wk ⟨rfl, trivial⟩ rfl (by repeat (first | exact ag_refl | refine ag_upd rfl ?_ | refine ag_at rfl rfl ?_))⟩
      · have hk' : k = l.length := by have : ¬ k < l.length := by simpa using h
                                      omega
        subst hk'
        rw [List.take_length] at hu
        have hz := hu.trans hz3
        repeat (first | refine gG ?_ | refine zN1 (fun hlen => ?_) | refine zN2 (fun hlen => ?_) | refine zAl (fun _ => ?_) | refine zBx (fun _ => ?_))
        exact zGS (take_allB' hz (List.Perm.refl _)) ⟨u, hz, List.Perm.refl _⟩
end Go.Proofs.Ytdogdjcjmhogmaa
namespace Go.Proofs.Ytdogdjcjmhogmaa
open Go.RowKit
@[reducible] def ddTs (d : Dd) : List T := [iL d.kind, iL d.src, iL d.dst, iL d.who, iL d.n]
theorem seqs_ok {nA nd t cw cy cs cg : Nat} {Z : Zt} {k : Int × Int} (h : ZOk nA nd t cw cy cs cg Z) : ZOk nA nd (t + 1) cw cy cs cg { Z with seqs := gput k (seqG k Z.seqs + 1) Z.seqs } := by
  have hq : 0 ≤ seqG k Z.seqs ∧ seqG k Z.seqs ≤ t := by
    unfold seqG
    cases hg : gget k Z.seqs with
    | none => simp
    | some q => exact h.seqs _ (gget_in hg)
  have h' := h.mono (t' := t + 1) (by omega) (Nat.le_refl _) (Nat.le_refl _) (Nat.le_refl _) (Nat.le_refl _)
  refine ⟨h'.alen, h'.at_, h'.glen, h'.wlen, h'.bel, fun p hp => ?_, h'.ways, h'.wait, h'.waitn, h'.waysn, h'.sto, h'.got, h'.nxt⟩
  rcases gput_all hp with rfl | hp
  · dsimp only; omega
  · exact h'.seqs p hp
theorem seqG_ok {nA nd t cw cy cs cg : Nat} {Z : Zt} (k : Int × Int) (h : ZOk nA nd t cw cy cs cg Z) : 0 ≤ seqG k Z.seqs ∧ seqG k Z.seqs ≤ t := by
  unfold seqG
  cases hg : gget k Z.seqs with
  | none => simp
  | some q => exact h.seqs _ (gget_in hg)
section
variable (x : Fx) (w : Ws) (dk ds dd dw dn : Int) {t cw cy cs cg : Nat} (hZ : ZOk x.nA x.nd t cw cy cs cg w.z) (h0 : t ≤ 1000) (h1 : cw ≤ 9000) (h2 : cy ≤ 800000) (h3 : cs ≤ 800000) (h4 : cg ≤ 29000000000)
include hZ h0 h1 h2 h3 h4
set_option maxRecDepth 100000 in
set_option maxHeartbeats 8000000 in
theorem do_put (hk : dk = 1) : AG Try.prog 52 [.ptr 0 x.b 0, .c (.agg (ddTs ⟨dk, ds, dd, dw, dn⟩))] (allB x w) (fun _ hs => Gave x (doZ x.nd ⟨dk, ds, dd, dw, dn⟩ w.z) hs) := by
  subst hk
  have hP : doZ x.nd ⟨1, ds, dd, dw, dn⟩ w.z = if isN x.nd ds ∧ isW w.at_.length dw then procZ ds ⟨0, dw, ds, seqG (ds, dw) w.seqs, dn, 0, 0⟩ { w.z with seqs := gput (ds, dw) (seqG (ds, dw) w.seqs + 1) w.seqs } else w.z := rfl
  generalize doZ x.nd ⟨1, ds, dd, dw, dn⟩ w.z = Z at hP ⊢
  have hN := isNode_ag x ds
  have hW := isWho_ag x w.at_ dw
  have hal : w.at_.length = x.nA := hZ.alen
  refine ag_enter (0 + lenB x Z) tok Try.func52 Try.ntmps52 Try.results52 rfl (by kernel_rfl) rfl fun F => ?_
  repeat (first | refine gG ?_ | refine zN1 (fun hlen => ?_) | refine zN2 (fun hlen => ?_) | refine zAl (fun _ => ?_) | refine zBf ?_)
  cases e1 : decide (isN x.nd ds)
  · rw [e1] at hN
    have hz : w.z = Z := by rw [hP, if_neg (fun h => of_decide_eq_false e1 h.1)]
    refine zCallR [0] hN (fun r hs h => h) ?_
    repeat (first | refine gG ?_ | refine zN1 (fun hlen => ?_) | refine zN2 (fun hlen => ?_) | refine zAl (fun _ => ?_) | refine zBx (fun _ => ?_))
    exact zGS (take_allB' hz (List.Perm.refl _)) ⟨w, hz, List.Perm.refl _⟩
  rw [e1] at hN
  refine zCallR [0] hN (fun r hs h => h) ?_
  repeat (first | refine gG ?_ | refine zN1 (fun hlen => ?_) | refine zN2 (fun hlen => ?_) | refine zAl (fun _ => ?_) | refine zBx (fun _ => ?_))
  cases e2 : decide (isW w.at_.length dw)
  · rw [e2] at hW
    have hz : w.z = Z := by rw [hP, if_neg (fun h => of_decide_eq_false e2 h.2)]
    refine zCallR [0, 1] hW (fun r hs h => h) ?_
    repeat (first | refine gG ?_ | refine zN1 (fun hlen => ?_) | refine zN2 (fun hlen => ?_) | refine zAl (fun _ => ?_) | refine zBx (fun _ => ?_))
    exact zGS (take_allB' hz (List.Perm.refl _)) ⟨w, hz, List.Perm.refl _⟩
  rw [e2] at hW
  refine zCallR [0, 1] hW (fun r hs h => h) ?_
  have hds := of_decide_eq_true e1
  have hdw := of_decide_eq_true e2
  rw [if_pos ⟨hds, hdw⟩] at hP
  rw [hal] at hdw
  have hq := seqG_ok (ds, dw) hZ
  have hlk : (mget (ds, dw) (mapT iL w.seqs)).getD (.lit (.int .i64 0)) = iL (seqG (ds, dw) w.seqs) := by
    rw [mget_T]; unfold seqG; cases gget (ds, dw) w.seqs <;> rfl
  have hput := mput_T iL (ds, dw) (seqG (ds, dw) w.seqs + 1) w.seqs
  have hZ1 : ZOk x.nA x.nd (t + 1) cw cy cs cg (Ws.mk w.at_ w.bel w.nxt w.sto (gput (ds, dw) (seqG (ds, dw) w.seqs + 1) w.seqs) w.ways w.wait w.got).z := seqs_ok (k := (ds, dw)) hZ
  have hq' : 0 ≤ seqG (ds, dw) w.seqs ∧ seqG (ds, dw) w.seqs ≤ t := hq
  generalize seqG (ds, dw) w.seqs = q at *
  repeat (first | refine gG ?_ | refine zN1 (fun hlen => ?_) | refine zN2 (fun hlen => ?_) | refine zAl (fun _ => ?_) | refine zBx (fun _ => ?_))
  refine zAlE (fun _ => ?_)
  repeat (first | refine gG ?_ | refine zN1 (fun hlen => ?_) | refine zN2 (fun hlen => ?_) | refine zAl (fun _ => ?_) | refine zBx (fun _ => ?_))
  refine zStE rfl ?_
  repeat (first | refine gO ?_ | refine ac_seq ?_ | refine ac_block ?_)
  refine x_frz0 4 [iL ds, iL dw] ?_
  repeat (first | refine gG ?_ | refine zN1 (fun hlen => ?_) | refine zN2 (fun hlen => ?_) | refine zAl (fun _ => ?_) | refine zBx (fun _ => ?_))
  refine ac_draw [1, 1, 1, 1, 1, 1, 1, 1, 1, 1, 1, 1, 1, 3, 2] [0, 1, 2, 3, 4, 5, 6, 7, 8, 9, 10, 11, 12, 13, 14] (by kernel_rfl) (by kernel_rfl) ?_
  refine gW ?_
  apply w_q; (focus exact rfl); (focus exact rfl); focus (intro _; (refine zLkr 3 keySpot (ds, dw) hlk ?_); exact det_refl)
  refine gW ?_
  apply w_a; (focus exact rfl); (focus exact rfl); refine zAlE (fun _ => ⟨⟨_, rfl⟩, ?_⟩)
  apply w_l; (focus exact rfl); (focus exact rfl); (refine zStE rfl ?_)
  refine w_nil ?_
  refine x_frz0 5 [iL 0, iL dw, iL ds, iL q, iL dn, iL 0, iL 0] ?_
  repeat (first | refine gG ?_ | refine zN1 (fun hlen => ?_) | refine zN2 (fun hlen => ?_) | refine zAl (fun _ => ?_) | refine zBx (fun _ => ?_))
  refine ac_drawT [1, 1, 1, 1, 1, 3, 0, 2, 0, 2] (.fork [0, 1, 2, 3, 4] 5 (.fin [6, 7, 8, 9]) 7 (.fin [8, 5, 6, 9])) (by kernel_rfl) (by kernel_rfl) ?_
  refine wt_fork ?_
  refine gW ?_
  refine w_nil ?_
  refine ⟨?_, ?_⟩
  · apply w_a; (focus exact rfl); (focus exact rfl); (first | refine zLkr 3 keySpot (ds, dw) hlk ⟨⟨[], (List.append_nil _).symm⟩, ?_⟩ (by kernel_rfl) tok rfl rfl rfl rfl rfl (by intro M u h; exact kv_c h) | refine zLkr 3 keySpot (ds, dw) (show (mget (ds, dw) l1).getD (.lit (.int .i64 0)) = iL q by rw [hj4]; exact hlk) ⟨⟨[], (List.append_nil _).symm⟩, ?_⟩ (by kernel_rfl) tok rfl rfl rfl rfl rfl (by intro M u h; exact kv_c h))
    refine w_nil ?_
    refine wt_fin ?_
    apply w_p; (focus exact rfl); (focus exact rfl); focus (intro _; (refine lo_add rfl rfl (r := q + 1) (by show IntKind.wrap .i64 (q + 1) = q + 1; exact IntWalk.i64_in _ (by omega)) ?_); exact det_refl)
    apply w_l; (focus exact rfl); (focus exact rfl); (refine zMe 3 (.lit (.int .i64 0)) keySpot (ds, dw) (fun l1 jj st c vv hj1 hj2 hj3 hj4 => ?_))
    refine gW ?_
    apply w_l; (focus exact rfl); (focus exact rfl); (refine zEst (k := (ds, dw)) (iL (q + 1)) hj1 hj2 ((hj3 _).trans hput) ?_)
    refine w_nil ?_
    refine x_eq (hp' := allB x ⟨w.at_, w.bel, w.nxt, w.sto, gput (ds, dw) (q + 1) w.seqs, w.ways, w.wait, w.got⟩) rfl ?_
    repeat (first | refine gG ?_ | refine zN1 (fun hlen => ?_) | refine zN2 (fun hlen => ?_) | refine zAl (fun _ => ?_) | refine zBx (fun _ => ?_))
    refine zCallAll (proc_ag x ⟨w.at_, w.bel, w.nxt, w.sto, gput (ds, dw) (q + 1) w.seqs, w.ways, w.wait, w.got⟩ ds ⟨0, dw, ds, q, dn, 0, 0⟩ hZ1 (by omega) (by omega) (by omega) (by omega) hds ⟨by simp, hdw, fun _ => hds, fun h => absurd rfl h, by constructor <;> (dsimp only; omega)⟩ rfl) (List.Perm.refl _) ?_
    rintro _ _ ⟨w', hz, hq⟩
    refine ⟨_, re_refl, ?_⟩
    replace hz := hz.trans hP.symm
    repeat (first | refine gG ?_ | refine zN1 (fun hlen => ?_) | refine zN2 (fun hlen => ?_) | refine zAl (fun _ => ?_) | refine zBx (fun _ => ?_))
    exact zGS (take_allB' hz hq) ⟨w', hz, hq⟩
      
  · apply w_l; (focus exact rfl); (focus exact rfl); (refine zMe 3 (.lit (.int .i64 0)) keySpot (ds, dw) (fun l1 jj st c vv hj1 hj2 hj3 hj4 => ?_))
    refine w_nil ?_
    refine wt_fin ?_
    refine gW ?_
    apply w_a; (focus exact rfl); (focus exact rfl); (first | refine zLkr 3 keySpot (ds, dw) hlk ⟨⟨[], (List.append_nil _).symm⟩, ?_⟩ (by kernel_rfl) tok rfl rfl rfl rfl rfl (by intro M u h; exact kv_c h) | refine zLkr 3 keySpot (ds, dw) (show (mget (ds, dw) l1).getD (.lit (.int .i64 0)) = iL q by rw [hj4]; exact hlk) ⟨⟨[], (List.append_nil _).symm⟩, ?_⟩ (by kernel_rfl) tok rfl rfl rfl rfl rfl (by intro M u h; exact kv_c h))
    apply w_p; (focus exact rfl); (focus exact rfl); focus (intro _; (refine lo_add rfl rfl (r := q + 1) (by show IntKind.wrap .i64 (q + 1) = q + 1; exact IntWalk.i64_in _ (by omega)) ?_); exact det_refl)
    apply w_l; (focus exact rfl); (focus exact rfl); (refine zEst (k := (ds, dw)) (iL (q + 1)) hj1 hj2 ((hj3 _).trans hput) ?_)
    refine w_nil ?_
    refine x_eq (hp' := allB x ⟨w.at_, w.bel, w.nxt, w.sto, gput (ds, dw) (q + 1) w.seqs, w.ways, w.wait, w.got⟩) rfl ?_
    repeat (first | refine gG ?_ | refine zN1 (fun hlen => ?_) | refine zN2 (fun hlen => ?_) | refine zAl (fun _ => ?_) | refine zBx (fun _ => ?_))
    refine zCallAll (proc_ag x ⟨w.at_, w.bel, w.nxt, w.sto, gput (ds, dw) (q + 1) w.seqs, w.ways, w.wait, w.got⟩ ds ⟨0, dw, ds, q, dn, 0, 0⟩ hZ1 (by omega) (by omega) (by omega) (by omega) hds ⟨by simp, hdw, fun _ => hds, fun h => absurd rfl h, by constructor <;> (dsimp only; omega)⟩ rfl) (List.Perm.refl _) ?_
    rintro _ _ ⟨w', hz, hq⟩
    refine ⟨_, re_refl, ?_⟩
    replace hz := hz.trans hP.symm
    repeat (first | refine gG ?_ | refine zN1 (fun hlen => ?_) | refine zN2 (fun hlen => ?_) | refine zAl (fun _ => ?_) | refine zBx (fun _ => ?_))
    exact zGS (take_allB' hz hq) ⟨w', hz, hq⟩
end
end Go.Proofs.Ytdogdjcjmhogmaa
