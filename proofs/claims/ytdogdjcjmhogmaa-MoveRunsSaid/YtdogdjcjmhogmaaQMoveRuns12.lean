/-
  Texts of this proof, part 12: Krc Krd Kre Kfa Kfb.
-/
import Derived.Test.YtdogdjcjmhogmaaQMoveRuns11
import Derived.Lib.MinMax
namespace Go.Proofs.Ytdogdjcjmhogmaa
open Go.RowKit
theorem rng_at {α : Type} (f : Nat → α) {n i : Nat} (h : i < n) : ((List.range n).map f)[i]? = some (f i) := by rw [List.getElem?_map, List.getElem?_range h]; rfl
theorem rng_at1 {α : Type} (f : Nat → α) {n i : Nat} (h : i < n) : ((List.range n).map f)[i * 1]? = some (f i) := by rw [Nat.mul_one]; exact rng_at f h
theorem go_at {l : List (Int × Int)} {k : Nat} {y : Int × Int} (h : l[k]? = some y) : ((l.flatMap goTs).drop (k * 2)).take 2 = goTs y := flat_at goTs 2 (fun _ => rfl) h
/-- a node's row of what is sure -/
theorem su_at (x : Gx) (w : Rs) {i : Nat} (hi : i < x.nd + 1) : ∀ r : List Blk, (rB x w ++ r)[w.ways.length + (w.wait.length + (w.got.length + (x.nA + (x.nA + i)))) + 15]? = some (suR x w.bel i) := fun r => by
  show ((w.ways.map rwayR ++ (w.wait.map thR ++ (w.got.map goR ++ ((List.range x.nA).map (nxR x w.nxt) ++ ((List.range x.nA).map (eaR x w.ear) ++ (List.range (x.nd + 1)).map (suR x w.bel)))))) ++ r)[w.ways.length + (w.wait.length + (w.got.length + (x.nA + (x.nA + i))))]? = _
  simp only [List.append_assoc]
  rw [List.getElem?_append_right (by simp), List.length_map, Nat.add_sub_cancel_left, List.getElem?_append_right (by simp), List.length_map, Nat.add_sub_cancel_left, List.getElem?_append_right (by simp), List.length_map, Nat.add_sub_cancel_left, List.getElem?_append_right (by simp), List.length_map, List.length_range, Nat.add_sub_cancel_left, List.getElem?_append_right (by simp), List.length_map, List.length_range, Nat.add_sub_cancel_left, List.getElem?_append_left (by simpa using hi), rng_at _ hi]
theorem rall_way (x : Gx) (W : Rs) : (rB x W).Perm ((rH x W ++ W.ways.map rwayR) ++ (W.wait.map thR ++ (W.got.map goR ++ ((List.range x.nA).map (nxR x W.nxt) ++ ((List.range x.nA).map (eaR x W.ear) ++ (List.range (x.nd + 1)).map (suR x W.bel)))))) := by rw [List.append_assoc]
theorem pull3R {H A B C D E S C' D' E' : List Blk} {c d e : Blk} (hC : C.Perm (c :: C')) (hD : D.Perm (d :: D')) (hE : E.Perm (e :: E')) : (H ++ (A ++ (B ++ (C ++ (D ++ (E ++ S)))))).Perm (H ++ ([d, e, c] ++ (A ++ (B ++ (C' ++ (D' ++ (E' ++ S))))))) := by
  refine (List.Perm.append_left H (List.Perm.append_left A (List.Perm.append_left B (hC.append (hD.append (hE.append_right S)))))).trans ?_
  have := perm_parts [H, A, B, [c], C', [d], D', [e], E', S] [0, 5, 7, 3, 1, 2, 4, 6, 8, 9] (show List.Perm _ (List.range 10) by decide)
  simpa using this
def updN {α : Type} (f : Nat → α) (j : Nat) (v : α) : Nat → α := fun i => if i = j then v else f i
theorem updN_at {α : Type} {f : Nat → α} {j : Nat} {v : α} : updN f j v j = v := if_pos rfl
theorem rng_get {n j : Nat} (h : j < n) : (List.range n)[j]? = some j := List.getElem?_range h
theorem nx_out {x : Gx} {f : Nat → List (Int × Int)} {j : Nat} (v : List (Int × Int)) (h : j < x.nA) : ((List.range x.nA).map (nxR x (updN f j v))).Perm (.mp (x.mn j) (mkeys (Value.int .i64) (mapT iL v)) :: ((List.range x.nA).eraseIdx j).map (nxR x f)) := by
  have h1 := fam_out (f := nxR x (updN f j v)) (rng_get h)
  have e1 : ((List.range x.nA).eraseIdx j).map (nxR x (updN f j v)) = ((List.range x.nA).eraseIdx j).map (nxR x f) := List.map_congr_left fun a ha => by
    have : a ≠ j := fun e => erase_not List.nodup_range (rng_get h) (e ▸ ha)
    simp only [nxR, updN, if_neg this]
  have e2 : nxR x (updN f j v) j = .mp (x.mn j) (mkeys (Value.int .i64) (mapT iL v)) := by simp only [nxR, updN_at]
  rwa [e1, e2] at h1
theorem ea_out {x : Gx} {f : Nat → List ((Int × Int) × Int)} {j : Nat} (v : List ((Int × Int) × Int)) (h : j < x.nA) : ((List.range x.nA).map (eaR x (updN f j v))).Perm (.mp (x.me j) (mkeys pI (mapT iL v)) :: ((List.range x.nA).eraseIdx j).map (eaR x f)) := by
  have h1 := fam_out (f := eaR x (updN f j v)) (rng_get h)
  have e1 : ((List.range x.nA).eraseIdx j).map (eaR x (updN f j v)) = ((List.range x.nA).eraseIdx j).map (eaR x f) := List.map_congr_left fun a ha => by
    have : a ≠ j := fun e => erase_not List.nodup_range (rng_get h) (e ▸ ha)
    simp only [eaR, updN, if_neg this]
  have e2 : eaR x (updN f j v) j = .mp (x.me j) (mkeys pI (mapT iL v)) := by simp only [eaR, updN_at]
  rwa [e1, e2] at h1
@[reducible] def capL (x : Gx) : List AV := [.ptr 4 x.bs 0, .ptr 0 x.ba 0, .ptr 2 x.bn 0, .ptr 3 x.be 0, .ptr 1 x.bg 0, .ptr 5 x.bw 0, .ptr 7 x.bp 0]
set_option maxRecDepth 100000 in
set_option maxHeartbeats 8000000 in
theorem letter_ag (x : Gx) (w : Rs) (Z0 : Zt) (hR : Rel x w Z0) (i : Int) (y : El) {t cw cy cs cg : Nat} (hZ : ZOk x.nA x.nd t cw cy cs cg Z0) (h1 : cw ≤ 1000000) (h2 : cy + 2 ≤ 1000000) (h3 : cs ≤ 1000000) (h4 : cg + cs + 1 ≤ 100000000000) (hi : isN x.nd i) (hy : ElOk x.nA x.nd t y) (hk : y.kind = 0) :
    AG Try.prog 54 [.c (iL i), .c (.agg (thTs y)), .ptr 4 x.bs 0, .ptr 0 x.ba 0, .ptr 2 x.bn 0, .ptr 3 x.be 0, .ptr 1 x.bg 0, .ptr 5 x.bw 0, .ptr 7 x.bp 0] (rB x w) (fun _ hs => GaveR x (procZ i y Z0) hs) := by
  obtain ⟨m, rfl⟩ : ∃ m : Nat, i = (m : Int) := ⟨i.toNat, (isN_lt hi).2.symm⟩
  have hml : m < x.nd + 1 := (isN_lt hi).1
  obtain ⟨yk, yw, ys, yq, yn, yo, yt⟩ := y
  have hwho := hy.who
  have hsrc := hy.src hk
  dsimp only at hk hwho hsrc
  subst hk
  obtain ⟨j, rfl⟩ : ∃ j : Nat, yw = (j : Int) := ⟨yw.toNat, (isW_lt hwho).2.symm⟩
  have hjA : j < x.nA := (isW_lt hwho).1
  have hal : w.at_.length = x.nA := by rw [hR.at_]; exact hZ.alen
  have hjl : j < w.at_.length := by rw [hal]; exact hjA
  obtain ⟨a, ha⟩ := nth hjl
  have hat := ints_at ha
  have hsl : (belL x.nA w.bel m)[j]? = some (w.bel m j) := by unfold belL; rw [rng_at (fun w' : Nat => w.bel (m : Int) (w' : Int)) hjA]
  have hsu := su_at x w hml
  have hP : procZ m ⟨0, j, ys, yq, yn, yo, yt⟩ Z0 = if a = (m : Int) then recvZ ⟨0, j, ys, yq, yn, yo, yt⟩ Z0
      else if (w.bel m j).1 = (m : Int) then { Z0 with wait := Z0.wait.set m (Z0.wait.getD m [] ++ [⟨0, j, ys, yq, yn, yo, yt⟩]) }
      else { Z0 with ways := pushL ((m : Int), (w.bel m j).1) ⟨0, j, ys, yq, yn, yo, yt⟩ (if ys = (m : Int) then Z0.ways else pushL ((m : Int), ys) (noteE ⟨0, j, ys, yq, yn, yo, yt⟩ (w.bel m j)) Z0.ways) } := by
    have had : Z0.at_.getD ((j : Int)).toNat 0 = a := by rw [← hR.at_]; show w.at_.getD j 0 = a; rw [List.getD, ha]; rfl
    unfold procZ
    dsimp only
    rw [had, hR.bel]
    rfl
  generalize procZ m ⟨0, j, ys, yq, yn, yo, yt⟩ Z0 = Z at hP ⊢
  refine ag_enter (0 + lenR x Z) tok Try.func54 Try.ntmps54 Try.results54 rfl (by kernel_rfl) rfl fun F => ?_
  repeat (first | refine gG ?_ | refine zAl (fun _ => ?_) | refine zBf ?_ | refine zAp (fun _ => ?_))
  refine ac_draw [1, 1, 1, 1, 1, 1, 1, 1, 3, 2] [0, 1, 2, 3, 4, 5, 6, 7, 8, 9] (by kernel_rfl) (by kernel_rfl) ?_
  refine gW ?_
  apply w_q; (focus exact rfl); (focus exact rfl); focus (intro _; (refine zIxo m hml ?_); exact det_refl)
  apply w_q; (focus exact rfl); (focus exact rfl); focus (intro _; (refine lo_as (w.ways.length + (w.wait.length + (w.got.length + (x.nA + (x.nA + m)))) + 15) (zElo1 (rng_at1 (fun i => T.lit (x.sv i)) hml) ⟨_, _, _, _, _, rfl, hsu _, ?_⟩)); exact det_refl)
  refine gW ?_
  apply w_q; (focus exact rfl); (focus exact rfl); focus (intro _; (refine zIxo j hjA ?_ tok rfl (hsu _)); exact det_refl)
  apply w_q; (focus exact rfl); (focus exact rfl); focus (intro _; (refine zElo (go_at hsl) rfl ?_ tok rfl (hsu _)); exact det_refl)
  apply w_a; (focus exact rfl); (focus exact rfl); refine zAlE (fun _ => ⟨⟨_, rfl⟩, ?_⟩)
  apply w_l; (focus exact rfl); (focus exact rfl); (refine zStE rfl ?_)
  refine w_nil ?_
  refine x_frz0 11 [iL (w.bel m j).1, iL (w.bel m j).2] ?_
  repeat (first | refine gG ?_ | refine zAl (fun _ => ?_) | refine zBx (fun _ => ?_) | refine zAp (fun _ => ?_))
  refine zIxo j hjl ?_
  repeat (first | refine gG ?_ | refine zAl (fun _ => ?_) | refine zBx (fun _ => ?_) | refine zAp (fun _ => ?_))
  refine zElo1 hat ?_
  repeat (first | refine gG ?_ | refine zAl (fun _ => ?_) | refine zBx (fun _ => ?_) | refine zAp (fun _ => ?_))
  cases d0 : decide (a = (m : Int))
  rotate_left
  · rw [if_pos (of_decide_eq_true d0)] at hP
    obtain ⟨⟨v, l⟩, hg⟩ := nth (show j < w.got.length by have : Z0.got.length = x.nA := hZ.glen; rw [← hR.got, List.length_map] at this; omega)
    have hgjl : j < w.got.length := (List.getElem?_eq_some_iff.1 hg).1
    have hgl : Z0.got.getD j [] = l := by
      rw [← hR.got, List.getD, List.getElem?_map, hg]; rfl
    have hpull := pull3R (H := rH x w) (A := w.ways.map rwayR) (B := w.wait.map thR) (S := (List.range (x.nd + 1)).map (suR x w.bel)) (fam_out (f := goR) hg) (fam_out (f := nxR x w.nxt) (rng_get hjA)) (fam_out (f := eaR x w.ear) (rng_get hjA))
    have hN0 := hR.nxt ys j
    have hlkN : (mget ys (mapT iL (w.nxt j))).getD (.lit (.int .i64 0)) = iL (Z0.nxt ys j) := by
      rw [mget_T, ← hN0]; cases gget ys (w.nxt j) <;> rfl
    have hmn := rng_at1 (fun j => T.lit (.map (some (x.mn j)))) hjA
    have hme := rng_at1 (fun j => T.lit (.map (some (x.me j)))) hjA
    obtain ⟨R', hR'⟩ : ∃ R', R' = w.ways.map rwayR ++ (w.wait.map thR ++ ((w.got.eraseIdx j).map goR ++ (((List.range x.nA).eraseIdx j).map (nxR x w.nxt) ++ (((List.range x.nA).eraseIdx j).map (eaR x w.ear) ++ (List.range (x.nd + 1)).map (suR x w.bel))))) := ⟨_, rfl⟩
    rw [← hR'] at hpull
    repeat (first | refine gG ?_ | refine zAl (fun _ => ?_) | refine zBx (fun _ => ?_) | refine zAp (fun _ => ?_))
    refine x_perm hpull ?_
    refine ac_draw [1, 1, 1, 1, 1, 1, 1, 1, 1, 1, 1] [0, 1, 2, 3, 4, 5, 6, 7, 8, 9, 10] (by kernel_rfl) (by kernel_rfl) ?_
    refine gW ?_
    apply w_q; (focus exact rfl); (focus exact rfl); focus (intro _; (refine zIxo j hjA ?_); exact det_refl)
    apply w_q; (focus exact rfl); (focus exact rfl); focus (intro _; (refine lo_asm 15 (zElo1 hmn ⟨_, rfl, ?_⟩)); exact det_refl)
    refine gW ?_
    apply w_q; (focus exact rfl); (focus exact rfl); focus (intro _; (refine zLkr 3 keyNum ys hlkN ?_); exact det_refl)
    refine gW ?_
    refine w_nil ?_
    cases dq : decide (yq < Z0.nxt ys j)
    rotate_left
    · have hz : Rel x w Z := by
        rw [hP]; unfold recvZ
        rw [if_pos (show (El.seq _) < Z0.nxt _ _ from of_decide_eq_true dq)]
        exact hR
      repeat (first | refine gG ?_ | refine zAl (fun _ => ?_) | refine zBx (fun _ => ?_) | refine zAp (fun _ => ?_))
      exact zGS (take_rB hz hpull.symm) ⟨w, hz, hpull.symm⟩
    have nq := of_decide_eq_false dq
    repeat (first | refine gG ?_ | refine zAl (fun _ => ?_) | refine zBx (fun _ => ?_) | refine zAp (fun _ => ?_))
    have hputE := mput_T iL (ys, yq) yn (w.ear j)
    have hfE : filt ys (gput (ys, yq) yn (w.ear j)) = gput yq yn (Z0.sto ys j) := by rw [filt_put, if_pos rfl, hR.ear]
    have hfE' : ∀ g, g ≠ ys → filt g (gput (ys, yq) yn (w.ear j)) = filt g (w.ear j) := fun g hg => by rw [filt_put, if_neg hg]
    have hsE : ∀ e ∈ gput (ys, yq) yn (w.ear j), isN x.nd e.1.1 := fun e he => by
      rcases gput_all he with rfl | he
      · exact hsrc
      · exact hR.src j e he
    have hlK := gput_len (k := yq) (b := yn) (l := Z0.sto ys j)
    have hcs := hZ.sto ys j
    have hcn := hZ.nxt ys j
    have hcg := hZ.got l (by rw [← hgl]; exact getD_mem (by rw [hZ.glen]; exact hjA))
    have hw0 : w.got.set j (v, l) = w.got := set_get hg
    refine ac_draw [1, 1, 1, 1, 1, 1, 1, 1, 1, 1, 1, 1, 2] [0, 1, 2, 3, 4, 5, 6, 7, 8, 9, 10, 11, 12] (by kernel_rfl) (by kernel_rfl) ?_
    refine gW ?_
    apply w_q; (focus exact rfl); (focus exact rfl); focus (intro _; (refine zIxo j hjA ?_); exact det_refl)
    apply w_q; (focus exact rfl); (focus exact rfl); focus (intro _; (refine lo_asm 16 (zElo1 hme ⟨_, rfl, ?_⟩)); exact det_refl)
    refine gW ?_
    apply w_q; (focus exact rfl); (focus exact rfl); focus (intro _; (refine zBda ?_); exact det_refl)
    refine gW ?_
    apply w_l; (focus exact rfl); (focus exact rfl); (refine zUprS 3 keyWay (ys, yq) hputE ?_)
    refine w_nil ?_
    generalize gput (ys, yq) yn (w.ear j) = E0 at *
    generalize hK0 : gput yq yn (Z0.sto ys j) = K0 at *
    repeat (first | refine ac_seq ?_ | refine ac_block ?_)
    refine x_loop [12, 13, 14, 76, 77, 78, 79, 80, 81, 82, 83, 84, 85, 86, 87, 88, 89, 90, 91, 92, 93, 94, 95, 96, 97, 98, 99, 100, 101, 102, 103, 104, 105, 106, 107, 108, 109, 110, 111, 112, 113, 114, 115, 116, 117, 118, 119, 120, 121, 122, 123, 124, 125, 126, 127, 128] (fun _ : Nat × List (Int × Int) × List ((Int × Int) × Int) × Value × List (Int × Int) => []) (fun q => rH x ⟨w.at_, w.bel, w.nxt, w.ear, w.ways, w.wait, w.got.set j (q.2.2.2.1, q.2.2.2.2)⟩ ++ ([.mp (x.mn j) (mkeys (Value.int .i64) (mapT iL q.2.1)), .mp (x.me j) (mkeys pI (mapT iL q.2.2.1)), goR (q.2.2.2.1, q.2.2.2.2)] ++ R'))
      (fun q => (filt ys q.2.2.1).length ≤ q.1 ∧ (drain q.1 ((gget ys q.2.1).getD 0) (filt ys q.2.2.1)).1 = (drain K0.length (Z0.nxt ys j) K0).1 ∧ (drain q.1 ((gget ys q.2.1).getD 0) (filt ys q.2.2.1)).2.1 = (drain K0.length (Z0.nxt ys j) K0).2.1 ∧ q.2.2.2.2 ++ (drain q.1 ((gget ys q.2.1).getD 0) (filt ys q.2.2.1)).2.2.map (ys, ·) = l ++ (drain K0.length (Z0.nxt ys j) K0).2.2.map (ys, ·) ∧
        (0 ≤ (gget ys q.2.1).getD 0 ∧ (gget ys q.2.1).getD 0 + ((filt ys q.2.2.1).length : Nat) ≤ 1000000000000 ∧ q.2.2.2.2.length + (filt ys q.2.2.1).length ≤ 1000000000000) ∧ (∀ g, g ≠ ys → filt g q.2.2.1 = filt g (w.ear j)) ∧ (∀ g, g ≠ ys → (gget g q.2.1).getD 0 = (gget g (w.nxt j)).getD 0) ∧ ∀ e ∈ q.2.2.1, isN x.nd e.1.1)
      (fun q => (filt ys q.2.2.1).length) (K0.length, w.nxt j, E0, v, l) ⟨by rw [hfE]; exact Nat.le_refl _, by rw [hfE, hN0], by rw [hfE, hN0], by rw [hfE, hN0], ⟨by rw [hN0]; exact hcn.1, by rw [hfE, hN0]; omega, by dsimp only; rw [hfE]; omega⟩, hfE', fun _ _ => rfl, hsE⟩ trivial (by dsimp only; rw [hw0]; rfl) ?_
    rintro ⟨f, N', E', v', l'⟩ ⟨hf, h1', h2', h3', ⟨h4', h5', h6'⟩, h7', h8', h9'⟩
    dsimp only at hf h1' h2' h3' h4' h5' h6' h7' h8' h9' ⊢
    have hlkN' : (mget ys (mapT iL N')).getD (.lit (.int .i64 0)) = iL ((gget ys N').getD 0) := by
      rw [mget_T]; cases gget ys N' <;> rfl
    have hputN := mput_T iL ys ((gget ys N').getD 0 + 1) N'
    have hgp : ∀ g, (gget g (gput ys ((gget ys N').getD 0 + 1) N')).getD 0 = if g = ys then (gget ys N').getD 0 + 1 else (gget g N').getD 0 := fun g => by
      rw [gget_put]; split <;> rfl
    generalize hn' : (gget ys N').getD 0 = n' at *
    have hgT := mget_T iL (ys, n') E'
    rw [filt_get] at hgT
    repeat (first | refine gG ?_ | refine zAl (fun _ => ?_) | refine zBx (fun _ => ?_) | refine zAp (fun _ => ?_))
    refine ac_draw [1, 1, 1, 1, 1, 1, 1, 1, 1, 1, 1, 3, 2] [0, 1, 2, 3, 4, 5, 6, 7, 8, 9, 10, 11, 12] (by kernel_rfl) (by kernel_rfl) ?_
    refine gW ?_
    apply w_q; (focus exact rfl); (focus exact rfl); focus (intro _; (refine zIxo j hjA ?_); exact det_refl)
    apply w_q; (focus exact rfl); (focus exact rfl); focus (intro _; (refine lo_asm 15 (zElo1 hmn ⟨_, rfl, ?_⟩)); exact det_refl)
    refine gW ?_
    apply w_q; (focus exact rfl); (focus exact rfl); focus (intro _; (refine zLkr 3 keyNum ys hlkN' ?_); exact det_refl)
    apply w_q; (focus exact rfl); (focus exact rfl); focus (intro _; (refine zBda ?_); exact det_refl)
    apply w_a; (focus exact rfl); (focus exact rfl); refine zAlE (fun _ => ⟨⟨_, rfl⟩, ?_⟩)
    apply w_l; (focus exact rfl); (focus exact rfl); (refine zStE rfl ?_)
    refine w_nil ?_
    refine x_frz0 12 [iL ys, iL n'] ?_
    repeat (first | refine gG ?_ | refine zAl (fun _ => ?_) | refine zBx (fun _ => ?_) | refine zAp (fun _ => ?_))
    cases hgn : gget n' (filt ys E') with
    | none =>
      rw [hgn] at hgT
      have hdr : drain f n' (filt ys E') = (n', filt ys E', []) := by
        cases f with
        | zero => rfl
        | succ f => unfold drain; rw [hgn]
      have hlk2 : (mget (ys, n') (mapT iL E')).getD (.lit (.int .i64 0)) = .lit (.int .i64 0) := by rw [hgT]; rfl
      have hlk3 : (mget (ys, n') (mapT iL E')).isSome = false := by rw [hgT]; rfl
      rw [hdr] at h1' h2' h3'
      dsimp only at h1' h2' h3'
      rw [List.map_nil, List.append_nil] at h3'
      refine ac_draw [1, 1, 1, 1, 1, 1, 1, 1, 1, 1, 1, 1] [0, 1, 2, 3, 4, 5, 6, 7, 8, 9, 10, 11] (by kernel_rfl) (by kernel_rfl) ?_
      refine gW ?_
      apply w_q; (focus exact rfl); (focus exact rfl); focus (intro _; (refine zIxo j hjA ?_); exact det_refl)
      apply w_q; (focus exact rfl); (focus exact rfl); focus (intro _; (refine lo_asm 16 (zElo1 hme ⟨_, rfl, ?_⟩)); exact det_refl)
      refine gW ?_
      apply w_q; (focus exact rfl); (focus exact rfl); focus (intro _; (refine zLkro 3 keyWay (ys, n') hlk2 hlk3 ?_); exact det_refl)
      refine gW ?_
      refine w_nil ?_
      repeat (first | refine gG ?_ | refine zAl (fun _ => ?_) | refine zBx (fun _ => ?_) | refine zAp (fun _ => ?_))
      have hz : Rel x ⟨w.at_, w.bel, updN w.nxt j N', updN w.ear j E', w.ways, w.wait, w.got.set j (v', l')⟩ Z := by
        rw [hP]; unfold recvZ
        rw [if_neg (show ¬ (El.seq _) < Z0.nxt _ _ from nq)]
        dsimp only
        rw [hK0, ← h1', ← h2', show ((j : Int)).toNat = j from rfl, hgl, ← h3']
        refine ⟨hR.at_, hR.bel, hR.ways, hR.wait, by rw [List.map_set, hR.got], fun g j' => ?_, fun g j' => ?_, fun j' e he => ?_⟩
        · dsimp only
          unfold updN upd2
          by_cases e1 : j' = j
          · subst e1
            by_cases e2 : g = ys
            · subst e2; rw [if_pos rfl, if_pos ⟨rfl, rfl⟩]; exact hn'
            · rw [if_pos rfl, if_neg (fun h => e2 h.1), h8' g e2]; exact hR.nxt g j'
          · rw [if_neg e1, if_neg (fun h => e1 (by omega))]; exact hR.nxt g j'
        · dsimp only
          unfold updN upd2
          by_cases e1 : j' = j
          · subst e1
            by_cases e2 : g = ys
            · subst e2; rw [if_pos rfl, if_pos ⟨rfl, rfl⟩]
            · rw [if_pos rfl, if_neg (fun h => e2 h.1), h7' g e2]; exact hR.ear g j'
          · rw [if_neg e1, if_neg (fun h => e1 (by omega))]; exact hR.ear g j'
        · dsimp only at he
          unfold updN at he
          split at he
          · exact h9' e he
          · exact hR.src j' e he
      have hb := pull3R (H := rH x ⟨w.at_, w.bel, updN w.nxt j N', updN w.ear j E', w.ways, w.wait, w.got.set j (v', l')⟩) (A := w.ways.map rwayR) (B := w.wait.map thR) (S := (List.range (x.nd + 1)).map (suR x w.bel)) (fam_in (f := goR) (l := w.got) (i := j) hgjl (v', l')).symm (nx_out (x := x) (f := w.nxt) N' hjA) (ea_out (x := x) (f := w.ear) E' hjA)
      rw [← hR'] at hb
      exact zGS (take_rB hz hb.symm) ⟨_, hz, hb.symm⟩
    | some v0 =>
      rw [hgn] at hgT
      have hdl := gdel_len (k := n') (l := filt ys E') (by rw [hgn]; rfl)
      obtain ⟨f, rfl⟩ : ∃ f', f = f' + 1 := ⟨f - 1, by omega⟩
      have hdr : drain (f + 1) n' (filt ys E') = ((drain f (n' + 1) (gdel n' (filt ys E'))).1, (drain f (n' + 1) (gdel n' (filt ys E'))).2.1, v0 :: (drain f (n' + 1) (gdel n' (filt ys E'))).2.2) := by
        conv => lhs; unfold drain
        rw [hgn]
      rw [hdr] at h1' h2' h3'
      dsimp only at h1' h2' h3'
      have hlk2 : (mget (ys, n') (mapT iL E')).getD (.lit (.int .i64 0)) = iL v0 := by rw [hgT]; rfl
      have hlk3 : (mget (ys, n') (mapT iL E')).isSome = true := by rw [hgT]; rfl
      have hdel := mdel_T iL (ys, n') E'
      have hfd : ∀ g, filt g (gdel (ys, n') E') = if g = ys then gdel n' (filt g E') else filt g E' := fun g => filt_del ys g n' E'
      have hfdy : filt ys (gdel (ys, n') E') = gdel n' (filt ys E') := by rw [hfd, if_pos rfl]
      have hds : ∀ e ∈ gdel (ys, n') E', isN x.nd e.1.1 := fun e he => h9' e ((gdel_sub _ E').subset he)
      have hat2 := litL_at (S := w.got.set j (v', l')) (i := j) (q := (v', l')) (by simp [hgjl])
      have hll := litL_len (w.got.set j (v', l'))
      have hset : ∀ v'', (litL (w.got.set j (v', l'))).set (j * 1) (.lit v'') = litL (w.got.set j (v'', l' ++ [(ys, v0)])) := fun v'' => by
        have := litL_set (w.got.set j (v', l')) j (v'', l' ++ [(ys, v0)])
        rw [List.set_set] at this
        exact this
      have hgl1 : (w.got.set j (v', l')).length = w.got.length := List.length_set
      have hgl2 : ∀ v'', (w.got.set j (v'', l' ++ [(ys, v0)])).length = w.got.length := fun v'' => List.length_set
      have hil' : j < (w.got.set j (v', l')).length := by rw [hgl1]; exact hgjl
      have e1 : ∀ v'', goR (v'', l' ++ [(ys, v0)]) = .row v'' 73 2 (l'.length + 1) (l'.flatMap goTs ++ goTs (ys, v0)) := fun v'' => by
        rw [goR, go_snoc, List.length_append]; rfl
      clear hgT hgn hdr
      refine ac_draw [1, 1, 1, 1, 1, 1, 1, 1, 1, 1, 1, 1] [0, 1, 2, 3, 4, 5, 6, 7, 8, 9, 10, 11] (by kernel_rfl) (by kernel_rfl) ?_
      refine gW ?_
      apply w_q; (focus exact rfl); (focus exact rfl); focus (intro _; (refine zIxo j hjA ?_); exact det_refl)
      apply w_q; (focus exact rfl); (focus exact rfl); focus (intro _; (refine lo_asm 16 (zElo1 hme ⟨_, rfl, ?_⟩)); exact det_refl)
      refine gW ?_
      apply w_q; (focus exact rfl); (focus exact rfl); focus (intro _; (refine zLkro 3 keyWay (ys, n') hlk2 hlk3 ?_); exact det_refl)
      refine gW ?_
      refine w_nil ?_
      repeat (first | refine gG ?_ | refine zAl (fun _ => ?_) | refine zBx (fun _ => ?_) | refine zAp (fun _ => ?_))
      refine ac_draw [1, 1, 1, 1, 1, 1, 2] [0, 1, 2, 3, 4, 5, 6] (by kernel_rfl) (by kernel_rfl) ?_
      refine gW ?_
      apply w_q; (focus exact rfl); (focus exact rfl); focus (intro _; (refine zIxo j hjA ?_); exact det_refl)
      apply w_q; (focus exact rfl); (focus exact rfl); focus (intro _; (refine lo_asm 16 (zElo1 hme ⟨_, rfl, ?_⟩)); exact det_refl)
      refine gW ?_
      apply w_l; (focus exact rfl); (focus exact rfl); (refine zDelrS 3 keyWay (ys, n') hdel ?_)
      refine w_nil ?_
      repeat (first | refine gG ?_ | refine zAl (fun _ => ?_) | refine zBx (fun _ => ?_) | refine zAp (fun _ => ?_))
      refine x_row 9 rfl (by rw [hgl1]; omega) (fun hv => ?_)
      refine ac_drawT [3, 0, 0, 1, 1, 1, 1, 1, 1, 1, 1, 1, 1, 2, 0, 2] (.fork [1, 2, 3, 4, 5, 6, 7, 8, 9, 10, 11, 12] 0 (.fin [13, 14, 15]) 13 (.fin [0, 14, 15])) (by kernel_rfl) (by kernel_rfl) ?_
      refine wt_fork ?_
      refine gW ?_
      apply w_q; (focus exact rfl); (focus exact rfl); focus (intro _; (refine zIxo j hil' ?_); exact det_refl)
      apply w_q; (focus exact rfl); (focus exact rfl); focus (intro _; (refine lo_as 17 (zElo1 hat2 ⟨_, _, _, _, _, rfl, rfl, ?_⟩)); exact det_refl)
      refine gW ?_
      refine w_nil ?_
      refine ⟨?_, ?_⟩
      · apply w_a; (focus exact rfl); (focus exact rfl); refine zL1 ⟨⟨[], (List.append_nil _).symm⟩, ?_⟩
        refine w_nil ?_
        refine wt_fin ?_
        apply w_l; (focus exact rfl); (focus exact rfl); (refine zApS (fun v'' => ?_) tok rfl rfl)
        apply w_p; (focus exact rfl); (focus exact rfl); focus (intro _; (refine zIxp j hv hil' ?_); exact det_refl)
        apply w_l; (focus exact rfl); (focus exact rfl); (refine zSeo (show j * 1 + 1 ≤ (litL (w.got.set j (v', l'))).length by rw [hll, hgl1]; omega) ?_)
        refine w_nil ?_
        repeat (first | refine gG ?_ | refine zAl (fun _ => ?_) | refine zBx (fun _ => ?_) | refine zAp (fun _ => ?_))
        (refine ac_draw [1, 1, 1, 1, 1, 1, 1, 1, 1, 2] [0, 1, 2, 3, 4, 5, 6, 7, 8, 9] (by kernel_rfl) (by kernel_rfl) ?_); (refine gW ?_); (apply w_q; (focus exact rfl); (focus exact rfl); focus (intro _; (refine zIxo j hjA ?_); exact det_refl)); (apply w_q; (focus exact rfl); (focus exact rfl); focus (intro _; (refine lo_asm 15 (zElo1 hmn ⟨_, rfl, ?_⟩)); exact det_refl)); (refine gW ?_); (apply w_q; (focus exact rfl); (focus exact rfl); focus (intro _; (refine zLkr 3 keyNum ys hlkN' ?_); exact det_refl)); (apply w_q; (focus exact rfl); (focus exact rfl); focus (intro _; (refine lo_add rfl rfl (r := n' + 1) (by show IntKind.wrap .i64 (n' + 1) = n' + 1; exact IntWalk.i64_in _ (by omega)) ?_); exact det_refl)); (apply w_l; (focus exact rfl); (focus exact rfl); (refine zUprS 3 keyNum ys hputN ?_)); (refine w_nil ?_)
        rename_i v''
        repeat (first | refine gG ?_ | refine zAl (fun _ => ?_) | refine zBx (fun _ => ?_) | refine zAp (fun _ => ?_))
        refine ⟨(f, gput ys (n' + 1) N', gdel (ys, n') E', v'', l' ++ [(ys, v0)]), ⟨by rw [hfdy]; omega, ?_, ?_, ?_, ⟨by rw [hgp, if_pos rfl]; omega, ?_, ?_⟩, fun g hg => by rw [hfd, if_neg hg]; exact h7' g hg, fun g hg => by rw [hgp, if_neg hg]; exact h8' g hg, hds⟩, by rw [hfdy]; omega, x_wk trivial ?_ (by repeat (first | exact ag_refl | refine ag_upd rfl ?_ | refine ag_at rfl rfl ?_))⟩
        · rw [hgp, if_pos rfl, hfdy]; exact h1'
        · rw [hgp, if_pos rfl, hfdy]; exact h2'
        · rw [hgp, if_pos rfl, hfdy, ← h3', List.map_cons, List.append_assoc]; rfl
        · rw [hgp, if_pos rfl, hfdy]; omega
        · rw [hfdy]; dsimp only; rw [List.length_append, List.length_singleton]; omega
        · dsimp only
          rw [e1]
          simp only [hset, rH, hgl1, hgl2]
          rfl
              
      · apply w_l; (focus exact rfl); (focus exact rfl); (refine zApS (fun v'' => ?_) tok rfl rfl)
        refine w_nil ?_
        refine wt_fin ?_
        apply w_a; (focus exact rfl); (focus exact rfl); refine zL1 ⟨⟨[], (List.append_nil _).symm⟩, ?_⟩
        apply w_p; (focus exact rfl); (focus exact rfl); focus (intro _; (refine zIxp j hv hil' ?_); exact det_refl)
        apply w_l; (focus exact rfl); (focus exact rfl); (refine zSeo (show j * 1 + 1 ≤ (litL (w.got.set j (v', l'))).length by rw [hll, hgl1]; omega) ?_)
        refine w_nil ?_
        repeat (first | refine gG ?_ | refine zAl (fun _ => ?_) | refine zBx (fun _ => ?_) | refine zAp (fun _ => ?_))
        (refine ac_draw [1, 1, 1, 1, 1, 1, 1, 1, 1, 2] [0, 1, 2, 3, 4, 5, 6, 7, 8, 9] (by kernel_rfl) (by kernel_rfl) ?_); (refine gW ?_); (apply w_q; (focus exact rfl); (focus exact rfl); focus (intro _; (refine zIxo j hjA ?_); exact det_refl)); (apply w_q; (focus exact rfl); (focus exact rfl); focus (intro _; (refine lo_asm 15 (zElo1 hmn ⟨_, rfl, ?_⟩)); exact det_refl)); (refine gW ?_); (apply w_q; (focus exact rfl); (focus exact rfl); focus (intro _; (refine zLkr 3 keyNum ys hlkN' ?_); exact det_refl)); (apply w_q; (focus exact rfl); (focus exact rfl); focus (intro _; (refine lo_add rfl rfl (r := n' + 1) (by show IntKind.wrap .i64 (n' + 1) = n' + 1; exact IntWalk.i64_in _ (by omega)) ?_); exact det_refl)); (apply w_l; (focus exact rfl); (focus exact rfl); (refine zUprS 3 keyNum ys hputN ?_)); (refine w_nil ?_)
        rename_i v''
        repeat (first | refine gG ?_ | refine zAl (fun _ => ?_) | refine zBx (fun _ => ?_) | refine zAp (fun _ => ?_))
        refine ⟨(f, gput ys (n' + 1) N', gdel (ys, n') E', v'', l' ++ [(ys, v0)]), ⟨by rw [hfdy]; omega, ?_, ?_, ?_, ⟨by rw [hgp, if_pos rfl]; omega, ?_, ?_⟩, fun g hg => by rw [hfd, if_neg hg]; exact h7' g hg, fun g hg => by rw [hgp, if_neg hg]; exact h8' g hg, hds⟩, by rw [hfdy]; omega, x_wk trivial ?_ (by repeat (first | exact ag_refl | refine ag_upd rfl ?_ | refine ag_at rfl rfl ?_))⟩
        · rw [hgp, if_pos rfl, hfdy]; exact h1'
        · rw [hgp, if_pos rfl, hfdy]; exact h2'
        · rw [hgp, if_pos rfl, hfdy, ← h3', List.map_cons, List.append_assoc]; rfl
        · rw [hgp, if_pos rfl, hfdy]; omega
        · rw [hfdy]; dsimp only; rw [List.length_append, List.length_singleton]; omega
        · dsimp only
          rw [e1]
          simp only [hset, rH, hgl1, hgl2]
          rfl
              
  rw [if_neg (of_decide_eq_false d0)] at hP
  repeat (first | refine gG ?_ | refine zAl (fun _ => ?_) | refine zBx (fun _ => ?_) | refine zAp (fun _ => ?_))
  cases d1 : decide ((w.bel m j).1 = (m : Int))
  rotate_left
  · rw [if_pos (of_decide_eq_true d1)] at hP
    have hmw : m < w.wait.length := by
      have h1 : Z0.wait.length = x.nd + 1 := hZ.wlen
      rw [← hR.wait, List.length_map] at h1
      omega
    obtain ⟨⟨v, l⟩, hq⟩ := nth hmw
    have hql : Z0.wait.getD m [] = l := by
      rw [← hR.wait, List.getD, List.getElem?_map, hq]; rfl
    have hln : l.length ≤ cw := by
      have h1 := getD_le_sumL (l := Z0.wait) (j := m)
      have h2 := hZ.waitn
      rw [hql] at h1
      omega
    have hat2 := litL_at hq
    have hll := litL_len w.wait
    have hset : ∀ v', (litL w.wait).set (m * 1) (.lit v') = litL (w.wait.set m (v', l ++ [⟨0, j, ys, yq, yn, yo, yt⟩])) := fun v' => litL_set w.wait m (v', l ++ [⟨0, j, ys, yq, yn, yo, yt⟩])
    have hgl2 : ∀ v' : Value, (w.wait.set m (v', l ++ [⟨0, j, ys, yq, yn, yo, yt⟩])).length = w.wait.length := fun v' => List.length_set
    have hz : ∀ v', Rel x ⟨w.at_, w.bel, w.nxt, w.ear, w.ways, w.wait.set m (v', l ++ [⟨0, j, ys, yq, yn, yo, yt⟩]), w.got⟩ Z := fun v' => by
      rw [hP, hql]
      exact ⟨hR.at_, hR.bel, hR.ways, by rw [List.map_set, hR.wait], hR.got, hR.nxt, hR.ear, hR.src⟩
    have e1 : ∀ v', thR (v', l ++ [⟨0, j, ys, yq, yn, yo, yt⟩]) = .row v' 145 7 (l.length + 1) (l.flatMap thTs ++ thTs ⟨0, j, ys, yq, yn, yo, yt⟩) := fun v' => by
      rw [thR, th_snoc, List.length_append]; rfl
    repeat (first | refine gG ?_ | refine zAl (fun _ => ?_) | refine zBx (fun _ => ?_) | refine zAp (fun _ => ?_))
    refine x_perm (pullB (H := rH x w) (A := w.ways.map rwayR) (fam_out (f := thR) hq)) ?_
    refine x_row 13 rfl (by omega) (fun hv => ?_)
    refine ac_drawT [3, 0, 1, 1, 1, 1, 1, 1, 2, 0, 2] (.fork [1, 2, 3, 4, 5, 6, 7] 0 (.fin [8, 9, 10]) 8 (.fin [0, 9, 10])) (by kernel_rfl) (by kernel_rfl) ?_
    refine wt_fork ?_
    refine gW ?_
    apply w_q; (focus exact rfl); (focus exact rfl); focus (intro _; (refine zIxo m hmw ?_); exact det_refl)
    apply w_q; (focus exact rfl); (focus exact rfl); focus (intro _; (refine lo_as 15 (zElo1 hat2 ⟨_, _, _, _, _, rfl, rfl, ?_⟩)); exact det_refl)
    refine gW ?_
    refine w_nil ?_
    refine ⟨?_, ?_⟩
    · apply w_a; (focus exact rfl); (focus exact rfl); refine zL1 ⟨⟨[], (List.append_nil _).symm⟩, ?_⟩
      refine w_nil ?_
      refine wt_fin ?_
      apply w_l; (focus exact rfl); (focus exact rfl); (refine zApS (fun v' => ?_) tok rfl rfl)
      apply w_p; (focus exact rfl); (focus exact rfl); focus (intro _; (refine zIxp m hv hmw ?_); exact det_refl)
      apply w_l; (focus exact rfl); (focus exact rfl); (refine zSeo (show m * 1 + 1 ≤ (litL w.wait).length by rw [hll]; omega) ?_)
      refine w_nil ?_
      rename_i v'
      repeat (first | refine gG ?_ | refine zAl (fun _ => ?_) | refine zBx (fun _ => ?_) | refine zAp (fun _ => ?_))
      have hb := pullB (H := rH x ⟨w.at_, w.bel, w.nxt, w.ear, w.ways, w.wait.set m (v', l ++ [⟨0, j, ys, yq, yn, yo, yt⟩]), w.got⟩) (A := w.ways.map rwayR) (R := w.got.map goR ++ ((List.range x.nA).map (nxR x w.nxt) ++ ((List.range x.nA).map (eaR x w.ear) ++ (List.range (x.nd + 1)).map (suR x w.bel)))) (fam_in (f := thR) hmw (v', l ++ [⟨0, j, ys, yq, yn, yo, yt⟩])).symm
      refine zGS ?_ ⟨_, hz v', hb.symm⟩
      refine Eq.trans (congrArg (List.take (0 + lenR x Z)) ?_) (take_rB (hz v') hb.symm)
      rw [e1]
      simp only [hset, rH, hgl2]
      rfl
          
    · apply w_l; (focus exact rfl); (focus exact rfl); (refine zApS (fun v' => ?_) tok rfl rfl)
      refine w_nil ?_
      refine wt_fin ?_
      apply w_a; (focus exact rfl); (focus exact rfl); refine zL1 ⟨⟨[], (List.append_nil _).symm⟩, ?_⟩
      apply w_p; (focus exact rfl); (focus exact rfl); focus (intro _; (refine zIxp m hv hmw ?_); exact det_refl)
      apply w_l; (focus exact rfl); (focus exact rfl); (refine zSeo (show m * 1 + 1 ≤ (litL w.wait).length by rw [hll]; omega) ?_)
      refine w_nil ?_
      rename_i v'
      repeat (first | refine gG ?_ | refine zAl (fun _ => ?_) | refine zBx (fun _ => ?_) | refine zAp (fun _ => ?_))
      have hb := pullB (H := rH x ⟨w.at_, w.bel, w.nxt, w.ear, w.ways, w.wait.set m (v', l ++ [⟨0, j, ys, yq, yn, yo, yt⟩]), w.got⟩) (A := w.ways.map rwayR) (R := w.got.map goR ++ ((List.range x.nA).map (nxR x w.nxt) ++ ((List.range x.nA).map (eaR x w.ear) ++ (List.range (x.nd + 1)).map (suR x w.bel)))) (fam_in (f := thR) hmw (v', l ++ [⟨0, j, ys, yq, yn, yo, yt⟩])).symm
      refine zGS ?_ ⟨_, hz v', hb.symm⟩
      refine Eq.trans (congrArg (List.take (0 + lenR x Z)) ?_) (take_rB (hz v') hb.symm)
      rw [e1]
      simp only [hset, rH, hgl2]
      rfl
          
  rw [if_neg (of_decide_eq_false d1)] at hP
  have hbel := (hZ.bel (m : Int) (j : Int) hi hwho).1
  rw [← hR.bel] at hbel
  rw [← hR.ways] at hP
  have hnote := note_ok hZ hi hy
  rw [← hR.bel] at hnote
  have hbound := wayG_le ((m : Int), ys) (bare w.ways)
  have hbound2 := wayG_le ((m : Int), (w.bel m j).1) (bare w.ways)
  have hbound3 := wayG_le ((m : Int), (w.bel m j).1) (pushL ((m : Int), ys) (noteE ⟨0, j, ys, yq, yn, yo, yt⟩ (w.bel m j)) (bare w.ways))
  have hwz := hZ.ways
  rw [← hR.ways] at hwz
  have hps : sumW (pushL ((m : Int), ys) (noteE ⟨0, j, ys, yq, yn, yo, yt⟩ (w.bel m j)) (bare w.ways)) = sumW (bare w.ways) + 1 := (push_ok (k := ((m : Int), ys)) hwz hi hsrc hnote).2
  have hyn := hZ.waysn
  rw [← hR.ways] at hyn
  have hrel : ∀ (W : Rs) (Z1 : Zt) (k : Int × Int) (e : El) v', Rel x W Z1 → Rel x ⟨W.at_, W.bel, W.nxt, W.ear, gput k (v', wayL k W.ways ++ [e]) W.ways, W.wait, W.got⟩ { Z1 with ways := pushL k e (bare W.ways) } := fun W Z1 k e v' h => ⟨h.at_, h.bel, by simp only [bare_put, wayL_eq, pushL], h.wait, h.got, h.nxt, h.ear, h.src⟩
  repeat (first | refine gG ?_ | refine zAl (fun _ => ?_) | refine zBx (fun _ => ?_) | refine zAp (fun _ => ?_))
  cases d2 : decide (ys = (m : Int))
  rotate_left
  · have hs : ys = (m : Int) := of_decide_eq_true d2
    rw [if_pos hs] at hP
    repeat (first | refine gG ?_ | refine zAl (fun _ => ?_) | refine zBx (fun _ => ?_) | refine zAp (fun _ => ?_))
    refine lo_frame _ _ (rall_way x w) (fun F' => ?_)
    refine zCallAll (put_ag x w m (w.bel m j).1 ⟨0, j, ys, yq, yn, yo, yt⟩ (by rw [wayL_eq]; omega)) (List.Perm.refl _) ?_
    rintro _ _ ⟨v1, rfl⟩
    refine ⟨_, re_refl, ?_⟩
    have hz := hrel w Z0 ((m : Int), (w.bel m j).1) ⟨0, j, ys, yq, yn, yo, yt⟩ v1 hR
    rw [← hP] at hz
    have hb := (rall_way x ⟨w.at_, w.bel, w.nxt, w.ear, gput ((m : Int), (w.bel m j).1) (v1, wayL ((m : Int), (w.bel m j).1) w.ways ++ [⟨0, j, ys, yq, yn, yo, yt⟩]) w.ways, w.wait, w.got⟩).symm
    repeat (first | refine gG ?_ | refine zAl (fun _ => ?_) | refine zBx (fun _ => ?_) | refine zAp (fun _ => ?_))
    exact zGS (take_rB hz hb) ⟨_, hz, hb⟩
  · have hs : ys ≠ (m : Int) := of_decide_eq_false d2
    rw [if_neg hs] at hP
    repeat (first | refine gG ?_ | refine zAl (fun _ => ?_) | refine zBx (fun _ => ?_) | refine zAp (fun _ => ?_))
    refine lo_frame _ _ (rall_way x w) (fun F' => ?_)
    refine zCallAll (put_ag x w m ys (noteE ⟨0, j, ys, yq, yn, yo, yt⟩ (w.bel m j)) (by rw [wayL_eq]; omega)) (List.Perm.refl _) ?_
    rintro _ _ ⟨v1, rfl⟩
    refine ⟨_, re_refl, ?_⟩
    have hz1 := hrel w Z0 ((m : Int), ys) (noteE ⟨0, j, ys, yq, yn, yo, yt⟩ (w.bel m j)) v1 hR
    refine al_wk (wk_perm (rall_way x ⟨w.at_, w.bel, w.nxt, w.ear, gput ((m : Int), ys) (v1, wayL ((m : Int), ys) w.ways ++ [noteE ⟨0, j, ys, yq, yn, yo, yt⟩ (w.bel m j)]) w.ways, w.wait, w.got⟩).symm) ?_
    generalize Rs.mk w.at_ w.bel w.nxt w.ear (gput ((m : Int), ys) (v1, wayL ((m : Int), ys) w.ways ++ [noteE ⟨0, j, ys, yq, yn, yo, yt⟩ (w.bel m j)]) w.ways) w.wait w.got = W at hz1 ⊢
    have hWw : bare W.ways = pushL ((m : Int), ys) (noteE ⟨0, j, ys, yq, yn, yo, yt⟩ (w.bel m j)) (bare w.ways) := hz1.ways
    repeat (first | refine gG ?_ | refine zAl (fun _ => ?_) | refine zBx (fun _ => ?_) | refine zAp (fun _ => ?_))
    refine lo_frame _ _ (rall_way x W) (fun F' => ?_)
    refine zCallAll (put_ag x W m (w.bel m j).1 ⟨0, j, ys, yq, yn, yo, yt⟩ (by rw [wayL_eq, hWw]; omega)) (List.Perm.refl _) ?_
    rintro _ _ ⟨v2, rfl⟩
    refine ⟨_, re_refl, ?_⟩
    have hz := hrel W _ ((m : Int), (w.bel m j).1) ⟨0, j, ys, yq, yn, yo, yt⟩ v2 hz1
    rw [hWw] at hz
    replace hz : Rel x ⟨W.at_, W.bel, W.nxt, W.ear, gput ((m : Int), (w.bel m j).1) (v2, wayL ((m : Int), (w.bel m j).1) W.ways ++ [⟨0, j, ys, yq, yn, yo, yt⟩]) W.ways, W.wait, W.got⟩ Z := by rw [hP]; exact hz
    have hb := (rall_way x ⟨W.at_, W.bel, W.nxt, W.ear, gput ((m : Int), (w.bel m j).1) (v2, wayL ((m : Int), (w.bel m j).1) W.ways ++ [⟨0, j, ys, yq, yn, yo, yt⟩]) W.ways, W.wait, W.got⟩).symm
    repeat (first | refine gG ?_ | refine zAl (fun _ => ?_) | refine zBx (fun _ => ?_) | refine zAp (fun _ => ?_))
    exact zGS (take_rB hz hb) ⟨_, hz, hb⟩
end Go.Proofs.Ytdogdjcjmhogmaa
namespace Go.Proofs.Ytdogdjcjmhogmaa
open Go.RowKit
theorem in_af (nd i : Int) : AF Try.prog 56 [iL i, .pin [iL nd] 0] (· = .lit (.bool (decide (isN nd i)))) := by
  have hd : decide (isN nd i) = (decide (i ≥ 1) && decide (i ≤ nd)) := by
    rw [Bool.eq_iff_iff, decide_eq_true_iff]; unfold isN; simp
  rw [hd]
  cases d0 : decide (i ≥ 1) <;>
  · refine af_enter tok Try.func56 Try.ntmps56 Try.results56 rfl (by kernel_rfl) rfl rfl fun F hX => ?_
    repeat (first | refine gG ?_)
    first | refine zR ?_ | refine zQ ?_
    rfl
@[reducible] def lbB (x : Gx) (bl : Nat) : Blk := .box bl 148 [.fn (.func 54) (capL x)]
@[reducible] def rT (x : Gx) (w : Rs) : List Blk := w.ways.map rwayR ++ (w.wait.map thR ++ (w.got.map goR ++ ((List.range x.nA).map (nxR x w.nxt) ++ ((List.range x.nA).map (eaR x w.ear) ++ (List.range (x.nd + 1)).map (suR x w.bel)))))
/-- all blocks, with the variable that holds letter -/
@[reducible] def rA (x : Gx) (bl : Nat) (w : Rs) : List Blk := rH x w ++ (lbB x bl :: rT x w)
theorem perm_la {H T : List Blk} {a : Blk} : (H ++ (a :: T)).Perm ((H ++ T) ++ [a]) := by
  simpa using perm_parts [H, [a], T] [0, 2, 1] (show List.Perm _ (List.range 3) by decide)
theorem rA_rB (x : Gx) (bl : Nat) (w : Rs) : (rA x bl w).Perm (rB x w ++ [lbB x bl]) := perm_la
def GaveA (x : Gx) (bl : Nat) (Z : Zt) (hs : List Blk) : Prop := ∃ w', Rel x w' Z ∧ hs.Perm (rA x bl w')
theorem take_rA {x : Gx} {bl : Nat} {w : Rs} {Z : Zt} {l : List Blk} (h : Rel x w Z) (hl : l.Perm (rA x bl w)) : l.take (1 + lenR x Z) = l := by
  refine List.take_of_length_le ?_
  rw [hl.length_eq, (rA_rB x bl w).length_eq, List.length_append, lenR_all, lenR, ← h.ways, ← h.wait, ← h.got]
  simp [bare]
  omega
theorem th_at7 {l : List El} {k : Nat} {y : El} (h : l[k]? = some y) : ((l.flatMap thTs).drop (k * 7)).take 7 = thTs y := flat_at thTs 7 (fun _ => rfl) h
theorem pullA {H A B R B' : List Blk} {a b : Blk} (hB : B.Perm (b :: B')) : (H ++ (a :: (A ++ (B ++ R)))).Perm (H ++ (a :: b :: (A ++ (B' ++ R)))) := by
  refine (List.Perm.append_left H (.cons a (List.Perm.append_left A (hB.append_right R)))).trans ?_
  have := perm_parts [H, [a], A, [b], B', R] [0, 1, 3, 2, 4, 5] (show List.Perm _ (List.range 6) by decide)
  simpa using this
set_option maxRecDepth 100000 in
set_option maxHeartbeats 8000000 in
theorem again_ag (x : Gx) (bl : Nat) (w : Rs) (Z0 : Zt) (hR : Rel x w Z0) (m : Nat) {t cw cy cs cg : Nat} (hZ : ZOk x.nA x.nd t cw cy cs cg Z0) (h1 : cw ≤ 10000) (h2 : cy ≤ 900000) (h3 : cs ≤ 900000) (h4 : cg ≤ 30000000000) (hi : isN x.nd m) :
    AG Try.prog 55 [.c (iL m), .ptr 5 x.bw 0, .ptr 15 bl 0] (rA x bl w) (fun _ hs => GaveA x bl ((Z0.wait.getD m []).foldl (fun Z y => procZ m y Z) { Z0 with wait := Z0.wait.set m [] }) hs) := by
  have hwl : Z0.wait.length = x.nd + 1 := hZ.wlen
  have hmw : m < w.wait.length := by
    rw [← hR.wait, List.length_map] at hwl
    have := (isN_lt hi).1
    omega
  obtain ⟨⟨v, l⟩, hq⟩ := nth hmw
  have hql : Z0.wait.getD m [] = l := by rw [← hR.wait, List.getD, List.getElem?_map, hq]; rfl
  have hln : l.length ≤ cw := by
    have h1 := getD_le_sumL (l := Z0.wait) (j := m)
    have h2 := hZ.waitn
    rw [hql] at h1
    omega
  have hlall : ∀ y ∈ l, ElOk x.nA x.nd t y ∧ y.kind = 0 := by
    have := hZ.wait _ (getD_mem (d := []) (show m < Z0.wait.length by rw [hwl]; exact (isN_lt hi).1))
    rw [hql] at this
    exact this
  have hZ3 : ZOk x.nA x.nd t cw cy cs cg { Z0 with wait := Z0.wait.set m [] } := by
    have hs := sumL_set (l := Z0.wait) (i := m) (v := []) (by rw [hwl]; exact (isN_lt hi).1)
    have hw := hZ.waitn
    refine ⟨hZ.alen, hZ.at_, hZ.glen, by rw [List.length_set]; exact hZ.wlen, hZ.bel, hZ.seqs, hZ.ways, fun l' hl' y hy => ?_, ?_, hZ.waysn, hZ.sto, hZ.got, hZ.nxt⟩
    · rcases mem_set_or hl' with hl' | rfl
      · exact hZ.wait l' hl' y hy
      · cases hy
    · simp only [List.length_nil] at hs
      dsimp only
      omega
  have hR3 : Rel x ⟨w.at_, w.bel, w.nxt, w.ear, w.ways, w.wait.set m (.slice none 0 0, []), w.got⟩ { Z0 with wait := Z0.wait.set m [] } := ⟨hR.at_, hR.bel, hR.ways, by rw [List.map_set, hR.wait], hR.got, hR.nxt, hR.ear, hR.src⟩
  have hset3 : (litL w.wait).set (m * 1) (.lit (.slice none 0 0)) = litL (w.wait.set m (.slice none 0 0, [])) := litL_set w.wait m (.slice none 0 0, [])
  rw [hql]
  generalize hZ3' : ({ Z0 with wait := Z0.wait.set m [] } : Zt) = Z3 at hZ3 hR3 ⊢
  refine ag_enter (1 + lenR x (l.foldl (fun Z y => procZ m y Z) Z3)) tok Try.func55 Try.ntmps55 Try.results55 rfl (by kernel_rfl) rfl fun F => ?_
  refine x_perm (pullA (H := rH x w) (A := w.ways.map rwayR) (fam_out (f := thR) hq)) ?_
  refine x_row 13 rfl (by show 0 < w.wait.length; omega) (fun hv6 => ?_)
  repeat (first | refine gG ?_ | refine zN1 (fun hlen => ?_) | refine zN2 (fun hlen => ?_) | refine zAl (fun _ => ?_))
  refine zIxo m hmw ?_
  repeat (first | refine gO ?_)
  refine lo_as 16 (zElo1 (litL_at hq) ⟨_, _, _, _, _, rfl, rfl, ?_⟩)
  repeat (first | refine gG ?_ | refine zN1 (fun hlen => ?_) | refine zN2 (fun hlen => ?_) | refine zAl (fun _ => ?_))
  refine zIxp m hv6 hmw ?_
  repeat (first | refine gO ?_)
  refine zSei (show m * 1 + 1 ≤ (litL w.wait).length by rw [litL_len]; omega) ?_
  repeat (first | refine gO ?_ | refine ac_seq ?_ | refine ac_block ?_)
  refine x_fzS 4 ?_
  refine x_eq (hp' := (rH x ⟨w.at_, w.bel, w.nxt, w.ear, w.ways, w.wait.set m (.slice none 0 0, []), w.got⟩ ++ [lbB x bl]) ++ (.dead :: (w.ways.map rwayR ++ ((w.wait.eraseIdx m).map thR ++ (w.got.map goR ++ ((List.range x.nA).map (nxR x w.nxt) ++ ((List.range x.nA).map (eaR x w.ear) ++ (List.range (x.nd + 1)).map (suR x w.bel)))))))) (by simp only [rH, List.length_set]; rw [← hset3]; rfl) ?_
  refine ac_wk (wk_dead_nil 145 7 (by omega)) ?_
  refine x_perm (hp' := rA x bl ⟨w.at_, w.bel, w.nxt, w.ear, w.ways, w.wait.set m (.slice none 0 0, []), w.got⟩) (pullA (H := rH x ⟨w.at_, w.bel, w.nxt, w.ear, w.ways, w.wait.set m (.slice none 0 0, []), w.got⟩) (a := lbB x bl) (A := w.ways.map rwayR) (fam_in (f := thR) hmw (.slice none 0 0, [])).symm).symm ?_
  repeat (first | refine gG ?_ | refine zN1 (fun hlen => ?_) | refine zN2 (fun hlen => ?_) | refine zAl (fun _ => ?_))
  refine x_loop [6, 16, 17, 18, 19, 20, 21, 22, 23, 24] (fun q : Nat × Rs => [(16, .c (iL (q.1 : Nat)))]) (fun q => rA x bl q.2) (fun q => q.1 ≤ l.length ∧ Rel x q.2 ((l.take q.1).foldl (fun Z y => procZ m y Z) Z3)) (fun q => l.length - q.1) (0, ⟨w.at_, w.bel, w.nxt, w.ear, w.ways, w.wait.set m (.slice none 0 0, []), w.got⟩) ⟨Nat.zero_le _, hR3⟩ ⟨rfl, trivial⟩ rfl ?_
  rintro ⟨k, u⟩ ⟨hk, hu⟩
  dsimp only at hk hu ⊢
  repeat (first | refine gG ?_ | refine zN1 (fun hlen => ?_) | refine zN2 (fun hlen => ?_) | refine zAl (fun _ => ?_))
  refine x_cond rfl (fun h => ?_) (fun h => ?_)
  · have hk' : k < l.length := by simpa using h
    obtain ⟨b, hb⟩ := nth hk'
    have hbl := hlall b (List.mem_of_getElem? hb)
    have hfo := fold_ok hi (l.take k) _ _ _ _ _ (fun y hy => hlall y (List.mem_of_mem_take hy)) hZ3
    rw [List.length_take, Nat.min_eq_left (by omega)] at hfo
    have hmul : k * (cs + k + 1) ≤ 10000 * 910001 := Nat.mul_le_mul (by omega) (by omega)
    repeat (first | refine gG ?_ | refine zN1 (fun hlen => ?_) | refine zN2 (fun hlen => ?_) | refine zAl (fun _ => ?_))
    refine zIx k hk' ?_
    repeat (first | refine gG ?_ | refine zN1 (fun hlen => ?_) | refine zN2 (fun hlen => ?_) | refine zAl (fun _ => ?_))
    refine zEl (th_at7 hb) rfl ?_
    repeat (first | refine gG ?_ | refine zN1 (fun hlen => ?_) | refine zN2 (fun hlen => ?_) | refine zAl (fun _ => ?_))
    refine zAlE (fun _ => ?_)
    repeat (first | refine gG ?_ | refine zN1 (fun hlen => ?_) | refine zN2 (fun hlen => ?_) | refine zAl (fun _ => ?_))
    refine zStE rfl ?_
    repeat (first | refine gO ?_ | refine ac_seq ?_ | refine ac_block ?_)
    refine x_frz0 6 (thTs b) ?_
    repeat (first | refine gG ?_ | refine zN1 (fun hlen => ?_) | refine zN2 (fun hlen => ?_) | refine zAl (fun _ => ?_))
    refine lo_frame (rB x u) [lbB x bl] (rA_rB x bl u) (fun F' => ?_)
    refine zCallAll (letter_ag x u _ hu m b hfo (by omega) (by omega) (by omega) (by omega) hi hbl.1 hbl.2) (List.Perm.refl _) ?_
    rintro _ _ ⟨w', hz, hq'⟩
    refine ⟨_, re_refl, ?_⟩
    refine al_wk (wk_perm ((hq'.append_right _).trans (rA_rB x bl w').symm)) ?_
    repeat (first | refine gG ?_ | refine zN1 (fun hlen => ?_) | refine zN2 (fun hlen => ?_) | refine zAl (fun _ => ?_))
    exact ⟨(k + 1, w'), ⟨hk', by rw [fold_snoc hb]; exact hz⟩, by dsimp only; omega, x_wk ⟨rfl, trivial⟩ rfl (by repeat (first | exact ag_refl | refine ag_upd rfl ?_ | refine ag_at rfl rfl ?_))⟩
  · have hk' : k = l.length := by have : ¬ k < l.length := by simpa using h
                                  omega
    subst hk'
    rw [List.take_length] at hu
    repeat (first | refine gG ?_ | refine zN1 (fun hlen => ?_) | refine zN2 (fun hlen => ?_) | refine zAl (fun _ => ?_))
    exact zGS (take_rA hu (List.Perm.refl _)) ⟨u, hu, List.Perm.refl _⟩
end Go.Proofs.Ytdogdjcjmhogmaa
namespace Go.Proofs.Ytdogdjcjmhogmaa
open Go.RowKit
theorem any_take {p : Int → Bool} {l : List Int} {k : Nat} {a : Int} (h : l[k]? = some a) : (l.take (k + 1)).any p = ((l.take k).any p || p a) := by
  obtain ⟨h1, rfl⟩ := List.getElem?_eq_some_iff.1 h
  rw [List.take_succ_eq_append_getElem h1, List.any_append]
  simp
set_option maxRecDepth 100000 in
set_option maxHeartbeats 4000000 in
theorem mov_err (nodes : Int) (l : List Int) (ds : List Dd) (he : runErr nodes l ds ≠ 0) : AF Try.prog 31 [iL nodes, intRow l, ddRow ds] (· = .tup [.agg [.lit (.slice none 0 0), .lit (.slice none 0 0), iL 0, iL 0], iL (runErr nodes l ds)]) := by
  unfold runErr at he ⊢
  cases d0 : decide (nodes < 1)
  rotate_left
  · rw [if_pos (.inl (of_decide_eq_true d0))]
    refine af_enter tok Try.func31 Try.ntmps31 Try.results31 rfl (by kernel_rfl) rfl rfl fun F hX => ?_
    repeat (first | refine gG ?_ | refine zN1 (fun hlen => ?_) | refine zN2 (fun hlen => ?_) | refine zAl (fun _ => ?_) | refine zBf ?_ | refine zAp (fun _ => ?_))
    first | refine zR ?_ | refine zQ ?_
    rfl
  have n0 := of_decide_eq_false d0
  cases d1 : decide (nodes > 8)
  rotate_left
  · rw [if_pos (.inr (of_decide_eq_true d1))]
    refine af_enter tok Try.func31 Try.ntmps31 Try.results31 rfl (by kernel_rfl) rfl rfl fun F hX => ?_
    repeat (first | refine gG ?_ | refine zN1 (fun hlen => ?_) | refine zN2 (fun hlen => ?_) | refine zAl (fun _ => ?_) | refine zBf ?_ | refine zAp (fun _ => ?_))
    first | refine zR ?_ | refine zQ ?_
    rfl
  have n1 := of_decide_eq_false d1
  rw [if_neg (by omega)] at he ⊢
  cases d2 : decide (((l.length : Nat) : Int) > 5)
  rotate_left
  · rw [if_pos (.inl (by have := of_decide_eq_true d2; omega))]
    refine af_enter tok Try.func31 Try.ntmps31 Try.results31 rfl (by kernel_rfl) rfl rfl fun F hX => ?_
    repeat (first | refine gG ?_ | refine zN1 (fun hlen => ?_) | refine zN2 (fun hlen => ?_) | refine zAl (fun _ => ?_) | refine zBf ?_ | refine zAp (fun _ => ?_))
    first | refine zR ?_ | refine zQ ?_
    rfl
  have n2 := of_decide_eq_false d2
  cases d3 : decide (((ds.length : Nat) : Int) > 400)
  rotate_left
  · rw [if_pos (.inr (by have := of_decide_eq_true d3; omega))]
    refine af_enter tok Try.func31 Try.ntmps31 Try.results31 rfl (by kernel_rfl) rfl rfl fun F hX => ?_
    repeat (first | refine gG ?_ | refine zN1 (fun hlen => ?_) | refine zN2 (fun hlen => ?_) | refine zAl (fun _ => ?_) | refine zBf ?_ | refine zAp (fun _ => ?_))
    first | refine zR ?_ | refine zQ ?_
    rfl
  have n3 := of_decide_eq_false d3
  rw [if_neg (by omega)] at he ⊢
  cases d4 : l.any (outN nodes)
  · rw [d4] at he; exact absurd rfl he
  rw [if_pos rfl]
  clear he
  refine af_enter tok Try.func31 Try.ntmps31 Try.results31 rfl (by kernel_rfl) rfl rfl fun F hX => ?_
  repeat (first | refine gG ?_ | refine zN1 (fun hlen => ?_) | refine zN2 (fun hlen => ?_) | refine zAl (fun _ => ?_) | refine zBf ?_ | refine zAp (fun _ => ?_))
  rename_i b6 _ _
  refine x_loop [7, 9, 59, 60, 61, 62, 63, 64, 65, 66, 67, 68, 69, 70, 71] (fun k : Nat => [(59, .c (iL (k : Nat)))]) (fun _ => [reB b6]) (fun k => k ≤ l.length ∧ (l.take k).any (outN nodes) = false) (fun k => l.length - k) 0 ⟨Nat.zero_le _, rfl⟩ ⟨rfl, trivial⟩ rfl ?_
  rintro k ⟨hk, hno⟩
  repeat (first | refine gG ?_ | refine zN1 (fun hlen => ?_) | refine zN2 (fun hlen => ?_) | refine zAl (fun _ => ?_) | refine zBx (fun _ => ?_) | refine zAp (fun _ => ?_))
  refine x_cond rfl (fun h => ?_) (fun h => ?_)
  · have hk' : k < l.length := by simpa using h
    obtain ⟨a, ha⟩ := nth hk'
    have hst := any_take (p := outN nodes) ha
    rw [hno, Bool.false_or] at hst
    clear h
    repeat (first | refine gG ?_ | refine zN1 (fun hlen => ?_) | refine zN2 (fun hlen => ?_) | refine zAl (fun _ => ?_) | refine zBx (fun _ => ?_) | refine zAp (fun _ => ?_))
    refine zIx k hk' ?_
    repeat (first | refine gG ?_ | refine zN1 (fun hlen => ?_) | refine zN2 (fun hlen => ?_) | refine zAl (fun _ => ?_) | refine zBx (fun _ => ?_) | refine zAp (fun _ => ?_))
    refine zEl1 (ints_at ha) ?_
    cases e1 : decide (a < 1)
    · cases e2 : decide (a > nodes)
      · have : outN nodes a = false := by unfold outN; rw [e1, e2]; rfl
        rw [this] at hst
        repeat (first | refine gG ?_ | refine zN1 (fun hlen => ?_) | refine zN2 (fun hlen => ?_) | refine zAl (fun _ => ?_) | refine zBx (fun _ => ?_) | refine zAp (fun _ => ?_))
        exact ⟨k + 1, ⟨hk', hst⟩, by omega, x_wkd 1 ⟨rfl, trivial⟩ rfl (by repeat (first | exact ag_refl | refine ag_upd rfl ?_ | refine ag_at rfl rfl ?_))⟩
      · repeat (first | refine gG ?_ | refine zN1 (fun hlen => ?_) | refine zN2 (fun hlen => ?_) | refine zAl (fun _ => ?_) | refine zBx (fun _ => ?_) | refine zAp (fun _ => ?_))
        first | refine zR ?_ | refine zQ ?_
        rfl
    · repeat (first | refine gG ?_ | refine zN1 (fun hlen => ?_) | refine zN2 (fun hlen => ?_) | refine zAl (fun _ => ?_) | refine zBx (fun _ => ?_) | refine zAp (fun _ => ?_))
      first | refine zR ?_ | refine zQ ?_
      rfl
  · have hk' : k = l.length := by have : ¬ k < l.length := by simpa using h
                                  omega
    subst hk'
    rw [List.take_length, d4] at hno
    cases hno
end Go.Proofs.Ytdogdjcjmhogmaa
namespace Go.Proofs.Ytdogdjcjmhogmaa
open Go.RowKit
theorem eqP {α : Type} [DecidableEq α] {P : Program} {t e : TypeId} {f : α → Value} (h : isSt2 P t = some e) (c : CellK P e f) (w : World) (a b : α × α) : (Op.equal t (pairV f a) (pairV f b)).run P w = .ok (decide (a = b)) w := by
  obtain ⟨fs, g1, g2, hu, hfs, hn1, hn2, ho1, ho2, ht1, ht2, hst⟩ : ∃ (fs : Array Field) (g1 g2 : Field), P.underlying t = some (.struct fs) ∧ fs.toList = [g1, g2] ∧ g1.name ≠ "_" ∧ g2.name ≠ "_" ∧ g1.offset = 0 ∧ g2.offset = 1 ∧ g1.type = e ∧ g2.type = e ∧ P.stoodInHeld t = false := by
    unfold isSt2 at h
    split at h
    · rename_i fs he
      split at h
      · rename_i g1 g2 hl
        split at h
        · rename_i hh
          injection h with h
          exact ⟨fs, g1, g2, he, hl, hh.1, hh.2.1, hh.2.2.1, hh.2.2.2.1, h, by rw [← hh.2.2.2.2.1, h], hh.2.2.2.2.2⟩
        · cases h
      · cases h
    · cases h
  obtain rfl : fs = #[g1, g2] := by cases fs; simp_all
  have h1 := fun x y : α => run_part_plain (P := P) w c.plain (xs := #[f x, f y]) (off := 0) (v := f x) rfl
  have h2 := fun x y : α => run_part_plain (P := P) w c.plain (xs := #[f x, f y]) (off := 1) (v := f y) rfl
  have hf : P.fieldsOf t = #[g1, g2] := by simp [Program.fieldsOf, hu]
  show (Op.equalIn (9999 + 1) t (.agg #[f a.1, f a.2]) (.agg #[f b.1, f b.2])).run P w = _
  rw [run_equalIn_struct w 9999 t _ _ (by rw [hf]; exact hu) hst, hf]
  show (Op.eqFields 9999 _ _ [g1, g2]).run P w = _
  simp only [Op.eqFields, hn1, hn2, ne_eq, not_false_eq_true, if_true, ho1, ho2, ht1, ht2, Sem.run_bind, h1, h2, Result.andThen_ok, c.eq 9998, Sem.run_pure]
  obtain ⟨a1, a2⟩ := a
  obtain ⟨b1, b2⟩ := b
  by_cases e1 : a1 = b1 <;> by_cases e2 : a2 = b2 <;> simp [e1, e2, h2, c.eq 9998]
section
variable {P : Program} {F : Frm} {d : Option Tmp} {ty : TypeId} {pos : String} {aft : Array Edge} {g : Option (Nat × Bool)} {ρ : Operand → AV} {hp : List Blk} {K : AV → List Blk → Prop} {α : Type} [DecidableEq α]
theorem zNeP {t t' e : TypeId} {x y : Operand} {f : α → Value} (h : isSt2 P t = some e) (c : CellK P e f) (hg : P.eqGuardType P.depth t = false) (a b : α × α) (hK : K (.c (.lit (.bool (!decide (a = b))))) hp)
    (hx : ∀ M u, RA M (ρ x) u → u = pairV f a := by intro M u h; first | exact kv_a h | exact kv_c h | exact kv_l h) (hy : ∀ M u, RA M (ρ y) u → u = pairV f b := by intro M u h; first | exact kv_a h | exact kv_c h | exact kv_l h) : LO P F ⟨d, .binOp .neq t x y t', ty, pos, aft, g⟩ ρ hp K := by
  refine LO.same (fun M ev w he hh => ?_) hK
  have h1 := hx M _ (he x (by first | (simp [Op.operands]; done) | simp [Op.operands, Call.operands]))
  have h2 := hy M _ (he y (by first | (simp [Op.operands]; done) | simp [Op.operands, Call.operands]))
  refine ⟨.bool (!decide (a = b)), ?_, by simp only [RA, RT]⟩
  have hgd : (eqGuard .neq t x y (pairV f a) (pairV f b)).run P w = .ok () w := by
    unfold eqGuard pairV
    simp [hg]
  have hb : (binOp .neq t (pairV f a) (pairV f b)).run P w = .ok (.bool (!decide (a = b))) w := by
    have := eqP h c w a b
    unfold pairV at this ⊢
    simp [binOp, this]
  simp [execOp, h1, h2, hgd, hb]
end
theorem take_eq {α : Type} {a b : List α} {k : Nat} {x y : α} (ha : a[k]? = some x) (hb : b[k]? = some y) (h : a.take k = b.take k) (he : x = y) : a.take (k + 1) = b.take (k + 1) := by
  obtain ⟨h1, rfl⟩ := List.getElem?_eq_some_iff.1 ha
  obtain ⟨h2, rfl⟩ := List.getElem?_eq_some_iff.1 hb
  rw [List.take_succ_eq_append_getElem h1, List.take_succ_eq_append_getElem h2, h, he]
set_option maxRecDepth 100000 in
set_option maxHeartbeats 2000000 in
theorem eqGot_af (a b : List (Int × Int)) : AF Try.prog 33 [gotT a, gotT b] (· = .lit (.bool (decide (a = b)))) := by
  cases d0 : decide (((a.length : Nat) : Int) = ((b.length : Nat) : Int))
  · have hne : decide (a = b) = false := decide_eq_false fun e => by
      have := of_decide_eq_false d0
      rw [e] at this
      exact this rfl
    rw [hne]
    refine af_enter tok Try.func33 Try.ntmps33 Try.results33 rfl (by kernel_rfl) rfl rfl fun F hX => ?_
    repeat (first | refine gG ?_ | refine zN1 (fun hlen => ?_) | refine zN2 (fun hlen => ?_))
    first | refine zR ?_ | refine zQ ?_
    rfl
  have hab : a.length = b.length := by have := of_decide_eq_true d0; omega
  refine af_enter tok Try.func33 Try.ntmps33 Try.results33 rfl (by kernel_rfl) rfl rfl fun F hX => ?_
  repeat (first | refine gG ?_ | refine zN1 (fun hlen => ?_) | refine zN2 (fun hlen => ?_))
  refine x_loop [4, 5, 13, 14, 15, 16, 17, 18, 19, 20, 21, 22, 23, 24, 25] (fun k : Nat => [(13, .c (.lit (.int .i64 (k : Nat))))]) (fun _ => []) (fun k => k ≤ a.length ∧ a.take k = b.take k) (fun k => a.length - k) 0 ⟨Nat.zero_le _, by simp⟩ ⟨rfl, trivial⟩ rfl ?_
  rintro k ⟨hk, he⟩
  repeat (first | refine gG ?_ | refine zN1 (fun hlen => ?_) | refine zN2 (fun hlen => ?_))
  refine x_cond rfl (fun h => ?_) (fun h => ?_)
  · have hk' : k < a.length := by simpa using h
    have hkb : k < b.length := by omega
    obtain ⟨x, hx⟩ := nth hk'
    obtain ⟨y, hy⟩ := nth hkb
    have hst := take_eq hx hy he
    have hxa := go_at hx
    have hyb := go_at hy
    clear h
    cases d1 : decide (x = y)
    · have hne : decide (a = b) = false := decide_eq_false fun e => by
        subst e
        rw [hx] at hy
        exact of_decide_eq_false d1 (by injection hy)
      rw [hne]
      repeat (first | refine gG ?_ | refine zN1 (fun hlen => ?_) | refine zN2 (fun hlen => ?_))
      refine ac_draw [1, 1, 1, 1, 1, 1, 1, 1, 1] [0, 1, 2, 3, 4, 5, 6, 7, 8] (by kernel_rfl) (by kernel_rfl) ?_
      refine gW ?_
      apply w_q; (focus exact rfl); (focus exact rfl); focus (intro _; (refine zIx k hk' ?_); exact det_refl)
      apply w_q; (focus exact rfl); (focus exact rfl); focus (intro _; (refine zEl hxa rfl ?_); exact det_refl)
      refine gW ?_
      apply w_q; (focus exact rfl); (focus exact rfl); focus (intro _; (refine zIx k hkb ?_); exact det_refl)
      apply w_q; (focus exact rfl); (focus exact rfl); focus (intro _; (refine zEl hyb rfl ?_); exact det_refl)
      apply w_q; (focus exact rfl); (focus exact rfl); focus (intro _; (refine zNeP (e := 3) (by kernel_rfl) (cellI (by kernel_rfl)) (by kernel_rfl) x y ?_ (by intro M u h; exact kv_c h) (by intro M u h; exact kv_c h)); exact det_refl)
      refine w_nil ?_
      repeat (first | refine gG ?_ | refine zN1 (fun hlen => ?_) | refine zN2 (fun hlen => ?_))
      first | refine zR ?_ | refine zQ ?_
      rfl
    · replace hst := hst (of_decide_eq_true d1)
      repeat (first | refine gG ?_ | refine zN1 (fun hlen => ?_) | refine zN2 (fun hlen => ?_))
      refine ac_draw [1, 1, 1, 1, 1, 1, 1, 1, 1] [0, 1, 2, 3, 4, 5, 6, 7, 8] (by kernel_rfl) (by kernel_rfl) ?_
      refine gW ?_
      apply w_q; (focus exact rfl); (focus exact rfl); focus (intro _; (refine zIx k hk' ?_); exact det_refl)
      apply w_q; (focus exact rfl); (focus exact rfl); focus (intro _; (refine zEl hxa rfl ?_); exact det_refl)
      refine gW ?_
      apply w_q; (focus exact rfl); (focus exact rfl); focus (intro _; (refine zIx k hkb ?_); exact det_refl)
      apply w_q; (focus exact rfl); (focus exact rfl); focus (intro _; (refine zEl hyb rfl ?_); exact det_refl)
      apply w_q; (focus exact rfl); (focus exact rfl); focus (intro _; (refine zNeP (e := 3) (by kernel_rfl) (cellI (by kernel_rfl)) (by kernel_rfl) x y ?_ (by intro M u h; exact kv_c h) (by intro M u h; exact kv_c h)); exact det_refl)
      refine w_nil ?_
      repeat (first | refine gG ?_ | refine zN1 (fun hlen => ?_) | refine zN2 (fun hlen => ?_))
      exact ⟨k + 1, ⟨hk', hst⟩, by omega, x_wkd 0 ⟨rfl, trivial⟩ rfl (by repeat (first | exact ag_refl | refine ag_upd rfl ?_ | refine ag_at rfl rfl ?_))⟩
  · have hk' : k = a.length := by have : ¬ k < a.length := by simpa using h
                                  omega
    subst hk'
    rw [List.take_length, hab, List.take_length] at he
    repeat (first | refine gG ?_ | refine zN1 (fun hlen => ?_) | refine zN2 (fun hlen => ?_))
    first | refine zR ?_ | refine zQ ?_
    rw [decide_eq_true he]; rfl
def gotsT (A : List (List (Int × Int))) : T := .row A.length 1 (A.map gotT)
theorem gots_at {A : List (List (Int × Int))} {k : Nat} {l : List (Int × Int)} (h : A[k]? = some l) : (A.map gotT)[k * 1]? = some (gotT l) := by rw [Nat.mul_one, List.getElem?_map, h]; rfl
set_option maxRecDepth 100000 in
set_option maxHeartbeats 2000000 in
theorem eqGots_af (a b : List (List (Int × Int))) : AF Try.prog 32 [gotsT a, gotsT b, .fn (.func 33) []] (· = .lit (.bool (decide (a = b)))) := by
  cases d0 : decide (((a.length : Nat) : Int) = ((b.length : Nat) : Int))
  · have hne : decide (a = b) = false := decide_eq_false fun e => by
      have := of_decide_eq_false d0
      rw [e] at this
      exact this rfl
    rw [hne]
    refine af_enter tok Try.func32 Try.ntmps32 Try.results32 rfl (by kernel_rfl) rfl rfl fun F hX => ?_
    repeat (first | refine gG ?_ | refine zN1 (fun hlen => ?_) | refine zN2 (fun hlen => ?_))
    first | refine zR ?_ | refine zQ ?_
    rfl
  have hab : a.length = b.length := by have := of_decide_eq_true d0; omega
  refine af_enter tok Try.func32 Try.ntmps32 Try.results32 rfl (by kernel_rfl) rfl rfl fun F hX => ?_
  repeat (first | refine gG ?_ | refine zN1 (fun hlen => ?_) | refine zN2 (fun hlen => ?_))
  refine x_loop [6, 7, 8, 9, 17, 18, 19, 20, 21, 22, 23, 24, 25, 26, 27, 28, 29, 30, 31] (fun k : Nat => [(17, .c (.lit (.int .i64 (k : Nat))))]) (fun _ => []) (fun k => k ≤ a.length ∧ a.take k = b.take k) (fun k => a.length - k) 0 ⟨Nat.zero_le _, by simp⟩ ⟨rfl, trivial⟩ rfl ?_
  rintro k ⟨hk, he⟩
  repeat (first | refine gG ?_ | refine zN1 (fun hlen => ?_) | refine zN2 (fun hlen => ?_))
  refine x_cond rfl (fun h => ?_) (fun h => ?_)
  · have hk' : k < a.length := by simpa using h
    have hkb : k < b.length := by omega
    obtain ⟨x, hx⟩ := nth hk'
    obtain ⟨y, hy⟩ := nth hkb
    have hst := take_eq hx hy he
    have hxa := gots_at hx
    have hyb := gots_at hy
    have hc := eqGot_af x y
    clear h
    repeat (first | refine gG ?_ | refine zN1 (fun hlen => ?_) | refine zN2 (fun hlen => ?_))
    refine zIx k hk' ?_
    repeat (first | refine gG ?_ | refine zN1 (fun hlen => ?_) | refine zN2 (fun hlen => ?_))
    refine zEl1 hxa ?_
    repeat (first | refine gG ?_ | refine zN1 (fun hlen => ?_) | refine zN2 (fun hlen => ?_))
    refine zIx k hkb ?_
    repeat (first | refine gG ?_ | refine zN1 (fun hlen => ?_) | refine zN2 (fun hlen => ?_))
    refine zEl1 hyb ?_
    repeat (first | refine gG ?_ | refine zN1 (fun hlen => ?_) | refine zN2 (fun hlen => ?_))
    refine zCallc (hc) ?_
    rintro _ rfl
    cases d1 : decide (x = y)
    · have hne : decide (a = b) = false := decide_eq_false fun e => by
        subst e
        rw [hx] at hy
        exact of_decide_eq_false d1 (by injection hy)
      rw [hne]
      repeat (first | refine gG ?_ | refine zN1 (fun hlen => ?_) | refine zN2 (fun hlen => ?_))
      first | refine zR ?_ | refine zQ ?_
      rfl
    · replace hst := hst (of_decide_eq_true d1)
      repeat (first | refine gG ?_ | refine zN1 (fun hlen => ?_) | refine zN2 (fun hlen => ?_))
      exact ⟨k + 1, ⟨hk', hst⟩, by omega, x_wkd 0 ⟨rfl, trivial⟩ rfl (by repeat (first | exact ag_refl | refine ag_upd rfl ?_ | refine ag_at rfl rfl ?_))⟩
  · have hk' : k = a.length := by have : ¬ k < a.length := by simpa using h
                                  omega
    subst hk'
    rw [List.take_length, hab, List.take_length] at he
    repeat (first | refine gG ?_ | refine zN1 (fun hlen => ?_) | refine zN2 (fun hlen => ?_))
    first | refine zR ?_ | refine zQ ?_
    rw [decide_eq_true he]; rfl
end Go.Proofs.Ytdogdjcjmhogmaa
namespace Go.Proofs.Ytdogdjcjmhogmaa
open Go.RowKit
/-- what both give -/
def toldR (nodes : Int) (l : List Int) (ds : List Dd) : List (List (Int × Int)) × List Int × Nat × Nat × Int :=
  if runErr nodes l ds ≠ 0 then ([], [], 0, 0, runErr nodes l ds) else
  let Z := ds.foldl (fun Z d => doZ nodes d Z) (startZ nodes.toNat l)
  (Z.got, Z.at_, sumW Z.ways, sumL Z.wait + sumS l.length nodes.toNat Z.sto, 0)
theorem nil_gots : ∀ M u, RT M (.lit (.slice none 0 0)) u → RT M (gotsT []) u := fun M u h => rt_nil (by omega) h
theorem nil_ints : ∀ M u, RT M (.lit (.slice none 0 0)) u → RT M (intRow []) u := fun M u h => rt_nil (by omega) h
def toldV (r : List (List (Int × Int)) × List Int × Nat × Nat × Int) : T := .tup [.agg [gotsT r.1, intRow r.2.1, iL r.2.2.1, iL r.2.2.2.1], iL r.2.2.2.2]
theorem AF.out {P : Program} {f : FuncId} {l : List T} {t t' : T} (h : AF P f l (· = t)) (hr : ∀ M u, RT M t u → RT M t' u) : AF P f l (· = t') :=
  ⟨h.1, fun M w vs hg hm hv => (h.2 M w vs hg hm hv).mono fun e w' ⟨v, r, M', he, hR, hx, hmk, hrt, hb⟩ => ⟨v, t', M', he, rfl, hx, hmk, hr _ _ (by have e : r = t := hR; rw [← e]; exact hrt), hb⟩⟩
theorem err_out {e : Int} : ∀ M u, RT M (.tup [.agg [.lit (.slice none 0 0), .lit (.slice none 0 0), iL 0, iL 0], iL e]) u → RT M (toldV ([], [], 0, 0, e)) u := by
  intro M u h
  unfold toldV
  simp only [RT, RTs] at h ⊢
  obtain ⟨xs, rfl, _, _, rfl, ⟨ys, rfl, a, _, rfl, ha, b, _, rfl, hb, _, _, rfl, hc, _, _, rfl, hd, rfl⟩, _, _, rfl, he, rfl⟩ := h
  refine ⟨_, rfl, _, _, rfl, ⟨_, rfl, _, _, rfl, ?_, _, _, rfl, ?_, _, _, rfl, hc, _, _, rfl, hd, rfl⟩, _, _, rfl, he, rfl⟩
  · exact nil_gots M a (by simp only [RT]; exact ha)
  · exact nil_ints M b (by simp only [RT]; exact hb)
theorem run_res (nodes : Int) (l : List Int) (ds : List Dd) : AF Try.prog 30 [iL nodes, intRow l, ddRow ds] (· = toldV (toldR nodes l ds)) := by
  unfold toldR
  by_cases he : runErr nodes l ds ≠ 0
  · rw [if_pos he]
    exact (run_err nodes l ds he).out err_out
  · rw [if_neg he]
    unfold runErr at he
    have c1 : ¬ (nodes < 1 ∨ 8 < nodes) := fun h => he (by rw [if_pos h]; decide)
    rw [if_neg c1] at he
    have c2 : ¬ (5 < l.length ∨ 400 < ds.length) := fun h => he (by rw [if_pos h]; decide)
    rw [if_neg c2] at he
    have c3 : l.any (outN nodes) = false := by
      cases h : l.any (outN nodes) with
      | false => rfl
      | true => exact absurd (by rw [h, if_pos rfl]; decide) he
    obtain ⟨nd, rfl⟩ : ∃ nd : Nat, nodes = (nd : Int) := ⟨nodes.toNat, by omega⟩
    exact run_ok nd l ds (by omega) (by omega) (by omega) (by omega) c3
theorem told_one : toldR 1 [1] [⟨1, 1, 0, 0, 5⟩] = ([[(1, 5)]], [1], 0, 0, 0) := by rfl
set_option maxRecDepth 100000 in
set_option maxHeartbeats 4000000 in
theorem moveRuns_of (hM : ∀ nodes l ds, AF Try.prog 31 [iL nodes, intRow l, ddRow ds] (· = toldV (toldR nodes l ds))) (nodes : Int) (l : List Int) (ds : List Dd) : AF Try.prog 5 [iL nodes, intRow l, ddRow ds] (· = .lit (.bool true)) := by
  have hr := run_res nodes l ds
  have hm := hM nodes l ds
  have ho := run_res 1 [1] [⟨1, 1, 0, 0, 5⟩]
  rw [told_one] at ho
  generalize toldR nodes l ds = r at hr hm
  obtain ⟨g, a, wy, wt, e⟩ := r
  have he := eqInt_af a a
  rw [decide_eq_true rfl] at he
  have hg := eqGots_af g g
  rw [decide_eq_true rfl] at hg
  have d1 : decide (e = e) = true := decide_eq_true rfl
  have d2 : decide ((wy : Int) = wy) = true := decide_eq_true rfl
  have d3 : decide ((wt : Int) = wt) = true := decide_eq_true rfl
  unfold toldV at hr hm ho
  refine af_enter tok Try.func5 Try.ntmps5 Try.results5 rfl (by kernel_rfl) rfl rfl fun F hX => ?_
  repeat (first | refine gG ?_ | refine zN1 (fun hlen => ?_) | refine zN2 (fun hlen => ?_) | refine zAl (fun _ => ?_))
  refine zCall (hr) ?_
  rintro _ rfl
  repeat (first | refine gG ?_ | refine zN1 (fun hlen => ?_) | refine zN2 (fun hlen => ?_) | refine zAl (fun _ => ?_))
  refine zCall (hm) ?_
  rintro _ rfl
  repeat (first | refine gG ?_ | refine zN1 (fun hlen => ?_) | refine zN2 (fun hlen => ?_) | refine zAl (fun _ => ?_))
  refine zCall (ho) ?_
  rintro _ rfl
  repeat (first | refine gG ?_ | refine zN1 (fun hlen => ?_) | refine zN2 (fun hlen => ?_) | refine zAl (fun _ => ?_))
  refine zIx 0 (Nat.succ_pos _) ?_
  repeat (first | refine gG ?_ | refine zN1 (fun hlen => ?_) | refine zN2 (fun hlen => ?_) | refine zAl (fun _ => ?_))
  refine zIx 0 (Nat.succ_pos _) ?_
  repeat (first | refine gG ?_ | refine zN1 (fun hlen => ?_) | refine zN2 (fun hlen => ?_) | refine zAl (fun _ => ?_))
  refine zIx 0 (Nat.succ_pos _) ?_
  repeat (first | refine gG ?_ | refine zN1 (fun hlen => ?_) | refine zN2 (fun hlen => ?_) | refine zAl (fun _ => ?_))
  refine zCall (he) ?_
  rintro _ rfl
  repeat (first | refine gG ?_ | refine zN1 (fun hlen => ?_) | refine zN2 (fun hlen => ?_) | refine zAl (fun _ => ?_))
  refine zCall (hg) ?_
  rintro _ rfl
  repeat (first | refine gG ?_ | refine zN1 (fun hlen => ?_) | refine zN2 (fun hlen => ?_) | refine zAl (fun _ => ?_))
  first | refine zR ?_ | refine zQ ?_
  rfl
end Go.Proofs.Ytdogdjcjmhogmaa
