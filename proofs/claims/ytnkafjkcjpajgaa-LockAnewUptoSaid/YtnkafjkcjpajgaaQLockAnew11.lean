/-
  Texts of this proof, part 11: Vmc Vmd Vme Ab46 Vmf.
-/
import Derived.Test.YtnkafjkcjpajgaaQLockAnew10
import Derived.Lib.MinMax
namespace Go.Proofs.Ytnkafjkcjpajgaa
open Go.RowKit
set_option maxRecDepth 100000 in
set_option maxHeartbeats 2000000 in
theorem idxUs_ag (l : List Md) (fs : List Pk) (bs bm b1 : Nat) (P : PM) (W : List Us) (f : FuncId) (p : Us → Bool) (xs : List Us) (hf : ∀ u ∈ xs, AG Try.prog f [.c (.agg (Us.ts u)), .ptr 2 b1 0] (SB3 l fs bs bm b1 P W) (fun r hs => r = .c (.lit (.bool (p u))) ∧ hs = SB3 l fs bs bm b1 P W)) :
    AG Try.prog 148 [.c (Us.row xs), .fn (.func f) [.ptr 2 b1 0]] (SB3 l fs bs bm b1 P W) (fun r hs => r = .c (.lit (.int .i64 (idxI p xs))) ∧ hs = SB3 l fs bs bm b1 P W) := by
  refine ag_enter 3 tok Try.func148 Try.ntmps148 Try.results148 rfl (by kernel_rfl) rfl fun F => ?_
  repeat (first | refine gG ?_ | refine zN1 (fun hlen => ?_) | refine zN2 (fun hlen => ?_))
  refine x_loop [4, 5, 8, 9, 10, 11, 12, 13, 14, 15, 16, 17, 18] (fun k : Nat => [(8, .c (.lit (.int .i64 k)))]) (fun _ => SB3 l fs bs bm b1 P W) (fun k => k ≤ xs.length ∧ idxAt p xs k) (fun k => xs.length - k) 0 ⟨Nat.zero_le _, idxAt_zero p xs⟩ ⟨rfl, trivial⟩ rfl fun k hk => ?_
  repeat (first | refine gG ?_ | refine zN1 (fun hlen => ?_) | refine zN2 (fun hlen => ?_))
  refine x_cond rfl (fun h => ?_) (fun h => ?_)
  · have hk' : k < xs.length := by simpa using h
    obtain ⟨a, ha⟩ := nth hk'
    have hs := hf a (List.mem_of_getElem? ha)
    have hat := Us.at ha
    repeat (first | refine gG ?_ | refine zN1 (fun hlen => ?_) | refine zN2 (fun hlen => ?_))
    refine zIx (k) (hk') ?_
    repeat (first | refine gG ?_ | refine zN1 (fun hlen => ?_) | refine zN2 (fun hlen => ?_))
    refine zEl (hat) (Us.ts_len _) ?_
    repeat (first | refine gG ?_ | refine zN1 (fun hlen => ?_) | refine zN2 (fun hlen => ?_))
    refine zCallG [0, 1, 2] hs ?_
    rintro _ _ ⟨rfl, rfl⟩
    refine ⟨.c _, _, re_refl, rfl, rfl, ?_⟩
    cases hp : p a
    · repeat (first | refine gG ?_ | refine zN1 (fun hlen => ?_) | refine zN2 (fun hlen => ?_))
      exact ⟨k + 1, ⟨hk', idxAt_no hk.2 ha hp⟩, by omega, x_wkd 3 ⟨rfl, trivial⟩ rfl (by repeat (first | exact ag_refl | refine ag_upd rfl ?_ | refine ag_at rfl rfl ?_))⟩
    · repeat (first | refine gG ?_ | refine zN1 (fun hlen => ?_) | refine zN2 (fun hlen => ?_))
      refine zG ?_
      exact ⟨by rw [idxAt_yes hk.2 ha hp]; rfl, rfl⟩
  · have hk' : k = xs.length := by have : ¬ k < xs.length := by simpa using h
                                   omega
    subst hk'
    repeat (first | refine gG ?_ | refine zN1 (fun hlen => ?_) | refine zN2 (fun hlen => ?_))
    refine zG ?_
    exact ⟨by rw [idxAt_end hk.2]; rfl, rfl⟩
set_option maxRecDepth 100000 in
set_option maxHeartbeats 2000000 in
theorem hasUs_ag (l : List Md) (fs : List Pk) (bs bm b1 : Nat) (P : PM) (W : List Us) (f : FuncId) (p : Us → Bool) (xs : List Us) (hf : ∀ u ∈ xs, AG Try.prog f [.c (.agg (Us.ts u)), .ptr 2 b1 0] (SB3 l fs bs bm b1 P W) (fun r hs => r = .c (.lit (.bool (p u))) ∧ hs = SB3 l fs bs bm b1 P W)) :
    AG Try.prog 124 [.c (Us.row xs), .fn (.func f) [.ptr 2 b1 0]] (SB3 l fs bs bm b1 P W) (fun r hs => r = .c (.lit (.bool (xs.any p))) ∧ hs = SB3 l fs bs bm b1 P W) := by
  have hc := idxUs_ag l fs bs bm b1 P W f p xs hf
  refine ag_enter 3 tok Try.func124 Try.ntmps124 Try.results124 rfl (by kernel_rfl) rfl fun F => ?_
  repeat (first | refine gG ?_)
  refine zCallG [0, 1, 2] hc ?_
  rintro _ _ ⟨rfl, rfl⟩
  refine ⟨.c _, _, re_refl, rfl, rfl, ?_⟩
  repeat (first | refine gG ?_)
  refine zG ?_
  exact ⟨by rw [← idxI_any]; rfl, rfl⟩
theorem sat_any (P : PM) (W : List Us) : satP W P = !(W.any fun u => !okW P u) := by
  unfold satP
  rw [List.not_any_eq_all_not]
  congr 1
  funext u
  rw [Bool.not_not]
set_option maxRecDepth 100000 in
set_option maxHeartbeats 2000000 in
theorem satisfied_ag (l : List Md) (fs : List Pk) (bs bm : Nat) (P : PM) (W : List Us) : AG Try.prog 98 [.ptr 0 bs 0] (SB l fs bs bm P W) (fun r hs => r = .c (.lit (.bool (satP W P))) ∧ hs = SB l fs bs bm P W) := by
  have hc := fun b1 => hasUs_ag l fs bs bm b1 P W 125 (fun u => !okW P u) W (fun u _ => satisfied1_ag l fs bs bm b1 P W u)
  rw [sat_any]
  generalize (W.any fun u => !okW P u) = an at *
  refine ag_enter 2 tok Try.func98 Try.ntmps98 Try.results98 rfl (by kernel_rfl) rfl fun F => ?_
  repeat (first | refine gG ?_ | refine zBx (fun _ => ?_))
  refine zCallG [0, 1, 2] (hc _) ?_
  rintro _ _ ⟨rfl, rfl⟩
  refine ⟨.c _, _, re_refl, rfl, rfl, ?_⟩
  repeat (first | refine gG ?_ | refine zBx (fun _ => ?_))
  refine zG ?_
  exact ⟨rfl, rfl⟩
theorem openStep_at {P : PM} {u : Us} (h : gget u.name P = none) : openStep P none u = some u.name ∧ ∀ n, openStep P (some n) u = bif strLt u.name n then some u.name else some n := by
  unfold openStep
  rw [h]
  exact ⟨rfl, fun _ => rfl⟩
theorem openStep_in {P : PM} {u : Us} {m : Md} (h : gget u.name P = some m) (o : Option ByteArray) : openStep P o u = o := by
  unfold openStep
  rw [h]
  rfl
def onm (o : Option ByteArray) : ByteArray := o.getD ⟨#[]⟩
set_option maxRecDepth 100000 in
set_option maxHeartbeats 4000000 in
theorem open_ag (l : List Md) (fs : List Pk) (bs bm : Nat) (P : PM) (W : List Us) : AG Try.prog 95 [.ptr 0 bs 0] (SB l fs bs bm P W) (fun r hs => r = .tup [.c (.lit (.string (onm (openP P W)))), .c (.lit (.bool (openP P W).isSome))] ∧ hs = SB l fs bs bm P W) := by
  refine ag_enter 2 tok Try.func95 Try.ntmps95 Try.results95 rfl (by kernel_rfl) rfl fun F => ?_
  repeat (first | refine gG ?_ | refine zN1 (fun hlen => ?_) | refine zN2 (fun hlen => ?_) | refine zAl (fun _ => ?_))
  refine x_loop [4, 5, 7, 8, 9, 15, 16, 17, 18, 19, 20, 21, 22, 23, 24, 25, 26, 27, 28, 29, 30, 31, 32, 33, 34, 35, 36, 37, 38, 39, 40, 41, 42, 43] (fun k : Nat => [(15, .c (.lit (.int .i64 (k : Nat)))), (4, .c (.lit (.string (onm (openP P (W.take k)))))), (5, .c (.lit (.bool (openP P (W.take k)).isSome)))]) (fun _ => SB l fs bs bm P W) (fun k => k ≤ W.length) (fun k => W.length - k) 0 (Nat.zero_le _) ⟨rfl, rfl, rfl, trivial⟩ rfl ?_
  rintro k hk
  repeat (first | refine gG ?_ | refine zN1 (fun hlen => ?_) | refine zN2 (fun hlen => ?_) | refine zAl (fun _ => ?_))
  refine x_cond rfl (fun h => ?_) (fun h => ?_)
  · have hk' : k < W.length := by simpa using h
    obtain ⟨u, hu⟩ := nth hk'
    have hat := Us.at hu
    have hsn := openP_snoc (P := P) hu
    clear h hu
    generalize openP P (W.take k) = o at *
    generalize hO : openP P (W.take (k + 1)) = o' at *
    rcases hg : gget u.name P with _ | m
    · obtain ⟨hlk, hlc⟩ := look_none hg
      obtain ⟨un, ulo, uhi⟩ := u
      dsimp only at hlk hlc
      obtain ⟨hs1, hs2⟩ := openStep_at hg
      clear hg
      cases o with
      | none =>
        replace hsn : o' = some un := hsn.trans hs1
        clear hs1 hs2
        repeat (first | refine gG ?_ | refine zN1 (fun hlen => ?_) | refine zN2 (fun hlen => ?_) | refine zAl (fun _ => ?_))
        refine zIx (k) (hk') ?_
        repeat (first | refine gG ?_ | refine zN1 (fun hlen => ?_) | refine zN2 (fun hlen => ?_) | refine zAl (fun _ => ?_))
        refine zEl (hat) (Us.ts_len _) ?_
        repeat (first | refine gG ?_ | refine zN1 (fun hlen => ?_) | refine zN2 (fun hlen => ?_) | refine zAl (fun _ => ?_))
        refine ac_draw [1, 1, 1, 1, 1, 1, 1, 1, 0, 0, 3, 2, 1] [0, 1, 2, 3, 4, 5, 6, 7, 8, 9, 10, 11, 12] (by kernel_rfl) (by kernel_rfl) ?_
        refine gW ?_
        apply w_q; (focus exact rfl); (focus exact rfl); focus (intro _; (refine zLksa 9 113 (zs := Md.z) hlk hlc ?_); exact det_refl)
        refine gW ?_
        apply w_a; (focus exact rfl); (focus exact rfl); refine v_alloc tok rfl rfl rfl (fun _ => rfl) (fun _ => ⟨⟨_, rfl⟩, ?_⟩)
        apply w_l; (focus exact rfl); (focus exact rfl); (refine zS ?_)
        refine gW ?_
        refine w_nil ?_
        repeat (first | refine gG ?_ | refine zN1 (fun hlen => ?_) | refine zN2 (fun hlen => ?_) | refine zAl (fun _ => ?_))
        exact ⟨k + 1, hk', by omega, x_wkd 2 ⟨rfl, by rw [hO, hsn]; rfl, by rw [hO, hsn]; rfl, trivial⟩ rfl (by repeat (first | exact ag_refl | refine ag_upd rfl ?_ | refine ag_at rfl rfl ?_))⟩
      | some n =>
        replace hsn : o' = bif strLt un n then some un else some n := hsn.trans (hs2 n)
        clear hs1 hs2
        cases d1 : strLt un n
        · rw [d1] at hsn
          replace hsn : o' = some n := hsn
          repeat (first | refine gG ?_ | refine zN1 (fun hlen => ?_) | refine zN2 (fun hlen => ?_) | refine zAl (fun _ => ?_))
          refine zIx (k) (hk') ?_
          repeat (first | refine gG ?_ | refine zN1 (fun hlen => ?_) | refine zN2 (fun hlen => ?_) | refine zAl (fun _ => ?_))
          refine zEl (hat) (Us.ts_len _) ?_
          repeat (first | refine gG ?_ | refine zN1 (fun hlen => ?_) | refine zN2 (fun hlen => ?_) | refine zAl (fun _ => ?_))
          refine ac_draw [1, 1, 1, 1, 1, 1, 1, 1, 0, 0, 3, 2, 1] [0, 1, 2, 3, 4, 5, 6, 7, 8, 9, 10, 11, 12] (by kernel_rfl) (by kernel_rfl) ?_
          refine gW ?_
          apply w_q; (focus exact rfl); (focus exact rfl); focus (intro _; (refine zLksa 9 113 (zs := Md.z) hlk hlc ?_); exact det_refl)
          refine gW ?_
          apply w_a; (focus exact rfl); (focus exact rfl); refine v_alloc tok rfl rfl rfl (fun _ => rfl) (fun _ => ⟨⟨_, rfl⟩, ?_⟩)
          apply w_l; (focus exact rfl); (focus exact rfl); (refine zS ?_)
          refine gW ?_
          refine w_nil ?_
          repeat (first | refine gG ?_ | refine zN1 (fun hlen => ?_) | refine zN2 (fun hlen => ?_) | refine zAl (fun _ => ?_))
          exact ⟨k + 1, hk', by omega, x_wkd 2 ⟨rfl, by rw [hO, hsn]; rfl, by rw [hO, hsn]; rfl, trivial⟩ rfl (by repeat (first | exact ag_refl | refine ag_upd rfl ?_ | refine ag_at rfl rfl ?_))⟩
        · rw [d1] at hsn
          replace hsn : o' = some un := hsn
          repeat (first | refine gG ?_ | refine zN1 (fun hlen => ?_) | refine zN2 (fun hlen => ?_) | refine zAl (fun _ => ?_))
          refine zIx (k) (hk') ?_
          repeat (first | refine gG ?_ | refine zN1 (fun hlen => ?_) | refine zN2 (fun hlen => ?_) | refine zAl (fun _ => ?_))
          refine zEl (hat) (Us.ts_len _) ?_
          repeat (first | refine gG ?_ | refine zN1 (fun hlen => ?_) | refine zN2 (fun hlen => ?_) | refine zAl (fun _ => ?_))
          refine ac_draw [1, 1, 1, 1, 1, 1, 1, 1, 0, 0, 3, 2, 1] [0, 1, 2, 3, 4, 5, 6, 7, 8, 9, 10, 11, 12] (by kernel_rfl) (by kernel_rfl) ?_
          refine gW ?_
          apply w_q; (focus exact rfl); (focus exact rfl); focus (intro _; (refine zLksa 9 113 (zs := Md.z) hlk hlc ?_); exact det_refl)
          refine gW ?_
          apply w_a; (focus exact rfl); (focus exact rfl); refine v_alloc tok rfl rfl rfl (fun _ => rfl) (fun _ => ⟨⟨_, rfl⟩, ?_⟩)
          apply w_l; (focus exact rfl); (focus exact rfl); (refine zS ?_)
          refine gW ?_
          refine w_nil ?_
          repeat (first | refine gG ?_ | refine zN1 (fun hlen => ?_) | refine zN2 (fun hlen => ?_) | refine zAl (fun _ => ?_))
          exact ⟨k + 1, hk', by omega, x_wkd 2 ⟨rfl, by rw [hO, hsn]; rfl, by rw [hO, hsn]; rfl, trivial⟩ rfl (by repeat (first | exact ag_refl | refine ag_upd rfl ?_ | refine ag_at rfl rfl ?_))⟩
    · obtain ⟨a, v, us⟩ := m
      obtain ⟨hlk, hlc⟩ := look_some hg
      obtain ⟨un, ulo, uhi⟩ := u
      dsimp only at hlk hlc
      replace hsn : o' = o := hsn.trans (openStep_in hg o)
      clear hg
      repeat (first | refine gG ?_ | refine zN1 (fun hlen => ?_) | refine zN2 (fun hlen => ?_) | refine zAl (fun _ => ?_))
      refine zIx (k) (hk') ?_
      repeat (first | refine gG ?_ | refine zN1 (fun hlen => ?_) | refine zN2 (fun hlen => ?_) | refine zAl (fun _ => ?_))
      refine zEl (hat) (Us.ts_len _) ?_
      repeat (first | refine gG ?_ | refine zN1 (fun hlen => ?_) | refine zN2 (fun hlen => ?_) | refine zAl (fun _ => ?_))
      refine ac_draw [1, 1, 1, 1, 1, 1, 1, 1, 0, 0, 3, 2, 1] [0, 1, 2, 3, 4, 5, 6, 7, 8, 9, 10, 11, 12] (by kernel_rfl) (by kernel_rfl) ?_
      refine gW ?_
      apply w_q; (focus exact rfl); (focus exact rfl); focus (intro _; (refine zLksa 9 113 (zs := Md.z) hlk hlc ?_); exact det_refl)
      refine gW ?_
      apply w_a; (focus exact rfl); (focus exact rfl); refine v_alloc tok rfl rfl rfl (fun _ => rfl) (fun _ => ⟨⟨_, rfl⟩, ?_⟩)
      apply w_l; (focus exact rfl); (focus exact rfl); (refine zS ?_)
      refine gW ?_
      refine w_nil ?_
      repeat (first | refine gG ?_ | refine zN1 (fun hlen => ?_) | refine zN2 (fun hlen => ?_) | refine zAl (fun _ => ?_))
      exact ⟨k + 1, hk', by omega, x_wkd 2 ⟨rfl, by rw [hO, hsn]; rfl, by rw [hO, hsn]; rfl, trivial⟩ rfl (by repeat (first | exact ag_refl | refine ag_upd rfl ?_ | refine ag_at rfl rfl ?_))⟩
  · have hk' : k = W.length := by
      have : ¬ k < W.length := by simpa using h
      omega
    subst hk'
    rw [List.take_length]
    clear h
    repeat (first | refine gG ?_ | refine zN1 (fun hlen => ?_) | refine zN2 (fun hlen => ?_) | refine zAl (fun _ => ?_))
    refine zG ?_
    exact ⟨rfl, rfl⟩
def iv : Nat → Int
  | 0 => -1
  | k + 1 => (k : Nat)
theorem iv_len (n : Nat) : iv n = (n : Int) - 1 := by
  cases n with
  | zero => rfl
  | succ n => show (n : Int) = ((n + 1 : Nat) : Int) - 1; omega
theorem drop_rev {l : List Md} {k : Nat} {m : Md} (h : l[k]? = some m) : (l.drop k).reverse = (l.drop (k + 1)).reverse ++ [m] := by
  obtain ⟨h1, rfl⟩ := List.getElem?_eq_some_iff.1 h
  rw [List.drop_eq_getElem_cons h1, List.reverse_cons]
theorem pref_snoc (fs : List Pk) (n : ByteArray) (r : List Md) (m : Md) : prefL fs n (r ++ [m]) = prefL fs n r ++ (bif nameB n m && likedB fs m then [m] else []) := by
  unfold prefL
  rw [List.filter_append, List.filter_cons]
  cases nameB n m && likedB fs m <;> rfl
theorem other_snoc (fs : List Pk) (n : ByteArray) (r : List Md) (m : Md) : otherL fs n (r ++ [m]) = otherL fs n r ++ (bif nameB n m && !likedB fs m then [m] else []) := by
  unfold otherL
  rw [List.filter_append, List.filter_cons]
  cases nameB n m && !likedB fs m <;> rfl
theorem mds_snoc (X : List Md) (m : Md) : (X ++ [m]).length = X.length + 1 ∧ (X ++ [m]).flatMap Md.ts = X.flatMap Md.ts ++ m.ts := by
  constructor
  · simp
  · rw [List.flatMap_append]; simp
theorem liked_eq (fs : List Pk) (m : Md) : (fs.any fun q => Pk.same ⟨m.name, m.version⟩ q) = likedB fs m := by
  unfold likedB Pk.same
  congr 1
  funext q
  rw [show decide (m.name = q.name) = decide (q.name = m.name) from decide_eq_decide.2 eq_comm, show decide (m.version = q.version) = decide (q.version = m.version) from decide_eq_decide.2 eq_comm]
set_option maxRecDepth 100000 in
set_option maxHeartbeats 8000000 in
theorem candidates_ag (l : List Md) (hl : l.length ≤ 30) (fs : List Pk) (bs bm : Nat) (P : PM) (W : List Us) (n : ByteArray) : AG Try.prog 96 [.ptr 0 bs 0, .c (.lit (.string n))] (SB l fs bs bm P W) (fun r hs => ∃ v, r = .own 2 v ∧ hs = [.box bs 110 [.c (Md.row l), .c (Pk.row fs), .own 1 (.map (some bm)), .c (Us.row W)], .mp bm (mkeys Value.string (mapT Md.t P)), .row v 113 3 (cand l fs n).length ((cand l fs n).flatMap Md.ts)]) := by
  refine ag_enter 3 tok Try.func96 Try.ntmps96 Try.results96 rfl (by kernel_rfl) rfl fun F => ?_
  repeat (first | refine gG ?_ | refine zN1 (fun hlen => ?_) | refine zN2 (fun hlen => ?_) | refine zAl (fun _ => ?_) | refine zAp (fun _ => ?_))
  refine lo_sub rfl rfl (r := iv l.length) (by rw [iv_len, IntWalk.i64_in _ (by omega)]) ?_
  repeat (first | refine gG ?_ | refine zN1 (fun hlen => ?_) | refine zN2 (fun hlen => ?_) | refine zAl (fun _ => ?_) | refine zAp (fun _ => ?_))
  refine x_own 5 113 3 rfl rfl rfl rfl rfl ?_
  refine x_own 6 113 3 rfl rfl rfl rfl rfl ?_
  refine x_loop [5, 6, 7, 8, 15, 16, 17, 18, 19, 20, 21, 22, 23, 24, 25, 26, 27, 28, 29, 30, 31, 32, 33, 34, 35, 36, 37, 38, 39, 40, 41, 42, 43, 44, 45, 46, 47, 48, 49] (fun y : Nat × Value × Value => [(7, .c (.lit (.int .i64 (iv y.1)))), (5, .own 2 y.2.1), (6, .own 3 y.2.2)]) (fun y => [.box bs 110 [.c (Md.row l), .c (Pk.row fs), .own 1 (.map (some bm)), .c (Us.row W)], .mp bm (mkeys Value.string (mapT Md.t P)), .row y.2.1 113 3 (prefL fs n (l.drop y.1).reverse).length ((prefL fs n (l.drop y.1).reverse).flatMap Md.ts), .row y.2.2 113 3 (otherL fs n (l.drop y.1).reverse).length ((otherL fs n (l.drop y.1).reverse).flatMap Md.ts)])
    (fun y => y.1 ≤ l.length) (fun y => y.1) (l.length, .slice none 0 0, .slice none 0 0) (Nat.le_refl _) ⟨rfl, rfl, rfl, trivial⟩ (by rw [List.drop_length]; rfl) ?_
  rintro ⟨k, v5, v6⟩ hk
  dsimp only at hk ⊢
  cases k with
  | zero =>
    have d0 : decide ((0 : Int) ≤ -1) = false := rfl
    have hz : iv 0 = -1 := rfl
    rw [hz, List.drop_zero]
    have hc1 : (prefL fs n l.reverse).length ≤ 30 := by
      have := List.length_filter_le (fun m => nameB n m && likedB fs m) l.reverse
      rw [List.length_reverse] at this
      unfold prefL; omega
    have hc2 : (otherL fs n l.reverse).length ≤ 30 := by
      have := List.length_filter_le (fun m => nameB n m && !likedB fs m) l.reverse
      rw [List.length_reverse] at this
      unfold otherL; omega
    have hcd : cand l fs n = prefL fs n l.reverse ++ otherL fs n l.reverse := rfl
    rw [hcd]
    generalize prefL fs n l.reverse = A at *
    generalize otherL fs n l.reverse = B at *
    refine x_fz 6 rfl rfl rfl rfl ?_
    repeat (first | refine gG ?_ | refine zN1 (fun hlen => ?_) | refine zN2 (fun hlen => ?_) | refine zAl (fun _ => ?_) | refine zAp (fun _ => ?_))
    refine zG ?_
    exact ⟨_, rfl, by rw [List.length_append, List.flatMap_append]⟩
  | succ k =>
    have d0 : decide ((0 : Int) ≤ ((k : Nat) : Int)) = true := decide_eq_true (by omega)
    have hk' : k < l.length := by omega
    obtain ⟨m, hm⟩ := nth hk'
    have hat := Md.at hm
    have hdr := drop_rev hm
    have hle1 : (prefL fs n (l.drop (k + 1)).reverse).length ≤ 30 := by
      have := List.length_filter_le (fun m => nameB n m && likedB fs m) (l.drop (k + 1)).reverse
      rw [List.length_reverse, List.length_drop] at this
      unfold prefL; omega
    have hle2 : (otherL fs n (l.drop (k + 1)).reverse).length ≤ 30 := by
      have := List.length_filter_le (fun m => nameB n m && !likedB fs m) (l.drop (k + 1)).reverse
      rw [List.length_reverse, List.length_drop] at this
      unfold otherL; omega
    have hp := pref_snoc fs n (l.drop (k + 1)).reverse m
    have ho := other_snoc fs n (l.drop (k + 1)).reverse m
    rw [← hdr] at hp ho
    have hq := hasPk_af fs ⟨m.name, m.version⟩
    rw [liked_eq] at hq
    have hiv : iv (k + 1) = ((k : Nat) : Int) := rfl
    have hmd := mds_snoc
    rw [hiv]
    clear hdr hm
    generalize prefL fs n (l.drop (k + 1)).reverse = A at *
    generalize otherL fs n (l.drop (k + 1)).reverse = B at *
    generalize hA : prefL fs n (l.drop k).reverse = A' at *
    generalize hB : otherL fs n (l.drop k).reverse = B' at *
    have hnb : nameB n m = decide (m.name = n) := rfl
    generalize likedB fs m = lk at *
    rw [hnb] at hp ho
    clear hnb
    obtain ⟨nm, v, us⟩ := m
    dsimp only at hp ho hq
    have hsub : IntKind.i64.wrap (((k : Nat) : Int) - 1) = iv k := by rw [iv_len, IntWalk.i64_in _ (by omega)]
    cases d1 : decide (nm = n)
    · rw [d1, Bool.false_and, cond_false, List.append_nil] at hp ho
      repeat (first | refine gG ?_ | refine zN1 (fun hlen => ?_) | refine zN2 (fun hlen => ?_) | refine zAl (fun _ => ?_) | refine zAp (fun _ => ?_))
      refine zIx (k) (hk') ?_
      repeat (first | refine gG ?_ | refine zN1 (fun hlen => ?_) | refine zN2 (fun hlen => ?_) | refine zAl (fun _ => ?_) | refine zAp (fun _ => ?_))
      refine zEl (hat) (Md.ts_len _) ?_
      repeat (first | refine gG ?_ | refine zN1 (fun hlen => ?_) | refine zN2 (fun hlen => ?_) | refine zAl (fun _ => ?_) | refine zAp (fun _ => ?_))
      refine lo_sub rfl rfl (r := iv k) hsub ?_
      repeat (first | refine gG ?_ | refine zN1 (fun hlen => ?_) | refine zN2 (fun hlen => ?_) | refine zAl (fun _ => ?_) | refine zAp (fun _ => ?_))
      exact ⟨(k, v5, v6), by simp only; omega, by simp only; omega, x_wkd 4 ⟨rfl, rfl, rfl, trivial⟩ (by dsimp only; rw [hA, hB, hp, ho]; rfl) (by repeat (first | exact ag_refl | refine ag_upd rfl ?_ | refine ag_at rfl rfl ?_))⟩
    · cases lk
      · rw [d1, Bool.true_and, cond_false, List.append_nil] at hp
        replace ho : B' = B ++ [⟨nm, v, us⟩] := by rw [ho, d1]; rfl
        have hone := hmd B ⟨nm, v, us⟩
        rw [← ho] at hone
        repeat (first | refine gG ?_ | refine zN1 (fun hlen => ?_) | refine zN2 (fun hlen => ?_) | refine zAl (fun _ => ?_) | refine zAp (fun _ => ?_))
        refine zIx (k) (hk') ?_
        repeat (first | refine gG ?_ | refine zN1 (fun hlen => ?_) | refine zN2 (fun hlen => ?_) | refine zAl (fun _ => ?_) | refine zAp (fun _ => ?_))
        refine zEl (hat) (Md.ts_len _) ?_
        repeat (first | refine gG ?_ | refine zN1 (fun hlen => ?_) | refine zN2 (fun hlen => ?_) | refine zAl (fun _ => ?_) | refine zAp (fun _ => ?_))
        refine ac_draw [1, 1, 1, 1, 1, 1, 1, 1, 1, 1, 1] [0, 1, 2, 3, 4, 5, 6, 7, 8, 9, 10] (by kernel_rfl) (by kernel_rfl) ?_
        refine gW ?_
        apply w_q; (focus exact rfl); (focus exact rfl); focus (intro _; (refine zCall hq ?_; rintro _ rfl); exact det_refl)
        refine gW ?_
        refine w_nil ?_
        repeat (first | refine gG ?_ | refine zN1 (fun hlen => ?_) | refine zN2 (fun hlen => ?_) | refine zAl (fun _ => ?_) | refine zAp (fun _ => ?_))
        refine lo_sub rfl rfl (r := iv k) hsub ?_
        repeat (first | refine gG ?_ | refine zN1 (fun hlen => ?_) | refine zN2 (fun hlen => ?_) | refine zAl (fun _ => ?_) | refine zAp (fun _ => ?_))
        exact ⟨(k, v5, _), by simp only; omega, by simp only; omega, x_wkd 4 ⟨rfl, rfl, rfl, trivial⟩ (by dsimp only; rw [hA, hB, hp, hone.1, hone.2]; rfl) (by repeat (first | exact ag_refl | refine ag_upd rfl ?_ | refine ag_at rfl rfl ?_))⟩
      · rw [d1, Bool.true_and] at ho
        replace ho : B' = B := by rw [ho]; simp
        replace hp : A' = A ++ [⟨nm, v, us⟩] := by rw [hp, d1]; rfl
        have hone := hmd A ⟨nm, v, us⟩
        rw [← hp] at hone
        repeat (first | refine gG ?_ | refine zN1 (fun hlen => ?_) | refine zN2 (fun hlen => ?_) | refine zAl (fun _ => ?_) | refine zAp (fun _ => ?_))
        refine zIx (k) (hk') ?_
        repeat (first | refine gG ?_ | refine zN1 (fun hlen => ?_) | refine zN2 (fun hlen => ?_) | refine zAl (fun _ => ?_) | refine zAp (fun _ => ?_))
        refine zEl (hat) (Md.ts_len _) ?_
        repeat (first | refine gG ?_ | refine zN1 (fun hlen => ?_) | refine zN2 (fun hlen => ?_) | refine zAl (fun _ => ?_) | refine zAp (fun _ => ?_))
        refine ac_draw [1, 1, 1, 1, 1, 1, 1, 1, 1, 1, 1] [0, 1, 2, 3, 4, 5, 6, 7, 8, 9, 10] (by kernel_rfl) (by kernel_rfl) ?_
        refine gW ?_
        apply w_q; (focus exact rfl); (focus exact rfl); focus (intro _; (refine zCall hq ?_; rintro _ rfl); exact det_refl)
        refine gW ?_
        refine w_nil ?_
        repeat (first | refine gG ?_ | refine zN1 (fun hlen => ?_) | refine zN2 (fun hlen => ?_) | refine zAl (fun _ => ?_) | refine zAp (fun _ => ?_))
        refine lo_sub rfl rfl (r := iv k) hsub ?_
        repeat (first | refine gG ?_ | refine zN1 (fun hlen => ?_) | refine zN2 (fun hlen => ?_) | refine zAl (fun _ => ?_) | refine zAp (fun _ => ?_))
        exact ⟨(k, _, v6), by simp only; omega, by simp only; omega, x_wkd 4 ⟨rfl, rfl, rfl, trivial⟩ (by dsimp only; rw [hA, hB, ho, hone.1, hone.2]; rfl) (by repeat (first | exact ag_refl | refine ag_upd rfl ?_ | refine ag_at rfl rfl ?_))⟩
end Go.Proofs.Ytnkafjkcjpajgaa
namespace Go.Proofs.Ytnkafjkcjpajgaa
open Go.RowKit
theorem find_drop {α β : Type} {g : α → Option β} {l : List α} {k : Nat} {a : α} (h : l[k]? = some a) : (l.drop k).findSome? g = (g a).or ((l.drop (k + 1)).findSome? g) := by
  obtain ⟨h1, rfl⟩ := List.getElem?_eq_some_iff.1 h
  rw [List.drop_eq_getElem_cons h1, List.findSome?_cons]
  cases g l[k] <;> rfl
def CR (l : List Md) (fs : List Pk) (root : List Us) (bs bm : Nat) (P : PM) (o : Option PM) (r : AV) (hs : List Blk) : Prop := r = .c (.lit (.bool o.isSome)) ∧ hs = SB l fs bs bm (o.getD P) (wantsP root (o.getD P))
set_option maxRecDepth 100000 in
set_option maxHeartbeats 8000000 in
theorem complete_ag (l : List Md) (hl : Rg1 l) (fs : List Pk) (root : List Us) (hr : root.length ≤ 5) (bs bm : Nat) : ∀ (k : Nat) (P : PM), VP l P → l.length + 1 ≤ k + P.length → AG Try.prog 59 [.ptr 0 bs 0] (SB l fs bs bm P (wantsP root P)) (CR l fs root bs bm P (compl l fs root k P))
  | 0, P, hP, hk => by have := hP.len; omega
  | k + 1, P, hP, hk => by
    have ih := complete_ag l hl fs root hr bs bm k
    have hop := open_ag l fs bs bm P (wantsP root P)
    have hwl := wantsP_len hl hr hP
    have hll := hl.len
    rw [compl]
    cases ho : openP P (wantsP root P) with
    | none =>
      rw [ho] at hop
      simp only [onm, Option.getD_none, Option.isSome_none] at hop
      clear ih ho
      refine ag_enter 2 tok Try.func59 Try.ntmps59 Try.results59 rfl (by kernel_rfl) rfl fun F => ?_
      repeat (first | refine gG ?_ | refine zN1 (fun hlen => ?_) | refine zN2 (fun hlen => ?_) | refine zAl (fun _ => ?_))
      refine zCallG [0, 1] hop ?_
      rintro _ _ ⟨rfl, rfl⟩
      refine ⟨.tup [.c (.lit (.string ⟨#[]⟩)), .c (.lit (.bool false))], _, re_refl, rfl, rfl, ?_⟩
      repeat (first | refine gG ?_ | refine zN1 (fun hlen => ?_) | refine zN2 (fun hlen => ?_) | refine zAl (fun _ => ?_))
      refine zG ?_
      exact ⟨rfl, rfl⟩
    | some n =>
      rw [ho] at hop
      simp only [onm, Option.getD_some, Option.isSome_some] at hop
      have hnP := (openP_not ho).1
      have hca := candidates_ag l hl.len fs bs bm P (wantsP root P) n
      have hcl := cand_len l fs n
      have hcm := fun m (h : m ∈ cand l fs n) => cand_mem h
      clear ho
      dsimp only
      generalize hg : (fun m : Md => bif satP (wantsP root (P ++ [(n, m)])) (P ++ [(n, m)]) then compl l fs root k (P ++ [(n, m)]) else none) = g
      have hgm : ∀ m, g m = bif satP (wantsP root P ++ m.uses) (P ++ [(n, m)]) then compl l fs root k (P ++ [(n, m)]) else none := fun m => by rw [← hg, ← wants_new]
      clear hg
      generalize cand l fs n = C at *
      refine ag_enter 2 tok Try.func59 Try.ntmps59 Try.results59 rfl (by kernel_rfl) rfl fun F => ?_
      repeat (first | refine gG ?_ | refine zN1 (fun hlen => ?_) | refine zN2 (fun hlen => ?_) | refine zAl (fun _ => ?_))
      refine zCallG [0, 1] hop ?_
      rintro _ _ ⟨rfl, rfl⟩
      refine ⟨.tup [.c (.lit (.string n)), .c (.lit (.bool true))], _, re_refl, rfl, rfl, ?_⟩
      repeat (first | refine gG ?_ | refine zN1 (fun hlen => ?_) | refine zN2 (fun hlen => ?_) | refine zAl (fun _ => ?_))
      refine zCallG [0, 1] hca ?_
      rintro _ _ ⟨vc, rfl, rfl⟩
      refine ⟨.own 2 vc, _, re_own, rfl, rfl, ?_⟩
      clear hop hca
      repeat (first | refine gG ?_ | refine zN1 (fun hlen => ?_) | refine zN2 (fun hlen => ?_) | refine zAl (fun _ => ?_))
      refine x_fz 21 rfl rfl rfl rfl ?_
      refine x_loop [2, 7, 23, 24, 25, 26, 27, 28, 29, 30, 31, 32, 33, 34, 35, 36, 37, 38, 39, 40, 41, 42, 43, 44, 45, 46, 47, 48, 49, 50, 51, 52, 53, 54, 55, 56] (fun j : Nat => [(23, .c (.lit (.int .i64 (j : Nat))))]) (fun _ => [.box bs 110 [.c (Md.row l), .c (Pk.row fs), .own 1 (.map (some bm)), .c (Us.row (wantsP root P))], .mp bm (mkeys Value.string (mapT Md.t P)), .dead]) (fun j => j ≤ C.length ∧ (C.drop j).findSome? g = C.findSome? g) (fun j => C.length - j) 0 ⟨Nat.zero_le _, rfl⟩ ⟨rfl, trivial⟩ rfl ?_
      rintro j ⟨hj, hf⟩
      repeat (first | refine gG ?_ | refine zN1 (fun hlen => ?_) | refine zN2 (fun hlen => ?_) | refine zAl (fun _ => ?_))
      refine x_cond rfl (fun h => ?_) (fun h => ?_)
      · have hj' : j < C.length := by simpa using h
        obtain ⟨m, hm⟩ := nth hj'
        have hat := Md.at hm
        have hmm := hcm m (List.mem_of_getElem? hm)
        have hfd := find_drop (g := g) hm
        rw [hf, hgm m] at hfd
        have hul := (hl.mods m hmm.1).2.1
        have hP' := hP.add hnP hmm
        have ih' := ih (P ++ [(n, m)]) hP' (by rw [List.length_append]; simp only [List.length_cons, List.length_nil]; omega)
        rw [wants_new] at ih'
        have hsat := satisfied_ag l fs bs bm (P ++ [(n, m)]) (wantsP root P ++ m.uses)
        have hcat := catU2_af (wantsP root P) m.uses (by omega)
        have hup : mput n (Md.t m) (mapT Md.t P) = mapT Md.t (P ++ [(n, m)]) := by rw [mput_T, gput_new hnP]
        have hdl : mdel n (mapT Md.t (P ++ [(n, m)])) = mapT Md.t P := by rw [mdel_T, gdel_new hnP]
        have hcr : ∀ r hs, CR l fs root bs bm (P ++ [(n, m)]) (compl l fs root k (P ++ [(n, m)])) r hs → (compl l fs root k (P ++ [(n, m)]) = none ∧ r = .c (.lit (.bool false)) ∧ hs = SB l fs bs bm (P ++ [(n, m)]) (wantsP root P ++ m.uses)) ∨ ∃ R, compl l fs root k (P ++ [(n, m)]) = some R ∧ r = .c (.lit (.bool true)) ∧ hs = SB l fs bs bm R (wantsP root R) := fun r hs ⟨h1, h2⟩ => by
          cases hc : compl l fs root k (P ++ [(n, m)]) with
          | none =>
            rw [hc] at h1 h2
            exact .inl ⟨rfl, h1, by rw [h2, ← wants_new]; rfl⟩
          | some R =>
            rw [hc] at h1 h2
            exact .inr ⟨R, rfl, h1, h2⟩
        clear h hm hcm hgm hP hP' ih hf hmm hnP hl
        generalize CR l fs root bs bm (P ++ [(n, m)]) (compl l fs root k (P ++ [(n, m)])) = RR at *
        generalize hck : compl l fs root k (P ++ [(n, m)]) = ck at *
        obtain ⟨nm, v, us⟩ := m
        dsimp only at hfd ih' hsat hcat hup hdl hcr
        have hup' : mput n (.agg [.lit (.string nm), .lit (.int .i64 v), Us.row us]) (mapT Md.t P) = mapT Md.t (P ++ [(n, ⟨nm, v, us⟩)]) := hup
        clear hup hck
        generalize P ++ [(n, (⟨nm, v, us⟩ : Md))] = P' at *
        generalize wantsP root P ++ us = W' at *
        cases hsp : satP W' P'
        · rw [hsp] at hsat hfd
          replace hfd : C.findSome? g = (C.drop (j + 1)).findSome? g := hfd
          clear hcr ih'
          repeat (first | refine gG ?_ | refine zN1 (fun hlen => ?_) | refine zN2 (fun hlen => ?_) | refine zAl (fun _ => ?_))
          refine zIx (j) (hj') ?_
          repeat (first | refine gG ?_ | refine zN1 (fun hlen => ?_) | refine zN2 (fun hlen => ?_) | refine zAl (fun _ => ?_))
          refine zEl (hat) (Md.ts_len _) ?_
          repeat (first | refine gG ?_ | refine zN1 (fun hlen => ?_) | refine zN2 (fun hlen => ?_) | refine zAl (fun _ => ?_))
          refine ac_draw [1, 1, 1, 1, 1, 1, 2] [0, 1, 2, 3, 4, 5, 6] (by kernel_rfl) (by kernel_rfl) ?_
          refine gW ?_
          apply w_l; (focus exact rfl); (focus exact rfl); (refine zUpt 9 113 hup' ?_)
          refine w_nil ?_
          repeat (first | refine gG ?_ | refine zN1 (fun hlen => ?_) | refine zN2 (fun hlen => ?_) | refine zAl (fun _ => ?_))
          refine zCall (hcat) ?_
          rintro _ rfl
          repeat (first | refine gG ?_ | refine zN1 (fun hlen => ?_) | refine zN2 (fun hlen => ?_) | refine zAl (fun _ => ?_))
          refine zCallG [0, 1] hsat ?_
          rintro _ _ ⟨rfl, rfl⟩
          refine ⟨.c (.lit (.bool false)), _, re_refl, rfl, rfl, ?_⟩
          repeat (first | refine gG ?_ | refine zN1 (fun hlen => ?_) | refine zN2 (fun hlen => ?_) | refine zAl (fun _ => ?_))
          refine zDelt 9 113 hdl ?_
          repeat (first | refine gG ?_ | refine zN1 (fun hlen => ?_) | refine zN2 (fun hlen => ?_) | refine zAl (fun _ => ?_))
          exact ⟨j + 1, ⟨hj', hfd.symm⟩, by omega, x_wkd 3 ⟨rfl, trivial⟩ rfl (by repeat (first | exact ag_refl | refine ag_upd rfl ?_ | refine ag_at rfl rfl ?_))⟩
        · rw [hsp] at hsat hfd
          replace hfd : C.findSome? g = ck.or ((C.drop (j + 1)).findSome? g) := hfd
          repeat (first | refine gG ?_ | refine zN1 (fun hlen => ?_) | refine zN2 (fun hlen => ?_) | refine zAl (fun _ => ?_))
          refine zIx (j) (hj') ?_
          repeat (first | refine gG ?_ | refine zN1 (fun hlen => ?_) | refine zN2 (fun hlen => ?_) | refine zAl (fun _ => ?_))
          refine zEl (hat) (Md.ts_len _) ?_
          repeat (first | refine gG ?_ | refine zN1 (fun hlen => ?_) | refine zN2 (fun hlen => ?_) | refine zAl (fun _ => ?_))
          refine ac_draw [1, 1, 1, 1, 1, 1, 2] [0, 1, 2, 3, 4, 5, 6] (by kernel_rfl) (by kernel_rfl) ?_
          refine gW ?_
          apply w_l; (focus exact rfl); (focus exact rfl); (refine zUpt 9 113 hup' ?_)
          refine w_nil ?_
          repeat (first | refine gG ?_ | refine zN1 (fun hlen => ?_) | refine zN2 (fun hlen => ?_) | refine zAl (fun _ => ?_))
          refine zCall (hcat) ?_
          rintro _ rfl
          repeat (first | refine gG ?_ | refine zN1 (fun hlen => ?_) | refine zN2 (fun hlen => ?_) | refine zAl (fun _ => ?_))
          refine zCallG [0, 1] hsat ?_
          rintro _ _ ⟨rfl, rfl⟩
          refine ⟨.c (.lit (.bool true)), _, re_refl, rfl, rfl, ?_⟩
          repeat (first | refine gG ?_ | refine zN1 (fun hlen => ?_) | refine zN2 (fun hlen => ?_) | refine zAl (fun _ => ?_))
          refine zCallG [0, 1] ih' ?_
          intro r hs hrr
          rcases hcr r hs hrr with ⟨rfl, rfl, rfl⟩ | ⟨R, rfl, rfl, rfl⟩
          · refine ⟨.c (.lit (.bool false)), _, re_refl, rfl, rfl, ?_⟩
            clear hcr hrr
            repeat (first | refine gG ?_ | refine zN1 (fun hlen => ?_) | refine zN2 (fun hlen => ?_) | refine zAl (fun _ => ?_))
            refine zDelt 9 113 hdl ?_
            repeat (first | refine gG ?_ | refine zN1 (fun hlen => ?_) | refine zN2 (fun hlen => ?_) | refine zAl (fun _ => ?_))
            exact ⟨j + 1, ⟨hj', hfd.symm⟩, by omega, x_wkd 3 ⟨rfl, trivial⟩ rfl (by repeat (first | exact ag_refl | refine ag_upd rfl ?_ | refine ag_at rfl rfl ?_))⟩
          · refine ⟨.c (.lit (.bool true)), _, re_refl, rfl, rfl, ?_⟩
            clear hcr hrr
            repeat (first | refine gG ?_ | refine zN1 (fun hlen => ?_) | refine zN2 (fun hlen => ?_) | refine zAl (fun _ => ?_))
            refine zG ?_
            rw [hfd]
            exact ⟨rfl, rfl⟩
      · have hj' : j = C.length := by
          have : ¬ j < C.length := by simpa using h
          omega
        subst hj'
        rw [List.drop_length] at hf
        clear h
        repeat (first | refine gG ?_ | refine zN1 (fun hlen => ?_) | refine zN2 (fun hlen => ?_) | refine zAl (fun _ => ?_))
        refine zG ?_
        rw [← hf]
        exact ⟨rfl, rfl⟩
end Go.Proofs.Ytnkafjkcjpajgaa
namespace Go.Proofs.Ytnkafjkcjpajgaa
open Go.RowKit
theorem sortedModule_ag (l : List (ByteArray × T)) (hn : (l.map (·.1)).Nodup) (hsz : ∀ p ∈ l, p.1.size ≤ maxLen) (hlen : l.length ≤ 1048576) (bb b : Nat) (mt : TypeId) (q1 q2 : Nat) :
    AG Try.prog 53 [.fn (.func 99) [.ptr q1 bb 0]] [.box bb mt [.own q2 (.map (some b))], .mp b (mkeys Value.string l)]
      (fun r hs => ∃ v, r = .own 2 v ∧ hs = [.box bb mt [.own q2 (.map (some b))], .mp b (mkeys Value.string l), .row v 9 1 (sortB (l.map (·.1))).length ((sortB (l.map (·.1))).flatMap strTs)]) :=
  sortedK_ag (ρk := keysModule_ren) (ρs := sortedStr_ren) (ρm := sortStr_ren) { keysModule with } sortedStr sortStr rfl rfl Try.underlying9 enters_Sorted
    (enters_of Try.func89 (by kernel_rfl) rfl) (enters_of Try.func99 (by kernel_rfl) rfl) l hn hsz hlen bb b mt q1 q2
set_option maxRecDepth 100000 in
set_option maxHeartbeats 1000000 in
theorem keysModule_ag (b : Nat) (M : List (Value × T)) : AG Try.prog 60 [.own 0 (.map (some b))] [.mp b M] (fun r hs => ∃ bb, r = .fn (.func 99) [.ptr 1 bb 0] ∧ hs = [.mp b M, .box bb 108 [.own 0 (.map (some b))]]) := by
  refine ag_enter 2 tok Try.func60 Try.ntmps60 Try.results60 rfl (by kernel_rfl) rfl fun F => ?_
  repeat (first | refine gG ?_ | refine zBx (fun _ => ?_))
  refine zG ?_
  exact ⟨_, rfl, rfl⟩
theorem look_v (R : PM) (n : ByteArray) : ∃ a x, (mget n (mapT Md.t R)).getD (.agg Md.z) = .agg [.lit (.string a), .lit (.int .i64 (((gget n R).map Md.version).getD 0)), x] := by
  rw [mget_T]
  cases gget n R with
  | none => exact ⟨_, _, rfl⟩
  | some m => obtain ⟨a, v, us⟩ := m; exact ⟨a, _, rfl⟩
theorem pks_snoc (X : List Pk) (p : Pk) : (X ++ [p]).length = X.length + 1 ∧ (X ++ [p]).flatMap Pk.ts = X.flatMap Pk.ts ++ p.ts := by
  constructor
  · simp
  · rw [List.flatMap_append]; simp
theorem vp_names {l : List Md} (hl : Rg1 l) {R : PM} (hR : VP l R) : ∀ p ∈ mapT Md.t R, p.1.size ≤ maxLen := fun p hp => by
  have h1 : p.1 ∈ (mapT Md.t R).map (·.1) := List.mem_map.2 ⟨p, hp, rfl⟩
  rw [mapT_keys] at h1
  obtain ⟨q, hq, he⟩ := List.mem_map.1 h1
  have h2 := hR.mem q hq
  have h3 : q.1.size ≤ 16 := by
    rw [← h2.2]
    exact nameOk_size (hl.mods q.2 h2.1).2.2.2
  rw [← he]
  unfold maxLen; omega
set_option maxRecDepth 100000 in
set_option maxHeartbeats 8000000 in
theorem best_af (l : List Md) (root : List Us) (fs : List Pk) (hls : Md.sizes l ≤ 1048576) (hrs : Us.sizes root ≤ 1048576) : AF Try.prog 25 [Md.row l, Us.row root, Pk.row fs] (· = .tup [Pk.row (bestV l root fs).1, .lit (.int .i64 (bestV l root fs).2)]) := by
  have h1 := check_af l hls
  have h2 := wants_af root hrs
  have hl := @checkE_rg l
  have hr := fun h => (wantsE_ok (l := root) h).1
  unfold bestV
  generalize checkE l = e1 at *
  generalize wantsE root = e2 at *
  cases d1 : decide (e1 = 0)
  · clear hl hr
    refine af_enter tok Try.func25 Try.ntmps25 Try.results25 rfl (by kernel_rfl) rfl rfl fun F hX => ?_
    repeat (first | refine gG ?_ | refine zN1 (fun hlen => ?_) | refine zN2 (fun hlen => ?_) | refine zBx (fun _ => ?_) | refine zAp (fun _ => ?_))
    refine zCall (h1) ?_
    rintro _ rfl
    repeat (first | refine gG ?_ | refine zN1 (fun hlen => ?_) | refine zN2 (fun hlen => ?_) | refine zBx (fun _ => ?_) | refine zAp (fun _ => ?_))
    first | refine zR (ts := [Pk.row [], .lit (.int .i64 e1)]) ?_ | refine zQ (ts := [Pk.row [], .lit (.int .i64 e1)]) ?_
    rfl
  cases d2 : decide (e2 = 0)
  · clear hl hr
    refine af_enter tok Try.func25 Try.ntmps25 Try.results25 rfl (by kernel_rfl) rfl rfl fun F hX => ?_
    repeat (first | refine gG ?_ | refine zN1 (fun hlen => ?_) | refine zN2 (fun hlen => ?_) | refine zBx (fun _ => ?_) | refine zAp (fun _ => ?_))
    refine zCall (h1) ?_
    rintro _ rfl
    repeat (first | refine gG ?_ | refine zN1 (fun hlen => ?_) | refine zN2 (fun hlen => ?_) | refine zBx (fun _ => ?_) | refine zAp (fun _ => ?_))
    refine zCall (h2) ?_
    rintro _ rfl
    repeat (first | refine gG ?_ | refine zN1 (fun hlen => ?_) | refine zN2 (fun hlen => ?_) | refine zBx (fun _ => ?_) | refine zAp (fun _ => ?_))
    first | refine zR (ts := [Pk.row [], .lit (.int .i64 e2)]) ?_ | refine zQ (ts := [Pk.row [], .lit (.int .i64 e2)]) ?_
    rfl
  replace hl := hl (of_decide_eq_true d1)
  replace hr := hr (of_decide_eq_true d2)
  rw [cond_true, cond_true]
  have hco := fun bs bm => complete_ag l hl fs root hr bs bm (l.length + 1) [] (VP.nil l) (Nat.le_refl _)
  have hwn : wantsP root [] = root := by simp [wantsP]
  have hvp := fun R (h : compl l fs root (l.length + 1) [] = some R) => compl_vp (VP.nil l) h
  have hll := hl.len
  have hcr : ∀ bs bm r hs, CR l fs root bs bm [] (compl l fs root (l.length + 1) []) r hs → (compl l fs root (l.length + 1) [] = none ∧ r = .c (.lit (.bool false)) ∧ hs = SB l fs bs bm [] root) ∨ ∃ R, compl l fs root (l.length + 1) [] = some R ∧ VP l R ∧ r = .c (.lit (.bool true)) ∧ hs = SB l fs bs bm R (wantsP root R) := fun bs bm r hs ⟨g1, g2⟩ => by
    cases hc : compl l fs root (l.length + 1) [] with
    | none =>
      rw [hc] at g1 g2
      exact .inl ⟨rfl, g1, by rw [g2]; show SB l fs bs bm [] (wantsP root []) = _; rw [hwn]⟩
    | some R =>
      rw [hc] at g1 g2
      exact .inr ⟨R, rfl, compl_vp (VP.nil l) hc, g1, g2⟩
  rw [hwn] at hco
  clear hvp
  have hnm := fun R (hR : VP l R) => vp_names hl hR
  clear hl
  have hco : ∀ bs bm, AG Try.prog 59 [.ptr 0 bs 0] (SB l fs bs bm [] root) (fun r hs => (compl l fs root (l.length + 1) [] = none ∧ r = .c (.lit (.bool false)) ∧ hs = SB l fs bs bm [] root) ∨ ∃ R, compl l fs root (l.length + 1) [] = some R ∧ VP l R ∧ r = .c (.lit (.bool true)) ∧ hs = SB l fs bs bm R (wantsP root R)) := fun bs bm => (hco bs bm).imp (hcr bs bm)
  clear hcr hwn
  generalize compl l fs root (l.length + 1) [] = o at *
  refine af_enter tok Try.func25 Try.ntmps25 Try.results25 rfl (by kernel_rfl) rfl rfl fun F hX => ?_
  repeat (first | refine gG ?_ | refine zN1 (fun hlen => ?_) | refine zN2 (fun hlen => ?_) | refine zBx (fun _ => ?_) | refine zAp (fun _ => ?_))
  refine zCall (h1) ?_
  rintro _ rfl
  repeat (first | refine gG ?_ | refine zN1 (fun hlen => ?_) | refine zN2 (fun hlen => ?_) | refine zBx (fun _ => ?_) | refine zAp (fun _ => ?_))
  refine zCall (h2) ?_
  rintro _ rfl
  clear h1 h2
  repeat (first | refine gG ?_ | refine zN1 (fun hlen => ?_) | refine zN2 (fun hlen => ?_) | refine zBx (fun _ => ?_) | refine zAp (fun _ => ?_))
  refine zMm (fun bm => ?_)
  repeat (first | refine gO ?_ | refine zN1 (fun hlen => ?_) | refine zN2 (fun hlen => ?_) | refine zBx (fun _ => ?_) | refine zAp (fun _ => ?_))
  rename_i bs
  refine x_swap (h := []) (x := .mp bm []) (b := bs) (t := 110) (cs := [.c (Md.row l), .c (Pk.row fs), .own 0 (.map (some bm)), .c (Us.row root)]) 0 [.c (Md.row l), .c (Pk.row fs), .own 1 (.map (some bm)), .c (Us.row root)] rfl (fun M xs h => by simp only [RAs, RA] at h ⊢; exact h) rfl rfl ?_
  refine x_reptr 10 0 rfl ?_
  repeat (first | refine gG ?_ | refine zN1 (fun hlen => ?_) | refine zN2 (fun hlen => ?_) | refine zBx (fun _ => ?_) | refine zAp (fun _ => ?_))
  refine zCallG [0, 1] (hco bs bm) ?_
  rintro r hs (⟨rfl, rfl, rfl⟩ | ⟨R, rfl, hR, rfl, rfl⟩)
  · refine ⟨.c (.lit (.bool false)), _, re_refl, rfl, rfl, ?_⟩
    clear hco
    repeat (first | refine gG ?_ | refine zN1 (fun hlen => ?_) | refine zN2 (fun hlen => ?_) | refine zBx (fun _ => ?_) | refine zAp (fun _ => ?_))
    first | refine zR (ts := [Pk.row [], .lit (.int .i64 22)]) ?_ | refine zQ (ts := [Pk.row [], .lit (.int .i64 22)]) ?_
    rfl
  refine ⟨.c (.lit (.bool true)), _, re_refl, rfl, rfl, ?_⟩
  clear hco
  have hRl := hR.len
  have hks := keysModule_ag bm (mkeys Value.string (mapT Md.t R))
  have hsrt := sortedModule_ag (mapT Md.t R) (by rw [mapT_keys]; exact hR.nodup) (hnm R hR) (by rw [mapT_len]; omega)
  rw [mapT_keys] at hsrt
  dsimp only
  unfold outL
  have hlk := look_v R
  have hsl : (sortB (R.map (·.1))).length ≤ 30 := by rw [sortB_len, List.length_map]; omega
  clear hR hnm
  generalize sortB (R.map (·.1)) = ns at *
  generalize mapT Md.t R = MT at *
  generalize wantsP root R = WR at *
  repeat (first | refine gG ?_ | refine zN1 (fun hlen => ?_) | refine zN2 (fun hlen => ?_) | refine zBx (fun _ => ?_) | refine zAp (fun _ => ?_))
  refine zCallG [1] hks ?_
  rintro _ _ ⟨bb, rfl, rfl⟩
  refine ⟨.fn (.func 99) [.ptr 2 bb 0], _, re_fn (res_cons re_ptr res_nil), rfl, rfl, ?_⟩
  repeat (first | refine gG ?_ | refine zN1 (fun hlen => ?_) | refine zN2 (fun hlen => ?_) | refine zBx (fun _ => ?_) | refine zAp (fun _ => ?_))
  refine zCallG [2, 1] (hsrt bb bm 108 2 0) ?_
  rintro _ _ ⟨vs, rfl, rfl⟩
  refine ⟨.own 3 vs, _, re_own, rfl, rfl, ?_⟩
  clear hks hsrt
  repeat (first | refine gG ?_ | refine zN1 (fun hlen => ?_) | refine zN2 (fun hlen => ?_) | refine zBx (fun _ => ?_) | refine zAp (fun _ => ?_))
  refine x_fz 38 rfl rfl rfl rfl ?_
  refine x_own 11 46 2 rfl rfl rfl rfl rfl ?_
  refine x_loop [11, 13, 40, 41, 42, 43, 44, 45, 46, 47, 48, 49, 50, 51, 52, 53, 54, 55, 56] (fun y : Nat × Value => [(40, .c (.lit (.int .i64 (y.1 : Nat)))), (11, .own 4 y.2)]) (fun y => [.box bs 110 [.c (Md.row l), .c (Pk.row fs), .own 1 (.map (some bm)), .c (Us.row WR)], .mp bm (mkeys Value.string MT), .box bb 108 [.own 0 (.map (some bm))], .dead, .row y.2 46 2 (outOf R (ns.take y.1)).length ((outOf R (ns.take y.1)).flatMap Pk.ts)])
    (fun y => y.1 ≤ ns.length) (fun y => ns.length - y.1) (0, .slice none 0 0) (Nat.zero_le _) ⟨rfl, rfl, trivial⟩ rfl ?_
  rintro ⟨k, u⟩ hk
  dsimp only at hk ⊢
  repeat (first | refine gG ?_ | refine zN1 (fun hlen => ?_) | refine zN2 (fun hlen => ?_) | refine zBx (fun _ => ?_) | refine zAp (fun _ => ?_))
  refine x_cond rfl (fun h => ?_) (fun h => ?_)
  · have hk' : k < ns.length := by simpa using h
    obtain ⟨n, hn⟩ := nth hk'
    have g1 : (ns.flatMap strTs)[k * 1]? = some (.lit (.string n)) := by rw [Nat.mul_one]; exact str_at hn
    obtain ⟨a, x, hlk⟩ := hlk n
    have hsn := out_snoc (R := R) hn
    have hlt := out_len R (ns.take k)
    rw [List.length_take] at hlt
    clear h hn
    generalize outOf R (ns.take k) = X at *
    generalize hX : outOf R (ns.take (k + 1)) = X' at *
    generalize ((gget n R).map Md.version).getD 0 = v at *
    have hone := pks_snoc X ⟨n, v⟩
    rw [← hsn] at hone
    have hle : X.length ≤ 30 := by omega
    repeat (first | refine gG ?_ | refine zN1 (fun hlen => ?_) | refine zN2 (fun hlen => ?_) | refine zBx (fun _ => ?_) | refine zAp (fun _ => ?_))
    refine zIx k hk' ?_
    repeat (first | refine gG ?_ | refine zN1 (fun hlen => ?_) | refine zN2 (fun hlen => ?_) | refine zBx (fun _ => ?_) | refine zAp (fun _ => ?_))
    refine zEl1 g1 ?_
    repeat (first | refine gG ?_ | refine zN1 (fun hlen => ?_) | refine zN2 (fun hlen => ?_) | refine zBx (fun _ => ?_) | refine zAp (fun _ => ?_))
    refine zLksn 9 113 (zs := Md.z) hlk ?_
    repeat (first | refine gG ?_ | refine zN1 (fun hlen => ?_) | refine zN2 (fun hlen => ?_) | refine zBx (fun _ => ?_) | refine zAp (fun _ => ?_))
    refine zFd1 3 ?_
    repeat (first | refine gG ?_ | refine zN1 (fun hlen => ?_) | refine zN2 (fun hlen => ?_) | refine zBx (fun _ => ?_) | refine zAp (fun _ => ?_))
    exact ⟨(k + 1, _), hk', by simp only; omega, x_wkd 5 ⟨rfl, rfl, trivial⟩ (by dsimp only; rw [hX, hone.1, hone.2]; rfl) (by repeat (first | exact ag_refl | refine ag_upd rfl ?_ | refine ag_at rfl rfl ?_))⟩
  · have hk' : k = ns.length := by
      have : ¬ k < ns.length := by simpa using h
      omega
    subst hk'
    rw [List.take_length]
    clear h
    repeat (first | refine gG ?_ | refine zN1 (fun hlen => ?_) | refine zN2 (fun hlen => ?_) | refine zBx (fun _ => ?_) | refine zAp (fun _ => ?_))
    first | refine zR (ts := [Pk.row (outOf R ns), .lit (.int .i64 0)]) ?_ | refine zQ (ts := [Pk.row (outOf R ns), .lit (.int .i64 0)]) ?_
    rfl
end Go.Proofs.Ytnkafjkcjpajgaa
namespace Go.Proofs.Ytnkafjkcjpajgaa
open Go.RowKit
section
variable {P : Program} {F : Frm} {d : Option Tmp} {ty : TypeId} {pos : String} {aft : Array Edge} {g : Option (Nat × Bool)} {ρ : Operand → AV} {hp : List Blk} {K : AV → List Blk → Prop}
theorem lo_entry {x : Operand} {i j b b' c k : Nat} {es : List (Value × T)} {st P' : List Nat} {u : Value} {t : T} (hx : ρ x = .ptr i b' 0) (hi : hp[i]? = some (.it b' b st c (P' ++ [k]))) (hj : hp[j]? = some (.mpx b es (some (st, c)))) (hk : es[k]? = some (u, t))
    (h : K (.c (.tup [.lit u, t])) hp) : LO P F ⟨d, .entry x, ty, pos, aft, g⟩ ρ hp K := by
  refine LO.same (fun M e w he hh => ?_) h
  have h1 := he x (by first | (simp [Op.operands]; done) | simp [Op.operands, Call.operands])
  rw [hx] at h1
  simp only [RA] at h1
  obtain ⟨es', clock, hb, hkeys, hvals, hstm, hst⟩ := hh.at_ j _ hj
  obtain ⟨hst1, rfl⟩ : st = es'.map (·.born) ∧ c = clock := by
    have := hst (st, c) rfl
    exact ⟨congrArg Prod.fst this, congrArg Prod.snd this⟩
  obtain ⟨hit, -⟩ : w.heap[b']? = some (.mapIter (some b) c ((P' ++ [k]).map fun p => st.getD p 0).toArray c) ∧ ∀ p ∈ P' ++ [k], p < st.length := hh.at_ i _ hi
  have hlen : es'.length = es.length := by simpa using congrArg List.length hkeys
  obtain ⟨hk2, hke⟩ := List.getElem?_eq_some_iff.1 hk
  have hk1 : k < es'.length := by omega
  have hkey : es'[k].key = u := by
    have := congrArg (fun l => l[k]?) hkeys
    simp only [List.getElem?_map, List.getElem?_eq_getElem hk1, hk, Option.map_some, Option.some.injEq] at this
    exact this
  obtain ⟨z, hz1, hz2⟩ := hvals.get (j := k) (t := t) (by rw [List.getElem?_map, hk]; rfl)
  rw [List.getElem?_map, List.getElem?_eq_getElem hk1] at hz1
  obtain rfl : es'[k].val = z := by simpa using hz1
  have hborn : st.getD k 0 = es'[k].born := by rw [hst1]; simp [List.getD_eq_getElem?_getD, List.getElem?_map, List.getElem?_eq_getElem hk1]
  have hseen : ((P' ++ [k]).map fun p => st.getD p 0) = (P'.map fun p => st.getD p 0) ++ [es'[k].born] := by
    rw [List.map_append, ← hborn]; rfl
  rw [hseen] at hit
  have hfind := find_born es'[k] es' hstm.1 (List.getElem_mem hk1)
  have hback : (((P'.map fun p => st.getD p 0) ++ [es'[k].born]).toArray).back? = some es'[k].born := by simp
  generalize ((P'.map fun p => st.getD p 0) ++ [es'[k].born]).toArray = seen at *
  have hrun : (Instr.entry (.pointer (some ⟨b', 0, none⟩))).run P w = .ok (.tuple #[es'[k].key, es'[k].val]) w := by
    have hget : (getObj b' : Sem Obj).run P w = .ok (.mapIter (some b) c seen c) w := by simp only [getObj, Sem.run, hit]
    simp only [Instr.entry, Sem.run_bind, hget, MapKept.run_getObj_map hb, Result.andThen, hback, bne_self_eq_false, Bool.false_eq_true, if_false]
    have hf2 : es'.toArray.find? (fun e => e.born == es'[k].born) = some es'[k] := by rw [← Array.find?_toList]; exact hfind
    rw [hf2]
    rfl
  refine ⟨.tuple #[es'[k].key, es'[k].val], ?_, by simp only [RA, RT, RTs]; exact ⟨[es'[k].key, es'[k].val], rfl, _, _, rfl, hkey, _, _, rfl, hz2, rfl⟩⟩
  simp [execOp, h1, hrun]
theorem zEn {x : Operand} {i b b' c k : Nat} {es : List (Value × T)} {st P' : List Nat} {u : Value} {t : T} (j : Nat) (hk : es[k]? = some (u, t)) (h : K (.c (.tup [.lit u, t])) hp) (hx : ρ x = .ptr i b' 0 := by exact rfl) (hi : hp[i]? = some (.it b' b st c (P' ++ [k])) := by exact rfl) (hj : hp[j]? = some (.mpx b es (some (st, c))) := by exact rfl) : LO P F ⟨d, .entry x, ty, pos, aft, g⟩ ρ hp K :=
  lo_entry hx hi hj hk h
end
theorem walk_len {l : List Nat} {n : Nat} (h : l.Nodup) (hl : ∀ p ∈ l, p < n) : l.length ≤ n := by
  have := h.length_le_of_subset (l₂ := List.range n) fun x hx => List.mem_range.2 (hl x hx)
  simpa using this
theorem walk_snoc {l : List Nat} {n k : Nat} (h : l.Nodup) (hl : ∀ p ∈ l, p < n) (hk : k < n) (hn : k ∉ l) : (l ++ [k]).Nodup ∧ ∀ p ∈ l ++ [k], p < n := by
  refine ⟨?_, fun p hp => ?_⟩
  · rw [List.nodup_append]
    refine ⟨h, by simp, fun a ha b hb e => ?_⟩
    rw [List.mem_singleton.1 hb] at e
    rw [e] at ha; exact hn ha
  · rcases List.mem_append.1 hp with hp | hp
    · exact hl p hp
    · rw [List.mem_singleton.1 hp]; exact hk
theorem mk_at {β : Type} (f : β → T) {l : List (ByteArray × β)} {k : Nat} {u : Value} {t : T} (h : (mkeys Value.string (mapT f l))[k]? = some (u, t)) : ∃ n x, l[k]? = some (n, x) ∧ u = .string n ∧ t = f x := by
  simp only [mkeys, mapT, List.map_map, List.getElem?_map] at h
  cases hl : l[k]? with
  | none => rw [hl] at h; cases h
  | some p =>
    obtain ⟨n, x⟩ := p
    rw [hl] at h
    simp only [Option.map_some, Option.some.injEq, Function.comp, Prod.mk.injEq] at h
    exact ⟨n, x, rfl, h.1.symm, h.2.symm⟩
theorem mk_len {β : Type} (f : β → T) (l : List (ByteArray × β)) : (mkeys Value.string (mapT f l)).length = l.length := by simp [mkeys, mapT]
end Go.Proofs.Ytnkafjkcjpajgaa
namespace Go.Proofs.Ytnkafjkcjpajgaa
open Go.RowKit
theorem gget_of {α β : Type} [DecidableEq α] {k : α} {b : β} : ∀ {l : List (α × β)}, gget k l = some b → (k, b) ∈ l
  | (k', b') :: l, h => by
    rw [gget] at h
    by_cases hk : k = k'
    · rw [if_pos hk] at h
      cases h
      rw [hk]; simp
    · rw [if_neg hk] at h
      exact List.mem_cons_of_mem _ (gget_of h)
theorem gget_in {α β : Type} [DecidableEq α] {k : α} {b : β} : ∀ {l : List (α × β)}, (l.map (·.1)).Nodup → (k, b) ∈ l → gget k l = some b
  | (k', b') :: l, hn, h => by
    obtain ⟨h1, h2⟩ := List.nodup_cons.1 hn
    rw [gget]
    rcases List.mem_cons.1 h with h | h
    · cases h; rw [if_pos rfl]
    · rw [if_neg, gget_in h2 h]
      intro e; rw [← e] at h1
      exact h1 (List.mem_map.2 ⟨_, h, rfl⟩)
def solvedV (l : List Md) (fs : List Pk) (root : List Us) (k : Nat) (P : PM) : Option PM := bif satP (wantsP root P) P then compl l fs root k P else none
theorem compl_some {l : List Md} {fs : List Pk} {root : List Us} {k : Nat} {P : PM} {n : ByteArray} (h : openP P (wantsP root P) = some n) : compl l fs root (k + 1) P = (cand l fs n).findSome? fun m => solvedV l fs root k (P ++ [(n, m)]) := by
  rw [compl, h]
  rfl
theorem compl_none {l : List Md} {fs : List Pk} {root : List Us} {k : Nat} {P : PM} (h : openP P (wantsP root P) = none) : compl l fs root (k + 1) P = some P := by
  rw [compl, h]
/-- versions, by names, and the modules that they are of -/
structure RelP (ps : List (ByteArray × Int)) (P : PM) : Prop where
  nodup : (ps.map (·.1)).Nodup
  get : ∀ n, gget n ps = (gget n P).map Md.version
theorem RelP.mem {ps : List (ByteArray × Int)} {P : PM} (h : RelP ps P) (n : ByteArray) : n ∈ ps.map (·.1) ↔ n ∈ P.map (·.1) := by
  rw [← gget_mem, ← gget_mem, h.get]
  cases gget n P <;> simp
theorem RelP.perm {ps : List (ByteArray × Int)} {P : PM} (h : RelP ps P) (hP : (P.map (·.1)).Nodup) : (ps.map (·.1)).Perm (P.map (·.1)) :=
  (List.perm_ext_iff_of_nodup h.nodup hP).2 h.mem
theorem RelP.len {ps : List (ByteArray × Int)} {P : PM} (h : RelP ps P) (hP : (P.map (·.1)).Nodup) : ps.length = P.length := by
  have := (h.perm hP).length_eq
  simpa using this
def hitR (ps : List (ByteArray × Int)) (m : Md) : Bool := match gget m.name ps with | none => false | some v => decide (v = m.version)
def refTo (root : List Us) (l : List Md) (ps : List (ByteArray × Int)) (k : Nat) : List Us := root ++ (l.take k).flatMap fun m => bif hitR ps m then m.uses else []
theorem refTo_zero (root : List Us) (l : List Md) (ps : List (ByteArray × Int)) : refTo root l ps 0 = root := by simp [refTo]
theorem refTo_snoc {root : List Us} {l : List Md} {ps : List (ByteArray × Int)} {k : Nat} {m : Md} (h : l[k]? = some m) : refTo root l ps (k + 1) = refTo root l ps k ++ (bif hitR ps m then m.uses else []) := by
  obtain ⟨h1, rfl⟩ := List.getElem?_eq_some_iff.1 h
  unfold refTo
  rw [List.take_succ_eq_append_getElem h1, List.flatMap_append, List.append_assoc]
  congr 2
  rw [List.flatMap_cons, List.flatMap_nil, List.append_nil]
theorem refTo_len {l : List Md} (hl : Rg1 l) {root : List Us} (hr : root.length ≤ 5) (ps : List (ByteArray × Int)) (k : Nat) (hk : k ≤ l.length) : (refTo root l ps k).length ≤ 5 + 5 * k := by
  induction k with
  | zero => rw [refTo_zero]; omega
  | succ k ih =>
    obtain ⟨m, hm⟩ := nth (show k < l.length by omega)
    have h1 := ih (by omega)
    have h2 := (hl.mods m (List.mem_of_getElem? hm)).2.1
    rw [refTo_snoc hm, List.length_append]
    cases hitR ps m
    · simp only [cond_false, List.length_nil]; omega
    · simp only [cond_true]; omega
theorem same_md {l : List Md} (hl : Rg1 l) {a b : Md} (ha : a ∈ l) (hb : b ∈ l) (hn : a.name = b.name) (hv : a.version = b.version) : a = b := by
  obtain ⟨i, hi, rfl⟩ := List.getElem_of_mem ha
  obtain ⟨j, hj, rfl⟩ := List.getElem_of_mem hb
  have hg := List.pairwise_iff_getElem.1 hl.ord
  rcases Nat.lt_trichotomy i j with h | h | h
  · exact absurd ⟨hn.symm, hv.symm⟩ (mordB_irrefl (hg i j hi hj h))
  · subst h; rfl
  · exact absurd ⟨hn, hv⟩ (mordB_irrefl (hg j i hj hi h))
theorem ref_mem {l : List Md} (hl : Rg1 l) {root : List Us} {ps : List (ByteArray × Int)} {P : PM} (hP : VP l P) (hR : RelP ps P) (u : Us) : u ∈ refTo root l ps l.length ↔ u ∈ wantsP root P := by
  unfold refTo wantsP
  rw [List.take_length, List.mem_append, List.mem_append, List.mem_flatMap, List.mem_flatMap]
  constructor
  · rintro (h | ⟨m, hm, hu⟩)
    · exact .inl h
    · refine .inr ?_
      cases hh : hitR ps m
      · rw [hh] at hu; cases hu
      · rw [hh] at hu
        unfold hitR at hh
        rw [hR.get] at hh
        cases hg : gget m.name P with
        | none => rw [hg] at hh; cases hh
        | some m' =>
          rw [hg] at hh
          have h1 := gget_of hg
          have h2 := hP.mem _ h1
          have h3 : m' = m := same_md hl h2.1 hm h2.2 (of_decide_eq_true hh)
          exact ⟨_, h1, by rw [h3]; exact hu⟩
  · rintro (h | ⟨p, hp, hu⟩)
    · exact .inl h
    · obtain ⟨n, m⟩ := p
      have h2 := hP.mem _ hp
      have h3 : gget m.name P = some m := by
        have h4 := gget_in hP.nodup hp
        have h5 : m.name = n := h2.2
        rw [h5]
        exact h4
      refine .inr ⟨m, h2.1, ?_⟩
      have hh : hitR ps m = true := by
        unfold hitR
        rw [hR.get, h3]
        exact decide_eq_true rfl
      rw [hh]
      exact hu
theorem ref_name {l : List Md} (hl : Rg1 l) {root : List Us} (hr : ∀ u ∈ root, useE u = 0) {P : PM} (hP : VP l P) {u : Us} (h : u ∈ wantsP root P) : u.name ≠ ⟨#[]⟩ := by
  unfold wantsP at h
  rcases List.mem_append.1 h with h | h
  · exact useE_name (hr u h)
  · obtain ⟨p, hp, hu⟩ := List.mem_flatMap.1 h
    exact useE_name ((hl.mods p.2 (hP.mem p hp).1).2.2.1 u hu)
def moreStep (ps : List (ByteArray × Int)) (m : List (ByteArray × Int)) (i : Nat) : List (ByteArray × Int) := match ps[i]? with | none => m | some p => gput p.1 p.2 m
def moreOf (ps : List (ByteArray × Int)) (n : ByteArray) (v : Int) (is : List Nat) : List (ByteArray × Int) := is.foldl (moreStep ps) [(n, v)]
theorem more_snoc {ps : List (ByteArray × Int)} {n : ByteArray} {v : Int} {is : List Nat} {k : Nat} {a : ByteArray} {x : Int} (h : ps[k]? = some (a, x)) : moreOf ps n v (is ++ [k]) = gput a x (moreOf ps n v is) := by
  unfold moreOf
  rw [List.foldl_append]
  show moreStep ps _ k = _
  unfold moreStep
  rw [h]
theorem more_get {ps : List (ByteArray × Int)} (hn : (ps.map (·.1)).Nodup) : ∀ (is : List Nat) (m : List (ByteArray × Int)) (q : ByteArray), ((∃ i ∈ is, ∃ x, ps[i]? = some (q, x)) → gget q (is.foldl (moreStep ps) m) = gget q ps) ∧ (¬ (∃ i ∈ is, ∃ x, ps[i]? = some (q, x)) → gget q (is.foldl (moreStep ps) m) = gget q m)
  | [], m, q => ⟨(fun ⟨i, h, _⟩ => by cases h), fun _ => rfl⟩
  | i :: is, m, q => by
    rw [List.foldl_cons]
    obtain ⟨h1, h2⟩ := more_get hn is (moreStep ps m i) q
    rcases Classical.em (∃ i ∈ is, ∃ x, ps[i]? = some (q, x)) with h3 | h3
    · refine ⟨fun _ => h1 h3, fun h => absurd ?_ h⟩
      obtain ⟨j, hj, x, hx⟩ := h3
      exact ⟨j, List.mem_cons_of_mem _ hj, x, hx⟩
    · have hst : ∀ p, ps[i]? = some p → moreStep ps m i = gput p.1 p.2 m := fun p hp => by unfold moreStep; rw [hp]
      constructor
      · rintro ⟨j, hj, x, hx⟩
        rcases List.mem_cons.1 hj with rfl | hj
        · rw [h2 h3, hst _ hx, gget_put, if_pos rfl, gget_in hn (List.mem_of_getElem? hx)]
        · exact absurd ⟨j, hj, x, hx⟩ h3
      · intro h4
        rw [h2 h3]
        cases hp : ps[i]? with
        | none => unfold moreStep; rw [hp]
        | some p =>
          obtain ⟨a, x⟩ := p
          rw [hst _ hp, gget_put, if_neg]
          intro e
          have e : q = a := e
          subst e
          exact h4 ⟨i, by simp, x, hp⟩
theorem more_nodup (ps : List (ByteArray × Int)) : ∀ (is : List Nat) (m : List (ByteArray × Int)), (m.map (·.1)).Nodup → ((is.foldl (moreStep ps) m).map (·.1)).Nodup
  | [], _, h => h
  | i :: is, m, h => by
    refine more_nodup ps is _ ?_
    unfold moreStep
    cases ps[i]? with
    | none => exact h
    | some p => exact gput_nodup h
theorem more_rel {l : List Md} {ps : List (ByteArray × Int)} {P : PM} (hR : RelP ps P) {n : ByteArray} (hn : n ∉ P.map (·.1)) (m : Md) {is : List Nat} (hall : ∀ k, k < ps.length → k ∈ is) (_hP : VP l P) : RelP (moreOf ps n m.version is) (P ++ [(n, m)]) := by
  refine ⟨more_nodup ps is _ (by simp), fun q => ?_⟩
  obtain ⟨g1, g2⟩ := more_get hR.nodup is [(n, m.version)] q
  rw [gget_app hn]
  show gget q (is.foldl (moreStep ps) [(n, m.version)]) = _
  by_cases h1 : q ∈ ps.map (·.1)
  · obtain ⟨p, hp, he⟩ := List.mem_map.1 h1
    obtain ⟨i, hi, hpe⟩ := List.getElem_of_mem hp
    rw [g1 ⟨i, hall i hi, p.2, by rw [List.getElem?_eq_getElem hi, hpe, ← he]⟩, hR.get]
    rw [if_neg]
    intro e
    rw [e] at h1
    exact hn ((hR.mem n).1 h1)
  · rw [g2 fun ⟨i, _, x, hx⟩ => h1 (List.mem_map.2 ⟨_, List.mem_of_getElem? hx, rfl⟩)]
    by_cases h2 : q = n
    · subst h2
      rw [if_pos rfl]
      show (if q = q then some m.version else none) = _
      rw [if_pos rfl]; rfl
    · rw [if_neg h2]
      show (if q = n then some m.version else none) = _
      rw [if_neg h2]
      have h3 : q ∉ P.map (·.1) := fun h => h1 ((hR.mem q).2 h)
      rw [gget_none.2 h3]
      rfl
def selL (fs : List Pk) (n : ByteArray) (z : Bool) (r : List Md) : List Md := r.filter fun m => nameB n m && (likedB fs m == z)
theorem sel_pref (fs : List Pk) (n : ByteArray) (r : List Md) : selL fs n true r = prefL fs n r := by
  unfold selL prefL
  congr 1
  funext m
  cases likedB fs m <;> rfl
theorem sel_other (fs : List Pk) (n : ByteArray) (r : List Md) : selL fs n false r = otherL fs n r := by
  unfold selL otherL
  congr 1
  funext m
  cases likedB fs m <;> rfl
theorem sel_snoc (fs : List Pk) (n : ByteArray) (z : Bool) (r : List Md) (m : Md) : selL fs n z (r ++ [m]) = selL fs n z r ++ (bif nameB n m && (likedB fs m == z) then [m] else []) := by
  unfold selL
  rw [List.filter_append, List.filter_cons]
  cases nameB n m && (likedB fs m == z) <;> rfl
theorem sel_len (fs : List Pk) (n : ByteArray) (z : Bool) (r : List Md) : (selL fs n z r).length ≤ r.length := List.length_filter_le _ _
def likedTo (fs : List Pk) (n : ByteArray) (v : Int) (j : Nat) : Bool := (fs.take j).any fun p => decide (p.name = n) && decide (p.version = v)
theorem likedTo_snoc {fs : List Pk} {n : ByteArray} {v : Int} {j : Nat} {p : Pk} (h : fs[j]? = some p) : likedTo fs n v (j + 1) = (likedTo fs n v j || (decide (p.name = n) && decide (p.version = v))) := by
  obtain ⟨h1, rfl⟩ := List.getElem?_eq_some_iff.1 h
  unfold likedTo
  rw [List.take_succ_eq_append_getElem h1, List.any_append]
  simp
theorem likedTo_all {fs : List Pk} {n : ByteArray} {m : Md} (h : m.name = n) : likedTo fs n m.version fs.length = likedB fs m := by
  unfold likedTo likedB
  rw [List.take_length, h]
end Go.Proofs.Ytnkafjkcjpajgaa
