/-
  Texts of this proof, part 10: Vpe Vpf Vpg Tun Hfi.
-/
import Derived.Test.YtnkafjkcjpajgaaQRenewPlan9
import Derived.Lib.AppendStr
import Derived.Lib.AppendZerosOnto
import Derived.Lib.MinMax
namespace Go.Proofs.Ytnkafjkcjpajgaa
open Go.RowKit
theorem partAt {α : Type} {ts : α → List T} {sz : Nat} (hl : ∀ a, (ts a).length = sz) {l : List α} {k : Nat} {a : α} (h : l[k]? = some a) {j : Nat} {t : T} (hj : (ts a)[j]? = some t) : (l.flatMap ts)[k * sz + j]? = some t := by
  have h1 := flat_at ts sz hl h
  have hj' : j < sz := by rw [← hl a]; exact (List.getElem?_eq_some_iff.1 hj).1
  rw [← h1, List.getElem?_take_of_lt hj', List.getElem?_drop] at hj
  exact hj
theorem bool_of (Q : Prop) : ∃ z : Bool, (z = true ↔ Q) := by
  by_cases h : Q
  · exact ⟨true, fun _ => h, fun _ => rfl⟩
  · exact ⟨false, (fun h => by cases h), fun h' => absurd h' h⟩
theorem bool_iff {a b : Bool} {Q : Prop} (h : a = true ↔ Q) (g : b = true ↔ Q) : a = b := by
  cases a <;> cases b <;> simp_all
theorem als_at (M : List (ByteArray × Bool)) (x y : List ByteArray) (hxy : x.length = y.length) (c : Nat) (o : Option (List Nat × Nat)) (l r : List Y) (z : Bool) (hz : z = true ↔ Y.lks (Mkd M) x y l r) :
    AG Try.prog 106 [.c (Y.row l), .c (Y.row r), .c (strRow x), .c (strRow y), .own 0 (.map (some c))] [.mpx c (mkeys Value.string (mapT bT M)) o] (fun r hs => r = .c (.lit (.bool z)) ∧ hs = [.mpx c (mkeys Value.string (mapT bT M)) o]) :=
  (als_all M x y hxy c o l r).imp fun r hs ⟨u, h1, h2, h3⟩ => ⟨by rw [h1, bool_iff h3 hz], h2⟩
theorem als_nil (M : List (ByteArray × Bool)) (c : Nat) (o : Option (List Nat × Nat)) (l r : List Y) :
    AG Try.prog 106 [.c (Y.row l), .c (Y.row r), .c (.lit (.slice none 0 0)), .c (.lit (.slice none 0 0)), .own 0 (.map (some c))] [.mpx c (mkeys Value.string (mapT bT M)) o] (AlR M c o (Y.lks (Mkd M) [] [] l r)) :=
  (als_all M [] [] rfl c o l r).res fun M' us h => by
    simp only [RAs] at h ⊢
    obtain ⟨x1, r1, rfl, h1, x2, r2, rfl, h2, x3, r3, rfl, h3, x4, r4, rfl, h4, x5, r5, rfl, h5, rfl⟩ := h
    exact ⟨x1, _, rfl, h1, x2, _, rfl, h2, x3, _, rfl, rt_nilrow (by omega) h3, x4, _, rfl, rt_nilrow (by omega) h4, x5, _, rfl, h5, rfl⟩
theorem mput_bT (n : ByteArray) (z : Bool) (M : List (ByteArray × Bool)) : mput n (.lit (.bool z)) (mapT bT M) = mapT bT (gput n z M) := mput_T bT n z M
set_option maxRecDepth 100000 in
set_option maxHeartbeats 8000000 in
theorem refShape_af (o w : Pr) (a b : Y) : AF Try.prog 75 [o.t, w.t, a.t, b.t] (fun r => ∃ z : Bool, r = .lit (.bool z) ∧ (z = true ↔ ∃ A, PF o w A ∧ a.lk A [] [] b)) := by
  have hpo := fun n => refData_af o n
  have hpw := fun n => refData_af w n
  have hini := fun k M d => init_next (o := o) (w := w) (k := k) (M := M) (d := d)
  have hall := fun M => init_all (o := o) (w := w) (M := M)
  have hbd := fun M n => INV.both (o := o) (w := w) (M := M) (n := n)
  have hdo := posD_cases o
  have hdw := posD_cases w
  have hend := fun M (h : INV o w M) g => same_end h g a b
  generalize hG : (∃ A, PF o w A ∧ a.lk A [] [] b) = G at *
  clear hG
  obtain ⟨ka, ta, la⟩ := a
  obtain ⟨kb, tb, lb⟩ := b
  refine af_enter tok Try.func75 Try.ntmps75 Try.results75 rfl (by kernel_rfl) rfl rfl fun F hX => ?_
  repeat (first | refine gG ?_ | refine zN1 (fun hlen => ?_) | refine zN2 (fun hlen => ?_) | refine zAl (fun _ => ?_) | refine zBf ?_)
  refine zMm (fun c => ?_)
  repeat (first | refine gG ?_ | refine zN1 (fun hlen => ?_) | refine zN2 (fun hlen => ?_) | refine zAl (fun _ => ?_) | refine zBx (fun _ => ?_))
  refine x_loop [11, 23, 24, 25, 26, 27, 28, 29, 30, 31, 32, 33, 34, 35] (fun y : Nat × List (ByteArray × Bool) => [(23, .c (.lit (.int .i64 (y.1 : Nat))))]) (fun y => [.mp c (mkeys Value.string (mapT bT y.2))]) (fun y => y.1 ≤ o.datas.length ∧ Init o w y.1 y.2) (fun y => o.datas.length - y.1) (0, []) ⟨Nat.zero_le _, init_zero o w⟩ ⟨rfl, trivial⟩ rfl ?_
  rintro ⟨k, M⟩ ⟨hk, hM⟩
  dsimp only at hk hM ⊢
  repeat (first | refine gG ?_ | refine zN1 (fun hlen => ?_) | refine zN2 (fun hlen => ?_) | refine zAl (fun _ => ?_) | refine zBx (fun _ => ?_))
  refine x_cond rfl (fun h => ?_) (fun h => ?_)
  · have hk' : k < o.datas.length := by simpa using h
    obtain ⟨d, hd⟩ := nth hk'
    have hnx := hini k M d hM hd
    have hat := Da.at hd
    have hca := hpw d.name
    have hps := posD_some w d.name
    have hup := mput_bT d.name (decide (0 ≤ posD w d.name)) M
    rw [← hps] at hnx
    obtain ⟨dn, dps, dms⟩ := d
    dsimp only at hnx hca hup
    clear h hd hini hall hbd hdo hdw hend hM hps
    generalize posD w dn = ix at *
    repeat (first | refine gG ?_ | refine zN1 (fun hlen => ?_) | refine zN2 (fun hlen => ?_) | refine zAl (fun _ => ?_) | refine zBx (fun _ => ?_))
    refine zIx (k) (hk') ?_
    repeat (first | refine gG ?_ | refine zN1 (fun hlen => ?_) | refine zN2 (fun hlen => ?_) | refine zAl (fun _ => ?_) | refine zBx (fun _ => ?_))
    refine zEl (hat) (Da.ts_len _) ?_
    repeat (first | refine gG ?_ | refine zN1 (fun hlen => ?_) | refine zN2 (fun hlen => ?_) | refine zAl (fun _ => ?_) | refine zBx (fun _ => ?_))
    refine ac_draw [1, 1, 1, 1, 1, 1, 1, 1, 2] [0, 1, 2, 3, 4, 5, 6, 7, 8] (by kernel_rfl) (by kernel_rfl) ?_
    refine gW ?_
    apply w_q; (focus exact rfl); (focus exact rfl); focus (intro _; (refine zCall hca ?_; rintro _ rfl); exact det_refl)
    refine gW ?_
    apply w_l; (focus exact rfl); (focus exact rfl); (refine zUpt 9 4 hup ?_)
    refine w_nil ?_
    repeat (first | refine gG ?_ | refine zN1 (fun hlen => ?_) | refine zN2 (fun hlen => ?_) | refine zAl (fun _ => ?_) | refine zBx (fun _ => ?_))
    exact ⟨(k + 1, _), ⟨hk', hnx⟩, by simp only; omega, x_wkd 1 ⟨rfl, trivial⟩ rfl (by repeat (first | exact ag_refl | refine ag_upd rfl ?_ | refine ag_at rfl rfl ?_))⟩
  have hk' : k = o.datas.length := by
    have : ¬ k < o.datas.length := by simpa using h
    omega
  subst hk'
  have hI := hall M hM
  clear h hM hini hall hk
  repeat (first | refine gG ?_ | refine zN1 (fun hlen => ?_) | refine zN2 (fun hlen => ?_) | refine zAl (fun _ => ?_) | refine zBx (fun _ => ?_))
  refine x_loop [12, 13, 14, 15, 16, 17, 18, 36, 37, 38, 39, 40, 41, 42, 43, 44, 45, 46, 47, 48, 49, 50, 51, 52, 53, 54, 55, 56, 57, 58, 59, 60, 61, 62, 63, 64, 65, 66, 67, 68, 69, 70, 71, 72, 73, 74, 75, 76, 77, 78, 79, 80, 81, 82, 83, 84, 85, 86, 87, 88, 89, 90, 91, 92, 93, 94, 95, 96, 97, 98, 99, 100, 101, 102, 103, 104, 105, 106, 107, 108, 109, 110, 111, 112, 113, 114, 115, 116, 117, 118, 119, 120, 121, 122] (fun y : Bool × List (ByteArray × Bool) => [(12, .c (.lit (.bool y.1)))]) (fun y => [.mp c (mkeys Value.string (mapT bT y.2))]) (fun y => INV o w y.2 ∧ (y.1 = false → PF o w (Mkd y.2))) (fun y => 2 * trues y.2 + (if y.1 then 1 else 0)) (true, M) ⟨hI, fun h => by cases h⟩ ⟨rfl, trivial⟩ rfl ?_
  clear hI M
  rintro ⟨t, M⟩ ⟨hI, hP⟩
  dsimp only at hI hP ⊢
  cases t
  · have he := hend M hI (hP rfl)
    have hca := als_nil M c none [.mk ka ta la] [.mk kb tb lb]
    clear hend hI hP hbd hdo hdw hpo hpw
    unfold AlR at hca
    repeat (first | refine gG ?_ | refine zN1 (fun hlen => ?_) | refine zN2 (fun hlen => ?_) | refine zAl (fun _ => ?_) | refine zBx (fun _ => ?_))
    refine zCallG [0] hca ?_
    rintro _ _ ⟨z, rfl, rfl, hz⟩
    refine ⟨.c _, _, re_refl, rfl, rfl, ?_⟩
    repeat (first | refine gG ?_ | refine zN1 (fun hlen => ?_) | refine zN2 (fun hlen => ?_) | refine zAl (fun _ => ?_) | refine zBx (fun _ => ?_))
    first | refine zR ?_ | refine zQ ?_
    exact ⟨z, rfl, hz.trans he⟩
  clear hP hend
  repeat (first | refine gG ?_ | refine zN1 (fun hlen => ?_) | refine zN2 (fun hlen => ?_) | refine zAl (fun _ => ?_) | refine zBx (fun _ => ?_))
  refine zRg 9 4 (fun b' stm st hsl => ?_)
  repeat (first | refine gG ?_ | refine zN1 (fun hlen => ?_) | refine zN2 (fun hlen => ?_) | refine zAl (fun _ => ?_) | refine zBx (fun _ => ?_))
  refine x_loop [12, 13, 14, 15, 16, 17, 18, 39, 40, 41, 42, 43, 44, 45, 46, 47, 48, 49, 50, 51, 52, 53, 54, 55, 56, 57, 58, 59, 60, 61, 62, 63, 64, 65, 66, 67, 68, 69, 70, 71, 72, 73, 74, 75, 76, 77, 78, 79, 80, 81, 82, 83, 84, 85, 86, 87, 88, 89, 90, 91, 92, 93, 94, 95, 96, 97, 98, 99, 100, 101, 102, 103, 104, 105, 106, 107, 108, 109, 110, 111, 112, 113, 114, 115, 116, 117, 118, 119, 120, 121, 122] (fun y : List Nat × Bool × List (ByteArray × Bool) => [(12, .c (.lit (.bool y.2.1)))]) (fun y => [.mpx c (mkeys Value.string (mapT bT y.2.2)) (some (stm, st)), .it b' c stm st y.1]) (fun y => Wlk o w M y.2.2 y.1 y.2.1) (fun y => M.length - y.1.length) ([], false, M) (Wlk.start hI) ⟨rfl, trivial⟩ rfl ?_
  clear hI
  rintro ⟨P, t, M1⟩ hW
  dsimp only at hW ⊢
  have hil := walk_len hW.nodup hW.lt
  have hll := hW.len
  repeat (first | refine gG ?_ | refine zN1 (fun hlen => ?_) | refine zN2 (fun hlen => ?_) | refine zAl (fun _ => ?_) | refine zBx (fun _ => ?_))
  refine zNx 0 (fun hd => ?_) (fun kk u v he hn => ?_)
  · have hfin : t = false → PF o w (Mkd M1) := fun ht => by
      subst ht
      exact hW.done fun q hq => hd q (by rw [mk_len]; exact hq)
    have hless := hW.less
    have hI := hW.inv
    clear hd hW hbd hdo hdw hpo hpw hil hll
    repeat (first | refine gO ?_ | refine zN1 (fun hlen => ?_) | refine zN2 (fun hlen => ?_) | refine zAl (fun _ => ?_) | refine zBx (fun _ => ?_))
    refine x_unit 0 ?_
    repeat (first | refine gG ?_ | refine zN1 (fun hlen => ?_) | refine zN2 (fun hlen => ?_) | refine zAl (fun _ => ?_) | refine zBx (fun _ => ?_))
    exact ⟨(t, M1), ⟨hI, hfin⟩, by simp only [if_true]; cases t <;> simp at hless ⊢ <;> omega, x_wkd 1 ⟨rfl, trivial⟩ rfl (by repeat (first | exact ag_refl | refine ag_upd rfl ?_ | refine ag_at rfl rfl ?_))⟩
  obtain ⟨n, z, hkk, rfl, rfl⟩ := mk_at bT he
  have hkl : kk < M1.length := (List.getElem?_eq_some_iff.1 hkk).1
  have hPl : P.length < M.length := by
    have h := walk_snoc hW.nodup hW.lt (show kk < M.length by omega) hn
    have := walk_len h.1 h.2
    rw [List.length_append] at this
    exact this
  have hkeep := fun hz => hW.keep hkk hn hz
  cases z
  · replace hkeep := hkeep (fun h => by cases h)
    clear hbd hdo hdw hpo hpw hW hkk hkl hn
    repeat (first | refine gG ?_ | refine zN1 (fun hlen => ?_) | refine zN2 (fun hlen => ?_) | refine zAl (fun _ => ?_) | refine zBx (fun _ => ?_))
    refine zEn 0 he ?_
    repeat (first | refine gG ?_ | refine zN1 (fun hlen => ?_) | refine zN2 (fun hlen => ?_) | refine zAl (fun _ => ?_) | refine zBx (fun _ => ?_))
    exact ⟨(P ++ [kk], t, M1), hkeep, by simp only [List.length_append, List.length_singleton]; omega, x_wkd 2 ⟨rfl, trivial⟩ rfl (by repeat (first | exact ag_refl | refine ag_upd rfl ?_ | refine ag_at rfl rfl ?_))⟩
  replace hkeep := fun h => hkeep fun _ => h
  have hstr := fun h => hW.strike hkk hn h
  have hmk : Mkd M1 n := gget_at hW.inv.nodup hkk
  obtain ⟨d, f, hd, hf⟩ := hW.inv.both n hmk
  have hok := POK.all (M := M1) hd hf
  have go := hpo n
  have gw := hpw n
  obtain ⟨i, d', e1, e2, e3⟩ : ∃ (i : Nat) (d' : Da), posD o n = i ∧ o.datas[i]? = some d' ∧ o.data n = some d' := by
    rcases hdo n with ⟨_, h⟩ | h
    · rw [h] at hd; cases hd
    · exact h
  obtain ⟨j, f', q1, q2, q3⟩ : ∃ (j : Nat) (f' : Da), posD w n = j ∧ w.datas[j]? = some f' ∧ w.data n = some f' := by
    rcases hdw n with ⟨_, h⟩ | h
    · rw [h] at hf; cases hf
    · exact h
  rw [hd] at e3
  rw [hf] at q3
  injection e3 with e3
  injection q3 with q3
  subst e3 q3
  rw [e1] at go
  rw [q1] at gw
  have hil' : i < o.datas.length := (List.getElem?_eq_some_iff.1 e2).1
  have hjl' : j < w.datas.length := (List.getElem?_eq_some_iff.1 q2).1
  have hat := Da.at e2
  have hbt := Da.at q2
  have hsome : (mget n (mapT bT M1)).isSome = true := by rw [mget_T, show gget n M1 = some true from hmk]; rfl
  have hput := mput_bT n false M1
  obtain ⟨dn, dps, dms⟩ := d
  obtain ⟨fn, fps, fms⟩ := f
  clear hbd hdo hdw hpo hpw hW hkk hkl hn hd hf e1 e2 q1 q2 hmk
  generalize daOk o w (Mkd M1) n = D at *
  repeat (first | refine gG ?_ | refine zN1 (fun hlen => ?_) | refine zN2 (fun hlen => ?_) | refine zAl (fun _ => ?_) | refine zBx (fun _ => ?_))
  refine zEn 0 he ?_
  repeat (first | refine gG ?_ | refine zN1 (fun hlen => ?_) | refine zN2 (fun hlen => ?_) | refine zAl (fun _ => ?_) | refine zBx (fun _ => ?_))
  refine x_join [15, 16, 46, 47, 48, 49, 50, 51, 52, 53, 54, 55, 56, 57, 58, 59] (fun _ : Unit => [(15, .c (.pin [.lit (.string dn), strRow dps, Mk.row dms] 0)), (16, .c (.pin [.lit (.string fn), strRow fps, Mk.row fms] 0))]) (fun _ => [.mpx c (mkeys Value.string (mapT bT M1)) (some (stm, st)), .it b' c stm st (P ++ [kk])]) ?_ ?_
  rotate_left
  · skip
    refine ac_drawT [1, 1, 1, 1, 1, 1, 1, 0, 0, 0, 0, 1, 0, 0, 3, 3, 2, 2] (.fork [0, 1, 2, 3, 4, 5, 6, 7, 8, 9, 10, 11, 12, 13] 14 (.fin [15, 16, 17]) 15 (.fin [14, 16, 17])) (by kernel_rfl) (by kernel_rfl) ?_
    refine wt_fork ?_
    refine gW ?_
    apply w_q; (focus exact rfl); (focus exact rfl); focus (intro _; (refine zCall go ?_; rintro _ rfl); exact det_refl)
    apply w_q; (focus exact rfl); (focus exact rfl); focus (intro _; (refine zIx i hil' ?_); exact det_refl)
    apply w_q; (focus exact rfl); (focus exact rfl); focus (intro _; (refine zEl hat (Da.ts_len _) ?_); exact det_refl)
    refine gW ?_
    apply w_q; (focus exact rfl); (focus exact rfl); focus (intro _; (refine zCall gw ?_; rintro _ rfl); exact det_refl)
    apply w_p; (focus exact rfl); (focus exact rfl); focus (intro _; (refine zIx j hjl' ?_); exact det_refl)
    apply w_p; (focus exact rfl); (focus exact rfl); focus (intro _; (refine zEl hbt (Da.ts_len _) ?_); exact det_refl)
    refine w_nil ?_
    refine ⟨?_, ?_⟩
    · apply w_a; (focus exact rfl); (focus exact rfl); refine v_alloc tok rfl rfl rfl (fun _ => rfl) (fun _ => ⟨⟨_, rfl⟩, ?_⟩)
      refine w_nil ?_
      refine wt_fin ?_
      apply w_a; (focus exact rfl); (focus exact rfl); refine v_alloc tok rfl rfl rfl (fun _ => rfl) (fun _ => ⟨⟨_, rfl⟩, ?_⟩)
      apply w_l; (focus exact rfl); (focus exact rfl); (refine zS ?_)
      apply w_l; (focus exact rfl); (focus exact rfl); (refine zS ?_)
      refine w_nil ?_
      exact ⟨(), Wk.trans (wk_frzq 15 [.lit (.string dn), strRow dps, Mk.row dms] rfl rfl (by repeat (first | exact rzs_nil | apply rzs_cons | exact rz_c | exact rz_nil rfl | apply rz_agg | exact rz_own rfl | apply rz_fn | exact rz_ptr rfl | apply rz_tup)) rfl rfl) (Wk.trans (wk_frzq 16 [.lit (.string fn), strRow fps, Mk.row fms] rfl rfl (by repeat (first | exact rzs_nil | apply rzs_cons | exact rz_c | exact rz_nil rfl | apply rz_agg | exact rz_own rfl | apply rz_fn | exact rz_ptr rfl | apply rz_tup)) rfl rfl) (x_wkd 2 ⟨rfl, rfl, trivial⟩ rfl (by repeat (first | exact ag_refl | refine ag_upd rfl ?_ | refine ag_at rfl rfl ?_))))⟩
    · apply w_a; (focus exact rfl); (focus exact rfl); refine v_alloc tok rfl rfl rfl (fun _ => rfl) (fun _ => ⟨⟨_, rfl⟩, ?_⟩)
      refine w_nil ?_
      refine wt_fin ?_
      apply w_a; (focus exact rfl); (focus exact rfl); refine v_alloc tok rfl rfl rfl (fun _ => rfl) (fun _ => ⟨⟨_, rfl⟩, ?_⟩)
      apply w_l; (focus exact rfl); (focus exact rfl); (refine zS ?_)
      apply w_l; (focus exact rfl); (focus exact rfl); (refine zS ?_)
      refine w_nil ?_
      exact ⟨(), Wk.trans (wk_frzq 15 [.lit (.string dn), strRow dps, Mk.row dms] rfl rfl (by repeat (first | exact rzs_nil | apply rzs_cons | exact rz_c | exact rz_nil rfl | apply rz_agg | exact rz_own rfl | apply rz_fn | exact rz_ptr rfl | apply rz_tup)) rfl rfl) (Wk.trans (wk_frzq 16 [.lit (.string fn), strRow fps, Mk.row fms] rfl rfl (by repeat (first | exact rzs_nil | apply rzs_cons | exact rz_c | exact rz_nil rfl | apply rz_agg | exact rz_own rfl | apply rz_fn | exact rz_ptr rfl | apply rz_tup)) rfl rfl) (x_wkd 2 ⟨rfl, rfl, trivial⟩ rfl (by repeat (first | exact ag_refl | refine ag_upd rfl ?_ | refine ag_at rfl rfl ?_))))⟩
  rintro ⟨⟩
  clear go gw hat hbt he
  obtain ⟨ok0, hok0⟩ : ∃ z : Bool, z = (bif decide (((dps.length : Nat) : Int) = ((fps.length : Nat) : Int)) then decide (((dms.length : Nat) : Int) = ((fms.length : Nat) : Int)) else false) := ⟨_, rfl⟩
  have hP0 : ok0 = true ↔ POK M1 ⟨dn, dps, dms⟩ ⟨fn, fps, fms⟩ 0 := by
    rw [hok0, Bool.cond_false_right, Bool.and_eq_true, decide_eq_true_iff, decide_eq_true_iff]
    unfold POK
    dsimp only
    constructor
    · exact fun h => ⟨by omega, by omega, fun _ _ _ h => absurd h (Nat.not_lt_zero _)⟩
    · exact fun h => ⟨by omega, by omega⟩
  repeat (first | refine ac_seq ?_ | refine ac_block ?_)
  refine x_join [17, 60, 61, 62, 63, 64, 65, 66, 67, 68, 69, 70, 71, 72, 73, 74, 75] (fun _ : Unit => [(17, .c (.lit (.bool ok0)))]) (fun _ => [.mpx c (mkeys Value.string (mapT bT M1)) (some (stm, st)), .it b' c stm st (P ++ [kk])]) ?_ ?_
  rotate_left
  · cases l1 : decide (((dps.length : Nat) : Int) = ((fps.length : Nat) : Int))
    · rw [l1] at hok0
      obtain rfl : ok0 = false := hok0
      repeat (first | refine gG ?_ | refine zN1 (fun hlen => ?_) | refine zN2 (fun hlen => ?_) | refine zAl (fun _ => ?_) | refine zBx (fun _ => ?_))
      exact ⟨(), x_wkd 2 ⟨rfl, trivial⟩ rfl (by repeat (first | exact ag_refl | refine ag_upd rfl ?_ | refine ag_at rfl rfl ?_))⟩
    · rw [l1] at hok0
      obtain rfl : ok0 = decide (((dms.length : Nat) : Int) = ((fms.length : Nat) : Int)) := hok0
      repeat (first | refine gG ?_ | refine zN1 (fun hlen => ?_) | refine zN2 (fun hlen => ?_) | refine zAl (fun _ => ?_) | refine zBx (fun _ => ?_))
      exact ⟨(), x_wkd 2 ⟨rfl, trivial⟩ rfl (by repeat (first | exact ag_refl | refine ag_upd rfl ?_ | refine ag_at rfl rfl ?_))⟩
  rintro ⟨⟩
  clear hok0
  repeat (first | refine gG ?_ | refine zN1 (fun hlen => ?_) | refine zN2 (fun hlen => ?_) | refine zAl (fun _ => ?_) | refine zBx (fun _ => ?_))
  refine x_loop [17, 18, 76, 77, 78, 79, 80, 81, 82, 83, 84, 85, 86, 87, 88, 89, 90, 91, 92, 93, 94, 95, 96, 97, 98, 99, 100, 101, 102, 103, 104, 105, 106, 107, 108, 109, 110, 111, 112, 113, 114, 115, 116, 117, 118] (fun y : Nat × Bool => [(18, .c (.lit (.int .i64 (y.1 : Nat)))), (17, .c (.lit (.bool y.2)))]) (fun _ => [.mpx c (mkeys Value.string (mapT bT M1)) (some (stm, st)), .it b' c stm st (P ++ [kk])]) (fun y => y.1 ≤ dms.length ∧ (y.2 = true ↔ POK M1 ⟨dn, dps, dms⟩ ⟨fn, fps, fms⟩ y.1)) (fun y => dms.length - y.1) (0, ok0) ⟨Nat.zero_le _, hP0⟩ ⟨rfl, rfl, trivial⟩ rfl ?_
  clear hP0
  rintro ⟨q, ok⟩ ⟨hq, hPq⟩
  dsimp only at hq hPq ⊢
  cases ok
  · have hno : ¬ D := fun h => by
      have := hPq.2 ((hok.1 h).less hq)
      cases this
    replace hstr := hstr hno
    clear hok hPq hkeep
    repeat (first | refine gG ?_ | refine zN1 (fun hlen => ?_) | refine zN2 (fun hlen => ?_) | refine zAl (fun _ => ?_) | refine zBx (fun _ => ?_))
    refine zUpw 9 4 hsome ?_
    repeat (first | refine gG ?_ | refine zN1 (fun hlen => ?_) | refine zN2 (fun hlen => ?_) | refine zAl (fun _ => ?_) | refine zBx (fun _ => ?_))
    exact ⟨(P ++ [kk], true, gput n false M1), hstr, by simp only [List.length_append, List.length_singleton]; omega, x_wkd 2 ⟨rfl, trivial⟩ (by dsimp only; rw [← hput]; rfl) (by repeat (first | exact ag_refl | refine ag_upd rfl ?_ | refine ag_at rfl rfl ?_))⟩
  by_cases hql : q < dms.length
  · have dq : decide (((q : Nat) : Int) < ((dms.length : Nat) : Int)) = true := decide_eq_true (by omega)
    have hp := hPq.1 rfl
    have hqf : q < fms.length := by have := hp.2.1; dsimp only at this; omega
    have hlen : dps.length = fps.length := hp.1
    obtain ⟨m, hm⟩ := nth hql
    obtain ⟨m', hm'⟩ := nth hqf
    have hnx := POK.next (M := M1) (d := ⟨dn, dps, dms⟩) (f := ⟨fn, fps, fms⟩) hm hm'
    obtain ⟨mn, mas⟩ := m
    obtain ⟨mn', mas'⟩ := m'
    obtain ⟨z, hz⟩ := bool_of (Y.lks (Mkd M1) dps fps mas mas')
    have hca := als_at M1 dps fps hlen c (some (stm, st)) mas mas' z hz
    have p0 := partAt Mk.ts_len hm (j := 0) (t := .lit (.string mn)) rfl
    have p1 := partAt Mk.ts_len hm (j := 1) (t := Y.row mas) rfl
    have q0 := partAt Mk.ts_len hm' (j := 0) (t := .lit (.string mn')) rfl
    have q1 := partAt Mk.ts_len hm' (j := 1) (t := Y.row mas') rfl
    have hz2 : mkOk (Mkd M1) dps fps ⟨mn, mas⟩ ⟨mn', mas'⟩ ↔ mn = mn' ∧ z = true := ⟨fun h => ⟨h.1, hz.2 h.2⟩, fun h => ⟨h.1, hz.1 h.2⟩⟩
    dsimp only at hnx
    rw [hz2] at hnx
    clear hm hm' hok hkeep hstr hz hz2 hPq
    cases dm : decide (mn = mn')
    · have hr : (false = true ↔ POK M1 ⟨dn, dps, dms⟩ ⟨fn, fps, fms⟩ (q + 1)) := by
        rw [hnx]
        exact ⟨(fun h => by cases h), fun h => absurd h.2.1 (of_decide_eq_false dm)⟩
      clear hnx hca hp
      repeat (first | refine gG ?_ | refine zN1 (fun hlen => ?_) | refine zN2 (fun hlen => ?_) | refine zAl (fun _ => ?_) | refine zBx (fun _ => ?_))
      refine ac_drawB [0, 1, 0, 7, 15, 31, 0, 64, 0, 448, 960, 1984, 4095, 8191, 16383, 32767, 16383, 131071, 262143, 524287, 16383, 1064959, 16383, 7356415, 15745023, 32522239, 16383, 67125247, 16383, 268451839, 16383, 2147483647, 4294967295, 8589934591] [1, 1, 1, 1, 1, 1, 1, 1, 1, 1, 1, 1, 1, 1, 1, 1, 1, 1, 1, 1, 1, 1, 1, 1, 1, 1, 1, 1, 1, 1, 1, 1, 1, 1] [0, 1, 2, 3, 4, 5, 6, 7, 8, 9, 10, 11, 12, 13, 14, 15, 16, 17, 18, 19, 20, 21, 22, 23, 24, 25, 26, 27, 28, 29, 30, 31, 32, 33] (by kernel_rfl) (by kernel_rfl) ?_
      refine gW ?_
      apply w_q; (focus exact rfl); (focus exact rfl); focus (intro _; (refine zIx q hql ?_); exact det_refl)
      refine gW ?_
      apply w_q; (focus exact rfl); (focus exact rfl); focus (intro _; (refine zEl1 p0 ?_); exact det_refl)
      refine gW ?_
      apply w_q; (focus exact rfl); (focus exact rfl); focus (intro _; (refine zIx q hqf ?_); exact det_refl)
      refine gW ?_
      apply w_q; (focus exact rfl); (focus exact rfl); focus (intro _; (refine zEl1 q0 ?_); exact det_refl)
      refine gW ?_
      refine w_nil ?_
      repeat (first | refine gG ?_ | refine zN1 (fun hlen => ?_) | refine zN2 (fun hlen => ?_) | refine zAl (fun _ => ?_) | refine zBx (fun _ => ?_))
      exact ⟨(q + 1, false), ⟨hql, hr⟩, by simp only; omega, x_wkd 2 ⟨rfl, rfl, trivial⟩ rfl (by repeat (first | exact ag_refl | refine ag_upd rfl ?_ | refine ag_at rfl rfl ?_))⟩
    · have hr : (z = true ↔ POK M1 ⟨dn, dps, dms⟩ ⟨fn, fps, fms⟩ (q + 1)) := by
        rw [hnx]
        exact ⟨fun h => ⟨hp, of_decide_eq_true dm, h⟩, fun h => h.2.2⟩
      clear hnx hp
      repeat (first | refine gG ?_ | refine zN1 (fun hlen => ?_) | refine zN2 (fun hlen => ?_) | refine zAl (fun _ => ?_) | refine zBx (fun _ => ?_))
      refine ac_drawB [0, 1, 0, 7, 15, 31, 0, 64, 0, 448, 960, 1984, 4095, 8191, 16383, 32767, 16383, 131071, 262143, 524287, 16383, 1064959, 16383, 7356415, 15745023, 32522239, 16383, 67125247, 16383, 268451839, 16383, 2147483647, 4294967295, 8589934591] [1, 1, 1, 1, 1, 1, 1, 1, 1, 1, 1, 1, 1, 1, 1, 1, 1, 1, 1, 1, 1, 1, 1, 1, 1, 1, 1, 1, 1, 1, 1, 1, 1, 1] [0, 1, 2, 3, 4, 5, 6, 7, 8, 9, 10, 11, 12, 13, 14, 15, 16, 17, 18, 19, 20, 21, 22, 23, 24, 25, 26, 27, 28, 29, 30, 31, 32, 33] (by kernel_rfl) (by kernel_rfl) ?_
      refine gW ?_
      apply w_q; (focus exact rfl); (focus exact rfl); focus (intro _; (refine zIx q hql ?_); exact det_refl)
      refine gW ?_
      apply w_q; (focus exact rfl); (focus exact rfl); focus (intro _; (refine zEl1 p0 ?_); exact det_refl)
      refine gW ?_
      apply w_q; (focus exact rfl); (focus exact rfl); focus (intro _; (refine zIx q hqf ?_); exact det_refl)
      refine gW ?_
      apply w_q; (focus exact rfl); (focus exact rfl); focus (intro _; (refine zEl1 q0 ?_); exact det_refl)
      refine gW ?_
      try (first | (apply w_un; (focus exact rfl); (focus exact rfl); (focus exact rfl); (focus exact rfl)) | (apply w_no; (focus exact rfl); (focus exact rfl); (focus exact rfl); (focus exact rfl); focus (first | rfl | assumption | exact neg_t (by assumption) | exact neg_f (by assumption))) | (apply w_qg; (focus exact rfl); (focus exact rfl); (focus exact rfl); (focus exact rfl); (focus (first | rfl | assumption | exact neg_t (by assumption) | exact neg_f (by assumption))); (focus (intro _; (refine zIx q hql ?_); exact det_refl))))
      try refine gW ?_
      try (first | (apply w_un; (focus exact rfl); (focus exact rfl); (focus exact rfl); (focus exact rfl)) | (apply w_no; (focus exact rfl); (focus exact rfl); (focus exact rfl); (focus exact rfl); focus (first | rfl | assumption | exact neg_t (by assumption) | exact neg_f (by assumption))) | (apply w_qg; (focus exact rfl); (focus exact rfl); (focus exact rfl); (focus exact rfl); (focus (first | rfl | assumption | exact neg_t (by assumption) | exact neg_f (by assumption))); (focus (intro _; (refine zEl1 p1 ?_); exact det_refl))))
      try refine gW ?_
      try (first | (apply w_un; (focus exact rfl); (focus exact rfl); (focus exact rfl); (focus exact rfl)) | (apply w_no; (focus exact rfl); (focus exact rfl); (focus exact rfl); (focus exact rfl); focus (first | rfl | assumption | exact neg_t (by assumption) | exact neg_f (by assumption))) | (apply w_qg; (focus exact rfl); (focus exact rfl); (focus exact rfl); (focus exact rfl); (focus (first | rfl | assumption | exact neg_t (by assumption) | exact neg_f (by assumption))); (focus (intro _; (refine zIx q hqf ?_); exact det_refl))))
      try refine gW ?_
      try (first | (apply w_un; (focus exact rfl); (focus exact rfl); (focus exact rfl); (focus exact rfl)) | (apply w_no; (focus exact rfl); (focus exact rfl); (focus exact rfl); (focus exact rfl); focus (first | rfl | assumption | exact neg_t (by assumption) | exact neg_f (by assumption))) | (apply w_qg; (focus exact rfl); (focus exact rfl); (focus exact rfl); (focus exact rfl); (focus (first | rfl | assumption | exact neg_t (by assumption) | exact neg_f (by assumption))); (focus (intro _; (refine zEl1 q1 ?_); exact det_refl))))
      try refine gW ?_
      try (first | (apply w_un; (focus exact rfl); (focus exact rfl); (focus exact rfl); (focus exact rfl)) | (apply w_no; (focus exact rfl); (focus exact rfl); (focus exact rfl); (focus exact rfl); focus (first | rfl | assumption | exact neg_t (by assumption) | exact neg_f (by assumption))) | (apply w_qg; (focus exact rfl); (focus exact rfl); (focus exact rfl); (focus exact rfl); (focus (first | rfl | assumption | exact neg_t (by assumption) | exact neg_f (by assumption))); (focus (intro _; (refine zCallR [0] hca (fun _ _ h => h) ?_); exact det_refl))))
      try refine gW ?_
      refine w_nil ?_
      repeat (first | refine gG ?_ | refine zN1 (fun hlen => ?_) | refine zN2 (fun hlen => ?_) | refine zAl (fun _ => ?_) | refine zBx (fun _ => ?_))
      exact ⟨(q + 1, z), ⟨hql, hr⟩, by simp only; omega, x_wkd 2 ⟨rfl, rfl, trivial⟩ rfl (by repeat (first | exact ag_refl | refine ag_upd rfl ?_ | refine ag_at rfl rfl ?_))⟩
  · have dq : decide (((q : Nat) : Int) < ((dms.length : Nat) : Int)) = false := decide_eq_false (by omega)
    have hqe : q = dms.length := by omega
    subst hqe
    have hy : D := hok.2 (hPq.1 rfl)
    replace hkeep := hkeep hy
    clear hok hPq hstr
    repeat (first | refine gG ?_ | refine zN1 (fun hlen => ?_) | refine zN2 (fun hlen => ?_) | refine zAl (fun _ => ?_) | refine zBx (fun _ => ?_))
    exact ⟨(P ++ [kk], t, M1), hkeep, by simp only [List.length_append, List.length_singleton]; omega, x_wkd 2 ⟨rfl, trivial⟩ rfl (by repeat (first | exact ag_refl | refine ag_upd rfl ?_ | refine ag_at rfl rfl ?_))⟩
end Go.Proofs.Ytnkafjkcjpajgaa
namespace Go.Proofs.Ytnkafjkcjpajgaa
open Go.RowKit
set_option maxRecDepth 100000 in
set_option maxHeartbeats 1000000 in
theorem eachY_af (f : FuncId) (l : List Y) (hl : l.length ≤ 1048576) (hf : ∀ a ∈ l, AF Try.prog f [a.t] (· = a.t)) :
    AF Try.prog 127 [Y.row l, .fn (.func f) []] (· = Y.row l) := by
  refine af_enter tok Try.func127 Try.ntmps127 Try.results127 rfl (by kernel_rfl) rfl rfl fun F hX => ?_
  repeat (first | refine gG ?_ | refine zN1 (fun hlen => ?_) | refine zN2 (fun hlen => ?_) | refine zAl (fun _ => ?_) | refine zAp (fun _ => ?_))
  refine x_own 5 69 3 rfl rfl rfl rfl rfl ?_
  refine x_loop [5, 7, 10, 11, 12, 13, 14, 15, 16, 17, 18, 19, 20] (fun y : Nat × Value => [(10, .c (.lit (.int .i64 y.1))), (5, .own 0 y.2)]) (fun y => [.row y.2 69 3 y.1 (Y.all (l.take y.1))]) (fun y => y.1 ≤ l.length) (fun y => l.length - y.1) (0, .slice none 0 0) (Nat.zero_le _) ⟨rfl, rfl, trivial⟩ rfl ?_
  rintro ⟨k, v⟩ hk
  dsimp only at hk ⊢
  repeat (first | refine gG ?_ | refine zN1 (fun hlen => ?_) | refine zN2 (fun hlen => ?_) | refine zAl (fun _ => ?_) | refine zAp (fun _ => ?_))
  refine x_cond rfl (fun h => ?_) (fun h => ?_)
  · have hk' : k < l.length := by simpa using h
    obtain ⟨a, ha⟩ := nth hk'
    have hfa := hf a (List.mem_of_getElem? ha)
    have hsn : Y.all (l.take (k + 1)) = Y.all (l.take k) ++ a.ts := by rw [List.take_add_one, ha, Option.toList_some, Y.all_app, Y.all_one]
    have hat := Y.at ha
    obtain ⟨ka, ta, la⟩ := a
    repeat (first | refine gG ?_ | refine zN1 (fun hlen => ?_) | refine zN2 (fun hlen => ?_) | refine zAl (fun _ => ?_) | refine zAp (fun _ => ?_))
    refine zIx (k) (hk') ?_
    repeat (first | refine gG ?_ | refine zN1 (fun hlen => ?_) | refine zN2 (fun hlen => ?_) | refine zAl (fun _ => ?_) | refine zAp (fun _ => ?_))
    refine zEl (hat) (Y.ts_len _) ?_
    repeat (first | refine gG ?_ | refine zN1 (fun hlen => ?_) | refine zN2 (fun hlen => ?_) | refine zAl (fun _ => ?_) | refine zAp (fun _ => ?_))
    refine zCallc (hfa) ?_
    rintro _ rfl
    repeat (first | refine gG ?_ | refine zN1 (fun hlen => ?_) | refine zN2 (fun hlen => ?_) | refine zAl (fun _ => ?_) | refine zAp (fun _ => ?_))
    exact ⟨(k + 1, _), hk', by simp only; omega, x_wkd 1 ⟨rfl, rfl, trivial⟩ (by simp only [hsn]; rfl) (by repeat (first | exact ag_refl | refine ag_upd rfl ?_ | refine ag_at rfl rfl ?_))⟩
  · have hk' : k = l.length := by have : ¬ k < l.length := by simpa using h
                                  omega
    subst hk'
    repeat (first | refine gG ?_ | refine zN1 (fun hlen => ?_) | refine zN2 (fun hlen => ?_) | refine zAl (fun _ => ?_) | refine zAp (fun _ => ?_))
    first | refine zR ?_ | refine zQ ?_
    simp only [outT, Y.row, List.take_length]
set_option maxRecDepth 100000 in
set_option maxHeartbeats 1000000 in
theorem copyY_af (v : Y) (hv : v.size ≤ 1048576) : AF Try.prog 128 [v.t] (· = v.t) := by
  induction v using Y.ind with
  | h k n l ih =>
    have hlen : l.length ≤ 1048576 := by have := Y.len_sizes l; simp only [Y.size] at hv; omega
    have hcall := eachY_af 128 l hlen (fun a ha => ih a ha (by have := Y.size_mem ha; simp only [Y.size] at hv; omega))
    refine af_enter tok Try.func128 Try.ntmps128 Try.results128 rfl (by kernel_rfl) rfl rfl fun F hX => ?_
    repeat (first | refine gG ?_ | refine zAl (fun _ => ?_) | refine zBx (fun _ => ?_))
    refine zCall (hcall) ?_
    rintro _ rfl
    repeat (first | refine gG ?_ | refine zAl (fun _ => ?_) | refine zBx (fun _ => ?_))
    first | refine zR ?_ | refine zQ ?_
    rfl
set_option maxRecDepth 100000 in
set_option maxHeartbeats 1000000 in
theorem cloneStr_af (l : List ByteArray) (hl : l.length ≤ 1048576) : AF Try.prog 126 [strRow l] (· = strRow l) := by
  refine af_enter tok Try.func126 Try.ntmps126 Try.results126 rfl (by kernel_rfl) rfl rfl fun F hX => ?_
  repeat (first | refine gG ?_ | refine zAp (fun _ => ?_))
  refine zNs (fun b hb => ?_)
  cases b
  · repeat (first | refine gX ?_ | refine zAp (fun _ => ?_))
    refine zBo (fun _ => ?_)
    repeat (first | refine gG ?_ | refine zAp (fun _ => ?_))
    first | refine zR ?_ | refine zQ ?_
    simp only [outT, List.nil_append, Nat.zero_add]
    rfl
  · have h0 := hb rfl
    have : l = [] := List.eq_nil_of_length_eq_zero h0
    subst this
    repeat (first | refine gG ?_ | refine zAp (fun _ => ?_))
    first | refine zR (ts := [strRow []]) ?_ | refine zQ (ts := [strRow []]) ?_
    rfl
theorem re_nil1 {P : Program} {f : FuncId} {sz : Nat} (h0 : 0 < sz) {ts : List T} {R : T → Prop} (h : AF P f (.row 0 sz [] :: ts) R) : AF P f (.lit (.slice none 0 0) :: ts) R :=
  h.re fun M vs hv => by
    simp only [RTs] at hv ⊢
    obtain ⟨v, r, h1, h2, h3⟩ := hv
    exact ⟨v, r, h1, rt_nilrow h0 h2, h3⟩
set_option maxRecDepth 100000 in
theorem eachE0_af (f : FuncId) : AF Try.prog 149 [Ex.row [], .fn (.func f) []] (· = Ex.row []) := by
  refine af_enter tok Try.func149 Try.ntmps149 Try.results149 rfl (by kernel_rfl) rfl rfl fun F hX => ?_
  repeat (first | refine gG ?_ | refine zN1 (fun hlen => ?_) | refine zN2 (fun hlen => ?_) | refine zAl (fun _ => ?_) | refine zAp (fun _ => ?_))
  refine x_own 5 73 8 rfl rfl rfl rfl rfl ?_
  refine x_loop [5, 7, 10, 11, 12, 13, 14, 15, 16, 17, 18, 19, 20] (fun _ : Unit => [(10, .c (.lit (.int .i64 0))), (5, .own 0 (.slice none 0 0))]) (fun _ => [.row (.slice none 0 0) 73 8 0 []]) (fun _ => True) (fun _ => 0) () trivial ⟨rfl, rfl, trivial⟩ rfl ?_
  rintro _ _
  repeat (first | refine gG ?_ | refine zN1 (fun hlen => ?_) | refine zN2 (fun hlen => ?_) | refine zAl (fun _ => ?_) | refine zAp (fun _ => ?_))
  first | refine zR ?_ | refine zQ ?_
  rfl
set_option maxRecDepth 100000 in
theorem eachA0_af (f : FuncId) : AF Try.prog 150 [.row 0 12 [], .fn (.func f) []] (· = .row 0 12 []) := by
  refine af_enter tok Try.func150 Try.ntmps150 Try.results150 rfl (by kernel_rfl) rfl rfl fun F hX => ?_
  repeat (first | refine gG ?_ | refine zN1 (fun hlen => ?_) | refine zN2 (fun hlen => ?_) | refine zAl (fun _ => ?_) | refine zAp (fun _ => ?_))
  refine x_own 5 188 12 rfl rfl rfl rfl rfl ?_
  refine x_loop [5, 7, 10, 11, 12, 13, 14, 15, 16, 17, 18, 19, 20] (fun _ : Unit => [(10, .c (.lit (.int .i64 0))), (5, .own 0 (.slice none 0 0))]) (fun _ => [.row (.slice none 0 0) 188 12 0 []]) (fun _ => True) (fun _ => 0) () trivial ⟨rfl, rfl, trivial⟩ rfl ?_
  rintro _ _
  repeat (first | refine gG ?_ | refine zN1 (fun hlen => ?_) | refine zN2 (fun hlen => ?_) | refine zAl (fun _ => ?_) | refine zAp (fun _ => ?_))
  first | refine zR ?_ | refine zQ ?_
  rfl
def ex0 : Ex := .mk 0 0 ⟨#[]⟩ [] [] [] [] 0
def nilE : List T := [.lit (.int .i64 0), .lit (.int .i64 0), .lit (.string ⟨#[]⟩), .lit (.slice none 0 0), .lit (.slice none 0 0), .lit (.slice none 0 0), .lit (.slice none 0 0), .lit (.int .i64 0)]
set_option maxRecDepth 100000 in
set_option maxHeartbeats 2000000 in
theorem copyE0_af : AF Try.prog 129 [.agg nilE] (· = ex0.t) := by
  have h1 := re_nil1 (by omega) (cloneStr_af [] (by simp))
  have h2 := re_nil1 (by omega) (eachY_af 128 [] (by simp) (fun a h => by cases h))
  have h3 := re_nil1 (by omega) (eachE0_af 129)
  have h4 := re_nil1 (by omega) (eachA0_af 151)
  unfold nilE
  refine af_enter tok Try.func129 Try.ntmps129 Try.results129 rfl (by kernel_rfl) rfl rfl fun F hX => ?_
  repeat (first | refine gG ?_ | refine zAl (fun _ => ?_) | refine zBx (fun _ => ?_))
  refine zCall (h1) ?_
  rintro _ rfl
  repeat (first | refine gG ?_ | refine zAl (fun _ => ?_) | refine zBx (fun _ => ?_))
  refine zCall (h2) ?_
  rintro _ rfl
  repeat (first | refine gG ?_ | refine zAl (fun _ => ?_) | refine zBx (fun _ => ?_))
  refine zCall (h3) ?_
  rintro _ rfl
  repeat (first | refine gG ?_ | refine zAl (fun _ => ?_) | refine zBx (fun _ => ?_))
  refine zCall (h4) ?_
  rintro _ rfl
  repeat (first | refine gG ?_ | refine zAl (fun _ => ?_) | refine zBx (fun _ => ?_))
  first | refine zR ?_ | refine zQ ?_
  rfl
/-- an actor without its body -/
def Ac.bare (a : Ac) : Ac := ⟨a.name, a.names, a.types, a.msg, ex0⟩
set_option maxRecDepth 100000 in
set_option maxHeartbeats 2000000 in
theorem copyA_af (n : ByteArray) (ns : List ByteArray) (ys : List Y) (y : Y) (h1 : ns.length ≤ 1048576) (h2 : Y.sizes ys ≤ 1048576) (h3 : y.size ≤ 1048576) : AF Try.prog 102 [.agg ([.lit (.string n), strRow ns, Y.row ys] ++ y.ts ++ nilE)] (· = (Ac.t ⟨n, ns, ys, y, ex0⟩)) := by
  have c1 := cloneStr_af ns h1
  have c2 := eachY_af 128 ys (by have := Y.len_sizes ys; omega) (fun a ha => copyY_af a (by have := Y.size_mem ha; omega))
  have c3 := copyY_af y h3
  have c4 := copyE0_af
  unfold nilE at *
  obtain ⟨ky, ny, ly⟩ := y
  refine af_enter tok Try.func102 Try.ntmps102 Try.results102 rfl (by kernel_rfl) rfl rfl fun F hX => ?_
  repeat (first | refine gG ?_ | refine zAl (fun _ => ?_) | refine zBx (fun _ => ?_))
  refine zCall (c1) ?_
  rintro _ rfl
  repeat (first | refine gG ?_ | refine zAl (fun _ => ?_) | refine zBx (fun _ => ?_))
  refine ac_draw [1, 1, 1, 1, 1, 1, 1, 1, 1, 1, 2, 1, 2, 1, 2] [0, 1, 2, 3, 4, 5, 6, 7, 8, 9, 10, 11, 12, 13, 14] (by kernel_rfl) (by kernel_rfl) ?_
  refine gW ?_
  apply w_q; (focus exact rfl); (focus exact rfl); focus (intro _; (refine zCall c2 ?_; rintro _ rfl); exact det_refl)
  refine gW ?_
  apply w_q; (focus exact rfl); (focus exact rfl); focus (intro _; (refine zCall c3 ?_; rintro _ rfl); exact det_refl)
  refine gW ?_
  apply w_q; (focus exact rfl); (focus exact rfl); focus (intro _; (refine zCall c4 ?_; rintro _ rfl); exact det_refl)
  refine gW ?_
  apply w_l; (focus exact rfl); (focus exact rfl); (refine zS ?_)
  refine gW ?_
  apply w_l; (focus exact rfl); (focus exact rfl); (refine zS ?_)
  refine gW ?_
  apply w_l; (focus exact rfl); (focus exact rfl); (refine zS ?_)
  refine w_nil ?_
  repeat (first | refine gG ?_ | refine zAl (fun _ => ?_) | refine zBx (fun _ => ?_))
  first | refine zR ?_ | refine zQ ?_
  rfl
end Go.Proofs.Ytnkafjkcjpajgaa
namespace Go.Proofs.Ytnkafjkcjpajgaa
open Go.RowKit
def Pr.actor (p : Pr) (n : ByteArray) : Option Ac := p.actors.find? fun a => decide (a.name = n)
def ac0 : Ac := ⟨⟨#[]⟩, [], [], .mk 0 ⟨#[]⟩ [], ex0⟩
set_option maxRecDepth 100000 in
set_option maxHeartbeats 4000000 in
theorem actor_af (p : Pr) (n : ByteArray) (hp : p.size ≤ 1048576) : AF Try.prog 68 [p.t, .lit (.string n)] (· = .tup [(((p.actor n).map Ac.bare).getD ac0).t, .lit (.bool (p.actor n).isSome)]) := by
  have hsz : ∀ a ∈ p.actors, a.size ≤ 1048576 := fun a ha => by
    have := Ac.size_mem ha
    obtain ⟨pn, pv, us, das, trs, ims, fus, acs⟩ := p
    simp only [Pr.size] at hp
    dsimp only at this
    omega
  obtain ⟨pn, pv, us, das, trs, ims, fus, acs⟩ := p
  unfold Pr.actor
  dsimp only at hsz ⊢
  clear hp
  refine af_enter tok Try.func68 Try.ntmps68 Try.results68 rfl (by kernel_rfl) rfl rfl fun F hX => ?_
  repeat (first | refine gG ?_ | refine zN1 (fun hlen => ?_) | refine zN2 (fun hlen => ?_) | refine zAl (fun _ => ?_) | refine zBf ?_)
  rename_i b0
  refine x_loop [5, 7, 11, 12, 13, 14, 15, 16, 17, 18, 19, 20, 21, 22, 23] (fun k : Nat => [(11, .c (.lit (.int .i64 (k : Nat))))]) (fun _ => [.box b0 75 [.c (.lit (.string ⟨#[]⟩)), .c (.lit (.slice none 0 0)), .c (.lit (.slice none 0 0)), .c (.lit (.int .i64 0)), .c (.lit (.string ⟨#[]⟩)), .c (.lit (.slice none 0 0)), .c (.lit (.int .i64 0)), .c (.lit (.int .i64 0)), .c (.lit (.string ⟨#[]⟩)), .c (.lit (.slice none 0 0)), .c (.lit (.slice none 0 0)), .c (.lit (.slice none 0 0)), .c (.lit (.slice none 0 0)), .c (.lit (.int .i64 0))]])
    (fun k => k ≤ acs.length ∧ acs.find? (fun a => decide (a.name = n)) = (acs.drop k).find? fun a => decide (a.name = n)) (fun k => acs.length - k) 0 ⟨Nat.zero_le _, rfl⟩ ⟨rfl, trivial⟩ rfl fun k hk => ?_
  repeat (first | refine gG ?_ | refine zN1 (fun hlen => ?_) | refine zN2 (fun hlen => ?_) | refine zAl (fun _ => ?_) | refine zBx (fun _ => ?_))
  refine x_cond rfl (fun h => ?_) (fun h => ?_)
  · have hk' : k < acs.length := by simpa using h
    obtain ⟨a, ha⟩ := nth hk'
    have hdr : (acs.drop k).find? (fun a => decide (a.name = n)) = if decide (a.name = n) then some a else (acs.drop (k + 1)).find? fun a => decide (a.name = n) := by
      obtain ⟨h1, rfl⟩ := List.getElem?_eq_some_iff.1 ha
      rw [List.drop_eq_getElem_cons h1, List.find?_cons]
      split <;> simp_all
    have has := hsz a (List.mem_of_getElem? ha)
    have hat := Ac.at ha
    obtain ⟨an, ans, ays, am, ab⟩ := a
    simp only [Ac.size] at has
    have hlen : ans.length ≤ strSize ans := strSize_len ans
    have hca := copyA_af an ans ays am (by omega) (by omega) (by omega)
    dsimp only at hdr
    clear h ha hsz has hlen
    obtain ⟨mk, mn, ml⟩ := am
    obtain ⟨bk, bn, bt, bns, bys, bl, brs, bp⟩ := ab
    cases hq : decide (an = n)
    · have hnx : acs.find? (fun a => decide (a.name = n)) = (acs.drop (k + 1)).find? fun a => decide (a.name = n) := by rw [hk.2, hdr, hq]; rfl
      clear hca hk hdr
      repeat (first | refine gG ?_ | refine zN1 (fun hlen => ?_) | refine zN2 (fun hlen => ?_) | refine zAl (fun _ => ?_) | refine zBx (fun _ => ?_))
      refine zIx (k) (hk') ?_
      repeat (first | refine gG ?_ | refine zN1 (fun hlen => ?_) | refine zN2 (fun hlen => ?_) | refine zAl (fun _ => ?_) | refine zBx (fun _ => ?_))
      refine zEl (hat) (Ac.ts_len _) ?_
      repeat (first | refine gG ?_ | refine zN1 (fun hlen => ?_) | refine zN2 (fun hlen => ?_) | refine zAl (fun _ => ?_) | refine zBx (fun _ => ?_))
      exact ⟨k + 1, ⟨hk', hnx⟩, by omega, x_wkd 1 ⟨rfl, trivial⟩ rfl (by repeat (first | exact ag_refl | refine ag_upd rfl ?_ | refine ag_at rfl rfl ?_))⟩
    · have hf : acs.find? (fun a => decide (a.name = n)) = some ⟨an, ans, ays, .mk mk mn ml, .mk bk bn bt bns bys bl brs bp⟩ := by rw [hk.2, hdr, hq]; rfl
      rw [hf]
      clear hk hdr hf
      unfold nilE at hca
      repeat (first | refine gG ?_ | refine zN1 (fun hlen => ?_) | refine zN2 (fun hlen => ?_) | refine zAl (fun _ => ?_) | refine zBx (fun _ => ?_))
      refine zIx (k) (hk') ?_
      repeat (first | refine gG ?_ | refine zN1 (fun hlen => ?_) | refine zN2 (fun hlen => ?_) | refine zAl (fun _ => ?_) | refine zBx (fun _ => ?_))
      refine zEl (hat) (Ac.ts_len _) ?_
      repeat (first | refine gG ?_ | refine zN1 (fun hlen => ?_) | refine zN2 (fun hlen => ?_) | refine zAl (fun _ => ?_) | refine zBx (fun _ => ?_))
      refine zCall (hca) ?_
      rintro _ rfl
      repeat (first | refine gG ?_ | refine zN1 (fun hlen => ?_) | refine zN2 (fun hlen => ?_) | refine zAl (fun _ => ?_) | refine zBx (fun _ => ?_))
      first | refine zR ?_ | refine zQ ?_
      rfl
  · have hk' : k = acs.length := by have : ¬ k < acs.length := by simpa using h
                                    omega
    subst hk'
    have hf : acs.find? (fun a => decide (a.name = n)) = none := by rw [hk.2, List.drop_length]; rfl
    rw [hf]
    repeat (first | refine gG ?_ | refine zN1 (fun hlen => ?_) | refine zN2 (fun hlen => ?_) | refine zAl (fun _ => ?_) | refine zBx (fun _ => ?_))
    first | refine zR (ts := [ac0.t, .lit (.bool false)]) ?_ | refine zQ (ts := [ac0.t, .lit (.bool false)]) ?_
    rfl
end Go.Proofs.Ytnkafjkcjpajgaa
namespace Go.Proofs.Ytnkafjkcjpajgaa
open Go.RowKit
/-- the data of a type, with the meaning of its parameters -/
def underOf (od : Option Da) (l : List Y) (s : Sc) : Option (Da × Sc) := match od with | some d => if d.params.length = l.length then some (d, .mk d.params l s) else none | none => none
def Pr.under (p : Pr) (y : Y) (s : Sc) : Option (Da × Sc) := underOf (p.data y.name) y.args s
def underT : Option (Da × Sc) → T
  | some (d, s) => .tup [d.t, s.t, .lit (.bool true)]
  | none => .tup [noDa.t, .lit (.pointer none), .lit (.bool false)]
set_option maxRecDepth 100000 in
set_option maxHeartbeats 400000 in
theorem under_af (p : Pr) (y : Y) (s : Sc) : AF Try.prog 161 [p.t, y.t, s.t] (· = underT (p.under y s)) := by
  have hd := data_af p y.name
  unfold Pr.under
  obtain ⟨k, n, l⟩ := y
  dsimp only [Y.name, Y.args] at hd ⊢
  generalize p.data n = od at hd ⊢
  obtain ⟨pn, pv, us, das, trs, ims, fus, acs⟩ := p
  cases s with
  | nil =>
    refine af_enter tok Try.func161 Try.ntmps161 Try.results161 rfl (by kernel_rfl) rfl rfl fun F hX => ?_
    cases od with
    | none =>
      repeat (first | refine gG ?_ | refine zN1 (fun hlen => ?_) | refine zN2 (fun hlen => ?_) | refine zAl (fun _ => ?_) | refine zBx (fun _ => ?_))
      refine zCall (hd) ?_
      rintro _ rfl
      repeat (first | refine gG ?_ | refine zN1 (fun hlen => ?_) | refine zN2 (fun hlen => ?_) | refine zAl (fun _ => ?_) | refine zBx (fun _ => ?_))
      first | refine zR (ts := [noDa.t, .lit (.pointer none), .lit (.bool false)]) ?_ | refine zQ (ts := [noDa.t, .lit (.pointer none), .lit (.bool false)]) ?_
      rfl
    | some d =>
      obtain ⟨dn, dps, mks⟩ := d
      dsimp only [underOf]
      repeat (first | refine gG ?_ | refine zN1 (fun hlen => ?_) | refine zN2 (fun hlen => ?_) | refine zAl (fun _ => ?_) | refine zBx (fun _ => ?_))
      refine zCall (hd) ?_
      rintro _ rfl
      cases e1 : decide ((dps.length : Int) = (l.length : Int))
      · have h1 : ¬ dps.length = l.length := by have := of_decide_eq_false e1; omega
        rw [if_neg h1]
        repeat (first | refine gG ?_ | refine zN1 (fun hlen => ?_) | refine zN2 (fun hlen => ?_) | refine zAl (fun _ => ?_) | refine zBx (fun _ => ?_))
        first | refine zR (ts := [noDa.t, .lit (.pointer none), .lit (.bool false)]) ?_ | refine zQ (ts := [noDa.t, .lit (.pointer none), .lit (.bool false)]) ?_
        rfl
      · have h1 : dps.length = l.length := by have := of_decide_eq_true e1; omega
        rw [if_pos h1]
        repeat (first | refine gG ?_ | refine zN1 (fun hlen => ?_) | refine zN2 (fun hlen => ?_) | refine zAl (fun _ => ?_) | refine zBx (fun _ => ?_))
        refine x_frzb hX 9 [.lit (.string dn), strRow dps, Mk.row mks] ?_
        refine x_frzb hX 4 [.lit (.int .i64 k), .lit (.string n), Y.row l] ?_
        refine ac_draw2 [0, 0, 0, 0, 0, 0, 0, 3, 2, 1, 1] [0, 1, 2, 3, 4, 5, 6] 7 [8, 9, 10] 8 [7, 9, 10] (by kernel_rfl) (by kernel_rfl) ?_
        apply w_p; (focus exact rfl); (focus exact rfl); focus (intro _; (refine zEl rfl rfl ?_); exact det_refl)
        refine gW ?_
        refine w_nil ?_
        refine ⟨?_, ?_⟩
        · apply w_a; (focus exact rfl); (focus exact rfl); refine v_box rfl rfl rfl rfl (fun _ => rfl) (fun _ => ⟨⟨_, rfl⟩, ?_⟩)
          apply w_l; (focus exact rfl); (focus exact rfl); (refine zS ?_)
          refine gW ?_
          refine w_nil ?_
          repeat (first | refine gG ?_ | refine zN1 (fun hlen => ?_) | refine zN2 (fun hlen => ?_) | refine zAl (fun _ => ?_) | refine zBx (fun _ => ?_))
          refine fin_r (ts := [.agg [.lit (.string dn), strRow dps, Mk.row mks], .pin [strRow dps, Y.row l, .lit (.pointer none)] 0, .lit (.bool true)]) (outs_cons ?_ (outs_cons (out_tmp (v := .ptr _ _ _) rfl (rz_ptr rfl)) (outs_cons (out_tmp (v := .c _) rfl rz_c) outs_nil))) ?_
          · apply out_agg; (focus exact rfl); (focus exact rfl); (focus exact rfl); (focus exact rfl); (focus exact rfl); (focus exact rfl); (repeat (first | exact rzs_nil | apply rzs_cons | exact rz_c | exact rz_nil rfl | apply rz_agg | exact rz_own rfl | apply rz_fn | exact rz_ptr rfl | apply rz_tup))
          · rfl
        · apply w_l; (focus exact rfl); (focus exact rfl); (refine zS ?_)
          apply w_a; (focus exact rfl); (focus exact rfl); refine v_box rfl rfl rfl rfl (fun _ => rfl) (fun _ => ⟨⟨_, rfl⟩, ?_⟩)
          refine gW ?_
          refine w_nil ?_
          repeat (first | refine gG ?_ | refine zN1 (fun hlen => ?_) | refine zN2 (fun hlen => ?_) | refine zAl (fun _ => ?_) | refine zBx (fun _ => ?_))
          refine fin_r (ts := [.agg [.lit (.string dn), strRow dps, Mk.row mks], .pin [strRow dps, Y.row l, .lit (.pointer none)] 0, .lit (.bool true)]) (outs_cons ?_ (outs_cons (out_tmp (v := .ptr _ _ _) rfl (rz_ptr rfl)) (outs_cons (out_tmp (v := .c _) rfl rz_c) outs_nil))) ?_
          · apply out_agg; (focus exact rfl); (focus exact rfl); (focus exact rfl); (focus exact rfl); (focus exact rfl); (focus exact rfl); (repeat (first | exact rzs_nil | apply rzs_cons | exact rz_c | exact rz_nil rfl | apply rz_agg | exact rz_own rfl | apply rz_fn | exact rz_ptr rfl | apply rz_tup))
          · rfl
  | mk sp sa so =>
    refine af_enter tok Try.func161 Try.ntmps161 Try.results161 rfl (by kernel_rfl) rfl rfl fun F hX => ?_
    cases od with
    | none =>
      repeat (first | refine gG ?_ | refine zN1 (fun hlen => ?_) | refine zN2 (fun hlen => ?_) | refine zAl (fun _ => ?_) | refine zBx (fun _ => ?_))
      refine zCall (hd) ?_
      rintro _ rfl
      repeat (first | refine gG ?_ | refine zN1 (fun hlen => ?_) | refine zN2 (fun hlen => ?_) | refine zAl (fun _ => ?_) | refine zBx (fun _ => ?_))
      first | refine zR (ts := [noDa.t, .lit (.pointer none), .lit (.bool false)]) ?_ | refine zQ (ts := [noDa.t, .lit (.pointer none), .lit (.bool false)]) ?_
      rfl
    | some d =>
      obtain ⟨dn, dps, mks⟩ := d
      dsimp only [underOf]
      repeat (first | refine gG ?_ | refine zN1 (fun hlen => ?_) | refine zN2 (fun hlen => ?_) | refine zAl (fun _ => ?_) | refine zBx (fun _ => ?_))
      refine zCall (hd) ?_
      rintro _ rfl
      cases e1 : decide ((dps.length : Int) = (l.length : Int))
      · have h1 : ¬ dps.length = l.length := by have := of_decide_eq_false e1; omega
        rw [if_neg h1]
        repeat (first | refine gG ?_ | refine zN1 (fun hlen => ?_) | refine zN2 (fun hlen => ?_) | refine zAl (fun _ => ?_) | refine zBx (fun _ => ?_))
        first | refine zR (ts := [noDa.t, .lit (.pointer none), .lit (.bool false)]) ?_ | refine zQ (ts := [noDa.t, .lit (.pointer none), .lit (.bool false)]) ?_
        rfl
      · have h1 : dps.length = l.length := by have := of_decide_eq_true e1; omega
        rw [if_pos h1]
        repeat (first | refine gG ?_ | refine zN1 (fun hlen => ?_) | refine zN2 (fun hlen => ?_) | refine zAl (fun _ => ?_) | refine zBx (fun _ => ?_))
        refine x_frzb hX 9 [.lit (.string dn), strRow dps, Mk.row mks] ?_
        refine x_frzb hX 4 [.lit (.int .i64 k), .lit (.string n), Y.row l] ?_
        refine ac_draw2 [0, 0, 0, 0, 0, 0, 0, 3, 2, 1, 1] [0, 1, 2, 3, 4, 5, 6] 7 [8, 9, 10] 8 [7, 9, 10] (by kernel_rfl) (by kernel_rfl) ?_
        apply w_p; (focus exact rfl); (focus exact rfl); focus (intro _; (refine zEl rfl rfl ?_); exact det_refl)
        refine gW ?_
        refine w_nil ?_
        refine ⟨?_, ?_⟩
        · apply w_a; (focus exact rfl); (focus exact rfl); refine v_box rfl rfl rfl rfl (fun _ => rfl) (fun _ => ⟨⟨_, rfl⟩, ?_⟩)
          apply w_l; (focus exact rfl); (focus exact rfl); (refine zS ?_)
          refine gW ?_
          refine w_nil ?_
          repeat (first | refine gG ?_ | refine zN1 (fun hlen => ?_) | refine zN2 (fun hlen => ?_) | refine zAl (fun _ => ?_) | refine zBx (fun _ => ?_))
          refine fin_r (ts := [.agg [.lit (.string dn), strRow dps, Mk.row mks], .pin [strRow dps, Y.row l, (Sc.mk sp sa so).t] 0, .lit (.bool true)]) (outs_cons ?_ (outs_cons (out_tmp (v := .ptr _ _ _) rfl (rz_ptr rfl)) (outs_cons (out_tmp (v := .c _) rfl rz_c) outs_nil))) ?_
          · apply out_agg; (focus exact rfl); (focus exact rfl); (focus exact rfl); (focus exact rfl); (focus exact rfl); (focus exact rfl); (repeat (first | exact rzs_nil | apply rzs_cons | exact rz_c | exact rz_nil rfl | apply rz_agg | exact rz_own rfl | apply rz_fn | exact rz_ptr rfl | apply rz_tup))
          · rfl
        · apply w_l; (focus exact rfl); (focus exact rfl); (refine zS ?_)
          apply w_a; (focus exact rfl); (focus exact rfl); refine v_box rfl rfl rfl rfl (fun _ => rfl) (fun _ => ⟨⟨_, rfl⟩, ?_⟩)
          refine gW ?_
          refine w_nil ?_
          repeat (first | refine gG ?_ | refine zN1 (fun hlen => ?_) | refine zN2 (fun hlen => ?_) | refine zAl (fun _ => ?_) | refine zBx (fun _ => ?_))
          refine fin_r (ts := [.agg [.lit (.string dn), strRow dps, Mk.row mks], .pin [strRow dps, Y.row l, (Sc.mk sp sa so).t] 0, .lit (.bool true)]) (outs_cons ?_ (outs_cons (out_tmp (v := .ptr _ _ _) rfl (rz_ptr rfl)) (outs_cons (out_tmp (v := .c _) rfl rz_c) outs_nil))) ?_
          · apply out_agg; (focus exact rfl); (focus exact rfl); (focus exact rfl); (focus exact rfl); (focus exact rfl); (focus exact rfl); (repeat (first | exact rzs_nil | apply rzs_cons | exact rz_c | exact rz_nil rfl | apply rz_agg | exact rz_own rfl | apply rz_fn | exact rz_ptr rfl | apply rz_tup))
          · rfl
end Go.Proofs.Ytnkafjkcjpajgaa
namespace Go.Proofs.Ytnkafjkcjpajgaa
open Go.RowKit
theorem idxI_none {α : Type} {q : α → Bool} {l : List α} (h : idxI q l < 0) : l.find? q = none := by
  unfold idxI at h
  cases h' : l.findIdx? q with
  | none => simpa using h'
  | some i => rw [h'] at h; simp only at h; omega
theorem idxI_some {α : Type} {q : α → Bool} {l : List α} (h : ¬ idxI q l < 0) : ∃ (j : Nat) (a : α), idxI q l = j ∧ l[j]? = some a ∧ l.find? q = some a := by
  unfold idxI at h ⊢
  cases h' : l.findIdx? q with
  | none => rw [h'] at h; simp at h
  | some i =>
    obtain ⟨h1, h2, h3⟩ := List.findIdx?_eq_some_iff_getElem.1 h'
    refine ⟨i, l[i], rfl, List.getElem?_eq_getElem h1, ?_⟩
    rw [List.find?_eq_some_iff_getElem]
    exact ⟨h2, i, h1, rfl, fun j hj => by simpa using h3 j hj⟩
theorem part_at {α : Type} (f : α → List T) (sz : Nat) (hf : ∀ a, (f a).length = sz) {l : List α} {k j : Nat} {x : α} {t : T} (h : l[k]? = some x) (ht : (f x)[j]? = some t) : (l.flatMap f)[k * sz + j]? = some t := by
  have h1 := flat_at f sz hf h
  have hj : j < sz := by rw [← hf x]; exact (List.getElem?_eq_some_iff.1 ht).1
  rw [← h1, List.getElem?_take_of_lt hj, List.getElem?_drop] at ht
  exact ht
set_option maxRecDepth 100000 in
set_option maxHeartbeats 1000000 in
theorem idxMk_af (p : Mk → Bool) (f : FuncId) (cap : List T) (l : List Mk) (hf : ∀ a ∈ l, AF Try.prog f (.agg (Mk.ts a) :: cap) (· = .lit (.bool (p a)))) :
    AF Try.prog 169 [.row l.length 2 (l.flatMap Mk.ts), .fn (.func f) cap] (· = .lit (.int .i64 (idxI p l))) := by
  refine af_enter tok Try.func169 Try.ntmps169 Try.results169 rfl (by kernel_rfl) rfl rfl fun F hX => ?_
  repeat (first | refine gG ?_ | refine zN1 (fun hlen => ?_) | refine zN2 (fun hlen => ?_))
  refine x_loop [4, 5, 8, 9, 10, 11, 12, 13, 14, 15, 16, 17, 18] (fun k : Nat => [(8, .c (.lit (.int .i64 k)))]) (fun _ => []) (fun k => k ≤ l.length ∧ idxAt p l k) (fun k => l.length - k) 0 ⟨Nat.zero_le _, idxAt_zero p l⟩ ⟨rfl, trivial⟩ rfl fun k hk => ?_
  repeat (first | refine gG ?_ | refine zN1 (fun hlen => ?_) | refine zN2 (fun hlen => ?_))
  refine x_cond rfl (fun h => ?_) (fun h => ?_)
  · have hk' : k < l.length := by simpa using h
    obtain ⟨a, ha⟩ := nth hk'
    have hs := hf a (List.mem_of_getElem? ha)
    repeat (first | refine gG ?_ | refine zN1 (fun hlen => ?_) | refine zN2 (fun hlen => ?_))
    refine lo_idx tok k rfl rfl rfl hk' rfl rfl rfl rfl ?_
    repeat (first | refine gG ?_ | refine zN1 (fun hlen => ?_) | refine zN2 (fun hlen => ?_))
    refine lo_load_pin tok rfl rfl rfl (flat_at Mk.ts 2 Mk.ts_len ha) (Mk.ts_len a) ?_
    repeat (first | refine gG ?_ | refine zN1 (fun hlen => ?_) | refine zN2 (fun hlen => ?_))
    refine v_callc hs rfl (by first | exact rzs_cons rz_c rzs_self | (repeat (first | exact rzs_nil | apply rzs_cons | exact rz_c | exact rz_nil rfl | apply rz_agg | exact rz_own rfl | apply rz_fn | exact rz_ptr rfl | apply rz_tup))) ?_
    rintro _ rfl
    cases hp : p a
    · repeat (first | refine gG ?_ | refine zN1 (fun hlen => ?_) | refine zN2 (fun hlen => ?_))
      exact ⟨k + 1, ⟨hk', idxAt_no hk.2 ha hp⟩, by omega, x_wkd 0 ⟨rfl, trivial⟩ rfl (by repeat (first | exact ag_refl | refine ag_upd rfl ?_ | refine ag_at rfl rfl ?_))⟩
    · repeat (first | refine gG ?_ | refine zN1 (fun hlen => ?_) | refine zN2 (fun hlen => ?_))
      first | refine zR ?_ | refine zQ ?_
      rw [idxAt_yes hk.2 ha hp]; rfl
  · have hk' : k = l.length := by have : ¬ k < l.length := by simpa using h
                                  omega
    subst hk'
    repeat (first | refine gG ?_ | refine zN1 (fun hlen => ?_) | refine zN2 (fun hlen => ?_))
    first | refine zR ?_ | refine zQ ?_
    rw [idxAt_end hk.2]; rfl
end Go.Proofs.Ytnkafjkcjpajgaa
