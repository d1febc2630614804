/-
  Texts of this proof, part 9: Vpe Vpf Vpg Tes.
-/
import Derived.Test.YtmdmgpnaiknlaaaQShapeSame8
import Derived.Lib.AppendStr
import Derived.Lib.AppendZerosOnto
import Derived.Lib.MinMax
namespace Go.Proofs.Ytmdmgpnaiknlaaa
open Go.RowKit
theorem partAt {α : Type} {ts : α → List T} {sz : Nat} (hl : ∀ a, (ts a).length = sz) {l : List α} {k : Nat} {a : α} (h : l[k]? = some a) {j : Nat} {t : T} (hj : (ts a)[j]? = some t) : (l.flatMap ts)[k * sz + j]? = some t := by
  have h1 := flat_at ts sz hl h
  have hj' : j < sz := by rw [← hl a]; exact (List.getElem?_eq_some_iff.1 hj).1
  rw [← h1, List.getElem?_take_of_lt hj', List.getElem?_drop] at hj
  exact hj
theorem bool_of (Q : Prop) : ∃ z : Bool, (z = true ↔ Q) := by
  by_cases h : Q
  · exact ⟨true, fun _ => h, fun _ => rfl⟩
  · exact ⟨false, (fun h => by cases h), fun h' => absurd h' h⟩
theorem bool_iff {a b : Bool} {Q : Prop} (h : a = true ↔ Q) (g : b = true ↔ Q) : a = b := by
  cases a <;> cases b <;> simp_all
theorem als_at (M : List (ByteArray × Bool)) (x y : List ByteArray) (hxy : x.length = y.length) (c : Nat) (o : Option (List Nat × Nat)) (l r : List Y) (z : Bool) (hz : z = true ↔ Y.lks (Mkd M) x y l r) :
    AG Try.prog 24 [.c (Y.row l), .c (Y.row r), .c (strRow x), .c (strRow y), .own 0 (.map (some c))] [.mpx c (mkeys Value.string (mapT bT M)) o] (fun r hs => r = .c (.lit (.bool z)) ∧ hs = [.mpx c (mkeys Value.string (mapT bT M)) o]) :=
  (als_all M x y hxy c o l r).imp fun r hs ⟨u, h1, h2, h3⟩ => ⟨by rw [h1, bool_iff h3 hz], h2⟩
theorem als_nil (M : List (ByteArray × Bool)) (c : Nat) (o : Option (List Nat × Nat)) (l r : List Y) :
    AG Try.prog 24 [.c (Y.row l), .c (Y.row r), .c (.lit (.slice none 0 0)), .c (.lit (.slice none 0 0)), .own 0 (.map (some c))] [.mpx c (mkeys Value.string (mapT bT M)) o] (AlR M c o (Y.lks (Mkd M) [] [] l r)) :=
  (als_all M [] [] rfl c o l r).res fun M' us h => by
    simp only [RAs] at h ⊢
    obtain ⟨x1, r1, rfl, h1, x2, r2, rfl, h2, x3, r3, rfl, h3, x4, r4, rfl, h4, x5, r5, rfl, h5, rfl⟩ := h
    exact ⟨x1, _, rfl, h1, x2, _, rfl, h2, x3, _, rfl, rt_nilrow (by omega) h3, x4, _, rfl, rt_nilrow (by omega) h4, x5, _, rfl, h5, rfl⟩
theorem mput_bT (n : ByteArray) (z : Bool) (M : List (ByteArray × Bool)) : mput n (.lit (.bool z)) (mapT bT M) = mapT bT (gput n z M) := mput_T bT n z M
set_option maxRecDepth 100000 in
set_option maxHeartbeats 8000000 in
theorem refShape_af (o w : Pr) (a b : Y) : AF Try.prog 14 [o.t, w.t, a.t, b.t] (fun r => ∃ z : Bool, r = .lit (.bool z) ∧ (z = true ↔ ∃ A, PF o w A ∧ a.lk A [] [] b)) := by
  have hpo := fun n => refData_af o n
  have hpw := fun n => refData_af w n
  have hini := fun k M d => init_next (o := o) (w := w) (k := k) (M := M) (d := d)
  have hall := fun M => init_all (o := o) (w := w) (M := M)
  have hbd := fun M n => INV.both (o := o) (w := w) (M := M) (n := n)
  have hdo := posD_cases o
  have hdw := posD_cases w
  have hend := fun M (h : INV o w M) g => same_end h g a b
  generalize hG : (∃ A, PF o w A ∧ a.lk A [] [] b) = G at *
  clear hG
  obtain ⟨ka, ta, la⟩ := a
  obtain ⟨kb, tb, lb⟩ := b
  refine af_enter tok Try.func14 Try.ntmps14 Try.results14 rfl (by kernel_rfl) rfl rfl fun F hX => ?_
  repeat (first | refine gG ?_ | refine zN1 (fun hlen => ?_) | refine zN2 (fun hlen => ?_) | refine zAl (fun _ => ?_) | refine zBf ?_)
  refine zMm (fun c => ?_)
  repeat (first | refine gG ?_ | refine zN1 (fun hlen => ?_) | refine zN2 (fun hlen => ?_) | refine zAl (fun _ => ?_) | refine zBx (fun _ => ?_))
  refine x_loop [11, 23, 24, 25, 26, 27, 28, 29, 30, 31, 32, 33, 34, 35] (fun y : Nat × List (ByteArray × Bool) => [(23, .c (.lit (.int .i64 (y.1 : Nat))))]) (fun y => [.mp c (mkeys Value.string (mapT bT y.2))]) (fun y => y.1 ≤ o.datas.length ∧ Init o w y.1 y.2) (fun y => o.datas.length - y.1) (0, []) ⟨Nat.zero_le _, init_zero o w⟩ ⟨rfl, trivial⟩ rfl ?_
  rintro ⟨k, M⟩ ⟨hk, hM⟩
  dsimp only at hk hM ⊢
  repeat (first | refine gG ?_ | refine zN1 (fun hlen => ?_) | refine zN2 (fun hlen => ?_) | refine zAl (fun _ => ?_) | refine zBx (fun _ => ?_))
  refine x_cond rfl (fun h => ?_) (fun h => ?_)
  · have hk' : k < o.datas.length := by simpa using h
    obtain ⟨d, hd⟩ := nth hk'
    have hnx := hini k M d hM hd
    have hat := Da.at hd
    have hca := hpw d.name
    have hps := posD_some w d.name
    have hup := mput_bT d.name (decide (0 ≤ posD w d.name)) M
    rw [← hps] at hnx
    obtain ⟨dn, dps, dms⟩ := d
    dsimp only at hnx hca hup
    clear h hd hini hall hbd hdo hdw hend hM hps
    generalize posD w dn = ix at *
    repeat (first | refine gG ?_ | refine zN1 (fun hlen => ?_) | refine zN2 (fun hlen => ?_) | refine zAl (fun _ => ?_) | refine zBx (fun _ => ?_))
    refine zIx (k) (hk') ?_
    repeat (first | refine gG ?_ | refine zN1 (fun hlen => ?_) | refine zN2 (fun hlen => ?_) | refine zAl (fun _ => ?_) | refine zBx (fun _ => ?_))
    refine zEl (hat) (Da.ts_len _) ?_
    repeat (first | refine gG ?_ | refine zN1 (fun hlen => ?_) | refine zN2 (fun hlen => ?_) | refine zAl (fun _ => ?_) | refine zBx (fun _ => ?_))
    refine ac_draw [1, 1, 1, 1, 1, 1, 1, 1, 2] [0, 1, 2, 3, 4, 5, 6, 7, 8] (by kernel_rfl) (by kernel_rfl) ?_
    refine gW ?_
    apply w_q; (focus exact rfl); (focus exact rfl); focus (intro _; (refine zCall hca ?_; rintro _ rfl); exact det_refl)
    refine gW ?_
    apply w_l; (focus exact rfl); (focus exact rfl); (refine zUpt 9 4 hup ?_)
    refine w_nil ?_
    repeat (first | refine gG ?_ | refine zN1 (fun hlen => ?_) | refine zN2 (fun hlen => ?_) | refine zAl (fun _ => ?_) | refine zBx (fun _ => ?_))
    exact ⟨(k + 1, _), ⟨hk', hnx⟩, by simp only; omega, x_wkd 1 ⟨rfl, trivial⟩ rfl (by repeat (first | exact ag_refl | refine ag_upd rfl ?_ | refine ag_at rfl rfl ?_))⟩
  have hk' : k = o.datas.length := by
    have : ¬ k < o.datas.length := by simpa using h
    omega
  subst hk'
  have hI := hall M hM
  clear h hM hini hall hk
  repeat (first | refine gG ?_ | refine zN1 (fun hlen => ?_) | refine zN2 (fun hlen => ?_) | refine zAl (fun _ => ?_) | refine zBx (fun _ => ?_))
  refine x_loop [12, 13, 14, 15, 16, 17, 18, 36, 37, 38, 39, 40, 41, 42, 43, 44, 45, 46, 47, 48, 49, 50, 51, 52, 53, 54, 55, 56, 57, 58, 59, 60, 61, 62, 63, 64, 65, 66, 67, 68, 69, 70, 71, 72, 73, 74, 75, 76, 77, 78, 79, 80, 81, 82, 83, 84, 85, 86, 87, 88, 89, 90, 91, 92, 93, 94, 95, 96, 97, 98, 99, 100, 101, 102, 103, 104, 105, 106, 107, 108, 109, 110, 111, 112, 113, 114, 115, 116, 117, 118, 119, 120, 121, 122] (fun y : Bool × List (ByteArray × Bool) => [(12, .c (.lit (.bool y.1)))]) (fun y => [.mp c (mkeys Value.string (mapT bT y.2))]) (fun y => INV o w y.2 ∧ (y.1 = false → PF o w (Mkd y.2))) (fun y => 2 * trues y.2 + (if y.1 then 1 else 0)) (true, M) ⟨hI, fun h => by cases h⟩ ⟨rfl, trivial⟩ rfl ?_
  clear hI M
  rintro ⟨t, M⟩ ⟨hI, hP⟩
  dsimp only at hI hP ⊢
  cases t
  · have he := hend M hI (hP rfl)
    have hca := als_nil M c none [.mk ka ta la] [.mk kb tb lb]
    clear hend hI hP hbd hdo hdw hpo hpw
    unfold AlR at hca
    repeat (first | refine gG ?_ | refine zN1 (fun hlen => ?_) | refine zN2 (fun hlen => ?_) | refine zAl (fun _ => ?_) | refine zBx (fun _ => ?_))
    refine zCallG [0] hca ?_
    rintro _ _ ⟨z, rfl, rfl, hz⟩
    refine ⟨.c _, _, re_refl, rfl, rfl, ?_⟩
    repeat (first | refine gG ?_ | refine zN1 (fun hlen => ?_) | refine zN2 (fun hlen => ?_) | refine zAl (fun _ => ?_) | refine zBx (fun _ => ?_))
    first | refine zR ?_ | refine zQ ?_
    exact ⟨z, rfl, hz.trans he⟩
  clear hP hend
  repeat (first | refine gG ?_ | refine zN1 (fun hlen => ?_) | refine zN2 (fun hlen => ?_) | refine zAl (fun _ => ?_) | refine zBx (fun _ => ?_))
  refine zRg 9 4 (fun b' stm st hsl => ?_)
  repeat (first | refine gG ?_ | refine zN1 (fun hlen => ?_) | refine zN2 (fun hlen => ?_) | refine zAl (fun _ => ?_) | refine zBx (fun _ => ?_))
  refine x_loop [12, 13, 14, 15, 16, 17, 18, 39, 40, 41, 42, 43, 44, 45, 46, 47, 48, 49, 50, 51, 52, 53, 54, 55, 56, 57, 58, 59, 60, 61, 62, 63, 64, 65, 66, 67, 68, 69, 70, 71, 72, 73, 74, 75, 76, 77, 78, 79, 80, 81, 82, 83, 84, 85, 86, 87, 88, 89, 90, 91, 92, 93, 94, 95, 96, 97, 98, 99, 100, 101, 102, 103, 104, 105, 106, 107, 108, 109, 110, 111, 112, 113, 114, 115, 116, 117, 118, 119, 120, 121, 122] (fun y : List Nat × Bool × List (ByteArray × Bool) => [(12, .c (.lit (.bool y.2.1)))]) (fun y => [.mpx c (mkeys Value.string (mapT bT y.2.2)) (some (stm, st)), .it b' c stm st y.1]) (fun y => Wlk o w M y.2.2 y.1 y.2.1) (fun y => M.length - y.1.length) ([], false, M) (Wlk.start hI) ⟨rfl, trivial⟩ rfl ?_
  clear hI
  rintro ⟨P, t, M1⟩ hW
  dsimp only at hW ⊢
  have hil := walk_len hW.nodup hW.lt
  have hll := hW.len
  repeat (first | refine gG ?_ | refine zN1 (fun hlen => ?_) | refine zN2 (fun hlen => ?_) | refine zAl (fun _ => ?_) | refine zBx (fun _ => ?_))
  refine zNx 0 (fun hd => ?_) (fun kk u v he hn => ?_)
  · have hfin : t = false → PF o w (Mkd M1) := fun ht => by
      subst ht
      exact hW.done fun q hq => hd q (by rw [mk_len]; exact hq)
    have hless := hW.less
    have hI := hW.inv
    clear hd hW hbd hdo hdw hpo hpw hil hll
    repeat (first | refine gO ?_ | refine zN1 (fun hlen => ?_) | refine zN2 (fun hlen => ?_) | refine zAl (fun _ => ?_) | refine zBx (fun _ => ?_))
    refine x_unit 0 ?_
    repeat (first | refine gG ?_ | refine zN1 (fun hlen => ?_) | refine zN2 (fun hlen => ?_) | refine zAl (fun _ => ?_) | refine zBx (fun _ => ?_))
    exact ⟨(t, M1), ⟨hI, hfin⟩, by simp only [if_true]; cases t <;> simp at hless ⊢ <;> omega, x_wkd 1 ⟨rfl, trivial⟩ rfl (by repeat (first | exact ag_refl | refine ag_upd rfl ?_ | refine ag_at rfl rfl ?_))⟩
  obtain ⟨n, z, hkk, rfl, rfl⟩ := mk_at bT he
  have hkl : kk < M1.length := (List.getElem?_eq_some_iff.1 hkk).1
  have hPl : P.length < M.length := by
    have h := walk_snoc hW.nodup hW.lt (show kk < M.length by omega) hn
    have := walk_len h.1 h.2
    rw [List.length_append] at this
    exact this
  have hkeep := fun hz => hW.keep hkk hn hz
  cases z
  · replace hkeep := hkeep (fun h => by cases h)
    clear hbd hdo hdw hpo hpw hW hkk hkl hn
    repeat (first | refine gG ?_ | refine zN1 (fun hlen => ?_) | refine zN2 (fun hlen => ?_) | refine zAl (fun _ => ?_) | refine zBx (fun _ => ?_))
    refine zEn 0 he ?_
    repeat (first | refine gG ?_ | refine zN1 (fun hlen => ?_) | refine zN2 (fun hlen => ?_) | refine zAl (fun _ => ?_) | refine zBx (fun _ => ?_))
    exact ⟨(P ++ [kk], t, M1), hkeep, by simp only [List.length_append, List.length_singleton]; omega, x_wkd 2 ⟨rfl, trivial⟩ rfl (by repeat (first | exact ag_refl | refine ag_upd rfl ?_ | refine ag_at rfl rfl ?_))⟩
  replace hkeep := fun h => hkeep fun _ => h
  have hstr := fun h => hW.strike hkk hn h
  have hmk : Mkd M1 n := gget_at hW.inv.nodup hkk
  obtain ⟨d, f, hd, hf⟩ := hW.inv.both n hmk
  have hok := POK.all (M := M1) hd hf
  have go := hpo n
  have gw := hpw n
  obtain ⟨i, d', e1, e2, e3⟩ : ∃ (i : Nat) (d' : Da), posD o n = i ∧ o.datas[i]? = some d' ∧ o.data n = some d' := by
    rcases hdo n with ⟨_, h⟩ | h
    · rw [h] at hd; cases hd
    · exact h
  obtain ⟨j, f', q1, q2, q3⟩ : ∃ (j : Nat) (f' : Da), posD w n = j ∧ w.datas[j]? = some f' ∧ w.data n = some f' := by
    rcases hdw n with ⟨_, h⟩ | h
    · rw [h] at hf; cases hf
    · exact h
  rw [hd] at e3
  rw [hf] at q3
  injection e3 with e3
  injection q3 with q3
  subst e3 q3
  rw [e1] at go
  rw [q1] at gw
  have hil' : i < o.datas.length := (List.getElem?_eq_some_iff.1 e2).1
  have hjl' : j < w.datas.length := (List.getElem?_eq_some_iff.1 q2).1
  have hat := Da.at e2
  have hbt := Da.at q2
  have hsome : (mget n (mapT bT M1)).isSome = true := by rw [mget_T, show gget n M1 = some true from hmk]; rfl
  have hput := mput_bT n false M1
  obtain ⟨dn, dps, dms⟩ := d
  obtain ⟨fn, fps, fms⟩ := f
  clear hbd hdo hdw hpo hpw hW hkk hkl hn hd hf e1 e2 q1 q2 hmk
  generalize daOk o w (Mkd M1) n = D at *
  repeat (first | refine gG ?_ | refine zN1 (fun hlen => ?_) | refine zN2 (fun hlen => ?_) | refine zAl (fun _ => ?_) | refine zBx (fun _ => ?_))
  refine zEn 0 he ?_
  repeat (first | refine gG ?_ | refine zN1 (fun hlen => ?_) | refine zN2 (fun hlen => ?_) | refine zAl (fun _ => ?_) | refine zBx (fun _ => ?_))
  refine x_join [15, 16, 46, 47, 48, 49, 50, 51, 52, 53, 54, 55, 56, 57, 58, 59] (fun _ : Unit => [(15, .c (.pin [.lit (.string dn), strRow dps, Mk.row dms] 0)), (16, .c (.pin [.lit (.string fn), strRow fps, Mk.row fms] 0))]) (fun _ => [.mpx c (mkeys Value.string (mapT bT M1)) (some (stm, st)), .it b' c stm st (P ++ [kk])]) ?_ ?_
  rotate_left
  · skip
    refine ac_drawT [1, 1, 1, 1, 1, 1, 1, 0, 0, 0, 0, 1, 0, 0, 3, 3, 2, 2] (.fork [0, 1, 2, 3, 4, 5, 6, 7, 8, 9, 10, 11, 12, 13] 14 (.fin [15, 16, 17]) 15 (.fin [14, 16, 17])) (by kernel_rfl) (by kernel_rfl) ?_
    refine wt_fork ?_
    refine gW ?_
    apply w_q; (focus exact rfl); (focus exact rfl); focus (intro _; (refine zCall go ?_; rintro _ rfl); exact det_refl)
    apply w_q; (focus exact rfl); (focus exact rfl); focus (intro _; (refine zIx i hil' ?_); exact det_refl)
    apply w_q; (focus exact rfl); (focus exact rfl); focus (intro _; (refine zEl hat (Da.ts_len _) ?_); exact det_refl)
    refine gW ?_
    apply w_q; (focus exact rfl); (focus exact rfl); focus (intro _; (refine zCall gw ?_; rintro _ rfl); exact det_refl)
    apply w_p; (focus exact rfl); (focus exact rfl); focus (intro _; (refine zIx j hjl' ?_); exact det_refl)
    apply w_p; (focus exact rfl); (focus exact rfl); focus (intro _; (refine zEl hbt (Da.ts_len _) ?_); exact det_refl)
    refine w_nil ?_
    refine ⟨?_, ?_⟩
    · apply w_a; (focus exact rfl); (focus exact rfl); refine v_alloc tok rfl rfl rfl (fun _ => rfl) (fun _ => ⟨⟨_, rfl⟩, ?_⟩)
      refine w_nil ?_
      refine wt_fin ?_
      apply w_a; (focus exact rfl); (focus exact rfl); refine v_alloc tok rfl rfl rfl (fun _ => rfl) (fun _ => ⟨⟨_, rfl⟩, ?_⟩)
      apply w_l; (focus exact rfl); (focus exact rfl); (refine zS ?_)
      apply w_l; (focus exact rfl); (focus exact rfl); (refine zS ?_)
      refine w_nil ?_
      exact ⟨(), Wk.trans (wk_frzq 15 [.lit (.string dn), strRow dps, Mk.row dms] rfl rfl (by repeat (first | exact rzs_nil | apply rzs_cons | exact rz_c | exact rz_nil rfl | apply rz_agg | exact rz_own rfl | apply rz_fn | exact rz_ptr rfl | apply rz_tup)) rfl rfl) (Wk.trans (wk_frzq 16 [.lit (.string fn), strRow fps, Mk.row fms] rfl rfl (by repeat (first | exact rzs_nil | apply rzs_cons | exact rz_c | exact rz_nil rfl | apply rz_agg | exact rz_own rfl | apply rz_fn | exact rz_ptr rfl | apply rz_tup)) rfl rfl) (x_wkd 2 ⟨rfl, rfl, trivial⟩ rfl (by repeat (first | exact ag_refl | refine ag_upd rfl ?_ | refine ag_at rfl rfl ?_))))⟩
    · apply w_a; (focus exact rfl); (focus exact rfl); refine v_alloc tok rfl rfl rfl (fun _ => rfl) (fun _ => ⟨⟨_, rfl⟩, ?_⟩)
      refine w_nil ?_
      refine wt_fin ?_
      apply w_a; (focus exact rfl); (focus exact rfl); refine v_alloc tok rfl rfl rfl (fun _ => rfl) (fun _ => ⟨⟨_, rfl⟩, ?_⟩)
      apply w_l; (focus exact rfl); (focus exact rfl); (refine zS ?_)
      apply w_l; (focus exact rfl); (focus exact rfl); (refine zS ?_)
      refine w_nil ?_
      exact ⟨(), Wk.trans (wk_frzq 15 [.lit (.string dn), strRow dps, Mk.row dms] rfl rfl (by repeat (first | exact rzs_nil | apply rzs_cons | exact rz_c | exact rz_nil rfl | apply rz_agg | exact rz_own rfl | apply rz_fn | exact rz_ptr rfl | apply rz_tup)) rfl rfl) (Wk.trans (wk_frzq 16 [.lit (.string fn), strRow fps, Mk.row fms] rfl rfl (by repeat (first | exact rzs_nil | apply rzs_cons | exact rz_c | exact rz_nil rfl | apply rz_agg | exact rz_own rfl | apply rz_fn | exact rz_ptr rfl | apply rz_tup)) rfl rfl) (x_wkd 2 ⟨rfl, rfl, trivial⟩ rfl (by repeat (first | exact ag_refl | refine ag_upd rfl ?_ | refine ag_at rfl rfl ?_))))⟩
  rintro ⟨⟩
  clear go gw hat hbt he
  obtain ⟨ok0, hok0⟩ : ∃ z : Bool, z = (bif decide (((dps.length : Nat) : Int) = ((fps.length : Nat) : Int)) then decide (((dms.length : Nat) : Int) = ((fms.length : Nat) : Int)) else false) := ⟨_, rfl⟩
  have hP0 : ok0 = true ↔ POK M1 ⟨dn, dps, dms⟩ ⟨fn, fps, fms⟩ 0 := by
    rw [hok0, Bool.cond_false_right, Bool.and_eq_true, decide_eq_true_iff, decide_eq_true_iff]
    unfold POK
    dsimp only
    constructor
    · exact fun h => ⟨by omega, by omega, fun _ _ _ h => absurd h (Nat.not_lt_zero _)⟩
    · exact fun h => ⟨by omega, by omega⟩
  repeat (first | refine ac_seq ?_ | refine ac_block ?_)
  refine x_join [17, 60, 61, 62, 63, 64, 65, 66, 67, 68, 69, 70, 71, 72, 73, 74, 75] (fun _ : Unit => [(17, .c (.lit (.bool ok0)))]) (fun _ => [.mpx c (mkeys Value.string (mapT bT M1)) (some (stm, st)), .it b' c stm st (P ++ [kk])]) ?_ ?_
  rotate_left
  · cases l1 : decide (((dps.length : Nat) : Int) = ((fps.length : Nat) : Int))
    · rw [l1] at hok0
      obtain rfl : ok0 = false := hok0
      repeat (first | refine gG ?_ | refine zN1 (fun hlen => ?_) | refine zN2 (fun hlen => ?_) | refine zAl (fun _ => ?_) | refine zBx (fun _ => ?_))
      exact ⟨(), x_wkd 2 ⟨rfl, trivial⟩ rfl (by repeat (first | exact ag_refl | refine ag_upd rfl ?_ | refine ag_at rfl rfl ?_))⟩
    · rw [l1] at hok0
      obtain rfl : ok0 = decide (((dms.length : Nat) : Int) = ((fms.length : Nat) : Int)) := hok0
      repeat (first | refine gG ?_ | refine zN1 (fun hlen => ?_) | refine zN2 (fun hlen => ?_) | refine zAl (fun _ => ?_) | refine zBx (fun _ => ?_))
      exact ⟨(), x_wkd 2 ⟨rfl, trivial⟩ rfl (by repeat (first | exact ag_refl | refine ag_upd rfl ?_ | refine ag_at rfl rfl ?_))⟩
  rintro ⟨⟩
  clear hok0
  repeat (first | refine gG ?_ | refine zN1 (fun hlen => ?_) | refine zN2 (fun hlen => ?_) | refine zAl (fun _ => ?_) | refine zBx (fun _ => ?_))
  refine x_loop [17, 18, 76, 77, 78, 79, 80, 81, 82, 83, 84, 85, 86, 87, 88, 89, 90, 91, 92, 93, 94, 95, 96, 97, 98, 99, 100, 101, 102, 103, 104, 105, 106, 107, 108, 109, 110, 111, 112, 113, 114, 115, 116, 117, 118] (fun y : Nat × Bool => [(18, .c (.lit (.int .i64 (y.1 : Nat)))), (17, .c (.lit (.bool y.2)))]) (fun _ => [.mpx c (mkeys Value.string (mapT bT M1)) (some (stm, st)), .it b' c stm st (P ++ [kk])]) (fun y => y.1 ≤ dms.length ∧ (y.2 = true ↔ POK M1 ⟨dn, dps, dms⟩ ⟨fn, fps, fms⟩ y.1)) (fun y => dms.length - y.1) (0, ok0) ⟨Nat.zero_le _, hP0⟩ ⟨rfl, rfl, trivial⟩ rfl ?_
  clear hP0
  rintro ⟨q, ok⟩ ⟨hq, hPq⟩
  dsimp only at hq hPq ⊢
  cases ok
  · have hno : ¬ D := fun h => by
      have := hPq.2 ((hok.1 h).less hq)
      cases this
    replace hstr := hstr hno
    clear hok hPq hkeep
    repeat (first | refine gG ?_ | refine zN1 (fun hlen => ?_) | refine zN2 (fun hlen => ?_) | refine zAl (fun _ => ?_) | refine zBx (fun _ => ?_))
    refine zUpw 9 4 hsome ?_
    repeat (first | refine gG ?_ | refine zN1 (fun hlen => ?_) | refine zN2 (fun hlen => ?_) | refine zAl (fun _ => ?_) | refine zBx (fun _ => ?_))
    exact ⟨(P ++ [kk], true, gput n false M1), hstr, by simp only [List.length_append, List.length_singleton]; omega, x_wkd 2 ⟨rfl, trivial⟩ (by dsimp only; rw [← hput]; rfl) (by repeat (first | exact ag_refl | refine ag_upd rfl ?_ | refine ag_at rfl rfl ?_))⟩
  by_cases hql : q < dms.length
  · have dq : decide (((q : Nat) : Int) < ((dms.length : Nat) : Int)) = true := decide_eq_true (by omega)
    have hp := hPq.1 rfl
    have hqf : q < fms.length := by have := hp.2.1; dsimp only at this; omega
    have hlen : dps.length = fps.length := hp.1
    obtain ⟨m, hm⟩ := nth hql
    obtain ⟨m', hm'⟩ := nth hqf
    have hnx := POK.next (M := M1) (d := ⟨dn, dps, dms⟩) (f := ⟨fn, fps, fms⟩) hm hm'
    obtain ⟨mn, mas⟩ := m
    obtain ⟨mn', mas'⟩ := m'
    obtain ⟨z, hz⟩ := bool_of (Y.lks (Mkd M1) dps fps mas mas')
    have hca := als_at M1 dps fps hlen c (some (stm, st)) mas mas' z hz
    have p0 := partAt Mk.ts_len hm (j := 0) (t := .lit (.string mn)) rfl
    have p1 := partAt Mk.ts_len hm (j := 1) (t := Y.row mas) rfl
    have q0 := partAt Mk.ts_len hm' (j := 0) (t := .lit (.string mn')) rfl
    have q1 := partAt Mk.ts_len hm' (j := 1) (t := Y.row mas') rfl
    have hz2 : mkOk (Mkd M1) dps fps ⟨mn, mas⟩ ⟨mn', mas'⟩ ↔ mn = mn' ∧ z = true := ⟨fun h => ⟨h.1, hz.2 h.2⟩, fun h => ⟨h.1, hz.1 h.2⟩⟩
    dsimp only at hnx
    rw [hz2] at hnx
    clear hm hm' hok hkeep hstr hz hz2 hPq
    cases dm : decide (mn = mn')
    · have hr : (false = true ↔ POK M1 ⟨dn, dps, dms⟩ ⟨fn, fps, fms⟩ (q + 1)) := by
        rw [hnx]
        exact ⟨(fun h => by cases h), fun h => absurd h.2.1 (of_decide_eq_false dm)⟩
      clear hnx hca hp
      repeat (first | refine gG ?_ | refine zN1 (fun hlen => ?_) | refine zN2 (fun hlen => ?_) | refine zAl (fun _ => ?_) | refine zBx (fun _ => ?_))
      refine ac_drawB [0, 1, 0, 7, 15, 31, 0, 64, 0, 448, 960, 1984, 4095, 8191, 16383, 32767, 16383, 131071, 262143, 524287, 16383, 1064959, 16383, 7356415, 15745023, 32522239, 16383, 67125247, 16383, 268451839, 16383, 2147483647, 4294967295, 8589934591] [1, 1, 1, 1, 1, 1, 1, 1, 1, 1, 1, 1, 1, 1, 1, 1, 1, 1, 1, 1, 1, 1, 1, 1, 1, 1, 1, 1, 1, 1, 1, 1, 1, 1] [0, 1, 2, 3, 4, 5, 6, 7, 8, 9, 10, 11, 12, 13, 14, 15, 16, 17, 18, 19, 20, 21, 22, 23, 24, 25, 26, 27, 28, 29, 30, 31, 32, 33] (by kernel_rfl) (by kernel_rfl) ?_
      refine gW ?_
      apply w_q; (focus exact rfl); (focus exact rfl); focus (intro _; (refine zIx q hql ?_); exact det_refl)
      refine gW ?_
      apply w_q; (focus exact rfl); (focus exact rfl); focus (intro _; (refine zEl1 p0 ?_); exact det_refl)
      refine gW ?_
      apply w_q; (focus exact rfl); (focus exact rfl); focus (intro _; (refine zIx q hqf ?_); exact det_refl)
      refine gW ?_
      apply w_q; (focus exact rfl); (focus exact rfl); focus (intro _; (refine zEl1 q0 ?_); exact det_refl)
      refine gW ?_
      refine w_nil ?_
      repeat (first | refine gG ?_ | refine zN1 (fun hlen => ?_) | refine zN2 (fun hlen => ?_) | refine zAl (fun _ => ?_) | refine zBx (fun _ => ?_))
      exact ⟨(q + 1, false), ⟨hql, hr⟩, by simp only; omega, x_wkd 2 ⟨rfl, rfl, trivial⟩ rfl (by repeat (first | exact ag_refl | refine ag_upd rfl ?_ | refine ag_at rfl rfl ?_))⟩
    · have hr : (z = true ↔ POK M1 ⟨dn, dps, dms⟩ ⟨fn, fps, fms⟩ (q + 1)) := by
        rw [hnx]
        exact ⟨fun h => ⟨hp, of_decide_eq_true dm, h⟩, fun h => h.2.2⟩
      clear hnx hp
      repeat (first | refine gG ?_ | refine zN1 (fun hlen => ?_) | refine zN2 (fun hlen => ?_) | refine zAl (fun _ => ?_) | refine zBx (fun _ => ?_))
      refine ac_drawB [0, 1, 0, 7, 15, 31, 0, 64, 0, 448, 960, 1984, 4095, 8191, 16383, 32767, 16383, 131071, 262143, 524287, 16383, 1064959, 16383, 7356415, 15745023, 32522239, 16383, 67125247, 16383, 268451839, 16383, 2147483647, 4294967295, 8589934591] [1, 1, 1, 1, 1, 1, 1, 1, 1, 1, 1, 1, 1, 1, 1, 1, 1, 1, 1, 1, 1, 1, 1, 1, 1, 1, 1, 1, 1, 1, 1, 1, 1, 1] [0, 1, 2, 3, 4, 5, 6, 7, 8, 9, 10, 11, 12, 13, 14, 15, 16, 17, 18, 19, 20, 21, 22, 23, 24, 25, 26, 27, 28, 29, 30, 31, 32, 33] (by kernel_rfl) (by kernel_rfl) ?_
      refine gW ?_
      apply w_q; (focus exact rfl); (focus exact rfl); focus (intro _; (refine zIx q hql ?_); exact det_refl)
      refine gW ?_
      apply w_q; (focus exact rfl); (focus exact rfl); focus (intro _; (refine zEl1 p0 ?_); exact det_refl)
      refine gW ?_
      apply w_q; (focus exact rfl); (focus exact rfl); focus (intro _; (refine zIx q hqf ?_); exact det_refl)
      refine gW ?_
      apply w_q; (focus exact rfl); (focus exact rfl); focus (intro _; (refine zEl1 q0 ?_); exact det_refl)
      refine gW ?_
      try (first | (apply w_un; (focus exact rfl); (focus exact rfl); (focus exact rfl); (focus exact rfl)) | (apply w_no; (focus exact rfl); (focus exact rfl); (focus exact rfl); (focus exact rfl); focus (first | rfl | assumption | exact neg_t (by assumption) | exact neg_f (by assumption))) | (apply w_qg; (focus exact rfl); (focus exact rfl); (focus exact rfl); (focus exact rfl); (focus (first | rfl | assumption | exact neg_t (by assumption) | exact neg_f (by assumption))); (focus (intro _; (refine zIx q hql ?_); exact det_refl))))
      try refine gW ?_
      try (first | (apply w_un; (focus exact rfl); (focus exact rfl); (focus exact rfl); (focus exact rfl)) | (apply w_no; (focus exact rfl); (focus exact rfl); (focus exact rfl); (focus exact rfl); focus (first | rfl | assumption | exact neg_t (by assumption) | exact neg_f (by assumption))) | (apply w_qg; (focus exact rfl); (focus exact rfl); (focus exact rfl); (focus exact rfl); (focus (first | rfl | assumption | exact neg_t (by assumption) | exact neg_f (by assumption))); (focus (intro _; (refine zEl1 p1 ?_); exact det_refl))))
      try refine gW ?_
      try (first | (apply w_un; (focus exact rfl); (focus exact rfl); (focus exact rfl); (focus exact rfl)) | (apply w_no; (focus exact rfl); (focus exact rfl); (focus exact rfl); (focus exact rfl); focus (first | rfl | assumption | exact neg_t (by assumption) | exact neg_f (by assumption))) | (apply w_qg; (focus exact rfl); (focus exact rfl); (focus exact rfl); (focus exact rfl); (focus (first | rfl | assumption | exact neg_t (by assumption) | exact neg_f (by assumption))); (focus (intro _; (refine zIx q hqf ?_); exact det_refl))))
      try refine gW ?_
      try (first | (apply w_un; (focus exact rfl); (focus exact rfl); (focus exact rfl); (focus exact rfl)) | (apply w_no; (focus exact rfl); (focus exact rfl); (focus exact rfl); (focus exact rfl); focus (first | rfl | assumption | exact neg_t (by assumption) | exact neg_f (by assumption))) | (apply w_qg; (focus exact rfl); (focus exact rfl); (focus exact rfl); (focus exact rfl); (focus (first | rfl | assumption | exact neg_t (by assumption) | exact neg_f (by assumption))); (focus (intro _; (refine zEl1 q1 ?_); exact det_refl))))
      try refine gW ?_
      try (first | (apply w_un; (focus exact rfl); (focus exact rfl); (focus exact rfl); (focus exact rfl)) | (apply w_no; (focus exact rfl); (focus exact rfl); (focus exact rfl); (focus exact rfl); focus (first | rfl | assumption | exact neg_t (by assumption) | exact neg_f (by assumption))) | (apply w_qg; (focus exact rfl); (focus exact rfl); (focus exact rfl); (focus exact rfl); (focus (first | rfl | assumption | exact neg_t (by assumption) | exact neg_f (by assumption))); (focus (intro _; (refine zCallR [0] hca (fun _ _ h => h) ?_); exact det_refl))))
      try refine gW ?_
      refine w_nil ?_
      repeat (first | refine gG ?_ | refine zN1 (fun hlen => ?_) | refine zN2 (fun hlen => ?_) | refine zAl (fun _ => ?_) | refine zBx (fun _ => ?_))
      exact ⟨(q + 1, z), ⟨hql, hr⟩, by simp only; omega, x_wkd 2 ⟨rfl, rfl, trivial⟩ rfl (by repeat (first | exact ag_refl | refine ag_upd rfl ?_ | refine ag_at rfl rfl ?_))⟩
  · have dq : decide (((q : Nat) : Int) < ((dms.length : Nat) : Int)) = false := decide_eq_false (by omega)
    have hqe : q = dms.length := by omega
    subst hqe
    have hy : D := hok.2 (hPq.1 rfl)
    replace hkeep := hkeep hy
    clear hok hPq hstr
    repeat (first | refine gG ?_ | refine zN1 (fun hlen => ?_) | refine zN2 (fun hlen => ?_) | refine zAl (fun _ => ?_) | refine zBx (fun _ => ?_))
    exact ⟨(P ++ [kk], t, M1), hkeep, by simp only [List.length_append, List.length_singleton]; omega, x_wkd 2 ⟨rfl, trivial⟩ rfl (by repeat (first | exact ag_refl | refine ag_upd rfl ?_ | refine ag_at rfl rfl ?_))⟩
end Go.Proofs.Ytmdmgpnaiknlaaa
namespace Go.Proofs.Ytmdmgpnaiknlaaa
open Go.RowKit
set_option maxRecDepth 100000 in
set_option maxHeartbeats 1000000 in
theorem eachY_af (f : FuncId) (l : List Y) (hl : l.length ≤ 1048576) (hf : ∀ a ∈ l, AF Try.prog f [a.t] (· = a.t)) :
    AF Try.prog 36 [Y.row l, .fn (.func f) []] (· = Y.row l) := by
  refine af_enter tok Try.func36 Try.ntmps36 Try.results36 rfl (by kernel_rfl) rfl rfl fun F hX => ?_
  repeat (first | refine gG ?_ | refine zN1 (fun hlen => ?_) | refine zN2 (fun hlen => ?_) | refine zAl (fun _ => ?_) | refine zAp (fun _ => ?_))
  refine x_own 5 32 3 rfl rfl rfl rfl rfl ?_
  refine x_loop [5, 7, 10, 11, 12, 13, 14, 15, 16, 17, 18, 19, 20] (fun y : Nat × Value => [(10, .c (.lit (.int .i64 y.1))), (5, .own 0 y.2)]) (fun y => [.row y.2 32 3 y.1 (Y.all (l.take y.1))]) (fun y => y.1 ≤ l.length) (fun y => l.length - y.1) (0, .slice none 0 0) (Nat.zero_le _) ⟨rfl, rfl, trivial⟩ rfl ?_
  rintro ⟨k, v⟩ hk
  dsimp only at hk ⊢
  repeat (first | refine gG ?_ | refine zN1 (fun hlen => ?_) | refine zN2 (fun hlen => ?_) | refine zAl (fun _ => ?_) | refine zAp (fun _ => ?_))
  refine x_cond rfl (fun h => ?_) (fun h => ?_)
  · have hk' : k < l.length := by simpa using h
    obtain ⟨a, ha⟩ := nth hk'
    have hfa := hf a (List.mem_of_getElem? ha)
    have hsn : Y.all (l.take (k + 1)) = Y.all (l.take k) ++ a.ts := by rw [List.take_add_one, ha, Option.toList_some, Y.all_app, Y.all_one]
    have hat := Y.at ha
    obtain ⟨ka, ta, la⟩ := a
    repeat (first | refine gG ?_ | refine zN1 (fun hlen => ?_) | refine zN2 (fun hlen => ?_) | refine zAl (fun _ => ?_) | refine zAp (fun _ => ?_))
    refine zIx (k) (hk') ?_
    repeat (first | refine gG ?_ | refine zN1 (fun hlen => ?_) | refine zN2 (fun hlen => ?_) | refine zAl (fun _ => ?_) | refine zAp (fun _ => ?_))
    refine zEl (hat) (Y.ts_len _) ?_
    repeat (first | refine gG ?_ | refine zN1 (fun hlen => ?_) | refine zN2 (fun hlen => ?_) | refine zAl (fun _ => ?_) | refine zAp (fun _ => ?_))
    refine zCallc (hfa) ?_
    rintro _ rfl
    repeat (first | refine gG ?_ | refine zN1 (fun hlen => ?_) | refine zN2 (fun hlen => ?_) | refine zAl (fun _ => ?_) | refine zAp (fun _ => ?_))
    exact ⟨(k + 1, _), hk', by simp only; omega, x_wkd 1 ⟨rfl, rfl, trivial⟩ (by simp only [hsn]; rfl) (by repeat (first | exact ag_refl | refine ag_upd rfl ?_ | refine ag_at rfl rfl ?_))⟩
  · have hk' : k = l.length := by have : ¬ k < l.length := by simpa using h
                                  omega
    subst hk'
    repeat (first | refine gG ?_ | refine zN1 (fun hlen => ?_) | refine zN2 (fun hlen => ?_) | refine zAl (fun _ => ?_) | refine zAp (fun _ => ?_))
    first | refine zR ?_ | refine zQ ?_
    simp only [outT, Y.row, List.take_length]
set_option maxRecDepth 100000 in
set_option maxHeartbeats 1000000 in
theorem copyY_af (v : Y) (hv : v.size ≤ 1048576) : AF Try.prog 37 [v.t] (· = v.t) := by
  induction v using Y.ind with
  | h k n l ih =>
    have hlen : l.length ≤ 1048576 := by have := Y.len_sizes l; simp only [Y.size] at hv; omega
    have hcall := eachY_af 37 l hlen (fun a ha => ih a ha (by have := Y.size_mem ha; simp only [Y.size] at hv; omega))
    refine af_enter tok Try.func37 Try.ntmps37 Try.results37 rfl (by kernel_rfl) rfl rfl fun F hX => ?_
    repeat (first | refine gG ?_ | refine zAl (fun _ => ?_) | refine zBx (fun _ => ?_))
    refine zCall (hcall) ?_
    rintro _ rfl
    repeat (first | refine gG ?_ | refine zAl (fun _ => ?_) | refine zBx (fun _ => ?_))
    first | refine zR ?_ | refine zQ ?_
    rfl
set_option maxRecDepth 100000 in
set_option maxHeartbeats 1000000 in
theorem cloneStr_af (l : List ByteArray) (hl : l.length ≤ 1048576) : AF Try.prog 35 [strRow l] (· = strRow l) := by
  refine af_enter tok Try.func35 Try.ntmps35 Try.results35 rfl (by kernel_rfl) rfl rfl fun F hX => ?_
  repeat (first | refine gG ?_ | refine zAp (fun _ => ?_))
  refine zNs (fun b hb => ?_)
  cases b
  · repeat (first | refine gX ?_ | refine zAp (fun _ => ?_))
    refine zBo (fun _ => ?_)
    repeat (first | refine gG ?_ | refine zAp (fun _ => ?_))
    first | refine zR ?_ | refine zQ ?_
    simp only [outT, List.nil_append, Nat.zero_add]
    rfl
  · have h0 := hb rfl
    have : l = [] := List.eq_nil_of_length_eq_zero h0
    subst this
    repeat (first | refine gG ?_ | refine zAp (fun _ => ?_))
    first | refine zR (ts := [strRow []]) ?_ | refine zQ (ts := [strRow []]) ?_
    rfl
theorem re_nil1 {P : Program} {f : FuncId} {sz : Nat} (h0 : 0 < sz) {ts : List T} {R : T → Prop} (h : AF P f (.row 0 sz [] :: ts) R) : AF P f (.lit (.slice none 0 0) :: ts) R :=
  h.re fun M vs hv => by
    simp only [RTs] at hv ⊢
    obtain ⟨v, r, h1, h2, h3⟩ := hv
    exact ⟨v, r, h1, rt_nilrow h0 h2, h3⟩
set_option maxRecDepth 100000 in
theorem eachE0_af (f : FuncId) : AF Try.prog 52 [Ex.row [], .fn (.func f) []] (· = Ex.row []) := by
  refine af_enter tok Try.func52 Try.ntmps52 Try.results52 rfl (by kernel_rfl) rfl rfl fun F hX => ?_
  repeat (first | refine gG ?_ | refine zN1 (fun hlen => ?_) | refine zN2 (fun hlen => ?_) | refine zAl (fun _ => ?_) | refine zAp (fun _ => ?_))
  refine x_own 5 40 8 rfl rfl rfl rfl rfl ?_
  refine x_loop [5, 7, 10, 11, 12, 13, 14, 15, 16, 17, 18, 19, 20] (fun _ : Unit => [(10, .c (.lit (.int .i64 0))), (5, .own 0 (.slice none 0 0))]) (fun _ => [.row (.slice none 0 0) 40 8 0 []]) (fun _ => True) (fun _ => 0) () trivial ⟨rfl, rfl, trivial⟩ rfl ?_
  rintro _ _
  repeat (first | refine gG ?_ | refine zN1 (fun hlen => ?_) | refine zN2 (fun hlen => ?_) | refine zAl (fun _ => ?_) | refine zAp (fun _ => ?_))
  first | refine zR ?_ | refine zQ ?_
  rfl
set_option maxRecDepth 100000 in
theorem eachA0_af (f : FuncId) : AF Try.prog 53 [.row 0 12 [], .fn (.func f) []] (· = .row 0 12 []) := by
  refine af_enter tok Try.func53 Try.ntmps53 Try.results53 rfl (by kernel_rfl) rfl rfl fun F hX => ?_
  repeat (first | refine gG ?_ | refine zN1 (fun hlen => ?_) | refine zN2 (fun hlen => ?_) | refine zAl (fun _ => ?_) | refine zAp (fun _ => ?_))
  refine x_own 5 106 12 rfl rfl rfl rfl rfl ?_
  refine x_loop [5, 7, 10, 11, 12, 13, 14, 15, 16, 17, 18, 19, 20] (fun _ : Unit => [(10, .c (.lit (.int .i64 0))), (5, .own 0 (.slice none 0 0))]) (fun _ => [.row (.slice none 0 0) 106 12 0 []]) (fun _ => True) (fun _ => 0) () trivial ⟨rfl, rfl, trivial⟩ rfl ?_
  rintro _ _
  repeat (first | refine gG ?_ | refine zN1 (fun hlen => ?_) | refine zN2 (fun hlen => ?_) | refine zAl (fun _ => ?_) | refine zAp (fun _ => ?_))
  first | refine zR ?_ | refine zQ ?_
  rfl
def ex0 : Ex := .mk 0 0 ⟨#[]⟩ [] [] [] [] 0
def nilE : List T := [.lit (.int .i64 0), .lit (.int .i64 0), .lit (.string ⟨#[]⟩), .lit (.slice none 0 0), .lit (.slice none 0 0), .lit (.slice none 0 0), .lit (.slice none 0 0), .lit (.int .i64 0)]
set_option maxRecDepth 100000 in
set_option maxHeartbeats 2000000 in
theorem copyE0_af : AF Try.prog 38 [.agg nilE] (· = ex0.t) := by
  have h1 := re_nil1 (by omega) (cloneStr_af [] (by simp))
  have h2 := re_nil1 (by omega) (eachY_af 37 [] (by simp) (fun a h => by cases h))
  have h3 := re_nil1 (by omega) (eachE0_af 38)
  have h4 := re_nil1 (by omega) (eachA0_af 54)
  unfold nilE
  refine af_enter tok Try.func38 Try.ntmps38 Try.results38 rfl (by kernel_rfl) rfl rfl fun F hX => ?_
  repeat (first | refine gG ?_ | refine zAl (fun _ => ?_) | refine zBx (fun _ => ?_))
  refine zCall (h1) ?_
  rintro _ rfl
  repeat (first | refine gG ?_ | refine zAl (fun _ => ?_) | refine zBx (fun _ => ?_))
  refine zCall (h2) ?_
  rintro _ rfl
  repeat (first | refine gG ?_ | refine zAl (fun _ => ?_) | refine zBx (fun _ => ?_))
  refine zCall (h3) ?_
  rintro _ rfl
  repeat (first | refine gG ?_ | refine zAl (fun _ => ?_) | refine zBx (fun _ => ?_))
  refine zCall (h4) ?_
  rintro _ rfl
  repeat (first | refine gG ?_ | refine zAl (fun _ => ?_) | refine zBx (fun _ => ?_))
  first | refine zR ?_ | refine zQ ?_
  rfl
/-- an actor without its body -/
def Ac.bare (a : Ac) : Ac := ⟨a.name, a.names, a.types, a.msg, ex0⟩
set_option maxRecDepth 100000 in
set_option maxHeartbeats 2000000 in
theorem copyA_af (n : ByteArray) (ns : List ByteArray) (ys : List Y) (y : Y) (h1 : ns.length ≤ 1048576) (h2 : Y.sizes ys ≤ 1048576) (h3 : y.size ≤ 1048576) : AF Try.prog 22 [.agg ([.lit (.string n), strRow ns, Y.row ys] ++ y.ts ++ nilE)] (· = (Ac.t ⟨n, ns, ys, y, ex0⟩)) := by
  have c1 := cloneStr_af ns h1
  have c2 := eachY_af 37 ys (by have := Y.len_sizes ys; omega) (fun a ha => copyY_af a (by have := Y.size_mem ha; omega))
  have c3 := copyY_af y h3
  have c4 := copyE0_af
  unfold nilE at *
  obtain ⟨ky, ny, ly⟩ := y
  refine af_enter tok Try.func22 Try.ntmps22 Try.results22 rfl (by kernel_rfl) rfl rfl fun F hX => ?_
  repeat (first | refine gG ?_ | refine zAl (fun _ => ?_) | refine zBx (fun _ => ?_))
  refine zCall (c1) ?_
  rintro _ rfl
  repeat (first | refine gG ?_ | refine zAl (fun _ => ?_) | refine zBx (fun _ => ?_))
  refine ac_draw [1, 1, 1, 1, 1, 1, 1, 1, 1, 1, 2, 1, 2, 1, 2] [0, 1, 2, 3, 4, 5, 6, 7, 8, 9, 10, 11, 12, 13, 14] (by kernel_rfl) (by kernel_rfl) ?_
  refine gW ?_
  apply w_q; (focus exact rfl); (focus exact rfl); focus (intro _; (refine zCall c2 ?_; rintro _ rfl); exact det_refl)
  refine gW ?_
  apply w_q; (focus exact rfl); (focus exact rfl); focus (intro _; (refine zCall c3 ?_; rintro _ rfl); exact det_refl)
  refine gW ?_
  apply w_q; (focus exact rfl); (focus exact rfl); focus (intro _; (refine zCall c4 ?_; rintro _ rfl); exact det_refl)
  refine gW ?_
  apply w_l; (focus exact rfl); (focus exact rfl); (refine zS ?_)
  refine gW ?_
  apply w_l; (focus exact rfl); (focus exact rfl); (refine zS ?_)
  refine gW ?_
  apply w_l; (focus exact rfl); (focus exact rfl); (refine zS ?_)
  refine w_nil ?_
  repeat (first | refine gG ?_ | refine zAl (fun _ => ?_) | refine zBx (fun _ => ?_))
  first | refine zR ?_ | refine zQ ?_
  rfl
end Go.Proofs.Ytmdmgpnaiknlaaa
namespace Go.Proofs.Ytmdmgpnaiknlaaa
open Go.RowKit
def Pr.actor (p : Pr) (n : ByteArray) : Option Ac := p.actors.find? fun a => decide (a.name = n)
def ac0 : Ac := ⟨⟨#[]⟩, [], [], .mk 0 ⟨#[]⟩ [], ex0⟩
set_option maxRecDepth 100000 in
set_option maxHeartbeats 4000000 in
theorem actor_af (p : Pr) (n : ByteArray) (hp : p.size ≤ 1048576) : AF Try.prog 10 [p.t, .lit (.string n)] (· = .tup [(((p.actor n).map Ac.bare).getD ac0).t, .lit (.bool (p.actor n).isSome)]) := by
  have hsz : ∀ a ∈ p.actors, a.size ≤ 1048576 := fun a ha => by
    have := Ac.size_mem ha
    obtain ⟨pn, pv, us, das, trs, ims, fus, acs⟩ := p
    simp only [Pr.size] at hp
    dsimp only at this
    omega
  obtain ⟨pn, pv, us, das, trs, ims, fus, acs⟩ := p
  unfold Pr.actor
  dsimp only at hsz ⊢
  clear hp
  refine af_enter tok Try.func10 Try.ntmps10 Try.results10 rfl (by kernel_rfl) rfl rfl fun F hX => ?_
  repeat (first | refine gG ?_ | refine zN1 (fun hlen => ?_) | refine zN2 (fun hlen => ?_) | refine zAl (fun _ => ?_) | refine zBf ?_)
  rename_i b0
  refine x_loop [5, 7, 11, 12, 13, 14, 15, 16, 17, 18, 19, 20, 21, 22, 23] (fun k : Nat => [(11, .c (.lit (.int .i64 (k : Nat))))]) (fun _ => [.box b0 42 [.c (.lit (.string ⟨#[]⟩)), .c (.lit (.slice none 0 0)), .c (.lit (.slice none 0 0)), .c (.lit (.int .i64 0)), .c (.lit (.string ⟨#[]⟩)), .c (.lit (.slice none 0 0)), .c (.lit (.int .i64 0)), .c (.lit (.int .i64 0)), .c (.lit (.string ⟨#[]⟩)), .c (.lit (.slice none 0 0)), .c (.lit (.slice none 0 0)), .c (.lit (.slice none 0 0)), .c (.lit (.slice none 0 0)), .c (.lit (.int .i64 0))]])
    (fun k => k ≤ acs.length ∧ acs.find? (fun a => decide (a.name = n)) = (acs.drop k).find? fun a => decide (a.name = n)) (fun k => acs.length - k) 0 ⟨Nat.zero_le _, rfl⟩ ⟨rfl, trivial⟩ rfl fun k hk => ?_
  repeat (first | refine gG ?_ | refine zN1 (fun hlen => ?_) | refine zN2 (fun hlen => ?_) | refine zAl (fun _ => ?_) | refine zBx (fun _ => ?_))
  refine x_cond rfl (fun h => ?_) (fun h => ?_)
  · have hk' : k < acs.length := by simpa using h
    obtain ⟨a, ha⟩ := nth hk'
    have hdr : (acs.drop k).find? (fun a => decide (a.name = n)) = if decide (a.name = n) then some a else (acs.drop (k + 1)).find? fun a => decide (a.name = n) := by
      obtain ⟨h1, rfl⟩ := List.getElem?_eq_some_iff.1 ha
      rw [List.drop_eq_getElem_cons h1, List.find?_cons]
      split <;> simp_all
    have has := hsz a (List.mem_of_getElem? ha)
    have hat := Ac.at ha
    obtain ⟨an, ans, ays, am, ab⟩ := a
    simp only [Ac.size] at has
    have hlen : ans.length ≤ strSize ans := strSize_len ans
    have hca := copyA_af an ans ays am (by omega) (by omega) (by omega)
    dsimp only at hdr
    clear h ha hsz has hlen
    obtain ⟨mk, mn, ml⟩ := am
    obtain ⟨bk, bn, bt, bns, bys, bl, brs, bp⟩ := ab
    cases hq : decide (an = n)
    · have hnx : acs.find? (fun a => decide (a.name = n)) = (acs.drop (k + 1)).find? fun a => decide (a.name = n) := by rw [hk.2, hdr, hq]; rfl
      clear hca hk hdr
      repeat (first | refine gG ?_ | refine zN1 (fun hlen => ?_) | refine zN2 (fun hlen => ?_) | refine zAl (fun _ => ?_) | refine zBx (fun _ => ?_))
      refine zIx (k) (hk') ?_
      repeat (first | refine gG ?_ | refine zN1 (fun hlen => ?_) | refine zN2 (fun hlen => ?_) | refine zAl (fun _ => ?_) | refine zBx (fun _ => ?_))
      refine zEl (hat) (Ac.ts_len _) ?_
      repeat (first | refine gG ?_ | refine zN1 (fun hlen => ?_) | refine zN2 (fun hlen => ?_) | refine zAl (fun _ => ?_) | refine zBx (fun _ => ?_))
      exact ⟨k + 1, ⟨hk', hnx⟩, by omega, x_wkd 1 ⟨rfl, trivial⟩ rfl (by repeat (first | exact ag_refl | refine ag_upd rfl ?_ | refine ag_at rfl rfl ?_))⟩
    · have hf : acs.find? (fun a => decide (a.name = n)) = some ⟨an, ans, ays, .mk mk mn ml, .mk bk bn bt bns bys bl brs bp⟩ := by rw [hk.2, hdr, hq]; rfl
      rw [hf]
      clear hk hdr hf
      unfold nilE at hca
      repeat (first | refine gG ?_ | refine zN1 (fun hlen => ?_) | refine zN2 (fun hlen => ?_) | refine zAl (fun _ => ?_) | refine zBx (fun _ => ?_))
      refine zIx (k) (hk') ?_
      repeat (first | refine gG ?_ | refine zN1 (fun hlen => ?_) | refine zN2 (fun hlen => ?_) | refine zAl (fun _ => ?_) | refine zBx (fun _ => ?_))
      refine zEl (hat) (Ac.ts_len _) ?_
      repeat (first | refine gG ?_ | refine zN1 (fun hlen => ?_) | refine zN2 (fun hlen => ?_) | refine zAl (fun _ => ?_) | refine zBx (fun _ => ?_))
      refine zCall (hca) ?_
      rintro _ rfl
      repeat (first | refine gG ?_ | refine zN1 (fun hlen => ?_) | refine zN2 (fun hlen => ?_) | refine zAl (fun _ => ?_) | refine zBx (fun _ => ?_))
      first | refine zR ?_ | refine zQ ?_
      rfl
  · have hk' : k = acs.length := by have : ¬ k < acs.length := by simpa using h
                                    omega
    subst hk'
    have hf : acs.find? (fun a => decide (a.name = n)) = none := by rw [hk.2, List.drop_length]; rfl
    rw [hf]
    repeat (first | refine gG ?_ | refine zN1 (fun hlen => ?_) | refine zN2 (fun hlen => ?_) | refine zAl (fun _ => ?_) | refine zBx (fun _ => ?_))
    first | refine zR (ts := [ac0.t, .lit (.bool false)]) ?_ | refine zQ (ts := [ac0.t, .lit (.bool false)]) ?_
    rfl
end Go.Proofs.Ytmdmgpnaiknlaaa
namespace Go.Proofs.Ytmdmgpnaiknlaaa
open Go.RowKit
def Ar.pat : Ar → V
  | .mk p _ => p
def Ar.body : Ar → Ex
  | .mk _ b => b
def Ex.arms : Ex → List Ar
  | .mk _ _ _ _ _ _ rs _ => rs
def Ex.args : Ex → List Ex
  | .mk _ _ _ _ _ l _ _ => l
def Ex.types : Ex → List Y
  | .mk _ _ _ _ ys _ _ _ => ys
def Ex.nexts (e : Ex) : List Ex := e.args ++ e.arms.map Ar.body
def Ex.pats (e : Ex) : List V := e.arms.map Ar.pat
theorem Ex.sizes_app (l r : List Ex) : Ex.sizes (l ++ r) = Ex.sizes l + Ex.sizes r := by
  induction l with
  | nil => simp [Ex.sizes]
  | cons v l ih => simp only [List.cons_append, Ex.sizes, ih]; omega
theorem Ar.sizes_parts : ∀ l : List Ar, Ex.sizes (l.map Ar.body) + V.sizes (l.map Ar.pat) = Ar.sizes l
  | [] => rfl
  | .mk p b :: l => by
    have := Ar.sizes_parts l
    simp only [List.map_cons, Ex.sizes, V.sizes, Ar.sizes, Ar.size, Ar.body, Ar.pat]
    omega
theorem Ex.sizes_flat : ∀ l : List Ex, Ex.sizes (l.flatMap Ex.nexts) + V.sizes (l.flatMap Ex.pats) + l.length ≤ Ex.sizes l
  | [] => by simp [Ex.sizes, V.sizes]
  | .mk k n t ns ys a rs p :: l => by
    have h1 := Ex.sizes_flat l
    have h2 := Ar.sizes_parts rs
    simp only [List.flatMap_cons, Ex.nexts, Ex.pats, Ex.args, Ex.arms, Ex.sizes_app, V.sizes_app, Ex.sizes, Ex.size, List.length_cons]
    omega
theorem Ex.take_sizes (l : List Ex) (k : Nat) : Ex.sizes (l.take k) ≤ Ex.sizes l := by
  have := Ex.sizes_app (l.take k) (l.drop k)
  rw [List.take_append_drop] at this
  omega
theorem map_snoc' {α β : Type} (f : α → β) {l : List α} {k : Nat} {a : α} (h : l[k]? = some a) : (l.take (k + 1)).map f = (l.take k).map f ++ [f a] := by
  obtain ⟨h1, rfl⟩ := List.getElem?_eq_some_iff.1 h
  rw [List.take_succ_eq_append_getElem h1, List.map_append]
  simp
set_option maxRecDepth 100000 in
set_option maxHeartbeats 4000000 in
theorem exprSmall_af (e : Ex) (hv : e.size ≤ 1048576) : AF Try.prog 21 [e.t] Tell := by
  obtain ⟨k0, n0, t0, ns0, ys0, l0, rs0, p0⟩ := e
  refine af_enter tok Try.func21 Try.ntmps21 Try.results21 rfl (by kernel_rfl) rfl rfl fun F hX => ?_
  repeat (first | refine gG ?_ | refine zN1 (fun hlen => ?_) | refine zN2 (fun hlen => ?_) | refine zAl (fun _ => ?_) | refine zBx (fun _ => ?_) | refine zAp (fun _ => ?_))
  refine x_drop 0 rfl ?_
  refine x_loop [2, 3, 4, 5, 6, 7, 9, 11, 12, 13, 15, 18, 19, 20, 21, 22, 23, 24, 25, 26, 27, 28, 29, 30, 31, 32, 33, 34, 35, 36, 37, 38, 39, 40, 41, 42, 43, 44, 45, 46, 47, 48, 49, 50, 51, 52, 53, 54, 55, 56, 57, 58, 59, 60, 61, 62, 63, 64, 65, 66, 67, 68, 69, 70, 71, 72, 73, 74, 75, 76, 77, 78, 79, 80, 81, 82, 83, 84, 85, 86, 87, 88, 89, 90, 91, 92, 93] (fun y : List Ex × Nat × Nat => [(3, .c (Ex.row y.1)), (4, .c (.lit (.int .i64 (y.2.1 : Nat)))), (5, .c (.lit (.int .i64 (y.2.2 : Nat))))]) (fun _ => [])
    (fun y => Ex.sizes y.1 ≤ 1048576 ∧ y.2.1 ≤ 3000 ∧ y.2.2 ≤ 101) (fun y => 102 - y.2.2) ([.mk k0 n0 t0 ns0 ys0 l0 rs0 p0], 0, 0) ⟨by simpa [Ex.sizes] using hv, by simp, by simp⟩ ⟨rfl, rfl, rfl, trivial⟩ rfl ?_
  rintro ⟨l, n, dp⟩ ⟨hl, hn, hdp⟩
  dsimp only at hl hn hdp ⊢
  have hll := Ex.len_sizes l
  repeat (first | refine gG ?_ | refine zN1 (fun hlen => ?_) | refine zN2 (fun hlen => ?_) | refine zAl (fun _ => ?_) | refine zBx (fun _ => ?_) | refine zAp (fun _ => ?_))
  refine x_cond rfl (fun h => ?_) (fun h => ?_)
  · repeat (first | refine gG ?_ | refine zN1 (fun hlen => ?_) | refine zN2 (fun hlen => ?_) | refine zAl (fun _ => ?_) | refine zBx (fun _ => ?_) | refine zAp (fun _ => ?_))
    refine lo_add rfl rfl (r := ((n + l.length : Nat) : Int)) (by rw [IntWalk.i64_in _ (by omega)]; omega) ?_
    cases d1 : decide ((100 : Int) < (dp : Int))
    · cases d2 : decide ((3000 : Int) < ((n + l.length : Nat) : Int))
      · have hd1 : ¬ (100 : Int) < (dp : Int) := of_decide_eq_false d1
        have hd2 : ¬ (3000 : Int) < ((n + l.length : Nat) : Int) := of_decide_eq_false d2
        repeat (first | refine gG ?_ | refine zN1 (fun hlen => ?_) | refine zN2 (fun hlen => ?_) | refine zAl (fun _ => ?_) | refine zBx (fun _ => ?_) | refine zAp (fun _ => ?_))
        refine x_own 6 40 8 rfl rfl rfl rfl rfl ?_
        refine x_own 7 104 4 rfl rfl rfl rfl rfl ?_
        refine x_loop [2, 6, 7, 9, 11, 35, 36, 37, 38, 39, 40, 41, 42, 43, 44, 45, 46, 47, 48, 49, 50, 51, 52, 53, 54, 55, 56, 57, 58, 59, 60, 61, 62, 63, 64, 65] (fun y : Nat × Value × Value => [(35, .c (.lit (.int .i64 (y.1 : Nat)))), (6, .own 0 y.2.1), (7, .own 1 y.2.2)])
          (fun y => [.row y.2.1 40 8 ((l.take y.1).flatMap Ex.nexts).length (Ex.all ((l.take y.1).flatMap Ex.nexts)), .row y.2.2 104 4 ((l.take y.1).flatMap Ex.pats).length (V.all ((l.take y.1).flatMap Ex.pats))])
          (fun y => y.1 ≤ l.length) (fun y => l.length - y.1) (0, .slice none 0 0, .slice none 0 0) (Nat.zero_le _) ⟨rfl, rfl, rfl, trivial⟩ rfl ?_
        rintro ⟨k, v, u⟩ hk
        dsimp only at hk ⊢
        repeat (first | refine gG ?_ | refine zN1 (fun hlen => ?_) | refine zN2 (fun hlen => ?_) | refine zAl (fun _ => ?_) | refine zBx (fun _ => ?_) | refine zAp (fun _ => ?_))
        refine x_cond rfl (fun h => ?_) (fun h => ?_)
        · have hk' : k < l.length := by simpa using h
          obtain ⟨a, ha⟩ := nth hk'
          have hsn := flat_snoc' Ex.nexts ha
          have hsp := flat_snoc' Ex.pats ha
          have hsz : ((l.take k).flatMap Ex.nexts).length + a.args.length + a.arms.length ≤ 1048576 ∧ ((l.take k).flatMap Ex.pats).length + a.arms.length ≤ 1048576 := by
            have h1 := Ex.len_sizes ((l.take (k + 1)).flatMap Ex.nexts)
            have h2 := Ex.sizes_flat (l.take (k + 1))
            have h3 := Ex.take_sizes l (k + 1)
            have h4 := V.len_sizes ((l.take (k + 1)).flatMap Ex.pats)
            rw [hsn] at h1 h2
            rw [hsp] at h2 h4
            simp only [List.length_append, Ex.nexts, Ex.pats, List.length_map] at h1 h4
            simp only [Ex.nexts, Ex.pats] at h2
            omega
          have has : Y.sizes a.types ≤ 1048576 := by
            have h1 := Ex.size_mem (List.mem_of_getElem? ha)
            obtain ⟨ka, na, ta, nsa, ysa, la, rsa, pa⟩ := a
            simp only [Ex.size] at h1
            simp only [Ex.types]
            omega
          have hts := typesSmall_af a.types has
          repeat (first | refine gG ?_ | refine zN1 (fun hlen => ?_) | refine zN2 (fun hlen => ?_) | refine zAl (fun _ => ?_) | refine zBx (fun _ => ?_) | refine zAp (fun _ => ?_))
          refine zIx (k) (hk') ?_
          repeat (first | refine gG ?_ | refine zN1 (fun hlen => ?_) | refine zN2 (fun hlen => ?_) | refine zAl (fun _ => ?_) | refine zBx (fun _ => ?_) | refine zAp (fun _ => ?_))
          refine zEl (Ex.at ha) (Ex.ts_len a) ?_
          obtain ⟨ka, na, ta, nsa, ysa, la, rsa, pa⟩ := a
          simp only [Ex.args, Ex.arms, Ex.types, Ex.nexts, Ex.pats] at hsz hsn hsp hts
          repeat (first | refine gG ?_ | refine zN1 (fun hlen => ?_) | refine zN2 (fun hlen => ?_) | refine zAl (fun _ => ?_) | refine zBx (fun _ => ?_) | refine zAp (fun _ => ?_))
          refine zCall (hts) ?_
          rintro _ ⟨b, rfl⟩
          cases b
          · repeat (first | refine gG ?_ | refine zN1 (fun hlen => ?_) | refine zN2 (fun hlen => ?_) | refine zAl (fun _ => ?_) | refine zBx (fun _ => ?_) | refine zAp (fun _ => ?_))
            first | refine zR ?_ | refine zQ ?_
            exact ⟨_, rfl⟩
          · repeat (first | refine gG ?_ | refine zN1 (fun hlen => ?_) | refine zN2 (fun hlen => ?_) | refine zAl (fun _ => ?_) | refine zBx (fun _ => ?_) | refine zAp (fun _ => ?_))
            refine x_drop 2 rfl ?_
            refine x_loop [6, 7, 11, 50, 51, 52, 53, 54, 55, 56, 57, 58, 59, 60, 61, 62, 63, 64] (fun y : Nat × Value × Value => [(50, .c (.lit (.int .i64 (y.1 : Nat)))), (6, .own 0 y.2.1), (7, .own 1 y.2.2)])
              (fun y => [.row y.2.1 40 8 (((l.take k).flatMap Ex.nexts).length + la.length + y.1) (Ex.all ((l.take k).flatMap Ex.nexts) ++ Ex.all la ++ Ex.all ((rsa.take y.1).map Ar.body)), .row y.2.2 104 4 (((l.take k).flatMap Ex.pats).length + y.1) (V.all ((l.take k).flatMap Ex.pats) ++ V.all ((rsa.take y.1).map Ar.pat))])
              (fun y => y.1 ≤ rsa.length) (fun y => rsa.length - y.1) (0, _, _) (Nat.zero_le _) ⟨rfl, rfl, rfl, trivial⟩ (by simp [Ex.all, V.all]) ?_
            rintro ⟨j, v', u'⟩ hj
            dsimp only at hj ⊢
            repeat (first | refine gG ?_ | refine zN1 (fun hlen => ?_) | refine zN2 (fun hlen => ?_) | refine zAl (fun _ => ?_) | refine zBx (fun _ => ?_) | refine zAp (fun _ => ?_))
            refine x_cond rfl (fun h => ?_) (fun h => ?_)
            · have hj' : j < rsa.length := by simpa using h
              obtain ⟨r, hr⟩ := nth hj'
              have hb1 := map_snoc' Ar.body hr
              have hb2 := map_snoc' Ar.pat hr
              repeat (first | refine gG ?_ | refine zN1 (fun hlen => ?_) | refine zN2 (fun hlen => ?_) | refine zAl (fun _ => ?_) | refine zBx (fun _ => ?_) | refine zAp (fun _ => ?_))
              refine zIx (j) (hj') ?_
              repeat (first | refine gG ?_ | refine zN1 (fun hlen => ?_) | refine zN2 (fun hlen => ?_) | refine zAl (fun _ => ?_) | refine zBx (fun _ => ?_) | refine zAp (fun _ => ?_))
              refine zEl (Ar.at hr) (Ar.ts_len r) ?_
              obtain ⟨⟨kp, np, tp, lp⟩, ⟨kb, nb, tb, nsb, ysb, lb, rsb, pb⟩⟩ := r
              repeat (first | refine gG ?_ | refine zN1 (fun hlen => ?_) | refine zN2 (fun hlen => ?_) | refine zAl (fun _ => ?_) | refine zBx (fun _ => ?_) | refine zAp (fun _ => ?_))
              exact ⟨(j + 1, _, _), hj', by simp only; omega, x_wkd 2 ⟨rfl, rfl, rfl, trivial⟩ (by simp only [hb1, hb2, Ex.all_app, V.all_app', List.append_assoc, Nat.add_assoc]; rfl) (by repeat (first | exact ag_refl | refine ag_upd rfl ?_ | refine ag_at rfl rfl ?_))⟩
            · have hj' : j = rsa.length := by have : ¬ j < rsa.length := by simpa using h
                                              omega
              subst hj'
              repeat (first | refine gG ?_ | refine zN1 (fun hlen => ?_) | refine zN2 (fun hlen => ?_) | refine zAl (fun _ => ?_) | refine zBx (fun _ => ?_) | refine zAp (fun _ => ?_))
              exact ⟨(k + 1, _, _), hk', by simp only; omega, x_wkd 2 ⟨rfl, rfl, rfl, trivial⟩ (by simp only [hsn, hsp, Ex.all_app, V.all_app', List.length_append, List.length_map, List.take_length, List.append_assoc, Nat.add_assoc]; rfl) (by repeat (first | exact ag_refl | refine ag_upd rfl ?_ | refine ag_at rfl rfl ?_))⟩
        · have hk' : k = l.length := by have : ¬ k < l.length := by simpa using h
                                        omega
          subst hk'
          rw [List.take_length]
          have hfl := Ex.sizes_flat l
          repeat (first | refine gG ?_ | refine zN1 (fun hlen => ?_) | refine zN2 (fun hlen => ?_) | refine zAl (fun _ => ?_) | refine zBx (fun _ => ?_) | refine zAp (fun _ => ?_))
          refine x_frz hX 7 rfl rfl rfl rfl ?_
          refine x_drop 1 rfl ?_
          refine x_loop [2, 4, 7, 12, 13, 15, 66, 67, 68, 69, 70, 71, 72, 73, 74, 75, 76, 77, 78, 79, 80, 81, 82, 83, 84, 85, 86, 87, 88, 89, 90, 91, 92] (fun y : List V × Nat × Nat => [(7, .c (V.row y.1)), (4, .c (.lit (.int .i64 (y.2.1 : Nat)))), (12, .c (.lit (.int .i64 (y.2.2 : Nat))))]) (fun _ => [.row v 40 8 (l.flatMap Ex.nexts).length (Ex.all (l.flatMap Ex.nexts))])
            (fun y => V.sizes y.1 ≤ 1048576 ∧ y.2.1 ≤ 3000 ∧ y.2.2 ≤ 101) (fun y => 102 - y.2.2) (l.flatMap Ex.pats, n + l.length, 0) ⟨by simp only; omega, by simp only; omega, by simp⟩ ⟨rfl, rfl, rfl, trivial⟩ rfl ?_
          rintro ⟨ps, m, dq⟩ ⟨hps, hm, hdq⟩
          dsimp only at hps hm hdq ⊢
          have hpl := V.len_sizes ps
          repeat (first | refine gG ?_ | refine zN1 (fun hlen => ?_) | refine zN2 (fun hlen => ?_) | refine zAl (fun _ => ?_) | refine zBx (fun _ => ?_) | refine zAp (fun _ => ?_))
          refine x_cond rfl (fun h => ?_) (fun h => ?_)
          · repeat (first | refine gG ?_ | refine zN1 (fun hlen => ?_) | refine zN2 (fun hlen => ?_) | refine zAl (fun _ => ?_) | refine zBx (fun _ => ?_) | refine zAp (fun _ => ?_))
            refine lo_add rfl rfl (r := ((m + ps.length : Nat) : Int)) (by rw [IntWalk.i64_in _ (by omega)]; omega) ?_
            cases d3 : decide ((100 : Int) < (dq : Int))
            · cases d4 : decide ((3000 : Int) < ((m + ps.length : Nat) : Int))
              · have hd3 : ¬ (100 : Int) < (dq : Int) := of_decide_eq_false d3
                have hd4 : ¬ (3000 : Int) < ((m + ps.length : Nat) : Int) := of_decide_eq_false d4
                repeat (first | refine gG ?_ | refine zN1 (fun hlen => ?_) | refine zN2 (fun hlen => ?_) | refine zAl (fun _ => ?_) | refine zBx (fun _ => ?_) | refine zAp (fun _ => ?_))
                refine x_own 13 104 4 rfl rfl rfl rfl rfl ?_
                refine x_loop [13, 15, 83, 84, 85, 86, 87, 88, 89, 90, 91] (fun y : Nat × Value => [(83, .c (.lit (.int .i64 (y.1 : Nat)))), (13, .own 1 y.2)]) (fun y => [.row v 40 8 (l.flatMap Ex.nexts).length (Ex.all (l.flatMap Ex.nexts)), .row y.2 104 4 ((ps.take y.1).flatMap V.args).length (V.all ((ps.take y.1).flatMap V.args))])
                  (fun y => y.1 ≤ ps.length) (fun y => ps.length - y.1) (0, .slice none 0 0) (Nat.zero_le _) ⟨rfl, rfl, trivial⟩ rfl ?_
                rintro ⟨i, v'⟩ hi
                dsimp only at hi ⊢
                repeat (first | refine gG ?_ | refine zN1 (fun hlen => ?_) | refine zN2 (fun hlen => ?_) | refine zAl (fun _ => ?_) | refine zBx (fun _ => ?_) | refine zAp (fun _ => ?_))
                refine x_cond rfl (fun h => ?_) (fun h => ?_)
                · have hi' : i < ps.length := by simpa using h
                  obtain ⟨a, ha⟩ := nth hi'
                  have hsn := flat_snoc' V.args ha
                  have hsz : ((ps.take i).flatMap V.args).length + a.args.length ≤ 1048576 := by
                    have h1 := V.len_sizes ((ps.take (i + 1)).flatMap V.args)
                    have h2 := V.sizes_flat (ps.take (i + 1))
                    have h3 := V.take_sizes ps (i + 1)
                    rw [hsn] at h1 h2
                    rw [List.length_append] at h1
                    omega
                  repeat (first | refine gG ?_ | refine zN1 (fun hlen => ?_) | refine zN2 (fun hlen => ?_) | refine zAl (fun _ => ?_) | refine zBx (fun _ => ?_) | refine zAp (fun _ => ?_))
                  refine zIx (i) (hi') ?_
                  repeat (first | refine gG ?_ | refine zN1 (fun hlen => ?_) | refine zN2 (fun hlen => ?_) | refine zAl (fun _ => ?_) | refine zBx (fun _ => ?_) | refine zAp (fun _ => ?_))
                  refine zEl (V.at ha) (V.ts_len a) ?_
                  obtain ⟨ka, na, ta, la⟩ := a
                  simp only [V.args] at hsz hsn
                  repeat (first | refine gG ?_ | refine zN1 (fun hlen => ?_) | refine zN2 (fun hlen => ?_) | refine zAl (fun _ => ?_) | refine zBx (fun _ => ?_) | refine zAp (fun _ => ?_))
                  exact ⟨(i + 1, _), hi', by simp only; omega, x_wkd 2 ⟨rfl, rfl, trivial⟩ (by simp only [hsn, V.all_app', List.length_append]; rfl) (by repeat (first | exact ag_refl | refine ag_upd rfl ?_ | refine ag_at rfl rfl ?_))⟩
                · have hi' : i = ps.length := by have : ¬ i < ps.length := by simpa using h
                                                 omega
                  subst hi'
                  repeat (first | refine gG ?_ | refine zN1 (fun hlen => ?_) | refine zN2 (fun hlen => ?_) | refine zAl (fun _ => ?_) | refine zBx (fun _ => ?_) | refine zAp (fun _ => ?_))
                  refine ⟨(ps.flatMap V.args, m + ps.length, dq + 1), ⟨?_, by simp only; omega, by simp only; omega⟩, by simp only; omega, (wk_frz hX 7 rfl rfl rfl rfl).trans (x_wkd 1 ⟨?_, rfl, rfl, trivial⟩ rfl (by repeat (first | exact ag_refl | refine ag_upd rfl ?_ | refine ag_at rfl rfl ?_)))⟩
                  · have := V.sizes_flat ps; simp only; omega
                  · simp only [List.take_length]; rfl
              · repeat (first | refine gG ?_ | refine zN1 (fun hlen => ?_) | refine zN2 (fun hlen => ?_) | refine zAl (fun _ => ?_) | refine zBx (fun _ => ?_) | refine zAp (fun _ => ?_))
                first | refine zR ?_ | refine zQ ?_
                exact ⟨_, rfl⟩
            · repeat (first | refine gG ?_ | refine zN1 (fun hlen => ?_) | refine zN2 (fun hlen => ?_) | refine zAl (fun _ => ?_) | refine zBx (fun _ => ?_) | refine zAp (fun _ => ?_))
              first | refine zR ?_ | refine zQ ?_
              exact ⟨_, rfl⟩
          · repeat (first | refine gG ?_ | refine zN1 (fun hlen => ?_) | refine zN2 (fun hlen => ?_) | refine zAl (fun _ => ?_) | refine zBx (fun _ => ?_) | refine zAp (fun _ => ?_))
            refine ⟨(l.flatMap Ex.nexts, m, dp + 1), ⟨by simp only; omega, hm, by simp only; omega⟩, by simp only; omega, (wk_frz hX 3 rfl rfl rfl rfl).trans (x_wkd 0 ⟨rfl, rfl, rfl, trivial⟩ rfl (by repeat (first | exact ag_refl | refine ag_upd rfl ?_ | refine ag_at rfl rfl ?_)))⟩
      · repeat (first | refine gG ?_ | refine zN1 (fun hlen => ?_) | refine zN2 (fun hlen => ?_) | refine zAl (fun _ => ?_) | refine zBx (fun _ => ?_) | refine zAp (fun _ => ?_))
        first | refine zR ?_ | refine zQ ?_
        exact ⟨_, rfl⟩
    · repeat (first | refine gG ?_ | refine zN1 (fun hlen => ?_) | refine zN2 (fun hlen => ?_) | refine zAl (fun _ => ?_) | refine zBx (fun _ => ?_) | refine zAp (fun _ => ?_))
      first | refine zR ?_ | refine zQ ?_
      exact ⟨_, rfl⟩
  · repeat (first | refine gG ?_ | refine zN1 (fun hlen => ?_) | refine zN2 (fun hlen => ?_) | refine zAl (fun _ => ?_) | refine zBx (fun _ => ?_) | refine zAp (fun _ => ?_))
    first | refine zR ?_ | refine zQ ?_
    exact ⟨_, rfl⟩
end Go.Proofs.Ytmdmgpnaiknlaaa
