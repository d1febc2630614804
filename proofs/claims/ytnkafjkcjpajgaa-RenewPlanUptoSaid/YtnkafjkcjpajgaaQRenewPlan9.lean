/-
  Texts of this proof, part 9: Vpc Vpd.
-/
import Derived.Test.YtnkafjkcjpajgaaQRenewPlan8
import Derived.Lib.AppendStr
import Derived.Lib.AppendZerosOnto
import Derived.Lib.MinMax
namespace Go.Proofs.Ytnkafjkcjpajgaa
open Go.RowKit
theorem AG.res {P : Program} {f : FuncId} {us us' : List AV} {hs : List Blk} {R : AV → List Blk → Prop} (h : AG P f us hs R) (hr : Res us' us) : AG P f us' hs R :=
  ⟨h.1, fun F M w vs hh hv => h.2 F M w vs hh (hr M vs hv)⟩
/-- a box that nothing writes any more becomes closed memory, also beside blocks that were handed in -/
theorem wk_frzq {F : Frm} {τ : Nat → AV} {hp : List Blk} {N : Nat} (s : Nat) (ts : List T) {i b off : Nat} {t : TypeId} {cs : List AV} {hp' : List Blk} (hs : τ s = .ptr i b off) (hi : hp[i]? = some (.box b t cs)) (hz : Rzs [] cs ts) (hf : evl (hp.set i .dead) = some hp') (hN : Nat.blt s N = true) : Wk F ⟨τ, hp, N⟩ ⟨upd N s (.c (.pin ts off)) τ, hp', N⟩ := by
  intro M a w hr
  have h1 := heap_frzG hr.heap hi
  rw [← evl_eq hf] at h1
  obtain ⟨xs, hh, hx, hone⟩ := hr.heap.at_ i _ hi
  have h2 : RT (frB M (Blk.box b t cs).blk w) (.pin ts off) (.pointer (some ⟨b, off, none⟩)) := by
    simp only [RT]
    refine ⟨⟨b, 0, none⟩, xs, by unfold Addr.add; split <;> simp_all, fun j x hj => ?_, RTs.mono (frB_sub _ _ _) _ _ (cls_sound cs ts xs hz hx)⟩
    have hadd : (⟨b, 0, none⟩ : Addr).add j = ⟨b, j, none⟩ := by unfold Addr.add; split <;> simp_all
    rw [hadd]
    have hn : M ⟨b, j, none⟩ = none := (hr.heap.out i _ b hi rfl).2 _ rfl
    have hc : w.cell? ⟨b, j, none⟩ = some x := by rw [cell_of_row _ b j _ _ _ hh]; simpa using hj
    simp [frB, hn, Blk.blk, hc, hone x (List.mem_of_getElem? hj)]
  refine ⟨_, fun k => ?_, hr.size, hr.defers, h1⟩
  simp only [upd]
  cases hc : Nat.beq k s with
  | false => simp only [Bool.false_and, cond_false]; exact RA.mono (frB_sub _ _ _) _ _ (hr.tmps k)
  | true =>
    have := Nat.eq_of_beq_eq_true hc
    subst this
    have h3 : RA M (τ k) (a.tmps.getD k undef) := hr.tmps k
    rw [hs] at h3
    simp only [RA] at h3
    rw [hN]
    simp only [Bool.and_self, cond_true, RA]
    rw [h3]; exact h2
def posD (p : Pr) (n : ByteArray) : Int := idxI (fun d : Da => decide (d.name = n)) p.datas
set_option maxRecDepth 100000 in
set_option maxHeartbeats 1000000 in
theorem refData_af (p : Pr) (n : ByteArray) : AF Try.prog 105 [p.t, .lit (.string n)] (· = .lit (.int .i64 (posD p n))) := by
  obtain ⟨pn, pv, us, das, trs, ims, fus, acs⟩ := p
  unfold posD
  dsimp only
  refine af_enter tok Try.func105 Try.ntmps105 Try.results105 rfl (by kernel_rfl) rfl rfl fun F hX => ?_
  repeat (first | refine gG ?_ | refine zN1 (fun hlen => ?_) | refine zN2 (fun hlen => ?_) | refine zAl (fun _ => ?_) | refine zBf ?_)
  refine x_loop [4, 5, 6, 10, 11, 12, 13, 14, 15, 16, 17, 18, 19, 20] (fun k : Nat => [(10, .c (.lit (.int .i64 (k : Nat))))]) (fun _ => []) (fun k => k ≤ das.length ∧ idxAt (fun d : Da => decide (d.name = n)) das k) (fun k => das.length - k) 0 ⟨Nat.zero_le _, idxAt_zero _ das⟩ ⟨rfl, trivial⟩ rfl fun k hk => ?_
  repeat (first | refine gG ?_ | refine zN1 (fun hlen => ?_) | refine zN2 (fun hlen => ?_) | refine zAl (fun _ => ?_) | refine zBx (fun _ => ?_))
  refine x_cond rfl (fun h => ?_) (fun h => ?_)
  · have hk' : k < das.length := by simpa using h
    obtain ⟨a, ha⟩ := nth hk'
    have hat := Da.at ha
    have hno := fun hp => idxAt_no hk.2 ha hp
    have hyes := fun hp => idxAt_yes hk.2 ha hp
    clear h ha hk
    obtain ⟨dn, dps, mks⟩ := a
    dsimp only at hno hyes
    repeat (first | refine gG ?_ | refine zN1 (fun hlen => ?_) | refine zN2 (fun hlen => ?_) | refine zAl (fun _ => ?_) | refine zBx (fun _ => ?_))
    refine zIx (k) (hk') ?_
    repeat (first | refine gG ?_ | refine zN1 (fun hlen => ?_) | refine zN2 (fun hlen => ?_) | refine zAl (fun _ => ?_) | refine zBx (fun _ => ?_))
    refine zEl (hat) (Da.ts_len _) ?_
    cases hp : decide (dn = n)
    · replace hno := hno hp
      repeat (first | refine gG ?_ | refine zN1 (fun hlen => ?_) | refine zN2 (fun hlen => ?_) | refine zAl (fun _ => ?_) | refine zBx (fun _ => ?_))
      exact ⟨k + 1, ⟨hk', hno⟩, by omega, x_wkd 0 ⟨rfl, trivial⟩ rfl (by repeat (first | exact ag_refl | refine ag_upd rfl ?_ | refine ag_at rfl rfl ?_))⟩
    · replace hyes := hyes hp
      repeat (first | refine gG ?_ | refine zN1 (fun hlen => ?_) | refine zN2 (fun hlen => ?_) | refine zAl (fun _ => ?_) | refine zBx (fun _ => ?_))
      first | refine zR ?_ | refine zQ ?_
      rw [hyes]; rfl
  · have hk' : k = das.length := by have : ¬ k < das.length := by simpa using h
                                    omega
    subst hk'
    repeat (first | refine gG ?_ | refine zN1 (fun hlen => ?_) | refine zN2 (fun hlen => ?_) | refine zAl (fun _ => ?_) | refine zBx (fun _ => ?_))
    first | refine zR ?_ | refine zQ ?_
    rw [idxAt_end hk.2]; rfl
def bT (z : Bool) : T := .lit (.bool z)
/-- the names that a map marks -/
def Mkd (M : List (ByteArray × Bool)) (n : ByteArray) : Prop := gget n M = some true
theorem mkd_iff (M : List (ByteArray × Bool)) (n : ByteArray) : (gget n M).getD false = true ↔ Mkd M n := by
  unfold Mkd
  cases gget n M <;> simp
theorem mkd_look (M : List (ByteArray × Bool)) (n : ByteArray) : (mget n (mapT bT M)).getD (.lit (.bool false)) = .lit (.bool ((gget n M).getD false)) := by
  rw [mget_T]
  cases gget n M <;> rfl
/-- where a search that stood still at k stands -/
def foundAt (n : ByteArray) (x : List ByteArray) (k : Nat) : Prop := k ≤ x.length ∧ posOf n x = if k < x.length then (k : Int) else -1
theorem found_ok {x y : List ByteArray} (hxy : x.length = y.length) {n n' : ByteArray} {k j : Nat} (h : foundAt n x k) (g : foundAt n' y j) : (¬ posOf n x < 0 ∧ posOf n x = posOf n' y) ↔ k ≠ x.length ∧ k = j := by
  obtain ⟨h1, h2⟩ := h
  obtain ⟨g1, g2⟩ := g
  rw [h2, g2]
  split <;> split <;> omega
def AlR (M : List (ByteArray × Bool)) (c : Nat) (o : Option (List Nat × Nat)) (Q : Prop) (r : AV) (hs : List Blk) : Prop := ∃ z : Bool, r = .c (.lit (.bool z)) ∧ hs = [.mpx c (mkeys Value.string (mapT bT M)) o] ∧ (z = true ↔ Q)
def Als (M : List (ByteArray × Bool)) (x y : List ByteArray) (c : Nat) (o : Option (List Nat × Nat)) (l r : List Y) : Prop :=
  AG Try.prog 106 [.c (Y.row l), .c (Y.row r), .c (strRow x), .c (strRow y), .own 0 (.map (some c))] [.mpx c (mkeys Value.string (mapT bT M)) o] (AlR M c o (Y.lks (Mkd M) x y l r))
set_option maxRecDepth 100000 in
set_option maxHeartbeats 8000000 in
theorem als_step (M : List (ByteArray × Bool)) (x y : List ByteArray) (hxy : x.length = y.length) (c : Nat) (o : Option (List Nat × Nat)) (l r : List Y) (ih : ∀ v ∈ l, ∀ r, Als M x y c o v.args r) : Als M x y c o l r := by
  unfold Als AlR at *
  by_cases hl : ((l.length : Nat) : Int) = ((r.length : Nat) : Int)
  rotate_left
  · have dl : decide (((l.length : Nat) : Int) = ((r.length : Nat) : Int)) = false := decide_eq_false hl
    have hno : ¬ Y.lks (Mkd M) x y l r := fun h => hl (by have := ((lks_iff _ _ _ _ _).1 h).1; omega)
    generalize Y.lks (Mkd M) x y l r = Q at *
    clear ih
    refine ag_enter 1 tok Try.func106 Try.ntmps106 Try.results106 rfl (by kernel_rfl) rfl fun F => ?_
    repeat (first | refine gG ?_ | refine zN1 (fun hlen => ?_) | refine zN2 (fun hlen => ?_) | refine zAl (fun _ => ?_))
    refine zG ?_
    exact ⟨false, rfl, rfl, (fun h => by cases h), fun h => absurd h hno⟩
  have dl : decide (((l.length : Nat) : Int) = ((r.length : Nat) : Int)) = true := decide_eq_true hl
  have hQ := (lks_iff (Mkd M) x y l r)
  generalize Y.lks (Mkd M) x y l r = Q at *
  refine ag_enter 1 tok Try.func106 Try.ntmps106 Try.results106 rfl (by kernel_rfl) rfl fun F => ?_
  repeat (first | refine gG ?_ | refine zN1 (fun hlen => ?_) | refine zN2 (fun hlen => ?_) | refine zAl (fun _ => ?_))
  refine x_loop [10, 11, 12, 13, 14, 15, 23, 24, 25, 26, 27, 28, 29, 30, 31, 32, 33, 34, 35, 36, 37, 38, 39, 40, 41, 42, 43, 44, 45, 46, 47, 48, 49, 50, 51, 52, 53, 54, 55, 56, 57, 58, 59, 60, 61, 62, 63, 64, 65, 66, 67, 68, 69, 70, 71, 72, 73, 74, 75, 76, 77, 78, 79, 80, 81, 82, 83, 84, 85, 86, 87, 88, 89, 90, 91, 92, 93, 94, 95, 96, 97, 98, 99, 100, 101, 102, 103, 104, 105, 106, 107, 108, 109, 110, 111, 112, 113, 114, 115, 116, 117, 118, 119, 120] (fun k : Nat => [(23, .c (.lit (.int .i64 (k : Nat))))]) (fun _ => [.mpx c (mkeys Value.string (mapT bT M)) o]) (fun k => k ≤ l.length ∧ ∀ (i : Nat) (a b : Y), i < k → l[i]? = some a → r[i]? = some b → a.lk (Mkd M) x y b) (fun k => l.length - k) 0 ⟨Nat.zero_le _, fun _ _ _ h => absurd h (Nat.not_lt_zero _)⟩ ⟨rfl, trivial⟩ rfl ?_
  rintro i ⟨hi, hto⟩
  repeat (first | refine gG ?_ | refine zN1 (fun hlen => ?_) | refine zN2 (fun hlen => ?_) | refine zAl (fun _ => ?_))
  refine x_cond rfl (fun h => ?_) (fun h => ?_)
  rotate_left
  · have hi' : i = l.length := by
      have : ¬ i < l.length := by simpa using h
      omega
    subst hi'
    have hy : Q := hQ.2 ⟨by omega, fun j a b ha hb => hto j a b (List.getElem?_eq_some_iff.1 ha).1 ha hb⟩
    clear h ih
    repeat (first | refine gG ?_ | refine zN1 (fun hlen => ?_) | refine zN2 (fun hlen => ?_) | refine zAl (fun _ => ?_))
    refine zG ?_
    exact ⟨true, rfl, rfl, fun _ => hy, fun _ => rfl⟩
  have hi' : i < l.length := by simpa using h
  have hir : i < r.length := by omega
  obtain ⟨a, ha⟩ := nth hi'
  obtain ⟨b, hb⟩ := nth hir
  have hca := ih a (List.mem_of_getElem? ha) b.args
  have hat := Y.at ha
  have hbt := Y.at hb
  obtain ⟨k, n, al⟩ := a
  obtain ⟨k', n', bl⟩ := b
  have hbad : ¬ (Y.mk k n al).lk (Mkd M) x y (.mk k' n' bl) → ¬ Q := fun h hq => h ((hQ.1 hq).2 i _ _ ha hb)
  have hnx : (Y.mk k n al).lk (Mkd M) x y (.mk k' n' bl) → ∀ (j : Nat) (a b : Y), j < i + 1 → l[j]? = some a → r[j]? = some b → a.lk (Mkd M) x y b := fun hlk j u v hj hu hv => by
    by_cases hji : j = i
    · subst hji
      rw [ha] at hu; rw [hb] at hv
      injection hu with hu; injection hv with hv
      subst hu hv
      exact hlk
    · exact hto j u v (by omega) hu hv
  rw [Y.lk] at hbad hnx
  dsimp only [Y.args] at hca
  clear h ha hb ih hQ hto hl
  generalize Y.lks (Mkd M) x y al bl = R at *
  repeat (first | refine gG ?_ | refine zN1 (fun hlen => ?_) | refine zN2 (fun hlen => ?_) | refine zAl (fun _ => ?_))
  refine x_join [12, 13, 26, 27, 28, 29, 30, 31, 32, 33] (fun _ : Unit => [(12, .c (.pin [.lit (.int .i64 k), .lit (.string n), Y.row al] 0)), (13, .c (.pin [.lit (.int .i64 k'), .lit (.string n'), Y.row bl] 0))]) (fun _ => [.mpx c (mkeys Value.string (mapT bT M)) o]) ?_ ?_
  rotate_left
  · skip
    refine ac_drawT [1, 1, 1, 1, 0, 0, 0, 0, 3, 3, 2, 2] (.fork [0, 1, 2, 3, 4, 5, 6, 7] 8 (.fin [9, 10, 11]) 9 (.fin [8, 10, 11])) (by kernel_rfl) (by kernel_rfl) ?_
    refine wt_fork ?_
    refine gW ?_
    apply w_q; (focus exact rfl); (focus exact rfl); focus (intro _; (refine zIx i hi' ?_); exact det_refl)
    apply w_q; (focus exact rfl); (focus exact rfl); focus (intro _; (refine zEl hat (Y.ts_len _) ?_); exact det_refl)
    refine gW ?_
    apply w_p; (focus exact rfl); (focus exact rfl); focus (intro _; (refine zIx i hir ?_); exact det_refl)
    apply w_p; (focus exact rfl); (focus exact rfl); focus (intro _; (refine zEl hbt (Y.ts_len _) ?_); exact det_refl)
    refine w_nil ?_
    refine ⟨?_, ?_⟩
    · apply w_a; (focus exact rfl); (focus exact rfl); refine v_alloc tok rfl rfl rfl (fun _ => rfl) (fun _ => ⟨⟨_, rfl⟩, ?_⟩)
      refine w_nil ?_
      refine wt_fin ?_
      apply w_a; (focus exact rfl); (focus exact rfl); refine v_alloc tok rfl rfl rfl (fun _ => rfl) (fun _ => ⟨⟨_, rfl⟩, ?_⟩)
      apply w_l; (focus exact rfl); (focus exact rfl); (refine zS ?_)
      apply w_l; (focus exact rfl); (focus exact rfl); (refine zS ?_)
      refine w_nil ?_
      exact ⟨(), Wk.trans (wk_frzq 12 [.lit (.int .i64 k), .lit (.string n), Y.row al] rfl rfl (by repeat (first | exact rzs_nil | apply rzs_cons | exact rz_c | exact rz_nil rfl | apply rz_agg | exact rz_own rfl | apply rz_fn | exact rz_ptr rfl | apply rz_tup)) rfl rfl) (Wk.trans (wk_frzq 13 [.lit (.int .i64 k'), .lit (.string n'), Y.row bl] rfl rfl (by repeat (first | exact rzs_nil | apply rzs_cons | exact rz_c | exact rz_nil rfl | apply rz_agg | exact rz_own rfl | apply rz_fn | exact rz_ptr rfl | apply rz_tup)) rfl rfl) (x_wkd 1 ⟨rfl, rfl, trivial⟩ rfl (by repeat (first | exact ag_refl | refine ag_upd rfl ?_ | refine ag_at rfl rfl ?_))))⟩
        
    · apply w_a; (focus exact rfl); (focus exact rfl); refine v_alloc tok rfl rfl rfl (fun _ => rfl) (fun _ => ⟨⟨_, rfl⟩, ?_⟩)
      refine w_nil ?_
      refine wt_fin ?_
      apply w_a; (focus exact rfl); (focus exact rfl); refine v_alloc tok rfl rfl rfl (fun _ => rfl) (fun _ => ⟨⟨_, rfl⟩, ?_⟩)
      apply w_l; (focus exact rfl); (focus exact rfl); (refine zS ?_)
      apply w_l; (focus exact rfl); (focus exact rfl); (refine zS ?_)
      refine w_nil ?_
      exact ⟨(), Wk.trans (wk_frzq 12 [.lit (.int .i64 k), .lit (.string n), Y.row al] rfl rfl (by repeat (first | exact rzs_nil | apply rzs_cons | exact rz_c | exact rz_nil rfl | apply rz_agg | exact rz_own rfl | apply rz_fn | exact rz_ptr rfl | apply rz_tup)) rfl rfl) (Wk.trans (wk_frzq 13 [.lit (.int .i64 k'), .lit (.string n'), Y.row bl] rfl rfl (by repeat (first | exact rzs_nil | apply rzs_cons | exact rz_c | exact rz_nil rfl | apply rz_agg | exact rz_own rfl | apply rz_fn | exact rz_ptr rfl | apply rz_tup)) rfl rfl) (x_wkd 1 ⟨rfl, rfl, trivial⟩ rfl (by repeat (first | exact ag_refl | refine ag_upd rfl ?_ | refine ag_at rfl rfl ?_))))⟩
        
  rintro ⟨⟩
  clear hat hbt hi
  cases d1 : decide (k = k')
  · have hno : ¬ Q := hbad fun h => of_decide_eq_false d1 h.1
    clear hbad hnx hca
    repeat (first | refine gG ?_ | refine zN1 (fun hlen => ?_) | refine zN2 (fun hlen => ?_) | refine zAl (fun _ => ?_))
    refine zG ?_
    exact ⟨false, rfl, rfl, (fun h => by cases h), fun h => absurd h hno⟩
  cases d2 : decide (k = 7)
  rotate_left
  · have hno : ¬ Q := hbad fun h => h.2.1 (of_decide_eq_true d2)
    clear hbad hnx hca
    repeat (first | refine gG ?_ | refine zN1 (fun hlen => ?_) | refine zN2 (fun hlen => ?_) | refine zAl (fun _ => ?_))
    refine zG ?_
    exact ⟨false, rfl, rfl, (fun h => by cases h), fun h => absurd h hno⟩
  cases d5 : decide (k = 5)
  rotate_left
  · have h5 := of_decide_eq_true d5
    have hnm : nmOk (Mkd M) x y k n n' ↔ ¬ posOf n x < 0 ∧ posOf n x = posOf n' y := by
      unfold nmOk
      rw [if_neg (show ¬ k = 6 by omega), if_pos h5]
    repeat (first | refine gG ?_ | refine zN1 (fun hlen => ?_) | refine zN2 (fun hlen => ?_) | refine zAl (fun _ => ?_))
    refine zCallG [0] hca ?_
    rintro _ _ ⟨z, rfl, rfl, hz⟩
    refine ⟨.c _, _, re_refl, rfl, rfl, ?_⟩
    clear hca
    cases z
    · have hno : ¬ Q := hbad fun h => by have := hz.2 h.2.2.2; cases this
      clear hbad hnx
      repeat (first | refine gG ?_ | refine zN1 (fun hlen => ?_) | refine zN2 (fun hlen => ?_) | refine zAl (fun _ => ?_))
      refine zG ?_
      exact ⟨false, rfl, rfl, (fun h => by cases h), fun h => absurd h hno⟩
    replace hz := hz.1 rfl
    have d6 : decide (k = 6) = false := decide_eq_false (by omega)
    repeat (first | refine gG ?_ | refine zN1 (fun hlen => ?_) | refine zN2 (fun hlen => ?_) | refine zAl (fun _ => ?_))
    refine x_len 2 rfl (fun xlen => ?_)
    refine x_loop [14, 67, 68, 69, 70, 71, 72, 73, 74, 75, 76, 77, 78, 79, 80, 81] (fun k : Nat => [(14, .c (.lit (.int .i64 (k : Nat))))]) (fun _ => [.mpx c (mkeys Value.string (mapT bT M)) o]) (fun k => k ≤ x.length ∧ idxAt (fun q => decide (n = q)) x k) (fun k => x.length - k) 0 ⟨Nat.zero_le _, idxAt_zero _ _⟩ ⟨rfl, trivial⟩ rfl ?_
    rintro k1 ⟨k1h, k1t⟩
    by_cases k1l : k1 < x.length
    · obtain ⟨q, hq⟩ := nth k1l
      have g1 : (x.flatMap strTs)[k1 * 1]? = some (.lit (.string q)) := by rw [Nat.mul_one]; exact str_at hq
      have dlt : decide (((k1 : Nat) : Int) < ((x.length : Nat) : Int)) = true := decide_eq_true (by omega)
      cases dq : decide (q = n)
      · have hn1 := idxAt_no k1t hq (show decide (n = q) = false from by rw [← dq]; exact decide_eq_decide.2 eq_comm)
        clear hq k1t
        repeat (first | refine gG ?_ | refine zN1 (fun hlen => ?_) | refine zN2 (fun hlen => ?_) | refine zAl (fun _ => ?_))
        refine ac_draw [1, 1, 1, 1, 1, 1, 1, 1, 1, 1, 1, 1, 1] [0, 1, 2, 3, 4, 5, 6, 7, 8, 9, 10, 11, 12] (by kernel_rfl) (by kernel_rfl) ?_
        refine gW ?_
        try (first | (apply w_un; (focus exact rfl); (focus exact rfl); (focus exact rfl); (focus exact rfl)) | (apply w_no; (focus exact rfl); (focus exact rfl); (focus exact rfl); (focus exact rfl); focus (first | rfl | assumption | exact neg_t (by assumption) | exact neg_f (by assumption))) | (apply w_qg; (focus exact rfl); (focus exact rfl); (focus exact rfl); (focus exact rfl); (focus (first | rfl | assumption | exact neg_t (by assumption) | exact neg_f (by assumption))); (focus (intro _; (refine zIx k1 k1l ?_); exact det_refl))))
        (first | (apply w_un; (focus exact rfl); (focus exact rfl); (focus exact rfl); (focus exact rfl)) | (apply w_no; (focus exact rfl); (focus exact rfl); (focus exact rfl); (focus exact rfl); focus (first | rfl | assumption | exact neg_t (by assumption) | exact neg_f (by assumption))) | (apply w_qg; (focus exact rfl); (focus exact rfl); (focus exact rfl); (focus exact rfl); (focus (first | rfl | assumption | exact neg_t (by assumption) | exact neg_f (by assumption))); (focus (intro _; (refine zEl1 g1 ?_); exact det_refl))))
        try refine gW ?_
        refine w_nil ?_
        repeat (first | refine gG ?_ | refine zN1 (fun hlen => ?_) | refine zN2 (fun hlen => ?_) | refine zAl (fun _ => ?_))
        exact ⟨k1 + 1, ⟨k1l, hn1⟩, by omega, x_wkd 1 ⟨rfl, trivial⟩ rfl (by repeat (first | exact ag_refl | refine ag_upd rfl ?_ | refine ag_at rfl rfl ?_))⟩
      · have hfd : foundAt n x k1 := ⟨k1h, by rw [if_pos k1l]; exact idxAt_yes k1t hq (show decide (n = q) = true from by rw [← dq]; exact decide_eq_decide.2 eq_comm)⟩
        clear hq k1t
        repeat (first | refine gG ?_ | refine zN1 (fun hlen => ?_) | refine zN2 (fun hlen => ?_) | refine zAl (fun _ => ?_))
        refine ac_draw [1, 1, 1, 1, 1, 1, 1, 1, 1, 1, 1, 1, 1] [0, 1, 2, 3, 4, 5, 6, 7, 8, 9, 10, 11, 12] (by kernel_rfl) (by kernel_rfl) ?_
        refine gW ?_
        try (first | (apply w_un; (focus exact rfl); (focus exact rfl); (focus exact rfl); (focus exact rfl)) | (apply w_no; (focus exact rfl); (focus exact rfl); (focus exact rfl); (focus exact rfl); focus (first | rfl | assumption | exact neg_t (by assumption) | exact neg_f (by assumption))) | (apply w_qg; (focus exact rfl); (focus exact rfl); (focus exact rfl); (focus exact rfl); (focus (first | rfl | assumption | exact neg_t (by assumption) | exact neg_f (by assumption))); (focus (intro _; (refine zIx k1 k1l ?_); exact det_refl))))
        (first | (apply w_un; (focus exact rfl); (focus exact rfl); (focus exact rfl); (focus exact rfl)) | (apply w_no; (focus exact rfl); (focus exact rfl); (focus exact rfl); (focus exact rfl); focus (first | rfl | assumption | exact neg_t (by assumption) | exact neg_f (by assumption))) | (apply w_qg; (focus exact rfl); (focus exact rfl); (focus exact rfl); (focus exact rfl); (focus (first | rfl | assumption | exact neg_t (by assumption) | exact neg_f (by assumption))); (focus (intro _; (refine zEl1 g1 ?_); exact det_refl))))
        try refine gW ?_
        refine w_nil ?_
        repeat (first | refine gG ?_ | refine zN1 (fun hlen => ?_) | refine zN2 (fun hlen => ?_) | refine zAl (fun _ => ?_))
        have hfx := hfd
        clear hfd
        refine x_len 3 rfl (fun ylen => ?_)
        refine x_loop [15, 82, 83, 84, 85, 86, 87, 88, 89, 90, 91, 92, 93, 94, 95, 96] (fun k : Nat => [(15, .c (.lit (.int .i64 (k : Nat))))]) (fun _ => [.mpx c (mkeys Value.string (mapT bT M)) o]) (fun k => k ≤ y.length ∧ idxAt (fun q => decide (n' = q)) y k) (fun k => y.length - k) 0 ⟨Nat.zero_le _, idxAt_zero _ _⟩ ⟨rfl, trivial⟩ rfl ?_
        rintro k2 ⟨k2h, k2t⟩
        by_cases k2l : k2 < y.length
        · obtain ⟨q, hq⟩ := nth k2l
          have g1 : (y.flatMap strTs)[k2 * 1]? = some (.lit (.string q)) := by rw [Nat.mul_one]; exact str_at hq
          have dlt : decide (((k2 : Nat) : Int) < ((y.length : Nat) : Int)) = true := decide_eq_true (by omega)
          cases dq : decide (q = n')
          · have hn1 := idxAt_no k2t hq (show decide (n' = q) = false from by rw [← dq]; exact decide_eq_decide.2 eq_comm)
            clear hq k2t
            repeat (first | refine gG ?_ | refine zN1 (fun hlen => ?_) | refine zN2 (fun hlen => ?_) | refine zAl (fun _ => ?_))
            refine ac_draw [1, 1, 1, 1, 1, 1, 1, 1, 1, 1, 1, 1, 1] [0, 1, 2, 3, 4, 5, 6, 7, 8, 9, 10, 11, 12] (by kernel_rfl) (by kernel_rfl) ?_
            refine gW ?_
            try (first | (apply w_un; (focus exact rfl); (focus exact rfl); (focus exact rfl); (focus exact rfl)) | (apply w_no; (focus exact rfl); (focus exact rfl); (focus exact rfl); (focus exact rfl); focus (first | rfl | assumption | exact neg_t (by assumption) | exact neg_f (by assumption))) | (apply w_qg; (focus exact rfl); (focus exact rfl); (focus exact rfl); (focus exact rfl); (focus (first | rfl | assumption | exact neg_t (by assumption) | exact neg_f (by assumption))); (focus (intro _; (refine zIx k2 k2l ?_); exact det_refl))))
            (first | (apply w_un; (focus exact rfl); (focus exact rfl); (focus exact rfl); (focus exact rfl)) | (apply w_no; (focus exact rfl); (focus exact rfl); (focus exact rfl); (focus exact rfl); focus (first | rfl | assumption | exact neg_t (by assumption) | exact neg_f (by assumption))) | (apply w_qg; (focus exact rfl); (focus exact rfl); (focus exact rfl); (focus exact rfl); (focus (first | rfl | assumption | exact neg_t (by assumption) | exact neg_f (by assumption))); (focus (intro _; (refine zEl1 g1 ?_); exact det_refl))))
            try refine gW ?_
            refine w_nil ?_
            repeat (first | refine gG ?_ | refine zN1 (fun hlen => ?_) | refine zN2 (fun hlen => ?_) | refine zAl (fun _ => ?_))
            exact ⟨k2 + 1, ⟨k2l, hn1⟩, by omega, x_wkd 1 ⟨rfl, trivial⟩ rfl (by repeat (first | exact ag_refl | refine ag_upd rfl ?_ | refine ag_at rfl rfl ?_))⟩
          · have hfd : foundAt n' y k2 := ⟨k2h, by rw [if_pos k2l]; exact idxAt_yes k2t hq (show decide (n' = q) = true from by rw [← dq]; exact decide_eq_decide.2 eq_comm)⟩
            clear hq k2t
            repeat (first | refine gG ?_ | refine zN1 (fun hlen => ?_) | refine zN2 (fun hlen => ?_) | refine zAl (fun _ => ?_))
            refine ac_draw [1, 1, 1, 1, 1, 1, 1, 1, 1, 1, 1, 1, 1] [0, 1, 2, 3, 4, 5, 6, 7, 8, 9, 10, 11, 12] (by kernel_rfl) (by kernel_rfl) ?_
            refine gW ?_
            try (first | (apply w_un; (focus exact rfl); (focus exact rfl); (focus exact rfl); (focus exact rfl)) | (apply w_no; (focus exact rfl); (focus exact rfl); (focus exact rfl); (focus exact rfl); focus (first | rfl | assumption | exact neg_t (by assumption) | exact neg_f (by assumption))) | (apply w_qg; (focus exact rfl); (focus exact rfl); (focus exact rfl); (focus exact rfl); (focus (first | rfl | assumption | exact neg_t (by assumption) | exact neg_f (by assumption))); (focus (intro _; (refine zIx k2 k2l ?_); exact det_refl))))
            (first | (apply w_un; (focus exact rfl); (focus exact rfl); (focus exact rfl); (focus exact rfl)) | (apply w_no; (focus exact rfl); (focus exact rfl); (focus exact rfl); (focus exact rfl); focus (first | rfl | assumption | exact neg_t (by assumption) | exact neg_f (by assumption))) | (apply w_qg; (focus exact rfl); (focus exact rfl); (focus exact rfl); (focus exact rfl); (focus (first | rfl | assumption | exact neg_t (by assumption) | exact neg_f (by assumption))); (focus (intro _; (refine zEl1 g1 ?_); exact det_refl))))
            try refine gW ?_
            refine w_nil ?_
            repeat (first | refine gG ?_ | refine zN1 (fun hlen => ?_) | refine zN2 (fun hlen => ?_) | refine zAl (fun _ => ?_))
            have hfo := found_ok hxy hfx hfd
            cases e1 : decide (((k1 : Nat) : Int) = ((x.length : Nat) : Int))
            rotate_left
            · have hno : ¬ Q := hbad fun h => (hfo.1 (hnm.1 h.2.2.1)).1 (by have := of_decide_eq_true e1; omega)
              clear hbad hnx
              repeat (first | refine gG ?_ | refine zN1 (fun hlen => ?_) | refine zN2 (fun hlen => ?_) | refine zAl (fun _ => ?_))
              refine zG ?_
              exact ⟨false, rfl, rfl, (fun h => by cases h), fun h => absurd h hno⟩
            cases e2 : decide (((k1 : Nat) : Int) = ((k2 : Nat) : Int))
            · have hno : ¬ Q := hbad fun h => of_decide_eq_false e2 (by have := (hfo.1 (hnm.1 h.2.2.1)).2; omega)
              clear hbad hnx
              repeat (first | refine gG ?_ | refine zN1 (fun hlen => ?_) | refine zN2 (fun hlen => ?_) | refine zAl (fun _ => ?_))
              refine zG ?_
              exact ⟨false, rfl, rfl, (fun h => by cases h), fun h => absurd h hno⟩
            replace hnx := hnx ⟨of_decide_eq_true d1, of_decide_eq_false d2, hnm.2 (hfo.2 ⟨fun e => of_decide_eq_false e1 (by omega), by have := of_decide_eq_true e2; omega⟩), hz⟩
            repeat (first | refine gG ?_ | refine zN1 (fun hlen => ?_) | refine zN2 (fun hlen => ?_) | refine zAl (fun _ => ?_))
            exact ⟨i + 1, ⟨hi', hnx⟩, by omega, x_wkd 1 ⟨rfl, trivial⟩ rfl (by repeat (first | exact ag_refl | refine ag_upd rfl ?_ | refine ag_at rfl rfl ?_))⟩
        · have dlt : decide (((k2 : Nat) : Int) < ((y.length : Nat) : Int)) = false := decide_eq_false (by omega)
          have hfd : foundAt n' y k2 := ⟨k2h, by
            rw [if_neg k2l]
            have : k2 = y.length := by omega
            subst this
            exact idxAt_end k2t⟩
          clear k2t
          repeat (first | refine gG ?_ | refine zN1 (fun hlen => ?_) | refine zN2 (fun hlen => ?_) | refine zAl (fun _ => ?_))
          refine ac_draw [1, 1, 1, 1, 1, 1, 1, 1, 1, 1, 1, 1, 1] [0, 1, 2, 3, 4, 5, 6, 7, 8, 9, 10, 11, 12] (by kernel_rfl) (by kernel_rfl) ?_
          refine gW ?_
          refine w_nil ?_
          repeat (first | refine gG ?_ | refine zN1 (fun hlen => ?_) | refine zN2 (fun hlen => ?_) | refine zAl (fun _ => ?_))
          have hfo := found_ok hxy hfx hfd
          cases e1 : decide (((k1 : Nat) : Int) = ((x.length : Nat) : Int))
          rotate_left
          · have hno : ¬ Q := hbad fun h => (hfo.1 (hnm.1 h.2.2.1)).1 (by have := of_decide_eq_true e1; omega)
            clear hbad hnx
            repeat (first | refine gG ?_ | refine zN1 (fun hlen => ?_) | refine zN2 (fun hlen => ?_) | refine zAl (fun _ => ?_))
            refine zG ?_
            exact ⟨false, rfl, rfl, (fun h => by cases h), fun h => absurd h hno⟩
          cases e2 : decide (((k1 : Nat) : Int) = ((k2 : Nat) : Int))
          · have hno : ¬ Q := hbad fun h => of_decide_eq_false e2 (by have := (hfo.1 (hnm.1 h.2.2.1)).2; omega)
            clear hbad hnx
            repeat (first | refine gG ?_ | refine zN1 (fun hlen => ?_) | refine zN2 (fun hlen => ?_) | refine zAl (fun _ => ?_))
            refine zG ?_
            exact ⟨false, rfl, rfl, (fun h => by cases h), fun h => absurd h hno⟩
          replace hnx := hnx ⟨of_decide_eq_true d1, of_decide_eq_false d2, hnm.2 (hfo.2 ⟨fun e => of_decide_eq_false e1 (by omega), by have := of_decide_eq_true e2; omega⟩), hz⟩
          repeat (first | refine gG ?_ | refine zN1 (fun hlen => ?_) | refine zN2 (fun hlen => ?_) | refine zAl (fun _ => ?_))
          exact ⟨i + 1, ⟨hi', hnx⟩, by omega, x_wkd 1 ⟨rfl, trivial⟩ rfl (by repeat (first | exact ag_refl | refine ag_upd rfl ?_ | refine ag_at rfl rfl ?_))⟩
    · have dlt : decide (((k1 : Nat) : Int) < ((x.length : Nat) : Int)) = false := decide_eq_false (by omega)
      have hfd : foundAt n x k1 := ⟨k1h, by
        rw [if_neg k1l]
        have : k1 = x.length := by omega
        subst this
        exact idxAt_end k1t⟩
      clear k1t
      repeat (first | refine gG ?_ | refine zN1 (fun hlen => ?_) | refine zN2 (fun hlen => ?_) | refine zAl (fun _ => ?_))
      refine ac_draw [1, 1, 1, 1, 1, 1, 1, 1, 1, 1, 1, 1, 1] [0, 1, 2, 3, 4, 5, 6, 7, 8, 9, 10, 11, 12] (by kernel_rfl) (by kernel_rfl) ?_
      refine gW ?_
      refine w_nil ?_
      repeat (first | refine gG ?_ | refine zN1 (fun hlen => ?_) | refine zN2 (fun hlen => ?_) | refine zAl (fun _ => ?_))
      have hfx := hfd
      clear hfd
      refine x_len 3 rfl (fun ylen => ?_)
      refine x_loop [15, 82, 83, 84, 85, 86, 87, 88, 89, 90, 91, 92, 93, 94, 95, 96] (fun k : Nat => [(15, .c (.lit (.int .i64 (k : Nat))))]) (fun _ => [.mpx c (mkeys Value.string (mapT bT M)) o]) (fun k => k ≤ y.length ∧ idxAt (fun q => decide (n' = q)) y k) (fun k => y.length - k) 0 ⟨Nat.zero_le _, idxAt_zero _ _⟩ ⟨rfl, trivial⟩ rfl ?_
      rintro k2 ⟨k2h, k2t⟩
      by_cases k2l : k2 < y.length
      · obtain ⟨q, hq⟩ := nth k2l
        have g1 : (y.flatMap strTs)[k2 * 1]? = some (.lit (.string q)) := by rw [Nat.mul_one]; exact str_at hq
        have dlt : decide (((k2 : Nat) : Int) < ((y.length : Nat) : Int)) = true := decide_eq_true (by omega)
        cases dq : decide (q = n')
        · have hn1 := idxAt_no k2t hq (show decide (n' = q) = false from by rw [← dq]; exact decide_eq_decide.2 eq_comm)
          clear hq k2t
          repeat (first | refine gG ?_ | refine zN1 (fun hlen => ?_) | refine zN2 (fun hlen => ?_) | refine zAl (fun _ => ?_))
          refine ac_draw [1, 1, 1, 1, 1, 1, 1, 1, 1, 1, 1, 1, 1] [0, 1, 2, 3, 4, 5, 6, 7, 8, 9, 10, 11, 12] (by kernel_rfl) (by kernel_rfl) ?_
          refine gW ?_
          try (first | (apply w_un; (focus exact rfl); (focus exact rfl); (focus exact rfl); (focus exact rfl)) | (apply w_no; (focus exact rfl); (focus exact rfl); (focus exact rfl); (focus exact rfl); focus (first | rfl | assumption | exact neg_t (by assumption) | exact neg_f (by assumption))) | (apply w_qg; (focus exact rfl); (focus exact rfl); (focus exact rfl); (focus exact rfl); (focus (first | rfl | assumption | exact neg_t (by assumption) | exact neg_f (by assumption))); (focus (intro _; (refine zIx k2 k2l ?_); exact det_refl))))
          (first | (apply w_un; (focus exact rfl); (focus exact rfl); (focus exact rfl); (focus exact rfl)) | (apply w_no; (focus exact rfl); (focus exact rfl); (focus exact rfl); (focus exact rfl); focus (first | rfl | assumption | exact neg_t (by assumption) | exact neg_f (by assumption))) | (apply w_qg; (focus exact rfl); (focus exact rfl); (focus exact rfl); (focus exact rfl); (focus (first | rfl | assumption | exact neg_t (by assumption) | exact neg_f (by assumption))); (focus (intro _; (refine zEl1 g1 ?_); exact det_refl))))
          try refine gW ?_
          refine w_nil ?_
          repeat (first | refine gG ?_ | refine zN1 (fun hlen => ?_) | refine zN2 (fun hlen => ?_) | refine zAl (fun _ => ?_))
          exact ⟨k2 + 1, ⟨k2l, hn1⟩, by omega, x_wkd 1 ⟨rfl, trivial⟩ rfl (by repeat (first | exact ag_refl | refine ag_upd rfl ?_ | refine ag_at rfl rfl ?_))⟩
        · have hfd : foundAt n' y k2 := ⟨k2h, by rw [if_pos k2l]; exact idxAt_yes k2t hq (show decide (n' = q) = true from by rw [← dq]; exact decide_eq_decide.2 eq_comm)⟩
          clear hq k2t
          repeat (first | refine gG ?_ | refine zN1 (fun hlen => ?_) | refine zN2 (fun hlen => ?_) | refine zAl (fun _ => ?_))
          refine ac_draw [1, 1, 1, 1, 1, 1, 1, 1, 1, 1, 1, 1, 1] [0, 1, 2, 3, 4, 5, 6, 7, 8, 9, 10, 11, 12] (by kernel_rfl) (by kernel_rfl) ?_
          refine gW ?_
          try (first | (apply w_un; (focus exact rfl); (focus exact rfl); (focus exact rfl); (focus exact rfl)) | (apply w_no; (focus exact rfl); (focus exact rfl); (focus exact rfl); (focus exact rfl); focus (first | rfl | assumption | exact neg_t (by assumption) | exact neg_f (by assumption))) | (apply w_qg; (focus exact rfl); (focus exact rfl); (focus exact rfl); (focus exact rfl); (focus (first | rfl | assumption | exact neg_t (by assumption) | exact neg_f (by assumption))); (focus (intro _; (refine zIx k2 k2l ?_); exact det_refl))))
          (first | (apply w_un; (focus exact rfl); (focus exact rfl); (focus exact rfl); (focus exact rfl)) | (apply w_no; (focus exact rfl); (focus exact rfl); (focus exact rfl); (focus exact rfl); focus (first | rfl | assumption | exact neg_t (by assumption) | exact neg_f (by assumption))) | (apply w_qg; (focus exact rfl); (focus exact rfl); (focus exact rfl); (focus exact rfl); (focus (first | rfl | assumption | exact neg_t (by assumption) | exact neg_f (by assumption))); (focus (intro _; (refine zEl1 g1 ?_); exact det_refl))))
          try refine gW ?_
          refine w_nil ?_
          repeat (first | refine gG ?_ | refine zN1 (fun hlen => ?_) | refine zN2 (fun hlen => ?_) | refine zAl (fun _ => ?_))
          have hfo := found_ok hxy hfx hfd
          cases e1 : decide (((k1 : Nat) : Int) = ((x.length : Nat) : Int))
          rotate_left
          · have hno : ¬ Q := hbad fun h => (hfo.1 (hnm.1 h.2.2.1)).1 (by have := of_decide_eq_true e1; omega)
            clear hbad hnx
            repeat (first | refine gG ?_ | refine zN1 (fun hlen => ?_) | refine zN2 (fun hlen => ?_) | refine zAl (fun _ => ?_))
            refine zG ?_
            exact ⟨false, rfl, rfl, (fun h => by cases h), fun h => absurd h hno⟩
          cases e2 : decide (((k1 : Nat) : Int) = ((k2 : Nat) : Int))
          · have hno : ¬ Q := hbad fun h => of_decide_eq_false e2 (by have := (hfo.1 (hnm.1 h.2.2.1)).2; omega)
            clear hbad hnx
            repeat (first | refine gG ?_ | refine zN1 (fun hlen => ?_) | refine zN2 (fun hlen => ?_) | refine zAl (fun _ => ?_))
            refine zG ?_
            exact ⟨false, rfl, rfl, (fun h => by cases h), fun h => absurd h hno⟩
          replace hnx := hnx ⟨of_decide_eq_true d1, of_decide_eq_false d2, hnm.2 (hfo.2 ⟨fun e => of_decide_eq_false e1 (by omega), by have := of_decide_eq_true e2; omega⟩), hz⟩
          repeat (first | refine gG ?_ | refine zN1 (fun hlen => ?_) | refine zN2 (fun hlen => ?_) | refine zAl (fun _ => ?_))
          exact ⟨i + 1, ⟨hi', hnx⟩, by omega, x_wkd 1 ⟨rfl, trivial⟩ rfl (by repeat (first | exact ag_refl | refine ag_upd rfl ?_ | refine ag_at rfl rfl ?_))⟩
      · have dlt : decide (((k2 : Nat) : Int) < ((y.length : Nat) : Int)) = false := decide_eq_false (by omega)
        have hfd : foundAt n' y k2 := ⟨k2h, by
          rw [if_neg k2l]
          have : k2 = y.length := by omega
          subst this
          exact idxAt_end k2t⟩
        clear k2t
        repeat (first | refine gG ?_ | refine zN1 (fun hlen => ?_) | refine zN2 (fun hlen => ?_) | refine zAl (fun _ => ?_))
        refine ac_draw [1, 1, 1, 1, 1, 1, 1, 1, 1, 1, 1, 1, 1] [0, 1, 2, 3, 4, 5, 6, 7, 8, 9, 10, 11, 12] (by kernel_rfl) (by kernel_rfl) ?_
        refine gW ?_
        refine w_nil ?_
        repeat (first | refine gG ?_ | refine zN1 (fun hlen => ?_) | refine zN2 (fun hlen => ?_) | refine zAl (fun _ => ?_))
        have hfo := found_ok hxy hfx hfd
        cases e1 : decide (((k1 : Nat) : Int) = ((x.length : Nat) : Int))
        rotate_left
        · have hno : ¬ Q := hbad fun h => (hfo.1 (hnm.1 h.2.2.1)).1 (by have := of_decide_eq_true e1; omega)
          clear hbad hnx
          repeat (first | refine gG ?_ | refine zN1 (fun hlen => ?_) | refine zN2 (fun hlen => ?_) | refine zAl (fun _ => ?_))
          refine zG ?_
          exact ⟨false, rfl, rfl, (fun h => by cases h), fun h => absurd h hno⟩
        cases e2 : decide (((k1 : Nat) : Int) = ((k2 : Nat) : Int))
        · have hno : ¬ Q := hbad fun h => of_decide_eq_false e2 (by have := (hfo.1 (hnm.1 h.2.2.1)).2; omega)
          clear hbad hnx
          repeat (first | refine gG ?_ | refine zN1 (fun hlen => ?_) | refine zN2 (fun hlen => ?_) | refine zAl (fun _ => ?_))
          refine zG ?_
          exact ⟨false, rfl, rfl, (fun h => by cases h), fun h => absurd h hno⟩
        replace hnx := hnx ⟨of_decide_eq_true d1, of_decide_eq_false d2, hnm.2 (hfo.2 ⟨fun e => of_decide_eq_false e1 (by omega), by have := of_decide_eq_true e2; omega⟩), hz⟩
        repeat (first | refine gG ?_ | refine zN1 (fun hlen => ?_) | refine zN2 (fun hlen => ?_) | refine zAl (fun _ => ?_))
        exact ⟨i + 1, ⟨hi', hnx⟩, by omega, x_wkd 1 ⟨rfl, trivial⟩ rfl (by repeat (first | exact ag_refl | refine ag_upd rfl ?_ | refine ag_at rfl rfl ?_))⟩
  cases d6 : decide (k = 6)
  rotate_left
  · have hnm : nmOk (Mkd M) x y k n n' ↔ n = n' ∧ Mkd M n := by
      unfold nmOk
      rw [if_pos (of_decide_eq_true d6)]
    have hlk := mkd_look M n
    have hmk := mkd_iff M n
    generalize (gget n M).getD false = mk at *
    repeat (first | refine gG ?_ | refine zN1 (fun hlen => ?_) | refine zN2 (fun hlen => ?_) | refine zAl (fun _ => ?_))
    refine zCallG [0] hca ?_
    rintro _ _ ⟨z, rfl, rfl, hz⟩
    refine ⟨.c _, _, re_refl, rfl, rfl, ?_⟩
    clear hca
    cases z
    · have hno : ¬ Q := hbad fun h => by have := hz.2 h.2.2.2; cases this
      clear hbad hnx
      repeat (first | refine gG ?_ | refine zN1 (fun hlen => ?_) | refine zN2 (fun hlen => ?_) | refine zAl (fun _ => ?_))
      refine zG ?_
      exact ⟨false, rfl, rfl, (fun h => by cases h), fun h => absurd h hno⟩
    replace hz := hz.1 rfl
    cases d7 : decide (n = n')
    · have hno : ¬ Q := hbad fun h => of_decide_eq_false d7 (hnm.1 h.2.2.1).1
      clear hbad hnx
      repeat (first | refine gG ?_ | refine zN1 (fun hlen => ?_) | refine zN2 (fun hlen => ?_) | refine zAl (fun _ => ?_))
      refine zG ?_
      exact ⟨false, rfl, rfl, (fun h => by cases h), fun h => absurd h hno⟩
    cases mk
    · have hno : ¬ Q := hbad fun h => by have := hmk.2 (hnm.1 h.2.2.1).2; cases this
      clear hbad hnx
      repeat (first | refine gG ?_ | refine zN1 (fun hlen => ?_) | refine zN2 (fun hlen => ?_) | refine zAl (fun _ => ?_))
      refine zLks 9 4 hlk ?_
      repeat (first | refine gG ?_ | refine zN1 (fun hlen => ?_) | refine zN2 (fun hlen => ?_) | refine zAl (fun _ => ?_))
      refine zG ?_
      exact ⟨false, rfl, rfl, (fun h => by cases h), fun h => absurd h hno⟩
    replace hnx := hnx ⟨of_decide_eq_true d1, of_decide_eq_false d2, hnm.2 ⟨of_decide_eq_true d7, hmk.1 rfl⟩, hz⟩
    repeat (first | refine gG ?_ | refine zN1 (fun hlen => ?_) | refine zN2 (fun hlen => ?_) | refine zAl (fun _ => ?_))
    refine zLks 9 4 hlk ?_
    repeat (first | refine gG ?_ | refine zN1 (fun hlen => ?_) | refine zN2 (fun hlen => ?_) | refine zAl (fun _ => ?_))
    exact ⟨i + 1, ⟨hi', hnx⟩, by omega, x_wkd 1 ⟨rfl, trivial⟩ rfl (by repeat (first | exact ag_refl | refine ag_upd rfl ?_ | refine ag_at rfl rfl ?_))⟩
  have hnm : nmOk (Mkd M) x y k n n' ↔ n = ⟨#[]⟩ ∧ n' = ⟨#[]⟩ := by
    unfold nmOk
    rw [if_neg (of_decide_eq_false d6), if_neg (of_decide_eq_false d5)]
  repeat (first | refine gG ?_ | refine zN1 (fun hlen => ?_) | refine zN2 (fun hlen => ?_) | refine zAl (fun _ => ?_))
  refine zCallG [0] hca ?_
  rintro _ _ ⟨z, rfl, rfl, hz⟩
  refine ⟨.c _, _, re_refl, rfl, rfl, ?_⟩
  clear hca
  cases z
  · have hno : ¬ Q := hbad fun h => by have := hz.2 h.2.2.2; cases this
    clear hbad hnx
    repeat (first | refine gG ?_ | refine zN1 (fun hlen => ?_) | refine zN2 (fun hlen => ?_) | refine zAl (fun _ => ?_))
    refine zG ?_
    exact ⟨false, rfl, rfl, (fun h => by cases h), fun h => absurd h hno⟩
  replace hz := hz.1 rfl
  cases d7 : decide (n = ⟨#[]⟩)
  · have hno : ¬ Q := hbad fun h => of_decide_eq_false d7 (hnm.1 h.2.2.1).1
    clear hbad hnx
    repeat (first | refine gG ?_ | refine zN1 (fun hlen => ?_) | refine zN2 (fun hlen => ?_) | refine zAl (fun _ => ?_))
    refine zG ?_
    exact ⟨false, rfl, rfl, (fun h => by cases h), fun h => absurd h hno⟩
  cases d8 : decide (n' = ⟨#[]⟩)
  · have hno : ¬ Q := hbad fun h => of_decide_eq_false d8 (hnm.1 h.2.2.1).2
    clear hbad hnx
    repeat (first | refine gG ?_ | refine zN1 (fun hlen => ?_) | refine zN2 (fun hlen => ?_) | refine zAl (fun _ => ?_))
    refine zG ?_
    exact ⟨false, rfl, rfl, (fun h => by cases h), fun h => absurd h hno⟩
  replace hnx := hnx ⟨of_decide_eq_true d1, of_decide_eq_false d2, hnm.2 ⟨of_decide_eq_true d7, of_decide_eq_true d8⟩, hz⟩
  repeat (first | refine gG ?_ | refine zN1 (fun hlen => ?_) | refine zN2 (fun hlen => ?_) | refine zAl (fun _ => ?_))
  exact ⟨i + 1, ⟨hi', hnx⟩, by omega, x_wkd 1 ⟨rfl, trivial⟩ rfl (by repeat (first | exact ag_refl | refine ag_upd rfl ?_ | refine ag_at rfl rfl ?_))⟩
theorem als_all (M : List (ByteArray × Bool)) (x y : List ByteArray) (hxy : x.length = y.length) (c : Nat) (o : Option (List Nat × Nat)) (l r : List Y) : Als M x y c o l r := by
  have h : ∀ v : Y, ∀ r, Als M x y c o v.args r := fun v => by
    induction v using Y.ind with
    | h k n l ih => exact fun r => als_step M x y hxy c o l r ih
  exact als_step M x y hxy c o l r fun v _ => h v
end Go.Proofs.Ytnkafjkcjpajgaa
namespace Go.Proofs.Ytnkafjkcjpajgaa
open Go.RowKit
theorem posD_cases (p : Pr) (n : ByteArray) : (posD p n = -1 ∧ p.data n = none) ∨ ∃ (i : Nat) (d : Da), posD p n = i ∧ p.datas[i]? = some d ∧ p.data n = some d := by
  unfold posD Pr.data
  generalize p.datas = l
  induction l with
  | nil => exact .inl ⟨rfl, rfl⟩
  | cons a l ih =>
    rw [idxI_cons, List.find?_cons]
    cases h : decide (a.name = n) with
    | true => exact .inr ⟨0, a, by simp, rfl, rfl⟩
    | false =>
      rcases ih with ⟨h1, h2⟩ | ⟨i, d, h1, h2, h3⟩
      · left
        rw [h1, h2]
        exact ⟨by simp, rfl⟩
      · right
        rw [h1, h3]
        refine ⟨i + 1, d, ?_, by simpa using h2, rfl⟩
        have : ¬ ((i : Nat) : Int) < 0 := by omega
        simp [this]
theorem posD_some (p : Pr) (n : ByteArray) : decide (0 ≤ posD p n) = (p.data n).isSome := by
  rcases posD_cases p n with ⟨h1, h2⟩ | ⟨i, d, h1, h2, h3⟩
  · rw [h1, h2]; rfl
  · rw [h1, h3]; simp
def trues (M : List (ByteArray × Bool)) : Nat := (M.filter fun p => p.2).length
theorem trues_cons (p : ByteArray × Bool) (M : List (ByteArray × Bool)) : trues (p :: M) = trues M + (if p.2 then 1 else 0) := by
  unfold trues
  rw [List.filter_cons]
  cases p.2 <;> simp
theorem trues_put {n : ByteArray} : ∀ {M : List (ByteArray × Bool)}, gget n M = some true → trues (gput n false M) + 1 ≤ trues M
  | [], h => by cases h
  | (k, b) :: M, h => by
    rw [gget] at h
    rw [gput]
    by_cases hk : n = k
    · rw [if_pos hk] at h ⊢
      injection h with h
      subst h
      rw [trues_cons, trues_cons]
      simp
    · rw [if_neg hk] at h ⊢
      have ih := trues_put h
      rw [trues_cons, trues_cons]
      omega
theorem gput_len_eq {n : ByteArray} {z : Bool} : ∀ {M : List (ByteArray × Bool)}, (gget n M).isSome = true → (gput n z M).length = M.length
  | [], h => by cases h
  | (k, b) :: M, h => by
    rw [gget] at h
    rw [gput]
    by_cases hk : n = k
    · rw [if_pos hk]; rfl
    · rw [if_neg hk] at h ⊢
      simp [gput_len_eq h]
theorem gget_at {n : ByteArray} {z : Bool} : ∀ {M : List (ByteArray × Bool)} {k : Nat}, (M.map (·.1)).Nodup → M[k]? = some (n, z) → gget n M = some z
  | [], k, _, h => by simp at h
  | (k', b) :: M, 0, _, h => by
    simp at h
    obtain ⟨rfl, rfl⟩ := h
    rw [gget, if_pos rfl]
  | (k', b) :: M, k + 1, hn, h => by
    obtain ⟨h1, h2⟩ := List.nodup_cons.1 hn
    have h3 : M[k]? = some (n, z) := by simpa using h
    rw [gget, if_neg fun e => h1 (by rw [← e]; exact List.mem_map.2 ⟨(n, z), List.mem_of_getElem? h3, rfl⟩)]
    exact gget_at h2 h3
theorem gget_to {n : ByteArray} {z : Bool} : ∀ {M : List (ByteArray × Bool)}, gget n M = some z → ∃ k : Nat, M[k]? = some (n, z)
  | [], h => by cases h
  | (k', b) :: M, h => by
    rw [gget] at h
    by_cases hk : n = k'
    · rw [if_pos hk] at h
      injection h with h
      subst h hk
      exact ⟨0, rfl⟩
    · rw [if_neg hk] at h
      obtain ⟨k, h⟩ := gget_to h
      exact ⟨k + 1, by simpa using h⟩
/-- what the marks say while names are struck -/
structure INV (o w : Pr) (M : List (ByteArray × Bool)) : Prop where
  nodup : (M.map (·.1)).Nodup
  both : ∀ n, Mkd M n → ∃ d f, o.data n = some d ∧ w.data n = some f
  up : ∀ A, PF o w A → ∀ n, A n → Mkd M n
/-- the marks asq the Datas of the old program are gone through -/
def Init (o w : Pr) (k : Nat) (M : List (ByteArray × Bool)) : Prop := (M.map (·.1)).Nodup ∧ ∀ n, gget n M = if ((o.datas.take k).any fun d => decide (d.name = n)) then some (w.data n).isSome else none
theorem init_zero (o w : Pr) : Init o w 0 [] := ⟨List.nodup_nil, fun n => by simp [gget]⟩
theorem init_next {o w : Pr} {k : Nat} {M : List (ByteArray × Bool)} {d : Da} (h : Init o w k M) (hd : o.datas[k]? = some d) : Init o w (k + 1) (gput d.name (w.data d.name).isSome M) := by
  refine ⟨gput_nodup h.1, fun n => ?_⟩
  obtain ⟨h1, rfl⟩ := List.getElem?_eq_some_iff.1 hd
  rw [gget_put, h.2 n, List.take_succ_eq_append_getElem h1, List.any_append]
  by_cases hn : n = o.datas[k].name
  · rw [if_pos hn, if_pos (by simp [hn]), hn]
  · rw [if_neg hn]
    have : decide (o.datas[k].name = n) = false := decide_eq_false (Ne.symm hn)
    simp [this]
theorem init_all {o w : Pr} {M : List (ByteArray × Bool)} (h : Init o w o.datas.length M) : INV o w M := by
  have h2 := h.2
  rw [List.take_length] at h2
  refine ⟨h.1, fun n hn => ?_, fun A hA n hn => ?_⟩
  · have h3 := h2 n
    unfold Mkd at hn
    rw [hn] at h3
    split at h3
    · next hx =>
      injection h3 with h3
      obtain ⟨f, hf⟩ := Option.isSome_iff_exists.1 h3.symm
      cases hd : o.data n with
      | some d => exact ⟨d, f, rfl, hf⟩
      | none =>
        obtain ⟨e, he, hen⟩ := List.any_eq_true.1 hx
        have := List.find?_eq_none.1 hd e he
        exact absurd hen this
    · cases h3
  · obtain ⟨d, f, h3, h4, _⟩ := hA n hn
    unfold Mkd
    rw [h2, if_pos, h4]
    · rfl
    · have hm := List.mem_of_find?_eq_some h3
      have hx := List.find?_some h3
      exact List.any_eq_true.2 ⟨d, hm, hx⟩
theorem INV.strike {o w : Pr} {M : List (ByteArray × Bool)} {n : ByteArray} (h : INV o w M) (hn : ¬ daOk o w (Mkd M) n) : INV o w (gput n false M) := by
  refine ⟨gput_nodup h.nodup, fun x hx => ?_, fun A hA x hx => ?_⟩
  · refine h.both x ?_
    unfold Mkd at hx ⊢
    rw [gget_put] at hx
    split at hx
    · cases hx
    · exact hx
  · have h1 := h.up A hA x hx
    unfold Mkd at h1 ⊢
    rw [gget_put]
    split
    · next hxn =>
      subst hxn
      exact absurd (daOk_mono (h.up A hA) (hA x hx)) hn
    · exact h1
/-- where the walk over the marks stands -/
structure Wlk (o w : Pr) (M0 M : List (ByteArray × Bool)) (P : List Nat) (t : Bool) : Prop where
  nodup : P.Nodup
  lt : ∀ p ∈ P, p < M0.length
  len : M.length = M0.length
  inv : INV o w M
  less : trues M + (if t then 1 else 0) ≤ trues M0
  all : t = false → ∀ k ∈ P, ∀ n, M[k]? = some (n, true) → daOk o w (Mkd M) n
theorem Wlk.start {o w : Pr} {M : List (ByteArray × Bool)} (h : INV o w M) : Wlk o w M M [] false := ⟨List.nodup_nil, fun _ h => (by cases h), rfl, h, Nat.le_refl _, fun _ _ h => (by cases h)⟩
theorem Wlk.keep {o w : Pr} {M0 M : List (ByteArray × Bool)} {P : List Nat} {t : Bool} {k : Nat} {n : ByteArray} {z : Bool} (h : Wlk o w M0 M P t) (hk : M[k]? = some (n, z)) (hn : k ∉ P) (hz : z = true → daOk o w (Mkd M) n) : Wlk o w M0 M (P ++ [k]) t := by
  have hkl : k < M0.length := by rw [← h.len]; exact (List.getElem?_eq_some_iff.1 hk).1
  obtain ⟨h1, h2⟩ := walk_snoc h.nodup h.lt hkl hn
  refine ⟨h1, h2, h.len, h.inv, h.less, fun ht j hj x hx => ?_⟩
  rcases List.mem_append.1 hj with hj | hj
  · exact h.all ht j hj x hx
  · rw [List.mem_singleton.1 hj, hk] at hx
    injection hx with hx
    injection hx with e1 e2
    subst e1
    exact hz e2
theorem Wlk.strike {o w : Pr} {M0 M : List (ByteArray × Bool)} {P : List Nat} {t : Bool} {k : Nat} {n : ByteArray} (h : Wlk o w M0 M P t) (hk : M[k]? = some (n, true)) (hn : k ∉ P) (hz : ¬ daOk o w (Mkd M) n) : Wlk o w M0 (gput n false M) (P ++ [k]) true := by
  have hkl : k < M0.length := by rw [← h.len]; exact (List.getElem?_eq_some_iff.1 hk).1
  obtain ⟨h1, h2⟩ := walk_snoc h.nodup h.lt hkl hn
  have hg := gget_at h.inv.nodup hk
  have h3 := trues_put hg
  have h4 := h.less
  exact ⟨h1, h2, by rw [gput_len_eq (by rw [hg]; rfl)]; exact h.len, h.inv.strike hz, by simp only [if_true]; split at h4 <;> omega, fun ht => by cases ht⟩
theorem Wlk.done {o w : Pr} {M0 M : List (ByteArray × Bool)} {P : List Nat} (h : Wlk o w M0 M P false) (hP : ∀ k, k < M.length → k ∈ P) : PF o w (Mkd M) := fun n hn => by
  obtain ⟨k, hk⟩ := gget_to hn
  exact h.all rfl k (hP k (List.getElem?_eq_some_iff.1 hk).1) n hk
/-- the parts of two Datas that were compared so far -/
def POK (M : List (ByteArray × Bool)) (d f : Da) (i : Nat) : Prop := d.params.length = f.params.length ∧ d.makes.length = f.makes.length ∧ ∀ (j : Nat) (m m' : Mk), j < i → d.makes[j]? = some m → f.makes[j]? = some m' → mkOk (Mkd M) d.params f.params m m'
theorem POK.next {M : List (ByteArray × Bool)} {d f : Da} {i : Nat} {m m' : Mk} (hm : d.makes[i]? = some m) (hm' : f.makes[i]? = some m') : POK M d f (i + 1) ↔ POK M d f i ∧ mkOk (Mkd M) d.params f.params m m' := by
  constructor
  · rintro ⟨h1, h2, h3⟩
    exact ⟨⟨h1, h2, fun j a b hj => h3 j a b (by omega)⟩, h3 i m m' (by omega) hm hm'⟩
  · rintro ⟨⟨h1, h2, h3⟩, h4⟩
    refine ⟨h1, h2, fun j a b hj ha hb => ?_⟩
    by_cases hji : j = i
    · subst hji
      rw [hm] at ha; rw [hm'] at hb
      injection ha with ha; injection hb with hb
      subst ha hb
      exact h4
    · exact h3 j a b (by omega) ha hb
theorem POK.all {o w : Pr} {M : List (ByteArray × Bool)} {n : ByteArray} {d f : Da} (hd : o.data n = some d) (hf : w.data n = some f) : daOk o w (Mkd M) n ↔ POK M d f d.makes.length := by
  constructor
  · rintro ⟨d', f', e1, e2, h1, h2, h3⟩
    rw [hd] at e1; rw [hf] at e2
    injection e1 with e1; injection e2 with e2
    subst e1 e2
    exact ⟨h1, h2, fun j a b _ => h3 j a b⟩
  · rintro ⟨h1, h2, h3⟩
    exact ⟨d, f, hd, hf, h1, h2, fun j a b ha hb => h3 j a b (List.getElem?_eq_some_iff.1 ha).1 ha hb⟩
theorem POK.less {M : List (ByteArray × Bool)} {d f : Da} {i : Nat} (hi : i ≤ d.makes.length) (h : POK M d f d.makes.length) : POK M d f i := ⟨h.1, h.2.1, fun j a b hj => h.2.2 j a b (by omega)⟩
theorem same_end {o w : Pr} {M : List (ByteArray × Bool)} (hI : INV o w M) (hP : PF o w (Mkd M)) (a b : Y) : Y.lks (Mkd M) [] [] [a] [b] ↔ ∃ A, PF o w A ∧ a.lk A [] [] b := by
  rw [Y.lks, Y.lks]
  constructor
  · exact fun h => ⟨_, hP, h.1⟩
  · rintro ⟨A, hA, h⟩
    exact ⟨lk_mono (hI.up A hA) a h, trivial⟩
end Go.Proofs.Ytnkafjkcjpajgaa
