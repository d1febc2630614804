/-
  Texts of this proof, part 9: Tzd Tze Tzf.
-/
import Derived.Test.YtllgibfmddihgaaDoorQKindSays8
import Derived.Laws.StructEq
import Derived.Lib.AppendStr
import Derived.Lib.MinMax
namespace Go.Proofs.YtllgibfmddihgaaDoor
open Go.RowKit
set_option maxRecDepth 100000 in
set_option maxHeartbeats 1000000 in
theorem idxDa_af (p : Da → Bool) (f : FuncId) (cap : List T) (l : List Da) (hf : ∀ a ∈ l, AF Tryd.prog f (.agg (Da.ts a) :: cap) (· = .lit (.bool (p a)))) :
    AF Tryd.prog 28 [.row l.length 3 (l.flatMap Da.ts), .fn (.func f) cap] (· = .lit (.int .i64 (idxI p l))) := by
  refine af_enter tok Tryd.func28 Tryd.ntmps28 Tryd.results28 rfl (by kernel_rfl) rfl rfl fun F hX => ?_
  repeat (first | refine gG ?_ | refine zN1 (fun hlen => ?_) | refine zN2 (fun hlen => ?_))
  refine x_loop [4, 5, 8, 9, 10, 11, 12, 13, 14, 15, 16, 17, 18] (fun k : Nat => [(8, .c (.lit (.int .i64 k)))]) (fun _ => []) (fun k => k ≤ l.length ∧ idxAt p l k) (fun k => l.length - k) 0 ⟨Nat.zero_le _, idxAt_zero p l⟩ ⟨rfl, trivial⟩ rfl fun k hk => ?_
  repeat (first | refine gG ?_ | refine zN1 (fun hlen => ?_) | refine zN2 (fun hlen => ?_))
  refine x_cond rfl (fun h => ?_) (fun h => ?_)
  · have hk' : k < l.length := by simpa using h
    obtain ⟨a, ha⟩ := nth hk'
    have hs := hf a (List.mem_of_getElem? ha)
    repeat (first | refine gG ?_ | refine zN1 (fun hlen => ?_) | refine zN2 (fun hlen => ?_))
    refine lo_idx tok k rfl rfl rfl hk' rfl rfl rfl rfl ?_
    repeat (first | refine gG ?_ | refine zN1 (fun hlen => ?_) | refine zN2 (fun hlen => ?_))
    refine lo_load_pin tok rfl rfl rfl (flat_at Da.ts 3 Da.ts_len ha) (Da.ts_len a) ?_
    repeat (first | refine gG ?_ | refine zN1 (fun hlen => ?_) | refine zN2 (fun hlen => ?_))
    refine v_callc hs rfl (by first | exact rzs_cons rz_c rzs_self | (repeat (first | exact rzs_nil | apply rzs_cons | exact rz_c | exact rz_nil rfl | apply rz_agg | exact rz_own rfl | apply rz_fn | exact rz_ptr rfl | apply rz_tup))) ?_
    rintro _ rfl
    cases hp : p a
    · repeat (first | refine gG ?_ | refine zN1 (fun hlen => ?_) | refine zN2 (fun hlen => ?_))
      exact ⟨k + 1, ⟨hk', idxAt_no hk.2 ha hp⟩, by omega, x_wkd 0 ⟨rfl, trivial⟩ rfl (by repeat (first | exact ag_refl | refine ag_upd rfl ?_ | refine ag_at rfl rfl ?_))⟩
    · repeat (first | refine gG ?_ | refine zN1 (fun hlen => ?_) | refine zN2 (fun hlen => ?_))
      first | refine zR ?_ | refine zQ ?_
      rw [idxAt_yes hk.2 ha hp]; rfl
  · have hk' : k = l.length := by have : ¬ k < l.length := by simpa using h
                                  omega
    subst hk'
    repeat (first | refine gG ?_ | refine zN1 (fun hlen => ?_) | refine zN2 (fun hlen => ?_))
    first | refine zR ?_ | refine zQ ?_
    rw [idxAt_end hk.2]; rfl
/-- the place of the first Data with a name -/
def idxD (ds : List Da) (s : ByteArray) : Int := idxI (fun d => decide (d.name = s)) ds
theorem idx_look (ds : List Da) (s : ByteArray) : (lookD ds s = none ∧ idxD ds s = -1) ∨ ∃ (j : Nat) (d : Da), lookD ds s = some d ∧ idxD ds s = (j : Int) ∧ ds[j]? = some d := by
  unfold lookD idxD idxI
  induction ds with
  | nil => exact .inl ⟨rfl, rfl⟩
  | cons a l ih =>
    rw [List.find?_cons, List.findIdx?_cons]
    cases d : decide (a.name = s)
    · rcases ih with ⟨h1, h2⟩ | ⟨j, x, h1, h2, h3⟩
      · refine .inl ⟨h1, ?_⟩
        cases hf : l.findIdx? (fun d => decide (d.name = s)) with
        | none => simp [hf]
        | some i => rw [hf] at h2; simp at h2 <;> omega
      · refine .inr ⟨j + 1, x, h1, ?_, by simpa using h3⟩
        cases hf : l.findIdx? (fun d => decide (d.name = s)) with
        | none => rw [hf] at h2; simp at h2 <;> omega
        | some i => rw [hf] at h2; simp at h2; simp [hf]; omega
    · exact .inr ⟨0, a, by simp, by simp, rfl⟩
set_option maxRecDepth 100000 in
set_option maxHeartbeats 1000000 in
theorem dataOf1_af (a : Da) (s : ByteArray) : AF Tryd.prog 163 [.agg (Da.ts a), .pin [.lit (.string s)] 0] (· = .lit (.bool (decide (a.name = s)))) := by
  obtain ⟨dn, dps, mks⟩ := a
  refine af_enter tok Tryd.func163 Tryd.ntmps163 Tryd.results163 rfl (by kernel_rfl) rfl rfl fun F hX => ?_
  repeat (first | refine gG ?_ | refine zBf ?_)
  first | refine zR ?_ | refine zQ ?_
  rfl
set_option maxRecDepth 100000 in
set_option maxHeartbeats 1000000 in
theorem dataOf_af (p : Pr) (s : ByteArray) : AF Tryd.prog 125 [p.t, .lit (.string s)] (· = .lit (.int .i64 (idxD p.datas s))) := by
  have hc := idxDa_af (fun d => decide (d.name = s)) 163 [.pin [.lit (.string s)] 0] p.datas (fun a _ => dataOf1_af a s)
  unfold idxD
  obtain ⟨nm, vr, us, ds, trs, ims, fus, acs⟩ := p
  dsimp only at *
  generalize idxI _ ds = ix at *
  refine af_enter tok Tryd.func125 Tryd.ntmps125 Tryd.results125 rfl (by kernel_rfl) rfl rfl fun F hX => ?_
  repeat (first | refine gG ?_ | refine zBf ?_)
  refine zCall (hc) ?_
  rintro _ rfl
  repeat (first | refine gG ?_ | refine zBx (fun _ => ?_))
  first | refine zR ?_ | refine zQ ?_
  rfl
theorem zPlg {P : Program} {L : Tab} {F : Frm} {d : Option Tmp} {ty : TypeId} {pos : String} {aft : Array Edge} {g : Option (Nat × Bool)} {ρ : Operand → AV} {hp : List Blk} {K : AV → List Blk → Prop} {t el : TypeId} {ti te : TI} {x y : Operand} {n sz : Nat} {cs : List T} {k : IntKind} {z : Int} (m : Nat) (hm : m ≤ n) (n' : Nat) (cs' : List T) (hn : n - m = n') (hc : (cs.drop (m * sz)).take ((n - m) * sz) = cs') (hK : K (.c (.row n' sz cs')) hp) (hz : z = (m : Int) := by exact rfl) (hL : TabOk P L := by exact tok) (hx : ρ x = .c (.row n sz cs) := by exact rfl) (hy : ρ y = .c (.lit (.int k z)) := by exact rfl) (ht : L.look t = some ti := by exact rfl) (hd : ti.d = .slice el := by exact rfl) (hte : L.look el = some te := by exact rfl) (hsz : te.size = sz := by exact rfl) :
    LO P F ⟨d, .slice t x (some y) none none, ty, pos, aft, g⟩ ρ hp K :=
  lo_part_lo hL m hm hx hy hz ht hd hte hsz (by rw [hn] at hc ⊢; rw [hc]; exact hK)
theorem yall_len (l : List Y) : (Y.all l).length = l.length * 3 := by rw [Y.all_eq]; exact len_flat Y.ts_len l
theorem ytail (a : Y) (r : List Y) : ((Y.all (a :: r)).drop (1 * 3)).take (((a :: r).length - 1) * 3) = Y.all r := by
  have h : (Y.all (a :: r)).drop (1 * 3) = Y.all r := by
    obtain ⟨k, n, l⟩ := a
    rfl
  rw [h, List.take_of_length_le (by rw [yall_len]; simp)]
set_option maxRecDepth 100000 in
set_option maxHeartbeats 2000000 in
theorem kindOf_af (p : Pr) (hp : p.datas.length ≤ 1048576) (ps : List ByteArray) (l : List Y) (hm : (l.map Y.mass).sum ≤ 1048576) : AF Tryd.prog 31 [p.t, strRow ps, Y.row l] (· = .lit (.int .i64 (Y.errs p.datas ps l))) := by
  have hcl := cloneY_af l (by have := len_sum' Y.mass Y.mass_pos l; omega)
  have hdt := fun s => dataOf_af p s
  have hil := fun s => idx_look p.datas s
  have hco := fun s => contains_af ps s
  generalize he : Y.errs p.datas ps l = el
  obtain ⟨nm, vr, us, ds, trs, ims, fus, acs⟩ := p
  dsimp only at *
  refine af_enter tok Tryd.func31 Tryd.ntmps31 Tryd.results31 rfl (by kernel_rfl) rfl rfl fun F hX => ?_
  repeat (first | refine gG ?_ | refine zN1 (fun hlen => ?_) | refine zN2 (fun hlen => ?_) | refine zAl (fun _ => ?_) | refine zBf ?_)
  refine zCall (hcl) ?_
  rintro _ rfl
  clear hcl
  repeat (first | refine gG ?_ | refine zN1 (fun hlen => ?_) | refine zN2 (fun hlen => ?_) | refine zAl (fun _ => ?_) | refine zBf ?_)
  refine x_loop [6, 7, 8, 9, 12, 13, 14, 15, 16, 17, 18, 19, 20, 21, 22, 23, 24, 25, 26, 27, 28, 29, 30, 31, 32, 33, 34, 35, 36, 37, 38, 39, 40, 41, 42, 43, 44, 45, 46, 47, 48, 49, 50, 51, 52, 53, 54, 55, 56, 57, 58, 59, 60, 61, 62] (fun q : List Y => [(7, .c (Y.row q))]) (fun _ => []) (fun q => Y.errs ds ps q = el ∧ (q.map Y.mass).sum ≤ 1048576) (fun q => (q.map Y.mass).sum) l ⟨he, hm⟩ ⟨rfl, trivial⟩ rfl ?_
  clear he hm
  rintro q ⟨he, hm⟩
  rcases q with _ | ⟨⟨k, t, a⟩, r⟩
  · rw [Y.errs] at he
    repeat (first | refine gG ?_ | refine zN1 (fun hlen => ?_) | refine zN2 (fun hlen => ?_) | refine zAl (fun _ => ?_) | refine zBx (fun _ => ?_))
    first | refine zR ?_ | refine zQ ?_
    rw [← he]; rfl
  have hmm : (r.map Y.mass).sum + (Y.mk k t a).mass ≤ 1048576 := by rw [List.map_cons, List.sum_cons] at hm; omega
  have hma : (Y.mk k t a).mass = far k + (t.size + 1) + ((a.map Y.mass).sum + 1) := by rw [Y.mass, Y.masses_sum]
  have hll : a.length + r.length ≤ 1048576 := by
    have h1 := len_sum' Y.mass Y.mass_pos a
    have h2 := len_sum' Y.mass Y.mass_pos r
    omega
  have hca := catY2_af a r hll
  have hd1 := hdt t
  have hi1 := hil t
  have hc1 := hco t
  have hμ : ((a ++ r).map Y.mass).sum < (((Y.mk k t a) :: r).map Y.mass).sum := by
    rw [List.map_append, List.sum_append, List.map_cons, List.sum_cons, hma]
    omega
  have hM : ((a ++ r).map Y.mass).sum ≤ 1048576 := by omega
  rw [Y.errs, Y.err] at he
  have happ := errs_app ds ps a r
  have htl := ytail (Y.mk k t a) r
  have hpos : decide ((0 : Int) < ((((Y.mk k t a) :: r).length : Nat) : Int)) = true := decide_eq_true (by rw [List.length_cons]; omega)
  unfold nodeE at he
  clear hdt hil hco hm hmm hma
  repeat (first | refine gG ?_ | refine zN1 (fun hlen => ?_) | refine zN2 (fun hlen => ?_) | refine zAl (fun _ => ?_) | refine zBx (fun _ => ?_))
  refine zIx 0 (show 0 < ((Y.mk k t a) :: r).length by simp) ?_
  repeat (first | refine gG ?_ | refine zN1 (fun hlen => ?_) | refine zN2 (fun hlen => ?_) | refine zAl (fun _ => ?_) | refine zBx (fun _ => ?_))
  rename_i bx
  refine ac_draw [1, 1, 1, 1, 1, 1, 1] [0, 1, 2, 3, 4, 5, 6] (by kernel_rfl) (by kernel_rfl) ?_
  refine gW ?_
  apply w_q; (focus exact rfl); (focus exact rfl); focus (intro _; (refine zPlg (n := ((Y.mk k t a) :: r).length) 1 (by simp) r.length _ rfl htl ?_); exact det_refl)
  refine gW ?_
  apply w_q; (focus exact rfl); (focus exact rfl); focus (intro _; (refine zCall hca ?_; rintro _ rfl); exact det_refl)
  refine gW ?_
  refine w_nil ?_
  clear hca htl
  repeat (first | refine gG ?_ | refine zN1 (fun hlen => ?_) | refine zN2 (fun hlen => ?_) | refine zAl (fun _ => ?_) | refine zBx (fun _ => ?_))
  refine zCall (hd1) ?_
  rintro _ rfl
  clear hd1
  cases d5 : decide (k = 5)
  · cases d6 : decide (k = 6)
    · have he' : Y.errs ds ps (a ++ r) = el := by
        rw [happ, ← he]
        simp only [d5, d6, cond]
        rfl
      clear he happ hc1 hi1 hpos
      repeat (first | refine gG ?_ | refine zN1 (fun hlen => ?_) | refine zN2 (fun hlen => ?_) | refine zAl (fun _ => ?_) | refine zBx (fun _ => ?_))
      refine ac_draw [1, 1, 1, 1, 1, 1, 1, 1, 1, 1, 1, 1, 1, 1, 1, 1, 1] [0, 1, 2, 3, 4, 5, 6, 7, 8, 9, 10, 11, 12, 13, 14, 15, 16] (by kernel_rfl) (by kernel_rfl) ?_
      refine gW ?_
      refine w_nil ?_
      repeat (first | refine gG ?_ | refine zN1 (fun hlen => ?_) | refine zN2 (fun hlen => ?_) | refine zAl (fun _ => ?_) | refine zBx (fun _ => ?_))
      exact ⟨a ++ r, ⟨he', hM⟩, hμ, x_wkd 0 ⟨rfl, trivial⟩ rfl (by repeat (first | exact ag_refl | refine ag_upd rfl ?_ | refine ag_at rfl rfl ?_))⟩
    · rcases hi1 with ⟨h1, h2⟩ | ⟨j, dd, h1, h2, h3⟩
      · have he' : el = 11 := by
          rw [← he, h1]
          simp only [d5, d6, cond]
          rfl
        rw [h2]
        clear he happ hc1 hpos h1 h2 hμ hM
        repeat (first | refine gG ?_ | refine zN1 (fun hlen => ?_) | refine zN2 (fun hlen => ?_) | refine zAl (fun _ => ?_) | refine zBx (fun _ => ?_))
        first | refine zR ?_ | refine zQ ?_
        rw [he']; rfl
      · rw [h2]
        have dj : decide ((j : Int) < 0) = false := decide_eq_false (by omega)
        have hpr := flat_get Da.ts 3 Da.ts_len h3 (j := 1) (by omega)
        have hj : j < ds.length := (List.getElem?_eq_some_iff.1 h3).1
        by_cases hn : ((dd.params.length : Nat) : Int) = (a.length : Int)
        · have dn : decide (((dd.params.length : Nat) : Int) = ((a.length : Nat) : Int)) = true := decide_eq_true hn
          have he' : Y.errs ds ps (a ++ r) = el := by
            rw [happ, ← he, h1]
            simp only [d5, d6, cond, dn]
            rfl
          clear he happ hc1 hpos h1 h2 h3 hn
          obtain ⟨dn', dps, mks⟩ := dd
          dsimp only at dn
          have hpo : (ds.flatMap Da.ts)[j * 3 + 1]? = some (strRow dps) := hpr
          clear hpr
          repeat (first | refine gG ?_ | refine zN1 (fun hlen => ?_) | refine zN2 (fun hlen => ?_) | refine zAl (fun _ => ?_) | refine zBx (fun _ => ?_))
          refine ac_draw [1, 1, 1, 1, 1, 1, 1, 1, 1, 1, 1, 1, 1, 1, 1, 1, 1] [0, 1, 2, 3, 4, 5, 6, 7, 8, 9, 10, 11, 12, 13, 14, 15, 16] (by kernel_rfl) (by kernel_rfl) ?_
          refine gW ?_
          try (first | (apply w_un; (focus exact rfl); (focus exact rfl); (focus exact rfl); (focus exact rfl)) | (apply w_no; (focus exact rfl); (focus exact rfl); (focus exact rfl); (focus exact rfl); focus (first | rfl | assumption | exact neg_t (by assumption) | exact neg_f (by assumption))) | (apply w_qg; (focus exact rfl); (focus exact rfl); (focus exact rfl); (focus exact rfl); (focus (first | rfl | assumption | exact neg_t (by assumption) | exact neg_f (by assumption))); (focus (intro _; (refine zIx j hj ?_); exact det_refl))))
          try refine gW ?_
          try (first | (apply w_un; (focus exact rfl); (focus exact rfl); (focus exact rfl); (focus exact rfl)) | (apply w_no; (focus exact rfl); (focus exact rfl); (focus exact rfl); (focus exact rfl); focus (first | rfl | assumption | exact neg_t (by assumption) | exact neg_f (by assumption))) | (apply w_qg; (focus exact rfl); (focus exact rfl); (focus exact rfl); (focus exact rfl); (focus (first | rfl | assumption | exact neg_t (by assumption) | exact neg_f (by assumption))); (focus (intro _; (refine zEl1 hpo ?_); exact det_refl))))
          try refine gW ?_
          refine w_nil ?_
          repeat (first | refine gG ?_ | refine zN1 (fun hlen => ?_) | refine zN2 (fun hlen => ?_) | refine zAl (fun _ => ?_) | refine zBx (fun _ => ?_))
          exact ⟨a ++ r, ⟨he', hM⟩, hμ, x_wkd 0 ⟨rfl, trivial⟩ rfl (by repeat (first | exact ag_refl | refine ag_upd rfl ?_ | refine ag_at rfl rfl ?_))⟩
        · have dn : decide (((dd.params.length : Nat) : Int) = ((a.length : Nat) : Int)) = false := decide_eq_false hn
          have he' : el = 13 := by
            rw [← he, h1]
            simp only [d5, d6, cond, dn]
            rfl
          clear he happ hc1 hpos h1 h2 h3 hn hμ hM
          obtain ⟨dn', dps, mks⟩ := dd
          dsimp only at dn
          have hpo : (ds.flatMap Da.ts)[j * 3 + 1]? = some (strRow dps) := hpr
          clear hpr
          repeat (first | refine gG ?_ | refine zN1 (fun hlen => ?_) | refine zN2 (fun hlen => ?_) | refine zAl (fun _ => ?_) | refine zBx (fun _ => ?_))
          refine ac_draw [1, 1, 1, 1, 1, 1, 1, 1, 1, 1, 1, 1, 1, 1, 1, 1, 1] [0, 1, 2, 3, 4, 5, 6, 7, 8, 9, 10, 11, 12, 13, 14, 15, 16] (by kernel_rfl) (by kernel_rfl) ?_
          refine gW ?_
          try (first | (apply w_un; (focus exact rfl); (focus exact rfl); (focus exact rfl); (focus exact rfl)) | (apply w_no; (focus exact rfl); (focus exact rfl); (focus exact rfl); (focus exact rfl); focus (first | rfl | assumption | exact neg_t (by assumption) | exact neg_f (by assumption))) | (apply w_qg; (focus exact rfl); (focus exact rfl); (focus exact rfl); (focus exact rfl); (focus (first | rfl | assumption | exact neg_t (by assumption) | exact neg_f (by assumption))); (focus (intro _; (refine zIx j hj ?_); exact det_refl))))
          try refine gW ?_
          try (first | (apply w_un; (focus exact rfl); (focus exact rfl); (focus exact rfl); (focus exact rfl)) | (apply w_no; (focus exact rfl); (focus exact rfl); (focus exact rfl); (focus exact rfl); focus (first | rfl | assumption | exact neg_t (by assumption) | exact neg_f (by assumption))) | (apply w_qg; (focus exact rfl); (focus exact rfl); (focus exact rfl); (focus exact rfl); (focus (first | rfl | assumption | exact neg_t (by assumption) | exact neg_f (by assumption))); (focus (intro _; (refine zEl1 hpo ?_); exact det_refl))))
          try refine gW ?_
          refine w_nil ?_
          repeat (first | refine gG ?_ | refine zN1 (fun hlen => ?_) | refine zN2 (fun hlen => ?_) | refine zAl (fun _ => ?_) | refine zBx (fun _ => ?_))
          first | refine zR ?_ | refine zQ ?_
          rw [he']; rfl
  · have d6 : decide (k = 6) = false := by
      have : k = 5 := of_decide_eq_true d5
      subst this
      rfl
    cases hs : hasS ps t
    · have he' : el = 11 := by
        rw [← he, hs]
        simp only [d5, cond]
        rfl
      rw [hs] at hc1
      clear he happ hpos hμ hM hi1
      repeat (first | refine gG ?_ | refine zN1 (fun hlen => ?_) | refine zN2 (fun hlen => ?_) | refine zAl (fun _ => ?_) | refine zBx (fun _ => ?_))
      refine zCall (hc1) ?_
      rintro _ rfl
      repeat (first | refine gG ?_ | refine zN1 (fun hlen => ?_) | refine zN2 (fun hlen => ?_) | refine zAl (fun _ => ?_) | refine zBx (fun _ => ?_))
      first | refine zR ?_ | refine zQ ?_
      rw [he']; rfl
    · have he' : Y.errs ds ps (a ++ r) = el := by
        rw [happ, ← he, hs]
        simp only [d5, cond]
        rfl
      rw [hs] at hc1
      clear he happ hpos hi1
      repeat (first | refine gG ?_ | refine zN1 (fun hlen => ?_) | refine zN2 (fun hlen => ?_) | refine zAl (fun _ => ?_) | refine zBx (fun _ => ?_))
      refine zCall (hc1) ?_
      rintro _ rfl
      repeat (first | refine gG ?_ | refine zN1 (fun hlen => ?_) | refine zN2 (fun hlen => ?_) | refine zAl (fun _ => ?_) | refine zBx (fun _ => ?_))
      refine ac_draw [1, 1, 1, 1, 1, 1, 1, 1, 1, 1, 1, 1, 1, 1, 1, 1, 1] [0, 1, 2, 3, 4, 5, 6, 7, 8, 9, 10, 11, 12, 13, 14, 15, 16] (by kernel_rfl) (by kernel_rfl) ?_
      refine gW ?_
      refine w_nil ?_
      repeat (first | refine gG ?_ | refine zN1 (fun hlen => ?_) | refine zN2 (fun hlen => ?_) | refine zAl (fun _ => ?_) | refine zBx (fun _ => ?_))
      exact ⟨a ++ r, ⟨he', hM⟩, hμ, x_wkd 0 ⟨rfl, trivial⟩ rfl (by repeat (first | exact ag_refl | refine ag_upd rfl ?_ | refine ag_at rfl rfl ?_))⟩
end Go.Proofs.YtllgibfmddihgaaDoor
namespace Go.Proofs.YtllgibfmddihgaaDoor
open Go.RowKit
/-- an error and a place, asq the reference hands them back -/
def wr (e : Int × Int) : T := .agg [.lit (.int .i64 e.1), .lit (.int .i64 e.2)]
set_option maxRecDepth 100000 in
set_option maxHeartbeats 1000000 in
theorem kindBody_af (p : Pr) (hp : p.datas.length ≤ 1048576) (ps : List ByteArray) (e : Ex) (he : e.mass ≤ 1048576) : AF Tryd.prog 123 [p.t, strRow ps, e.t] (· = wr (bodyP p.datas ps e.walk)) := by
  have hwl : e.walk.length ≤ 1048576 := Nat.le_trans e.walk_count (Nat.le_trans e.count_le he)
  have hw := all_af e hwl
  have ht : ∀ x ∈ e.walk, AF Tryd.prog 31 [p.t, strRow ps, Y.row x.tys] (· = .lit (.int .i64 (Y.errs p.datas ps x.tys))) := fun x hx =>
    kindOf_af p hp ps x.tys (Nat.le_trans x.tys_mass (Nat.le_trans (e.walk_mass x hx) he))
  have hbd := fun (l : List Ex) k a => bodyP_drop p.datas ps (l := l) (k := k) (a := a)
  have hb0 : bodyP p.datas ps [] = (0, 0) := rfl
  clear he
  generalize bodyP p.datas ps = bp at *
  generalize Y.errs p.datas ps = ee at *
  generalize e.walk = W at *
  obtain ⟨nm, vr, us, ds, trs, ims, fus, acs⟩ := p
  obtain ⟨k0, n0, t0, ns0, ys0, l0, rs0, p0⟩ := e
  refine af_enter tok Tryd.func123 Tryd.ntmps123 Tryd.results123 rfl (by kernel_rfl) rfl rfl fun F hX => ?_
  repeat (first | refine gG ?_ | refine zN1 (fun hlen => ?_) | refine zN2 (fun hlen => ?_) | refine zAl (fun _ => ?_) | refine zBf ?_)
  rename_i b6
  refine zCall (hw) ?_
  rintro _ rfl
  clear hw
  repeat (first | refine gG ?_ | refine zN1 (fun hlen => ?_) | refine zN2 (fun hlen => ?_) | refine zAl (fun _ => ?_) | refine zBf ?_)
  refine x_loop [8, 9, 13, 14, 15, 16, 17, 18, 19, 20, 21, 22, 23, 24, 25, 26, 27, 28] (fun k : Nat => [(13, .c (.lit (.int .i64 (k : Nat))))]) (fun _ => [.box b6 74 [.c (.lit (.int .i64 0)), .c (.lit (.int .i64 0))]]) (fun k => k ≤ W.length ∧ bp (W.drop k) = bp W) (fun k => W.length - k) 0 ⟨Nat.zero_le _, rfl⟩ ⟨rfl, trivial⟩ rfl ?_
  rintro k ⟨hk, hb⟩
  repeat (first | refine gG ?_ | refine zN1 (fun hlen => ?_) | refine zN2 (fun hlen => ?_) | refine zAl (fun _ => ?_) | refine zBx (fun _ => ?_))
  refine x_cond rfl (fun h => ?_) (fun h => ?_)
  · have hk' : k < W.length := by simpa using h
    obtain ⟨a, ha⟩ := nth hk'
    have hta := ht a (List.mem_of_getElem? ha)
    have hat := Ex.at ha
    rw [hbd W k a ha] at hb
    clear h ha ht hbd
    cases d : decide (ee a.tys = 0)
    · rw [d, cond_false] at hb
      generalize ee a.tys = ea at *
      obtain ⟨ka, na, ta, nsa, ysa, la, rsa, qa⟩ := a
      repeat (first | refine gG ?_ | refine zN1 (fun hlen => ?_) | refine zN2 (fun hlen => ?_) | refine zAl (fun _ => ?_) | refine zBx (fun _ => ?_))
      refine zIx (k) (hk') ?_
      repeat (first | refine gG ?_ | refine zN1 (fun hlen => ?_) | refine zN2 (fun hlen => ?_) | refine zAl (fun _ => ?_) | refine zBx (fun _ => ?_))
      refine zEl (hat) (Ex.ts_len _) ?_
      repeat (first | refine gG ?_ | refine zN1 (fun hlen => ?_) | refine zN2 (fun hlen => ?_) | refine zAl (fun _ => ?_) | refine zBx (fun _ => ?_))
      refine zCall (hta) ?_
      rintro _ rfl
      clear hta
      repeat (first | refine gG ?_ | refine zN1 (fun hlen => ?_) | refine zN2 (fun hlen => ?_) | refine zAl (fun _ => ?_) | refine zBx (fun _ => ?_))
      first | refine zR ?_ | refine zQ ?_
      rw [← hb]; rfl
    · rw [d, cond_true] at hb
      generalize ee a.tys = ea at *
      obtain ⟨ka, na, ta, nsa, ysa, la, rsa, qa⟩ := a
      repeat (first | refine gG ?_ | refine zN1 (fun hlen => ?_) | refine zN2 (fun hlen => ?_) | refine zAl (fun _ => ?_) | refine zBx (fun _ => ?_))
      refine zIx (k) (hk') ?_
      repeat (first | refine gG ?_ | refine zN1 (fun hlen => ?_) | refine zN2 (fun hlen => ?_) | refine zAl (fun _ => ?_) | refine zBx (fun _ => ?_))
      refine zEl (hat) (Ex.ts_len _) ?_
      repeat (first | refine gG ?_ | refine zN1 (fun hlen => ?_) | refine zN2 (fun hlen => ?_) | refine zAl (fun _ => ?_) | refine zBx (fun _ => ?_))
      refine zCall (hta) ?_
      rintro _ rfl
      clear hta
      have d' := d
      repeat (first | refine gG ?_ | refine zN1 (fun hlen => ?_) | refine zN2 (fun hlen => ?_) | refine zAl (fun _ => ?_) | refine zBx (fun _ => ?_))
      exact ⟨k + 1, ⟨hk', hb⟩, by omega, x_wkd 1 ⟨rfl, trivial⟩ rfl (by repeat (first | exact ag_refl | refine ag_upd rfl ?_ | refine ag_at rfl rfl ?_))⟩
  · have hk' : k = W.length := by
      have : ¬ k < W.length := by simpa using h
      omega
    subst hk'
    clear h ht hbd
    rw [List.drop_length] at hb
    repeat (first | refine gG ?_ | refine zN1 (fun hlen => ?_) | refine zN2 (fun hlen => ?_) | refine zAl (fun _ => ?_) | refine zBx (fun _ => ?_))
    first | refine zR ?_ | refine zQ ?_
    rw [← hb, hb0]; rfl
set_option maxRecDepth 100000 in
set_option maxHeartbeats 2000000 in
theorem kindFun_af (p : Pr) (hp : p.datas.length ≤ 1048576) (more : List ByteArray) (f : Fu) (hf : more.length + f.mass ≤ 1048576) : AF Tryd.prog 121 [p.t, strRow more, f.t] (· = wr (funP p.datas (more ++ f.params) f)) := by
  have hfm : f.mass = (f.name.size + 1) + (strSize f.params + 1) + (strSize f.names + 1) + ((f.types.map Y.mass).sum + 1) + f.out.mass + f.body.mass := by unfold Fu.mass; rfl
  have hpl : more.length + f.params.length ≤ 1048576 := by have := strSize_len f.params; omega
  have htl : f.types.length + [f.out].length ≤ 1048576 := by have := len_sum' Y.mass Y.mass_pos f.types; simp; omega
  have h0 := catS2_af more f.params hpl
  have h1 := catY2_af f.types [f.out] htl
  have h2 := kindOf_af p hp (more ++ f.params) (f.types ++ [f.out]) (by rw [List.map_append, List.sum_append]; simp; omega)
  have h3 := kindBody_af p hp (more ++ f.params) f.body (by omega)
  rw [errs_app, errs_one] at h2
  unfold funP
  clear hfm hf hpl htl
  generalize more ++ f.params = pl at *
  generalize hty : f.types ++ [f.out] = tyl at *
  clear hty
  generalize hkn : decide (f.body.knd = 0) = dk
  obtain ⟨nm, vr, us, ds, trs, ims, fus, acs⟩ := p
  obtain ⟨fn, pas, nas, tys, ou, bo⟩ := f
  dsimp only at *
  generalize Y.errs ds _ tys = e1 at *
  generalize Y.err ds _ ou = e2 at *
  generalize bodyP ds _ bo.walk = e3 at *
  obtain ⟨e3, e4⟩ := e3
  obtain ⟨ok, on, oa⟩ := ou
  obtain ⟨kb, nb, tb, nsb, ysb, lb, rsb, pb⟩ := bo
  have d3 : decide (kb = 0) = dk := hkn
  clear hkn
  refine af_enter tok Tryd.func121 Tryd.ntmps121 Tryd.results121 rfl (by kernel_rfl) rfl rfl fun F hX => ?_
  repeat (first | refine gG ?_ | refine zAl (fun _ => ?_) | refine zBf ?_)
  refine zCall (h0) ?_
  rintro _ rfl
  clear h0
  repeat (first | refine gG ?_ | refine zAl (fun _ => ?_) | refine zBx (fun _ => ?_))
  refine ac_draw [1, 1, 1, 1, 1, 1, 1, 1, 1, 1, 1] [0, 1, 2, 3, 4, 5, 6, 7, 8, 9, 10] (by kernel_rfl) (by kernel_rfl) ?_
  refine gW ?_
  apply w_q; (focus exact rfl); (focus exact rfl); focus (intro _; (refine zCall h1 ?_; rintro _ rfl); exact det_refl)
  apply w_q; (focus exact rfl); (focus exact rfl); focus (intro _; (refine zCall h2 ?_; rintro _ rfl); exact det_refl)
  refine gW ?_
  refine w_nil ?_
  clear h1 h2
  cases d1 : decide (e1 = 0)
  · simp only [cond]
    repeat (first | refine gG ?_ | refine zAl (fun _ => ?_) | refine zBx (fun _ => ?_))
    first | refine zR ?_ | refine zQ ?_
    rfl
  simp only [cond]
  cases d2 : decide (e2 = 0)
  · simp only [cond]
    repeat (first | refine gG ?_ | refine zAl (fun _ => ?_) | refine zBx (fun _ => ?_))
    first | refine zR ?_ | refine zQ ?_
    rfl
  simp only [cond]
  cases dk
  · simp only [cond]
    repeat (first | refine gG ?_ | refine zAl (fun _ => ?_) | refine zBx (fun _ => ?_))
    refine zCall (h3) ?_
    rintro _ rfl
    clear h3
    repeat (first | refine gG ?_ | refine zAl (fun _ => ?_) | refine zBx (fun _ => ?_))
    first | refine zR ?_ | refine zQ ?_
    rfl
  · simp only [cond]
    repeat (first | refine gG ?_ | refine zAl (fun _ => ?_) | refine zBx (fun _ => ?_))
    first | refine zR ?_ | refine zQ ?_
    rfl
set_option maxRecDepth 100000 in
set_option maxHeartbeats 1000000 in
theorem kindCopy_af (v : Y) : v.mass ≤ 1048576 → AF Tryd.prog 36 [v.t] (· = v.t) := by
  induction v using Y.ind with
  | h k t l ih =>
    intro hm
    rw [Y.mass, Y.masses_sum] at hm
    have hll : l.length ≤ 1048576 := by have := len_sum' Y.mass Y.mass_pos l; omega
    have ih' : ∀ x ∈ l, AF Tryd.prog 36 [x.t] (· = x.t) := fun x hx => ih x hx (by have := sum_mem' Y.mass hx; omega)
    clear ih hm
    refine af_enter tok Tryd.func36 Tryd.ntmps36 Tryd.results36 rfl (by kernel_rfl) rfl rfl fun F hX => ?_
    repeat (first | refine gG ?_ | refine zN1 (fun hlen => ?_) | refine zN2 (fun hlen => ?_) | refine zAl (fun _ => ?_) | refine zBx (fun _ => ?_) | refine zAp (fun _ => ?_))
    rename_i b1 b2
    refine x_own 3 64 3 rfl rfl rfl rfl rfl ?_
    refine x_loop [3, 5, 9, 10, 11, 12, 13, 14, 15, 16, 17, 18] (fun y : Nat × Value => [(9, .c (.lit (.int .i64 (y.1 : Nat)))), (3, .own 2 y.2)]) (fun y => [.box b1 64 [.c (.lit (.int .i64 k)), .c (.lit (.string t)), .c (Y.row l)], .box b2 64 [.c (.lit (.int .i64 0)), .c (.lit (.string ⟨#[]⟩)), .c (.lit (.slice none 0 0))], .row y.2 64 3 (l.take y.1).length (Y.all (l.take y.1))]) (fun y => y.1 ≤ l.length) (fun y => l.length - y.1) (0, .slice none 0 0) (Nat.zero_le _) ⟨rfl, rfl, trivial⟩ rfl ?_
    rintro ⟨j, u⟩ hj
    dsimp only at hj ⊢
    repeat (first | refine gG ?_ | refine zN1 (fun hlen => ?_) | refine zN2 (fun hlen => ?_) | refine zAl (fun _ => ?_) | refine zBx (fun _ => ?_) | refine zAp (fun _ => ?_))
    refine x_cond rfl (fun h => ?_) (fun h => ?_)
    · have hj' : j < l.length := by simpa using h
      obtain ⟨a, ha⟩ := nth hj'
      have hca := ih' a (List.mem_of_getElem? ha)
      have hat := Y.at ha
      have hl1 : (l.take (j + 1)).length = (l.take j).length + 1 := by rw [List.length_take, List.length_take]; omega
      have hc1 : Y.all (l.take (j + 1)) = Y.all (l.take j) ++ a.ts := by rw [List.take_add_one, ha, Y.all_app]; simp [Y.all]
      have hlt : (l.take j).length ≤ 1048576 := by rw [List.length_take]; omega
      clear h ha ih'
      obtain ⟨ka, ta, la⟩ := a
      repeat (first | refine gG ?_ | refine zN1 (fun hlen => ?_) | refine zN2 (fun hlen => ?_) | refine zAl (fun _ => ?_) | refine zBx (fun _ => ?_) | refine zAp (fun _ => ?_))
      refine zIx (j) (hj') ?_
      repeat (first | refine gG ?_ | refine zN1 (fun hlen => ?_) | refine zN2 (fun hlen => ?_) | refine zAl (fun _ => ?_) | refine zBx (fun _ => ?_) | refine zAp (fun _ => ?_))
      refine zEl (hat) (Y.ts_len _) ?_
      repeat (first | refine gG ?_ | refine zN1 (fun hlen => ?_) | refine zN2 (fun hlen => ?_) | refine zAl (fun _ => ?_) | refine zBx (fun _ => ?_) | refine zAp (fun _ => ?_))
      refine zCall (hca) ?_
      rintro _ rfl
      clear hca
      repeat (first | refine gG ?_ | refine zN1 (fun hlen => ?_) | refine zN2 (fun hlen => ?_) | refine zAl (fun _ => ?_) | refine zBx (fun _ => ?_) | refine zAp (fun _ => ?_))
      exact ⟨(j + 1, _), hj', by simp only; omega, x_wkd 3 ⟨rfl, rfl, trivial⟩ (by simp only [hl1, hc1]; rfl) (by repeat (first | exact ag_refl | refine ag_upd rfl ?_ | refine ag_at rfl rfl ?_))⟩
    · have hj' : j = l.length := by
        have : ¬ j < l.length := by simpa using h
        omega
      subst hj'
      clear h ih'
      rw [List.take_length]
      repeat (first | refine gG ?_ | refine zN1 (fun hlen => ?_) | refine zN2 (fun hlen => ?_) | refine zAl (fun _ => ?_) | refine zBx (fun _ => ?_) | refine zAp (fun _ => ?_))
      first | refine zR ?_ | refine zQ ?_
      rfl
end Go.Proofs.YtllgibfmddihgaaDoor
namespace Go.Proofs.YtllgibfmddihgaaDoor
open Go.RowKit
/-- the type that a variable stands for -/
def hitB (ns : List ByteArray) (n : Nat) (k : Int) (t : ByteArray) : Bool := decide (k = 5) && (decide (0 ≤ posOf t ns) && decide (posOf t ns < (n : Int)))
mutual
def Y.put (ns : List ByteArray) (tl : List Y) : Y → Y
  | .mk k t l => bif hitB ns tl.length k t then tl.getD (posOf t ns).toNat (.mk 0 ⟨#[]⟩ []) else .mk k t (Y.puts ns tl l)
def Y.puts (ns : List ByteArray) (tl : List Y) : List Y → List Y
  | [] => []
  | v :: r => v.put ns tl :: Y.puts ns tl r
end
theorem Y.puts_eq (ns : List ByteArray) (tl : List Y) : ∀ l : List Y, Y.puts ns tl l = l.map (Y.put ns tl)
  | [] => rfl
  | v :: l => by rw [Y.puts, Y.puts_eq ns tl l]; rfl
theorem Y.put_nil (v : Y) : v.put [] [] = v := by
  induction v using Y.ind with
  | h k t l ih =>
    have h1 : hitB [] ([] : List Y).length k t = false := by
      unfold hitB
      cases decide (k = 5) <;> rfl
    rw [Y.put, h1, Y.puts_eq]
    simp only [cond]
    congr 1
    exact (List.map_congr_left ih).trans (List.map_id' l)
theorem hit_some {ns : List ByteArray} {tl : List Y} {k : Int} {t : ByteArray} (h : hitB ns tl.length k t = true) : decide (k = 5) = true ∧ ∃ j : Nat, posOf t ns = (j : Int) ∧ j < tl.length := by
  unfold hitB at h
  simp only [Bool.and_eq_true, decide_eq_true_eq] at h
  obtain ⟨h1, h2, h3⟩ := h
  refine ⟨decide_eq_true h1, (posOf t ns).toNat, by omega, by omega⟩
theorem mapped_y {l : List Y} {j : Nat} {a : Y} (g : Y → Y) (h : l[j]? = some a) : ((l.take (j + 1)).map g).length = ((l.take j).map g).length + 1 ∧ Y.all ((l.take (j + 1)).map g) = Y.all ((l.take j).map g) ++ (g a).ts := by
  obtain ⟨hj, rfl⟩ := List.getElem?_eq_some_iff.1 h
  refine ⟨by simp only [List.length_map, List.length_take]; omega, ?_⟩
  rw [List.take_succ_eq_append_getElem hj, List.map_append, Y.all_app]
  simp [Y.all]
set_option maxRecDepth 100000 in
set_option maxHeartbeats 2000000 in
theorem put_af (ns : List ByteArray) (tl : List Y) (htl : ∀ v ∈ tl, v.mass ≤ 1048576) (v : Y) : v.mass ≤ 1048576 → AF Tryd.prog 33 [v.t, strRow ns, Y.row tl] (· = (v.put ns tl).t) := by
  induction v using Y.ind with
  | h k t l ih =>
    intro hm
    rw [Y.mass, Y.masses_sum] at hm
    have hll : l.length ≤ 1048576 := by have := len_sum' Y.mass Y.mass_pos l; omega
    have ih' : ∀ x ∈ l, AF Tryd.prog 33 [x.t, strRow ns, Y.row tl] (· = (x.put ns tl).t) := fun x hx => ih x hx (by have := sum_mem' Y.mass hx; omega)
    have hix := idxStr_af ns t
    rw [Y.put, Y.puts_eq]
    clear ih hm
    cases hh : hitB ns tl.length k t
    rotate_left
    · obtain ⟨d5, j, hj, hjl⟩ := hit_some hh
      obtain ⟨a, ha⟩ := nth hjl
      have hg : tl.getD j (.mk 0 ⟨#[]⟩ []) = a := by rw [List.getD_eq_getElem?_getD, ha]; rfl
      have hca := kindCopy_af a (htl a (List.mem_of_getElem? ha))
      have hat := Y.at ha
      simp only [cond]
      rw [hj, show ((j : Nat) : Int).toNat = j from rfl, hg]
      rw [hj] at hix
      have d1 : decide ((0 : Int) ≤ ((j : Nat) : Int)) = true := decide_eq_true (by omega)
      have d2 : decide (((j : Nat) : Int) < ((tl.length : Nat) : Int)) = true := decide_eq_true (by omega)
      clear hh hj hg ha ih' htl
      obtain ⟨ka, ta, la⟩ := a
      refine af_enter tok Tryd.func33 Tryd.ntmps33 Tryd.results33 rfl (by kernel_rfl) rfl rfl fun F hX => ?_
      repeat (first | refine gG ?_ | refine zN1 (fun hlen => ?_) | refine zN2 (fun hlen => ?_) | refine zAl (fun _ => ?_) | refine zBx (fun _ => ?_) | refine zAp (fun _ => ?_))
      refine zCall (hix) ?_
      rintro _ rfl
      clear hix
      repeat (first | refine gG ?_ | refine zN1 (fun hlen => ?_) | refine zN2 (fun hlen => ?_) | refine zAl (fun _ => ?_) | refine zBx (fun _ => ?_) | refine zAp (fun _ => ?_))
      refine zIx (j) (hjl) ?_
      repeat (first | refine gG ?_ | refine zN1 (fun hlen => ?_) | refine zN2 (fun hlen => ?_) | refine zAl (fun _ => ?_) | refine zBx (fun _ => ?_) | refine zAp (fun _ => ?_))
      refine zEl (hat) (Y.ts_len _) ?_
      repeat (first | refine gG ?_ | refine zN1 (fun hlen => ?_) | refine zN2 (fun hlen => ?_) | refine zAl (fun _ => ?_) | refine zBx (fun _ => ?_) | refine zAp (fun _ => ?_))
      refine zCall (hca) ?_
      rintro _ rfl
      clear hca
      repeat (first | refine gG ?_ | refine zN1 (fun hlen => ?_) | refine zN2 (fun hlen => ?_) | refine zAl (fun _ => ?_) | refine zBx (fun _ => ?_) | refine zAp (fun _ => ?_))
      first | refine zR ?_ | refine zQ ?_
      rfl
    simp only [cond]
    clear htl
    have hwalk : AF Tryd.prog 33 [(Y.mk k t l).t, strRow ns, Y.row tl] (· = (Y.mk k t (l.map (Y.put ns tl))).t) := by
      generalize hpq : posOf t ns = q at *
      cases d5 : decide (k = 5)
      · clear hix hh
        refine af_enter tok Tryd.func33 Tryd.ntmps33 Tryd.results33 rfl (by kernel_rfl) rfl rfl fun F hX => ?_
        repeat (first | refine gG ?_ | refine zN1 (fun hlen => ?_) | refine zN2 (fun hlen => ?_) | refine zAl (fun _ => ?_) | refine zBx (fun _ => ?_) | refine zAp (fun _ => ?_))
        rename_i b1 b2
        refine x_own 8 64 3 rfl rfl rfl rfl rfl ?_
        refine x_loop [8, 10, 34, 35, 36, 37, 38, 39, 40, 41, 42, 43, 44, 45] (fun y : Nat × Value => [(34, .c (.lit (.int .i64 (y.1 : Nat)))), (8, .own 2 y.2)]) (fun y => [.box b1 64 [.c (.lit (.int .i64 k)), .c (.lit (.string t)), .c (Y.row l)], .box b2 64 [.c (.lit (.int .i64 0)), .c (.lit (.string ⟨#[]⟩)), .c (.lit (.slice none 0 0))], .row y.2 64 3 ((l.take y.1).map (Y.put ns tl)).length (Y.all ((l.take y.1).map (Y.put ns tl)))]) (fun y => y.1 ≤ l.length) (fun y => l.length - y.1) (0, .slice none 0 0) (Nat.zero_le _) ⟨rfl, rfl, trivial⟩ rfl ?_
        rintro ⟨j, u⟩ hj
        dsimp only at hj ⊢
        repeat (first | refine gG ?_ | refine zN1 (fun hlen => ?_) | refine zN2 (fun hlen => ?_) | refine zAl (fun _ => ?_) | refine zBx (fun _ => ?_) | refine zAp (fun _ => ?_))
        refine x_cond rfl (fun h => ?_) (fun h => ?_)
        · have hj' : j < l.length := by simpa using h
          obtain ⟨a, ha⟩ := nth hj'
          have hca := ih' a (List.mem_of_getElem? ha)
          have hat := Y.at ha
          obtain ⟨hl1, hc1⟩ := mapped_y (Y.put ns tl) ha
          have hlt : ((l.take j).map (Y.put ns tl)).length ≤ 1048576 := by rw [List.length_map, List.length_take]; omega
          clear h ha ih'
          generalize a.put ns tl = pa at *
          obtain ⟨ka, ta, la⟩ := a
          obtain ⟨kp, tp, lp⟩ := pa
          repeat (first | refine gG ?_ | refine zN1 (fun hlen => ?_) | refine zN2 (fun hlen => ?_) | refine zAl (fun _ => ?_) | refine zBx (fun _ => ?_) | refine zAp (fun _ => ?_))
          refine zIx (j) (hj') ?_
          repeat (first | refine gG ?_ | refine zN1 (fun hlen => ?_) | refine zN2 (fun hlen => ?_) | refine zAl (fun _ => ?_) | refine zBx (fun _ => ?_) | refine zAp (fun _ => ?_))
          refine zEl (hat) (Y.ts_len _) ?_
          repeat (first | refine gG ?_ | refine zN1 (fun hlen => ?_) | refine zN2 (fun hlen => ?_) | refine zAl (fun _ => ?_) | refine zBx (fun _ => ?_) | refine zAp (fun _ => ?_))
          refine zCall (hca) ?_
          rintro _ rfl
          clear hca
          repeat (first | refine gG ?_ | refine zN1 (fun hlen => ?_) | refine zN2 (fun hlen => ?_) | refine zAl (fun _ => ?_) | refine zBx (fun _ => ?_) | refine zAp (fun _ => ?_))
          exact ⟨(j + 1, _), hj', by simp only; omega, x_wkd 3 ⟨rfl, rfl, trivial⟩ (by simp only [hl1, hc1]; rfl) (by repeat (first | exact ag_refl | refine ag_upd rfl ?_ | refine ag_at rfl rfl ?_))⟩
        · have hj' : j = l.length := by
            have : ¬ j < l.length := by simpa using h
            omega
          subst hj'
          clear h ih'
          rw [List.take_length]
          repeat (first | refine gG ?_ | refine zN1 (fun hlen => ?_) | refine zN2 (fun hlen => ?_) | refine zAl (fun _ => ?_) | refine zBx (fun _ => ?_) | refine zAp (fun _ => ?_))
          first | refine zR ?_ | refine zQ ?_
          rfl
      · unfold hitB at hh
        rw [hpq, d5, Bool.true_and] at hh
        cases d1 : decide ((0 : Int) ≤ q)
        · clear hh
          refine af_enter tok Tryd.func33 Tryd.ntmps33 Tryd.results33 rfl (by kernel_rfl) rfl rfl fun F hX => ?_
          repeat (first | refine gG ?_ | refine zN1 (fun hlen => ?_) | refine zN2 (fun hlen => ?_) | refine zAl (fun _ => ?_) | refine zBx (fun _ => ?_) | refine zAp (fun _ => ?_))
          rename_i b1 b2
          refine zCall (hix) ?_
          rintro _ rfl
          clear hix
          repeat (first | refine gG ?_ | refine zN1 (fun hlen => ?_) | refine zN2 (fun hlen => ?_) | refine zAl (fun _ => ?_) | refine zBx (fun _ => ?_) | refine zAp (fun _ => ?_))
          refine x_own 8 64 3 rfl rfl rfl rfl rfl ?_
          refine x_loop [8, 10, 34, 35, 36, 37, 38, 39, 40, 41, 42, 43, 44, 45] (fun y : Nat × Value => [(34, .c (.lit (.int .i64 (y.1 : Nat)))), (8, .own 2 y.2)]) (fun y => [.box b1 64 [.c (.lit (.int .i64 k)), .c (.lit (.string t)), .c (Y.row l)], .box b2 64 [.c (.lit (.int .i64 0)), .c (.lit (.string ⟨#[]⟩)), .c (.lit (.slice none 0 0))], .row y.2 64 3 ((l.take y.1).map (Y.put ns tl)).length (Y.all ((l.take y.1).map (Y.put ns tl)))]) (fun y => y.1 ≤ l.length) (fun y => l.length - y.1) (0, .slice none 0 0) (Nat.zero_le _) ⟨rfl, rfl, trivial⟩ rfl ?_
          rintro ⟨j, u⟩ hj
          dsimp only at hj ⊢
          repeat (first | refine gG ?_ | refine zN1 (fun hlen => ?_) | refine zN2 (fun hlen => ?_) | refine zAl (fun _ => ?_) | refine zBx (fun _ => ?_) | refine zAp (fun _ => ?_))
          refine x_cond rfl (fun h => ?_) (fun h => ?_)
          · have hj' : j < l.length := by simpa using h
            obtain ⟨a, ha⟩ := nth hj'
            have hca := ih' a (List.mem_of_getElem? ha)
            have hat := Y.at ha
            obtain ⟨hl1, hc1⟩ := mapped_y (Y.put ns tl) ha
            have hlt : ((l.take j).map (Y.put ns tl)).length ≤ 1048576 := by rw [List.length_map, List.length_take]; omega
            clear h ha ih'
            generalize a.put ns tl = pa at *
            obtain ⟨ka, ta, la⟩ := a
            obtain ⟨kp, tp, lp⟩ := pa
            repeat (first | refine gG ?_ | refine zN1 (fun hlen => ?_) | refine zN2 (fun hlen => ?_) | refine zAl (fun _ => ?_) | refine zBx (fun _ => ?_) | refine zAp (fun _ => ?_))
            refine zIx (j) (hj') ?_
            repeat (first | refine gG ?_ | refine zN1 (fun hlen => ?_) | refine zN2 (fun hlen => ?_) | refine zAl (fun _ => ?_) | refine zBx (fun _ => ?_) | refine zAp (fun _ => ?_))
            refine zEl (hat) (Y.ts_len _) ?_
            repeat (first | refine gG ?_ | refine zN1 (fun hlen => ?_) | refine zN2 (fun hlen => ?_) | refine zAl (fun _ => ?_) | refine zBx (fun _ => ?_) | refine zAp (fun _ => ?_))
            refine zCall (hca) ?_
            rintro _ rfl
            clear hca
            repeat (first | refine gG ?_ | refine zN1 (fun hlen => ?_) | refine zN2 (fun hlen => ?_) | refine zAl (fun _ => ?_) | refine zBx (fun _ => ?_) | refine zAp (fun _ => ?_))
            exact ⟨(j + 1, _), hj', by simp only; omega, x_wkd 3 ⟨rfl, rfl, trivial⟩ (by simp only [hl1, hc1]; rfl) (by repeat (first | exact ag_refl | refine ag_upd rfl ?_ | refine ag_at rfl rfl ?_))⟩
          · have hj' : j = l.length := by
              have : ¬ j < l.length := by simpa using h
              omega
            subst hj'
            clear h ih'
            rw [List.take_length]
            repeat (first | refine gG ?_ | refine zN1 (fun hlen => ?_) | refine zN2 (fun hlen => ?_) | refine zAl (fun _ => ?_) | refine zBx (fun _ => ?_) | refine zAp (fun _ => ?_))
            first | refine zR ?_ | refine zQ ?_
            rfl
        · rw [d1, Bool.true_and] at hh
          refine af_enter tok Tryd.func33 Tryd.ntmps33 Tryd.results33 rfl (by kernel_rfl) rfl rfl fun F hX => ?_
          repeat (first | refine gG ?_ | refine zN1 (fun hlen => ?_) | refine zN2 (fun hlen => ?_) | refine zAl (fun _ => ?_) | refine zBx (fun _ => ?_) | refine zAp (fun _ => ?_))
          rename_i b1 b2
          refine zCall (hix) ?_
          rintro _ rfl
          clear hix
          repeat (first | refine gG ?_ | refine zN1 (fun hlen => ?_) | refine zN2 (fun hlen => ?_) | refine zAl (fun _ => ?_) | refine zBx (fun _ => ?_) | refine zAp (fun _ => ?_))
          refine x_own 8 64 3 rfl rfl rfl rfl rfl ?_
          refine x_loop [8, 10, 34, 35, 36, 37, 38, 39, 40, 41, 42, 43, 44, 45] (fun y : Nat × Value => [(34, .c (.lit (.int .i64 (y.1 : Nat)))), (8, .own 2 y.2)]) (fun y => [.box b1 64 [.c (.lit (.int .i64 k)), .c (.lit (.string t)), .c (Y.row l)], .box b2 64 [.c (.lit (.int .i64 0)), .c (.lit (.string ⟨#[]⟩)), .c (.lit (.slice none 0 0))], .row y.2 64 3 ((l.take y.1).map (Y.put ns tl)).length (Y.all ((l.take y.1).map (Y.put ns tl)))]) (fun y => y.1 ≤ l.length) (fun y => l.length - y.1) (0, .slice none 0 0) (Nat.zero_le _) ⟨rfl, rfl, trivial⟩ rfl ?_
          rintro ⟨j, u⟩ hj
          dsimp only at hj ⊢
          repeat (first | refine gG ?_ | refine zN1 (fun hlen => ?_) | refine zN2 (fun hlen => ?_) | refine zAl (fun _ => ?_) | refine zBx (fun _ => ?_) | refine zAp (fun _ => ?_))
          refine x_cond rfl (fun h => ?_) (fun h => ?_)
          · have hj' : j < l.length := by simpa using h
            obtain ⟨a, ha⟩ := nth hj'
            have hca := ih' a (List.mem_of_getElem? ha)
            have hat := Y.at ha
            obtain ⟨hl1, hc1⟩ := mapped_y (Y.put ns tl) ha
            have hlt : ((l.take j).map (Y.put ns tl)).length ≤ 1048576 := by rw [List.length_map, List.length_take]; omega
            clear h ha ih'
            generalize a.put ns tl = pa at *
            obtain ⟨ka, ta, la⟩ := a
            obtain ⟨kp, tp, lp⟩ := pa
            repeat (first | refine gG ?_ | refine zN1 (fun hlen => ?_) | refine zN2 (fun hlen => ?_) | refine zAl (fun _ => ?_) | refine zBx (fun _ => ?_) | refine zAp (fun _ => ?_))
            refine zIx (j) (hj') ?_
            repeat (first | refine gG ?_ | refine zN1 (fun hlen => ?_) | refine zN2 (fun hlen => ?_) | refine zAl (fun _ => ?_) | refine zBx (fun _ => ?_) | refine zAp (fun _ => ?_))
            refine zEl (hat) (Y.ts_len _) ?_
            repeat (first | refine gG ?_ | refine zN1 (fun hlen => ?_) | refine zN2 (fun hlen => ?_) | refine zAl (fun _ => ?_) | refine zBx (fun _ => ?_) | refine zAp (fun _ => ?_))
            refine zCall (hca) ?_
            rintro _ rfl
            clear hca
            repeat (first | refine gG ?_ | refine zN1 (fun hlen => ?_) | refine zN2 (fun hlen => ?_) | refine zAl (fun _ => ?_) | refine zBx (fun _ => ?_) | refine zAp (fun _ => ?_))
            exact ⟨(j + 1, _), hj', by simp only; omega, x_wkd 3 ⟨rfl, rfl, trivial⟩ (by simp only [hl1, hc1]; rfl) (by repeat (first | exact ag_refl | refine ag_upd rfl ?_ | refine ag_at rfl rfl ?_))⟩
          · have hj' : j = l.length := by
              have : ¬ j < l.length := by simpa using h
              omega
            subst hj'
            clear h ih'
            rw [List.take_length]
            repeat (first | refine gG ?_ | refine zN1 (fun hlen => ?_) | refine zN2 (fun hlen => ?_) | refine zAl (fun _ => ?_) | refine zBx (fun _ => ?_) | refine zAp (fun _ => ?_))
            first | refine zR ?_ | refine zQ ?_
            rfl
    exact hwalk
set_option maxRecDepth 100000 in
set_option maxHeartbeats 2000000 in
theorem swapOf_af (ns : List ByteArray) (tl : List Y) (hcp : ∀ a ∈ tl, AF Tryd.prog 35 [a.t, strRow [], Y.row []] (· = a.t)) (v : Y) : v.mass ≤ 1048576 → AF Tryd.prog 35 [v.t, strRow ns, Y.row tl] (· = (v.put ns tl).t) := by
  induction v using Y.ind with
  | h k t l ih =>
    intro hm
    rw [Y.mass, Y.masses_sum] at hm
    have hll : l.length ≤ 1048576 := by have := len_sum' Y.mass Y.mass_pos l; omega
    have ih' : ∀ x ∈ l, AF Tryd.prog 35 [x.t, strRow ns, Y.row tl] (· = (x.put ns tl).t) := fun x hx => ih x hx (by have := sum_mem' Y.mass hx; omega)
    have hix := idxStr_af ns t
    rw [Y.put, Y.puts_eq]
    clear ih hm
    cases hh : hitB ns tl.length k t
    rotate_left
    · obtain ⟨d5, j, hj, hjl⟩ := hit_some hh
      obtain ⟨a, ha⟩ := nth hjl
      have hg : tl.getD j (.mk 0 ⟨#[]⟩ []) = a := by rw [List.getD_eq_getElem?_getD, ha]; rfl
      have hca := hcp a (List.mem_of_getElem? ha)
      have hat := Y.at ha
      simp only [cond]
      rw [hj, show ((j : Nat) : Int).toNat = j from rfl, hg]
      rw [hj] at hix
      have d1 : decide ((0 : Int) ≤ ((j : Nat) : Int)) = true := decide_eq_true (by omega)
      have d2 : decide (((j : Nat) : Int) < ((tl.length : Nat) : Int)) = true := decide_eq_true (by omega)
      clear hh hj hg ha ih' hcp
      obtain ⟨ka, ta, la⟩ := a
      refine af_enter tok Tryd.func35 Tryd.ntmps35 Tryd.results35 rfl (by kernel_rfl) rfl rfl fun F hX => ?_
      repeat (first | refine gG ?_ | refine zN1 (fun hlen => ?_) | refine zN2 (fun hlen => ?_) | refine zAl (fun _ => ?_) | refine zBf ?_ | refine zAp (fun _ => ?_))
      refine zCall (hix) ?_
      rintro _ rfl
      clear hix
      repeat (first | refine gG ?_ | refine zN1 (fun hlen => ?_) | refine zN2 (fun hlen => ?_) | refine zAl (fun _ => ?_) | refine zBx (fun _ => ?_) | refine zAp (fun _ => ?_))
      refine zIx (j) (hjl) ?_
      repeat (first | refine gG ?_ | refine zN1 (fun hlen => ?_) | refine zN2 (fun hlen => ?_) | refine zAl (fun _ => ?_) | refine zBx (fun _ => ?_) | refine zAp (fun _ => ?_))
      refine zEl (hat) (Y.ts_len _) ?_
      repeat (first | refine gG ?_ | refine zN1 (fun hlen => ?_) | refine zN2 (fun hlen => ?_) | refine zAl (fun _ => ?_) | refine zBx (fun _ => ?_) | refine zAp (fun _ => ?_))
      refine zCall (hca) ?_
      rintro _ rfl
      clear hca
      repeat (first | refine gG ?_ | refine zN1 (fun hlen => ?_) | refine zN2 (fun hlen => ?_) | refine zAl (fun _ => ?_) | refine zBx (fun _ => ?_) | refine zAp (fun _ => ?_))
      first | refine zR ?_ | refine zQ ?_
      rfl
    simp only [cond]
    clear hcp
    have hwalk : AF Tryd.prog 35 [(Y.mk k t l).t, strRow ns, Y.row tl] (· = (Y.mk k t (l.map (Y.put ns tl))).t) := by
      generalize hpq : posOf t ns = q at *
      cases d5 : decide (k = 5)
      · clear hh
        refine af_enter tok Tryd.func35 Tryd.ntmps35 Tryd.results35 rfl (by kernel_rfl) rfl rfl fun F hX => ?_
        repeat (first | refine gG ?_ | refine zN1 (fun hlen => ?_) | refine zN2 (fun hlen => ?_) | refine zAl (fun _ => ?_) | refine zBf ?_ | refine zAp (fun _ => ?_))
        rename_i b1
        refine zCall (hix) ?_
        rintro _ rfl
        clear hix
        repeat (first | refine gG ?_ | refine zN1 (fun hlen => ?_) | refine zN2 (fun hlen => ?_) | refine zAl (fun _ => ?_) | refine zBx (fun _ => ?_) | refine zAp (fun _ => ?_))
        rename_i b2
        refine x_own_cell 1 2 64 3 rfl rfl rfl rfl rfl rfl ?_
        refine x_loop [10, 41, 42, 43, 44, 45, 46, 47, 48, 49, 50, 51, 52, 53, 54] (fun y : Nat × Value => [(41, .c (.lit (.int .i64 (y.1 : Nat))))]) (fun y => [.box b1 64 [.c (.lit (.int .i64 0)), .c (.lit (.string ⟨#[]⟩)), .c (.lit (.slice none 0 0))], .box b2 64 [.c (.lit (.int .i64 k)), .c (.lit (.string t)), .own 2 y.2], .row y.2 64 3 ((l.take y.1).map (Y.put ns tl)).length (Y.all ((l.take y.1).map (Y.put ns tl)))]) (fun y => y.1 ≤ l.length) (fun y => l.length - y.1) (0, .slice none 0 0) (Nat.zero_le _) ⟨rfl, trivial⟩ rfl ?_
        rintro ⟨j, u⟩ hj
        dsimp only at hj ⊢
        repeat (first | refine gG ?_ | refine zN1 (fun hlen => ?_) | refine zN2 (fun hlen => ?_) | refine zAl (fun _ => ?_) | refine zBx (fun _ => ?_) | refine zAp (fun _ => ?_))
        refine x_cond rfl (fun h => ?_) (fun h => ?_)
        · have hj' : j < l.length := by simpa using h
          obtain ⟨a, ha⟩ := nth hj'
          have hca := ih' a (List.mem_of_getElem? ha)
          have hat := Y.at ha
          obtain ⟨hl1, hc1⟩ := mapped_y (Y.put ns tl) ha
          have hlt : ((l.take j).map (Y.put ns tl)).length ≤ 1048576 := by rw [List.length_map, List.length_take]; omega
          clear h ha ih'
          generalize a.put ns tl = pa at *
          obtain ⟨ka, ta, la⟩ := a
          obtain ⟨kp, tp, lp⟩ := pa
          repeat (first | refine gG ?_ | refine zN1 (fun hlen => ?_) | refine zN2 (fun hlen => ?_) | refine zAl (fun _ => ?_) | refine zBx (fun _ => ?_) | refine zAp (fun _ => ?_))
          refine zIx (j) (hj') ?_
          repeat (first | refine gG ?_ | refine zN1 (fun hlen => ?_) | refine zN2 (fun hlen => ?_) | refine zAl (fun _ => ?_) | refine zBx (fun _ => ?_) | refine zAp (fun _ => ?_))
          refine zEl (hat) (Y.ts_len _) ?_
          repeat (first | refine gG ?_ | refine zN1 (fun hlen => ?_) | refine zN2 (fun hlen => ?_) | refine zAl (fun _ => ?_) | refine zBx (fun _ => ?_) | refine zAp (fun _ => ?_))
          refine ac_draw [0, 1, 1, 1, 1, 1, 1, 2, 0, 2] [0, 1, 2, 3, 4, 5, 6, 7, 8, 9] (by kernel_rfl) (by kernel_rfl) ?_
          refine gW ?_
          apply w_q; (focus exact rfl); (focus exact rfl); focus (intro _; (refine zCall hca ?_; rintro _ rfl); exact det_refl)
          refine gW ?_
          apply w_l; (focus exact rfl); (focus exact rfl); (first | (refine zkL ?_; first | refine zL1 ?_ | refine zL2 ?_ | refine zL3 ?_ | refine zLp ?_) | refine zM ?_ | (refine zkF ?_; first | refine zF1 ?_ | refine zF2 ?_ | refine zF3 ?_) | refine zA ?_ | (refine zkB ?_; first | refine zC5 ?_ | refine zC6 ?_ | refine zC1 ?_ | refine zC2 ?_ | refine zC3 ?_ | refine zC4 ?_ | refine zS5 ?_ | refine zS6 ?_ | refine zS1 ?_ | refine zS2 ?_ | refine zS3 ?_ | refine zS4 ?_ | refine zInc ?_ | refine zQ1 ?_ | refine zQ2 ?_ | refine zQ3 ?_ | refine zQ4 ?_ | refine zQ5 ?_ | refine zQ6 ?_) | (refine zkI ?_; first | refine zN1 (fun hlen => ?_) | refine zN2 (fun hlen => ?_) | refine zN3 ?_ | refine zN4 ?_ | refine zAp (fun _ => ?_)) | refine zS ?_ | refine zAl (fun _ => ?_) | refine zBx (fun _ => ?_) | refine zPt ?_ | refine zPf ?_ | refine zE ?_ | refine zEA ?_ | refine zNot ?_ | refine zBd ?_ | refine zBs ?_ | refine zFn ?_ | refine zK1 ?_ | refine zK2 ?_)
          refine gW ?_
          apply w_l; (focus exact rfl); (focus exact rfl); (first | (refine zkL ?_; first | refine zL1 ?_ | refine zL2 ?_ | refine zL3 ?_ | refine zLp ?_) | refine zM ?_ | (refine zkF ?_; first | refine zF1 ?_ | refine zF2 ?_ | refine zF3 ?_) | refine zA ?_ | (refine zkB ?_; first | refine zC5 ?_ | refine zC6 ?_ | refine zC1 ?_ | refine zC2 ?_ | refine zC3 ?_ | refine zC4 ?_ | refine zS5 ?_ | refine zS6 ?_ | refine zS1 ?_ | refine zS2 ?_ | refine zS3 ?_ | refine zS4 ?_ | refine zInc ?_ | refine zQ1 ?_ | refine zQ2 ?_ | refine zQ3 ?_ | refine zQ4 ?_ | refine zQ5 ?_ | refine zQ6 ?_) | (refine zkI ?_; first | refine zN1 (fun hlen => ?_) | refine zN2 (fun hlen => ?_) | refine zN3 ?_ | refine zN4 ?_ | refine zAp (fun _ => ?_)) | refine zS ?_ | refine zAl (fun _ => ?_) | refine zBx (fun _ => ?_) | refine zPt ?_ | refine zPf ?_ | refine zE ?_ | refine zEA ?_ | refine zNot ?_ | refine zBd ?_ | refine zBs ?_ | refine zFn ?_ | refine zK1 ?_ | refine zK2 ?_)
          refine w_nil ?_
          clear hca
          repeat (first | refine gG ?_ | refine zN1 (fun hlen => ?_) | refine zN2 (fun hlen => ?_) | refine zAl (fun _ => ?_) | refine zBx (fun _ => ?_) | refine zAp (fun _ => ?_))
          exact ⟨(j + 1, _), hj', by simp only; omega, x_wkd 3 ⟨rfl, trivial⟩ (by simp only [hl1, hc1]; rfl) (by repeat (first | exact ag_refl | refine ag_upd rfl ?_ | refine ag_at rfl rfl ?_))⟩
        · have hj' : j = l.length := by
            have : ¬ j < l.length := by simpa using h
            omega
          subst hj'
          clear h ih'
          rw [List.take_length]
          repeat (first | refine gG ?_ | refine zN1 (fun hlen => ?_) | refine zN2 (fun hlen => ?_) | refine zAl (fun _ => ?_) | refine zBx (fun _ => ?_) | refine zAp (fun _ => ?_))
          first | refine zR ?_ | refine zQ ?_
          rfl
      · unfold hitB at hh
        rw [hpq, d5, Bool.true_and] at hh
        cases d1 : decide ((0 : Int) ≤ q)
        · clear hh
          refine af_enter tok Tryd.func35 Tryd.ntmps35 Tryd.results35 rfl (by kernel_rfl) rfl rfl fun F hX => ?_
          repeat (first | refine gG ?_ | refine zN1 (fun hlen => ?_) | refine zN2 (fun hlen => ?_) | refine zAl (fun _ => ?_) | refine zBf ?_ | refine zAp (fun _ => ?_))
          rename_i b1
          refine zCall (hix) ?_
          rintro _ rfl
          clear hix
          repeat (first | refine gG ?_ | refine zN1 (fun hlen => ?_) | refine zN2 (fun hlen => ?_) | refine zAl (fun _ => ?_) | refine zBx (fun _ => ?_) | refine zAp (fun _ => ?_))
          rename_i b2
          refine x_own_cell 1 2 64 3 rfl rfl rfl rfl rfl rfl ?_
          refine x_loop [10, 41, 42, 43, 44, 45, 46, 47, 48, 49, 50, 51, 52, 53, 54] (fun y : Nat × Value => [(41, .c (.lit (.int .i64 (y.1 : Nat))))]) (fun y => [.box b1 64 [.c (.lit (.int .i64 0)), .c (.lit (.string ⟨#[]⟩)), .c (.lit (.slice none 0 0))], .box b2 64 [.c (.lit (.int .i64 k)), .c (.lit (.string t)), .own 2 y.2], .row y.2 64 3 ((l.take y.1).map (Y.put ns tl)).length (Y.all ((l.take y.1).map (Y.put ns tl)))]) (fun y => y.1 ≤ l.length) (fun y => l.length - y.1) (0, .slice none 0 0) (Nat.zero_le _) ⟨rfl, trivial⟩ rfl ?_
          rintro ⟨j, u⟩ hj
          dsimp only at hj ⊢
          repeat (first | refine gG ?_ | refine zN1 (fun hlen => ?_) | refine zN2 (fun hlen => ?_) | refine zAl (fun _ => ?_) | refine zBx (fun _ => ?_) | refine zAp (fun _ => ?_))
          refine x_cond rfl (fun h => ?_) (fun h => ?_)
          · have hj' : j < l.length := by simpa using h
            obtain ⟨a, ha⟩ := nth hj'
            have hca := ih' a (List.mem_of_getElem? ha)
            have hat := Y.at ha
            obtain ⟨hl1, hc1⟩ := mapped_y (Y.put ns tl) ha
            have hlt : ((l.take j).map (Y.put ns tl)).length ≤ 1048576 := by rw [List.length_map, List.length_take]; omega
            clear h ha ih'
            generalize a.put ns tl = pa at *
            obtain ⟨ka, ta, la⟩ := a
            obtain ⟨kp, tp, lp⟩ := pa
            repeat (first | refine gG ?_ | refine zN1 (fun hlen => ?_) | refine zN2 (fun hlen => ?_) | refine zAl (fun _ => ?_) | refine zBx (fun _ => ?_) | refine zAp (fun _ => ?_))
            refine zIx (j) (hj') ?_
            repeat (first | refine gG ?_ | refine zN1 (fun hlen => ?_) | refine zN2 (fun hlen => ?_) | refine zAl (fun _ => ?_) | refine zBx (fun _ => ?_) | refine zAp (fun _ => ?_))
            refine zEl (hat) (Y.ts_len _) ?_
            repeat (first | refine gG ?_ | refine zN1 (fun hlen => ?_) | refine zN2 (fun hlen => ?_) | refine zAl (fun _ => ?_) | refine zBx (fun _ => ?_) | refine zAp (fun _ => ?_))
            refine ac_draw [0, 1, 1, 1, 1, 1, 1, 2, 0, 2] [0, 1, 2, 3, 4, 5, 6, 7, 8, 9] (by kernel_rfl) (by kernel_rfl) ?_
            refine gW ?_
            apply w_q; (focus exact rfl); (focus exact rfl); focus (intro _; (refine zCall hca ?_; rintro _ rfl); exact det_refl)
            refine gW ?_
            apply w_l; (focus exact rfl); (focus exact rfl); (first | (refine zkL ?_; first | refine zL1 ?_ | refine zL2 ?_ | refine zL3 ?_ | refine zLp ?_) | refine zM ?_ | (refine zkF ?_; first | refine zF1 ?_ | refine zF2 ?_ | refine zF3 ?_) | refine zA ?_ | (refine zkB ?_; first | refine zC5 ?_ | refine zC6 ?_ | refine zC1 ?_ | refine zC2 ?_ | refine zC3 ?_ | refine zC4 ?_ | refine zS5 ?_ | refine zS6 ?_ | refine zS1 ?_ | refine zS2 ?_ | refine zS3 ?_ | refine zS4 ?_ | refine zInc ?_ | refine zQ1 ?_ | refine zQ2 ?_ | refine zQ3 ?_ | refine zQ4 ?_ | refine zQ5 ?_ | refine zQ6 ?_) | (refine zkI ?_; first | refine zN1 (fun hlen => ?_) | refine zN2 (fun hlen => ?_) | refine zN3 ?_ | refine zN4 ?_ | refine zAp (fun _ => ?_)) | refine zS ?_ | refine zAl (fun _ => ?_) | refine zBx (fun _ => ?_) | refine zPt ?_ | refine zPf ?_ | refine zE ?_ | refine zEA ?_ | refine zNot ?_ | refine zBd ?_ | refine zBs ?_ | refine zFn ?_ | refine zK1 ?_ | refine zK2 ?_)
            refine gW ?_
            apply w_l; (focus exact rfl); (focus exact rfl); (first | (refine zkL ?_; first | refine zL1 ?_ | refine zL2 ?_ | refine zL3 ?_ | refine zLp ?_) | refine zM ?_ | (refine zkF ?_; first | refine zF1 ?_ | refine zF2 ?_ | refine zF3 ?_) | refine zA ?_ | (refine zkB ?_; first | refine zC5 ?_ | refine zC6 ?_ | refine zC1 ?_ | refine zC2 ?_ | refine zC3 ?_ | refine zC4 ?_ | refine zS5 ?_ | refine zS6 ?_ | refine zS1 ?_ | refine zS2 ?_ | refine zS3 ?_ | refine zS4 ?_ | refine zInc ?_ | refine zQ1 ?_ | refine zQ2 ?_ | refine zQ3 ?_ | refine zQ4 ?_ | refine zQ5 ?_ | refine zQ6 ?_) | (refine zkI ?_; first | refine zN1 (fun hlen => ?_) | refine zN2 (fun hlen => ?_) | refine zN3 ?_ | refine zN4 ?_ | refine zAp (fun _ => ?_)) | refine zS ?_ | refine zAl (fun _ => ?_) | refine zBx (fun _ => ?_) | refine zPt ?_ | refine zPf ?_ | refine zE ?_ | refine zEA ?_ | refine zNot ?_ | refine zBd ?_ | refine zBs ?_ | refine zFn ?_ | refine zK1 ?_ | refine zK2 ?_)
            refine w_nil ?_
            clear hca
            repeat (first | refine gG ?_ | refine zN1 (fun hlen => ?_) | refine zN2 (fun hlen => ?_) | refine zAl (fun _ => ?_) | refine zBx (fun _ => ?_) | refine zAp (fun _ => ?_))
            exact ⟨(j + 1, _), hj', by simp only; omega, x_wkd 3 ⟨rfl, trivial⟩ (by simp only [hl1, hc1]; rfl) (by repeat (first | exact ag_refl | refine ag_upd rfl ?_ | refine ag_at rfl rfl ?_))⟩
          · have hj' : j = l.length := by
              have : ¬ j < l.length := by simpa using h
              omega
            subst hj'
            clear h ih'
            rw [List.take_length]
            repeat (first | refine gG ?_ | refine zN1 (fun hlen => ?_) | refine zN2 (fun hlen => ?_) | refine zAl (fun _ => ?_) | refine zBx (fun _ => ?_) | refine zAp (fun _ => ?_))
            first | refine zR ?_ | refine zQ ?_
            rfl
        · rw [d1, Bool.true_and] at hh
          refine af_enter tok Tryd.func35 Tryd.ntmps35 Tryd.results35 rfl (by kernel_rfl) rfl rfl fun F hX => ?_
          repeat (first | refine gG ?_ | refine zN1 (fun hlen => ?_) | refine zN2 (fun hlen => ?_) | refine zAl (fun _ => ?_) | refine zBf ?_ | refine zAp (fun _ => ?_))
          rename_i b1
          refine zCall (hix) ?_
          rintro _ rfl
          clear hix
          repeat (first | refine gG ?_ | refine zN1 (fun hlen => ?_) | refine zN2 (fun hlen => ?_) | refine zAl (fun _ => ?_) | refine zBx (fun _ => ?_) | refine zAp (fun _ => ?_))
          rename_i b2
          refine x_own_cell 1 2 64 3 rfl rfl rfl rfl rfl rfl ?_
          refine x_loop [10, 41, 42, 43, 44, 45, 46, 47, 48, 49, 50, 51, 52, 53, 54] (fun y : Nat × Value => [(41, .c (.lit (.int .i64 (y.1 : Nat))))]) (fun y => [.box b1 64 [.c (.lit (.int .i64 0)), .c (.lit (.string ⟨#[]⟩)), .c (.lit (.slice none 0 0))], .box b2 64 [.c (.lit (.int .i64 k)), .c (.lit (.string t)), .own 2 y.2], .row y.2 64 3 ((l.take y.1).map (Y.put ns tl)).length (Y.all ((l.take y.1).map (Y.put ns tl)))]) (fun y => y.1 ≤ l.length) (fun y => l.length - y.1) (0, .slice none 0 0) (Nat.zero_le _) ⟨rfl, trivial⟩ rfl ?_
          rintro ⟨j, u⟩ hj
          dsimp only at hj ⊢
          repeat (first | refine gG ?_ | refine zN1 (fun hlen => ?_) | refine zN2 (fun hlen => ?_) | refine zAl (fun _ => ?_) | refine zBx (fun _ => ?_) | refine zAp (fun _ => ?_))
          refine x_cond rfl (fun h => ?_) (fun h => ?_)
          · have hj' : j < l.length := by simpa using h
            obtain ⟨a, ha⟩ := nth hj'
            have hca := ih' a (List.mem_of_getElem? ha)
            have hat := Y.at ha
            obtain ⟨hl1, hc1⟩ := mapped_y (Y.put ns tl) ha
            have hlt : ((l.take j).map (Y.put ns tl)).length ≤ 1048576 := by rw [List.length_map, List.length_take]; omega
            clear h ha ih'
            generalize a.put ns tl = pa at *
            obtain ⟨ka, ta, la⟩ := a
            obtain ⟨kp, tp, lp⟩ := pa
            repeat (first | refine gG ?_ | refine zN1 (fun hlen => ?_) | refine zN2 (fun hlen => ?_) | refine zAl (fun _ => ?_) | refine zBx (fun _ => ?_) | refine zAp (fun _ => ?_))
            refine zIx (j) (hj') ?_
            repeat (first | refine gG ?_ | refine zN1 (fun hlen => ?_) | refine zN2 (fun hlen => ?_) | refine zAl (fun _ => ?_) | refine zBx (fun _ => ?_) | refine zAp (fun _ => ?_))
            refine zEl (hat) (Y.ts_len _) ?_
            repeat (first | refine gG ?_ | refine zN1 (fun hlen => ?_) | refine zN2 (fun hlen => ?_) | refine zAl (fun _ => ?_) | refine zBx (fun _ => ?_) | refine zAp (fun _ => ?_))
            refine ac_draw [0, 1, 1, 1, 1, 1, 1, 2, 0, 2] [0, 1, 2, 3, 4, 5, 6, 7, 8, 9] (by kernel_rfl) (by kernel_rfl) ?_
            refine gW ?_
            apply w_q; (focus exact rfl); (focus exact rfl); focus (intro _; (refine zCall hca ?_; rintro _ rfl); exact det_refl)
            refine gW ?_
            apply w_l; (focus exact rfl); (focus exact rfl); (first | (refine zkL ?_; first | refine zL1 ?_ | refine zL2 ?_ | refine zL3 ?_ | refine zLp ?_) | refine zM ?_ | (refine zkF ?_; first | refine zF1 ?_ | refine zF2 ?_ | refine zF3 ?_) | refine zA ?_ | (refine zkB ?_; first | refine zC5 ?_ | refine zC6 ?_ | refine zC1 ?_ | refine zC2 ?_ | refine zC3 ?_ | refine zC4 ?_ | refine zS5 ?_ | refine zS6 ?_ | refine zS1 ?_ | refine zS2 ?_ | refine zS3 ?_ | refine zS4 ?_ | refine zInc ?_ | refine zQ1 ?_ | refine zQ2 ?_ | refine zQ3 ?_ | refine zQ4 ?_ | refine zQ5 ?_ | refine zQ6 ?_) | (refine zkI ?_; first | refine zN1 (fun hlen => ?_) | refine zN2 (fun hlen => ?_) | refine zN3 ?_ | refine zN4 ?_ | refine zAp (fun _ => ?_)) | refine zS ?_ | refine zAl (fun _ => ?_) | refine zBx (fun _ => ?_) | refine zPt ?_ | refine zPf ?_ | refine zE ?_ | refine zEA ?_ | refine zNot ?_ | refine zBd ?_ | refine zBs ?_ | refine zFn ?_ | refine zK1 ?_ | refine zK2 ?_)
            refine gW ?_
            apply w_l; (focus exact rfl); (focus exact rfl); (first | (refine zkL ?_; first | refine zL1 ?_ | refine zL2 ?_ | refine zL3 ?_ | refine zLp ?_) | refine zM ?_ | (refine zkF ?_; first | refine zF1 ?_ | refine zF2 ?_ | refine zF3 ?_) | refine zA ?_ | (refine zkB ?_; first | refine zC5 ?_ | refine zC6 ?_ | refine zC1 ?_ | refine zC2 ?_ | refine zC3 ?_ | refine zC4 ?_ | refine zS5 ?_ | refine zS6 ?_ | refine zS1 ?_ | refine zS2 ?_ | refine zS3 ?_ | refine zS4 ?_ | refine zInc ?_ | refine zQ1 ?_ | refine zQ2 ?_ | refine zQ3 ?_ | refine zQ4 ?_ | refine zQ5 ?_ | refine zQ6 ?_) | (refine zkI ?_; first | refine zN1 (fun hlen => ?_) | refine zN2 (fun hlen => ?_) | refine zN3 ?_ | refine zN4 ?_ | refine zAp (fun _ => ?_)) | refine zS ?_ | refine zAl (fun _ => ?_) | refine zBx (fun _ => ?_) | refine zPt ?_ | refine zPf ?_ | refine zE ?_ | refine zEA ?_ | refine zNot ?_ | refine zBd ?_ | refine zBs ?_ | refine zFn ?_ | refine zK1 ?_ | refine zK2 ?_)
            refine w_nil ?_
            clear hca
            repeat (first | refine gG ?_ | refine zN1 (fun hlen => ?_) | refine zN2 (fun hlen => ?_) | refine zAl (fun _ => ?_) | refine zBx (fun _ => ?_) | refine zAp (fun _ => ?_))
            exact ⟨(j + 1, _), hj', by simp only; omega, x_wkd 3 ⟨rfl, trivial⟩ (by simp only [hl1, hc1]; rfl) (by repeat (first | exact ag_refl | refine ag_upd rfl ?_ | refine ag_at rfl rfl ?_))⟩
          · have hj' : j = l.length := by
              have : ¬ j < l.length := by simpa using h
              omega
            subst hj'
            clear h ih'
            rw [List.take_length]
            repeat (first | refine gG ?_ | refine zN1 (fun hlen => ?_) | refine zN2 (fun hlen => ?_) | refine zAl (fun _ => ?_) | refine zBx (fun _ => ?_) | refine zAp (fun _ => ?_))
            first | refine zR ?_ | refine zQ ?_
            rfl
    exact hwalk
theorem swapNil_af (v : Y) (hv : v.mass ≤ 1048576) : AF Tryd.prog 35 [v.t, strRow [], Y.row []] (· = v.t) := by
  have := swapOf_af [] [] (fun _ h => by cases h) v hv
  rwa [Y.put_nil] at this
theorem swap_af (ns : List ByteArray) (tl : List Y) (htl : ∀ v ∈ tl, v.mass ≤ 1048576) (v : Y) (hv : v.mass ≤ 1048576) : AF Tryd.prog 35 [v.t, strRow ns, Y.row tl] (· = (v.put ns tl).t) :=
  swapOf_af ns tl (fun a ha => swapNil_af a (htl a ha)) v hv
/-- the first Data with a name -/
def datR (ds : List Da) (s : ByteArray) : T := match lookD ds s with | some d => .tup [d.t, .lit (.int .i64 0)] | none => .tup [Da.t ⟨⟨#[]⟩, [], []⟩, .lit (.int .i64 11)]
set_option maxRecDepth 100000 in
set_option maxHeartbeats 1000000 in
theorem kindData_af (p : Pr) (s : ByteArray) : AF Tryd.prog 27 [p.t, .lit (.string s)] (· = datR p.datas s) := by
  obtain ⟨nm, vr, us, ds, trs, ims, fus, acs⟩ := p
  dsimp only
  refine af_enter tok Tryd.func27 Tryd.ntmps27 Tryd.results27 rfl (by kernel_rfl) rfl rfl fun F hX => ?_
  repeat (first | refine gG ?_ | refine zN1 (fun hlen => ?_) | refine zN2 (fun hlen => ?_) | refine zAl (fun _ => ?_) | refine zBf ?_)
  rename_i b4
  refine x_loop [5, 7, 11, 12, 13, 14, 15, 16, 17, 18, 19, 20] (fun k : Nat => [(11, .c (.lit (.int .i64 (k : Nat))))]) (fun _ => [.box b4 55 [.c (.lit (.string ⟨#[]⟩)), .c (.lit (.slice none 0 0)), .c (.lit (.slice none 0 0))]]) (fun k => k ≤ ds.length ∧ lookD (ds.drop k) s = lookD ds s) (fun k => ds.length - k) 0 ⟨Nat.zero_le _, rfl⟩ ⟨rfl, trivial⟩ rfl ?_
  rintro k ⟨hk, hb⟩
  repeat (first | refine gG ?_ | refine zN1 (fun hlen => ?_) | refine zN2 (fun hlen => ?_) | refine zAl (fun _ => ?_) | refine zBx (fun _ => ?_))
  refine x_cond rfl (fun h => ?_) (fun h => ?_)
  · have hk' : k < ds.length := by simpa using h
    obtain ⟨a, ha⟩ := nth hk'
    have hat := Da.at ha
    have hdr : ds.drop k = a :: ds.drop (k + 1) := by
      obtain ⟨h1, rfl⟩ := List.getElem?_eq_some_iff.1 ha
      exact List.drop_eq_getElem_cons h1
    rw [hdr] at hb
    unfold lookD at hb
    rw [List.find?_cons] at hb
    clear h ha hdr
    cases d : decide (a.name = s)
    · rw [d] at hb
      obtain ⟨dn, dps, mks⟩ := a
      dsimp only at d
      repeat (first | refine gG ?_ | refine zN1 (fun hlen => ?_) | refine zN2 (fun hlen => ?_) | refine zAl (fun _ => ?_) | refine zBx (fun _ => ?_))
      refine zIx (k) (hk') ?_
      repeat (first | refine gG ?_ | refine zN1 (fun hlen => ?_) | refine zN2 (fun hlen => ?_) | refine zAl (fun _ => ?_) | refine zBx (fun _ => ?_))
      refine zEl (hat) (Da.ts_len _) ?_
      repeat (first | refine gG ?_ | refine zN1 (fun hlen => ?_) | refine zN2 (fun hlen => ?_) | refine zAl (fun _ => ?_) | refine zBx (fun _ => ?_))
      exact ⟨k + 1, ⟨hk', hb⟩, by omega, x_wkd 1 ⟨rfl, trivial⟩ rfl (by repeat (first | exact ag_refl | refine ag_upd rfl ?_ | refine ag_at rfl rfl ?_))⟩
    · rw [d] at hb
      have hr : datR ds s = .tup [a.t, .lit (.int .i64 0)] := by
        unfold datR lookD
        rw [← hb]
      rw [hr]
      clear hb hr
      obtain ⟨dn, dps, mks⟩ := a
      dsimp only at d
      repeat (first | refine gG ?_ | refine zN1 (fun hlen => ?_) | refine zN2 (fun hlen => ?_) | refine zAl (fun _ => ?_) | refine zBx (fun _ => ?_))
      refine zIx (k) (hk') ?_
      repeat (first | refine gG ?_ | refine zN1 (fun hlen => ?_) | refine zN2 (fun hlen => ?_) | refine zAl (fun _ => ?_) | refine zBx (fun _ => ?_))
      refine zEl (hat) (Da.ts_len _) ?_
      repeat (first | refine gG ?_ | refine zN1 (fun hlen => ?_) | refine zN2 (fun hlen => ?_) | refine zAl (fun _ => ?_) | refine zBx (fun _ => ?_))
      first | refine zR ?_ | refine zQ ?_
      rfl
  · have hk' : k = ds.length := by
      have : ¬ k < ds.length := by simpa using h
      omega
    subst hk'
    clear h
    rw [List.drop_length] at hb
    have hr : datR ds s = .tup [Da.t ⟨⟨#[]⟩, [], []⟩, .lit (.int .i64 11)] := by
      unfold datR
      rw [← hb]
      rfl
    rw [hr]
    clear hb hr
    repeat (first | refine gG ?_ | refine zN1 (fun hlen => ?_) | refine zN2 (fun hlen => ?_) | refine zAl (fun _ => ?_) | refine zBx (fun _ => ?_))
    first | refine zR (ts := [Da.t ⟨⟨#[]⟩, [], []⟩, .lit (.int .i64 11)]) ?_ | refine zQ (ts := [Da.t ⟨⟨#[]⟩, [], []⟩, .lit (.int .i64 11)]) ?_
    rfl
end Go.Proofs.YtllgibfmddihgaaDoor
