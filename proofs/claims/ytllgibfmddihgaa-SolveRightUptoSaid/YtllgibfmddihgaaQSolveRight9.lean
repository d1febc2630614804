/-
  Texts of this proof, part 9: Ab30 Tke Tkf Tkg Open Law.
-/
import Derived.Test.YtllgibfmddihgaaQSolveRight8
import Derived.Deep.Slices
import Derived.JoinedCond
import Derived.Lib.MinMax
import Derived.OpenShut
import Derived.ProofKit
import Derived.Test.YtllgibfmddihgaaRows
namespace Go.Proofs.Ytllgibfmddihgaa
open Go.RowKit
section
variable {P : Program} {F : Frm} {L : Tab} {d : Option Tmp} {ty : TypeId} {pos : String} {aft : Array Edge} {g : Option (Nat × Bool)} {ρ : Operand → AV} {hp : List Blk} {K : AV → List Blk → Prop}
theorem own_turn {M : Mm} {w : World} (hh : HeapOk F M hp w) {i n n' sz : Nat} {v v' : Value} {e : TypeId} {cs cs' : List T} (hi : hp[i]? = some (.row v e sz n cs)) (hb : ∀ b, v'.ownBlock = some b → v.ownBlock = some b) (hx : BlkOk M w (.row v' e sz n' cs')) : HeapOk F M (hp.set i (.row v' e sz n' cs')) w := by
  refine hh.step i rfl rfl rfl (Nat.le_refl _) (fun _ _ _ => rfl) (Ext.refl _ _) (fun p v h1 h2 => by rw [h2] at h1; cases h1) (fun j hj => by rw [List.getElem?_set_ne (Ne.symm hj)]) (fun x' hx' => ?_)
  have hlt : i < hp.length := (List.getElem?_eq_some_iff.1 hi).1
  rw [List.getElem?_set_self hlt] at hx'
  obtain rfl : Blk.row v' e sz n' cs' = x' := by injection hx'
  exact ⟨hx, fun b hb' => .inl ⟨_, hi, hb b hb'⟩⟩
theorem lo_own_lo (hL : TabOk P L) {t el : TypeId} {ti te : TI} {x y : Operand} {i n sz : Nat} {v : Value} {e : TypeId} {cs : List T} {k : IntKind} {z : Int} (l : Nat) (hl : l ≤ n) (hx : ρ x = .own i v) (hi : hp[i]? = some (.row v e sz n cs)) (hy : ρ y = .c (.lit (.int k z))) (hz : z = (l : Int)) (ht : L.look t = some ti) (hd : ti.d = .slice el) (hte : L.look el = some te) (hsz : te.size = sz)
    (h : ∀ v', K (.own i v') (hp.set i (.row v' e sz (n - l) (cs.drop (l * sz))))) : LO P F ⟨d, .slice t x (some y) none none, ty, pos, aft, g⟩ ρ hp K := by
  refine ⟨fun M ev w he hh => ?_⟩
  have h1 := he x (by simp [Op.operands])
  rw [hx] at h1
  simp only [RA] at h1
  have h2 := he y (by simp [Op.operands])
  rw [hy] at h2
  simp only [RA, RT] at h2
  obtain ⟨xs, ho, hxs, hone, h0⟩ := hh.at_ i _ hi
  obtain ⟨A, c, rfl, hnc, hcm⟩ := ownO_shape ho
  subst hz
  have hb := run_sliceBound (P := P) (w := w) k (l : Int) n .sliceB (by omega) (by omega)
  have hr : (execOp ev ⟨d, .slice t x (some y) none none, ty, pos, aft, g⟩).run P w = .ok (.value (.slice (if c = l then A else A.map (·.add (l * sz))) (n - l) (c - l))) w := by
    simp [execOp, Instr.sliceAt, Instr.slice, Instr.sliceBounds, h1.1, h2, run_underlying (hL.slice ht hd), hL.sizeOf hte, hb, hsz]
  rw [hr]
  have hd := ho.drop hl
  refine ⟨M, _, _, h _, Ext.refl _ _, own_turn hh hi (fun b hb => ?_) ⟨_, hd, hxs.drop _, fun x hx => hone x (List.mem_of_mem_drop hx), h0⟩, by simp only [RA]; exact ⟨trivial, own_oneO hd⟩⟩
  cases A with
  | none => split at hb <;> simp [Value.ownBlock] at hb
  | some ad =>
    split at hb
    · exact hb
    · simpa [Value.ownBlock, add_block] using hb
theorem zQl {t el : TypeId} {ti te : TI} {x y : Operand} {i n sz : Nat} {v : Value} {e : TypeId} {cs : List T} {k : IntKind} {z : Int} {hp' : Value → List Blk} (l : Nat) (hl : l ≤ n) (h : ∀ v', K (.own i v') (hp' v')) (hz : z = (l : Int) := by exact rfl) (hL : TabOk P L := by exact tok) (hx : ρ x = .own i v := by exact rfl) (hi : hp[i]? = some (.row v e sz n cs) := by exact rfl) (hy : ρ y = .c (.lit (.int k z)) := by exact rfl) (ht : L.look t = some ti := by exact rfl) (hd : ti.d = .slice el := by exact rfl) (hte : L.look el = some te := by exact rfl) (hsz : te.size = sz := by exact rfl)
    (hf : ∀ v', evl (hp.set i (.row v' e sz (n - l) (cs.drop (l * sz)))) = some (hp' v') := by exact fun _ => rfl) : LO P F ⟨d, .slice t x (some y) none none, ty, pos, aft, g⟩ ρ hp K :=
  lo_own_lo hL l hl hx hi hy hz ht hd hte hsz fun v' => by rw [← evl_eq (hf v')]; exact h v'
end
end Go.Proofs.Ytllgibfmddihgaa
namespace Go.Proofs.Ytllgibfmddihgaa
open Go.RowKit
set_option maxRecDepth 100000 in
set_option maxHeartbeats 1000000 in
theorem idxPk_af (p : Pk → Bool) (f : FuncId) (cap : List T) (l : List Pk) (hf : ∀ a ∈ l, AF Try.prog f (.agg (Pk.ts a) :: cap) (· = .lit (.bool (p a)))) :
    AF Try.prog 70 [.row l.length 2 (l.flatMap Pk.ts), .fn (.func f) cap] (· = .lit (.int .i64 (idxI p l))) := by
  refine af_enter tok Try.func70 Try.ntmps70 Try.results70 rfl (by kernel_rfl) rfl rfl fun F hX => ?_
  repeat (first | refine gG ?_ | refine zN1 (fun hlen => ?_) | refine zN2 (fun hlen => ?_))
  refine x_loop [4, 5, 8, 9, 10, 11, 12, 13, 14, 15, 16, 17, 18] (fun k : Nat => [(8, .c (.lit (.int .i64 k)))]) (fun _ => []) (fun k => k ≤ l.length ∧ idxAt p l k) (fun k => l.length - k) 0 ⟨Nat.zero_le _, idxAt_zero p l⟩ ⟨rfl, trivial⟩ rfl fun k hk => ?_
  repeat (first | refine gG ?_ | refine zN1 (fun hlen => ?_) | refine zN2 (fun hlen => ?_))
  refine x_cond rfl (fun h => ?_) (fun h => ?_)
  · have hk' : k < l.length := by simpa using h
    obtain ⟨a, ha⟩ := nth hk'
    have hs := hf a (List.mem_of_getElem? ha)
    repeat (first | refine gG ?_ | refine zN1 (fun hlen => ?_) | refine zN2 (fun hlen => ?_))
    refine lo_idx tok k rfl rfl rfl hk' rfl rfl rfl rfl ?_
    repeat (first | refine gG ?_ | refine zN1 (fun hlen => ?_) | refine zN2 (fun hlen => ?_))
    refine lo_load_pin tok rfl rfl rfl (flat_at Pk.ts 2 Pk.ts_len ha) (Pk.ts_len a) ?_
    repeat (first | refine gG ?_ | refine zN1 (fun hlen => ?_) | refine zN2 (fun hlen => ?_))
    refine v_callc hs rfl (by first | exact rzs_cons rz_c rzs_self | (repeat (first | exact rzs_nil | apply rzs_cons | exact rz_c | exact rz_nil rfl | apply rz_agg | exact rz_own rfl | apply rz_fn | exact rz_ptr rfl | apply rz_tup))) ?_
    rintro _ rfl
    cases hp : p a
    · repeat (first | refine gG ?_ | refine zN1 (fun hlen => ?_) | refine zN2 (fun hlen => ?_))
      exact ⟨k + 1, ⟨hk', idxAt_no hk.2 ha hp⟩, by omega, x_wkd 0 ⟨rfl, trivial⟩ rfl (by repeat (first | exact ag_refl | refine ag_upd rfl ?_ | refine ag_at rfl rfl ?_))⟩
    · repeat (first | refine gG ?_ | refine zN1 (fun hlen => ?_) | refine zN2 (fun hlen => ?_))
      first | refine zR ?_ | refine zQ ?_
      rw [idxAt_yes hk.2 ha hp]; rfl
  · have hk' : k = l.length := by have : ¬ k < l.length := by simpa using h
                                  omega
    subst hk'
    repeat (first | refine gG ?_ | refine zN1 (fun hlen => ?_) | refine zN2 (fun hlen => ?_))
    first | refine zR ?_ | refine zQ ?_
    rw [idxAt_end hk.2]; rfl
set_option maxRecDepth 100000 in
set_option maxHeartbeats 1000000 in
theorem idxMd_af (p : Md → Bool) (f : FuncId) (cap : List T) (l : List Md) (hf : ∀ a ∈ l, AF Try.prog f (.agg (Md.ts a) :: cap) (· = .lit (.bool (p a)))) :
    AF Try.prog 72 [.row l.length 3 (l.flatMap Md.ts), .fn (.func f) cap] (· = .lit (.int .i64 (idxI p l))) := by
  refine af_enter tok Try.func72 Try.ntmps72 Try.results72 rfl (by kernel_rfl) rfl rfl fun F hX => ?_
  repeat (first | refine gG ?_ | refine zN1 (fun hlen => ?_) | refine zN2 (fun hlen => ?_))
  refine x_loop [4, 5, 8, 9, 10, 11, 12, 13, 14, 15, 16, 17, 18] (fun k : Nat => [(8, .c (.lit (.int .i64 k)))]) (fun _ => []) (fun k => k ≤ l.length ∧ idxAt p l k) (fun k => l.length - k) 0 ⟨Nat.zero_le _, idxAt_zero p l⟩ ⟨rfl, trivial⟩ rfl fun k hk => ?_
  repeat (first | refine gG ?_ | refine zN1 (fun hlen => ?_) | refine zN2 (fun hlen => ?_))
  refine x_cond rfl (fun h => ?_) (fun h => ?_)
  · have hk' : k < l.length := by simpa using h
    obtain ⟨a, ha⟩ := nth hk'
    have hs := hf a (List.mem_of_getElem? ha)
    repeat (first | refine gG ?_ | refine zN1 (fun hlen => ?_) | refine zN2 (fun hlen => ?_))
    refine lo_idx tok k rfl rfl rfl hk' rfl rfl rfl rfl ?_
    repeat (first | refine gG ?_ | refine zN1 (fun hlen => ?_) | refine zN2 (fun hlen => ?_))
    refine lo_load_pin tok rfl rfl rfl (flat_at Md.ts 3 Md.ts_len ha) (Md.ts_len a) ?_
    repeat (first | refine gG ?_ | refine zN1 (fun hlen => ?_) | refine zN2 (fun hlen => ?_))
    refine v_callc hs rfl (by first | exact rzs_cons rz_c rzs_self | (repeat (first | exact rzs_nil | apply rzs_cons | exact rz_c | exact rz_nil rfl | apply rz_agg | exact rz_own rfl | apply rz_fn | exact rz_ptr rfl | apply rz_tup))) ?_
    rintro _ rfl
    cases hp : p a
    · repeat (first | refine gG ?_ | refine zN1 (fun hlen => ?_) | refine zN2 (fun hlen => ?_))
      exact ⟨k + 1, ⟨hk', idxAt_no hk.2 ha hp⟩, by omega, x_wkd 0 ⟨rfl, trivial⟩ rfl (by repeat (first | exact ag_refl | refine ag_upd rfl ?_ | refine ag_at rfl rfl ?_))⟩
    · repeat (first | refine gG ?_ | refine zN1 (fun hlen => ?_) | refine zN2 (fun hlen => ?_))
      first | refine zR ?_ | refine zQ ?_
      rw [idxAt_yes hk.2 ha hp]; rfl
  · have hk' : k = l.length := by have : ¬ k < l.length := by simpa using h
                                  omega
    subst hk'
    repeat (first | refine gG ?_ | refine zN1 (fun hlen => ?_) | refine zN2 (fun hlen => ?_))
    first | refine zR ?_ | refine zQ ?_
    rw [idxAt_end hk.2]; rfl
def Cloned (e : TypeId) (n sz : Nat) (ts : List T) (r : AV) (hs : List Blk) : Prop := ∃ v, r = .own 0 v ∧ hs = [.row v e sz n ts]
set_option maxRecDepth 100000 in
set_option maxHeartbeats 1000000 in
theorem cloneUs_ag (l : List Us) (hl : l.length ≤ 1048576) : AG Try.prog 69 [.c (Us.row l)] [] (Cloned 145 l.length 3 (l.flatMap Us.ts)) := by
  refine ag_enter 1 tok Try.func69 Try.ntmps69 Try.results69 rfl (by kernel_rfl) rfl fun F => ?_
  repeat (first | refine gG ?_ | refine zAp (fun _ => ?_))
  refine zNs (fun b hb => ?_)
  cases b
  · repeat (first | refine gX ?_ | refine zAp (fun _ => ?_))
    refine zBo (fun _ => ?_)
    repeat (first | refine gG ?_ | refine zAp (fun _ => ?_))
    refine zG ?_
    exact ⟨_, rfl, by simp only [List.nil_append, Nat.zero_add]⟩
  · have h0 := hb rfl
    have : l = [] := List.eq_nil_of_length_eq_zero h0
    subst this
    repeat (first | refine gO ?_ | refine ac_seq ?_ | refine ac_block ?_ | refine ac_region ?_ | refine ac_skip ?_ | refine zT ?_)
    refine x_own 2 145 3 rfl rfl rfl rfl rfl ?_
    repeat (first | refine gG ?_ | refine zAp (fun _ => ?_))
    refine zG ?_
    exact ⟨_, rfl, rfl⟩
set_option maxRecDepth 100000 in
theorem right1_af (p : Pk) (u : Us) : AF Try.prog 71 [.agg (Pk.ts p), .pin (Us.ts u) 0] (· = .lit (.bool (decide (p.name = u.name)))) := by
  obtain ⟨pn, pv⟩ := p
  obtain ⟨un, ul, uh⟩ := u
  refine af_enter tok Try.func71 Try.ntmps71 Try.results71 rfl (by kernel_rfl) rfl rfl fun F hX => ?_
  repeat (first | refine gG ?_ | refine zBx (fun _ => ?_))
  first | refine zR ?_ | refine zQ ?_
  rfl
set_option maxRecDepth 100000 in
set_option maxHeartbeats 1000000 in
theorem right2_af (m : Md) (u : Us) (ps : List Pk) (k : Nat) (q : Pk) (hq : ps[k]? = some q) : AF Try.prog 73 [.agg (Md.ts m), .pin (Us.ts u) 0, .pin [Pk.row ps] 0, .pin [.lit (.int .i64 (k : Nat))] 0] (· = .lit (.bool (hitB u.name q.version m))) := by
  obtain ⟨mn, mv, mu⟩ := m
  obtain ⟨un, ul, uh⟩ := u
  obtain ⟨qn, qv⟩ := q
  have hk : k < ps.length := (List.getElem?_eq_some_iff.1 hq).1
  have g1 : (ps.flatMap Pk.ts)[k * 2 + 1]? = some (.lit (.int .i64 qv)) := flat_get Pk.ts 2 Pk.ts_len hq (j := 1) (by omega)
  refine af_enter tok Try.func73 Try.ntmps73 Try.results73 rfl (by kernel_rfl) rfl rfl fun F hX => ?_
  repeat (first | refine gG ?_ | refine zBx (fun _ => ?_))
  cases d1 : decide (mn = un)
  · skip
    refine ac_draw [1, 1, 1, 1, 1, 1, 1, 1, 1, 1, 1, 1, 1, 1, 1, 1] [0, 1, 2, 3, 4, 5, 6, 7, 8, 9, 10, 11, 12, 13, 14, 15] (by kernel_rfl) (by kernel_rfl) ?_
    refine gW ?_
    refine w_nil ?_
    repeat (first | refine gG ?_ | refine zBx (fun _ => ?_))
    first | refine zR ?_ | refine zQ ?_
    simp [hitB, d1, outT]
  · skip
    refine ac_draw [1, 1, 1, 1, 1, 1, 1, 1, 1, 1, 1, 1, 1, 1, 1, 1] [0, 1, 2, 3, 4, 5, 6, 7, 8, 9, 10, 11, 12, 13, 14, 15] (by kernel_rfl) (by kernel_rfl) ?_
    refine gW ?_
    try (first | (apply w_un; (focus exact rfl); (focus exact rfl); (focus exact rfl); (focus exact rfl)) | (apply w_no; (focus exact rfl); (focus exact rfl); (focus exact rfl); (focus exact rfl); focus (first | rfl | assumption | exact neg_t (by assumption) | exact neg_f (by assumption))) | (apply w_qg; (focus exact rfl); (focus exact rfl); (focus exact rfl); (focus exact rfl); (focus (first | rfl | assumption | exact neg_t (by assumption) | exact neg_f (by assumption))); (focus (intro _; (refine zIx k hk ?_); exact det_refl))))
    try refine gW ?_
    try (first | (apply w_un; (focus exact rfl); (focus exact rfl); (focus exact rfl); (focus exact rfl)) | (apply w_no; (focus exact rfl); (focus exact rfl); (focus exact rfl); (focus exact rfl); focus (first | rfl | assumption | exact neg_t (by assumption) | exact neg_f (by assumption))) | (apply w_qg; (focus exact rfl); (focus exact rfl); (focus exact rfl); (focus exact rfl); (focus (first | rfl | assumption | exact neg_t (by assumption) | exact neg_f (by assumption))); (focus (intro _; (refine zEl1 g1 ?_); exact det_refl))))
    try refine gW ?_
    refine w_nil ?_
    repeat (first | refine gG ?_ | refine zBx (fun _ => ?_))
    first | refine zR ?_ | refine zQ ?_
    simp [hitB, d1, outT]
set_option maxRecDepth 100000 in
set_option maxHeartbeats 8000000 in
theorem right_af (l : List Md) (root : List Us) (ps : List Pk) (hl : Md.sizes l ≤ 1048576) (hr : Us.sizes root ≤ 1048576) (hp : Pk.sizes ps ≤ 1048576) :
    AF Try.prog 9 [Md.row l, Us.row root, Pk.row ps] (fun t => ∃ b, t = .lit (.bool b) ∧ RightIs l root ps b) := by
  have hC := check_af l hl
  have hW := wants_af root hr
  have hK := cloneUs_ag root (by have := Us.len_sizes root; omega)
  have hlp := Pk.len_sizes ps
  refine af_enter tok Try.func9 Try.ntmps9 Try.results9 rfl (by kernel_rfl) rfl rfl fun F hX => ?_
  cases d1 : decide (checkE l = 0)
  · repeat (first | refine gG ?_ | refine zN1 (fun hlen => ?_) | refine zN2 (fun hlen => ?_) | refine zAl (fun _ => ?_) | refine zBf ?_ | refine zAp (fun _ => ?_))
    refine zCall (hC) ?_
    rintro _ rfl
    repeat (first | refine gG ?_ | refine zN1 (fun hlen => ?_) | refine zN2 (fun hlen => ?_) | refine zAl (fun _ => ?_) | refine zBf ?_ | refine zAp (fun _ => ?_))
    first | refine zR ?_ | refine zQ ?_
    exact ⟨false, rfl, .inl ⟨.inl (of_decide_eq_false d1), rfl⟩⟩
  repeat (first | refine gG ?_ | refine zN1 (fun hlen => ?_) | refine zN2 (fun hlen => ?_) | refine zAl (fun _ => ?_) | refine zBf ?_ | refine zAp (fun _ => ?_))
  refine zCall (hC) ?_
  rintro _ rfl
  repeat (first | refine gG ?_ | refine zN1 (fun hlen => ?_) | refine zN2 (fun hlen => ?_) | refine zAl (fun _ => ?_) | refine zBf ?_ | refine zAp (fun _ => ?_))
  refine zCall (hW) ?_
  rintro _ rfl
  cases d2 : decide (wantsE root = 0)
  · repeat (first | refine gG ?_ | refine zN1 (fun hlen => ?_) | refine zN2 (fun hlen => ?_) | refine zAl (fun _ => ?_) | refine zBf ?_ | refine zAp (fun _ => ?_))
    first | refine zR ?_ | refine zQ ?_
    exact ⟨false, rfl, .inl ⟨.inr (.inl (of_decide_eq_false d2)), rfl⟩⟩
  have hl0 := of_decide_eq_true d1
  have hw0 := of_decide_eq_true d2
  have hset : ∀ r, Runs l ps root [] r → ascP none ps = true → RightIs l root ps (runOut ps r) := fun r h1 h2 => rightIs_of hl0 hw0 h2 h1
  have hord : ascP none ps = false → RightIs l root ps false := fun h => .inl ⟨.inr (.inr (by
    cases ps with
    | nil => cases h
    | cons p ps => rw [asc_head, h, Bool.and_false])), rfl⟩
  repeat (first | refine gG ?_ | refine zN1 (fun hlen => ?_) | refine zN2 (fun hlen => ?_) | refine zAl (fun _ => ?_) | refine zBf ?_ | refine zAp (fun _ => ?_))
  clear d1 d2 hC hW
  refine x_loop [6, 7, 21, 22, 23, 24, 25, 26, 27, 28, 29, 30, 31, 32, 33, 34, 35, 36, 37, 38] (fun k : Nat => [(7, .c (.lit (.int .i64 (k : Nat))))]) (fun _ => []) (fun k => 1 ≤ k ∧ k ≤ ps.length + 1 ∧ ascP none ps = ascP (prevAt ps k) (ps.drop k)) (fun k => ps.length + 1 - k) 1 ⟨by omega, by omega, by cases ps <;> rfl⟩ ⟨rfl, trivial⟩ rfl ?_
  rintro k ⟨hk1, hk2, ha⟩
  repeat (first | refine gG ?_ | refine zN1 (fun hlen => ?_) | refine zN2 (fun hlen => ?_) | refine zAl (fun _ => ?_) | refine zBf ?_ | refine zAp (fun _ => ?_))
  refine x_cond rfl (fun h => ?_) (fun h => ?_)
  · have hk' : k < ps.length := by simpa using h
    obtain ⟨j, rfl⟩ : ∃ j, k = j + 1 := ⟨k - 1, by omega⟩
    have hj : j < ps.length := by omega
    obtain ⟨p, hp1⟩ := nth hk'
    obtain ⟨q, hq1⟩ := nth hj
    have hs := ascP_step hp1 (prevAt_succ hq1)
    rw [← ha] at hs
    obtain ⟨pn, pv⟩ := p
    obtain ⟨qn, qv⟩ := q
    have g1 : (ps.flatMap Pk.ts)[(j + 1) * 2 + 0]? = some (.lit (.string pn)) := flat_get Pk.ts 2 Pk.ts_len hp1 (j := 0) (by omega)
    have g2 : (ps.flatMap Pk.ts)[j * 2 + 0]? = some (.lit (.string qn)) := flat_get Pk.ts 2 Pk.ts_len hq1 (j := 0) (by omega)
    have hle : leB pn qn = (strLt pn qn || decide (pn = qn)) := rfl
    dsimp only at hs
    clear h ha hp1 hq1
    generalize ascP none ps = asc at *
    cases d : (strLt pn qn || decide (pn = qn))
    · repeat (first | refine gG ?_ | refine zN1 (fun hlen => ?_) | refine zN2 (fun hlen => ?_) | refine zAl (fun _ => ?_) | refine zBf ?_ | refine zAp (fun _ => ?_))
      refine ac_draw [1, 1, 1, 1, 1, 1, 1, 1, 1, 1, 1, 1] [0, 1, 2, 3, 4, 5, 6, 7, 8, 9, 10, 11] (by kernel_rfl) (by kernel_rfl) ?_
      refine gW ?_
      apply w_q; (focus exact rfl); (focus exact rfl); focus (intro _; (refine zIx (j + 1) hk' ?_); exact det_refl)
      refine gW ?_
      apply w_q; (focus exact rfl); (focus exact rfl); focus (intro _; (refine zEl1 g1 ?_); exact det_refl)
      refine gW ?_
      apply w_q; (focus exact rfl); (focus exact rfl); focus (intro _; (refine lo_sub rfl rfl (r := ((j : Nat) : Int)) (by rw [IntWalk.i64_in _ (by omega)]; omega) ?_); exact det_refl)
      apply w_q; (focus exact rfl); (focus exact rfl); focus (intro _; (refine zIx j hj ?_); exact det_refl)
      refine gW ?_
      apply w_q; (focus exact rfl); (focus exact rfl); focus (intro _; (refine zEl1 g2 ?_); exact det_refl)
      refine gW ?_
      refine w_nil ?_
      repeat (first | refine gG ?_ | refine zN1 (fun hlen => ?_) | refine zN2 (fun hlen => ?_) | refine zAl (fun _ => ?_) | refine zBf ?_ | refine zAp (fun _ => ?_))
      exact ⟨j + 1 + 1, ⟨by omega, by omega, by rw [hs, hle, d]; rfl⟩, by omega, x_wkd 0 ⟨rfl, trivial⟩ rfl (by repeat (first | exact ag_refl | refine ag_upd rfl ?_ | refine ag_at rfl rfl ?_))⟩
    · repeat (first | refine gG ?_ | refine zN1 (fun hlen => ?_) | refine zN2 (fun hlen => ?_) | refine zAl (fun _ => ?_) | refine zBf ?_ | refine zAp (fun _ => ?_))
      refine ac_draw [1, 1, 1, 1, 1, 1, 1, 1, 1, 1, 1, 1] [0, 1, 2, 3, 4, 5, 6, 7, 8, 9, 10, 11] (by kernel_rfl) (by kernel_rfl) ?_
      refine gW ?_
      apply w_q; (focus exact rfl); (focus exact rfl); focus (intro _; (refine zIx (j + 1) hk' ?_); exact det_refl)
      refine gW ?_
      apply w_q; (focus exact rfl); (focus exact rfl); focus (intro _; (refine zEl1 g1 ?_); exact det_refl)
      refine gW ?_
      apply w_q; (focus exact rfl); (focus exact rfl); focus (intro _; (refine lo_sub rfl rfl (r := ((j : Nat) : Int)) (by rw [IntWalk.i64_in _ (by omega)]; omega) ?_); exact det_refl)
      apply w_q; (focus exact rfl); (focus exact rfl); focus (intro _; (refine zIx j hj ?_); exact det_refl)
      refine gW ?_
      apply w_q; (focus exact rfl); (focus exact rfl); focus (intro _; (refine zEl1 g2 ?_); exact det_refl)
      refine gW ?_
      refine w_nil ?_
      repeat (first | refine gG ?_ | refine zN1 (fun hlen => ?_) | refine zN2 (fun hlen => ?_) | refine zAl (fun _ => ?_) | refine zBf ?_ | refine zAp (fun _ => ?_))
      first | refine zR ?_ | refine zQ ?_
      exact ⟨false, rfl, hord (by rw [hs, hle, d]; rfl)⟩
  · have ha1 : ascP none ps = true := by
      have : ¬ k < ps.length := by simpa using h
      rw [ha, List.drop_of_length_le (by omega)]
      cases prevAt ps k <;> rfl
    have hset := fun r h => hset r h ha1
    obtain ⟨hl30, hlm, hlp⟩ := checkE_ok hl0
    obtain ⟨hr5, hru⟩ := wantsE_ok hw0
    clear h ha ha1 hk1 hk2 hord
    repeat (first | refine gG ?_ | refine zN1 (fun hlen => ?_) | refine zN2 (fun hlen => ?_) | refine zAl (fun _ => ?_) | refine zBf ?_ | refine zAp (fun _ => ?_))
    refine zMm (fun b => ?_)
    repeat (first | refine gG ?_ | refine zN1 (fun hlen => ?_) | refine zN2 (fun hlen => ?_) | refine zAl (fun _ => ?_) | refine zBf ?_ | refine zAp (fun _ => ?_))
    refine zCallG [] hK ?_
    rintro _ _ ⟨v0, rfl, rfl⟩
    refine ⟨.own 1 v0, _, re_own, rfl, rfl, ?_⟩
    repeat (first | refine gG ?_ | refine zN1 (fun hlen => ?_) | refine zN2 (fun hlen => ?_) | refine zAl (fun _ => ?_) | refine zBf ?_ | refine zAp (fun _ => ?_))
    refine x_loop [6, 9, 10, 11, 12, 42, 43, 44, 45, 46, 47, 48, 49, 50, 51, 52, 53, 54, 55, 56, 57, 58, 59, 60, 61, 62, 63, 64, 65, 66, 67, 68, 69, 70, 71, 72, 73, 74, 75, 76, 77, 78, 79, 80, 81, 82, 83, 84, 85, 86, 87, 88, 89, 90, 91, 92, 93, 94] (fun y : List Us × List ByteArray × Value => [(9, .own 1 y.2.2)]) (fun y => [.mp b (mkeys Value.string (mets y.2.1)), .row y.2.2 145 3 y.1.length (y.1.flatMap Us.ts)])
      (fun y => (∀ u ∈ y.1, useE u = 0) ∧ (∀ r, Runs l ps y.1 y.2.1 r → Runs l ps root [] r) ∧ y.1.length + 6 * left l y.2.1 ≤ 185) (fun y => y.1.length + 6 * left l y.2.1) (root, [], v0) ⟨hru, fun r h => h, by have := left_le l []; simp only; omega⟩ ⟨rfl, trivial⟩ rfl ?_
    rintro ⟨q, R, v⟩ ⟨hq, hrun, hbd⟩
    dsimp only at hq hrun hbd ⊢
    repeat (first | refine gG ?_ | refine zN1 (fun hlen => ?_) | refine zN2 (fun hlen => ?_) | refine zAl (fun _ => ?_) | refine zBf ?_ | refine zAp (fun _ => ?_))
    refine x_cond rfl (fun h => ?_) (fun h => ?_)
    · cases q with
      | nil => cases h
      | cons u q =>
        clear h
        have hu0 := hq u (by simp)
        have hq' : ∀ x ∈ q, useE x = 0 := fun x hx => hq x (List.mem_cons_of_mem _ hx)
        have hlow := useE_low hu0
        have hel : (((u :: q).flatMap Us.ts).drop (0 * 3)).take 3 = u.ts := flat_at Us.ts 3 Us.ts_len (k := 0) rfl
        have hdrop : ((u :: q).flatMap Us.ts).drop (1 * 3) = q.flatMap Us.ts := by
          rw [List.flatMap_cons, List.drop_append_of_le_length (by rw [Us.ts_len]; exact Nat.le_refl _), List.drop_of_length_le (by rw [Us.ts_len]; exact Nat.le_refl _), List.nil_append]
        have hbad : okU l ps u = none → ∃ c, T.lit (.bool false) = .lit (.bool c) ∧ RightIs l root ps c := fun h => ⟨false, rfl, hset none (hrun none (.bad h))⟩
        have hold : ∀ us, okU l ps u = some us → u.name ∈ R → ∀ r, Runs l ps q R r → Runs l ps root [] r := fun us h1 h2 r h3 => hrun r (.old h1 h2 h3)
        have hnew : ∀ us, okU l ps u = some us → u.name ∉ R → ∀ r, Runs l ps (q ++ us) (R ++ [u.name]) r → Runs l ps root [] r := fun us h1 h2 r h3 => hrun r (.new h1 h2 h3)
        have hf1 := idxPk_af (fun p => decide (p.name = u.name)) 71 [.pin (Us.ts u) 0] ps (fun p _ => right1_af p u)
        have hf2 := fun (k : Nat) (p : Pk) (hk : ps[k]? = some p) => idxMd_af (hitB u.name p.version) 73 [.pin (Us.ts u) 0, .pin [Pk.row ps] 0, .pin [.lit (.int .i64 (k : Nat))] 0] l (fun m _ => right2_af m u ps k p hk)
        have hi1 := idxI_find (fun p : Pk => decide (p.name = u.name)) ps
        have hok : okU l ps u = match (ps.find? fun p => decide (p.name = u.name)).map Pk.version with | none => none | some v => if v < u.low ∨ u.high < v then none else (l.find? (hitB u.name v)).map Md.uses := rfl
        clear hq hrun hset
        repeat (first | refine gG ?_ | refine zN1 (fun hlen => ?_) | refine zN2 (fun hlen => ?_) | refine zAl (fun _ => ?_) | refine zBf ?_ | refine zAp (fun _ => ?_))
        refine zIxo 0 (show 0 < (u :: q).length by simp) ?_
        repeat (first | refine gG ?_ | refine zN1 (fun hlen => ?_) | refine zN2 (fun hlen => ?_) | refine zAl (fun _ => ?_) | refine zBf ?_ | refine zAp (fun _ => ?_))
        refine zElo hel (Us.ts_len u) ?_
        obtain ⟨un, ul, uh⟩ := u
        dsimp only at hlow hold hnew hf1 hf2 hi1 hok
        generalize okU l ps ⟨un, ul, uh⟩ = ok at *
        repeat (first | refine gG ?_ | refine zN1 (fun hlen => ?_) | refine zN2 (fun hlen => ?_) | refine zAl (fun _ => ?_) | refine zBf ?_ | refine zAp (fun _ => ?_))
        refine zPeek (hf1) ?_
        rintro _ rfl
        refine ⟨rfl, ?_⟩
        rcases hi1 with ⟨hi1, hf⟩ | ⟨k, p, hi1, hk, hkp, hf⟩
        · rw [hi1]
          rw [hf] at hok
          have d1 : decide ((-1 : Int) < 0) = true := rfl
          repeat (first | refine gG ?_ | refine zN1 (fun hlen => ?_) | refine zN2 (fun hlen => ?_) | refine zAl (fun _ => ?_) | refine zBf ?_ | refine zAp (fun _ => ?_))
          refine ac_draw [1, 1, 1, 1, 1, 1, 1, 1, 1, 1, 1, 1, 1, 1, 1, 1, 1, 1, 1, 1, 1, 1] [0, 1, 2, 3, 4, 5, 6, 7, 8, 9, 10, 11, 12, 13, 14, 15, 16, 17, 18, 19, 20, 21] (by kernel_rfl) (by kernel_rfl) ?_
          refine gW ?_
          refine w_nil ?_
          repeat (first | refine gG ?_ | refine zN1 (fun hlen => ?_) | refine zN2 (fun hlen => ?_) | refine zAl (fun _ => ?_) | refine zBf ?_ | refine zAp (fun _ => ?_))
          first | refine zR ?_ | refine zQ ?_
          exact hbad hok
        · rw [hi1]
          rw [hf] at hok
          have hf2 := hf2 k p hkp
          have d1 : decide ((k : Int) < 0) = false := by simp
          obtain ⟨pn, pv⟩ := p
          have g1 : (ps.flatMap Pk.ts)[k * 2 + 1]? = some (.lit (.int .i64 pv)) := flat_get Pk.ts 2 Pk.ts_len hkp (j := 1) (by omega)
          have hok : ok = if pv < ul ∨ uh < pv then none else (l.find? (hitB un pv)).map Md.uses := hok
          have hi2 := idxI_find (hitB un pv) l
          dsimp only at hf2
          clear hf hi1 hf1 hkp
          cases d2 : decide (pv < ul)
          rotate_left
          · repeat (first | refine gG ?_ | refine zN1 (fun hlen => ?_) | refine zN2 (fun hlen => ?_) | refine zAl (fun _ => ?_) | refine zBf ?_ | refine zAp (fun _ => ?_))
            refine ac_draw [1, 1, 1, 1, 1, 1, 1, 1, 1, 1, 1, 1, 1, 1, 1, 1, 1, 1, 1, 1, 1, 1] [0, 1, 2, 3, 4, 5, 6, 7, 8, 9, 10, 11, 12, 13, 14, 15, 16, 17, 18, 19, 20, 21] (by kernel_rfl) (by kernel_rfl) ?_
            refine gW ?_
            try (first | (apply w_un; (focus exact rfl); (focus exact rfl); (focus exact rfl); (focus exact rfl)) | (apply w_no; (focus exact rfl); (focus exact rfl); (focus exact rfl); (focus exact rfl); focus (first | rfl | assumption | exact neg_t (by assumption) | exact neg_f (by assumption))) | (apply w_qg; (focus exact rfl); (focus exact rfl); (focus exact rfl); (focus exact rfl); (focus (first | rfl | assumption | exact neg_t (by assumption) | exact neg_f (by assumption))); (focus (intro _; (refine zIx k hk ?_); exact det_refl))))
            try refine gW ?_
            try (first | (apply w_un; (focus exact rfl); (focus exact rfl); (focus exact rfl); (focus exact rfl)) | (apply w_no; (focus exact rfl); (focus exact rfl); (focus exact rfl); (focus exact rfl); focus (first | rfl | assumption | exact neg_t (by assumption) | exact neg_f (by assumption))) | (apply w_qg; (focus exact rfl); (focus exact rfl); (focus exact rfl); (focus exact rfl); (focus (first | rfl | assumption | exact neg_t (by assumption) | exact neg_f (by assumption))); (focus (intro _; (refine zEl1 g1 ?_); exact det_refl))))
            try refine gW ?_
            refine w_nil ?_
            repeat (first | refine gG ?_ | refine zN1 (fun hlen => ?_) | refine zN2 (fun hlen => ?_) | refine zAl (fun _ => ?_) | refine zBf ?_ | refine zAp (fun _ => ?_))
            first | refine zR ?_ | refine zQ ?_
            exact hbad (by rw [hok, if_pos (.inl (of_decide_eq_true d2))])
          cases d3 : decide (uh < pv)
          rotate_left
          · repeat (first | refine gG ?_ | refine zN1 (fun hlen => ?_) | refine zN2 (fun hlen => ?_) | refine zAl (fun _ => ?_) | refine zBf ?_ | refine zAp (fun _ => ?_))
            refine ac_draw [1, 1, 1, 1, 1, 1, 1, 1, 1, 1, 1, 1, 1, 1, 1, 1, 1, 1, 1, 1, 1, 1] [0, 1, 2, 3, 4, 5, 6, 7, 8, 9, 10, 11, 12, 13, 14, 15, 16, 17, 18, 19, 20, 21] (by kernel_rfl) (by kernel_rfl) ?_
            refine gW ?_
            try (first | (apply w_un; (focus exact rfl); (focus exact rfl); (focus exact rfl); (focus exact rfl)) | (apply w_no; (focus exact rfl); (focus exact rfl); (focus exact rfl); (focus exact rfl); focus (first | rfl | assumption | exact neg_t (by assumption) | exact neg_f (by assumption))) | (apply w_qg; (focus exact rfl); (focus exact rfl); (focus exact rfl); (focus exact rfl); (focus (first | rfl | assumption | exact neg_t (by assumption) | exact neg_f (by assumption))); (focus (intro _; (refine zIx k hk ?_); exact det_refl))))
            try refine gW ?_
            try (first | (apply w_un; (focus exact rfl); (focus exact rfl); (focus exact rfl); (focus exact rfl)) | (apply w_no; (focus exact rfl); (focus exact rfl); (focus exact rfl); (focus exact rfl); focus (first | rfl | assumption | exact neg_t (by assumption) | exact neg_f (by assumption))) | (apply w_qg; (focus exact rfl); (focus exact rfl); (focus exact rfl); (focus exact rfl); (focus (first | rfl | assumption | exact neg_t (by assumption) | exact neg_f (by assumption))); (focus (intro _; (refine zEl1 g1 ?_); exact det_refl))))
            try refine gW ?_
            try (first | (apply w_un; (focus exact rfl); (focus exact rfl); (focus exact rfl); (focus exact rfl)) | (apply w_no; (focus exact rfl); (focus exact rfl); (focus exact rfl); (focus exact rfl); focus (first | rfl | assumption | exact neg_t (by assumption) | exact neg_f (by assumption))) | (apply w_qg; (focus exact rfl); (focus exact rfl); (focus exact rfl); (focus exact rfl); (focus (first | rfl | assumption | exact neg_t (by assumption) | exact neg_f (by assumption))); (focus (intro _; (refine zIx k hk ?_); exact det_refl))))
            try refine gW ?_
            try (first | (apply w_un; (focus exact rfl); (focus exact rfl); (focus exact rfl); (focus exact rfl)) | (apply w_no; (focus exact rfl); (focus exact rfl); (focus exact rfl); (focus exact rfl); focus (first | rfl | assumption | exact neg_t (by assumption) | exact neg_f (by assumption))) | (apply w_qg; (focus exact rfl); (focus exact rfl); (focus exact rfl); (focus exact rfl); (focus (first | rfl | assumption | exact neg_t (by assumption) | exact neg_f (by assumption))); (focus (intro _; (refine zEl1 g1 ?_); exact det_refl))))
            try refine gW ?_
            refine w_nil ?_
            repeat (first | refine gG ?_ | refine zN1 (fun hlen => ?_) | refine zN2 (fun hlen => ?_) | refine zAl (fun _ => ?_) | refine zBf ?_ | refine zAp (fun _ => ?_))
            first | refine zR ?_ | refine zQ ?_
            exact hbad (by rw [hok, if_pos (.inr (of_decide_eq_true d3))])
          rw [if_neg (by have := of_decide_eq_false d2; have := of_decide_eq_false d3; omega)] at hok
          repeat (first | refine gG ?_ | refine zN1 (fun hlen => ?_) | refine zN2 (fun hlen => ?_) | refine zAl (fun _ => ?_) | refine zBf ?_ | refine zAp (fun _ => ?_))
          refine ac_draw [1, 1, 1, 1, 1, 1, 1, 1, 1, 1, 1, 1, 1, 1, 1, 1, 1, 1, 1, 1, 1, 1] [0, 1, 2, 3, 4, 5, 6, 7, 8, 9, 10, 11, 12, 13, 14, 15, 16, 17, 18, 19, 20, 21] (by kernel_rfl) (by kernel_rfl) ?_
          refine gW ?_
          try (first | (apply w_un; (focus exact rfl); (focus exact rfl); (focus exact rfl); (focus exact rfl)) | (apply w_no; (focus exact rfl); (focus exact rfl); (focus exact rfl); (focus exact rfl); focus (first | rfl | assumption | exact neg_t (by assumption) | exact neg_f (by assumption))) | (apply w_qg; (focus exact rfl); (focus exact rfl); (focus exact rfl); (focus exact rfl); (focus (first | rfl | assumption | exact neg_t (by assumption) | exact neg_f (by assumption))); (focus (intro _; (refine zIx k hk ?_); exact det_refl))))
          try refine gW ?_
          try (first | (apply w_un; (focus exact rfl); (focus exact rfl); (focus exact rfl); (focus exact rfl)) | (apply w_no; (focus exact rfl); (focus exact rfl); (focus exact rfl); (focus exact rfl); focus (first | rfl | assumption | exact neg_t (by assumption) | exact neg_f (by assumption))) | (apply w_qg; (focus exact rfl); (focus exact rfl); (focus exact rfl); (focus exact rfl); (focus (first | rfl | assumption | exact neg_t (by assumption) | exact neg_f (by assumption))); (focus (intro _; (refine zEl1 g1 ?_); exact det_refl))))
          try refine gW ?_
          try (first | (apply w_un; (focus exact rfl); (focus exact rfl); (focus exact rfl); (focus exact rfl)) | (apply w_no; (focus exact rfl); (focus exact rfl); (focus exact rfl); (focus exact rfl); focus (first | rfl | assumption | exact neg_t (by assumption) | exact neg_f (by assumption))) | (apply w_qg; (focus exact rfl); (focus exact rfl); (focus exact rfl); (focus exact rfl); (focus (first | rfl | assumption | exact neg_t (by assumption) | exact neg_f (by assumption))); (focus (intro _; (refine zIx k hk ?_); exact det_refl))))
          try refine gW ?_
          try (first | (apply w_un; (focus exact rfl); (focus exact rfl); (focus exact rfl); (focus exact rfl)) | (apply w_no; (focus exact rfl); (focus exact rfl); (focus exact rfl); (focus exact rfl); focus (first | rfl | assumption | exact neg_t (by assumption) | exact neg_f (by assumption))) | (apply w_qg; (focus exact rfl); (focus exact rfl); (focus exact rfl); (focus exact rfl); (focus (first | rfl | assumption | exact neg_t (by assumption) | exact neg_f (by assumption))); (focus (intro _; (refine zEl1 g1 ?_); exact det_refl))))
          try refine gW ?_
          refine w_nil ?_
          repeat (first | refine gG ?_ | refine zN1 (fun hlen => ?_) | refine zN2 (fun hlen => ?_) | refine zAl (fun _ => ?_) | refine zBf ?_ | refine zAp (fun _ => ?_))
          clear d2 d3 d1 g1
          refine zPeek (hf2) ?_
          rintro _ rfl
          refine ⟨rfl, ?_⟩
          rcases hi2 with ⟨hi2, hf⟩ | ⟨k2, m, hi2, hk2, hkm, hf⟩
          · rw [hi2]
            rw [hf] at hok
            have d1 : decide ((-1 : Int) < 0) = true := rfl
            repeat (first | refine gG ?_ | refine zN1 (fun hlen => ?_) | refine zN2 (fun hlen => ?_) | refine zAl (fun _ => ?_) | refine zBf ?_ | refine zAp (fun _ => ?_))
            first | refine zR ?_ | refine zQ ?_
            exact hbad hok
          · rw [hi2]
            rw [hf] at hok
            have hok : ok = some m.uses := hok
            have d1 : decide ((k2 : Int) < 0) = false := by simp
            have hmm := List.mem_of_getElem? hkm
            have hmn : m.name = un := by
              have := List.find?_some hf
              simp [hitB] at this
              exact this.1
            have hmu := wantsE_ok (modE_ok (hlm m hmm)).2
            have hlt := fun h => left_new (R := R) hmm hmn h
            obtain ⟨mn, mv, mu⟩ := m
            dsimp only at hmn hmu hok hlt
            have g2 : (l.flatMap Md.ts)[k2 * 3 + 2]? = some (Us.row mu) := flat_get Md.ts 3 Md.ts_len hkm (j := 2) (by omega)
            have hold := hold _ hok
            have hnew := hnew _ hok
            clear hok hbad hkm hf hi2 hf2 hmm hmn
            by_cases hin : un ∈ R
            · have hlk : (mget un (mets R)).getD (.lit (.bool false)) = .lit (.bool true) := by rw [mets_in hin]; rfl
              repeat (first | refine gG ?_ | refine zN1 (fun hlen => ?_) | refine zN2 (fun hlen => ?_) | refine zAl (fun _ => ?_) | refine zBf ?_ | refine zAp (fun _ => ?_))
              refine zLks 9 4 hlk ?_
              repeat (first | refine gG ?_ | refine zN1 (fun hlen => ?_) | refine zN2 (fun hlen => ?_) | refine zAl (fun _ => ?_) | refine zBf ?_ | refine zAp (fun _ => ?_))
              refine zQl (n := ((⟨un, ul, uh⟩ : Us) :: q).length) 1 (by simp only [List.length_cons]; omega) (fun v' => ?_)
              repeat (first | refine gG ?_ | refine zN1 (fun hlen => ?_) | refine zN2 (fun hlen => ?_) | refine zAl (fun _ => ?_) | refine zBf ?_ | refine zAp (fun _ => ?_))
              exact ⟨(q, R, v'), ⟨hq', hold hin, by simp only [List.length_cons] at hbd; simp only; omega⟩, by simp only [List.length_cons]; omega, x_wkd 2 ⟨rfl, trivial⟩ (by rw [← hdrop]; rfl) (by repeat (first | exact ag_refl | refine ag_upd rfl ?_ | refine ag_at rfl rfl ?_))⟩
            · have hlk : (mget un (mets R)).getD (.lit (.bool false)) = .lit (.bool false) := by rw [mets_out hin]; rfl
              have hpt := mets_put hin
              have hlt := hlt hin
              repeat (first | refine gG ?_ | refine zN1 (fun hlen => ?_) | refine zN2 (fun hlen => ?_) | refine zAl (fun _ => ?_) | refine zBf ?_ | refine zAp (fun _ => ?_))
              refine zLks 9 4 hlk ?_
              repeat (first | refine gG ?_ | refine zN1 (fun hlen => ?_) | refine zN2 (fun hlen => ?_) | refine zAl (fun _ => ?_) | refine zBf ?_ | refine zAp (fun _ => ?_))
              refine zUps 9 4 ?_
              repeat (first | refine gG ?_ | refine zN1 (fun hlen => ?_) | refine zN2 (fun hlen => ?_) | refine zAl (fun _ => ?_) | refine zBf ?_ | refine zAp (fun _ => ?_))
              refine zIx k2 hk2 ?_
              repeat (first | refine gG ?_ | refine zN1 (fun hlen => ?_) | refine zN2 (fun hlen => ?_) | refine zAl (fun _ => ?_) | refine zBf ?_ | refine zAp (fun _ => ?_))
              refine zEl1 g2 ?_
              repeat (first | refine gG ?_ | refine zN1 (fun hlen => ?_) | refine zN2 (fun hlen => ?_) | refine zAl (fun _ => ?_) | refine zBf ?_ | refine zAp (fun _ => ?_))
              refine zQl (n := ((⟨un, ul, uh⟩ : Us) :: q).length + mu.length) 1 (by simp only [List.length_cons]; omega) (fun v' => ?_)
              repeat (first | refine gG ?_ | refine zN1 (fun hlen => ?_) | refine zN2 (fun hlen => ?_) | refine zAl (fun _ => ?_) | refine zBf ?_ | refine zAp (fun _ => ?_))
              have hd2 : (((⟨un, ul, uh⟩ : Us) :: q).flatMap Us.ts ++ mu.flatMap Us.ts).drop (1 * 3) = (q ++ mu).flatMap Us.ts := by
                rw [← List.flatMap_append, List.cons_append, List.flatMap_cons, List.drop_append_of_le_length (by rw [Us.ts_len]; exact Nat.le_refl _), List.drop_of_length_le (by rw [Us.ts_len]; exact Nat.le_refl _), List.nil_append]
              have hl2 : (((⟨un, ul, uh⟩ : Us) :: q).length + mu.length) - 1 = (q ++ mu).length := by simp only [List.length_cons, List.length_append]; omega
              exact ⟨(q ++ mu, R ++ [un], v'), ⟨fun x hx => (List.mem_append.1 hx).elim (hq' x) (hmu.2 x), hnew hin, by simp only [List.length_cons, List.length_append] at hbd ⊢; omega⟩, by simp only [List.length_cons, List.length_append]; omega, x_wkd 2 ⟨rfl, trivial⟩ (by rw [← hpt, ← hd2, ← hl2]; rfl) (by repeat (first | exact ag_refl | refine ag_upd rfl ?_ | refine ag_at rfl rfl ?_))⟩
    · have hq0 : q = [] := by
        cases q with
        | nil => rfl
        | cons u q => simp at h
      subst hq0
      have hb : decide (((mets R).length : Int) = (ps.length : Int)) = runOut ps (some R) := by simp only [runOut, mets_len]; exact decide_eq_decide.2 (by omega)
      have := hset _ (hrun _ (.done R))
      repeat (first | refine gG ?_ | refine zN1 (fun hlen => ?_) | refine zN2 (fun hlen => ?_) | refine zAl (fun _ => ?_) | refine zBf ?_ | refine zAp (fun _ => ?_))
      refine zMl (kT := 9) (eT := 4) (l := mets R) (κ := Value.string) ?_
      repeat (first | refine gG ?_ | refine zN1 (fun hlen => ?_) | refine zN2 (fun hlen => ?_) | refine zAl (fun _ => ?_) | refine zBf ?_ | refine zAp (fun _ => ?_))
      first | refine zR ?_ | refine zQ ?_
      exact ⟨_, rfl, by rw [hb]; exact this⟩
end Go.Proofs.Ytllgibfmddihgaa
namespace Go.Proofs.Ytllgibfmddihgaa
open Go.RowKit
/-- what told hands back: the names met, or that it does not do -/
def Told (l : List Md) (root : List Us) (ps : List Pk) (b0 : Nat) (m : List (Value × T)) (r : AV) (hs : List Blk) : Prop :=
  (Runs l ps root [] none ∧ r = .tup [.c (.lit (.map none)), .c (.lit (.bool false))] ∧ ∃ x, hs = [.mp b0 m, x]) ∨
  ∃ R b, Runs l ps root [] (some R) ∧ r = .tup [.own 1 (.map (some b)), .c (.lit (.bool true))] ∧ hs = [.mp b0 m, .mp b (mkeys Value.string (mets R))]
theorem takes {α : Type} {l : List α} {k : Nat} {a : α} (h : l[k]? = some a) (p : α → Bool) : (l.take (k + 1)).filter p = (l.take k).filter p ++ if p a then [a] else [] := by
  obtain ⟨h1, rfl⟩ := List.getElem?_eq_some_iff.1 h
  rw [List.take_succ_eq_append_getElem h1, List.filter_append]
  cases hp : p l[k] <;> simp [hp]
def hitUses (l : List Md) (nm : ByteArray) (v : Int) : List Us := (l.filter (hitB nm v)).flatMap Md.uses
theorem hitUses_one {l : List Md} {nm : ByteArray} {v : Int} (h : l.Pairwise (fun a b => mordB a b = true)) : hitUses l nm v = (usOf l nm v).getD [] ∧ (!(l.filter (hitB nm v)).isEmpty) = (usOf l nm v).isSome := by
  unfold hitUses usOf
  rw [hit_one h]
  cases l.find? (hitB nm v) <;> simp
theorem hitUses_take {l : List Md} {k : Nat} {m : Md} (h : l[k]? = some m) (nm : ByteArray) (v : Int) : hitUses (l.take (k + 1)) nm v = hitUses (l.take k) nm v ++ if hitB nm v m then m.uses else [] := by
  unfold hitUses
  rw [takes h, List.flatMap_append]
  cases hitB nm v m <;> simp
theorem okU_get {l : List Md} {ps : List Pk} {u : Us} (h : 1 ≤ u.low) : okU l ps u = if (pv ps u.name).getD 0 < u.low ∨ u.high < (pv ps u.name).getD 0 then none else usOf l u.name ((pv ps u.name).getD 0) := by
  unfold okU
  cases pv ps u.name with
  | none =>
    simp only [Option.getD_none]
    rw [if_pos (.inl (by omega))]
  | some v => rfl
set_option maxRecDepth 100000 in
set_option maxHeartbeats 8000000 in
theorem told_ag (l : List Md) (root : List Us) (ps : List Pk) (hl0 : checkE l = 0) (hw0 : wantsE root = 0) (hps : ps.Pairwise (fun a b => strLt a.name b.name = true)) (b0 : Nat) :
    AG Try.prog 76 [.c (Md.row l), .c (Us.row root), .own 0 (.map (some b0))] [.mp b0 (mkeys Value.string (byNm ps))] (Told l root ps b0 (mkeys Value.string (byNm ps))) := by
  obtain ⟨hl30, hlm, hlp⟩ := checkE_ok hl0
  obtain ⟨hr5, hru⟩ := wantsE_ok hw0
  have hgt := fun nm => byNm_at hps nm
  have hone := fun nm v => hitUses_one (nm := nm) (v := v) hlp
  clear hps hl0 hw0
  generalize byNm ps = bn at *
  refine ag_enter 2 tok Try.func76 Try.ntmps76 Try.results76 rfl (by kernel_rfl) rfl fun F => ?_
  repeat (first | refine gX ?_ | refine zN1 (fun hlen => ?_) | refine zN2 (fun hlen => ?_) | refine zAl (fun _ => ?_) | refine zAp (fun _ => ?_))
  refine zMm (fun b => ?_)
  repeat (first | refine gX ?_ | refine zN1 (fun hlen => ?_) | refine zN2 (fun hlen => ?_) | refine zAl (fun _ => ?_) | refine zAp (fun _ => ?_))
  refine zBo (fun _ => ?_)
  repeat (first | refine gG ?_ | refine zN1 (fun hlen => ?_) | refine zN2 (fun hlen => ?_) | refine zAl (fun _ => ?_) | refine zAp (fun _ => ?_))
  rename_i v00 v0
  refine x_loop [6, 7, 9, 10, 11, 12, 13, 15, 20, 21, 22, 23, 24, 25, 26, 27, 28, 29, 30, 31, 32, 33, 34, 35, 36, 37, 38, 39, 40, 41, 42, 43, 44, 45, 46, 47, 48, 49, 50, 51, 52, 53, 54, 55, 56, 57, 58, 59, 60, 61, 62, 63, 64, 65, 66, 67, 68, 69, 70, 71, 72, 73, 74] (fun y : Nat × List Us × List ByteArray × Value => [(9, .own 2 y.2.2.2), (10, .c (.lit (.int .i64 (y.1 : Nat))))]) (fun y => [.mp b0 (mkeys Value.string bn), .mp b (mkeys Value.string (mets y.2.2.1)), .row y.2.2.2 145 3 y.2.1.length (y.2.1.flatMap Us.ts)])
    (fun y => y.1 ≤ y.2.1.length ∧ (∀ u ∈ y.2.1, useE u = 0) ∧ (∀ r, Runs l ps (y.2.1.drop y.1) y.2.2.1 r → Runs l ps root [] r) ∧ (∀ nm ∈ y.2.2.1, ∃ us, usOf l nm ((pv ps nm).getD 0) = some us) ∧ y.2.1.length + 6 * left l y.2.2.1 ≤ 185) (fun y => y.2.1.length - y.1 + 6 * left l y.2.2.1) (0, root, [], v0) ⟨Nat.zero_le _, hru, fun r h => h, fun _ h => by simp at h, by have := left_le l []; simp only; omega⟩ ⟨rfl, rfl, trivial⟩ (by simp; rfl) ?_
  rintro ⟨k, al, R, v⟩ ⟨hk, hal, hrun, hRk, hbd⟩
  dsimp only at hk hal hrun hRk hbd ⊢
  repeat (first | refine gG ?_ | refine zN1 (fun hlen => ?_) | refine zN2 (fun hlen => ?_) | refine zAl (fun _ => ?_) | refine zAp (fun _ => ?_))
  refine x_cond rfl (fun h => ?_) (fun h => ?_)
  · have hk' : k < al.length := by simpa using h
    obtain ⟨u, hu⟩ := nth hk'
    have hel : ((al.flatMap Us.ts).drop (k * 3)).take 3 = u.ts := flat_at Us.ts 3 Us.ts_len hu
    have hdr : al.drop k = u :: al.drop (k + 1) := by
      obtain ⟨h1, rfl⟩ := List.getElem?_eq_some_iff.1 hu
      exact List.drop_eq_getElem_cons h1
    have hlow := useE_low (hal u (List.mem_of_getElem? hu))
    have hok := okU_get (l := l) (ps := ps) hlow
    rw [hdr] at hrun
    have hbad : okU l ps u = none → Runs l ps root [] none := fun h => hrun none (.bad h)
    have hold : ∀ us, okU l ps u = some us → u.name ∈ R → ∀ r, Runs l ps (al.drop (k + 1)) R r → Runs l ps root [] r := fun us h1 h2 r h3 => hrun r (.old h1 h2 h3)
    have hnew : ∀ us, okU l ps u = some us → u.name ∉ R → ∀ r, Runs l ps (al.drop (k + 1) ++ us) (R ++ [u.name]) r → Runs l ps root [] r := fun us h1 h2 r h3 => hrun r (.new h1 h2 h3)
    have hlk1 := hgt u.name
    clear h hu hrun hdr
    repeat (first | refine gG ?_ | refine zN1 (fun hlen => ?_) | refine zN2 (fun hlen => ?_) | refine zAl (fun _ => ?_) | refine zAp (fun _ => ?_))
    refine zIxo k hk' ?_
    repeat (first | refine gG ?_ | refine zN1 (fun hlen => ?_) | refine zN2 (fun hlen => ?_) | refine zAl (fun _ => ?_) | refine zAp (fun _ => ?_))
    refine zElo hel (Us.ts_len u) ?_
    obtain ⟨un, ul, uh⟩ := u
    dsimp only at hlow hok hold hnew hlk1
    generalize okU l ps ⟨un, ul, uh⟩ = ok at *
    have hRn := hRk un
    generalize hpv0 : (pv ps un).getD 0 = pv0 at *
    repeat (first | refine gG ?_ | refine zN1 (fun hlen => ?_) | refine zN2 (fun hlen => ?_) | refine zAl (fun _ => ?_) | refine zAp (fun _ => ?_))
    rename_i bu
    refine zLks 9 3 hlk1 ?_
    repeat (first | refine gG ?_ | refine zN1 (fun hlen => ?_) | refine zN2 (fun hlen => ?_) | refine zAl (fun _ => ?_) | refine zAp (fun _ => ?_))
    cases d2 : decide (pv0 < ul)
    rotate_left
    · repeat (first | refine gG ?_ | refine zN1 (fun hlen => ?_) | refine zN2 (fun hlen => ?_) | refine zAl (fun _ => ?_) | refine zAp (fun _ => ?_))
      refine zG ?_
      exact .inl ⟨hbad (by rw [hok, if_pos (.inl (of_decide_eq_true d2))]), rfl, _, rfl⟩
    cases d3 : decide (uh < pv0)
    rotate_left
    · repeat (first | refine gG ?_ | refine zN1 (fun hlen => ?_) | refine zN2 (fun hlen => ?_) | refine zAl (fun _ => ?_) | refine zAp (fun _ => ?_))
      refine zG ?_
      exact .inl ⟨hbad (by rw [hok, if_pos (.inr (of_decide_eq_true d3))]), rfl, _, rfl⟩
    rw [if_neg (by have := of_decide_eq_false d2; have := of_decide_eq_false d3; omega)] at hok
    by_cases hin : un ∈ R
    · have hlk : (mget un (mets R)).getD (.lit (.bool false)) = .lit (.bool true) := by rw [mets_in hin]; rfl
      obtain ⟨us, hus⟩ := hRn hin
      repeat (first | refine gG ?_ | refine zN1 (fun hlen => ?_) | refine zN2 (fun hlen => ?_) | refine zAl (fun _ => ?_) | refine zAp (fun _ => ?_))
      refine zLks 9 4 hlk ?_
      repeat (first | refine gG ?_ | refine zN1 (fun hlen => ?_) | refine zN2 (fun hlen => ?_) | refine zAl (fun _ => ?_) | refine zAp (fun _ => ?_))
      exact ⟨(k + 1, al, R, v), ⟨hk', hal, hold us (hok.trans hus) hin, hRk, hbd⟩, by simp only; omega, x_wkd 3 ⟨rfl, rfl, trivial⟩ rfl (by repeat (first | exact ag_refl | refine ag_upd rfl ?_ | refine ag_at rfl rfl ?_))⟩
    · have hlk : (mget un (mets R)).getD (.lit (.bool false)) = .lit (.bool false) := by rw [mets_out hin]; rfl
      have hpt := mets_put hin
      have hone1 := hone un pv0
      repeat (first | refine gG ?_ | refine zN1 (fun hlen => ?_) | refine zN2 (fun hlen => ?_) | refine zAl (fun _ => ?_) | refine zAp (fun _ => ?_))
      clear d2 d3 hold hRn hone hgt
      refine zLks 9 4 hlk ?_
      repeat (first | refine gG ?_ | refine zN1 (fun hlen => ?_) | refine zN2 (fun hlen => ?_) | refine zAl (fun _ => ?_) | refine zAp (fun _ => ?_))
      refine zUps 9 4 ?_
      repeat (first | refine gG ?_ | refine zN1 (fun hlen => ?_) | refine zN2 (fun hlen => ?_) | refine zAl (fun _ => ?_) | refine zAp (fun _ => ?_))
      refine x_loop [9, 13, 15, 53, 54, 55, 56, 57, 58, 59, 60, 61, 62, 63, 64, 65, 66, 67, 68, 69, 70, 71, 72] (fun y : Nat × Value => [(53, .c (.lit (.int .i64 (y.1 : Nat)))), (13, .c (.lit (.bool (!((l.take y.1).filter (hitB un pv0)).isEmpty)))), (9, .own 2 y.2)]) (fun y => [.mp b0 (mkeys Value.string bn), .mp b (mkeys Value.string (mets (R ++ [un]))), .row y.2 145 3 (al.length + (hitUses (l.take y.1) un pv0).length) (al.flatMap Us.ts ++ (hitUses (l.take y.1) un pv0).flatMap Us.ts), .box bu 145 [.c (.lit (.string un)), .c (.lit (.int .i64 ul)), .c (.lit (.int .i64 uh))]])
        (fun y => y.1 ≤ l.length ∧ (hitUses (l.take y.1) un pv0).length ≤ 5 * y.1) (fun y => l.length - y.1) (0, v) ⟨Nat.zero_le _, by simp [hitUses]⟩ ⟨rfl, rfl, rfl, trivial⟩ (by rw [← hpt]; simp [hitUses]) ?_
      rintro ⟨j, v2⟩ ⟨hj, hju⟩
      dsimp only at hj hju ⊢
      repeat (first | refine gG ?_ | refine zN1 (fun hlen => ?_) | refine zN2 (fun hlen => ?_) | refine zAl (fun _ => ?_) | refine zAp (fun _ => ?_))
      refine x_cond rfl (fun h => ?_) (fun h => ?_)
      · have hj' : j < l.length := by simpa using h
        obtain ⟨m, hm⟩ := nth hj'
        have hmu := (wantsE_ok (modE_ok (hlm m (List.mem_of_getElem? hm))).2).1
        have hht := hitUses_take hm un pv0
        have hth : (!((l.take (j + 1)).filter (hitB un pv0)).isEmpty) = ((!((l.take j).filter (hitB un pv0)).isEmpty) || hitB un pv0 m) := by
          rw [takes hm]
          cases hitB un pv0 m <;> simp
        clear h
        repeat (first | refine gG ?_ | refine zN1 (fun hlen => ?_) | refine zN2 (fun hlen => ?_) | refine zAl (fun _ => ?_) | refine zAp (fun _ => ?_))
        refine zIx j hj' ?_
        repeat (first | refine gG ?_ | refine zN1 (fun hlen => ?_) | refine zN2 (fun hlen => ?_) | refine zAl (fun _ => ?_) | refine zAp (fun _ => ?_))
        refine zEl (Md.at hm) (Md.ts_len m) ?_
        obtain ⟨mn, mv, mu⟩ := m
        dsimp only at hmu hht hth
        have hB : hitB un pv0 ⟨mn, mv, mu⟩ = (decide (mn = un) && decide (mv = pv0)) := rfl
        rw [hB] at hht hth
        clear hB hm
        cases e1 : decide (mn = un)
        · repeat (first | refine gG ?_ | refine zN1 (fun hlen => ?_) | refine zN2 (fun hlen => ?_) | refine zAl (fun _ => ?_) | refine zAp (fun _ => ?_))
          rw [e1] at hht hth
          simp only [Bool.false_and, Bool.or_false, Bool.false_eq_true, if_false, List.append_nil] at hth hht
          exact ⟨(j + 1, v2), ⟨hj', by simp only [hht]; omega⟩, by simp only; omega, x_wkd 4 ⟨rfl, by rw [hth]; rfl, rfl, trivial⟩ (by simp only [hht]; rfl) (by repeat (first | exact ag_refl | refine ag_upd rfl ?_ | refine ag_at rfl rfl ?_))⟩
        cases e2 : decide (mv = pv0)
        · repeat (first | refine gG ?_ | refine zN1 (fun hlen => ?_) | refine zN2 (fun hlen => ?_) | refine zAl (fun _ => ?_) | refine zAp (fun _ => ?_))
          rw [e1, e2] at hht hth
          simp only [Bool.and_false, Bool.or_false, Bool.false_eq_true, if_false, List.append_nil] at hth hht
          exact ⟨(j + 1, v2), ⟨hj', by simp only [hht]; omega⟩, by simp only; omega, x_wkd 4 ⟨rfl, by rw [hth]; rfl, rfl, trivial⟩ (by simp only [hht]; rfl) (by repeat (first | exact ag_refl | refine ag_upd rfl ?_ | refine ag_at rfl rfl ?_))⟩
        · repeat (first | refine gG ?_ | refine zN1 (fun hlen => ?_) | refine zN2 (fun hlen => ?_) | refine zAl (fun _ => ?_) | refine zAp (fun _ => ?_))
          rw [e1, e2] at hht hth
          simp only [Bool.and_self, Bool.or_true, if_true] at hth hht
          have hl3 : al.length + (hitUses (l.take (j + 1)) un pv0).length = al.length + (hitUses (l.take j) un pv0).length + mu.length := by rw [hht, List.length_append]; omega
          have hl4 : al.flatMap Us.ts ++ (hitUses (l.take (j + 1)) un pv0).flatMap Us.ts = al.flatMap Us.ts ++ (hitUses (l.take j) un pv0).flatMap Us.ts ++ mu.flatMap Us.ts := by rw [hht, List.flatMap_append, List.append_assoc]
          exact ⟨(j + 1, _), ⟨hj', by simp only [hht, List.length_append]; omega⟩, by simp only; omega, x_wkd 4 ⟨rfl, by rw [hth]; rfl, rfl, trivial⟩ (by simp only [hl3, hl4]; rfl) (by repeat (first | exact ag_refl | refine ag_upd rfl ?_ | refine ag_at rfl rfl ?_))⟩
      · have hj' : j = l.length := by have : ¬ j < l.length := by simpa using h
                                      omega
        subst hj'
        simp only [List.take_length] at hju ⊢
        rw [hone1.1, hone1.2]
        cases hus : usOf l un pv0 with
        | none =>
          rw [hus] at hok
          repeat (first | refine gG ?_ | refine zN1 (fun hlen => ?_) | refine zN2 (fun hlen => ?_) | refine zAl (fun _ => ?_) | refine zAp (fun _ => ?_))
          refine zG ?_
          exact .inl ⟨hbad hok, rfl, _, rfl⟩
        | some us =>
          rw [hus] at hok
          obtain ⟨m, hm1, hm2, _, hm4⟩ := usOf_mem hus
          obtain ⟨h5, h6⟩ := wantsE_ok (modE_ok (hlm m hm1)).2
          rw [hm4] at h5 h6
          have hlt := left_new (R := R) hm1 hm2 hin
          have hd2 : (al ++ us).drop (k + 1) = al.drop (k + 1) ++ us := List.drop_append_of_le_length (by omega)
          repeat (first | refine gG ?_ | refine zN1 (fun hlen => ?_) | refine zN2 (fun hlen => ?_) | refine zAl (fun _ => ?_) | refine zAp (fun _ => ?_))
          exact ⟨(k + 1, al ++ us, R ++ [un], v2), ⟨by simp only [List.length_append]; omega, fun x hx => (List.mem_append.1 hx).elim (hal x) (h6 x), by simp only [hd2]; exact hnew us hok hin, fun nm hn => (List.mem_append.1 hn).elim (hRk nm) (fun h => by rw [List.mem_singleton] at h; rw [h, hpv0]; exact ⟨us, hus⟩), by simp only [List.length_append]; omega⟩, by simp only [List.length_append]; omega, x_wkd 3 ⟨rfl, rfl, trivial⟩ (by simp; rfl) (by repeat (first | exact ag_refl | refine ag_upd rfl ?_ | refine ag_at rfl rfl ?_))⟩
  · have hk' : k = al.length := by have : ¬ k < al.length := by simpa using h
                                   omega
    subst hk'
    rw [List.drop_length] at hrun
    repeat (first | refine gG ?_ | refine zN1 (fun hlen => ?_) | refine zN2 (fun hlen => ?_) | refine zAl (fun _ => ?_) | refine zAp (fun _ => ?_))
    refine zG ?_
    exact .inr ⟨R, b, hrun _ (.done R), rfl, rfl⟩
set_option maxRecDepth 100000 in
set_option maxHeartbeats 8000000 in
theorem refRight_af (l : List Md) (root : List Us) (ps : List Pk) (hl : Md.sizes l ≤ 1048576) (hr : Us.sizes root ≤ 1048576) (hp : Pk.sizes ps ≤ 1048576) :
    AF Try.prog 10 [Md.row l, Us.row root, Pk.row ps] (fun t => ∃ b, t = .lit (.bool b) ∧ RightIs l root ps b) := by
  have hC := register_af l hl
  have hW := usesFault_af root hr
  have hlp := Pk.len_sizes ps
  refine af_enter tok Try.func10 Try.ntmps10 Try.results10 rfl (by kernel_rfl) rfl rfl fun F hX => ?_
  cases d1 : decide (checkE l = 0)
  · repeat (first | refine gG ?_ | refine zN1 (fun hlen => ?_) | refine zN2 (fun hlen => ?_) | refine zAl (fun _ => ?_))
    refine zCall (hC) ?_
    rintro _ rfl
    repeat (first | refine gG ?_ | refine zN1 (fun hlen => ?_) | refine zN2 (fun hlen => ?_) | refine zAl (fun _ => ?_))
    first | refine zR ?_ | refine zQ ?_
    exact ⟨false, rfl, .inl ⟨.inl (of_decide_eq_false d1), rfl⟩⟩
  repeat (first | refine gG ?_ | refine zN1 (fun hlen => ?_) | refine zN2 (fun hlen => ?_) | refine zAl (fun _ => ?_))
  refine zCall (hC) ?_
  rintro _ rfl
  repeat (first | refine gG ?_ | refine zN1 (fun hlen => ?_) | refine zN2 (fun hlen => ?_) | refine zAl (fun _ => ?_))
  refine zCall (hW) ?_
  rintro _ rfl
  cases d2 : decide (wantsE root = 0)
  · repeat (first | refine gG ?_ | refine zN1 (fun hlen => ?_) | refine zN2 (fun hlen => ?_) | refine zAl (fun _ => ?_))
    first | refine zR ?_ | refine zQ ?_
    exact ⟨false, rfl, .inl ⟨.inr (.inl (of_decide_eq_false d2)), rfl⟩⟩
  have hl0 := of_decide_eq_true d1
  have hw0 := of_decide_eq_true d2
  have hset : ∀ r, Runs l ps root [] r → ascR ⟨#[]⟩ ps = true → RightIs l root ps (runOut ps r) := fun r h1 h2 => .inr ⟨hl0, hw0, h2, r, h1, rfl⟩
  have hord : ascR ⟨#[]⟩ ps = false → RightIs l root ps false := fun h => .inl ⟨.inr (.inr h), rfl⟩
  have hT := fun h b0 => told_ag l root ps hl0 hw0 h b0
  repeat (first | refine gG ?_ | refine zN1 (fun hlen => ?_) | refine zN2 (fun hlen => ?_) | refine zAl (fun _ => ?_))
  clear d1 d2 hC hW
  refine zMm (fun b0 => ?_)
  repeat (first | refine gG ?_ | refine zN1 (fun hlen => ?_) | refine zN2 (fun hlen => ?_) | refine zAl (fun _ => ?_))
  refine x_loop [6, 8, 10, 24, 25, 26, 27, 28, 29, 30, 31, 32, 33, 34, 35, 36, 37, 38, 39] (fun k : Nat => [(24, .c (.lit (.int .i64 (k : Nat)))), (8, .c (.lit (.string (lastOf ps k))))]) (fun k => [.mp b0 (mkeys Value.string (byNm (ps.take k)))]) (fun k => k ≤ ps.length ∧ ascR ⟨#[]⟩ ps = ascR (lastOf ps k) (ps.drop k)) (fun k => ps.length - k) 0 ⟨Nat.zero_le _, rfl⟩ ⟨rfl, rfl, trivial⟩ rfl ?_
  rintro k ⟨hk, ha⟩
  repeat (first | refine gG ?_ | refine zN1 (fun hlen => ?_) | refine zN2 (fun hlen => ?_) | refine zAl (fun _ => ?_))
  refine x_cond rfl (fun h => ?_) (fun h => ?_)
  · have hk' : k < ps.length := by simpa using h
    obtain ⟨p, hp1⟩ := nth hk'
    have hs := ascR_step hp1
    have hla := lastOf_succ hp1
    have hby := byNm_snoc hp1
    rw [← ha] at hs
    clear h ha
    repeat (first | refine gG ?_ | refine zN1 (fun hlen => ?_) | refine zN2 (fun hlen => ?_) | refine zAl (fun _ => ?_))
    refine zIx (k) (hk') ?_
    repeat (first | refine gG ?_ | refine zN1 (fun hlen => ?_) | refine zN2 (fun hlen => ?_) | refine zAl (fun _ => ?_))
    refine zEl (Pk.at hp1) (Pk.ts_len p) ?_
    obtain ⟨pn, pv⟩ := p
    dsimp only at hs hla hby
    have hle : leB pn (lastOf ps k) = (strLt pn (lastOf ps k) || decide (pn = lastOf ps k)) := rfl
    generalize lastOf ps k = la at *
    clear hp1
    cases d : (strLt pn la || decide (pn = la))
    · repeat (first | refine gG ?_ | refine zN1 (fun hlen => ?_) | refine zN2 (fun hlen => ?_) | refine zAl (fun _ => ?_))
      refine zUps 9 3 ?_
      repeat (first | refine gG ?_ | refine zN1 (fun hlen => ?_) | refine zN2 (fun hlen => ?_) | refine zAl (fun _ => ?_))
      exact ⟨k + 1, ⟨hk', by rw [hs, hle, d]; rfl⟩, by omega, x_wkd 1 ⟨rfl, by rw [hla]; rfl, trivial⟩ (by rw [hby]; rfl) (by repeat (first | exact ag_refl | refine ag_upd rfl ?_ | refine ag_at rfl rfl ?_))⟩
    · repeat (first | refine gG ?_ | refine zN1 (fun hlen => ?_) | refine zN2 (fun hlen => ?_) | refine zAl (fun _ => ?_))
      first | refine zR ?_ | refine zQ ?_
      exact ⟨false, rfl, hord (by rw [hs, hle, d]; rfl)⟩
  · have hk' : k = ps.length := by have : ¬ k < ps.length := by simpa using h
                                   omega
    subst hk'
    have ha1 : ascR ⟨#[]⟩ ps = true := by rw [ha, List.drop_length]; rfl
    have hT := hT (ascR_all ha1).2 b0
    have hset := fun r h => hset r h ha1
    clear h ha hord
    rw [List.take_length]
    repeat (first | refine gG ?_ | refine zN1 (fun hlen => ?_) | refine zN2 (fun hlen => ?_) | refine zAl (fun _ => ?_))
    refine zCallG [0] hT ?_
    rintro _ _ (⟨h1, rfl, x, rfl⟩ | ⟨R, b, h1, rfl, rfl⟩)
    · refine ⟨.tup [.c (.lit (.map none)), .c (.lit (.bool false))], _, re_refl, rfl, rfl, ?_⟩
      repeat (first | refine gG ?_ | refine zN1 (fun hlen => ?_) | refine zN2 (fun hlen => ?_) | refine zAl (fun _ => ?_))
      first | refine zR ?_ | refine zQ ?_
      exact ⟨false, rfl, hset _ h1⟩
    · have hb : decide (((mets R).length : Int) = (ps.length : Int)) = runOut ps (some R) := by simp only [runOut, mets_len]; exact decide_eq_decide.2 (by omega)
      refine ⟨.tup [.own 1 (.map (some b)), .c (.lit (.bool true))], _, re_refl, rfl, rfl, ?_⟩
      repeat (first | refine gG ?_ | refine zN1 (fun hlen => ?_) | refine zN2 (fun hlen => ?_) | refine zAl (fun _ => ?_))
      refine zMl (kT := 9) (eT := 4) (l := mets R) (κ := Value.string) ?_
      repeat (first | refine gG ?_ | refine zN1 (fun hlen => ?_) | refine zN2 (fun hlen => ?_) | refine zAl (fun _ => ?_))
      first | refine zR ?_ | refine zQ ?_
      exact ⟨_, rfl, by rw [hb]; exact hset _ h1⟩
end Go.Proofs.Ytllgibfmddihgaa
namespace Go.Proofs.Ytllgibfmddihgaa
open Go.RowKit
theorem rightIs_nil {b : Bool} (h : RightIs [] [] [] b) : b = true := by
  have h0 : RightIs [] [] [] true := .inr ⟨by simp [checkE, modsE], by simp [wantsE, usesE], rfl, _, .done [], rfl⟩
  exact h.det h0
set_option maxRecDepth 100000 in
set_option maxHeartbeats 4000000 in
theorem solveRight_law (l : List Md) (root : List Us) (ps : List Pk) (hl : Md.sizes l ≤ 1048576) (hr : Us.sizes root ≤ 1048576) (hp : Pk.sizes ps ≤ 1048576) :
    AF Try.prog 3 [Md.row l, Us.row root, Pk.row ps] (· = .lit (.bool true)) := by
  have h1 := right_af l root ps hl hr hp
  have h2 := refRight_af l root ps hl hr hp
  have h3 := right_af [] [] [] (by simp [Md.sizes]) (by simp [Us.sizes]) (by simp [Pk.sizes])
  refine af_enter tok Try.func3 Try.ntmps3 Try.results3 rfl (by kernel_rfl) rfl rfl fun F hX => ?_
  repeat (first | refine gG ?_)
  refine zCall (h1) ?_
  rintro _ ⟨b1, rfl, hb1⟩
  repeat (first | refine gG ?_)
  refine zCall (h2) ?_
  rintro _ ⟨b2, rfl, hb2⟩
  obtain rfl := hb1.det hb2
  have d : decide (b1 = b1) = true := by simp
  repeat (first | refine gG ?_)
  refine zB5 ?_
  repeat (first | refine gG ?_)
  refine zCall (h3) ?_
  rintro _ ⟨b3, rfl, hb3⟩
  obtain rfl := rightIs_nil hb3
  repeat (first | refine gG ?_)
  first | refine zR ?_ | refine zQ ?_
  rfl
end Go.Proofs.Ytllgibfmddihgaa
namespace Go.Proofs.Ytllgibfmddihgaa
open Go.ChangeShapes Go.WideShapes Go.ChangeAt Go.RowKit Go.Deep
section
variable {H : Type} {enc : TypeId × Value → H} {P : Program} {w : World} {base : Nat} {spare : Nat → Bool} {held : Bool}
theorem bulk_one (d : DataW H) : 1 ≤ Rows.uptoBulk d := by
  cases d with
  | lit l => cases l <;> simp [Rows.uptoBulk]
  | _ => simp [Rows.uptoBulk]
end
end Go.Proofs.Ytllgibfmddihgaa
namespace Go.Proofs.Ytllgibfmddihgaa
open Go.ChangeShapes Go.WideShapes Go.ChangeAt Go.RowKit
theorem own : ownKnob Try.prog.godebug = none := by kernel_rfl
theorem laidOut : laidOutB Try.prog = true := by kernel_rfl
section
variable {H : Type} {enc : TypeId × Value → H}
theorem trodAll_below {P : Program} (hl : laidOutB P = true) {W W' : World} (hb : Below W.heap.size W W') (ts : List TypeId) : ∀ (vs : List Value) (ds : List (DataW H)) (ps : List MemPlace),
    (ts.all fun t => P.readableRec t && decide (t < P.types.size)) = true → DataW.TrodAll enc P W 0 (fun _ => true) true ts vs ds ps → (∀ x ∈ ps, x.block < W.heap.size) →
    DataW.TrodAll enc P W' 0 (fun b => decide (b < W.heap.size)) true ts vs ds ps := by
  induction ts with
  | nil =>
    intro vs ds ps _ h _
    obtain ⟨rfl, rfl, rfl⟩ := trodAll_nil h
    rfl
  | cons t ts ih =>
    intro vs ds ps hr h hlt
    obtain ⟨v, vs', d, ds', p, q, rfl, rfl, rfl, h0, h1⟩ := trodAll_cons h
    simp only [List.all_cons, Bool.and_eq_true, decide_eq_true_eq] at hr
    refine ⟨p, q, Below.trod hl hr.1.1 hr.1.2 h0 hb fun x hx => hlt x (List.mem_append_left _ hx), ?_, rfl⟩
    exact ih vs' ds' q hr.2 h1 fun x hx => hlt x (List.mem_append_right _ hx)
theorem law_post {f : Func} {s : ChangeSpec} {W W' : World} {args : Array Value} {ds gs : List (DataW H)} {before : List MemPlace}
    (hW : DataW.Whole enc Try.prog f.params.toList s.vars false W args.toList ds gs before) (hv : s.vars = []) (hrt : f.resultTypes = #[4])
    (hr : (f.params.toList.all fun t => Try.prog.readableRec t && decide (t < Try.prog.types.size)) = true)
    (hres : (s.fn H (ds ++ gs)).results = [.lit (.bool true)]) (hargs : (s.fn H (ds ++ gs)).args = ds) (hvars : (s.fn H (ds ++ gs)).vars = []) (hb : Below W.heap.size W W') :
    s.post enc Try.prog f false true false false W args (.bool true) W' := by
  have hlt : ∀ p ∈ before, p.block < W.heap.size := fun p hp => hW.lt p hp
  have hW' := hW
  obtain ⟨p, q, hA, hV, rfl, _, _⟩ := hW'
  rw [hv] at hV
  obtain ⟨rfl, rfl⟩ := trodVars_none hV
  rw [List.append_nil] at hlt
  refine ⟨ds, [], _, [], p, [], hW, ?_, ?_, ?_, hb.frame _ |> World.keptBut_mono (fun x hx => ⟨hx, ?_⟩), fun h => by cases h⟩
  · rw [hrt, hres]
    exact trodAll_mk1 (shut_bool Try.underlying4 true)
  · rw [hargs]
    exact trodAll_below laidOut hb _ _ _ _ hr hA hlt
  · rw [hvars, hv]
    rfl
  · rw [List.append_nil] at hx
    exact .inr (.inl hx)
end
end Go.Proofs.Ytllgibfmddihgaa
