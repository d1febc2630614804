/-
  Texts of this proof, part 8: Ttw Ab25 Tvf0 Tvf Twb Trv.
-/
import Derived.Test.YthgackidonocpaaGreatQStoreLast7
import Derived.MapKept
namespace Go.Proofs.YthgackidonocpaaGreat
open Go.RowKit
def tkB (b : Nat) (s : TS) : Blk := .box b 92 [.c (bytRow s.l), .c (.lit (.bool s.ok))]
def Takes (b : Nat) (t : T) (s : TS) (r : AV) (hs : List Blk) : Prop := r = .c t ∧ hs = [tkB b s]
set_option maxRecDepth 100000 in
set_option maxHeartbeats 2000000 in
theorem one_ag (b : Nat) (s : TS) : AG Tryz.prog 70 [.ptr 0 b 0] [tkB b s] (Takes b (.lit (.int .i64 ((tOne s).1 : Int))) (tOne s).2) := by
  obtain ⟨l, ok⟩ := s
  refine ag_enter 1 tok Tryz.func70 Tryz.ntmps70 Tryz.results70 rfl (by kernel_rfl) rfl fun F => ?_
  cases l with
  | nil =>
    repeat (first | refine gG ?_ | refine zN1 (fun hlen => ?_) | refine zN2 (fun hlen => ?_))
    refine zG ?_
    exact ⟨rfl, rfl⟩
  | cons a r =>
    have d1 : decide ((((a :: r).length : Nat) : Int) = 0) = false := by simp; omega
    have hw : IntKind.i64.wrap (a.toNat : Int) = (a.toNat : Int) := by rw [IntWalk.i64_in _ (by have := a.toNat_lt; omega)]
    repeat (first | refine gG ?_ | refine zN1 (fun hlen => ?_) | refine zN2 (fun hlen => ?_))
    refine zIx 0 (show 0 < (a :: r).length by simp) ?_
    repeat (first | refine gG ?_ | refine zN1 (fun hlen => ?_) | refine zN2 (fun hlen => ?_))
    refine zPlb (l := a :: r) 1 (by simp) ?_
    repeat (first | refine gG ?_ | refine zN1 (fun hlen => ?_) | refine zN2 (fun hlen => ?_))
    refine lo_conv tok rfl rfl rfl rfl hw ?_
    repeat (first | refine gG ?_ | refine zN1 (fun hlen => ?_) | refine zN2 (fun hlen => ?_))
    refine zG ?_
    exact ⟨rfl, rfl⟩
def un (i : Nat) : Int := IntKind.i64.wrap ((128 ^ i : Nat) : Int)
theorem pow8 {i : Nat} (h : i ≤ 8) : 128 ^ i ≤ 2 ^ 56 := by
  have : 128 ^ i ≤ 128 ^ 8 := Nat.pow_le_pow_right (by omega) h
  have e : 128 ^ 8 = 2 ^ 56 := rfl
  omega
theorem un_eq {i : Nat} (h : i ≤ 8) : un i = ((128 ^ i : Nat) : Int) := by
  have := pow8 h
  rw [un]
  generalize 128 ^ i = x at *
  rw [IntWalk.i64_in _ (by omega)]
theorem un_mul {i : Nat} (h : i ≤ 8) : IntKind.i64.wrap (un i * 128) = un (i + 1) := by
  rw [un_eq h, un, Nat.pow_succ]
  simp
set_option maxRecDepth 100000 in
set_option maxHeartbeats 2000000 in
theorem tnat_ag (b : Nat) (s : TS) : AG Tryz.prog 43 [.ptr 0 b 0] [tkB b s] (Takes b (.lit (.int .i64 ((tNat s).1 : Int))) (tNat s).2) := by
  refine ag_enter 1 tok Tryz.func43 Tryz.ntmps43 Tryz.results43 rfl (by kernel_rfl) rfl fun F => ?_
  repeat (first | refine gG ?_)
  refine x_loop [2, 3, 4, 5, 6, 7, 8, 9, 10, 11, 12, 13, 14, 15, 16, 17, 18, 19, 20, 21, 22, 23] (fun y : Nat × Nat × TS => [(5, .c (.lit (.int .i64 (y.1 : Int)))), (3, .c (.lit (.int .i64 (y.2.1 : Int)))), (4, .c (.lit (.int .i64 (un y.1))))]) (fun y => [tkB b y.2.2])
    (fun y => y.1 ≤ 9 ∧ y.2.1 < 128 ^ y.1 ∧ tNatL (9 - y.1) y.1 y.2.1 y.2.2 = tNat s) (fun y => 9 - y.1) (0, 0, s) ⟨by simp, by simp, rfl⟩ ⟨rfl, rfl, rfl, trivial⟩ rfl ?_
  rintro ⟨i, n, s'⟩ ⟨hi, hn, hinv⟩
  dsimp only at hi hn hinv ⊢
  repeat (first | refine gG ?_)
  refine x_cond rfl (fun h => ?_) (fun h => ?_)
  · have hi8 : i ≤ 8 := by have : (i : Int) < 9 := of_decide_eq_true h
                           omega
    rw [show 9 - i = (8 - i) + 1 by omega, tNatL] at hinv
    have hc := one_ag b s'
    have hlt := tOne_lt s'
    generalize tOne s' = p at *
    obtain ⟨c, s1⟩ := p
    dsimp only at hinv hc hlt
    have hp := pow8 hi8
    have hm : c % 128 * 128 ^ i ≤ 127 * 128 ^ i := Nat.mul_le_mul_right _ (by omega)
    have hn2 : n + c % 128 * 128 ^ i < 128 ^ (i + 1) := by rw [Nat.pow_succ]; omega
    repeat (first | refine gG ?_)
    refine zCallG [0] hc ?_
    rintro _ _ ⟨rfl, rfl⟩
    refine ⟨_, _, re_refl, rfl, rfl, ?_⟩
    repeat (first | refine gG ?_)
    refine lo_rem rfl rfl (by omega) (tmod128 c) ?_
    repeat (first | refine gG ?_)
    refine lo_mul rfl rfl (r := ((c % 128 * 128 ^ i : Nat) : Int)) (by rw [un_eq hi8, ← Int.natCast_mul, IntWalk.i64_in _ (by omega)]) ?_
    repeat (first | refine gG ?_)
    refine lo_add rfl rfl (r := ((n + c % 128 * 128 ^ i : Nat) : Int)) (by rw [IntWalk.i64_in _ (by omega)]; omega) ?_
    cases d1 : decide ((c : Int) < 128)
    · have h1 : ¬ c < 128 := by have := of_decide_eq_false d1; omega
      rw [if_neg h1] at hinv
      repeat (first | refine gG ?_)
      refine lo_mul rfl rfl (un_mul hi8) ?_
      repeat (first | refine gG ?_)
      exact ⟨(i + 1, n + c % 128 * 128 ^ i, s1), ⟨by simp only; omega, hn2, by simp only; rw [show 9 - (i + 1) = 8 - i by omega]; exact hinv⟩, by simp only; omega, x_wkd 1 ⟨rfl, rfl, rfl, trivial⟩ rfl (by repeat (first | exact ag_refl | refine ag_upd rfl ?_ | refine ag_at rfl rfl ?_))⟩
    · have h1 : c < 128 := by have := of_decide_eq_true d1; omega
      rw [if_pos h1] at hinv
      repeat (first | refine gG ?_)
      refine zG ?_
      rw [← hinv]
      exact ⟨rfl, rfl⟩
  · have hi9 : i = 9 := by have : ¬ (i : Int) < 9 := of_decide_eq_false h
                           omega
    subst hi9
    obtain ⟨l', ok'⟩ := s'
    repeat (first | refine gG ?_)
    refine zG ?_
    rw [← hinv]
    exact ⟨rfl, rfl⟩
theorem shl_w (c i : Nat) (hi : i ≤ 9) : IntKind.u64.wrap ((c : Int) * 2 ^ (min ((((7 * i : Nat) : Nat) : Int)).toNat IntKind.u64.bits)) = ((c * 128 ^ i % 2 ^ 64 : Nat) : Int) := by
  have h1 : min ((((7 * i : Nat) : Nat) : Int)).toNat IntKind.u64.bits = 7 * i := by
    have : IntKind.u64.bits = 64 := rfl
    rw [this]
    omega
  rw [h1, wrap_u64]
  have h2 : (c : Int) * 2 ^ (7 * i) = ((c * 128 ^ i : Nat) : Int) := by
    rw [← p128]
    simp
  rw [h2]
  omega
set_option maxRecDepth 100000 in
set_option maxHeartbeats 2000000 in
theorem tnum_ag (b : Nat) (s : TS) : AG Tryz.prog 46 [.ptr 0 b 0] [tkB b s] (Takes b (.lit (.int .i64 (tNum s).1)) (tNum s).2) := by
  refine ag_enter 1 tok Tryz.func46 Tryz.ntmps46 Tryz.results46 rfl (by kernel_rfl) rfl fun F => ?_
  repeat (first | refine gG ?_)
  refine x_loop [2, 3, 4, 5, 6, 7, 8, 9, 10, 11, 12, 13, 14, 15, 16, 17, 18, 19, 20, 21, 22, 23, 24, 25, 26, 27, 28, 29, 30, 31, 32] (fun y : Nat × Nat × TS => [(4, .c (.lit (.int .i64 (y.1 : Int)))), (3, .c (.lit (.int .u64 (y.2.1 : Int))))]) (fun y => [tkB b y.2.2])
    (fun y => y.1 ≤ 10 ∧ y.2.1 < 2 ^ 64 ∧ tNumL (10 - y.1) y.1 y.2.1 y.2.2 = tNum s) (fun y => 10 - y.1) (0, 0, s) ⟨by simp, by simp, rfl⟩ ⟨rfl, rfl, trivial⟩ rfl ?_
  rintro ⟨i, n, s'⟩ ⟨hi, hn, hinv⟩
  dsimp only at hi hn hinv ⊢
  repeat (first | refine gG ?_)
  refine x_cond rfl (fun h => ?_) (fun h => ?_)
  · have hi9 : i ≤ 9 := by have : (i : Int) < 10 := of_decide_eq_true h
                           omega
    rw [show 10 - i = (9 - i) + 1 by omega, tNumL] at hinv
    have hc := one_ag b s'
    have hlt := tOne_lt s'
    generalize tOne s' = p at *
    obtain ⟨c, s1⟩ := p
    dsimp only at hinv hc hlt
    repeat (first | refine gG ?_)
    refine zCallG [0] hc ?_
    rintro _ _ ⟨rfl, rfl⟩
    refine ⟨_, _, re_refl, rfl, rfl, ?_⟩
    repeat (first | refine gG ?_)
    refine lo_rem rfl rfl (by omega) (tmod128 c) ?_
    repeat (first | refine gG ?_)
    refine lo_conv tok rfl rfl rfl rfl (r := ((c % 128 : Nat) : Int)) (by rw [wrap_u64]; omega) ?_
    repeat (first | refine gG ?_)
    refine lo_mul rfl rfl (r := ((7 * i : Nat) : Int)) (by rw [IntWalk.i64_in _ (by omega)]; omega) ?_
    repeat (first | refine gG ?_)
    refine lo_shl rfl rfl (by omega) (shl_w (c % 128) i hi9) ?_
    repeat (first | refine gG ?_)
    refine lo_add rfl rfl (r := (((n + c % 128 * 128 ^ i) % 2 ^ 64 : Nat) : Int)) (by rw [wrap_u64]; omega) ?_
    have hn2 : (n + c % 128 * 128 ^ i) % 2 ^ 64 < 2 ^ 64 := Nat.mod_lt _ (by decide)
    generalize (n + c % 128 * 128 ^ i) % 2 ^ 64 = n' at *
    cases d1 : decide ((c : Int) < 128)
    · have h1 : ¬ c < 128 := by have := of_decide_eq_false d1; omega
      rw [if_neg h1] at hinv
      repeat (first | refine gG ?_)
      exact ⟨(i + 1, n', s1), ⟨by simp only; omega, hn2, by simp only; rw [show 10 - (i + 1) = 9 - i by omega]; exact hinv⟩, by simp only; omega, x_wkd 1 ⟨rfl, rfl, trivial⟩ rfl (by repeat (first | exact ag_refl | refine ag_upd rfl ?_ | refine ag_at rfl rfl ?_))⟩
    · have h1 : c < 128 := by have := of_decide_eq_true d1; omega
      rw [if_pos h1] at hinv
      have e2 : (n' : Int).tmod 2 = ((n' % 2 : Nat) : Int) := by rw [Int.tmod_eq_emod_of_nonneg (by omega)]; omega
      have e3 : (n' : Int).tdiv 2 = ((n' / 2 : Nat) : Int) := by rw [Int.tdiv_eq_ediv_of_nonneg (by omega)]; omega
      repeat (first | refine gG ?_)
      refine lo_rem rfl rfl (by omega) e2 ?_
      cases d2 : decide (((n' % 2 : Nat) : Int) = 1)
      · have h2 : n' % 2 = 0 := by have := of_decide_eq_false d2; omega
        repeat (first | refine gG ?_)
        refine lo_quo rfl rfl (by omega) (r := ((n' / 2 : Nat) : Int)) (by rw [e3, wrap_u64]; omega) ?_
        repeat (first | refine gG ?_)
        refine lo_conv tok rfl rfl rfl rfl (r := ((n' / 2 : Nat) : Int)) (by rw [IntWalk.i64_in _ (by omega)]) ?_
        repeat (first | refine gG ?_)
        refine zG ?_
        rw [← hinv, dz, if_pos h2]
        exact ⟨rfl, rfl⟩
      · have h2 : ¬ n' % 2 = 0 := by have := of_decide_eq_true d2; omega
        repeat (first | refine gG ?_)
        refine lo_quo rfl rfl (by omega) (r := ((n' / 2 : Nat) : Int)) (by rw [e3, wrap_u64]; omega) ?_
        repeat (first | refine gG ?_)
        refine lo_conv tok rfl rfl rfl rfl (r := ((n' / 2 : Nat) : Int)) (by rw [IntWalk.i64_in _ (by omega)]) ?_
        repeat (first | refine gG ?_)
        refine lo_neg rfl (r := -((n' / 2 : Nat) : Int)) (by rw [IntWalk.i64_in _ (by omega)]; omega) ?_
        repeat (first | refine gG ?_)
        refine lo_sub rfl rfl (r := -((n' / 2 : Nat) : Int) - 1) (by rw [IntWalk.i64_in _ (by omega)]) ?_
        repeat (first | refine gG ?_)
        refine zG ?_
        rw [← hinv, dz, if_neg h2]
        exact ⟨rfl, rfl⟩
  · have hi10 : i = 10 := by have : ¬ (i : Int) < 10 := of_decide_eq_false h
                             omega
    subst hi10
    obtain ⟨l', ok'⟩ := s'
    repeat (first | refine gG ?_)
    refine zG ?_
    rw [← hinv]
    exact ⟨rfl, rfl⟩
set_option maxRecDepth 100000 in
set_option maxHeartbeats 2000000 in
theorem ttext_ag (b : Nat) (s : TS) : AG Tryz.prog 71 [.ptr 0 b 0] [tkB b s] (Takes b (.lit (.string (bs (tText s).1))) (tText s).2) := by
  have hc := tnat_ag b s
  unfold tText
  generalize tNat s = p at *
  obtain ⟨u, l, ok⟩ := p
  dsimp only at hc ⊢
  have d0 : decide ((u : Int) < 0) = false := decide_eq_false (by omega)
  refine ag_enter 1 tok Tryz.func71 Tryz.ntmps71 Tryz.results71 rfl (by kernel_rfl) rfl fun F => ?_
  repeat (first | refine gG ?_ | refine zN1 (fun hlen => ?_) | refine zN2 (fun hlen => ?_))
  refine zCallG [0] hc ?_
  rintro _ _ ⟨rfl, rfl⟩
  refine ⟨_, _, re_refl, rfl, rfl, ?_⟩
  cases d1 : decide ((l.length : Int) < (u : Int))
  · cases d2 : decide ((4000 : Int) < (u : Int))
    · have h1 : ¬ (l.length < u ∨ 4000 < u) := by have := of_decide_eq_false d1; have := of_decide_eq_false d2; omega
      rw [if_neg h1]
      repeat (first | refine gG ?_ | refine zN1 (fun hlen => ?_) | refine zN2 (fun hlen => ?_))
      refine zPhb (l := l) u (by omega) ?_
      repeat (first | refine gG ?_ | refine zN1 (fun hlen => ?_) | refine zN2 (fun hlen => ?_))
      refine zStr (l.take u) rfl rfl ?_
      repeat (first | refine gG ?_ | refine zN1 (fun hlen => ?_) | refine zN2 (fun hlen => ?_))
      refine zPlb (l := l) u (by omega) ?_
      repeat (first | refine gG ?_ | refine zN1 (fun hlen => ?_) | refine zN2 (fun hlen => ?_))
      refine zG ?_
      exact ⟨rfl, rfl⟩
    · have h1 : l.length < u ∨ 4000 < u := by have := of_decide_eq_true d2; omega
      rw [if_pos h1]
      repeat (first | refine gG ?_ | refine zN1 (fun hlen => ?_) | refine zN2 (fun hlen => ?_))
      refine zG ?_
      exact ⟨rfl, rfl⟩
  · have h1 : l.length < u ∨ 4000 < u := by have := of_decide_eq_true d1; omega
    rw [if_pos h1]
    repeat (first | refine gG ?_ | refine zN1 (fun hlen => ?_) | refine zN2 (fun hlen => ?_))
    refine zG ?_
    exact ⟨rfl, rfl⟩
end Go.Proofs.YthgackidonocpaaGreat
namespace Go.Proofs.YthgackidonocpaaGreat
open Go.RowKit
section
variable {F : Frm} {τ : Nat → AV} {hp : List Blk} {N : Nat}
theorem wk_fzc (i j : Nat) {q b : Nat} {v : Value} {e t : TypeId} {sz n : Nat} {ts : List T} {cs cs' : List AV} {hp' : List Blk} (hi : hp[i]? = some (.box b t cs)) (hj : cs[j]? = some (.own q v)) (hq : hp[q]? = some (.row v e sz n ts)) (hiq : Nat.beq i q = false) (hc : evl (cs.set j (.c (.row n sz ts))) = some cs') (hf : evl ((hp.set q .dead).set i (.box b t cs')) = some hp') : Wk F ⟨τ, hp, N⟩ ⟨τ, hp', N⟩ := by
  intro M a w hr
  have hne : i ≠ q := fun e => by rw [e, Nat.beq_refl] at hiq; cases hiq
  obtain ⟨h1, h2⟩ := heap_frz hr.heap hq
  have hi' : (hp.set q .dead)[i]? = some (.box b t cs) := by rw [List.getElem?_set_ne (Ne.symm hne)]; exact hi
  have hlt : i < (hp.set q .dead).length := (List.getElem?_eq_some_iff.1 hi').1
  have h3 : HeapOk F (frB M v.ownBlock w) ((hp.set q .dead).set i (.box b t cs')) w := by
    refine h1.step i rfl rfl rfl (Nat.le_refl _) (fun _ _ _ => rfl) (Ext.refl _ _) (fun p v h1 h2 => by rw [h2] at h1; cases h1) (fun m hm => by rw [List.getElem?_set_ne (Ne.symm hm)]) (fun x' hx' => ?_)
    rw [List.getElem?_set_self hlt] at hx'
    obtain rfl : Blk.box b t cs' = x' := by injection hx'
    obtain ⟨xs, g1, g2, g3⟩ := h1.at_ i _ hi'
    refine ⟨⟨xs, g1, ?_, g3⟩, fun b' hb' => .inl ⟨_, hi', hb'⟩⟩
    rw [evl_eq hc]
    obtain ⟨x, hx, hxr⟩ := g2.get hj
    simp only [RA] at hxr
    have hjl : j < xs.length := (List.getElem?_eq_some_iff.1 hx).1
    have hxj : xs[j] = x := by rw [List.getElem?_eq_getElem hjl] at hx; injection hx
    have : RAs (frB M v.ownBlock w) (cs.set j (.c (.row n sz ts))) (xs.set j x) := RAs.set j g2 (by simp only [RA]; rw [hxr.1]; exact h2)
    rwa [show xs.set j x = xs from by rw [← hxj]; exact List.set_getElem_self hjl] at this
  exact ⟨_, fun k => RA.mono (frB_sub _ _ _) _ _ (hr.tmps k), hr.size, hr.defers, by rw [evl_eq hf]; exact h3⟩
theorem x_fzc {P : Program} {Q : Exit → AS → Prop} {c : Code} (i j : Nat) {q b : Nat} {v : Value} {e t : TypeId} {sz n : Nat} {ts : List T} {cs cs' : List AV} {hp' : List Blk} (h : AC P F c Q ⟨τ, hp', N⟩) (hi : hp[i]? = some (.box b t cs) := by exact rfl) (hj : cs[j]? = some (.own q v) := by exact rfl) (hq : hp[q]? = some (.row v e sz n ts) := by exact rfl) (hiq : Nat.beq i q = false := by exact rfl) (hc : evl (cs.set j (.c (.row n sz ts))) = some cs' := by exact rfl) (hf : evl ((hp.set q .dead).set i (.box b t cs')) = some hp' := by exact rfl) : AC P F c Q ⟨τ, hp, N⟩ :=
  ac_wk (wk_fzc i j hi hj hq hiq hc hf) h
end
end Go.Proofs.YthgackidonocpaaGreat
namespace Go.Proofs.YthgackidonocpaaGreat
open Go.RowKit
abbrev Vd := V × Nat
def atTs (x : Vd) : List T := x.1.ts ++ [.lit (.int .i64 (x.2 : Int))]
theorem atTs_len (x : Vd) : (atTs x).length = 5 := by simp [atTs, V.ts_len]
def kids (x : Vd) : List Vd := x.1.args.map fun a => (a, x.2 + 1)
def vsz (l : List Vd) : Nat := V.sizes (l.map (·.1))
theorem vsz_app (l r : List Vd) : vsz (l ++ r) = vsz l + vsz r := by simp [vsz, V.sizes_app]
theorem vsz_kids (x : Vd) : vsz (kids x) + 1 = x.1.size := by
  obtain ⟨⟨k, n, t, l⟩, d⟩ := x
  simp [vsz, kids, V.args, V.size, Function.comp_def]
theorem vsz_len (l : List Vd) : l.length ≤ vsz l := by
  have := V.len_sizes (l.map (·.1))
  simpa [vsz] using this
/-- the first i of the list are done, the rest stand for what is below them too -/
structure Lev (v : V) (all : List Vd) (i : Nat) : Prop where
  le : i ≤ all.length
  size : i + vsz (all.drop i) = v.size
  deep : ∀ x ∈ all, x.2 ≤ all.length
  sub : ∀ x ∈ all, x.1.size ≤ v.size
  every : ∀ p : V → Nat → Bool, ((all.take i).all (fun x => p x.1 x.2) && (all.drop i).all (fun x => x.1.every p x.2)) = v.every p 1
theorem Lev.zero (v : V) : Lev v [(v, 1)] 0 := ⟨by simp, by simp [vsz, V.sizes], by simp, by simp, fun p => by simp⟩
theorem Lev.step {v : V} {all : List Vd} {i : Nat} {x : Vd} (h : Lev v all i) (hx : all[i]? = some x) : Lev v (all ++ kids x) (i + 1) := by
  obtain ⟨hi, rfl⟩ := List.getElem?_eq_some_iff.1 hx
  have hd := List.drop_eq_getElem_cons hi
  have hdrop : (all ++ kids all[i]).drop (i + 1) = all.drop (i + 1) ++ kids all[i] := by rw [List.drop_append_of_le_length (by omega)]
  have htake : (all ++ kids all[i]).take (i + 1) = all.take i ++ [all[i]] := by rw [List.take_append_of_le_length (by omega), List.take_succ_eq_append_getElem hi]
  refine ⟨by simp; omega, ?_, ?_, ?_, fun p => ?_⟩
  · have h1 := h.size
    have h2 := vsz_kids all[i]
    rw [hd] at h1
    rw [hdrop, vsz_app]
    have h3 : vsz (all[i] :: all.drop (i + 1)) = all[i].1.size + vsz (all.drop (i + 1)) := by simp only [vsz, List.map_cons, V.sizes]
    omega
  · intro y hy
    rcases List.mem_append.1 hy with hy | hy
    · have := h.deep y hy; simp; omega
    · simp only [kids, List.mem_map] at hy
      obtain ⟨a, ha, rfl⟩ := hy
      have h1 := h.deep all[i] (List.getElem_mem hi)
      have h2 : 0 < all[i].1.args.length := List.length_pos_of_mem ha
      simp [kids]; omega
  · intro y hy
    rcases List.mem_append.1 hy with hy | hy
    · exact h.sub y hy
    · simp only [kids, List.mem_map] at hy
      obtain ⟨a, ha, rfl⟩ := hy
      have h1 := h.sub all[i] (List.getElem_mem hi)
      have h2 : a.size ≤ all[i].1.size := by
        generalize all[i] = z at ha h1 ⊢
        obtain ⟨⟨k, n, t, l⟩, d⟩ := z
        have := V.size_mem ha
        simp only [V.args] at this
        simp only [V.size]
        omega
      exact Nat.le_trans h2 h1
  · rw [← h.every p, hdrop, htake, hd]
    have h4 : all[i].1.every p all[i].2 = (p all[i].1 all[i].2 && (kids all[i]).all fun x => x.1.every p x.2) := by
      generalize all[i] = z
      obtain ⟨⟨k, n, t, l⟩, d⟩ := z
      simp only [V.every, V.everys_eq, kids, V.args, List.all_map]
      rfl
    simp only [List.all_append, List.all_cons, List.all_nil, Bool.and_true, h4]
    cases (all.take i).all fun x => p x.1 x.2 <;> cases p all[i].1 all[i].2 <;> cases (all.drop (i + 1)).all fun x => x.1.every p x.2 <;> cases (kids all[i]).all fun x => x.1.every p x.2 <;> rfl
theorem Lev.len {v : V} {all : List Vd} {i : Nat} (h : Lev v all i) : all.length ≤ v.size := by
  have h1 := h.size
  have h2 := vsz_len (all.drop i)
  rw [List.length_drop] at h2
  have := h.le
  omega
theorem Lev.done {v : V} {all : List Vd} (h : Lev v all all.length) : all.length = v.size ∧ ∀ p : V → Nat → Bool, (all.all fun x => p x.1 x.2) = v.every p 1 := by
  refine ⟨?_, fun p => ?_⟩
  · have := h.size
    rw [List.drop_length] at this
    simpa [vsz, V.sizes] using this
  · have := h.every p
    rw [List.drop_length, List.take_length] at this
    simpa using this
theorem byt_at {l : List UInt8} {k : Nat} {a : UInt8} (h : l[k]? = some a) : (byts l)[k * 1]? = some (bytT a) := by simp [byts, h]
theorem u8_eq (a b : UInt8) : decide ((a.toNat : Int) = (b.toNat : Int)) = decide (a = b) := by
  by_cases h : a = b
  · simp [h]
  · rw [decide_eq_false h, decide_eq_false]
    intro e
    exact h (UInt8.toNat_inj.1 (by omega))
set_option maxRecDepth 100000 in
set_option maxHeartbeats 1000000 in
theorem indexB_af (c : UInt8) (l : List UInt8) : AF Tryz.prog 118 [bytRow l, bytT c] (· = .lit (.int .i64 (idxI (fun b => decide (c = b)) l))) := by
  refine af_enter tok Tryz.func118 Tryz.ntmps118 Tryz.results118 rfl (by kernel_rfl) rfl rfl fun F hX => ?_
  repeat (first | refine gG ?_ | refine zN1 (fun hlen => ?_) | refine zN2 (fun hlen => ?_))
  refine x_loop [4, 5, 8, 9, 10, 11, 12, 13, 14, 15, 16, 17, 18] (fun k : Nat => [(8, .c (.lit (.int .i64 k)))]) (fun _ => []) (fun k => k ≤ l.length ∧ idxAt (fun b => decide (c = b)) l k) (fun k => l.length - k) 0 ⟨Nat.zero_le _, idxAt_zero _ l⟩ ⟨rfl, trivial⟩ rfl fun k hk => ?_
  repeat (first | refine gG ?_ | refine zN1 (fun hlen => ?_) | refine zN2 (fun hlen => ?_))
  refine x_cond rfl (fun h => ?_) (fun h => ?_)
  · have hk' : k < l.length := by simpa using h
    obtain ⟨a, ha⟩ := nth hk'
    repeat (first | refine gG ?_ | refine zN1 (fun hlen => ?_) | refine zN2 (fun hlen => ?_))
    refine zIx k hk' ?_
    repeat (first | refine gG ?_ | refine zN1 (fun hlen => ?_) | refine zN2 (fun hlen => ?_))
    refine zEl1 (byt_at ha) ?_
    cases hq : decide (c = a)
    · have hq' : decide ((c.toNat : Int) = (a.toNat : Int)) = false := by rw [u8_eq]; exact hq
      repeat (first | refine gG ?_ | refine zN1 (fun hlen => ?_) | refine zN2 (fun hlen => ?_))
      exact ⟨k + 1, ⟨hk', idxAt_no hk.2 ha hq⟩, by omega, x_wkd 0 ⟨rfl, trivial⟩ rfl (by repeat (first | exact ag_refl | refine ag_upd rfl ?_ | refine ag_at rfl rfl ?_))⟩
    · have hq' : decide ((c.toNat : Int) = (a.toNat : Int)) = true := by rw [u8_eq]; exact hq
      repeat (first | refine gG ?_ | refine zN1 (fun hlen => ?_) | refine zN2 (fun hlen => ?_))
      first | refine zR ?_ | refine zQ ?_
      rw [idxAt_yes hk.2 ha hq]; rfl
  · have hk' : k = l.length := by have : ¬ k < l.length := by simpa using h
                                  omega
    subst hk'
    repeat (first | refine gG ?_ | refine zN1 (fun hlen => ?_) | refine zN2 (fun hlen => ?_))
    first | refine zR ?_ | refine zQ ?_
    rw [idxAt_end hk.2]; rfl
set_option maxRecDepth 100000 in
set_option maxHeartbeats 1000000 in
theorem containsB_af (c : UInt8) (l : List UInt8) : AF Tryz.prog 101 [bytRow l, bytT c] (· = .lit (.bool (l.any fun b => decide (c = b)))) := by
  have hc := indexB_af c l
  refine af_enter tok Tryz.func101 Tryz.ntmps101 Tryz.results101 rfl (by kernel_rfl) rfl rfl fun F hX => ?_
  repeat (first | refine gG ?_)
  refine zCall (hc) ?_
  rintro _ rfl
  repeat (first | refine gG ?_)
  first | refine zR ?_ | refine zQ ?_
  rw [← idxI_any]; rfl
/-- a node whose parts are asq the list of its kind says -/
def okB (n : Int) (t : ByteArray) (m : Nat) (has : ByteArray) (most : Int) : Bool :=
  !((!decide (n = 0)) && !(has.data.toList.any fun b => decide ((110 : UInt8) = b))) && !((!decide (t = ⟨#[]⟩)) && !(has.data.toList.any fun b => decide ((116 : UInt8) = b))) && !decide (most < (m : Int))
theorem len0 (l : List V) : (!decide ((0 : Int) < (l.length : Int))) = decide ((l.length : Int) = 0) := by
  by_cases h : (l.length : Int) = 0
  · rw [decide_eq_true h, h]; rfl
  · rw [decide_eq_false h, decide_eq_true (by omega)]; rfl
theorem len1 (l : List V) : (!decide ((1 : Int) < (l.length : Int))) = decide ((l.length : Int) ≤ 1) := by
  by_cases h : (l.length : Int) ≤ 1
  · rw [decide_eq_true h, decide_eq_false (by omega)]; rfl
  · rw [decide_eq_false h, decide_eq_true (by omega)]; rfl
theorem len400 (l : List V) (h : l.length ≤ 400) : (!decide ((400 : Int) < (l.length : Int))) = true := by
  rw [decide_eq_false (by omega)]; rfl
theorem okB_eq (n : Int) (t : ByteArray) (m : Nat) (has : ByteArray) (most : Int) (c1 c2 : Bool) (h1 : (has.data.toList.any fun b => decide ((110 : UInt8) = b)) = c1) (h2 : (has.data.toList.any fun b => decide ((116 : UInt8) = b)) = c2) : okB n t m has most = ((decide (n = 0) || c1) && (decide (t = ⟨#[]⟩) || c2) && !decide (most < (m : Int))) := by
  unfold okB
  rw [h1, h2]
  cases decide (n = 0) <;> cases decide (t = ⟨#[]⟩) <;> cases c1 <;> cases c2 <;> rfl
section
variable (n : Int) (t : ByteArray) (l : List V)
theorem ok1 : okB n t l.length ⟨#[]⟩ 0 = formN (.mk 1 n t l) := by rw [okB_eq _ _ _ _ _ false false (by decide) (by decide), len0]; simp [formN]
theorem ok2 : okB n t l.length ⟨#[110]⟩ 0 = formN (.mk 2 n t l) := by rw [okB_eq _ _ _ _ _ true false (by decide) (by decide), len0]; simp [formN]
theorem ok6 : okB n t l.length ⟨#[110]⟩ 0 = formN (.mk 6 n t l) := by rw [okB_eq _ _ _ _ _ true false (by decide) (by decide), len0]; simp [formN]
theorem ok3 (e : decide (n = 1) = false) : okB n t l.length ⟨#[]⟩ 0 = formN (.mk 3 n t l) := by rw [okB_eq _ _ _ _ _ false false (by decide) (by decide), len0]; have e' := of_decide_eq_false e; simp [formN, e']
theorem ok3' (e : decide (n = 1) = true) : okB n t l.length ⟨#[110]⟩ 0 = formN (.mk 3 n t l) := by rw [okB_eq _ _ _ _ _ true false (by decide) (by decide), len0]; obtain rfl := of_decide_eq_true e; simp [formN]
theorem ok4 : okB n t l.length ⟨#[116]⟩ 0 = formN (.mk 4 n t l) := by rw [okB_eq _ _ _ _ _ false true (by decide) (by decide), len0]; simp [formN]
theorem ok5 (hl : l.length ≤ 400) (e : decide (t = ⟨#[]⟩) = false) : okB n t l.length ⟨#[116]⟩ 400 = formN (.mk 5 n t l) := by rw [okB_eq _ _ _ _ _ false true (by decide) (by decide), len400 _ hl]; have e' := of_decide_eq_false e; simp [formN, e']
theorem ok7 (hl : l.length ≤ 400) : okB n t l.length ⟨#[110, 116]⟩ 400 = formN (.mk 7 n t l) := by rw [okB_eq _ _ _ _ _ true true (by decide) (by decide), len400 _ hl]; simp [formN]
theorem ok8 : okB n t l.length ⟨#[]⟩ 1 = formN (.mk 8 n t l) := by rw [okB_eq _ _ _ _ _ false false (by decide) (by decide), len1]; simp [formN]
end
end Go.Proofs.YthgackidonocpaaGreat
namespace Go.Proofs.YthgackidonocpaaGreat
open Go.RowKit
def big400 (m : Nat) (x : Vd) : Bool := !decide ((400 : Int) < (m : Int)) && bigN x.1 x.2
theorem map_snoc2 {α β : Type} (f : α → β) {l : List α} {k : Nat} {a : α} (h : l[k]? = some a) : (l.take (k + 1)).map f = (l.take k).map f ++ [f a] := by
  obtain ⟨h1, rfl⟩ := List.getElem?_eq_some_iff.1 h
  rw [List.take_succ_eq_append_getElem h1, List.map_append]
  simp
theorem big400_eq (m : Nat) (k n : Int) (t : ByteArray) (l : List V) (d : Nat) : big400 m (.mk k n t l, d) = (!decide ((400 : Int) < (m : Int)) && (!decide ((40 : Int) < (d : Int)) && !decide ((4000 : Int) < (t.size : Int)))) := rfl
theorem big_all {v : V} {all : List Vd} (h : Lev v all all.length) : v.fitB 400 1 = all.all (big400 all.length) := by
  obtain ⟨h1, h2⟩ := h.done
  have h3 : 0 < all.length := by rw [h1]; obtain ⟨k, n, t, l⟩ := v; simp [V.size]
  unfold V.fitB
  rw [← h2 bigN, ← h1]
  by_cases h4 : all.length ≤ 400
  · rw [decide_eq_true h4, Bool.true_and]
    unfold big400
    rw [decide_eq_false (show ¬ (400 : Int) < (all.length : Int) by omega)]
    simp
  · rw [decide_eq_false h4, Bool.false_and]
    symm
    rw [List.all_eq_false]
    obtain ⟨x, hx⟩ := List.exists_mem_of_length_pos h3
    refine ⟨x, hx, ?_⟩
    unfold big400
    rw [decide_eq_true (show (400 : Int) < (all.length : Int) by omega)]
    simp
set_option maxRecDepth 100000 in
set_option maxHeartbeats 4000000 in
theorem valueFault_af (v : V) (hv : v.size ≤ 1048576) : AF Tryz.prog 79 [v.t] (· = .lit (.int .i64 v.check)) := by
  obtain ⟨k0, n0, t0, l0⟩ := v
  refine af_enter tok Tryz.func79 Tryz.ntmps79 Tryz.results79 rfl (by kernel_rfl) rfl rfl fun F hX => ?_
  repeat (first | refine gX ?_ | refine zN1 (fun hlen => ?_) | refine zN2 (fun hlen => ?_) | refine zAl (fun _ => ?_) | refine zBf ?_ | refine zAp (fun _ => ?_))
  refine zBo (fun u0 => ?_)
  repeat (first | refine gG ?_ | refine zN1 (fun hlen => ?_) | refine zN2 (fun hlen => ?_) | refine zAl (fun _ => ?_) | refine zBx (fun _ => ?_) | refine zAp (fun _ => ?_))
  refine x_loop [3, 4, 6, 18, 19, 20, 21, 22, 23, 24, 25, 26, 27, 28, 29, 30, 31, 32, 33, 34, 35, 36, 37, 38, 39, 40, 41, 42, 43, 44, 45, 46] (fun y : Nat × List Vd × Value => [(4, .c (.lit (.int .i64 (y.1 : Nat)))), (3, .own 0 y.2.2)]) (fun y => [.row y.2.2 149 5 y.2.1.length (y.2.1.flatMap atTs)])
    (fun y => Lev (.mk k0 n0 t0 l0) y.2.1 y.1) (fun y => (V.mk k0 n0 t0 l0).size - y.1) (0, [(.mk k0 n0 t0 l0, 1)], u0) (Lev.zero _) ⟨rfl, rfl, trivial⟩ rfl ?_
  rintro ⟨i, all, u⟩ hlev
  dsimp only at hlev ⊢
  have hll := hlev.len
  repeat (first | refine gG ?_ | refine zN1 (fun hlen => ?_) | refine zN2 (fun hlen => ?_) | refine zAl (fun _ => ?_) | refine zBx (fun _ => ?_) | refine zAp (fun _ => ?_))
  refine x_cond rfl (fun h => ?_) (fun h => ?_)
  · have hi' : i < all.length := by simpa using h
    obtain ⟨x, hx⟩ := nth hi'
    have hst := hlev.step hx
    have hsl := hst.len
    have hdp := hlev.deep x (List.mem_of_getElem? hx)
    obtain ⟨⟨ka, na, ta, la⟩, d⟩ := x
    simp only [List.length_append, kids, V.args, List.length_map] at hsl
    dsimp only at hdp
    have hrow : (all.flatMap atTs)[i * 5 + 0 + 3]? = some (.row la.length 4 (V.all la)) := (flat_get atTs 5 atTs_len hx (j := 3) (by omega)).trans rfl
    have hdv : (all.flatMap atTs)[i * 5 + 4]? = some (.lit (.int .i64 (d : Int))) := (flat_get atTs 5 atTs_len hx (j := 4) (by omega)).trans rfl
    have hfl := flat_len atTs 5 atTs_len all
    repeat (first | refine gG ?_ | refine zN1 (fun hlen => ?_) | refine zN2 (fun hlen => ?_) | refine zAl (fun _ => ?_) | refine zBx (fun _ => ?_) | refine zAp (fun _ => ?_))
    refine zIxo i hi' ?_
    repeat (first | refine gG ?_ | refine zN1 (fun hlen => ?_) | refine zN2 (fun hlen => ?_) | refine zAl (fun _ => ?_) | refine zBx (fun _ => ?_) | refine zAp (fun _ => ?_))
    refine zElo1 hrow ?_
    repeat (first | refine gG ?_ | refine zN1 (fun hlen => ?_) | refine zN2 (fun hlen => ?_) | refine zAl (fun _ => ?_) | refine zBx (fun _ => ?_) | refine zAp (fun _ => ?_))
    refine x_loop [3, 6, 31, 32, 33, 34, 35, 36, 37, 38, 39, 40, 41, 42, 43, 44, 45, 46] (fun y : Nat × Value => [(31, .c (.lit (.int .i64 (y.1 : Nat)))), (3, .own 0 y.2)]) (fun y => [.row y.2 149 5 (all.length + y.1) (all.flatMap atTs ++ ((la.take y.1).map fun a => (a, d + 1)).flatMap atTs)])
      (fun y => y.1 ≤ la.length) (fun y => la.length - y.1) (0, u) (Nat.zero_le _) ⟨rfl, rfl, trivial⟩ (by simp) ?_
    rintro ⟨j, w⟩ hj
    dsimp only at hj ⊢
    repeat (first | refine gG ?_ | refine zN1 (fun hlen => ?_) | refine zN2 (fun hlen => ?_) | refine zAl (fun _ => ?_) | refine zBx (fun _ => ?_) | refine zAp (fun _ => ?_))
    refine x_cond rfl (fun h => ?_) (fun h => ?_)
    · have hj' : j < la.length := by simpa using h
      obtain ⟨a, ha⟩ := nth hj'
      have hsn : ((la.take (j + 1)).map fun a => (a, d + 1)).flatMap atTs = ((la.take j).map fun a => (a, d + 1)).flatMap atTs ++ atTs (a, d + 1) := by
        rw [map_snoc2 _ ha, List.flatMap_append]; simp
      have hdv' : (all.flatMap atTs ++ ((la.take j).map fun a => (a, d + 1)).flatMap atTs)[i * 5 + 4]? = some (.lit (.int .i64 (d : Int))) := by rw [List.getElem?_append_left (by omega)]; exact hdv
      have hin : i < all.length + j := by omega
      repeat (first | refine gG ?_ | refine zN1 (fun hlen => ?_) | refine zN2 (fun hlen => ?_) | refine zAl (fun _ => ?_) | refine zBx (fun _ => ?_) | refine zAp (fun _ => ?_))
      refine zIx (j) (hj') ?_
      repeat (first | refine gG ?_ | refine zN1 (fun hlen => ?_) | refine zN2 (fun hlen => ?_) | refine zAl (fun _ => ?_) | refine zBx (fun _ => ?_) | refine zAp (fun _ => ?_))
      refine zEl (V.at ha) (V.ts_len a) ?_
      obtain ⟨kb', nb', tb', lb'⟩ := a
      repeat (first | refine gG ?_ | refine zN1 (fun hlen => ?_) | refine zN2 (fun hlen => ?_) | refine zAl (fun _ => ?_) | refine zBx (fun _ => ?_) | refine zAp (fun _ => ?_))
      refine ac_draw [1, 1, 1, 1, 1, 1, 1, 1, 1, 1, 2, 1] [0, 1, 2, 3, 4, 5, 6, 7, 8, 9, 10, 11] (by kernel_rfl) (by kernel_rfl) ?_
      refine gW ?_
      apply w_q; (focus exact rfl); (focus exact rfl); focus (intro _; (refine zIxo i hin ?_); exact det_refl)
      refine gW ?_
      apply w_q; (focus exact rfl); (focus exact rfl); focus (intro _; (refine zElo1 hdv' ?_); exact det_refl)
      refine gW ?_
      apply w_l; (focus exact rfl); (focus exact rfl); (first | (refine zkL ?_; first | refine zL1 ?_ | refine zL2 ?_ | refine zL3 ?_ | refine zLp ?_) | refine zM ?_ | (refine zkF ?_; first | refine zF1 ?_ | refine zF2 ?_ | refine zF3 ?_) | refine zA ?_ | (refine zkB ?_; first | refine zC5 ?_ | refine zC6 ?_ | refine zC1 ?_ | refine zC2 ?_ | refine zC3 ?_ | refine zC4 ?_ | refine zS5 ?_ | refine zS6 ?_ | refine zS1 ?_ | refine zS2 ?_ | refine zS3 ?_ | refine zS4 ?_ | refine zInc ?_ | refine zQ1 ?_ | refine zQ2 ?_ | refine zQ3 ?_ | refine zQ4 ?_ | refine zQ5 ?_ | refine zQ6 ?_) | (refine zkI ?_; first | refine zN1 (fun hlen => ?_) | refine zN2 (fun hlen => ?_) | refine zN3 ?_ | refine zN4 ?_ | refine zAp (fun _ => ?_)) | refine zS ?_ | refine zAl (fun _ => ?_) | refine zBx (fun _ => ?_) | refine zPt ?_ | refine zPf ?_ | refine zE ?_ | refine zEA ?_ | refine zNot ?_ | refine zBd ?_ | refine zBs ?_ | refine zFn ?_ | refine zK1 ?_ | refine zK2 ?_)
      refine gW ?_
      refine w_nil ?_
      repeat (first | refine gG ?_ | refine zN1 (fun hlen => ?_) | refine zN2 (fun hlen => ?_) | refine zAl (fun _ => ?_) | refine zBx (fun _ => ?_) | refine zAp (fun _ => ?_))
      exact ⟨(j + 1, _), hj', by simp only; omega, x_wkd 1 ⟨rfl, rfl, trivial⟩ (by simp only [hsn, ← List.append_assoc, ← Nat.add_assoc]; rfl) (by repeat (first | exact ag_refl | refine ag_upd rfl ?_ | refine ag_at rfl rfl ?_))⟩
    · have hj' : j = la.length := by have : ¬ j < la.length := by simpa using h
                                     omega
      subst hj'
      repeat (first | refine gG ?_ | refine zN1 (fun hlen => ?_) | refine zN2 (fun hlen => ?_) | refine zAl (fun _ => ?_) | refine zBx (fun _ => ?_) | refine zAp (fun _ => ?_))
      refine ⟨(i + 1, all ++ kids (.mk ka na ta la, d), w), hst, ?_, x_wkd 1 ⟨rfl, rfl, trivial⟩ (by simp only [kids, V.args, List.take_length, List.length_append, List.length_map, List.flatMap_append]; rfl) (by repeat (first | exact ag_refl | refine ag_upd rfl ?_ | refine ag_at rfl rfl ?_))⟩
      have h1 := hlev.size
      have h2 := vsz_len (all.drop i)
      rw [List.length_drop] at h2
      simp only
      omega
  · have hi' : i = all.length := by have := hlev.le
                                    have : ¬ i < all.length := by simpa using h
                                    omega
    subst hi'
    have hbig := big_all hlev
    have hdone := hlev.done
    repeat (first | refine gG ?_ | refine zN1 (fun hlen => ?_) | refine zN2 (fun hlen => ?_) | refine zAl (fun _ => ?_) | refine zBx (fun _ => ?_) | refine zAp (fun _ => ?_))
    refine x_loop [2, 8, 49, 50, 51, 52, 53, 54, 55, 56, 57, 58, 59, 60, 61, 62, 63, 64, 65, 66, 67, 68] (fun y : Nat => [(49, .c (.lit (.int .i64 (y : Nat))))]) (fun _ => [.row u 149 5 all.length (all.flatMap atTs)])
      (fun y => y ≤ all.length ∧ (all.take y).all (big400 all.length) = true) (fun y => all.length - y) 0 ⟨Nat.zero_le _, by simp⟩ ⟨rfl, trivial⟩ rfl ?_
    rintro j ⟨hj, hja⟩
    repeat (first | refine gG ?_ | refine zN1 (fun hlen => ?_) | refine zN2 (fun hlen => ?_) | refine zAl (fun _ => ?_) | refine zBx (fun _ => ?_) | refine zAp (fun _ => ?_))
    refine x_cond rfl (fun h => ?_) (fun h => ?_)
    · have hj' : j < all.length := by simpa using h
      obtain ⟨x, hx⟩ := nth hj'
      have hsa := all_snoc (big400 all.length) hx
      obtain ⟨⟨ka, na, ta, la⟩, d⟩ := x
      have hno : big400 all.length (.mk ka na ta la, d) = false → (V.mk k0 n0 t0 l0).check = 2 := fun hb => by
        rw [V.check, hbig, all_no _ hx hb]; rfl
      repeat (first | refine gG ?_ | refine zN1 (fun hlen => ?_) | refine zN2 (fun hlen => ?_) | refine zAl (fun _ => ?_) | refine zBx (fun _ => ?_) | refine zAp (fun _ => ?_))
      refine zIxo j hj' ?_
      repeat (first | refine gG ?_ | refine zN1 (fun hlen => ?_) | refine zN2 (fun hlen => ?_) | refine zAl (fun _ => ?_) | refine zBx (fun _ => ?_) | refine zAp (fun _ => ?_))
      refine zElo (flat_at atTs 5 atTs_len hx) (atTs_len _) ?_
      cases d1 : decide ((400 : Int) < (all.length : Int))
      · cases d2 : decide ((40 : Int) < (d : Int))
        · cases d3 : decide ((4000 : Int) < (ta.size : Int))
          · repeat (first | refine gG ?_ | refine zN1 (fun hlen => ?_) | refine zN2 (fun hlen => ?_) | refine zAl (fun _ => ?_) | refine zBx (fun _ => ?_) | refine zAp (fun _ => ?_))
            exact ⟨j + 1, ⟨hj', by rw [hsa, hja, big400_eq, d1, d2, d3]; rfl⟩, by omega, x_wkd 1 ⟨rfl, trivial⟩ rfl (by repeat (first | exact ag_refl | refine ag_upd rfl ?_ | refine ag_at rfl rfl ?_))⟩
          · repeat (first | refine gG ?_ | refine zN1 (fun hlen => ?_) | refine zN2 (fun hlen => ?_) | refine zAl (fun _ => ?_) | refine zBx (fun _ => ?_) | refine zAp (fun _ => ?_))
            first | refine zR ?_ | refine zQ ?_
            rw [hno (by rw [big400_eq, d1, d2, d3]; rfl)]; rfl
        · repeat (first | refine gG ?_ | refine zN1 (fun hlen => ?_) | refine zN2 (fun hlen => ?_) | refine zAl (fun _ => ?_) | refine zBx (fun _ => ?_) | refine zAp (fun _ => ?_))
          first | refine zR ?_ | refine zQ ?_
          rw [hno (by rw [big400_eq, d1, d2]; rfl)]; rfl
      · repeat (first | refine gG ?_ | refine zN1 (fun hlen => ?_) | refine zN2 (fun hlen => ?_) | refine zAl (fun _ => ?_) | refine zBx (fun _ => ?_) | refine zAp (fun _ => ?_))
        first | refine zR ?_ | refine zQ ?_
        rw [hno (by rw [big400_eq, d1]; rfl)]; rfl
    · have hj' : j = all.length := by have : ¬ j < all.length := by simpa using h
                                      omega
      subst hj'
      rw [List.take_length] at hja
      rw [hja] at hbig
      have h400 : all.length ≤ 400 := by
        have := hbig
        simp only [V.fitB, Bool.and_eq_true, decide_eq_true_eq] at this
        omega
      repeat (first | refine gG ?_ | refine zN1 (fun hlen => ?_) | refine zN2 (fun hlen => ?_) | refine zAl (fun _ => ?_) | refine zBx (fun _ => ?_) | refine zAp (fun _ => ?_))
      refine x_loop [2, 10, 11, 12, 13, 14, 71, 72, 73, 74, 75, 76, 77, 78, 79, 80, 81, 82, 83, 84, 85, 86, 87, 88, 89, 90, 91, 92, 93, 94, 95, 96, 97, 98, 99, 100, 101, 102, 103, 104, 105, 106, 107, 108, 109, 110, 111, 112, 113, 114, 115, 116, 117, 118, 119, 120, 121, 122, 123, 124, 125, 126, 127, 128, 129, 130, 131, 132, 133] (fun y : Nat => [(71, .c (.lit (.int .i64 (y : Nat))))]) (fun _ => [.row u 149 5 all.length (all.flatMap atTs)])
        (fun y => y ≤ all.length ∧ (all.take y).all (fun x => formP x.1 x.2) = true) (fun y => all.length - y) 0 ⟨Nat.zero_le _, by simp⟩ ⟨rfl, trivial⟩ rfl ?_
      rintro j ⟨hj, hjf⟩
      repeat (first | refine gG ?_ | refine zN1 (fun hlen => ?_) | refine zN2 (fun hlen => ?_) | refine zAl (fun _ => ?_) | refine zBx (fun _ => ?_) | refine zAp (fun _ => ?_))
      refine x_cond rfl (fun h => ?_) (fun h => ?_)
      · have hj' : j < all.length := by simpa using h
        obtain ⟨x, hx⟩ := nth hj'
        have hsa := all_snoc (fun x => formP x.1 x.2) hx
        have hsub := hlev.sub x (List.mem_of_getElem? hx)
        obtain ⟨⟨ka, na, ta, la⟩, d⟩ := x
        have hla : la.length ≤ 400 := by
          have h1 := V.len_sizes la
          simp only [V.size] at hsub hdone
          omega
        have hno : formN (.mk ka na ta la) = false → (V.mk k0 n0 t0 l0).check = 3 := fun hb => by
          rw [V.check, hbig, ← hdone.2 formP, all_no _ hx hb]; rfl
        repeat (first | refine gG ?_ | refine zN1 (fun hlen => ?_) | refine zN2 (fun hlen => ?_) | refine zAl (fun _ => ?_) | refine zBx (fun _ => ?_) | refine zAp (fun _ => ?_))
        refine zIxo j hj' ?_
        repeat (first | refine gG ?_ | refine zN1 (fun hlen => ?_) | refine zN2 (fun hlen => ?_) | refine zAl (fun _ => ?_) | refine zBx (fun _ => ?_) | refine zAp (fun _ => ?_))
        refine zElo (flat_at atTs 5 atTs_len hx) (atTs_len _) ?_
        repeat (first | refine gO ?_ | refine zN1 (fun hlen => ?_) | refine zN2 (fun hlen => ?_) | refine zAl (fun _ => ?_) | refine zBx (fun _ => ?_) | refine zAp (fun _ => ?_))
        rename_i b4
        refine ac_seq ?_
        refine ac_region ?_
        repeat (first | refine gO ?_ | refine zN1 (fun hlen => ?_) | refine zN2 (fun hlen => ?_) | refine zAl (fun _ => ?_) | refine zBx (fun _ => ?_) | refine zAp (fun _ => ?_))
        refine ac_seq ?_
        refine x_join [75, 76, 77, 78, 79, 80, 81, 82, 83, 84, 85, 86, 87, 88, 89, 90, 91, 92, 93, 94, 95, 96, 97, 98, 99, 100, 2, 11, 12] (fun y : {y : ByteArray × Int // okB na ta la.length y.1 y.2 = formN (.mk ka na ta la) ∧ y.1.size ≤ 2} => [(11, .c (.lit (.string y.1.1))), (12, .c (.lit (.int .i64 y.1.2)))])
          (fun _ => [.row u 149 5 all.length (all.flatMap atTs), .box b4 149 [.c (.lit (.int .i64 ka)), .c (.lit (.int .i64 na)), .c (.lit (.string ta)), .c (.row la.length 4 (V.all la)), .c (.lit (.int .i64 (d : Int)))]]) ?_ ?_
        rotate_left
        · skip
          cases e1 : decide (ka = 1)
          · skip
            cases e2 : decide (ka = 2)
            · skip
              cases e6 : decide (ka = 6)
              · skip
                cases e3 : decide (ka = 3)
                · skip
                  cases e4 : decide (ka = 4)
                  · skip
                    cases e5 : decide (ka = 5)
                    · skip
                      cases e7 : decide (ka = 7)
                      · skip
                        cases e8 : decide (ka = 8)
                        · skip
                          repeat (first | refine gG ?_ | refine zN1 (fun hlen => ?_) | refine zN2 (fun hlen => ?_) | refine zAl (fun _ => ?_) | refine zBx (fun _ => ?_) | refine zAp (fun _ => ?_))
                          first | refine zR ?_ | refine zQ ?_
                          rw [hno (by simp_all [formN])]; rfl
                        · obtain rfl := of_decide_eq_true e8
                          repeat (first | refine gG ?_ | refine zN1 (fun hlen => ?_) | refine zN2 (fun hlen => ?_) | refine zAl (fun _ => ?_) | refine zBx (fun _ => ?_) | refine zAp (fun _ => ?_))
                          exact ⟨⟨(⟨#[]⟩, 1), ok8 _ _ _, by decide⟩, x_wkd 2 ⟨rfl, rfl, trivial⟩ rfl (by repeat (first | exact ag_refl | refine ag_upd rfl ?_ | refine ag_at rfl rfl ?_))⟩
                      · obtain rfl := of_decide_eq_true e7
                        repeat (first | refine gG ?_ | refine zN1 (fun hlen => ?_) | refine zN2 (fun hlen => ?_) | refine zAl (fun _ => ?_) | refine zBx (fun _ => ?_) | refine zAp (fun _ => ?_))
                        exact ⟨⟨(⟨#[110, 116]⟩, 400), ok7 _ _ _ hla, by decide⟩, x_wkd 2 ⟨rfl, rfl, trivial⟩ rfl (by repeat (first | exact ag_refl | refine ag_upd rfl ?_ | refine ag_at rfl rfl ?_))⟩
                    · obtain rfl := of_decide_eq_true e5
                      cases e : decide (ta = ⟨#[]⟩)
                      · repeat (first | refine gG ?_ | refine zN1 (fun hlen => ?_) | refine zN2 (fun hlen => ?_) | refine zAl (fun _ => ?_) | refine zBx (fun _ => ?_) | refine zAp (fun _ => ?_))
                        exact ⟨⟨(⟨#[116]⟩, 400), ok5 _ _ _ hla e, by decide⟩, x_wkd 2 ⟨rfl, rfl, trivial⟩ rfl (by repeat (first | exact ag_refl | refine ag_upd rfl ?_ | refine ag_at rfl rfl ?_))⟩
                      · repeat (first | refine gG ?_ | refine zN1 (fun hlen => ?_) | refine zN2 (fun hlen => ?_) | refine zAl (fun _ => ?_) | refine zBx (fun _ => ?_) | refine zAp (fun _ => ?_))
                        first | refine zR ?_ | refine zQ ?_
                        rw [hno (by simp [formN, e])]; rfl
                  · obtain rfl := of_decide_eq_true e4
                    repeat (first | refine gG ?_ | refine zN1 (fun hlen => ?_) | refine zN2 (fun hlen => ?_) | refine zAl (fun _ => ?_) | refine zBx (fun _ => ?_) | refine zAp (fun _ => ?_))
                    exact ⟨⟨(⟨#[116]⟩, 0), ok4 _ _ _, by decide⟩, x_wkd 2 ⟨rfl, rfl, trivial⟩ rfl (by repeat (first | exact ag_refl | refine ag_upd rfl ?_ | refine ag_at rfl rfl ?_))⟩
                · obtain rfl := of_decide_eq_true e3
                  cases e : decide (na = 1)
                  · repeat (first | refine gG ?_ | refine zN1 (fun hlen => ?_) | refine zN2 (fun hlen => ?_) | refine zAl (fun _ => ?_) | refine zBx (fun _ => ?_) | refine zAp (fun _ => ?_))
                    exact ⟨⟨(⟨#[]⟩, 0), ok3 _ _ _ e, by decide⟩, x_wkd 2 ⟨rfl, rfl, trivial⟩ rfl (by repeat (first | exact ag_refl | refine ag_upd rfl ?_ | refine ag_at rfl rfl ?_))⟩
                  · repeat (first | refine gG ?_ | refine zN1 (fun hlen => ?_) | refine zN2 (fun hlen => ?_) | refine zAl (fun _ => ?_) | refine zBx (fun _ => ?_) | refine zAp (fun _ => ?_))
                    exact ⟨⟨(⟨#[110]⟩, 0), ok3' _ _ _ e, by decide⟩, x_wkd 2 ⟨rfl, rfl, trivial⟩ rfl (by repeat (first | exact ag_refl | refine ag_upd rfl ?_ | refine ag_at rfl rfl ?_))⟩
              · obtain rfl := of_decide_eq_true e6
                repeat (first | refine gG ?_ | refine zN1 (fun hlen => ?_) | refine zN2 (fun hlen => ?_) | refine zAl (fun _ => ?_) | refine zBx (fun _ => ?_) | refine zAp (fun _ => ?_))
                exact ⟨⟨(⟨#[110]⟩, 0), ok6 _ _ _, by decide⟩, x_wkd 2 ⟨rfl, rfl, trivial⟩ rfl (by repeat (first | exact ag_refl | refine ag_upd rfl ?_ | refine ag_at rfl rfl ?_))⟩
            · obtain rfl := of_decide_eq_true e2
              repeat (first | refine gG ?_ | refine zN1 (fun hlen => ?_) | refine zN2 (fun hlen => ?_) | refine zAl (fun _ => ?_) | refine zBx (fun _ => ?_) | refine zAp (fun _ => ?_))
              exact ⟨⟨(⟨#[110]⟩, 0), ok2 _ _ _, by decide⟩, x_wkd 2 ⟨rfl, rfl, trivial⟩ rfl (by repeat (first | exact ag_refl | refine ag_upd rfl ?_ | refine ag_at rfl rfl ?_))⟩
          · obtain rfl := of_decide_eq_true e1
            repeat (first | refine gG ?_ | refine zN1 (fun hlen => ?_) | refine zN2 (fun hlen => ?_) | refine zAl (fun _ => ?_) | refine zBx (fun _ => ?_) | refine zAp (fun _ => ?_))
            exact ⟨⟨(⟨#[]⟩, 0), ok1 _ _ _, by decide⟩, x_wkd 2 ⟨rfl, rfl, trivial⟩ rfl (by repeat (first | exact ag_refl | refine ag_upd rfl ?_ | refine ag_at rfl rfl ?_))⟩
        rintro ⟨⟨has, most⟩, hy, hsz⟩
        dsimp only at hy hsz ⊢
        have hc1 := containsB_af 110 has.data.toList
        have hc2 := containsB_af 116 has.data.toList
        repeat (first | refine gG ?_ | refine zN1 (fun hlen => ?_) | refine zN2 (fun hlen => ?_) | refine zAl (fun _ => ?_) | refine zBx (fun _ => ?_) | refine zAp (fun _ => ?_))
        refine zByt (s := has) (by simp only [maxLen]; omega) ?_
        repeat (first | refine gG ?_ | refine zN1 (fun hlen => ?_) | refine zN2 (fun hlen => ?_) | refine zAl (fun _ => ?_) | refine zBx (fun _ => ?_) | refine zAp (fun _ => ?_))
        refine zCall (hc1) ?_
        rintro _ rfl
        repeat (first | refine gG ?_ | refine zN1 (fun hlen => ?_) | refine zN2 (fun hlen => ?_) | refine zAl (fun _ => ?_) | refine zBx (fun _ => ?_) | refine zAp (fun _ => ?_))
        refine zByt (s := has) (by simp only [maxLen]; omega) ?_
        repeat (first | refine gG ?_ | refine zN1 (fun hlen => ?_) | refine zN2 (fun hlen => ?_) | refine zAl (fun _ => ?_) | refine zBx (fun _ => ?_) | refine zAp (fun _ => ?_))
        refine zCall (hc2) ?_
        rintro _ rfl
        cases e1 : decide (na = 0)
        · cases c1 : (has.data.toList.any fun b => decide ((110 : UInt8) = b))
          · skip
            repeat (first | refine gG ?_ | refine zN1 (fun hlen => ?_) | refine zN2 (fun hlen => ?_) | refine zAl (fun _ => ?_) | refine zBx (fun _ => ?_) | refine zAp (fun _ => ?_))
            first | refine zR ?_ | refine zQ ?_
            rw [hno (by rw [← hy]; simp only [okB, e1, c1]; first | rfl | simp)]; rfl
          · skip
            cases e2 : decide (ta = ⟨#[]⟩)
            · cases c2 : (has.data.toList.any fun b => decide ((116 : UInt8) = b))
              · skip
                repeat (first | refine gG ?_ | refine zN1 (fun hlen => ?_) | refine zN2 (fun hlen => ?_) | refine zAl (fun _ => ?_) | refine zBx (fun _ => ?_) | refine zAp (fun _ => ?_))
                first | refine zR ?_ | refine zQ ?_
                rw [hno (by rw [← hy]; simp only [okB, e1, c1, e2, c2]; first | rfl | simp)]; rfl
              · skip
                cases em : decide (most < (la.length : Int))
                · repeat (first | refine gG ?_ | refine zN1 (fun hlen => ?_) | refine zN2 (fun hlen => ?_) | refine zAl (fun _ => ?_) | refine zBx (fun _ => ?_) | refine zAp (fun _ => ?_))
                  exact ⟨j + 1, ⟨hj', by rw [hsa, hjf]; simp only [formP]; rw [← hy]; simp only [okB, e1, c1, e2, c2, em]; first | rfl | simp⟩, by omega, x_wkd 1 ⟨rfl, trivial⟩ rfl (by repeat (first | exact ag_refl | refine ag_upd rfl ?_ | refine ag_at rfl rfl ?_))⟩
                · skip
                  repeat (first | refine gG ?_ | refine zN1 (fun hlen => ?_) | refine zN2 (fun hlen => ?_) | refine zAl (fun _ => ?_) | refine zBx (fun _ => ?_) | refine zAp (fun _ => ?_))
                  first | refine zR ?_ | refine zQ ?_
                  rw [hno (by rw [← hy]; simp only [okB, e1, c1, e2, c2, em]; first | rfl | simp)]; rfl
            · skip
              cases em : decide (most < (la.length : Int))
              · repeat (first | refine gG ?_ | refine zN1 (fun hlen => ?_) | refine zN2 (fun hlen => ?_) | refine zAl (fun _ => ?_) | refine zBx (fun _ => ?_) | refine zAp (fun _ => ?_))
                exact ⟨j + 1, ⟨hj', by rw [hsa, hjf]; simp only [formP]; rw [← hy]; simp only [okB, e1, c1, e2, em]; first | rfl | simp⟩, by omega, x_wkd 1 ⟨rfl, trivial⟩ rfl (by repeat (first | exact ag_refl | refine ag_upd rfl ?_ | refine ag_at rfl rfl ?_))⟩
              · skip
                repeat (first | refine gG ?_ | refine zN1 (fun hlen => ?_) | refine zN2 (fun hlen => ?_) | refine zAl (fun _ => ?_) | refine zBx (fun _ => ?_) | refine zAp (fun _ => ?_))
                first | refine zR ?_ | refine zQ ?_
                rw [hno (by rw [← hy]; simp only [okB, e1, c1, e2, em]; first | rfl | simp)]; rfl
        · skip
          cases e2 : decide (ta = ⟨#[]⟩)
          · cases c2 : (has.data.toList.any fun b => decide ((116 : UInt8) = b))
            · skip
              repeat (first | refine gG ?_ | refine zN1 (fun hlen => ?_) | refine zN2 (fun hlen => ?_) | refine zAl (fun _ => ?_) | refine zBx (fun _ => ?_) | refine zAp (fun _ => ?_))
              first | refine zR ?_ | refine zQ ?_
              rw [hno (by rw [← hy]; simp only [okB, e1, e2, c2]; first | rfl | simp)]; rfl
            · skip
              cases em : decide (most < (la.length : Int))
              · repeat (first | refine gG ?_ | refine zN1 (fun hlen => ?_) | refine zN2 (fun hlen => ?_) | refine zAl (fun _ => ?_) | refine zBx (fun _ => ?_) | refine zAp (fun _ => ?_))
                exact ⟨j + 1, ⟨hj', by rw [hsa, hjf]; simp only [formP]; rw [← hy]; simp only [okB, e1, e2, c2, em]; first | rfl | simp⟩, by omega, x_wkd 1 ⟨rfl, trivial⟩ rfl (by repeat (first | exact ag_refl | refine ag_upd rfl ?_ | refine ag_at rfl rfl ?_))⟩
              · skip
                repeat (first | refine gG ?_ | refine zN1 (fun hlen => ?_) | refine zN2 (fun hlen => ?_) | refine zAl (fun _ => ?_) | refine zBx (fun _ => ?_) | refine zAp (fun _ => ?_))
                first | refine zR ?_ | refine zQ ?_
                rw [hno (by rw [← hy]; simp only [okB, e1, e2, c2, em]; first | rfl | simp)]; rfl
          · skip
            cases em : decide (most < (la.length : Int))
            · repeat (first | refine gG ?_ | refine zN1 (fun hlen => ?_) | refine zN2 (fun hlen => ?_) | refine zAl (fun _ => ?_) | refine zBx (fun _ => ?_) | refine zAp (fun _ => ?_))
              exact ⟨j + 1, ⟨hj', by rw [hsa, hjf]; simp only [formP]; rw [← hy]; simp only [okB, e1, e2, em]; first | rfl | simp⟩, by omega, x_wkd 1 ⟨rfl, trivial⟩ rfl (by repeat (first | exact ag_refl | refine ag_upd rfl ?_ | refine ag_at rfl rfl ?_))⟩
            · skip
              repeat (first | refine gG ?_ | refine zN1 (fun hlen => ?_) | refine zN2 (fun hlen => ?_) | refine zAl (fun _ => ?_) | refine zBx (fun _ => ?_) | refine zAp (fun _ => ?_))
              first | refine zR ?_ | refine zQ ?_
              rw [hno (by rw [← hy]; simp only [okB, e1, e2, em]; first | rfl | simp)]; rfl
      · have hj' : j = all.length := by have : ¬ j < all.length := by simpa using h
                                        omega
        subst hj'
        rw [List.take_length] at hjf
        repeat (first | refine gG ?_ | refine zN1 (fun hlen => ?_) | refine zN2 (fun hlen => ?_) | refine zAl (fun _ => ?_) | refine zBx (fun _ => ?_) | refine zAp (fun _ => ?_))
        first | refine zR ?_ | refine zQ ?_
        rw [V.check, hbig, ← hdone.2 formP, hjf]; rfl
end Go.Proofs.YthgackidonocpaaGreat
namespace Go.Proofs.YthgackidonocpaaGreat
open Go.RowKit
/-- the bytes of a value and the error -/
def V.out (v : V) : List UInt8 := if v.check = 0 then v.bytes else []
def Outs2 (b : List UInt8) (e : Int) (t : T) : Prop := t = .tup [bytRow b, .lit (.int .i64 e)]
end Go.Proofs.YthgackidonocpaaGreat
namespace Go.Proofs.YthgackidonocpaaGreat
open Go.RowKit
theorem rByte_len (s : RS) : (rByte s).2.l.length ≤ s.l.length := by
  obtain ⟨l, b, d⟩ := s
  cases l <;> simp [rByte, RS.fail]
theorem rUns_len : ∀ (k i u : Nat) (s : RS), (rUns k i u s).2.l.length ≤ s.l.length
  | 0, _, _, s => Nat.le_refl _
  | k + 1, i, u, s => by
    have h := rByte_len s
    rw [rUns]
    split
    · exact h
    · split
      · exact h
      · exact Nat.le_trans (rUns_len k _ _ _) h
theorem rNat_len (s : RS) : (rNat s).2.l.length ≤ s.l.length := by
  have h : (rU s).2.l.length ≤ s.l.length := rUns_len _ _ _ s
  unfold rNat
  split <;> exact h
theorem rInt_len (s : RS) : (rInt s).2.l.length ≤ s.l.length := rUns_len _ _ _ s
theorem rInt_dep (s : RS) : (rInt s).2.dep = s.dep := rUns_dep _ _ _ s
theorem rCount_len (s : RS) : (rCount s).2.l.length ≤ s.l.length := by
  have h := rNat_len s
  unfold rCount
  split <;> exact h
theorem rText_len (s : RS) : (rText s).2.l.length ≤ s.l.length := by
  have h := rCount_len s
  simp only [rText, List.length_drop]
  omega
/-- it takes bytes off, and comes back from where it went -/
structure Fair {α : Type} (g : RS → α × RS) : Prop where
  len : ∀ s, (g s).2.l.length ≤ s.l.length
  dep : ∀ s, (g s).2.bad = false → (g s).2.dep = s.dep
  up : ∀ s, s.dep ≤ (g s).2.dep
  top : ∀ s, (g s).2.dep ≤ s.dep + 1
theorem rLoop_fair {α : Type} {g : RS → α × RS} (hg : Fair g) : ∀ n, Fair (rLoop g n)
  | 0 => ⟨fun _ => Nat.le_refl _, fun _ _ => rfl, fun _ => Nat.le_refl _, fun _ => Nat.le_succ _⟩
  | n + 1 => by
    have ih := rLoop_fair hg n
    refine ⟨fun s => ?_, fun s h => ?_, fun s => ?_, fun s => ?_⟩
    · rw [rLoop]
      split
      · exact Nat.le_refl _
      · exact Nat.le_trans (ih.len _) (hg.len s)
    · rw [rLoop] at h ⊢
      split
      · rfl
      · rename_i hc
        rw [if_neg hc] at h
        dsimp only at h ⊢
        rw [ih.dep _ h]
        refine hg.dep s ?_
        cases hb : (g s).2.bad with
        | false => rfl
        | true =>
          cases n with
          | zero => simp only [rLoop] at h; rw [hb] at h; cases h
          | succ n => rw [rLoop, if_pos hb] at h; dsimp only at h; rw [hb] at h; cases h
    · rw [rLoop]
      split
      · exact Nat.le_refl _
      · exact Nat.le_trans (hg.up s) (ih.up _)
    · rw [rLoop]
      split
      · exact Nat.le_succ _
      · dsimp only
        cases hb : (g s).2.bad with
        | false => have h1 := hg.dep s hb; have h2 := ih.top (g s).2; omega
        | true =>
          have h1 := hg.top s
          cases n with
          | zero => simp only [rLoop]; exact h1
          | succ n => rw [rLoop, if_pos hb]; exact h1
theorem rSome_fair {α : Type} {g : RS → α × RS} (hg : Fair g) : Fair (rSome g) :=
  ⟨fun s => Nat.le_trans ((rLoop_fair hg _).len _) (rCount_len s), fun s h => ((rLoop_fair hg _).dep _ h).trans (rCount_dep s), fun s => by have := (rLoop_fair hg (rCount s).1).up (rCount s).2; rw [rCount_dep] at this; exact this, fun s => by have := (rLoop_fair hg (rCount s).1).top (rCount s).2; rw [rCount_dep] at this; exact this⟩
theorem rVal_succ (f : Nat) (s : RS) (h : ¬ 40 < s.dep + 1) : (rVal (f + 1) s).2 = (rSome (rVal f) (rText (rInt (rByte s.up).2).2).2).2.down := by
  rw [rVal, if_neg h]
theorem rVal_stop (f : Nat) (s : RS) (h : 40 < s.dep + 1) : rVal (f + 1) s = (V.zero, s.up.fail) := by
  rw [rVal, if_pos h]
theorem rVal_fair : ∀ f, Fair (rVal f)
  | 0 => ⟨fun _ => Nat.le_refl _, fun _ h => (by cases h), fun _ => Nat.le_succ _, fun _ => Nat.le_refl _⟩
  | f + 1 => by
    have ih := rSome_fair (rVal_fair f)
    refine ⟨fun s => ?_, fun s h => ?_, fun s => ?_, fun s => ?_⟩
    · by_cases h : 40 < s.dep + 1
      · rw [rVal_stop f s h]; exact Nat.le_refl _
      · rw [rVal_succ f s h]
        have h1 := ih.len (rText (rInt (rByte s.up).2).2).2
        have h2 := rText_len (rInt (rByte s.up).2).2
        have h3 := rInt_len (rByte s.up).2
        have h4 := rByte_len s.up
        have h5 : s.up.l = s.l := rfl
        rw [h5] at h4
        simp only [RS.down]
        omega
    · have := ((rVal_ok (f + 1)) s _ _ rfl h).1
      exact (congrArg RS.dep this).symm
    · by_cases h : 40 < s.dep + 1
      · rw [rVal_stop f s h]; exact Nat.le_succ _
      · rw [rVal_succ f s h]
        have h1 := ih.up (rText (rInt (rByte s.up).2).2).2
        rw [rText_dep, rInt_dep, rByte_dep] at h1
        have h5 : s.up.dep = s.dep + 1 := rfl
        rw [h5] at h1
        simp only [RS.down]
        omega
    · by_cases h : 40 < s.dep + 1
      · rw [rVal_stop f s h]; exact Nat.le_refl _
      · rw [rVal_succ f s h]
        have h1 := ih.top (rText (rInt (rByte s.up).2).2).2
        rw [rText_dep, rInt_dep, rByte_dep] at h1
        have h5 : s.up.dep = s.dep + 1 := rfl
        rw [h5] at h1
        simp only [RS.down]
        omega
set_option maxRecDepth 100000 in
set_option maxHeartbeats 2000000 in
theorem someV_ag (b D : Nat) (g : RS → V × RS) (hfg : Fair g) (f : FuncId) (hg : ∀ s : RS, s.dep = D → s.l.length ≤ 1099511627776 → AG Tryz.prog f [.ptr 0 b 0] [rdB b s] (Gives b (g s).1.t (g s).2))
    (s : RS) (hs : s.dep = D) (hl : s.l.length ≤ 1099511627776) :
    AG Tryz.prog 104 [.ptr 0 b 0, .own 0 (bfn f b 0)] [rdB b s] (Gives b (V.row (rSome g s).1) (rSome g s).2) := by
  have hc := countR_ag b s
  have hcl := rCount_len s
  have hcn := rCount_le s
  have hcd := rCount_dep s
  unfold rSome
  generalize rCount s = p at *
  obtain ⟨n0, s0⟩ := p
  dsimp only at hc hcl hcn hcd ⊢
  refine ag_enter 1 tok Tryz.func104 Tryz.ntmps104 Tryz.results104 rfl (by kernel_rfl) rfl fun F => ?_
  repeat (first | refine gG ?_ | refine zAp (fun _ => ?_))
  refine zCallG [0] hc ?_
  rintro _ _ ⟨rfl, rfl⟩
  refine ⟨_, _, re_refl, rfl, rfl, ?_⟩
  repeat (first | refine gG ?_ | refine zAp (fun _ => ?_))
  refine x_own 5 61 4 rfl rfl rfl rfl rfl ?_
  refine x_loop [5, 6, 9, 10, 11, 12, 13, 14, 15, 16, 17, 18, 19, 20, 21, 22, 23, 24] (fun y : Nat × List V × Value × RS => [(6, .c (.lit (.int .i64 (y.1 : Int)))), (5, .own 1 y.2.2.1)]) (fun y => [rdB b y.2.2.2, .row y.2.2.1 61 4 y.2.1.length (V.all y.2.1)])
    (fun y => (y.2.2.2.bad = false → y.2.2.2.dep = D) ∧ (y.2.1 ++ (rLoop g y.1 y.2.2.2).1, (rLoop g y.1 y.2.2.2).2) = rLoop g n0 s0 ∧ y.2.1.length + y.1 ≤ 1099511627776 ∧ y.2.2.2.l.length ≤ 1099511627776) (fun y => y.1) (n0, [], .slice none 0 0, s0) ⟨fun _ => hcd.trans hs, by simp, by simp only [List.length_nil]; omega, by simp only; omega⟩ ⟨rfl, rfl, trivial⟩ rfl ?_
  rintro ⟨n, out, v, s'⟩ ⟨hd, hinv, hlen, hsl⟩
  dsimp only at hd hinv hlen hsl ⊢
  cases n with
  | zero =>
    have d1 : decide ((0 : Int) < ((0 : Nat) : Int)) = false := rfl
    simp only [rLoop, List.append_nil] at hinv
    refine x_fz 5 rfl rfl rfl rfl ?_
    repeat (first | refine gG ?_ | refine zAp (fun _ => ?_))
    refine zG ?_
    rw [← hinv]
    exact ⟨rfl, rfl⟩
  | succ n =>
    have d1 : decide ((0 : Int) < ((n + 1 : Nat) : Int)) = true := decide_eq_true (by omega)
    obtain ⟨l1, bad1, dp1⟩ := s'
    cases bad1
    · have hdd := hd rfl
      have hca := hg ⟨l1, false, dp1⟩ hdd hsl
      have hgl := hfg.len ⟨l1, false, dp1⟩
      have hgd := hfg.dep ⟨l1, false, dp1⟩
      simp only [rLoop, Bool.false_eq_true, if_false] at hinv
      dsimp only at hdd hgl hgd
      generalize g ⟨l1, false, dp1⟩ = q at *
      obtain ⟨⟨kv, nv, tv, lv⟩, s2⟩ := q
      dsimp only at hinv hca hgl hgd
      repeat (first | refine gG ?_ | refine zAp (fun _ => ?_))
      refine zCallGb [0] hca ?_
      rintro _ _ ⟨rfl, rfl⟩
      refine ⟨_, _, re_refl, rfl, rfl, ?_⟩
      repeat (first | refine gG ?_ | refine zAp (fun _ => ?_))
      refine lo_sub rfl rfl (r := (n : Int)) (by rw [IntWalk.i64_in _ (by omega)]; omega) ?_
      repeat (first | refine gG ?_ | refine zAp (fun _ => ?_))
      exact ⟨(n, out ++ [.mk kv nv tv lv], _, s2), ⟨fun h => (hgd h).trans hdd, by simpa using hinv, by simp only [List.length_append, List.length_cons, List.length_nil]; omega, by simp only at hsl ⊢; omega⟩, by simp only; omega, x_wkd 2 ⟨rfl, rfl, trivial⟩ (by simp only [V.all_app, V.all_one, List.length_append, List.length_cons, List.length_nil]; rfl) (by repeat (first | exact ag_refl | refine ag_upd rfl ?_ | refine ag_at rfl rfl ?_))⟩
    · simp only [rLoop, if_true, List.append_nil] at hinv
      refine x_fz 5 rfl rfl rfl rfl ?_
      repeat (first | refine gG ?_ | refine zAp (fun _ => ?_))
      refine zG ?_
      rw [← hinv]
      exact ⟨rfl, rfl⟩
end Go.Proofs.YthgackidonocpaaGreat
