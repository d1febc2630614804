/-
  Texts of this proof, part 10: Vmb Vlb Vsk Vlc.
-/
import Derived.Test.YtnkafjkcjpajgaaQLockAnew9
import Derived.Laws.StructEq
import Derived.Lib.MinMax
import Derived.Shelf.SlIter.Nil
import Derived.Shelf.SortM.Plain
import Derived.Shelf.SortM.SortNone
import Derived.Test.YtnkafjkcjpajgaaProg
namespace Go.Proofs.Ytnkafjkcjpajgaa
open Go.RowKit
def Pk.same (a b : Pk) : Bool := decide (a.name = b.name) && decide (a.version = b.version)
theorem Pk.same_self (a : Pk) : a.same a = true := by simp [Pk.same]
theorem pk_fields : Try.prog.underlying 46 = some (.struct (Try.prog.fieldsOf 46)) := by kernel_rfl
theorem pk_held : Try.prog.stoodInHeld 46 = false := by kernel_rfl
theorem pk_guard : Try.prog.eqGuardType Try.prog.depth 46 = false := by kernel_rfl
set_option maxRecDepth 100000 in
theorem eq_pk (d : Nat) (s s' : ByteArray) (a a' : Int) (w : World) :
    (Op.equalIn (d + 1 + 1) 46 (.agg [.string s, .int .i64 a].toArray) (.agg [.string s', .int .i64 a'].toArray)).run Try.prog w = .ok (Pk.same ⟨s, a⟩ ⟨s', a'⟩) w := by
  rw [run_equalIn_struct w (d + 1) 46 _ _ pk_fields pk_held]
  have h1 := pk_fields
  rw [Try.underlying46] at h1
  injection h1 with h1
  injection h1 with h1
  rw [← h1]
  have e1 : ∀ x y : ByteArray, (x.toList == y.toList) = decide (x = y) := fun x y => str_eq
  by_cases hs : s = s' <;> by_cases ha : a = a' <;>
    simp [Op.eqFields, part, Try.isAgg9, Try.isAgg3, run_equalIn_string w _ _ _ _ Try.underlying9, run_equalIn_int w _ _ _ _ _ _ Try.underlying3, e1, Pk.same, hs, ha]
theorem lo_neqPk {F : Frm} {d : Option Tmp} {ty : TypeId} {pos : String} {aft : Array Edge} {g : Option (Nat × Bool)} {ρ : Operand → AV} {hp : List Blk} {K : AV → List Blk → Prop} {t' : TypeId} {x y : Operand} (u v : Pk) {r : Bool} (hr : (!u.same v) = r) (h : K (.c (.lit (.bool r))) hp) (hx : ρ x = .c (.agg u.ts)) (hy : ρ y = .c (.agg v.ts)) : LO Try.prog F ⟨d, .binOp .neq 46 x y t', ty, pos, aft, g⟩ ρ hp K := by
  subst hr
  obtain ⟨s, a⟩ := u
  obtain ⟨s', a'⟩ := v
  refine LO.same (fun M e w he hh => ?_) h
  have h1 := he x (by simp [Op.operands])
  rw [hx] at h1
  have h2 := he y (by simp [Op.operands])
  rw [hy] at h2
  simp only [RA, RT, Pk.ts, RTs] at h1 h2
  obtain ⟨xs, h1, q0, r0, rfl, rfl, q1, r1, rfl, rfl, rfl⟩ := h1
  obtain ⟨ys, h2, q0, r0, rfl, rfl, q1, r1, rfl, rfl, rfl⟩ := h2
  refine ⟨.bool (!(Pk.same ⟨s, a⟩ ⟨s', a'⟩)), ?_, by simp only [RA, RT]⟩
  have hg := run_eqGuard_agg (P := Try.prog) w .neq 46 x y [.string s, .int .i64 a].toArray [.string s', .int .i64 a'].toArray pk_guard
  have hr := run_neq_struct (P := Try.prog) w 46 [.string s, .int .i64 a].toArray [.string s', .int .i64 a'].toArray
  have he2 := eq_pk 9998 s s' a a' w
  rw [show (9998 + 1 + 1) = 10000 from rfl] at he2
  rw [he2, Result.andThen_ok] at hr
  simp [execOp, h1, h2, hg, hr]
theorem lo_eqPk {F : Frm} {d : Option Tmp} {ty : TypeId} {pos : String} {aft : Array Edge} {g : Option (Nat × Bool)} {ρ : Operand → AV} {hp : List Blk} {K : AV → List Blk → Prop} {t' : TypeId} {x y : Operand} (u v : Pk) {r : Bool} (hr : u.same v = r) (h : K (.c (.lit (.bool r))) hp) (hx : ρ x = .c (.agg u.ts)) (hy : ρ y = .c (.agg v.ts)) : LO Try.prog F ⟨d, .binOp .eql 46 x y t', ty, pos, aft, g⟩ ρ hp K := by
  subst hr
  obtain ⟨s, a⟩ := u
  obtain ⟨s', a'⟩ := v
  refine LO.same (fun M e w he hh => ?_) h
  have h1 := he x (by simp [Op.operands])
  rw [hx] at h1
  have h2 := he y (by simp [Op.operands])
  rw [hy] at h2
  simp only [RA, RT, Pk.ts, RTs] at h1 h2
  obtain ⟨xs, h1, q0, r0, rfl, rfl, q1, r1, rfl, rfl, rfl⟩ := h1
  obtain ⟨ys, h2, q0, r0, rfl, rfl, q1, r1, rfl, rfl, rfl⟩ := h2
  refine ⟨.bool (Pk.same ⟨s, a⟩ ⟨s', a'⟩), ?_, by simp only [RA, RT]⟩
  have hg := run_eqGuard_agg (P := Try.prog) w .eql 46 x y [.string s, .int .i64 a].toArray [.string s', .int .i64 a'].toArray pk_guard
  have hr := run_eql_struct (P := Try.prog) w 46 [.string s, .int .i64 a].toArray [.string s', .int .i64 a'].toArray
  have he2 := eq_pk 9998 s s' a a' w
  rw [show (9998 + 1 + 1) = 10000 from rfl] at he2
  rw [he2, Result.andThen_ok] at hr
  simp [execOp, h1, h2, hg, hr]
set_option maxRecDepth 100000 in
set_option maxHeartbeats 1000000 in
theorem eqPks_af (l : List Pk) : AF Try.prog 27 [Pk.row l, Pk.row l] (· = .lit (.bool true)) := by
  have q1 : decide (((l.length : Nat) : Int) = ((l.length : Nat) : Int)) = true := decide_eq_true rfl
  refine af_enter tok Try.func27 Try.ntmps27 Try.results27 rfl (by kernel_rfl) rfl rfl fun F hX => ?_
  repeat (first | refine gG ?_ | refine zN1 (fun hlen => ?_) | refine zN2 (fun hlen => ?_))
  refine x_loop [4, 5, 13, 14, 15, 16, 17, 18, 19, 20, 21, 22, 23, 24, 25] (fun k : Nat => [(13, .c (.lit (.int .i64 (k : Nat))))]) (fun _ => []) (fun k => k ≤ l.length) (fun k => l.length - k) 0 (Nat.zero_le _) ⟨rfl, trivial⟩ rfl ?_
  rintro k hk
  repeat (first | refine gG ?_ | refine zN1 (fun hlen => ?_) | refine zN2 (fun hlen => ?_))
  refine x_cond rfl (fun h => ?_) (fun h => ?_)
  · have hk' : k < l.length := by simpa using h
    obtain ⟨r, hr⟩ := nth hk'
    have hat := Pk.at hr
    have hself := r.same_self
    clear h hr
    repeat (first | refine gG ?_ | refine zN1 (fun hlen => ?_) | refine zN2 (fun hlen => ?_))
    refine ac_draw [1, 1, 1, 1, 1, 1, 1, 1, 1] [0, 1, 2, 3, 4, 5, 6, 7, 8] (by kernel_rfl) (by kernel_rfl) ?_
    refine gW ?_
    apply w_q; (focus exact rfl); (focus exact rfl); focus (intro _; (refine zIx k hk' ?_); exact det_refl)
    apply w_q; (focus exact rfl); (focus exact rfl); focus (intro _; (refine zEl hat (Pk.ts_len _) ?_); exact det_refl)
    refine gW ?_
    apply w_q; (focus exact rfl); (focus exact rfl); focus (intro _; (refine zIx k hk' ?_); exact det_refl)
    apply w_q; (focus exact rfl); (focus exact rfl); focus (intro _; (refine zEl hat (Pk.ts_len _) ?_); exact det_refl)
    apply w_q; (focus exact rfl); (focus exact rfl); focus (intro _; (refine lo_neqPk r r (r := false) (by rw [hself]; rfl) ?_ rfl rfl); exact det_refl)
    refine w_nil ?_
    repeat (first | refine gG ?_ | refine zN1 (fun hlen => ?_) | refine zN2 (fun hlen => ?_))
    exact ⟨k + 1, hk', by omega, x_wkd 0 ⟨rfl, trivial⟩ rfl (by repeat (first | exact ag_refl | refine ag_upd rfl ?_ | refine ag_at rfl rfl ?_))⟩
  · have hk' : k = l.length := by
      have : ¬ k < l.length := by simpa using h
      omega
    subst hk'
    clear h
    repeat (first | refine gG ?_ | refine zN1 (fun hlen => ?_) | refine zN2 (fun hlen => ?_))
    first | refine zR ?_ | refine zQ ?_
    rfl
set_option maxRecDepth 100000 in
set_option maxHeartbeats 1000000 in
theorem idxOfPk_af (l : List Pk) (p : Pk) : AF Try.prog 147 [Pk.row l, .agg (Pk.ts p)] (· = .lit (.int .i64 (idxI (fun q => p.same q) l))) := by
  refine af_enter tok Try.func147 Try.ntmps147 Try.results147 rfl (by kernel_rfl) rfl rfl fun F hX => ?_
  obtain ⟨pn, pv⟩ := p
  repeat (first | refine gG ?_ | refine zN1 (fun hlen => ?_) | refine zN2 (fun hlen => ?_) | refine zBf ?_)
  refine x_loop [4, 5, 8, 9, 10, 11, 12, 13, 14, 15, 16, 17, 18] (fun k : Nat => [(8, .c (.lit (.int .i64 (k : Nat))))]) (fun _ => []) (fun k => k ≤ l.length ∧ idxAt (fun q => Pk.same ⟨pn, pv⟩ q) l k) (fun k => l.length - k) 0 ⟨Nat.zero_le _, idxAt_zero _ l⟩ ⟨rfl, trivial⟩ rfl fun k hk => ?_
  repeat (first | refine gG ?_ | refine zN1 (fun hlen => ?_) | refine zN2 (fun hlen => ?_) | refine zBx (fun _ => ?_))
  refine x_cond rfl (fun h => ?_) (fun h => ?_)
  · have hk' : k < l.length := by simpa using h
    obtain ⟨a, ha⟩ := nth hk'
    have hat := Pk.at ha
    have hno := fun hp => idxAt_no hk.2 ha hp
    have hyes := fun hp => idxAt_yes hk.2 ha hp
    clear h ha hk
    generalize hs : Pk.same ⟨pn, pv⟩ a = sm at *
    cases sm
    · replace hno := hno rfl
      repeat (first | refine gG ?_ | refine zN1 (fun hlen => ?_) | refine zN2 (fun hlen => ?_) | refine zBx (fun _ => ?_))
      refine ac_draw [1, 1, 1, 1, 1, 1] [0, 1, 2, 3, 4, 5] (by kernel_rfl) (by kernel_rfl) ?_
      refine gW ?_
      apply w_q; (focus exact rfl); (focus exact rfl); focus (intro _; (refine zIx k hk' ?_); exact det_refl)
      apply w_q; (focus exact rfl); (focus exact rfl); focus (intro _; (refine zEl hat (Pk.ts_len _) ?_); exact det_refl)
      apply w_q; (focus exact rfl); (focus exact rfl); focus (intro _; (refine lo_eqPk ⟨pn, pv⟩ a hs ?_ rfl rfl); exact det_refl)
      refine w_nil ?_
      repeat (first | refine gG ?_ | refine zN1 (fun hlen => ?_) | refine zN2 (fun hlen => ?_) | refine zBx (fun _ => ?_))
      exact ⟨k + 1, ⟨hk', hno⟩, by omega, x_wkd 0 ⟨rfl, trivial⟩ rfl (by repeat (first | exact ag_refl | refine ag_upd rfl ?_ | refine ag_at rfl rfl ?_))⟩
    · replace hyes := hyes rfl
      repeat (first | refine gG ?_ | refine zN1 (fun hlen => ?_) | refine zN2 (fun hlen => ?_) | refine zBx (fun _ => ?_))
      refine ac_draw [1, 1, 1, 1, 1, 1] [0, 1, 2, 3, 4, 5] (by kernel_rfl) (by kernel_rfl) ?_
      refine gW ?_
      apply w_q; (focus exact rfl); (focus exact rfl); focus (intro _; (refine zIx k hk' ?_); exact det_refl)
      apply w_q; (focus exact rfl); (focus exact rfl); focus (intro _; (refine zEl hat (Pk.ts_len _) ?_); exact det_refl)
      apply w_q; (focus exact rfl); (focus exact rfl); focus (intro _; (refine lo_eqPk ⟨pn, pv⟩ a hs ?_ rfl rfl); exact det_refl)
      refine w_nil ?_
      repeat (first | refine gG ?_ | refine zN1 (fun hlen => ?_) | refine zN2 (fun hlen => ?_) | refine zBx (fun _ => ?_))
      first | refine zR ?_ | refine zQ ?_
      rw [hyes]; rfl
  · have hk' : k = l.length := by have : ¬ k < l.length := by simpa using h
                                  omega
    subst hk'
    repeat (first | refine gG ?_ | refine zN1 (fun hlen => ?_) | refine zN2 (fun hlen => ?_) | refine zBx (fun _ => ?_))
    first | refine zR ?_ | refine zQ ?_
    rw [idxAt_end hk.2]; rfl
set_option maxRecDepth 100000 in
set_option maxHeartbeats 1000000 in
theorem hasPk_af (l : List Pk) (p : Pk) : AF Try.prog 122 [Pk.row l, .agg (Pk.ts p)] (· = .lit (.bool (l.any fun q => p.same q))) := by
  have hc := idxOfPk_af l p
  refine af_enter tok Try.func122 Try.ntmps122 Try.results122 rfl (by kernel_rfl) rfl rfl fun F hX => ?_
  obtain ⟨pn, pv⟩ := p
  repeat (first | refine gG ?_ | refine zBf ?_)
  refine zCall (hc) ?_
  rintro _ rfl
  repeat (first | refine gG ?_ | refine zBf ?_)
  first | refine zR ?_ | refine zQ ?_
  rw [← idxI_any]; rfl
def usAll (l : List Us) : List T := l.flatMap Us.ts
theorem usAll_app (a b : List Us) : usAll (a ++ b) = usAll a ++ usAll b := by simp [usAll]
set_option maxRecDepth 100000 in
set_option maxHeartbeats 1000000 in
theorem growU_ag (n : Nat) (hn : n ≤ 1048576) : AG Try.prog 123 [.c (.lit (.slice none 0 0)), .c (.lit (.int .i64 (n : Nat)))] [] (fun r hs => ∃ v', r = .own 0 v' ∧ hs = [.row v' 118 3 0 []]) := by
  have d0 : decide (((n : Nat) : Int) < 0) = false := decide_eq_false (by omega)
  rcases Nat.eq_zero_or_pos n with rfl | h0
  · have d1 : decide ((0 : Int) < (((0 : Nat) : Nat) : Int) - (0 - 0)) = false := rfl
    refine ag_enter 2 tok Try.func123 Try.ntmps123 Try.results123 rfl (by kernel_rfl) rfl fun F => ?_
    repeat (first | refine gO ?_ | refine zSub ?_ | refine zCap0 ?_ | refine ac_seq ?_ | refine ac_block ?_ | refine ac_region ?_ | refine ac_skip ?_ | refine zT ?_ | refine zF ?_)
    refine x_own 4 118 3 rfl rfl rfl rfl rfl ?_
    repeat (first | refine gG ?_ | refine zN1 (fun hlen => ?_) | refine zN2 (fun hlen => ?_) | refine zSub ?_ | refine zAp (fun _ => ?_))
    refine zG ?_
    exact ⟨_, rfl, rfl⟩
  · have d1 : decide ((0 : Int) < ((n : Nat) : Int) - (0 - 0)) = true := decide_eq_true (by omega)
    refine ag_enter 2 tok Try.func123 Try.ntmps123 Try.results123 rfl (by kernel_rfl) rfl fun F => ?_
    repeat (first | refine gG ?_ | refine zSub ?_ | refine zCap0 ?_ | refine zHn ?_)
    refine zAp0 n h0 hn (fun _ ts => ?_)
    repeat (first | refine gG ?_ | refine zSub ?_ | refine zCap0 ?_ | refine zHn ?_)
    refine zQh (n := n) 0 (Nat.zero_le _) (fun _ => ?_)
    repeat (first | refine gG ?_ | refine zN1 (fun hlen => ?_) | refine zN2 (fun hlen => ?_) | refine zSub ?_ | refine zAp (fun _ => ?_))
    refine zG ?_
    exact ⟨_, rfl, rfl⟩
theorem catU_at {L : List (List Us)} {k : Nat} {a : List Us} (h : L[k]? = some a) : (L.map fun x => Us.row x)[k * 1]? = some (Us.row a) := by simp [h]
set_option maxRecDepth 100000 in
set_option maxHeartbeats 1000000 in
theorem concatU_af (L : List (List Us)) (hL : L.flatten.length ≤ 1048576) (hl : L.length ≤ 1048576) : AF Try.prog 97 [.row L.length 1 (L.map fun x => Us.row x)] (· = Us.row L.flatten) := by
  have hg := growU_ag L.flatten.length hL
  refine af_enter tok Try.func97 Try.ntmps97 Try.results97 rfl (by kernel_rfl) rfl rfl fun F hX => ?_
  repeat (first | refine gG ?_ | refine zN1 (fun hlen => ?_) | refine zN2 (fun hlen => ?_) | refine zAp (fun _ => ?_))
  refine x_loop [3, 5, 11, 12, 13, 14, 15, 16, 17, 18, 19, 20, 21, 22] (fun k : Nat => [(11, .c (.lit (.int .i64 (k : Nat)))), (3, .c (.lit (.int .i64 ((L.take k).flatten.length : Nat))))]) (fun _ => []) (fun k => k ≤ L.length) (fun k => L.length - k) 0 (Nat.zero_le _) ⟨rfl, rfl, trivial⟩ rfl ?_
  intro k hk
  repeat (first | refine gG ?_ | refine zN1 (fun hlen => ?_) | refine zN2 (fun hlen => ?_) | refine zAp (fun _ => ?_))
  refine x_cond rfl (fun h => ?_) (fun h => ?_)
  · have hk' : k < L.length := by simpa using h
    obtain ⟨a, ha⟩ := nth hk'
    have hat := catU_at ha
    have hsn : (L.take (k + 1)).flatten.length = (L.take k).flatten.length + a.length := by rw [List.take_add_one, ha]; simp
    have hle : (L.take (k + 1)).flatten.length ≤ L.flatten.length := by
      have := congrArg (fun r => r.flatten.length) (List.take_append_drop (k + 1) L)
      simp only [List.flatten_append, List.length_append] at this
      omega
    have d0 : decide ((((L.take k).flatten.length + a.length : Nat) : Int) < 0) = false := decide_eq_false (by omega)
    clear h ha
    repeat (first | refine gG ?_ | refine zN1 (fun hlen => ?_) | refine zN2 (fun hlen => ?_) | refine zAp (fun _ => ?_))
    refine zIx k hk' ?_
    repeat (first | refine gG ?_ | refine zN1 (fun hlen => ?_) | refine zN2 (fun hlen => ?_) | refine zAp (fun _ => ?_))
    refine zEl1 hat ?_
    repeat (first | refine gA ?_ | refine zN1 (fun hlen => ?_) | refine zN2 (fun hlen => ?_))
    exact ⟨k + 1, hk', by omega, x_wkd 0 ⟨rfl, by rw [hsn]; rfl, trivial⟩ rfl (by repeat (first | exact ag_refl | refine ag_upd rfl ?_ | refine ag_at rfl rfl ?_))⟩
  have hk' : k = L.length := by
    have : ¬ k < L.length := by simpa using h
    omega
  subst hk'
  clear h hk
  rw [List.take_length]
  repeat (first | refine gG ?_ | refine zN1 (fun hlen => ?_) | refine zN2 (fun hlen => ?_) | refine zAp (fun _ => ?_))
  refine zCallG [] hg ?_
  rintro _ _ ⟨v', rfl, rfl⟩
  refine ⟨.own 0 v', _, re_own, rfl, rfl, ?_⟩
  clear hg
  repeat (first | refine gG ?_ | refine zN1 (fun hlen => ?_) | refine zN2 (fun hlen => ?_) | refine zAp (fun _ => ?_))
  refine x_loop [6, 8, 27, 28, 29, 30, 31, 32, 33, 34] (fun y : Nat × Value => [(27, .c (.lit (.int .i64 (y.1 : Nat)))), (6, .own 0 y.2)]) (fun y => [.row y.2 118 3 (L.take y.1).flatten.length (usAll (L.take y.1).flatten)]) (fun y => y.1 ≤ L.length) (fun y => L.length - y.1) (0, v') (Nat.zero_le _) ⟨rfl, rfl, trivial⟩ rfl ?_
  rintro ⟨k, v⟩ hk
  dsimp only at hk ⊢
  repeat (first | refine gG ?_ | refine zN1 (fun hlen => ?_) | refine zN2 (fun hlen => ?_) | refine zAp (fun _ => ?_))
  refine x_cond rfl (fun h => ?_) (fun h => ?_)
  · have hk' : k < L.length := by simpa using h
    obtain ⟨a, ha⟩ := nth hk'
    have hat := catU_at ha
    have hsn : (L.take (k + 1)).flatten = (L.take k).flatten ++ a := by rw [List.take_add_one, ha]; simp
    have hle : (L.take (k + 1)).flatten.length ≤ L.flatten.length := by
      have := congrArg (fun r => r.flatten.length) (List.take_append_drop (k + 1) L)
      simp only [List.flatten_append, List.length_append] at this
      omega
    have hl1 : (L.take (k + 1)).flatten.length = (L.take k).flatten.length + a.length := by rw [hsn, List.length_append]
    have hc1 : usAll (L.take (k + 1)).flatten = usAll (L.take k).flatten ++ usAll a := by rw [hsn]; exact usAll_app _ _
    clear h ha hsn
    repeat (first | refine gG ?_ | refine zN1 (fun hlen => ?_) | refine zN2 (fun hlen => ?_) | refine zAp (fun _ => ?_))
    refine zIx k hk' ?_
    repeat (first | refine gG ?_ | refine zN1 (fun hlen => ?_) | refine zN2 (fun hlen => ?_) | refine zAp (fun _ => ?_))
    refine zEl1 hat ?_
    repeat (first | refine gG ?_ | refine zN1 (fun hlen => ?_) | refine zN2 (fun hlen => ?_) | refine zAp (fun _ => ?_))
    exact ⟨(k + 1, _), hk', by simp only; omega, x_wkd 1 ⟨rfl, rfl, trivial⟩ (by simp only [hl1, hc1]; rfl) (by repeat (first | exact ag_refl | refine ag_upd rfl ?_ | refine ag_at rfl rfl ?_))⟩
  · have hk' : k = L.length := by
      have : ¬ k < L.length := by simpa using h
      omega
    subst hk'
    clear h
    rw [List.take_length]
    repeat (first | refine gG ?_ | refine zN1 (fun hlen => ?_) | refine zN2 (fun hlen => ?_) | refine zAp (fun _ => ?_))
    first | refine zR ?_ | refine zQ ?_
    rfl
theorem catU2_af (a b : List Us) (h : a.length + b.length ≤ 1048576) : AF Try.prog 97 [.row 2 1 [Us.row a, Us.row b]] (· = Us.row (a ++ b)) := by
  have := concatU_af [a, b] (by simpa using h) (by simp)
  simpa using this
abbrev SB (l : List Md) (fs : List Pk) (bs bm : Nat) (P : PM) (W : List Us) : List Blk := [.box bs 110 [.c (Md.row l), .c (Pk.row fs), .own 1 (.map (some bm)), .c (Us.row W)], .mp bm (mkeys Value.string (mapT Md.t P))]
def Md.z : List T := [.lit (.string ⟨#[]⟩), .lit (.int .i64 0), .lit (.slice none 0 0)]
abbrev SB3 (l : List Md) (fs : List Pk) (bs bm b1 : Nat) (P : PM) (W : List Us) : List Blk := [.box bs 110 [.c (Md.row l), .c (Pk.row fs), .own 1 (.map (some bm)), .c (Us.row W)], .mp bm (mkeys Value.string (mapT Md.t P)), .box b1 107 [.ptr 0 bs 0]]
theorem look_none {P : PM} {n : ByteArray} (h : gget n P = none) : (mget n (mapT Md.t P)).getD (.agg Md.z) = .agg [.lit (.string ⟨#[]⟩), .lit (.int .i64 0), .lit (.slice none 0 0)] ∧ (mget n (mapT Md.t P)).isSome = false := by
  rw [mget_T, h]; exact ⟨rfl, rfl⟩
theorem look_some {P : PM} {n : ByteArray} {a : ByteArray} {v : Int} {us : List Us} (h : gget n P = some ⟨a, v, us⟩) : (mget n (mapT Md.t P)).getD (.agg Md.z) = .agg [.lit (.string a), .lit (.int .i64 v), Us.row us] ∧ (mget n (mapT Md.t P)).isSome = true := by
  rw [mget_T, h]; exact ⟨rfl, rfl⟩
set_option maxRecDepth 100000 in
set_option maxHeartbeats 2000000 in
theorem satisfied1_ag (l : List Md) (fs : List Pk) (bs bm b1 : Nat) (P : PM) (W : List Us) (u : Us) : AG Try.prog 125 [.c (.agg (Us.ts u)), .ptr 2 b1 0] (SB3 l fs bs bm b1 P W) (fun r hs => r = .c (.lit (.bool (!okW P u))) ∧ hs = SB3 l fs bs bm b1 P W) := by
  have hok : okW P u = match gget u.name P with | none => true | some m => inV u m.version := rfl
  rcases hg : gget u.name P with _ | m
  · obtain ⟨hlk, hlc⟩ := look_none hg
    rw [hg] at hok
    replace hok : okW P u = true := hok
    rw [hok]
    clear hok hg
    obtain ⟨un, ulo, uhi⟩ := u
    dsimp only at hlk hlc
    refine ag_enter 3 tok Try.func125 Try.ntmps125 Try.results125 rfl (by kernel_rfl) rfl fun F => ?_
    repeat (first | refine gG ?_ | refine zAl (fun _ => ?_) | refine zBx (fun _ => ?_))
    refine ac_draw [1, 1, 1, 1, 1, 1, 1, 1, 0, 0, 3, 2, 1] [0, 1, 2, 3, 4, 5, 6, 7, 8, 9, 10, 11, 12] (by kernel_rfl) (by kernel_rfl) ?_
    refine gW ?_
    apply w_q; (focus exact rfl); (focus exact rfl); focus (intro _; (refine zLksa 9 113 (zs := Md.z) hlk hlc ?_); exact det_refl)
    refine gW ?_
    apply w_a; (focus exact rfl); (focus exact rfl); refine v_alloc tok rfl rfl rfl (fun _ => rfl) (fun _ => ⟨⟨_, rfl⟩, ?_⟩)
    apply w_l; (focus exact rfl); (focus exact rfl); (refine zS ?_)
    refine gW ?_
    refine w_nil ?_
    repeat (first | refine gG ?_ | refine zAl (fun _ => ?_) | refine zBx (fun _ => ?_))
    refine zG ?_
    exact ⟨rfl, rfl⟩
  · obtain ⟨a, v, us⟩ := m
    obtain ⟨hlk, hlc⟩ := look_some hg
    rw [hg] at hok
    replace hok : okW P u = !(decide (v < u.low) || decide (u.high < v)) := hok
    rw [hok, Bool.not_not]
    clear hok hg
    obtain ⟨un, ulo, uhi⟩ := u
    dsimp only at hlk hlc ⊢
    cases d1 : decide (v < ulo)
    · cases d2 : decide (uhi < v)
      · refine ag_enter 3 tok Try.func125 Try.ntmps125 Try.results125 rfl (by kernel_rfl) rfl fun F => ?_
        repeat (first | refine gG ?_ | refine zAl (fun _ => ?_) | refine zBx (fun _ => ?_))
        refine ac_draw [1, 1, 1, 1, 1, 1, 1, 1, 0, 0, 3, 2, 1] [0, 1, 2, 3, 4, 5, 6, 7, 8, 9, 10, 11, 12] (by kernel_rfl) (by kernel_rfl) ?_
        refine gW ?_
        apply w_q; (focus exact rfl); (focus exact rfl); focus (intro _; (refine zLksa 9 113 (zs := Md.z) hlk hlc ?_); exact det_refl)
        refine gW ?_
        apply w_a; (focus exact rfl); (focus exact rfl); refine v_alloc tok rfl rfl rfl (fun _ => rfl) (fun _ => ⟨⟨_, rfl⟩, ?_⟩)
        apply w_l; (focus exact rfl); (focus exact rfl); (refine zS ?_)
        refine gW ?_
        refine w_nil ?_
        repeat (first | refine gG ?_ | refine zAl (fun _ => ?_) | refine zBx (fun _ => ?_))
        refine zG ?_
        exact ⟨by rw [d2]; rfl, rfl⟩
      · refine ag_enter 3 tok Try.func125 Try.ntmps125 Try.results125 rfl (by kernel_rfl) rfl fun F => ?_
        repeat (first | refine gG ?_ | refine zAl (fun _ => ?_) | refine zBx (fun _ => ?_))
        refine ac_draw [1, 1, 1, 1, 1, 1, 1, 1, 0, 0, 3, 2, 1] [0, 1, 2, 3, 4, 5, 6, 7, 8, 9, 10, 11, 12] (by kernel_rfl) (by kernel_rfl) ?_
        refine gW ?_
        apply w_q; (focus exact rfl); (focus exact rfl); focus (intro _; (refine zLksa 9 113 (zs := Md.z) hlk hlc ?_); exact det_refl)
        refine gW ?_
        apply w_a; (focus exact rfl); (focus exact rfl); refine v_alloc tok rfl rfl rfl (fun _ => rfl) (fun _ => ⟨⟨_, rfl⟩, ?_⟩)
        apply w_l; (focus exact rfl); (focus exact rfl); (refine zS ?_)
        refine gW ?_
        refine w_nil ?_
        repeat (first | refine gG ?_ | refine zAl (fun _ => ?_) | refine zBx (fun _ => ?_))
        refine zG ?_
        exact ⟨by rw [d2]; rfl, rfl⟩
    · refine ag_enter 3 tok Try.func125 Try.ntmps125 Try.results125 rfl (by kernel_rfl) rfl fun F => ?_
      repeat (first | refine gG ?_ | refine zAl (fun _ => ?_) | refine zBx (fun _ => ?_))
      refine ac_draw [1, 1, 1, 1, 1, 1, 1, 1, 0, 0, 3, 2, 1] [0, 1, 2, 3, 4, 5, 6, 7, 8, 9, 10, 11, 12] (by kernel_rfl) (by kernel_rfl) ?_
      refine gW ?_
      apply w_q; (focus exact rfl); (focus exact rfl); focus (intro _; (refine zLksa 9 113 (zs := Md.z) hlk hlc ?_); exact det_refl)
      refine gW ?_
      apply w_a; (focus exact rfl); (focus exact rfl); refine v_alloc tok rfl rfl rfl (fun _ => rfl) (fun _ => ⟨⟨_, rfl⟩, ?_⟩)
      apply w_l; (focus exact rfl); (focus exact rfl); (refine zS ?_)
      refine gW ?_
      refine w_nil ?_
      repeat (first | refine gG ?_ | refine zAl (fun _ => ?_) | refine zBx (fun _ => ?_))
      refine zG ?_
      exact ⟨rfl, rfl⟩
end Go.Proofs.Ytnkafjkcjpajgaa
namespace Go.Proofs.Ytnkafjkcjpajgaa
open Go.RowKit
set_option maxRecDepth 100000 in
set_option maxHeartbeats 4000000 in
theorem lockCheck_af (l : List Pk) (hs : ∀ p ∈ l, p.name.size ≤ 1048576) : AF Try.prog 52 [Pk.row l] (· = .lit (.int .i64 (lockF l))) := by
  have hfl : lockF l = bif decide (30 < ((l.length : Nat) : Int)) then 2 else lockAt none l := rfl
  rw [hfl]
  clear hfl
  refine af_enter tok Try.func52 Try.ntmps52 Try.results52 rfl (by kernel_rfl) rfl rfl fun F hX => ?_
  cases d1 : decide (30 < ((l.length : Nat) : Int))
  rotate_left
  · repeat (first | refine gG ?_ | refine zN1 (fun hlen => ?_) | refine zN2 (fun hlen => ?_) | refine zAl (fun _ => ?_))
    first | refine zR ?_ | refine zQ ?_
    rfl
  · rw [cond_false]
    repeat (first | refine gG ?_ | refine zN1 (fun hlen => ?_) | refine zN2 (fun hlen => ?_) | refine zAl (fun _ => ?_))
    refine x_loop [2, 3, 4, 10, 11, 12, 13, 14, 15, 16, 17, 18, 19, 20, 21, 22, 23, 24, 25, 26, 27, 28, 29, 30, 31, 32, 33, 34, 35, 36, 37, 38, 39, 40, 41, 42, 43] (fun k : Nat => [(10, .c (.lit (.int .i64 (k : Nat))))]) (fun _ => []) (fun k => k ≤ l.length ∧ lockAt (prevAt l k) (l.drop k) = lockAt none l) (fun k => l.length - k) 0 ⟨Nat.zero_le _, rfl⟩ ⟨rfl, trivial⟩ rfl ?_
    rintro k ⟨hk, hf⟩
    repeat (first | refine gG ?_ | refine zN1 (fun hlen => ?_) | refine zN2 (fun hlen => ?_) | refine zAl (fun _ => ?_))
    refine x_cond rfl (fun h => ?_) (fun h => ?_)
    · have hk' : k < l.length := by simpa using h
      obtain ⟨p, hp⟩ := nth hk'
      have hN := nm_af (name_af p.name.data.toList (by simpa using hs p (List.mem_of_getElem? hp)))
      have hat := Pk.at hp
      have hst := lockAt_step hp
      rw [hf] at hst
      clear h hf hs
      have hpv : (k = 0 ∧ ordK (prevAt l k) p = true) ∨ ∃ m q, k = m + 1 ∧ l[m]? = some q ∧ ordK (prevAt l k) p = !leB p.name q.name := by
        cases k with
        | zero => exact .inl ⟨rfl, rfl⟩
        | succ m =>
          obtain ⟨q, hq⟩ := nth (show m < l.length by omega)
          exact .inr ⟨m, q, rfl, hq, by rw [prevAt_succ hq]; rfl⟩
      generalize hnx : lockAt (prevAt l (k + 1)) (l.drop (k + 1)) = nx at *
      generalize ordK (prevAt l k) p = od at *
      clear hp
      obtain ⟨nm, v⟩ := p
      dsimp only at hN hst hpv
      generalize nameOk nm.data.toList = nok at *
      cases nok
      · replace hst : lockAt none l = 11 := hst
        repeat (first | refine gG ?_ | refine zN1 (fun hlen => ?_) | refine zN2 (fun hlen => ?_) | refine zAl (fun _ => ?_))
        refine zIx (k) (hk') ?_
        repeat (first | refine gG ?_ | refine zN1 (fun hlen => ?_) | refine zN2 (fun hlen => ?_) | refine zAl (fun _ => ?_))
        refine zEl (hat) (Pk.ts_len _) ?_
        repeat (first | refine gG ?_ | refine zN1 (fun hlen => ?_) | refine zN2 (fun hlen => ?_) | refine zAl (fun _ => ?_))
        refine zCall (hN) ?_
        rintro _ rfl
        repeat (first | refine gG ?_ | refine zN1 (fun hlen => ?_) | refine zN2 (fun hlen => ?_) | refine zAl (fun _ => ?_))
        first | refine zR ?_ | refine zQ ?_
        rw [hst]
        rfl
      replace hst : lockAt none l = bif decide (v < 1) || decide (9999 < v) then 1 else (bif od then nx else 21) := hst
      cases d2 : decide (v < 1)
      rotate_left
      · rw [d2] at hst
        replace hst : lockAt none l = 1 := hst
        repeat (first | refine gG ?_ | refine zN1 (fun hlen => ?_) | refine zN2 (fun hlen => ?_) | refine zAl (fun _ => ?_))
        refine zIx (k) (hk') ?_
        repeat (first | refine gG ?_ | refine zN1 (fun hlen => ?_) | refine zN2 (fun hlen => ?_) | refine zAl (fun _ => ?_))
        refine zEl (hat) (Pk.ts_len _) ?_
        repeat (first | refine gG ?_ | refine zN1 (fun hlen => ?_) | refine zN2 (fun hlen => ?_) | refine zAl (fun _ => ?_))
        refine zCall (hN) ?_
        rintro _ rfl
        repeat (first | refine gG ?_ | refine zN1 (fun hlen => ?_) | refine zN2 (fun hlen => ?_) | refine zAl (fun _ => ?_))
        first | refine zR ?_ | refine zQ ?_
        rw [hst]
        rfl
      cases d3 : decide (9999 < v)
      rotate_left
      · rw [d2, d3] at hst
        replace hst : lockAt none l = 1 := hst
        repeat (first | refine gG ?_ | refine zN1 (fun hlen => ?_) | refine zN2 (fun hlen => ?_) | refine zAl (fun _ => ?_))
        refine zIx (k) (hk') ?_
        repeat (first | refine gG ?_ | refine zN1 (fun hlen => ?_) | refine zN2 (fun hlen => ?_) | refine zAl (fun _ => ?_))
        refine zEl (hat) (Pk.ts_len _) ?_
        repeat (first | refine gG ?_ | refine zN1 (fun hlen => ?_) | refine zN2 (fun hlen => ?_) | refine zAl (fun _ => ?_))
        refine zCall (hN) ?_
        rintro _ rfl
        repeat (first | refine gG ?_ | refine zN1 (fun hlen => ?_) | refine zN2 (fun hlen => ?_) | refine zAl (fun _ => ?_))
        first | refine zR ?_ | refine zQ ?_
        rw [hst]
        rfl
      rw [d2, d3] at hst
      replace hst : lockAt none l = bif od then nx else 21 := hst
      rcases hpv with ⟨rfl, rfl⟩ | ⟨m, q, rfl, hq, rfl⟩
      · replace hst : lockAt none l = nx := hst
        have d4 : decide ((0 : Int) < ((0 : Nat) : Int)) = false := rfl
        repeat (first | refine gG ?_ | refine zN1 (fun hlen => ?_) | refine zN2 (fun hlen => ?_) | refine zAl (fun _ => ?_))
        refine zIx (0) (hk') ?_
        repeat (first | refine gG ?_ | refine zN1 (fun hlen => ?_) | refine zN2 (fun hlen => ?_) | refine zAl (fun _ => ?_))
        refine zEl (hat) (Pk.ts_len _) ?_
        repeat (first | refine gG ?_ | refine zN1 (fun hlen => ?_) | refine zN2 (fun hlen => ?_) | refine zAl (fun _ => ?_))
        refine zCall (hN) ?_
        rintro _ rfl
        repeat (first | refine gG ?_ | refine zN1 (fun hlen => ?_) | refine zN2 (fun hlen => ?_) | refine zAl (fun _ => ?_))
        refine ac_draw [1, 1, 1, 1, 1, 1, 1, 1, 1, 1, 1, 1, 1, 1] [0, 1, 2, 3, 4, 5, 6, 7, 8, 9, 10, 11, 12, 13] (by kernel_rfl) (by kernel_rfl) ?_
        refine gW ?_
        refine w_nil ?_
        repeat (first | refine gG ?_ | refine zN1 (fun hlen => ?_) | refine zN2 (fun hlen => ?_) | refine zAl (fun _ => ?_))
        exact ⟨0 + 1, ⟨hk', by rw [hst, hnx]⟩, by omega, x_wkd 0 ⟨rfl, trivial⟩ rfl (by repeat (first | exact ag_refl | refine ag_upd rfl ?_ | refine ag_at rfl rfl ?_))⟩
      · have hm : m < l.length := by omega
        have g1 : (l.flatMap Pk.ts)[m * 2 + 0]? = some (.lit (.string q.name)) := flat_get Pk.ts 2 Pk.ts_len hq (j := 0) (by omega)
        have d4 : decide ((0 : Int) < ((m + 1 : Nat) : Int)) = true := decide_eq_true (by omega)
        clear hq
        have hle : leB nm q.name = (strLt nm q.name || decide (nm = q.name)) := rfl
        generalize leB nm q.name = le at *
        have d5 := hle.symm
        clear hle
        cases le
        · replace hst : lockAt none l = nx := hst
          repeat (first | refine gG ?_ | refine zN1 (fun hlen => ?_) | refine zN2 (fun hlen => ?_) | refine zAl (fun _ => ?_))
          refine zIx (m + 1) (hk') ?_
          repeat (first | refine gG ?_ | refine zN1 (fun hlen => ?_) | refine zN2 (fun hlen => ?_) | refine zAl (fun _ => ?_))
          refine zEl (hat) (Pk.ts_len _) ?_
          repeat (first | refine gG ?_ | refine zN1 (fun hlen => ?_) | refine zN2 (fun hlen => ?_) | refine zAl (fun _ => ?_))
          refine zCall (hN) ?_
          rintro _ rfl
          repeat (first | refine gG ?_ | refine zN1 (fun hlen => ?_) | refine zN2 (fun hlen => ?_) | refine zAl (fun _ => ?_))
          refine ac_draw [1, 1, 1, 1, 1, 1, 1, 1, 1, 1, 1, 1, 1, 1] [0, 1, 2, 3, 4, 5, 6, 7, 8, 9, 10, 11, 12, 13] (by kernel_rfl) (by kernel_rfl) ?_
          refine gW ?_
          try (first | (apply w_un; (focus exact rfl); (focus exact rfl); (focus exact rfl); (focus exact rfl)) | (apply w_no; (focus exact rfl); (focus exact rfl); (focus exact rfl); (focus exact rfl); focus (first | rfl | assumption | exact neg_t (by assumption) | exact neg_f (by assumption))) | (apply w_qg; (focus exact rfl); (focus exact rfl); (focus exact rfl); (focus exact rfl); (focus (first | rfl | assumption | exact neg_t (by assumption) | exact neg_f (by assumption))); (focus (intro _; (refine lo_sub rfl rfl (r := ((m : Nat) : Int)) (by rw [IntWalk.i64_in _ (by omega)]; omega) ?_); exact det_refl))))
          (first | (apply w_un; (focus exact rfl); (focus exact rfl); (focus exact rfl); (focus exact rfl)) | (apply w_no; (focus exact rfl); (focus exact rfl); (focus exact rfl); (focus exact rfl); focus (first | rfl | assumption | exact neg_t (by assumption) | exact neg_f (by assumption))) | (apply w_qg; (focus exact rfl); (focus exact rfl); (focus exact rfl); (focus exact rfl); (focus (first | rfl | assumption | exact neg_t (by assumption) | exact neg_f (by assumption))); (focus (intro _; (refine zIx m hm ?_); exact det_refl))))
          try refine gW ?_
          try (first | (apply w_un; (focus exact rfl); (focus exact rfl); (focus exact rfl); (focus exact rfl)) | (apply w_no; (focus exact rfl); (focus exact rfl); (focus exact rfl); (focus exact rfl); focus (first | rfl | assumption | exact neg_t (by assumption) | exact neg_f (by assumption))) | (apply w_qg; (focus exact rfl); (focus exact rfl); (focus exact rfl); (focus exact rfl); (focus (first | rfl | assumption | exact neg_t (by assumption) | exact neg_f (by assumption))); (focus (intro _; (refine zEl1 g1 ?_); exact det_refl))))
          try refine gW ?_
          refine w_nil ?_
          repeat (first | refine gG ?_ | refine zN1 (fun hlen => ?_) | refine zN2 (fun hlen => ?_) | refine zAl (fun _ => ?_))
          exact ⟨m + 1 + 1, ⟨hk', by rw [hst, hnx]⟩, by omega, x_wkd 0 ⟨rfl, trivial⟩ rfl (by repeat (first | exact ag_refl | refine ag_upd rfl ?_ | refine ag_at rfl rfl ?_))⟩
        · replace hst : lockAt none l = 21 := hst
          repeat (first | refine gG ?_ | refine zN1 (fun hlen => ?_) | refine zN2 (fun hlen => ?_) | refine zAl (fun _ => ?_))
          refine zIx (m + 1) (hk') ?_
          repeat (first | refine gG ?_ | refine zN1 (fun hlen => ?_) | refine zN2 (fun hlen => ?_) | refine zAl (fun _ => ?_))
          refine zEl (hat) (Pk.ts_len _) ?_
          repeat (first | refine gG ?_ | refine zN1 (fun hlen => ?_) | refine zN2 (fun hlen => ?_) | refine zAl (fun _ => ?_))
          refine zCall (hN) ?_
          rintro _ rfl
          repeat (first | refine gG ?_ | refine zN1 (fun hlen => ?_) | refine zN2 (fun hlen => ?_) | refine zAl (fun _ => ?_))
          refine ac_draw [1, 1, 1, 1, 1, 1, 1, 1, 1, 1, 1, 1, 1, 1] [0, 1, 2, 3, 4, 5, 6, 7, 8, 9, 10, 11, 12, 13] (by kernel_rfl) (by kernel_rfl) ?_
          refine gW ?_
          try (first | (apply w_un; (focus exact rfl); (focus exact rfl); (focus exact rfl); (focus exact rfl)) | (apply w_no; (focus exact rfl); (focus exact rfl); (focus exact rfl); (focus exact rfl); focus (first | rfl | assumption | exact neg_t (by assumption) | exact neg_f (by assumption))) | (apply w_qg; (focus exact rfl); (focus exact rfl); (focus exact rfl); (focus exact rfl); (focus (first | rfl | assumption | exact neg_t (by assumption) | exact neg_f (by assumption))); (focus (intro _; (refine lo_sub rfl rfl (r := ((m : Nat) : Int)) (by rw [IntWalk.i64_in _ (by omega)]; omega) ?_); exact det_refl))))
          (first | (apply w_un; (focus exact rfl); (focus exact rfl); (focus exact rfl); (focus exact rfl)) | (apply w_no; (focus exact rfl); (focus exact rfl); (focus exact rfl); (focus exact rfl); focus (first | rfl | assumption | exact neg_t (by assumption) | exact neg_f (by assumption))) | (apply w_qg; (focus exact rfl); (focus exact rfl); (focus exact rfl); (focus exact rfl); (focus (first | rfl | assumption | exact neg_t (by assumption) | exact neg_f (by assumption))); (focus (intro _; (refine zIx m hm ?_); exact det_refl))))
          try refine gW ?_
          try (first | (apply w_un; (focus exact rfl); (focus exact rfl); (focus exact rfl); (focus exact rfl)) | (apply w_no; (focus exact rfl); (focus exact rfl); (focus exact rfl); (focus exact rfl); focus (first | rfl | assumption | exact neg_t (by assumption) | exact neg_f (by assumption))) | (apply w_qg; (focus exact rfl); (focus exact rfl); (focus exact rfl); (focus exact rfl); (focus (first | rfl | assumption | exact neg_t (by assumption) | exact neg_f (by assumption))); (focus (intro _; (refine zEl1 g1 ?_); exact det_refl))))
          try refine gW ?_
          refine w_nil ?_
          repeat (first | refine gG ?_ | refine zN1 (fun hlen => ?_) | refine zN2 (fun hlen => ?_) | refine zAl (fun _ => ?_))
          first | refine zR ?_ | refine zQ ?_
          rw [hst]
          rfl
    · have hk' : k = l.length := by
        have : ¬ k < l.length := by simpa using h
        omega
      subst hk'
      rw [List.drop_length] at hf
      clear h
      repeat (first | refine gG ?_ | refine zN1 (fun hlen => ?_) | refine zN2 (fun hlen => ?_) | refine zAl (fun _ => ?_))
      first | refine zR ?_ | refine zQ ?_
      rw [← hf]
      rfl
set_option maxRecDepth 100000 in
set_option maxHeartbeats 4000000 in
theorem lockFault_af (l : List Pk) (hs : ∀ p ∈ l, p.name.size ≤ 1048576) : AF Try.prog 55 [Pk.row l] (· = .lit (.int .i64 (lockF l))) := by
  have hfl : lockF l = bif decide (30 < ((l.length : Nat) : Int)) then 2 else lockAt none l := rfl
  rw [hfl]
  clear hfl
  refine af_enter tok Try.func55 Try.ntmps55 Try.results55 rfl (by kernel_rfl) rfl rfl fun F hX => ?_
  cases d1 : decide (30 < ((l.length : Nat) : Int))
  rotate_left
  · repeat (first | refine gG ?_ | refine zN1 (fun hlen => ?_) | refine zN2 (fun hlen => ?_) | refine zAl (fun _ => ?_))
    first | refine zR ?_ | refine zQ ?_
    rfl
  · rw [cond_false]
    repeat (first | refine gG ?_ | refine zN1 (fun hlen => ?_) | refine zN2 (fun hlen => ?_) | refine zAl (fun _ => ?_))
    refine x_loop [2, 3, 5, 11, 12, 13, 14, 15, 16, 17, 18, 19, 20, 21, 22, 23, 24, 25, 26, 27, 28, 29, 30, 31, 32, 33, 34, 35, 36] (fun k : Nat => [(11, .c (.lit (.int .i64 (k : Nat)))), (3, .c (.lit (.string (lastOf l k))))]) (fun _ => []) (fun k => k ≤ l.length ∧ lockAt (prevAt l k) (l.drop k) = lockAt none l) (fun k => l.length - k) 0 ⟨Nat.zero_le _, rfl⟩ ⟨rfl, rfl, trivial⟩ rfl ?_
    rintro k ⟨hk, hf⟩
    repeat (first | refine gG ?_ | refine zN1 (fun hlen => ?_) | refine zN2 (fun hlen => ?_) | refine zAl (fun _ => ?_))
    refine x_cond rfl (fun h => ?_) (fun h => ?_)
    · have hk' : k < l.length := by simpa using h
      obtain ⟨p, hp⟩ := nth hk'
      have hN := nm_af (moduleName_af p.name.data.toList (by simpa using hs p (List.mem_of_getElem? hp)))
      have hat := Pk.at hp
      have hst := lockAt_step hp
      have hol := @ord_last l k p
      have hls := lastOf_succ hp
      rw [hf] at hst
      clear h hf hs
      generalize hnx : lockAt (prevAt l (k + 1)) (l.drop (k + 1)) = nx at *
      generalize ordK (prevAt l k) p = od at *
      generalize lastOf l k = la at *
      generalize hla : lastOf l (k + 1) = la' at *
      clear hp
      obtain ⟨nm, v⟩ := p
      dsimp only at hN hst hol hls
      generalize nameOk nm.data.toList = nok at *
      cases nok
      · replace hst : lockAt none l = 11 := hst
        clear hol
        repeat (first | refine gG ?_ | refine zN1 (fun hlen => ?_) | refine zN2 (fun hlen => ?_) | refine zAl (fun _ => ?_))
        refine zIx (k) (hk') ?_
        repeat (first | refine gG ?_ | refine zN1 (fun hlen => ?_) | refine zN2 (fun hlen => ?_) | refine zAl (fun _ => ?_))
        refine zEl (hat) (Pk.ts_len _) ?_
        repeat (first | refine gG ?_ | refine zN1 (fun hlen => ?_) | refine zN2 (fun hlen => ?_) | refine zAl (fun _ => ?_))
        refine zCall (hN) ?_
        rintro _ rfl
        repeat (first | refine gG ?_ | refine zN1 (fun hlen => ?_) | refine zN2 (fun hlen => ?_) | refine zAl (fun _ => ?_))
        first | refine zR ?_ | refine zQ ?_
        rw [hst]
        rfl
      replace hol := hol rfl
      replace hst : lockAt none l = bif decide (v < 1) || decide (9999 < v) then 1 else (bif od then nx else 21) := hst
      cases d2 : decide (v < 1)
      rotate_left
      · rw [d2] at hst
        replace hst : lockAt none l = 1 := hst
        clear hol
        repeat (first | refine gG ?_ | refine zN1 (fun hlen => ?_) | refine zN2 (fun hlen => ?_) | refine zAl (fun _ => ?_))
        refine zIx (k) (hk') ?_
        repeat (first | refine gG ?_ | refine zN1 (fun hlen => ?_) | refine zN2 (fun hlen => ?_) | refine zAl (fun _ => ?_))
        refine zEl (hat) (Pk.ts_len _) ?_
        repeat (first | refine gG ?_ | refine zN1 (fun hlen => ?_) | refine zN2 (fun hlen => ?_) | refine zAl (fun _ => ?_))
        refine zCall (hN) ?_
        rintro _ rfl
        repeat (first | refine gG ?_ | refine zN1 (fun hlen => ?_) | refine zN2 (fun hlen => ?_) | refine zAl (fun _ => ?_))
        first | refine zR ?_ | refine zQ ?_
        rw [hst]
        rfl
      cases d3 : decide (9999 < v)
      rotate_left
      · rw [d2, d3] at hst
        replace hst : lockAt none l = 1 := hst
        clear hol
        repeat (first | refine gG ?_ | refine zN1 (fun hlen => ?_) | refine zN2 (fun hlen => ?_) | refine zAl (fun _ => ?_))
        refine zIx (k) (hk') ?_
        repeat (first | refine gG ?_ | refine zN1 (fun hlen => ?_) | refine zN2 (fun hlen => ?_) | refine zAl (fun _ => ?_))
        refine zEl (hat) (Pk.ts_len _) ?_
        repeat (first | refine gG ?_ | refine zN1 (fun hlen => ?_) | refine zN2 (fun hlen => ?_) | refine zAl (fun _ => ?_))
        refine zCall (hN) ?_
        rintro _ rfl
        repeat (first | refine gG ?_ | refine zN1 (fun hlen => ?_) | refine zN2 (fun hlen => ?_) | refine zAl (fun _ => ?_))
        first | refine zR ?_ | refine zQ ?_
        rw [hst]
        rfl
      rw [d2, d3] at hst
      replace hst : lockAt none l = bif od then nx else 21 := hst
      have d5 : (strLt nm la || decide (nm = la)) = !od := hol
      clear hol
      cases od
      · replace hst : lockAt none l = 21 := hst
        replace d5 : (strLt nm la || decide (nm = la)) = true := d5
        repeat (first | refine gG ?_ | refine zN1 (fun hlen => ?_) | refine zN2 (fun hlen => ?_) | refine zAl (fun _ => ?_))
        refine zIx (k) (hk') ?_
        repeat (first | refine gG ?_ | refine zN1 (fun hlen => ?_) | refine zN2 (fun hlen => ?_) | refine zAl (fun _ => ?_))
        refine zEl (hat) (Pk.ts_len _) ?_
        repeat (first | refine gG ?_ | refine zN1 (fun hlen => ?_) | refine zN2 (fun hlen => ?_) | refine zAl (fun _ => ?_))
        refine zCall (hN) ?_
        rintro _ rfl
        repeat (first | refine gG ?_ | refine zN1 (fun hlen => ?_) | refine zN2 (fun hlen => ?_) | refine zAl (fun _ => ?_))
        first | refine zR ?_ | refine zQ ?_
        rw [hst]
        rfl
      · replace hst : lockAt none l = nx := hst
        replace d5 : (strLt nm la || decide (nm = la)) = false := d5
        repeat (first | refine gG ?_ | refine zN1 (fun hlen => ?_) | refine zN2 (fun hlen => ?_) | refine zAl (fun _ => ?_))
        refine zIx (k) (hk') ?_
        repeat (first | refine gG ?_ | refine zN1 (fun hlen => ?_) | refine zN2 (fun hlen => ?_) | refine zAl (fun _ => ?_))
        refine zEl (hat) (Pk.ts_len _) ?_
        repeat (first | refine gG ?_ | refine zN1 (fun hlen => ?_) | refine zN2 (fun hlen => ?_) | refine zAl (fun _ => ?_))
        refine zCall (hN) ?_
        rintro _ rfl
        repeat (first | refine gG ?_ | refine zN1 (fun hlen => ?_) | refine zN2 (fun hlen => ?_) | refine zAl (fun _ => ?_))
        exact ⟨k + 1, ⟨hk', by rw [hst, hnx]⟩, by omega, x_wkd 0 ⟨rfl, by rw [hla, hls]; rfl, trivial⟩ rfl (by repeat (first | exact ag_refl | refine ag_upd rfl ?_ | refine ag_at rfl rfl ?_))⟩
    · have hk' : k = l.length := by
        have : ¬ k < l.length := by simpa using h
        omega
      subst hk'
      rw [List.drop_length] at hf
      clear h
      repeat (first | refine gG ?_ | refine zN1 (fun hlen => ?_) | refine zN2 (fun hlen => ?_) | refine zAl (fun _ => ?_))
      first | refine zR ?_ | refine zQ ?_
      rw [← hf]
      rfl
end Go.Proofs.Ytnkafjkcjpajgaa
namespace Go.Proofs.Ytnkafjkcjpajgaa
open Go.Shelf
def keysModule_ren : Go.Shelf.Ren := ⟨fun | 7 => 60 | 10 => 99 | n => n, fun | 23 => 108 | 26 => 9 | 3 => 113 | 28 => 101 | 0 => 0 | 27 => 100 | 33 => 165 | 4 => 4 | n => n, fun | n => n⟩
theorem keysModule : Go.Proofs.SlLaysZ.n7 Try.prog keysModule_ren := {
  mixed := by kernel_rfl
  f7 := ⟨Try.f60.name, by decide, Try.func60.trans (congrArg some (by kernel_rfl))⟩
  f10 := ⟨Try.f99.name, by decide, Try.func99.trans (congrArg some (by kernel_rfl))⟩
  t0 := Try.underlying0
  a0 := Try.isAgg0
  z0 := Try.sizeOf0
  v0 := Try.zeroValue0
  t4 := Try.underlying4
  a4 := Try.isAgg4
  z4 := Try.sizeOf4
  v4 := Try.zeroValue4
  t23 := Try.underlying108
  a23 := Try.isAgg108
  z23 := Try.sizeOf108
  v23 := Try.zeroValue108
  t26 := Try.underlying9
  a26 := Try.isAgg9
  z26 := Try.sizeOf9
  v26 := Try.zeroValue9
  t27 := Try.underlying100
  a27 := Try.isAgg100
  z27 := Try.sizeOf100
  v27 := Try.zeroValue100
  t28 := Try.underlying101
  a28 := Try.isAgg101
  z28 := Try.sizeOf101
  v28 := Try.zeroValue101
  t33 := Try.underlying165
  a33 := Try.isAgg165
  z33 := Try.sizeOf165
  v33 := Try.zeroValue165 }
def sortedStr_ren : Go.Shelf.Ren := ⟨fun | 6 => 53 | 8 => 88 | 9 => 89 | 11 => 119 | 13 => 85 | 12 => 120 | 23 => 117 | 24 => 118 | 14 => 138 | 15 => 139 | 16 => 140 | 17 => 141 | 18 => 142 | 19 => 143 | 20 => 144 | 21 => 145 | 22 => 146 | 25 => 165 | 26 => 134 | 27 => 135 | 28 => 166 | 29 => 167 | 30 => 121 | 31 => 170 | n => n, fun | 26 => 9 | 28 => 101 | 24 => 57 | 0 => 0 | 3 => 3 | 37 => 162 | 48 => 202 | 50 => 204 | 4 => 4 | 40 => 196 | 39 => 195 | 45 => 173 | 5 => 5 | 9 => 9 | 51 => 223 | 55 => 116 | 57 => 256 | 58 => 257 | 33 => 165 | n => n, fun | n => n⟩
theorem sortedStr : Go.Proofs.SlLaysZ.n6 Try.prog sortedStr_ren := {
  mixed := by kernel_rfl
  f6 := ⟨Try.f53.name, by decide, Try.func53.trans (congrArg some (by kernel_rfl))⟩
  f8 := ⟨Try.f88.name, by decide, Try.func88.trans (congrArg some (by kernel_rfl))⟩
  f11 := ⟨Try.f119.name, by decide, Try.func119.trans (congrArg some (by kernel_rfl))⟩
  t0 := Try.underlying0
  a0 := Try.isAgg0
  z0 := Try.sizeOf0
  v0 := Try.zeroValue0
  t24 := Try.underlying57
  a24 := Try.isAgg57
  z24 := Try.sizeOf57
  v24 := Try.zeroValue57
  t26 := Try.underlying9
  a26 := Try.isAgg9
  z26 := Try.sizeOf9
  v26 := Try.zeroValue9
  t28 := Try.underlying101
  a28 := Try.isAgg101
  z28 := Try.sizeOf101
  v28 := Try.zeroValue101
  i26 := by kernel_rfl }
def sortStr_ren : Go.Shelf.Ren := ⟨fun | 6 => 89 | 8 => 85 | 9 => 120 | 19 => 117 | 20 => 118 | 21 => 138 | 22 => 139 | 23 => 140 | 24 => 141 | 25 => 142 | 26 => 143 | 27 => 144 | 28 => 145 | 29 => 146 | 36 => 165 | 31 => 134 | 32 => 135 | 37 => 166 | 38 => 167 | 39 => 121 | 41 => 170 | n => n, fun | 27 => 57 | 29 => 9 | 3 => 3 | 32 => 162 | 26 => 57 | 0 => 0 | 44 => 202 | 46 => 204 | 4 => 4 | 36 => 196 | 35 => 195 | 41 => 173 | 5 => 5 | 9 => 9 | 53 => 223 | 57 => 116 | 63 => 256 | 64 => 257 | n => n, fun | n => n⟩
theorem sortStr : Go.Proofs.SlLaysM.n6 Try.prog sortStr_ren := {
  mixed := by kernel_rfl
  f6 := ⟨Try.f89.name, by decide, Try.func89.trans (congrArg some (by kernel_rfl))⟩
  f8 := Try.func85.trans (congrArg some (by kernel_rfl))
  f9 := ⟨Try.f120.name, by decide, Try.func120.trans (congrArg some (by kernel_rfl))⟩
  f19 := Try.func117.trans (congrArg some (by kernel_rfl))
  f20 := Try.func118.trans (congrArg some (by kernel_rfl))
  f21 := ⟨Try.f138.name, by decide, Try.func138.trans (congrArg some (by kernel_rfl))⟩
  f22 := ⟨Try.f139.name, by decide, Try.func139.trans (congrArg some (by kernel_rfl))⟩
  f23 := ⟨Try.f140.name, by decide, Try.func140.trans (congrArg some (by kernel_rfl))⟩
  f24 := ⟨Try.f141.name, by decide, Try.func141.trans (congrArg some (by kernel_rfl))⟩
  f25 := ⟨Try.f142.name, by decide, Try.func142.trans (congrArg some (by kernel_rfl))⟩
  f26 := ⟨Try.f143.name, by decide, Try.func143.trans (congrArg some (by kernel_rfl))⟩
  f27 := ⟨Try.f144.name, by decide, Try.func144.trans (congrArg some (by kernel_rfl))⟩
  f28 := ⟨Try.f145.name, by decide, Try.func145.trans (congrArg some (by kernel_rfl))⟩
  f29 := ⟨Try.f146.name, by decide, Try.func146.trans (congrArg some (by kernel_rfl))⟩
  f31 := Try.func134.trans (congrArg some (by kernel_rfl))
  f32 := Try.func135.trans (congrArg some (by kernel_rfl))
  f36 := ⟨Try.f165.name, by decide, Try.func165.trans (congrArg some (by kernel_rfl))⟩
  f37 := ⟨Try.f166.name, by decide, Try.func166.trans (congrArg some (by kernel_rfl))⟩
  f38 := ⟨Try.f167.name, by decide, Try.func167.trans (congrArg some (by kernel_rfl))⟩
  f39 := ⟨Try.f121.name, by decide, Try.func121.trans (congrArg some (by kernel_rfl))⟩
  f41 := ⟨Try.f170.name, by decide, Try.func170.trans (congrArg some (by kernel_rfl))⟩
  t0 := Try.underlying0
  a0 := Try.isAgg0
  z0 := Try.sizeOf0
  v0 := Try.zeroValue0
  t3 := Try.underlying3
  a3 := Try.isAgg3
  z3 := Try.sizeOf3
  v3 := Try.zeroValue3
  t4 := Try.underlying4
  a4 := Try.isAgg4
  z4 := Try.sizeOf4
  v4 := Try.zeroValue4
  t5 := Try.underlying5
  a5 := Try.isAgg5
  z5 := Try.sizeOf5
  v5 := Try.zeroValue5
  t9 := Try.underlying9
  a9 := Try.isAgg9
  z9 := Try.sizeOf9
  v9 := Try.zeroValue9
  t26 := Try.underlying57
  a26 := Try.isAgg57
  z26 := Try.sizeOf57
  v26 := Try.zeroValue57
  t27 := Try.underlying57
  a27 := Try.isAgg57
  z27 := Try.sizeOf57
  v27 := Try.zeroValue57
  t29 := Try.underlying9
  a29 := Try.isAgg9
  z29 := Try.sizeOf9
  v29 := Try.zeroValue9
  t32 := Try.underlying162
  a32 := Try.isAgg162
  z32 := Try.sizeOf162
  v32 := Try.zeroValue162
  t35 := Try.underlying195
  a35 := Try.isAgg195
  z35 := Try.sizeOf195
  v35 := Try.zeroValue195
  t36 := Try.underlying196
  a36 := Try.isAgg196
  z36 := Try.sizeOf196
  v36 := Try.zeroValue196
  t41 := Try.underlying173
  a41 := Try.isAgg173
  z41 := Try.sizeOf173
  v41 := Try.zeroValue173
  t44 := Try.underlying202
  a44 := Try.isAgg202
  z44 := Try.sizeOf202
  v44 := Try.zeroValue202
  t46 := Try.underlying204
  a46 := Try.isAgg204
  z46 := Try.sizeOf204
  v46 := Try.zeroValue204
  t53 := Try.underlying223
  a53 := Try.isAgg223
  z53 := Try.sizeOf223
  v53 := Try.zeroValue223
  t57 := Try.underlying116
  a57 := Try.isAgg116
  z57 := Try.sizeOf116
  v57 := Try.zeroValue116
  t63 := Try.underlying256
  a63 := Try.isAgg256
  z63 := Try.sizeOf256
  v63 := Try.zeroValue256
  t64 := Try.underlying257
  a64 := Try.isAgg257
  z64 := Try.sizeOf257
  v64 := Try.zeroValue257 }
end Go.Proofs.Ytnkafjkcjpajgaa
namespace Go.Proofs.Ytnkafjkcjpajgaa
open Go.RowKit
theorem re_fn {f : Fn} {l r : List AV} (h : Res l r) : Re (.fn f l) (.fn f r) := fun M u hu => by
  simp only [RA] at hu ⊢
  obtain ⟨xs, e, h1⟩ := hu
  exact ⟨xs, e, h M _ h1⟩
theorem enters_Sorted : Enters Try.prog 53 := ⟨_, Try.func53, by kernel_rfl, by kernel_rfl⟩
theorem enters_Sort : Enters Try.prog 89 := ⟨_, Try.func89, by kernel_rfl, by kernel_rfl⟩
theorem sortStr_ag (l : List ByteArray) (hlen : l.length ≤ 1048576) (v : Value) (e : TypeId) :
    AG Try.prog 89 [.own 0 v] [.row v e 1 l.length (l.flatMap strTs)] (fun r hs => r = .tup [] ∧ hs = [.row v e 1 (sortB l).length ((sortB l).flatMap strTs)]) :=
  sortS_ag (ρ := sortStr_ren) sortStr enters_Sort l (by omega) v e
set_option maxRecDepth 100000 in
set_option maxHeartbeats 1000000 in
theorem strings_ag (l : List ByteArray) (hlen : l.length ≤ 1048576) (v : Value) (e : TypeId) : AG Try.prog 92 [.own 0 v] [.row v e 1 l.length (l.flatMap strTs)] (fun r hs => r = .tup [] ∧ hs = [.row v e 1 (sortB l).length ((sortB l).flatMap strTs)]) := by
  have hc := sortStr_ag l hlen v e
  refine ag_enter 1 tok Try.func92 Try.ntmps92 Try.results92 rfl (by kernel_rfl) rfl fun F => ?_
  repeat (first | refine gG ?_)
  refine zCallG [0] hc ?_
  rintro _ _ ⟨rfl, rfl⟩
  refine ⟨.tup [], _, re_refl, rfl, rfl, ?_⟩
  repeat (first | refine gG ?_)
  refine zG ?_
  exact ⟨rfl, rfl⟩
set_option maxRecDepth 100000 in
set_option maxHeartbeats 1000000 in
theorem sorted_ag (l : List ByteArray) (hlen : l.length ≤ 1048576) : AG Try.prog 56 [.c (strRow l)] [] (fun r hs => ∃ v, r = .own 0 v ∧ hs = [.row v 9 1 (sortB l).length ((sortB l).flatMap strTs)]) := by
  have hc : ∀ (v : Value) (n : Nat) (cs : List T), n = l.length → cs = l.flatMap strTs → AG Try.prog 92 [.own 0 v] [.row v 9 1 n cs] (fun r hs => r = .tup [] ∧ hs = [.row v 9 1 (sortB l).length ((sortB l).flatMap strTs)]) := fun v n cs h1 h2 => by
    subst h1 h2
    exact strings_ag l hlen v 9
  refine ag_enter 1 tok Try.func56 Try.ntmps56 Try.results56 rfl (by kernel_rfl) rfl fun F => ?_
  repeat (first | refine gX ?_ | refine zAp (fun _ => ?_))
  refine zBo (fun _ => ?_)
  repeat (first | refine gG ?_ | refine zAp (fun _ => ?_))
  refine zCallG [0] (hc _ _ _ (Nat.zero_add _) (List.nil_append _)) ?_
  rintro _ _ ⟨rfl, rfl⟩
  refine ⟨.tup [], _, re_refl, rfl, rfl, ?_⟩
  repeat (first | refine gG ?_ | refine zAp (fun _ => ?_))
  refine zG ?_
  exact ⟨_, rfl, rfl⟩
def Tn.z : List T := [.lit (.string ⟨#[]⟩), .lit (.int .i64 0), .lit (.int .i64 0)]
end Go.Proofs.Ytnkafjkcjpajgaa
