/-
  Texts of this proof, part 11: Peg Peh Pef2 Pei.
-/
import Derived.Test.YtbfomgchjlkopaaDoorQPageLines10
import Derived.Laws.IdiomRangeMap
import Derived.MapKept
namespace Go.Proofs.YtbfomgchjlkopaaDoor
open Go.RowKit
def notE (p : En → Bool) (l : List En) : List En := l.filter fun a => !p a
theorem notE_len (p : En → Bool) (l : List En) : (notE p l).length ≤ l.length := List.length_filter_le _ _
theorem delN_idx (p : En → Bool) : ∀ l : List En, (idxI p l = -1 ∧ notE p l = l) ∨ ∃ i : Nat, idxI p l = (i : Int) ∧ i < l.length ∧ notE p (l.take (i + 1)) = l.take i
  | [] => .inl ⟨rfl, rfl⟩
  | a :: l => by
    unfold idxI notE
    rw [List.findIdx?_cons]
    cases h : p a
    · rcases delN_idx p l with ⟨h1, h2⟩ | ⟨i, h1, h2, h3⟩
      · left
        unfold idxI at h1
        unfold notE at h2
        refine ⟨?_, by simp [h, h2]⟩
        cases hf : l.findIdx? p with
        | none => simp [hf]
        | some i => rw [hf] at h1; simp at h1 <;> omega
      · right
        unfold idxI at h1
        unfold notE at h3
        refine ⟨i + 1, ?_, by simp; omega, by simp [h, h3]⟩
        cases hf : l.findIdx? p with
        | none => rw [hf] at h1; simp at h1 <;> omega
        | some k => rw [hf] at h1; simp at h1; simp [hf]; omega
    · right
      exact ⟨0, by simp, by simp, by simp [h]⟩
theorem dropN_cons {l : List En} {k : Nat} {a : En} (h : l[k]? = some a) : l.drop k = a :: l.drop (k + 1) := by
  obtain ⟨h1, rfl⟩ := List.getElem?_eq_some_iff.1 h
  exact List.drop_eq_getElem_cons h1
/-- the cells while what is kept is moved to the front -/
def DelN (p : En → Bool) (l : List En) (j : Nat) (C : List T) : Prop := C.length = l.length * 4 ∧ C.take ((notE p (l.take j)).length * 4) = (notE p (l.take j)).flatMap En.ts ∧ C.drop (j * 4) = (l.drop j).flatMap En.ts
theorem delN_start {p : En → Bool} {l : List En} {i : Nat} (hi : i < l.length) (h : notE p (l.take (i + 1)) = l.take i) : DelN p l (i + 1) (l.flatMap En.ts) := by
  refine ⟨len_flat En.ts_len l, ?_, drop_flat En.ts_len (i + 1) l⟩
  rw [h]
  have h1 : (l.take i).length = i := by rw [List.length_take]; omega
  rw [h1]
  exact take_flat En.ts_len i l
theorem delN_at {p : En → Bool} {l : List En} {j : Nat} {C : List T} (h : DelN p l j C) {a : En} (ha : l[j]? = some a) : (C.drop (j * 4)).take 4 = a.ts := by
  rw [h.2.2, dropN_cons ha, List.flatMap_cons]
  have := En.ts_len a
  rw [List.take_append_of_le_length (by omega), List.take_of_length_le (by omega)]
theorem notE_skip {p : En → Bool} {l : List En} {j : Nat} {a : En} (ha : l[j]? = some a) (hp : p a = true) : notE p (l.take (j + 1)) = notE p (l.take j) := by
  unfold notE
  rw [List.take_add_one, ha, List.filter_append]
  simp [hp]
theorem notE_snoc {p : En → Bool} {l : List En} {j : Nat} {a : En} (ha : l[j]? = some a) (hp : p a = false) : notE p (l.take (j + 1)) = notE p (l.take j) ++ [a] := by
  unfold notE
  rw [List.take_add_one, ha, List.filter_append]
  simp [hp]
theorem dropN_next {p : En → Bool} {l : List En} {j : Nat} {C : List T} (h : DelN p l j C) {a : En} (ha : l[j]? = some a) : C.drop ((j + 1) * 4) = (l.drop (j + 1)).flatMap En.ts := by
  have h2 := congrArg (List.drop 4) h.2.2
  have h3 : List.drop 4 a.ts = [] := List.drop_of_length_le (by rw [En.ts_len]; exact Nat.le_refl _)
  rw [List.drop_drop, dropN_cons ha, List.flatMap_cons, List.drop_append, h3, En.ts_len, List.nil_append] at h2
  rw [show (j + 1) * 4 = j * 4 + 4 by omega]
  simpa using h2
theorem delN_skip {p : En → Bool} {l : List En} {j : Nat} {C : List T} (h : DelN p l j C) {a : En} (ha : l[j]? = some a) (hp : p a = true) : DelN p l (j + 1) C :=
  ⟨h.1, by rw [notE_skip ha hp]; exact h.2.1, dropN_next h ha⟩
theorem delN_keep {p : En → Bool} {l : List En} {j : Nat} {C : List T} (h : DelN p l j C) {a : En} (ha : l[j]? = some a) (hp : p a = false) : DelN p l (j + 1) (spl C ((notE p (l.take j)).length * 4) a.ts) ∧ (notE p (l.take (j + 1))).length = (notE p (l.take j)).length + 1 := by
  have hj : j < l.length := (List.getElem?_eq_some_iff.1 ha).1
  have hn := notE_snoc ha hp
  have hle : (notE p (l.take j)).length ≤ j := Nat.le_trans (notE_len p _) (by rw [List.length_take]; omega)
  have hl1 : (notE p (l.take (j + 1))).length = (notE p (l.take j)).length + 1 := by rw [hn]; simp
  have hC := h.1
  have hts := En.ts_len a
  have hb : (notE p (l.take j)).length * 4 + a.ts.length ≤ C.length := by rw [hts, hC]; omega
  refine ⟨⟨?_, ?_, ?_⟩, hl1⟩
  · rw [spl_len]; exact hC
  · rw [hl1, spl_eq _ _ _ hb, hn, List.flatMap_append, ← h.2.1]
    have h1 : (C.take ((notE p (l.take j)).length * 4) ++ a.ts).length = ((notE p (l.take j)).length + 1) * 4 := by rw [List.length_append, List.length_take, hts]; omega
    rw [List.take_append_of_le_length (by omega), List.take_of_length_le (by omega)]
    simp
  · rw [spl_eq _ _ _ hb, ← dropN_next h ha]
    have h1 : (C.take ((notE p (l.take j)).length * 4) ++ a.ts).length = ((notE p (l.take j)).length + 1) * 4 := by rw [List.length_append, List.length_take, hts]; omega
    rw [List.drop_append, h1, List.drop_of_length_le (by omega), List.nil_append, List.drop_drop, hts]
    congr 1
    omega
set_option maxRecDepth 100000 in
set_option maxHeartbeats 1000000 in
theorem idxEn_af (p : En → Bool) (f : FuncId) (cap : List T) (l : List En) (hf : ∀ a ∈ l, AF Tryd.prog f (.agg (En.ts a) :: cap) (· = .lit (.bool (p a)))) :
    AF Tryd.prog 26 [.row l.length 4 (l.flatMap En.ts), .fn (.func f) cap] (· = .lit (.int .i64 (idxI p l))) := by
  refine af_enter tok Tryd.func26 Tryd.ntmps26 Tryd.results26 rfl (by kernel_rfl) rfl rfl fun F hX => ?_
  repeat (first | refine gG ?_ | refine zN1 (fun hlen => ?_) | refine zN2 (fun hlen => ?_))
  refine x_loop [4, 5, 8, 9, 10, 11, 12, 13, 14, 15, 16, 17, 18] (fun k : Nat => [(8, .c (.lit (.int .i64 k)))]) (fun _ => []) (fun k => k ≤ l.length ∧ idxAt p l k) (fun k => l.length - k) 0 ⟨Nat.zero_le _, idxAt_zero p l⟩ ⟨rfl, trivial⟩ rfl fun k hk => ?_
  repeat (first | refine gG ?_ | refine zN1 (fun hlen => ?_) | refine zN2 (fun hlen => ?_))
  refine x_cond rfl (fun h => ?_) (fun h => ?_)
  · have hk' : k < l.length := by simpa using h
    obtain ⟨a, ha⟩ := nth hk'
    have hs := hf a (List.mem_of_getElem? ha)
    repeat (first | refine gG ?_ | refine zN1 (fun hlen => ?_) | refine zN2 (fun hlen => ?_))
    refine lo_idx tok k rfl rfl rfl hk' rfl rfl rfl rfl ?_
    repeat (first | refine gG ?_ | refine zN1 (fun hlen => ?_) | refine zN2 (fun hlen => ?_))
    refine lo_load_pin tok rfl rfl rfl (flat_at En.ts 4 En.ts_len ha) (En.ts_len a) ?_
    repeat (first | refine gG ?_ | refine zN1 (fun hlen => ?_) | refine zN2 (fun hlen => ?_))
    refine v_callc hs rfl (by first | exact rzs_cons rz_c rzs_self | (repeat (first | exact rzs_nil | apply rzs_cons | exact rz_c | exact rz_nil rfl | apply rz_agg | exact rz_own rfl | apply rz_fn | exact rz_ptr rfl | apply rz_tup))) ?_
    rintro _ rfl
    cases hp : p a
    · repeat (first | refine gG ?_ | refine zN1 (fun hlen => ?_) | refine zN2 (fun hlen => ?_))
      exact ⟨k + 1, ⟨hk', idxAt_no hk.2 ha hp⟩, by omega, x_wkd 0 ⟨rfl, trivial⟩ rfl (by repeat (first | exact ag_refl | refine ag_upd rfl ?_ | refine ag_at rfl rfl ?_))⟩
    · repeat (first | refine gG ?_ | refine zN1 (fun hlen => ?_) | refine zN2 (fun hlen => ?_))
      first | refine zR ?_ | refine zQ ?_
      rw [idxAt_yes hk.2 ha hp]; rfl
  · have hk' : k = l.length := by have : ¬ k < l.length := by simpa using h
                                  omega
    subst hk'
    repeat (first | refine gG ?_ | refine zN1 (fun hlen => ?_) | refine zN2 (fun hlen => ?_))
    first | refine zR ?_ | refine zQ ?_
    rw [idxAt_end hk.2]; rfl
set_option maxRecDepth 100000 in
set_option maxHeartbeats 2000000 in
theorem delEn_ag (p : En → Bool) (f : FuncId) (t : T) (l : List En) (v : Value) (hl : l.length ≤ 1048576) (hf : ∀ a ∈ l, AF Tryd.prog f [.agg (En.ts a), t] (· = .lit (.bool (p a)))) :
    AG Tryd.prog 8 [.own 0 v, .fn (.func f) [.c t]] [.row v 40 4 l.length (l.flatMap En.ts)] (fun r hs => ∃ v', r = .own 0 v' ∧ hs = [.row v' 40 4 (notE p l).length ((notE p l).flatMap En.ts)]) := by
  have hix := idxEn_af p f [t] l hf
  have hd := delN_idx p l
  generalize idxI p l = ix at *
  refine ag_enter (1) tok Tryd.func8 Tryd.ntmps8 Tryd.results8 rfl (by kernel_rfl) rfl fun F => ?_
  repeat (first | refine gG ?_ | refine zN1 (fun hlen => ?_) | refine zN2 (fun hlen => ?_) | refine zAl (fun _ => ?_))
  refine zPeek hix ?_
  rintro _ rfl
  refine ⟨rfl, ?_⟩
  clear hix
  rcases hd with ⟨rfl, h2⟩ | ⟨i, rfl, hi, h2⟩
  · repeat (first | refine gG ?_ | refine zN1 (fun hlen => ?_) | refine zN2 (fun hlen => ?_) | refine zAl (fun _ => ?_))
    refine zG ?_
    exact ⟨_, rfl, by rw [h2]⟩
  have d0 : decide (((i : Nat) : Int) = -1) = false := decide_eq_false (by omega)
  have hn0 : (notE p (l.take (i + 1))).length = i := by rw [h2, List.length_take]; omega
  have hst := delN_start hi h2
  clear h2
  repeat (first | refine gG ?_ | refine zN1 (fun hlen => ?_) | refine zN2 (fun hlen => ?_) | refine zAl (fun _ => ?_))
  refine x_loop [5, 6, 7, 16, 17, 18, 19, 20, 21, 22, 23, 24, 25, 26, 27, 28, 29, 30, 31, 32, 33, 34, 35] (fun y : Nat × List T => [(6, .c (.lit (.int .i64 (y.1 : Nat)))), (5, .c (.lit (.int .i64 ((notE p (l.take y.1)).length : Nat))))]) (fun y => [.row v 40 4 l.length y.2]) (fun y => y.1 ≤ l.length ∧ DelN p l y.1 y.2) (fun y => l.length - y.1) (i + 1, l.flatMap En.ts) ⟨by omega, hst⟩ ⟨rfl, by rw [hn0]; rfl, trivial⟩ rfl ?_
  clear hst hn0 d0 hi
  rintro ⟨j, C⟩ ⟨hj, hC⟩
  dsimp only at hj hC ⊢
  repeat (first | refine gG ?_ | refine zN1 (fun hlen => ?_) | refine zN2 (fun hlen => ?_) | refine zAl (fun _ => ?_))
  refine x_cond rfl (fun h => ?_) (fun h => ?_)
  · have hj' : j < l.length := by simpa using h
    obtain ⟨a, ha⟩ := nth hj'
    have hs := hf a (List.mem_of_getElem? ha)
    have hat := delN_at hC ha
    have hle : (notE p (l.take j)).length ≤ j := Nat.le_trans (notE_len p _) (by rw [List.length_take]; omega)
    have hk := fun hp => delN_keep hC ha (p := p) hp
    have hsk := fun hp => delN_skip hC ha (p := p) hp
    have hsl := fun hp => notE_skip ha (p := p) hp
    have hCl := hC.1
    clear h ha hC hf
    obtain ⟨an, av, ai, al⟩ := a
    repeat (first | refine gG ?_ | refine zN1 (fun hlen => ?_) | refine zN2 (fun hlen => ?_) | refine zAl (fun _ => ?_))
    refine zIxo j hj' ?_
    repeat (first | refine gG ?_ | refine zN1 (fun hlen => ?_) | refine zN2 (fun hlen => ?_) | refine zAl (fun _ => ?_))
    refine zElo hat (En.ts_len _) ?_
    repeat (first | refine gG ?_ | refine zN1 (fun hlen => ?_) | refine zN2 (fun hlen => ?_) | refine zAl (fun _ => ?_))
    refine zCall hs ?_
    rintro _ rfl
    clear hs
    cases hp : p ⟨an, av, ai, al⟩
    · obtain ⟨h1, h2⟩ := hk hp
      clear hk hsk hp hat hsl
      repeat (first | refine gG ?_ | refine zN1 (fun hlen => ?_) | refine zN2 (fun hlen => ?_) | refine zAl (fun _ => ?_))
      refine zIxo (notE p (l.take j)).length (show (notE p (l.take j)).length < l.length by omega) ?_
      repeat (first | refine gG ?_ | refine zN1 (fun hlen => ?_) | refine zN2 (fun hlen => ?_) | refine zAl (fun _ => ?_))
      refine zSe (us := [.lit (.string an), .lit (.int .i64 av), .lit (.string ai), .lit (.string al)]) rfl (show (notE p (l.take j)).length * 4 + 4 ≤ C.length by rw [hCl]; omega) ?_
      repeat (first | refine gG ?_ | refine zN1 (fun hlen => ?_) | refine zN2 (fun hlen => ?_) | refine zAl (fun _ => ?_))
      exact ⟨(j + 1, _), ⟨hj', h1⟩, by simp only; omega, x_wkd 1 ⟨rfl, by rw [h2]; rfl, trivial⟩ rfl (by repeat (first | exact ag_refl | refine ag_upd rfl ?_ | refine ag_at rfl rfl ?_))⟩
    · have h1 := hsk hp
      have h2 : (notE p (l.take (j + 1))).length = (notE p (l.take j)).length := by rw [hsl hp]
      clear hk hsk hat hsl
      repeat (first | refine gG ?_ | refine zN1 (fun hlen => ?_) | refine zN2 (fun hlen => ?_) | refine zAl (fun _ => ?_))
      exact ⟨(j + 1, C), ⟨hj', h1⟩, by simp only; omega, x_wkd 1 ⟨rfl, by rw [h2]; rfl, trivial⟩ rfl (by repeat (first | exact ag_refl | refine ag_upd rfl ?_ | refine ag_at rfl rfl ?_))⟩
  · have hj' : j = l.length := by
      have : ¬ j < l.length := by simpa using h
      omega
    subst hj'
    clear h hf
    obtain ⟨hCl, hCt, _⟩ := hC
    rw [List.take_length] at hCt ⊢
    have hnl := notE_len p l
    repeat (first | refine gG ?_ | refine zN1 (fun hlen => ?_) | refine zN2 (fun hlen => ?_) | refine zAl (fun _ => ?_))
    refine zQs (n := l.length) (notE p l).length hnl ?_
    repeat (first | refine gG ?_ | refine zN1 (fun hlen => ?_) | refine zN2 (fun hlen => ?_) | refine zAl (fun _ => ?_))
    refine zClr 0 (notE p l).length hnl (fun us hus => ?_)
    have htk := take_clear C us ((notE p l).length * 4) (by rw [hus, hCl]; omega)
    repeat (first | refine gG ?_ | refine zN1 (fun hlen => ?_) | refine zN2 (fun hlen => ?_) | refine zAl (fun _ => ?_))
    refine zQh (n := l.length) (notE p l).length hnl (fun _ => ?_)
    rw [htk, hCt]
    repeat (first | refine gG ?_ | refine zN1 (fun hlen => ?_) | refine zN2 (fun hlen => ?_) | refine zAl (fun _ => ?_))
    refine zG ?_
    exact ⟨_, rfl, rfl⟩
set_option maxRecDepth 100000 in
set_option maxHeartbeats 1000000 in
theorem cloneEn_ag (l : List En) (hl : l.length ≤ 1048576) : AG Tryd.prog 9 [.c (En.row l)] [] (fun r hs => ∃ v, r = .own 0 v ∧ hs = [.row v 40 4 l.length (l.flatMap En.ts)]) := by
  refine ag_enter (1) tok Tryd.func9 Tryd.ntmps9 Tryd.results9 rfl (by kernel_rfl) rfl fun F => ?_
  repeat (first | refine gG ?_ | refine zAp (fun _ => ?_))
  refine zNs (fun b hb => ?_)
  cases b
  · repeat (first | refine gX ?_ | refine zAp (fun _ => ?_))
    refine zBo (fun _ => ?_)
    repeat (first | refine gG ?_ | refine zAp (fun _ => ?_))
    refine zG ?_
    exact ⟨_, rfl, by simp only [List.nil_append, Nat.zero_add]⟩
  · have h0 := hb rfl
    have : l = [] := List.eq_nil_of_length_eq_zero h0
    subst this
    repeat (first | refine gO ?_ | refine ac_seq ?_ | refine ac_block ?_ | refine ac_region ?_ | refine ac_skip ?_ | refine zT ?_)
    refine x_own 2 40 4 rfl rfl rfl rfl rfl ?_
    repeat (first | refine gG ?_ | refine zAp (fun _ => ?_))
    refine zG ?_
    exact ⟨_, rfl, rfl⟩
end Go.Proofs.YtbfomgchjlkopaaDoor
namespace Go.Proofs.YtbfomgchjlkopaaDoor
open Go.RowKit
theorem en_fields : Tryd.prog.underlying 40 = some (.struct (Tryd.prog.fieldsOf 40)) := by kernel_rfl
theorem en_held : Tryd.prog.stoodInHeld 40 = false := by kernel_rfl
theorem en_guard : Tryd.prog.eqGuardType Tryd.prog.depth 40 = false := by kernel_rfl
set_option maxRecDepth 100000 in
theorem eq_en (d : Nat) (n : ByteArray) (a : Int) (i l : ByteArray) (w : World) :
    (Op.equalIn (d + 1 + 1) 40 (.agg [.string n, .int .i64 a, .string i, .string l].toArray) (.agg [.string n, .int .i64 a, .string i, .string l].toArray)).run Tryd.prog w = .ok true w := by
  rw [run_equalIn_struct w (d + 1) 40 _ _ en_fields en_held]
  have h1 := en_fields
  rw [Tryd.underlying40] at h1
  injection h1 with h1
  injection h1 with h1
  rw [← h1]
  simp [Op.eqFields, part, Tryd.isAgg9, Tryd.isAgg3, run_equalIn_string w _ _ _ _ Tryd.underlying9, run_equalIn_int w _ _ _ _ _ _ Tryd.underlying3]
theorem lo_neqEn {F : Frm} {d : Option Tmp} {ty : TypeId} {pos : String} {aft : Array Edge} {g : Option (Nat × Bool)} {ρ : Operand → AV} {hp : List Blk} {K : AV → List Blk → Prop} {t' : TypeId} {x y : Operand} (u : En) (h : K (.c (.lit (.bool false))) hp) (hx : ρ x = .c (.agg u.ts)) (hy : ρ y = .c (.agg u.ts)) : LO Tryd.prog F ⟨d, .binOp .neq 40 x y t', ty, pos, aft, g⟩ ρ hp K := by
  obtain ⟨n, a, i, l⟩ := u
  refine LO.same (fun M e w he hh => ?_) h
  have h1 := he x (by simp [Op.operands])
  rw [hx] at h1
  have h2 := he y (by simp [Op.operands])
  rw [hy] at h2
  simp only [RA, RT, En.ts, RTs] at h1 h2
  obtain ⟨xs, h1, q0, r0, rfl, rfl, q1, r1, rfl, rfl, q2, r2, rfl, rfl, q3, r3, rfl, rfl, rfl⟩ := h1
  obtain ⟨ys, h2, q0, r0, rfl, rfl, q1, r1, rfl, rfl, q2, r2, rfl, rfl, q3, r3, rfl, rfl, rfl⟩ := h2
  refine ⟨.bool false, ?_, by simp only [RA, RT]⟩
  have hg := run_eqGuard_agg (P := Tryd.prog) w .neq 40 x y [.string n, .int .i64 a, .string i, .string l].toArray [.string n, .int .i64 a, .string i, .string l].toArray en_guard
  have hr := run_neq_struct (P := Tryd.prog) w 40 [.string n, .int .i64 a, .string i, .string l].toArray [.string n, .int .i64 a, .string i, .string l].toArray
  have he2 := eq_en 9998 n a i l w
  rw [show (9998 + 1 + 1) = 10000 from rfl] at he2
  rw [he2, Result.andThen_ok] at hr
  simp [execOp, h1, h2, hg, hr]
set_option maxRecDepth 100000 in
set_option maxHeartbeats 1000000 in
theorem eqEns_af (l : List En) : AF Tryd.prog 11 [En.row l, En.row l] (· = .lit (.bool true)) := by
  have q1 : decide (((l.length : Nat) : Int) = ((l.length : Nat) : Int)) = true := decide_eq_true rfl
  refine af_enter tok Tryd.func11 Tryd.ntmps11 Tryd.results11 rfl (by kernel_rfl) rfl rfl fun F hX => ?_
  repeat (first | refine gG ?_ | refine zN1 (fun hlen => ?_) | refine zN2 (fun hlen => ?_))
  refine x_loop [4, 5, 13, 14, 15, 16, 17, 18, 19, 20, 21, 22, 23, 24, 25] (fun k : Nat => [(13, .c (.lit (.int .i64 (k : Nat))))]) (fun _ => []) (fun k => k ≤ l.length) (fun k => l.length - k) 0 (Nat.zero_le _) ⟨rfl, trivial⟩ rfl ?_
  rintro k hk
  repeat (first | refine gG ?_ | refine zN1 (fun hlen => ?_) | refine zN2 (fun hlen => ?_))
  refine x_cond rfl (fun h => ?_) (fun h => ?_)
  · have hk' : k < l.length := by simpa using h
    obtain ⟨r, hr⟩ := nth hk'
    have hat := En.at hr
    clear h hr
    repeat (first | refine gG ?_ | refine zN1 (fun hlen => ?_) | refine zN2 (fun hlen => ?_))
    refine ac_draw [1, 1, 1, 1, 1, 1, 1, 1, 1] [0, 1, 2, 3, 4, 5, 6, 7, 8] (by kernel_rfl) (by kernel_rfl) ?_
    refine gW ?_
    apply w_q; (focus exact rfl); (focus exact rfl); focus (intro _; (refine zIx k hk' ?_); exact det_refl)
    apply w_q; (focus exact rfl); (focus exact rfl); focus (intro _; (refine zEl hat (En.ts_len _) ?_); exact det_refl)
    refine gW ?_
    apply w_q; (focus exact rfl); (focus exact rfl); focus (intro _; (refine zIx k hk' ?_); exact det_refl)
    apply w_q; (focus exact rfl); (focus exact rfl); focus (intro _; (refine zEl hat (En.ts_len _) ?_); exact det_refl)
    apply w_q; (focus exact rfl); (focus exact rfl); focus (intro _; (refine lo_neqEn r ?_ rfl rfl); exact det_refl)
    refine w_nil ?_
    repeat (first | refine gG ?_ | refine zN1 (fun hlen => ?_) | refine zN2 (fun hlen => ?_))
    exact ⟨k + 1, hk', by omega, x_wkd 0 ⟨rfl, trivial⟩ rfl (by repeat (first | exact ag_refl | refine ag_upd rfl ?_ | refine ag_at rfl rfl ?_))⟩
  · have hk' : k = l.length := by
      have : ¬ k < l.length := by simpa using h
      omega
    subst hk'
    clear h
    repeat (first | refine gG ?_ | refine zN1 (fun hlen => ?_) | refine zN2 (fun hlen => ?_))
    first | refine zR ?_ | refine zQ ?_
    rfl
set_option maxRecDepth 100000 in
set_option maxHeartbeats 1000000 in
theorem eqStrSelfP_af (l : List ByteArray) : AF Tryd.prog 13 [strRow l, strRow l] (· = .lit (.bool true)) := by
  have q1 : decide (((l.length : Nat) : Int) = ((l.length : Nat) : Int)) = true := decide_eq_true rfl
  refine af_enter tok Tryd.func13 Tryd.ntmps13 Tryd.results13 rfl (by kernel_rfl) rfl rfl fun F hX => ?_
  repeat (first | refine gG ?_ | refine zN1 (fun hlen => ?_) | refine zN2 (fun hlen => ?_))
  refine x_loop [4, 5, 13, 14, 15, 16, 17, 18, 19, 20, 21, 22, 23, 24, 25] (fun k : Nat => [(13, .c (.lit (.int .i64 (k : Nat))))]) (fun _ => []) (fun k => k ≤ l.length) (fun k => l.length - k) 0 (Nat.zero_le _) ⟨rfl, trivial⟩ rfl ?_
  rintro k hk
  repeat (first | refine gG ?_ | refine zN1 (fun hlen => ?_) | refine zN2 (fun hlen => ?_))
  refine x_cond rfl (fun h => ?_) (fun h => ?_)
  · have hk' : k < l.length := by simpa using h
    obtain ⟨r, hr⟩ := nth hk'
    have hat : (l.flatMap strTs)[k * 1]? = some (.lit (.string r)) := by rw [Nat.mul_one]; exact str_at hr
    have hself : decide (r = r) = true := decide_eq_true rfl
    clear h hr
    repeat (first | refine gG ?_ | refine zN1 (fun hlen => ?_) | refine zN2 (fun hlen => ?_))
    refine ac_draw [1, 1, 1, 1, 1, 1, 1, 1, 1] [0, 1, 2, 3, 4, 5, 6, 7, 8] (by kernel_rfl) (by kernel_rfl) ?_
    refine gW ?_
    apply w_q; (focus exact rfl); (focus exact rfl); focus (intro _; (refine zIx k hk' ?_); exact det_refl)
    apply w_q; (focus exact rfl); (focus exact rfl); focus (intro _; (refine zEl1 hat ?_); exact det_refl)
    refine gW ?_
    apply w_q; (focus exact rfl); (focus exact rfl); focus (intro _; (refine zIx k hk' ?_); exact det_refl)
    apply w_q; (focus exact rfl); (focus exact rfl); focus (intro _; (refine zEl1 hat ?_); exact det_refl)
    refine gW ?_
    refine w_nil ?_
    repeat (first | refine gG ?_ | refine zN1 (fun hlen => ?_) | refine zN2 (fun hlen => ?_))
    exact ⟨k + 1, hk', by omega, x_wkd 0 ⟨rfl, trivial⟩ rfl (by repeat (first | exact ag_refl | refine ag_upd rfl ?_ | refine ag_at rfl rfl ?_))⟩
  · have hk' : k = l.length := by
      have : ¬ k < l.length := by simpa using h
      omega
    subst hk'
    clear h
    repeat (first | refine gG ?_ | refine zN1 (fun hlen => ?_) | refine zN2 (fun hlen => ?_))
    first | refine zR ?_ | refine zQ ?_
    rfl
def neN (name : ByteArray) (e : En) : Bool := !decide (e.name = name)
set_option maxRecDepth 100000 in
set_option maxHeartbeats 1000000 in
theorem find1_af (name : ByteArray) (e : En) : AF Tryd.prog 25 [.agg (En.ts e), .pin [.lit (.string name)] 0] (· = .lit (.bool (neN name e))) := by
  obtain ⟨n, a, i, l⟩ := e
  refine af_enter tok Tryd.func25 Tryd.ntmps25 Tryd.results25 rfl (by kernel_rfl) rfl rfl fun F hX => ?_
  repeat (first | refine gG ?_ | refine zBf ?_)
  first | refine zR ?_ | refine zQ ?_
  rfl
set_option maxRecDepth 100000 in
set_option maxHeartbeats 1000000 in
theorem law1_af (name : ByteArray) (e : En) : AF Tryd.prog 10 [.agg (En.ts e), .pin [.lit (.string name)] 0] (· = .lit (.bool (neN name e))) := by
  obtain ⟨n, a, i, l⟩ := e
  refine af_enter tok Tryd.func10 Tryd.ntmps10 Tryd.results10 rfl (by kernel_rfl) rfl rfl fun F hX => ?_
  repeat (first | refine gG ?_ | refine zBf ?_)
  first | refine zR ?_ | refine zQ ?_
  rfl
def fndE (p : Pr) (name : ByteArray) : List En := notE (neN name) (entS p)
set_option maxRecDepth 100000 in
set_option maxHeartbeats 1000000 in
theorem find_af (p : Pr) (name : ByteArray) (hp : p.size ≤ 1048576) : AF Tryd.prog 7 [p.t, .lit (.string name)] (· = .tup [En.row (fndE p name), .lit (.int .i64 (if (fndE p name).length = 0 then 11 else 0))]) := by
  have he := entries_ag p hp
  have hl : (entS p).length ≤ 1048576 := by rw [entS_len]; exact Nat.le_trans (entr_len p) hp
  have hdl := fun v => delEn_ag (neN name) 25 (.pin [.lit (.string name)] 0) (entS p) v hl (fun a _ => find1_af name a)
  unfold fndE
  have hnl := notE_len (neN name) (entS p)
  generalize notE (neN name) (entS p) = K at *
  by_cases h0 : K.length = 0
  · rw [if_pos h0]
    have d0 : decide (((K.length : Nat) : Int) = 0) = true := by rw [h0]; rfl
    obtain rfl := List.length_eq_zero_iff.1 h0
    obtain ⟨nm, ve, us, ds, ts, ims, fs, acs⟩ := p
    refine af_enter tok Tryd.func7 Tryd.ntmps7 Tryd.results7 rfl (by kernel_rfl) rfl rfl fun F hX => ?_
    repeat (first | refine gG ?_ | refine zN1 (fun hlen => ?_) | refine zN2 (fun hlen => ?_) | refine zBf ?_)
    refine zCallG [] he ?_
    rintro _ _ ⟨b0, v, cs, rfl, rfl⟩
    refine ⟨.own 1 v, _, re_own, rfl, rfl, ?_⟩
    repeat (first | refine gG ?_ | refine zN1 (fun hlen => ?_) | refine zN2 (fun hlen => ?_) | refine zBf ?_)
    refine zCallG [1] (hdl v) ?_
    rintro _ _ ⟨v', rfl, rfl⟩
    refine ⟨.own 1 v', _, re_own, rfl, rfl, ?_⟩
    repeat (first | refine gG ?_ | refine zN1 (fun hlen => ?_) | refine zN2 (fun hlen => ?_) | refine zBf ?_)
    first | refine zR (ts := [En.row [], .lit (.int .i64 11)]) ?_ | refine zQ (ts := [En.row [], .lit (.int .i64 11)]) ?_
    rfl
  · rw [if_neg h0]
    have d0 : decide (((K.length : Nat) : Int) = 0) = false := decide_eq_false (by omega)
    obtain ⟨nm, ve, us, ds, ts, ims, fs, acs⟩ := p
    refine af_enter tok Tryd.func7 Tryd.ntmps7 Tryd.results7 rfl (by kernel_rfl) rfl rfl fun F hX => ?_
    repeat (first | refine gG ?_ | refine zN1 (fun hlen => ?_) | refine zN2 (fun hlen => ?_) | refine zBf ?_)
    refine zCallG [] he ?_
    rintro _ _ ⟨b0, v, cs, rfl, rfl⟩
    refine ⟨.own 1 v, _, re_own, rfl, rfl, ?_⟩
    repeat (first | refine gG ?_ | refine zN1 (fun hlen => ?_) | refine zN2 (fun hlen => ?_) | refine zBf ?_)
    refine zCallG [1] (hdl v) ?_
    rintro _ _ ⟨v', rfl, rfl⟩
    refine ⟨.own 1 v', _, re_own, rfl, rfl, ?_⟩
    repeat (first | refine gG ?_ | refine zN1 (fun hlen => ?_) | refine zN2 (fun hlen => ?_) | refine zBf ?_)
    first | refine zR (ts := [En.row K, .lit (.int .i64 0)]) ?_ | refine zQ (ts := [En.row K, .lit (.int .i64 0)]) ?_
    rfl
end Go.Proofs.YtbfomgchjlkopaaDoor
namespace Go.Proofs.YtbfomgchjlkopaaDoor
open Go.RowKit
set_option maxRecDepth 100000 in
set_option maxHeartbeats 8000000 in
theorem entries_af (p : Pr) (hp : p.size ≤ 1048576) : AF Tryd.prog 12 [p.t] (· = En.row (entS p)) := by
  unfold En.row
  have hsl0 := entS_len p
  have hok := entr_ok p
  have hln := entr_len p
  have hst : ∀ w, _ := fun w => sortStable_ag w enOk 33 [] cmpEn (entr p) (by omega) hok
  rw [hsl0]
  unfold entS
  obtain ⟨nm, ve, us, ds, ts, ims, fs, acs⟩ := p
  have h0 : nm.size + Us.sizes us + Da.sizes ds + Tr.sizes ts + Im.sizes ims + Fu.sizes fs + Ac.sizes acs + 1 ≤ 1048576 := hp
  have l1 := Da.len_sizes ds
  have l2 := Tr.len_sizes ts
  have l3 := Fu.len_sizes fs
  have l4 := Ac.len_sizes acs
  have hE : entr ⟨nm, ve, us, ds, ts, ims, fs, acs⟩ = ds.flatMap daE ++ ts.flatMap trE ++ fs.map fuE ++ acs.map acE := rfl
  rw [hE] at hln hst ⊢
  clear hE hok hsl0 hp
  have m1 : (ds.flatMap daE).length ≤ 1048576 := by simp only [List.length_append] at hln; simp only [Pr.size] at hln; omega
  have m2 : (ts.flatMap trE).length ≤ 1048576 := by simp only [List.length_append] at hln; simp only [Pr.size] at hln; omega
  have n1 : ∀ k, ((ds.take k).flatMap daE).length ≤ 1048576 := fun k => Nat.le_trans (enf_le daE ds k) m1
  have n2 : ∀ k, ((ts.take k).flatMap trE).length ≤ 1048576 := fun k => Nat.le_trans (enf_le trE ts k) m2
  refine af_enter tok Tryd.func12 Tryd.ntmps12 Tryd.results12 rfl (by kernel_rfl) rfl rfl fun F hX => ?_
  repeat (first | refine gG ?_ | refine zN1 (fun hlen => ?_) | refine zN2 (fun hlen => ?_) | refine zAl (fun _ => ?_) | refine zBx (fun _ => ?_) | refine zAp (fun _ => ?_))
  rename_i b0
  refine x_own 3 40 4 rfl rfl rfl rfl rfl ?_
  refine x_loop [3, 5, 15, 16, 17, 18, 19, 20, 21, 22, 23] (fun y : Nat × Value => [(15, .c (.lit (.int .i64 y.1))), (3, .own 1 y.2)]) (fun y => [.box b0 29 [.c (.lit (.string nm)), .c (.lit (.int .i64 ve)), .c (Us.row us), .c (Da.row ds), .c (Tr.row ts), .c (Im.row ims), .c (Fu.row fs), .c (Ac.row acs)], .row y.2 40 4 ((ds.take y.1).flatMap daE).length (((ds.take y.1).flatMap daE).flatMap En.ts)]) (fun y => y.1 ≤ ds.length) (fun y => ds.length - y.1) (0, .slice none 0 0) (Nat.zero_le _) ⟨rfl, rfl, trivial⟩ rfl ?_
  rintro ⟨k, v1⟩ hk
  dsimp only at hk ⊢
  have hlk : ((ds.take k).flatMap daE).length ≤ 4194304 := by
    try simp only [List.length_append, List.length_map, List.length_take]
    have := n1 k; omega
  repeat (first | refine gG ?_ | refine zN1 (fun hlen => ?_) | refine zN2 (fun hlen => ?_) | refine zAl (fun _ => ?_) | refine zBx (fun _ => ?_) | refine zAp (fun _ => ?_))
  refine x_cond rfl (fun h => ?_) (fun h => ?_)
  · have hk' : k < ds.length := by simpa using h
    obtain ⟨a, ha⟩ := nth hk'
    have haz := Da.size_mem (List.mem_of_getElem? ha)
    have hfa := dataEntries_af a (by omega)
    have hsn : ((ds.take (k + 1)).flatMap daE).flatMap En.ts = ((ds.take k).flatMap daE).flatMap En.ts ++ (daE a).flatMap En.ts := by rw [enf_snoc daE ha, fl_app]
    have hsl : ((ds.take (k + 1)).flatMap daE).length = ((ds.take k).flatMap daE).length + (daE a).length := by rw [enf_snoc daE ha, List.length_append]
    have hda := daE_len a
    have hrw : En.row (daE a) = .row (daE a).length 4 ((daE a).flatMap En.ts) := rfl
    rw [hrw] at hfa
    repeat (first | refine gG ?_ | refine zN1 (fun hlen => ?_) | refine zN2 (fun hlen => ?_) | refine zAl (fun _ => ?_) | refine zBx (fun _ => ?_) | refine zAp (fun _ => ?_))
    refine zIx (k) (hk') ?_
    repeat (first | refine gG ?_ | refine zN1 (fun hlen => ?_) | refine zN2 (fun hlen => ?_) | refine zAl (fun _ => ?_) | refine zBx (fun _ => ?_) | refine zAp (fun _ => ?_))
    refine zEl (Da.at ha) (Da.ts_len a) ?_
    generalize daE a = ax at *
    obtain ⟨na, pa, ma⟩ := a
    repeat (first | refine gG ?_ | refine zN1 (fun hlen => ?_) | refine zN2 (fun hlen => ?_) | refine zAl (fun _ => ?_) | refine zBx (fun _ => ?_) | refine zAp (fun _ => ?_))
    refine zCall (hfa) ?_
    rintro _ rfl
    repeat (first | refine gG ?_ | refine zN1 (fun hlen => ?_) | refine zN2 (fun hlen => ?_) | refine zAl (fun _ => ?_) | refine zBx (fun _ => ?_) | refine zAp (fun _ => ?_))
    exact ⟨(k + 1, _), hk', by simp only; omega, x_wkd 2 ⟨rfl, rfl, trivial⟩ (by rw [hsn, hsl]; rfl) (by repeat (first | exact ag_refl | refine ag_upd rfl ?_ | refine ag_at rfl rfl ?_))⟩
  have hk' : k = ds.length := by
    have : ¬ k < ds.length := by simpa using h
    omega
  subst hk'
  rw [List.take_length] at *
  clear hk hlk h
  repeat (first | refine gG ?_ | refine zN1 (fun hlen => ?_) | refine zN2 (fun hlen => ?_) | refine zAl (fun _ => ?_) | refine zBx (fun _ => ?_) | refine zAp (fun _ => ?_))
  refine x_loop [3, 7, 27, 28, 29, 30, 31, 32, 33, 34, 35] (fun y : Nat × Value => [(27, .c (.lit (.int .i64 y.1))), (3, .own 1 y.2)]) (fun y => [.box b0 29 [.c (.lit (.string nm)), .c (.lit (.int .i64 ve)), .c (Us.row us), .c (Da.row ds), .c (Tr.row ts), .c (Im.row ims), .c (Fu.row fs), .c (Ac.row acs)], .row y.2 40 4 (ds.flatMap daE ++ (ts.take y.1).flatMap trE).length ((ds.flatMap daE ++ (ts.take y.1).flatMap trE).flatMap En.ts)]) (fun y => y.1 ≤ ts.length) (fun y => ts.length - y.1) (0, v1) (Nat.zero_le _) ⟨rfl, rfl, trivial⟩ (by simp) ?_
  rintro ⟨k, v2⟩ hk
  dsimp only at hk ⊢
  have hlk : (ds.flatMap daE ++ (ts.take k).flatMap trE).length ≤ 4194304 := by
    try simp only [List.length_append, List.length_map, List.length_take]
    have := n2 k; omega
  repeat (first | refine gG ?_ | refine zN1 (fun hlen => ?_) | refine zN2 (fun hlen => ?_) | refine zAl (fun _ => ?_) | refine zBx (fun _ => ?_) | refine zAp (fun _ => ?_))
  refine x_cond rfl (fun h => ?_) (fun h => ?_)
  · have hk' : k < ts.length := by simpa using h
    obtain ⟨a, ha⟩ := nth hk'
    have haz := Tr.size_mem (List.mem_of_getElem? ha)
    have hfa := traitEntries_af a (by omega)
    have hsn : (ds.flatMap daE ++ (ts.take (k + 1)).flatMap trE).flatMap En.ts = (ds.flatMap daE ++ (ts.take k).flatMap trE).flatMap En.ts ++ (trE a).flatMap En.ts := by rw [enf_snoc trE ha, ← List.append_assoc, fl_app (_ ++ _)]
    have hsl : (ds.flatMap daE ++ (ts.take (k + 1)).flatMap trE).length = (ds.flatMap daE ++ (ts.take k).flatMap trE).length + (trE a).length := by rw [enf_snoc trE ha, ← List.append_assoc, List.length_append (bs := trE a)]
    have hda := trE_len a
    have hrw : En.row (trE a) = .row (trE a).length 4 ((trE a).flatMap En.ts) := rfl
    rw [hrw] at hfa
    repeat (first | refine gG ?_ | refine zN1 (fun hlen => ?_) | refine zN2 (fun hlen => ?_) | refine zAl (fun _ => ?_) | refine zBx (fun _ => ?_) | refine zAp (fun _ => ?_))
    refine zIx (k) (hk') ?_
    repeat (first | refine gG ?_ | refine zN1 (fun hlen => ?_) | refine zN2 (fun hlen => ?_) | refine zAl (fun _ => ?_) | refine zBx (fun _ => ?_) | refine zAp (fun _ => ?_))
    refine zEl (Tr.at ha) (Tr.ts_len a) ?_
    generalize trE a = ax at *
    obtain ⟨na, pa⟩ := a
    repeat (first | refine gG ?_ | refine zN1 (fun hlen => ?_) | refine zN2 (fun hlen => ?_) | refine zAl (fun _ => ?_) | refine zBx (fun _ => ?_) | refine zAp (fun _ => ?_))
    refine zCall (hfa) ?_
    rintro _ rfl
    repeat (first | refine gG ?_ | refine zN1 (fun hlen => ?_) | refine zN2 (fun hlen => ?_) | refine zAl (fun _ => ?_) | refine zBx (fun _ => ?_) | refine zAp (fun _ => ?_))
    exact ⟨(k + 1, _), hk', by simp only; omega, x_wkd 2 ⟨rfl, rfl, trivial⟩ (by rw [hsn, hsl]; rfl) (by repeat (first | exact ag_refl | refine ag_upd rfl ?_ | refine ag_at rfl rfl ?_))⟩
  have hk' : k = ts.length := by
    have : ¬ k < ts.length := by simpa using h
    omega
  subst hk'
  rw [List.take_length] at *
  clear hk hlk h
  repeat (first | refine gG ?_ | refine zN1 (fun hlen => ?_) | refine zN2 (fun hlen => ?_) | refine zAl (fun _ => ?_) | refine zBx (fun _ => ?_) | refine zAp (fun _ => ?_))
  refine x_loop [3, 9, 39, 40, 41, 42, 43, 44, 45, 46, 47, 48, 49, 50, 51] (fun y : Nat × Value => [(39, .c (.lit (.int .i64 y.1))), (3, .own 1 y.2)]) (fun y => [.box b0 29 [.c (.lit (.string nm)), .c (.lit (.int .i64 ve)), .c (Us.row us), .c (Da.row ds), .c (Tr.row ts), .c (Im.row ims), .c (Fu.row fs), .c (Ac.row acs)], .row y.2 40 4 (ds.flatMap daE ++ ts.flatMap trE ++ (fs.take y.1).map fuE).length ((ds.flatMap daE ++ ts.flatMap trE ++ (fs.take y.1).map fuE).flatMap En.ts)]) (fun y => y.1 ≤ fs.length) (fun y => fs.length - y.1) (0, v2) (Nat.zero_le _) ⟨rfl, rfl, trivial⟩ (by simp) ?_
  rintro ⟨k, v3⟩ hk
  dsimp only at hk ⊢
  have hlk : (ds.flatMap daE ++ ts.flatMap trE ++ (fs.take k).map fuE).length ≤ 4194304 := by
    try simp only [List.length_append, List.length_map, List.length_take]
    omega
  repeat (first | refine gG ?_ | refine zN1 (fun hlen => ?_) | refine zN2 (fun hlen => ?_) | refine zAl (fun _ => ?_) | refine zBx (fun _ => ?_) | refine zAp (fun _ => ?_))
  refine x_cond rfl (fun h => ?_) (fun h => ?_)
  · have hk' : k < fs.length := by simpa using h
    obtain ⟨a, ha⟩ := nth hk'
    have haz := Fu.size_mem (List.mem_of_getElem? ha)
    have hfa := function_af a (by omega)
    have hfz := funS_size a
    have hsn : (ds.flatMap daE ++ ts.flatMap trE ++ (fs.take (k + 1)).map fuE).flatMap En.ts = (ds.flatMap daE ++ ts.flatMap trE ++ (fs.take k).map fuE).flatMap En.ts ++ [.lit (.string a.name), .lit (.int .i64 4), .lit (.string ⟨#[]⟩), .lit (.string (funS a))] := by
      rw [enm_snoc fuE ha, ← List.append_assoc, fl_app (_ ++ _)]
      rfl
    have hsl : (ds.flatMap daE ++ ts.flatMap trE ++ (fs.take (k + 1)).map fuE).length = (ds.flatMap daE ++ ts.flatMap trE ++ (fs.take k).map fuE).length + 1 := by
      rw [enm_snoc fuE ha, ← List.append_assoc, List.length_append (bs := [fuE a])]
      rfl
    repeat (first | refine gG ?_ | refine zN1 (fun hlen => ?_) | refine zN2 (fun hlen => ?_) | refine zAl (fun _ => ?_) | refine zBx (fun _ => ?_) | refine zAp (fun _ => ?_))
    refine zIx (k) (hk') ?_
    repeat (first | refine gG ?_ | refine zN1 (fun hlen => ?_) | refine zN2 (fun hlen => ?_) | refine zAl (fun _ => ?_) | refine zBx (fun _ => ?_) | refine zAp (fun _ => ?_))
    refine zEl (Fu.at ha) (Fu.ts_len a) ?_
    generalize funS a = ax at *
    obtain ⟨na, ps, ns, ys, ⟨ka, ta, la⟩, ⟨kb, nb, tb, nsb, ysb, lb, rsb, pb⟩⟩ := a
    dsimp only at hsn
    repeat (first | refine gG ?_ | refine zN1 (fun hlen => ?_) | refine zN2 (fun hlen => ?_) | refine zAl (fun _ => ?_) | refine zBx (fun _ => ?_) | refine zAp (fun _ => ?_))
    refine ac_draw [1, 1, 1, 1, 1, 1, 1, 2, 1] [0, 1, 2, 3, 4, 5, 6, 7, 8] (by kernel_rfl) (by kernel_rfl) ?_
    refine gW ?_
    apply w_q; (focus exact rfl); (focus exact rfl); focus (intro _; (refine lo_call hfa rfl (by repeat (first | exact rzs_nil | apply rzs_cons | exact rz_c | exact rz_nil rfl | apply rz_agg | exact rz_own rfl | apply rz_fn | exact rz_ptr rfl | apply rz_tup)) ?_; rintro _ rfl); exact det_refl)
    refine gW ?_
    apply w_l; (focus exact rfl); (focus exact rfl); (refine zAp (fun _ => ?_))
    refine gW ?_
    refine w_nil ?_
    repeat (first | refine gG ?_ | refine zN1 (fun hlen => ?_) | refine zN2 (fun hlen => ?_) | refine zAl (fun _ => ?_) | refine zBx (fun _ => ?_) | refine zAp (fun _ => ?_))
    exact ⟨(k + 1, _), hk', by simp only; omega, x_wkd 2 ⟨rfl, rfl, trivial⟩ (by rw [hsn, hsl]; rfl) (by repeat (first | exact ag_refl | refine ag_upd rfl ?_ | refine ag_at rfl rfl ?_))⟩
  have hk' : k = fs.length := by
    have : ¬ k < fs.length := by simpa using h
    omega
  subst hk'
  rw [List.take_length] at *
  clear hk hlk h
  repeat (first | refine gG ?_ | refine zN1 (fun hlen => ?_) | refine zN2 (fun hlen => ?_) | refine zAl (fun _ => ?_) | refine zBx (fun _ => ?_) | refine zAp (fun _ => ?_))
  refine x_loop [3, 11, 55, 56, 57, 58, 59, 60, 61, 62, 63, 64, 65, 66, 67, 68, 69, 70, 71, 72, 73, 74, 75, 76, 77, 78, 79] (fun y : Nat × Value => [(55, .c (.lit (.int .i64 y.1))), (3, .own 1 y.2)]) (fun y => [.box b0 29 [.c (.lit (.string nm)), .c (.lit (.int .i64 ve)), .c (Us.row us), .c (Da.row ds), .c (Tr.row ts), .c (Im.row ims), .c (Fu.row fs), .c (Ac.row acs)], .row y.2 40 4 (ds.flatMap daE ++ ts.flatMap trE ++ fs.map fuE ++ (acs.take y.1).map acE).length ((ds.flatMap daE ++ ts.flatMap trE ++ fs.map fuE ++ (acs.take y.1).map acE).flatMap En.ts)]) (fun y => y.1 ≤ acs.length) (fun y => acs.length - y.1) (0, v3) (Nat.zero_le _) ⟨rfl, rfl, trivial⟩ (by simp) ?_
  rintro ⟨k, v4⟩ hk
  dsimp only at hk ⊢
  have hlk : (ds.flatMap daE ++ ts.flatMap trE ++ fs.map fuE ++ (acs.take k).map acE).length ≤ 4194304 := by
    try simp only [List.length_append, List.length_map, List.length_take]
    omega
  repeat (first | refine gG ?_ | refine zN1 (fun hlen => ?_) | refine zN2 (fun hlen => ?_) | refine zAl (fun _ => ?_) | refine zBx (fun _ => ?_) | refine zAp (fun _ => ?_))
  refine x_cond rfl (fun h => ?_) (fun h => ?_)
  · have hk' : k < acs.length := by simpa using h
    obtain ⟨a, ha⟩ := nth hk'
    have haz := Ac.size_mem (List.mem_of_getElem? ha)
    have haz' := haz
    simp only [Ac.size] at haz'
    have hf1 := fields_af a.names a.types (by omega) (by omega)
    have hf2 := pageType_af a.msg (by omega)
    have z2 := fldsS_size a.names a.types
    have z3 := a.msg.text_size
    have hsn : (ds.flatMap daE ++ ts.flatMap trE ++ fs.map fuE ++ (acs.take (k + 1)).map acE).flatMap En.ts = (ds.flatMap daE ++ ts.flatMap trE ++ fs.map fuE ++ (acs.take k).map acE).flatMap En.ts ++ [.lit (.string a.name), .lit (.int .i64 5), .lit (.string ⟨#[]⟩), .lit (.string (⟨#[97, 99, 116, 111, 114, 32]⟩ ++ a.name ++ fldsS a.names a.types ++ ⟨#[58, 32]⟩ ++ a.msg.text))] := by
      rw [enm_snoc acE ha, ← List.append_assoc, fl_app (_ ++ _)]
      rfl
    have hsl : (ds.flatMap daE ++ ts.flatMap trE ++ fs.map fuE ++ (acs.take (k + 1)).map acE).length = (ds.flatMap daE ++ ts.flatMap trE ++ fs.map fuE ++ (acs.take k).map acE).length + 1 := by
      rw [enm_snoc acE ha, ← List.append_assoc, List.length_append (bs := [acE a])]
      rfl
    repeat (first | refine gG ?_ | refine zN1 (fun hlen => ?_) | refine zN2 (fun hlen => ?_) | refine zAl (fun _ => ?_) | refine zBx (fun _ => ?_) | refine zAp (fun _ => ?_))
    refine zIx (k) (hk') ?_
    repeat (first | refine gG ?_ | refine zN1 (fun hlen => ?_) | refine zN2 (fun hlen => ?_) | refine zAl (fun _ => ?_) | refine zBx (fun _ => ?_) | refine zAp (fun _ => ?_))
    refine zEl (Ac.at ha) (Ac.ts_len a) ?_
    obtain ⟨na, ns, ys, ma, ⟨kb, nb, tb, nsb, ysb, lb, rsb, pb⟩⟩ := a
    dsimp only at hsn hf1 hf2 z2 z3 haz'
    generalize fldsS ns ys = fx at *
    generalize ma.text = mx at *
    obtain ⟨ka, ta, la⟩ := ma
    repeat (first | refine gG ?_ | refine zN1 (fun hlen => ?_) | refine zN2 (fun hlen => ?_) | refine zAl (fun _ => ?_) | refine zBx (fun _ => ?_) | refine zAp (fun _ => ?_))
    refine ac_drawB [0, 0, 2, 0, 8, 24, 0, 64, 0, 256, 960, 2040, 4088, 0, 8192, 26560, 65528, 131070, 262142, 524287, 1048575] [1, 1, 1, 1, 1, 1, 1, 1, 1, 1, 1, 1, 1, 1, 1, 1, 1, 1, 1, 2, 1] [0, 1, 2, 3, 4, 5, 6, 7, 8, 9, 10, 11, 12, 13, 14, 15, 16, 17, 18, 19, 20] (by kernel_rfl) (by kernel_rfl) ?_
    refine gW ?_
    apply w_q; (focus exact rfl); (focus exact rfl); focus (intro _; (refine zCat ?_); exact det_refl)
    refine gW ?_
    apply w_q; (focus exact rfl); (focus exact rfl); focus (intro _; (refine lo_call hf1 rfl (by repeat (first | exact rzs_nil | apply rzs_cons | exact rz_c | exact rz_nil rfl | apply rz_agg | exact rz_own rfl | apply rz_fn | exact rz_ptr rfl | apply rz_tup)) ?_; rintro _ rfl); exact det_refl)
    apply w_q; (focus exact rfl); (focus exact rfl); focus (intro _; (refine zCat ?_); exact det_refl)
    apply w_q; (focus exact rfl); (focus exact rfl); focus (intro _; (refine zCat ?_); exact det_refl)
    refine gW ?_
    apply w_q; (focus exact rfl); (focus exact rfl); focus (intro _; (refine lo_call hf2 rfl (by repeat (first | exact rzs_nil | apply rzs_cons | exact rz_c | exact rz_nil rfl | apply rz_agg | exact rz_own rfl | apply rz_fn | exact rz_ptr rfl | apply rz_tup)) ?_; rintro _ rfl); exact det_refl)
    apply w_q; (focus exact rfl); (focus exact rfl); focus (intro _; (refine zCat ?_); exact det_refl)
    refine gW ?_
    apply w_l; (focus exact rfl); (focus exact rfl); (refine zAp (fun _ => ?_))
    refine gW ?_
    refine w_nil ?_
    repeat (first | refine gG ?_ | refine zN1 (fun hlen => ?_) | refine zN2 (fun hlen => ?_) | refine zAl (fun _ => ?_) | refine zBx (fun _ => ?_) | refine zAp (fun _ => ?_))
    exact ⟨(k + 1, _), hk', by simp only; omega, x_wkd 2 ⟨rfl, rfl, trivial⟩ (by rw [hsn, hsl]; rfl) (by repeat (first | exact ag_refl | refine ag_upd rfl ?_ | refine ag_at rfl rfl ?_))⟩
  have hk' : k = acs.length := by
    have : ¬ k < acs.length := by simpa using h
    omega
  subst hk'
  rw [List.take_length] at *
  clear hk hlk h
  repeat (first | refine gG ?_ | refine zN1 (fun hlen => ?_) | refine zN2 (fun hlen => ?_) | refine zAl (fun _ => ?_) | refine zBx (fun _ => ?_) | refine zAp (fun _ => ?_))
  refine zCallG [1] (hst v4) ?_
  rintro _ _ ⟨rfl, rfl⟩
  refine ⟨_, _, re_refl, rfl, rfl, ?_⟩
  repeat (first | refine gG ?_ | refine zN1 (fun hlen => ?_) | refine zN2 (fun hlen => ?_) | refine zAl (fun _ => ?_) | refine zBx (fun _ => ?_) | refine zAp (fun _ => ?_))
  first | refine zR ?_ | refine zQ ?_
  rfl
end Go.Proofs.YtbfomgchjlkopaaDoor
namespace Go.Proofs.YtbfomgchjlkopaaDoor
open Go.RowKit
theorem dec_lenP : ∀ (k u : Nat), u < 10 ^ (k + 1) → (Lib.decDigits u).length ≤ k + 1
  | 0, u, h => by
    rw [Lib.decDigits, dif_pos (by omega)]
    simp
  | k + 1, u, h => by
    rw [Lib.decDigits]
    split
    · simp
    · have := dec_lenP k (u / 10) (by rw [Nat.pow_succ] at h; omega)
      rw [List.length_append, List.length_singleton]
      omega
def itS (n : Int) : ByteArray := bs (Lib.itoa n)
theorem itS_size {n : Int} (h : inI n) : (itS n).size ≤ 20 := by
  unfold itS Lib.itoa
  rw [bs_size']
  obtain ⟨h1, h2⟩ := h
  split
  · have := dec_lenP 18 n.natAbs (by omega)
    rw [List.length_cons]
    omega
  · have := dec_lenP 18 n.toNat (by omega)
    omega
def hdL (n : ByteArray) (v : Int) : ByteArray := ⟨#[109, 111, 100, 117, 108, 101, 32]⟩ ++ n ++ ⟨#[32]⟩ ++ itS v
def usL (u : Us) : ByteArray := ⟨#[117, 115, 101, 115, 32]⟩ ++ u.name ++ ⟨#[32]⟩ ++ itS u.low ++ ⟨#[32, 116, 111, 32]⟩ ++ itS u.high
def imL (i : Im) : ByteArray := ⟨#[105, 109, 112, 108, 32]⟩ ++ i.trait ++ ⟨#[32, 102, 111, 114, 32]⟩ ++ i.dat
def pk (E : List En) (s : Int) : List ByteArray := (E.filter fun e => decide (e.inn = ⟨#[]⟩) && decide (e.sort = s)).map En.line
def srt : List Int := [1, 3, 4, 5]
def pkA (E : List En) (k : Nat) : List ByteArray := (srt.take k).flatMap (pk E)
def pageL (p : Pr) : List ByteArray := (hdL p.name p.version :: p.uses.map usL) ++ pkA (entS p) 4 ++ sortB (p.impls.map imL)
theorem pk_len (E : List En) (s : Int) : (pk E s).length ≤ E.length := by
  unfold pk
  rw [List.length_map]
  exact List.length_filter_le _ _
theorem pk_yes {E : List En} {j : Nat} {e : En} {s : Int} (h : E[j]? = some e) (h1 : e.inn = ⟨#[]⟩) (h2 : e.sort = s) : pk (E.take (j + 1)) s = pk (E.take j) s ++ [e.line] := by
  unfold pk
  rw [List.take_add_one, h, List.filter_append]
  simp [h1, h2]
theorem pk_no {E : List En} {j : Nat} {e : En} {s : Int} (h : E[j]? = some e) (h1 : ¬ (e.inn = ⟨#[]⟩ ∧ e.sort = s)) : pk (E.take (j + 1)) s = pk (E.take j) s := by
  unfold pk
  rw [List.take_add_one, h, List.filter_append]
  have : (decide (e.inn = ⟨#[]⟩) && decide (e.sort = s)) = false := by
    by_cases a : e.inn = ⟨#[]⟩
    · have b : ¬ e.sort = s := fun b => h1 ⟨a, b⟩
      simp [b]
    · simp [a]
  simp [this]
theorem pkA_snoc (E : List En) {k : Nat} {s : Int} (h : srt[k]? = some s) : pkA E (k + 1) = pkA E k ++ pk E s := by
  unfold pkA
  obtain ⟨hk, rfl⟩ := List.getElem?_eq_some_iff.1 h
  rw [List.take_succ_eq_append_getElem hk, List.flatMap_append]
  simp
theorem pkA_len (E : List En) (k : Nat) : (pkA E k).length ≤ 4 * E.length := by
  have h : ∀ l : List Int, (l.flatMap (pk E)).length ≤ l.length * E.length := by
    intro l
    induction l with
    | nil => simp
    | cons s l ih =>
      have := pk_len E s
      rw [List.flatMap_cons, List.length_append, List.length_cons, Nat.add_mul]
      omega
  have h1 := h (srt.take k)
  have h2 : (srt.take k).length ≤ 4 := by rw [List.length_take]; exact Nat.min_le_right _ _
  have h3 := Nat.mul_le_mul_right E.length h2
  exact Nat.le_trans h1 h3
theorem strs_snoc (a : List ByteArray) (s : ByteArray) : (a ++ [s]).flatMap strTs = a.flatMap strTs ++ [.lit (.string s)] := by rw [List.flatMap_append]; rfl
theorem mp_snoc {α : Type} (f : α → ByteArray) {l : List α} {k : Nat} {a : α} (h : l[k]? = some a) : (l.take (k + 1)).map f = (l.take k).map f ++ [f a] := by
  obtain ⟨hk, rfl⟩ := List.getElem?_eq_some_iff.1 h
  rw [List.take_succ_eq_append_getElem hk, List.map_append]
  simp
theorem enters_SortP : Enters Tryd.prog 16 := ⟨_, Tryd.func16, by kernel_rfl, by kernel_rfl⟩
theorem sortStrP_ag (l : List ByteArray) (hlen : l.length ≤ 1048576) (v : Value) (e : TypeId) :
    AG Tryd.prog 16 [.own 0 v] [.row v e 1 l.length (l.flatMap strTs)] (fun r hs => r = .tup [] ∧ hs = [.row v e 1 (sortB l).length ((sortB l).flatMap strTs)]) :=
  sortS_ag (ρ := sortStr_ren) sortStr enters_SortP l (by omega) v e
set_option maxRecDepth 100000 in
set_option maxHeartbeats 1000000 in
theorem stringsP_ag (l : List ByteArray) (hlen : l.length ≤ 1048576) (v : Value) (e : TypeId) : AG Tryd.prog 48 [.own 0 v] [.row v e 1 l.length (l.flatMap strTs)] (fun r hs => r = .tup [] ∧ hs = [.row v e 1 (sortB l).length ((sortB l).flatMap strTs)]) := by
  have hc := sortStrP_ag l hlen v e
  refine ag_enter (1) tok Tryd.func48 Tryd.ntmps48 Tryd.results48 rfl (by kernel_rfl) rfl fun F => ?_
  repeat (first | refine gG ?_)
  refine zCallG [0] hc ?_
  rintro _ _ ⟨rfl, rfl⟩
  refine ⟨.tup [], _, re_refl, rfl, rfl, ?_⟩
  repeat (first | refine gG ?_)
  refine zG ?_
  exact ⟨rfl, rfl⟩
set_option maxRecDepth 100000 in
set_option maxHeartbeats 1000000 in
theorem sortedP_af (l : List ByteArray) (hlen : l.length ≤ 1048576) : AF Tryd.prog 36 [strRow l] (· = strRow (sortB l)) := by
  have hc : ∀ (v : Value) (n : Nat) (cs : List T), n = l.length → cs = l.flatMap strTs → AG Tryd.prog 48 [.own 0 v] [.row v 9 1 n cs] (fun r hs => r = .tup [] ∧ hs = [.row v 9 1 (sortB l).length ((sortB l).flatMap strTs)]) := fun v n cs h1 h2 => by
    subst h1 h2
    exact stringsP_ag l hlen v 9
  refine af_enter tok Tryd.func36 Tryd.ntmps36 Tryd.results36 rfl (by kernel_rfl) rfl rfl fun F hX => ?_
  repeat (first | refine gX ?_ | refine zAp (fun _ => ?_))
  refine zBo (fun _ => ?_)
  repeat (first | refine gG ?_ | refine zAp (fun _ => ?_))
  refine zCallG [0] (hc _ _ _ (Nat.zero_add _) (List.nil_append _)) ?_
  rintro _ _ ⟨rfl, rfl⟩
  refine ⟨.tup [], _, re_refl, rfl, rfl, ?_⟩
  repeat (first | refine gG ?_ | refine zAp (fun _ => ?_))
  first | refine zR ?_ | refine zQ ?_
  rfl
set_option maxRecDepth 100000 in
set_option maxHeartbeats 8000000 in
theorem page_af (p : Pr) (hp : p.size ≤ 1048576) (hv : inI p.version) (hu : ∀ u ∈ p.uses, u.ok) : AF Tryd.prog 4 [p.t] (· = strRow (pageL p)) := by
  have he := entries_af p hp
  have hel : (entS p).length ≤ 1048576 := by rw [entS_len]; exact Nat.le_trans (entr_len p) hp
  have hi := itoa_af p.version hv
  have his := itS_size hv
  unfold pageL hdL
  obtain ⟨nm, ve, us, ds, ts, ims, fs, acs⟩ := p
  have h0 : nm.size + Us.sizes us + Da.sizes ds + Tr.sizes ts + Im.sizes ims + Fu.sizes fs + Ac.sizes acs + 1 ≤ 1048576 := hp
  dsimp only at hi his hu ⊢
  have lu := Us.len_sizes us
  have li := Im.len_sizes ims
  have his' : (bs (Lib.itoa ve)).size ≤ 20 := his
  rw [show itS ve = bs (Lib.itoa ve) from rfl]
  generalize entS ⟨nm, ve, us, ds, ts, ims, fs, acs⟩ = E at *
  have hE : En.row E = .row E.length 4 (E.flatMap En.ts) := rfl
  rw [hE] at he
  have hst : ∀ v, _ := fun v => sortStrP_ag (ims.map imL) (by rw [List.length_map]; omega) v 9
  have hso := sortedP_af (ims.map imL) (by rw [List.length_map]; omega)
  have hsl := sortB_len (ims.map imL)
  rw [List.length_map] at hsl
  have hpa := pkA_len E
  have hmu : ∀ a : Us, usL a = ⟨#[117, 115, 101, 115, 32]⟩ ++ a.name ++ ⟨#[32]⟩ ++ bs (Lib.itoa a.low) ++ ⟨#[32, 116, 111, 32]⟩ ++ bs (Lib.itoa a.high) := fun _ => rfl
  have hmi : ∀ a : Im, imL a = ⟨#[105, 109, 112, 108, 32]⟩ ++ a.trait ++ ⟨#[32, 102, 111, 114, 32]⟩ ++ a.dat := fun _ => rfl
  generalize usL = uf at *
  generalize imL = mf at *
  clear hp
  refine af_enter tok Tryd.func4 Tryd.ntmps4 Tryd.results4 rfl (by kernel_rfl) rfl rfl fun F hX => ?_
  repeat (first | refine gG ?_ | refine zN1 (fun hlen => ?_) | refine zN2 (fun hlen => ?_) | refine zAl (fun _ => ?_) | refine zBx (fun _ => ?_) | refine zAp (fun _ => ?_))
  rename_i b0
  refine ac_draw [1, 1, 1, 1, 1, 1, 1, 1, 2, 1] [0, 1, 2, 3, 4, 5, 6, 7, 8, 9] (by kernel_rfl) (by kernel_rfl) ?_
  refine gW ?_
  apply w_q; (focus exact rfl); (focus exact rfl); focus (intro _; (refine zCat ?_); exact det_refl)
  apply w_q; (focus exact rfl); (focus exact rfl); focus (intro _; (refine zCat ?_); exact det_refl)
  refine gW ?_
  apply w_q; (focus exact rfl); (focus exact rfl); focus (intro _; (refine lo_call hi rfl (by repeat (first | exact rzs_nil | apply rzs_cons | exact rz_c | exact rz_nil rfl | apply rz_agg | exact rz_own rfl | apply rz_fn | exact rz_ptr rfl | apply rz_tup)) ?_; rintro _ rfl); exact det_refl)
  apply w_q; (focus exact rfl); (focus exact rfl); focus (intro _; (refine zCat ?_); exact det_refl)
  apply w_l; (focus exact rfl); (focus exact rfl); (refine zBo (fun v0 => ?_))
  refine gW ?_
  refine w_nil ?_
  repeat (first | refine gG ?_ | refine zN1 (fun hlen => ?_) | refine zN2 (fun hlen => ?_) | refine zAl (fun _ => ?_) | refine zBx (fun _ => ?_) | refine zAp (fun _ => ?_))
  generalize ⟨#[109, 111, 100, 117, 108, 101, 32]⟩ ++ nm ++ ⟨#[32]⟩ ++ bs (Lib.itoa ve) = hd at *
  clear hi his his'
  refine x_loop [3, 5, 26, 27, 28, 29, 30, 31, 32, 33, 34, 35, 36, 37, 38, 39, 40, 41, 42, 43, 44, 45, 46] (fun y : Nat × Value => [(26, .c (.lit (.int .i64 y.1))), (3, .own 1 y.2)]) (fun y => [.box b0 29 [.c (.lit (.string nm)), .c (.lit (.int .i64 ve)), .c (Us.row us), .c (Da.row ds), .c (Tr.row ts), .c (Im.row ims), .c (Fu.row fs), .c (Ac.row acs)], .row y.2 9 1 (hd :: (us.take y.1).map uf).length ((hd :: (us.take y.1).map uf).flatMap strTs)]) (fun y => y.1 ≤ us.length) (fun y => us.length - y.1) (0, v0) (Nat.zero_le _) ⟨rfl, rfl, trivial⟩ rfl ?_
  rintro ⟨k, v1⟩ hk
  dsimp only at hk ⊢
  have hlk : (hd :: (us.take k).map uf).length ≤ 2097152 := by
    rw [List.length_cons, List.length_map, List.length_take]
    omega
  repeat (first | refine gG ?_ | refine zN1 (fun hlen => ?_) | refine zN2 (fun hlen => ?_) | refine zAl (fun _ => ?_) | refine zBx (fun _ => ?_) | refine zAp (fun _ => ?_))
  refine x_cond rfl (fun h => ?_) (fun h => ?_)
  · have hk' : k < us.length := by simpa using h
    obtain ⟨a, ha⟩ := nth hk'
    have haz := Us.size_mem (List.mem_of_getElem? ha)
    have hua := hu a (List.mem_of_getElem? ha)
    have ha1 := itoa_af a.low hua.1
    have ha2 := itoa_af a.high hua.2
    have hs1 : (bs (Lib.itoa a.low)).size ≤ 20 := itS_size hua.1
    have hs2 : (bs (Lib.itoa a.high)).size ≤ 20 := itS_size hua.2
    have hsn : (hd :: (us.take (k + 1)).map uf).flatMap strTs = (hd :: (us.take k).map uf).flatMap strTs ++ [.lit (.string (⟨#[117, 115, 101, 115, 32]⟩ ++ a.name ++ ⟨#[32]⟩ ++ bs (Lib.itoa a.low) ++ ⟨#[32, 116, 111, 32]⟩ ++ bs (Lib.itoa a.high)))] := by
      rw [mp_snoc uf ha, hmu a]
      exact strs_snoc (hd :: (us.take k).map uf) _
    have hsl2 : (hd :: (us.take (k + 1)).map uf).length = (hd :: (us.take k).map uf).length + 1 := by
      rw [mp_snoc uf ha]
      simp only [List.length_cons, List.length_append, List.length_nil]
    clear h
    repeat (first | refine gG ?_ | refine zN1 (fun hlen => ?_) | refine zN2 (fun hlen => ?_) | refine zAl (fun _ => ?_) | refine zBx (fun _ => ?_) | refine zAp (fun _ => ?_))
    refine zIx (k) (hk') ?_
    repeat (first | refine gG ?_ | refine zN1 (fun hlen => ?_) | refine zN2 (fun hlen => ?_) | refine zAl (fun _ => ?_) | refine zBx (fun _ => ?_) | refine zAp (fun _ => ?_))
    refine zEl (Us.at ha) (Us.ts_len a) ?_
    obtain ⟨na, lo, hg⟩ := a
    have hz0 : na.size + 1 ≤ 1048576 := by have : na.size + 1 ≤ Us.size ⟨na, lo, hg⟩ := by (simp only [Us.size]; omega)
                                           omega
    dsimp only at hsn ha1 ha2 hs1 hs2
    clear haz hua ha hmu hmi
    generalize bs (Lib.itoa lo) = s1 at *
    generalize bs (Lib.itoa hg) = s2 at *
    repeat (first | refine gG ?_ | refine zN1 (fun hlen => ?_) | refine zN2 (fun hlen => ?_) | refine zAl (fun _ => ?_) | refine zBx (fun _ => ?_) | refine zAp (fun _ => ?_))
    refine ac_draw [1, 1, 1, 1, 1, 1, 1, 1, 1, 1, 1, 1, 1, 1, 1, 2, 1] [0, 1, 2, 3, 4, 5, 6, 7, 8, 9, 10, 11, 12, 13, 14, 15, 16] (by kernel_rfl) (by kernel_rfl) ?_
    refine gW ?_
    apply w_q; (focus exact rfl); (focus exact rfl); focus (intro _; (refine zCat ?_); exact det_refl)
    apply w_q; (focus exact rfl); (focus exact rfl); focus (intro _; (refine zCat ?_); exact det_refl)
    refine gW ?_
    apply w_q; (focus exact rfl); (focus exact rfl); focus (intro _; (refine lo_call ha1 rfl (by repeat (first | exact rzs_nil | apply rzs_cons | exact rz_c | exact rz_nil rfl | apply rz_agg | exact rz_own rfl | apply rz_fn | exact rz_ptr rfl | apply rz_tup)) ?_; rintro _ rfl); exact det_refl)
    apply w_q; (focus exact rfl); (focus exact rfl); focus (intro _; (refine zCat ?_); exact det_refl)
    apply w_q; (focus exact rfl); (focus exact rfl); focus (intro _; (refine zCat ?_); exact det_refl)
    refine gW ?_
    apply w_q; (focus exact rfl); (focus exact rfl); focus (intro _; (refine lo_call ha2 rfl (by repeat (first | exact rzs_nil | apply rzs_cons | exact rz_c | exact rz_nil rfl | apply rz_agg | exact rz_own rfl | apply rz_fn | exact rz_ptr rfl | apply rz_tup)) ?_; rintro _ rfl); exact det_refl)
    apply w_q; (focus exact rfl); (focus exact rfl); focus (intro _; (refine zCat ?_); exact det_refl)
    refine gW ?_
    apply w_l; (focus exact rfl); (focus exact rfl); (refine zAp (fun _ => ?_))
    refine gW ?_
    refine w_nil ?_
    repeat (first | refine gG ?_ | refine zN1 (fun hlen => ?_) | refine zN2 (fun hlen => ?_) | refine zAl (fun _ => ?_) | refine zBx (fun _ => ?_) | refine zAp (fun _ => ?_))
    exact ⟨(k + 1, _), hk', by simp only; omega, x_wkd 2 ⟨rfl, rfl, trivial⟩ (by rw [hsn, hsl2]; rfl) (by repeat (first | exact ag_refl | refine ag_upd rfl ?_ | refine ag_at rfl rfl ?_))⟩
  have hk' : k = us.length := by
    have : ¬ k < us.length := by simpa using h
    omega
  subst hk'
  rw [List.take_length] at *
  clear hk h hmu
  repeat (first | refine gG ?_ | refine zN1 (fun hlen => ?_) | refine zN2 (fun hlen => ?_) | refine zAl (fun _ => ?_) | refine zBx (fun _ => ?_) | refine zAp (fun _ => ?_))
  refine zCall (he) ?_
  rintro _ rfl
  repeat (first | refine gG ?_ | refine zN1 (fun hlen => ?_) | refine zN2 (fun hlen => ?_) | refine zAl (fun _ => ?_) | refine zBx (fun _ => ?_) | refine zAp (fun _ => ?_))
  refine x_loop [3, 8, 10, 51, 52, 53, 54, 55, 56, 57, 58, 59, 60, 61, 62, 63, 64, 65, 66, 67, 68, 69, 70, 71, 72, 73, 74, 75, 76] (fun y : Nat × Value => [(51, .c (.lit (.int .i64 y.1))), (3, .own 1 y.2)]) (fun y => [.box b0 29 [.c (.lit (.string nm)), .c (.lit (.int .i64 ve)), .c (Us.row us), .c (Da.row ds), .c (Tr.row ts), .c (Im.row ims), .c (Fu.row fs), .c (Ac.row acs)], .row y.2 9 1 ((hd :: us.map uf) ++ pkA E y.1).length (((hd :: us.map uf) ++ pkA E y.1).flatMap strTs)]) (fun y => y.1 ≤ 4) (fun y => 4 - y.1) (0, v1) (Nat.zero_le _) ⟨rfl, rfl, trivial⟩ (by rw [show pkA E 0 = [] from rfl, List.append_nil]) ?_
  rintro ⟨k, v2⟩ hk
  dsimp only at hk ⊢
  repeat (first | refine gG ?_ | refine zN1 (fun hlen => ?_) | refine zN2 (fun hlen => ?_) | refine zAl (fun _ => ?_) | refine zBx (fun _ => ?_) | refine zAp (fun _ => ?_))
  refine x_cond rfl (fun h => ?_) (fun h => ?_)
  · have hk' : k < 4 := by
      have h5 : ((k : Nat) : Int) < 4 := by simpa using h
      omega
    obtain ⟨s, hs⟩ := nth (show k < srt.length from hk')
    have hat : ([.lit (.int .i64 1), .lit (.int .i64 3), .lit (.int .i64 4), .lit (.int .i64 5)] : List T)[k * 1]? = some (.lit (.int .i64 s)) := by
      rw [Nat.mul_one, show ([.lit (.int .i64 1), .lit (.int .i64 3), .lit (.int .i64 4), .lit (.int .i64 5)] : List T) = srt.map (fun s => T.lit (.int .i64 s)) from rfl, List.getElem?_map, hs]
      rfl
    have hsk : (hd :: us.map uf) ++ pkA E (k + 1) = (hd :: us.map uf) ++ pkA E k ++ pk E s := by rw [pkA_snoc E hs, List.append_assoc]
    have hpk := hpa k
    clear h hs
    repeat (first | refine gG ?_ | refine zN1 (fun hlen => ?_) | refine zN2 (fun hlen => ?_) | refine zAl (fun _ => ?_) | refine zBx (fun _ => ?_) | refine zAp (fun _ => ?_))
    refine zIx k hk' ?_
    repeat (first | refine gG ?_ | refine zN1 (fun hlen => ?_) | refine zN2 (fun hlen => ?_) | refine zAl (fun _ => ?_) | refine zBx (fun _ => ?_) | refine zAp (fun _ => ?_))
    refine zEl1 hat ?_
    repeat (first | refine gG ?_ | refine zN1 (fun hlen => ?_) | refine zN2 (fun hlen => ?_) | refine zAl (fun _ => ?_) | refine zBx (fun _ => ?_) | refine zAp (fun _ => ?_))
    refine x_loop [3, 10, 57, 58, 59, 60, 61, 62, 63, 64, 65, 66, 67, 68, 69, 70, 71, 72, 73, 74, 75] (fun y : Nat × Value => [(57, .c (.lit (.int .i64 y.1))), (3, .own 1 y.2)]) (fun y => [.box b0 29 [.c (.lit (.string nm)), .c (.lit (.int .i64 ve)), .c (Us.row us), .c (Da.row ds), .c (Tr.row ts), .c (Im.row ims), .c (Fu.row fs), .c (Ac.row acs)], .row y.2 9 1 ((hd :: us.map uf) ++ pkA E k ++ pk (E.take y.1) s).length (((hd :: us.map uf) ++ pkA E k ++ pk (E.take y.1) s).flatMap strTs)]) (fun y => y.1 ≤ E.length) (fun y => E.length - y.1) (0, v2) (Nat.zero_le _) ⟨rfl, rfl, trivial⟩ (by rw [List.take_zero, show pk [] s = [] from rfl, List.append_nil]) ?_
    rintro ⟨j, v3⟩ hj
    dsimp only at hj ⊢
    have hlk : ((hd :: us.map uf) ++ pkA E k ++ pk (E.take j) s).length ≤ 8388608 := by
      have := pk_len (E.take j) s
      rw [List.length_take] at this
      simp only [List.length_append, List.length_cons, List.length_map]
      omega
    repeat (first | refine gG ?_ | refine zN1 (fun hlen => ?_) | refine zN2 (fun hlen => ?_) | refine zAl (fun _ => ?_) | refine zBx (fun _ => ?_) | refine zAp (fun _ => ?_))
    refine x_cond rfl (fun h => ?_) (fun h => ?_)
    · have hj' : j < E.length := by simpa using h
      obtain ⟨e, hje⟩ := nth hj'
      clear h
      by_cases q : e.inn = ⟨#[]⟩ ∧ e.sort = s
      · obtain ⟨q1, q2⟩ := q
        have hsn : ((hd :: us.map uf) ++ pkA E k ++ pk (E.take (j + 1)) s).flatMap strTs = ((hd :: us.map uf) ++ pkA E k ++ pk (E.take j) s).flatMap strTs ++ [.lit (.string e.line)] := by
          rw [pk_yes hje q1 q2, ← List.append_assoc]
          exact strs_snoc _ _
        have hsl2 : ((hd :: us.map uf) ++ pkA E k ++ pk (E.take (j + 1)) s).length = ((hd :: us.map uf) ++ pkA E k ++ pk (E.take j) s).length + 1 := by
          rw [pk_yes hje q1 q2, ← List.append_assoc]
          exact List.length_append
        have d1 : decide (e.inn = (⟨#[]⟩ : ByteArray)) = true := decide_eq_true q1
        have d2 : decide (e.sort = s) = true := decide_eq_true q2
        repeat (first | refine gG ?_ | refine zN1 (fun hlen => ?_) | refine zN2 (fun hlen => ?_) | refine zAl (fun _ => ?_) | refine zBx (fun _ => ?_) | refine zAp (fun _ => ?_))
        refine zIx (j) (hj') ?_
        repeat (first | refine gG ?_ | refine zN1 (fun hlen => ?_) | refine zN2 (fun hlen => ?_) | refine zAl (fun _ => ?_) | refine zBx (fun _ => ?_) | refine zAp (fun _ => ?_))
        refine zEl (En.at hje) (En.ts_len e) ?_
        obtain ⟨na, so, inn, li⟩ := e
        dsimp only at hsn d1 d2 q1 q2
        clear q1 q2 hje
        repeat (first | refine gG ?_ | refine zN1 (fun hlen => ?_) | refine zN2 (fun hlen => ?_) | refine zAl (fun _ => ?_) | refine zBx (fun _ => ?_) | refine zAp (fun _ => ?_))
        exact ⟨(j + 1, _), hj', by simp only; omega, x_wkd 2 ⟨rfl, rfl, trivial⟩ (by rw [hsn, hsl2]; rfl) (by repeat (first | exact ag_refl | refine ag_upd rfl ?_ | refine ag_at rfl rfl ?_))⟩
      · have hsn := pk_no hje q
        by_cases q1 : e.inn = ⟨#[]⟩
        · have d1 : decide (e.inn = (⟨#[]⟩ : ByteArray)) = true := decide_eq_true q1
          have d2 : decide (e.sort = s) = false := decide_eq_false (fun h => q ⟨q1, h⟩)
          repeat (first | refine gG ?_ | refine zN1 (fun hlen => ?_) | refine zN2 (fun hlen => ?_) | refine zAl (fun _ => ?_) | refine zBx (fun _ => ?_) | refine zAp (fun _ => ?_))
          refine zIx (j) (hj') ?_
          repeat (first | refine gG ?_ | refine zN1 (fun hlen => ?_) | refine zN2 (fun hlen => ?_) | refine zAl (fun _ => ?_) | refine zBx (fun _ => ?_) | refine zAp (fun _ => ?_))
          refine zEl (En.at hje) (En.ts_len e) ?_
          obtain ⟨na, so, inn, li⟩ := e
          dsimp only at *
          clear q1 q hje
          repeat (first | refine gG ?_ | refine zN1 (fun hlen => ?_) | refine zN2 (fun hlen => ?_) | refine zAl (fun _ => ?_) | refine zBx (fun _ => ?_) | refine zAp (fun _ => ?_))
          exact ⟨(j + 1, _), hj', by simp only; omega, x_wkd 2 ⟨rfl, rfl, trivial⟩ (by rw [hsn]; rfl) (by repeat (first | exact ag_refl | refine ag_upd rfl ?_ | refine ag_at rfl rfl ?_))⟩
        · have d1 : decide (e.inn = (⟨#[]⟩ : ByteArray)) = false := decide_eq_false q1
          repeat (first | refine gG ?_ | refine zN1 (fun hlen => ?_) | refine zN2 (fun hlen => ?_) | refine zAl (fun _ => ?_) | refine zBx (fun _ => ?_) | refine zAp (fun _ => ?_))
          refine zIx (j) (hj') ?_
          repeat (first | refine gG ?_ | refine zN1 (fun hlen => ?_) | refine zN2 (fun hlen => ?_) | refine zAl (fun _ => ?_) | refine zBx (fun _ => ?_) | refine zAp (fun _ => ?_))
          refine zEl (En.at hje) (En.ts_len e) ?_
          obtain ⟨na, so, inn, li⟩ := e
          dsimp only at *
          clear q1 q hje
          repeat (first | refine gG ?_ | refine zN1 (fun hlen => ?_) | refine zN2 (fun hlen => ?_) | refine zAl (fun _ => ?_) | refine zBx (fun _ => ?_) | refine zAp (fun _ => ?_))
          exact ⟨(j + 1, _), hj', by simp only; omega, x_wkd 2 ⟨rfl, rfl, trivial⟩ (by rw [hsn]; rfl) (by repeat (first | exact ag_refl | refine ag_upd rfl ?_ | refine ag_at rfl rfl ?_))⟩
    have hj' : j = E.length := by
      have : ¬ j < E.length := by simpa using h
      omega
    subst hj'
    rw [List.take_length] at *
    clear hj hlk h
    repeat (first | refine gG ?_ | refine zN1 (fun hlen => ?_) | refine zN2 (fun hlen => ?_) | refine zAl (fun _ => ?_) | refine zBx (fun _ => ?_) | refine zAp (fun _ => ?_))
    exact ⟨(k + 1, _), hk', by simp only; omega, x_wkd 2 ⟨rfl, rfl, trivial⟩ (by rw [hsk]; rfl) (by repeat (first | exact ag_refl | refine ag_upd rfl ?_ | refine ag_at rfl rfl ?_))⟩
  have hk' : k = 4 := by
    have h5 : ¬ ((k : Nat) : Int) < 4 := by simpa using h
    omega
  subst hk'
  have hpk := hpa 4
  have hlz : ((hd :: us.map uf) ++ pkA E 4).length ≤ 8388608 := by
    simp only [List.length_append, List.length_cons, List.length_map]
    omega
  clear hk h
  generalize (hd :: us.map uf) ++ pkA E 4 = Z at *
  repeat (first | refine gG ?_ | refine zN1 (fun hlen => ?_) | refine zN2 (fun hlen => ?_) | refine zAl (fun _ => ?_) | refine zBx (fun _ => ?_) | refine zAp (fun _ => ?_))
  refine x_own 11 9 1 rfl rfl rfl rfl rfl ?_
  refine x_loop [11, 13, 80, 81, 82, 83, 84, 85, 86, 87, 88, 89, 90, 91, 92, 93, 94] (fun y : Nat × Value => [(80, .c (.lit (.int .i64 y.1))), (11, .own 2 y.2)]) (fun y => [.box b0 29 [.c (.lit (.string nm)), .c (.lit (.int .i64 ve)), .c (Us.row us), .c (Da.row ds), .c (Tr.row ts), .c (Im.row ims), .c (Fu.row fs), .c (Ac.row acs)], .row v2 9 1 Z.length (Z.flatMap strTs), .row y.2 9 1 ((ims.take y.1).map mf).length (((ims.take y.1).map mf).flatMap strTs)]) (fun y => y.1 ≤ ims.length) (fun y => ims.length - y.1) (0, .slice none 0 0) (Nat.zero_le _) ⟨rfl, rfl, trivial⟩ rfl ?_
  rintro ⟨k, v4⟩ hk
  dsimp only at hk ⊢
  have hlk : ((ims.take k).map mf).length ≤ 2097152 := by
    rw [List.length_map, List.length_take]
    omega
  repeat (first | refine gG ?_ | refine zN1 (fun hlen => ?_) | refine zN2 (fun hlen => ?_) | refine zAl (fun _ => ?_) | refine zBx (fun _ => ?_) | refine zAp (fun _ => ?_))
  refine x_cond rfl (fun h => ?_) (fun h => ?_)
  · have hk' : k < ims.length := by simpa using h
    obtain ⟨a, ha⟩ := nth hk'
    have haz := Im.size_mem (List.mem_of_getElem? ha)
    have hsn : ((ims.take (k + 1)).map mf).flatMap strTs = ((ims.take k).map mf).flatMap strTs ++ [.lit (.string (⟨#[105, 109, 112, 108, 32]⟩ ++ a.trait ++ ⟨#[32, 102, 111, 114, 32]⟩ ++ a.dat))] := by
      rw [mp_snoc mf ha, hmi a]
      exact strs_snoc _ _
    have hsl2 : ((ims.take (k + 1)).map mf).length = ((ims.take k).map mf).length + 1 := by
      rw [mp_snoc mf ha]
      exact List.length_append
    clear h
    repeat (first | refine gG ?_ | refine zN1 (fun hlen => ?_) | refine zN2 (fun hlen => ?_) | refine zAl (fun _ => ?_) | refine zBx (fun _ => ?_) | refine zAp (fun _ => ?_))
    refine zIx (k) (hk') ?_
    repeat (first | refine gG ?_ | refine zN1 (fun hlen => ?_) | refine zN2 (fun hlen => ?_) | refine zAl (fun _ => ?_) | refine zBx (fun _ => ?_) | refine zAp (fun _ => ?_))
    refine zEl (Im.at ha) (Im.ts_len a) ?_
    obtain ⟨na, da, fu⟩ := a
    have hz0 : na.size + da.size + 1 ≤ 1048576 := by have : na.size + da.size + 1 ≤ Im.size ⟨na, da, fu⟩ := by (simp only [Im.size]; omega)
                                                     omega
    dsimp only at hsn
    clear haz ha hmi
    repeat (first | refine gG ?_ | refine zN1 (fun hlen => ?_) | refine zN2 (fun hlen => ?_) | refine zAl (fun _ => ?_) | refine zBx (fun _ => ?_) | refine zAp (fun _ => ?_))
    refine zCat ?_
    repeat (first | refine gG ?_ | refine zN1 (fun hlen => ?_) | refine zN2 (fun hlen => ?_) | refine zAl (fun _ => ?_) | refine zBx (fun _ => ?_) | refine zAp (fun _ => ?_))
    refine zCat ?_
    repeat (first | refine gG ?_ | refine zN1 (fun hlen => ?_) | refine zN2 (fun hlen => ?_) | refine zAl (fun _ => ?_) | refine zBx (fun _ => ?_) | refine zAp (fun _ => ?_))
    refine zCat ?_
    repeat (first | refine gG ?_ | refine zN1 (fun hlen => ?_) | refine zN2 (fun hlen => ?_) | refine zAl (fun _ => ?_) | refine zBx (fun _ => ?_) | refine zAp (fun _ => ?_))
    exact ⟨(k + 1, _), hk', by simp only; omega, x_wkd 3 ⟨rfl, rfl, trivial⟩ (by rw [hsn, hsl2]; rfl) (by repeat (first | exact ag_refl | refine ag_upd rfl ?_ | refine ag_at rfl rfl ?_))⟩
  have hk' : k = ims.length := by
    have : ¬ k < ims.length := by simpa using h
    omega
  subst hk'
  rw [List.take_length] at *
  clear hk h hlk
  repeat (first | refine gG ?_ | refine zN1 (fun hlen => ?_) | refine zN2 (fun hlen => ?_) | refine zAl (fun _ => ?_) | refine zBx (fun _ => ?_) | refine zAp (fun _ => ?_))
  refine zCallG [2] (hst v4) ?_
  rintro _ _ ⟨rfl, rfl⟩
  refine ⟨_, _, re_refl, rfl, rfl, ?_⟩
  generalize sortB (ims.map mf) = L at *
  repeat (first | refine gO ?_ | refine zN1 (fun hlen => ?_) | refine zN2 (fun hlen => ?_) | refine zAl (fun _ => ?_) | refine zBx (fun _ => ?_) | refine zAp (fun _ => ?_))
  refine x_fz 11 rfl rfl rfl rfl ?_
  repeat (first | refine gG ?_ | refine zN1 (fun hlen => ?_) | refine zN2 (fun hlen => ?_) | refine zAl (fun _ => ?_) | refine zBx (fun _ => ?_) | refine zAp (fun _ => ?_))
  first | refine zR ?_ | refine zQ ?_
  rw [strRow, List.length_append, List.flatMap_append]
  rfl
end Go.Proofs.YtbfomgchjlkopaaDoor
