/-
  Texts of this proof, part 12: Wsm Wsj.
-/
import Derived.Test.YtldhlbjengpdbaaQScopeSays11
import Derived.Laws.IdiomRangeMap
import Derived.Lib.AppendStr
import Derived.Lib.MinMax
namespace Go.Proofs.Ytldhlbjengpdbaa
open Go.RowKit
set_option maxRecDepth 100000 in
set_option maxHeartbeats 1000000 in
theorem scopeR_af (p : Pr) (hp : p.mass ≤ 1048576) (B : List ByteArray) (e : Ex) (hB : B.length + e.mass ≤ 1048576) : AF Try.prog 14 [p.t, strRow B, e.t] (· = wrS (errT (e.sc p.env B))) := by
  have hx := scopeX_af p hp e B hB
  generalize errT (e.sc p.env B) = er at *
  obtain ⟨nm, vr, us, ds, trs, ims, fus, acs⟩ := p
  obtain ⟨k0, n0, t0, ns0, ys0, l0, rs0, p0⟩ := e
  clear hp hB
  dsimp only [wrS] at hx ⊢
  refine af_enter tok Try.func14 Try.ntmps14 Try.results14 rfl (by kernel_rfl) rfl rfl fun F hX => ?_
  repeat (first | refine gG ?_ | refine zAl (fun _ => ?_) | refine zBf ?_)
  refine zCall (hx) ?_
  rintro _ rfl
  repeat (first | refine gG ?_ | refine zAl (fun _ => ?_) | refine zBx (fun _ => ?_))
  first | refine zR ?_ | refine zQ ?_
  rfl
@[reducible] def w2B (b2 b3 : Nat) : List Blk := [.box b2 36 [.c (.lit (.int .i64 0)), .c (.lit (.int .i64 0))], .box b3 36 [.c (.lit (.int .i64 11)), .c (.lit (.int .i64 0))]]
@[reducible] def w5B (b2 b3 : Nat) (v3 v4 v5 : Value) (A B C : List ByteArray) : List Blk := [.box b2 36 [.c (.lit (.int .i64 0)), .c (.lit (.int .i64 0))], .box b3 36 [.c (.lit (.int .i64 11)), .c (.lit (.int .i64 0))], .row v3 9 1 A.length (A.flatMap strTs), .row v4 9 1 B.length (B.flatMap strTs), .row v5 9 1 C.length (C.flatMap strTs)]
def fnC (f : Fu) : Bool := twB f.params || twB f.names
theorem trP_eqC (p : Pr) : trP p = p.traits.any fun t => t.funcs.any fnC := rfl
theorem any6 (r a b c d e f : Bool) (A B C D E G : List ByteArray) (ha : twB A = a) (hb : twB B = b) (hc : twB C = c) (hd : twB D = d) (he : twB E = e) (hf : twB G = f) : (r || a || b || c || d || e || f) = (r || [A, B, C, D, E, G].any twB) := by
  simp only [List.any_cons, List.any_nil, Bool.or_false, ha, hb, hc, hd, he, hf, Bool.or_assoc]
set_option maxRecDepth 100000 in
set_option maxHeartbeats 16000000 in
theorem scopeOf_af (p : Pr) (hp : p.mass ≤ 1048576) : AF Try.prog 6 [p.t] (· = wrS (errT (progS p))) := by
  have c1 := refMakers_af p (Nat.le_trans p.makers_le hp)
  have c2 := refCalls_af p (Nat.le_trans p.calls_le hp)
  have c3 := refActs_af p (Nat.le_trans p.acts_le hp)
  have hu := Nat.le_trans p.uses_lt hp
  have hd := Nat.le_trans p.datas_le hp
  have ht := Nat.le_trans p.traits_le hp
  have l1 := Nat.le_trans p.makers_le hp
  have l2 := Nat.le_trans p.calls_le hp
  have l3 := Nat.le_trans p.acts_le hp
  have hdp : ∀ d ∈ p.datas, d.params.length ≤ 1048576 := fun d h => Nat.le_trans (p.params_le h) hp
  have hti : ∀ t ∈ p.traits, ∀ f ∈ t.funcs, f.params.length ≤ 1048576 ∧ f.names.length ≤ 1048576 := fun t ht f hf => ⟨Nat.le_trans (p.trait_le ht hf).1 hp, Nat.le_trans (p.trait_le ht hf).2 hp⟩
  have hfi : ∀ f ∈ p.funs, f.params.length ≤ 1048576 ∧ f.names.length + f.body.mass ≤ 1048576 := fun f hf => ⟨Nat.le_trans (p.fun_le hf).1 hp, Nat.le_trans (p.fun_le hf).2 hp⟩
  have hai : ∀ f ∈ p.actors, f.names.length + f.body.mass ≤ 1048576 := fun f hf => Nat.le_trans (p.act_le hf) hp
  have hfl := Nat.le_trans p.bodies_le hp
  have hFl : p.funs.length ≤ 1048576 := by simp only [Pr.bodies, List.length_append, List.length_map] at hfl; omega
  have hfo := funsOf_af p hFl
  have hx := fun e B hB => scopeX_af p hp e B hB
  have hD : dblP p = (p.datas.any (fun d => twB d.params) || [p.name :: p.uses.map Us.name, p.datas.map Da.name, p.traits.map Tr.name, p.makers, p.calls, p.acts].any twB) := any6 _ _ _ _ _ _ _ _ _ _ _ _ _ rfl rfl rfl rfl rfl rfl
  have hP : progS p = bif dblP p || trP p then some 0 else match firstS (funR p.env) p.funs with | some x => some x | none => firstS (actR p.env) p.actors := rfl
  rw [hP, hD, trP_eqC]
  clear hP hD hfl
  generalize p.env = E at *
  generalize p.makers = LM at *
  generalize p.calls = LC at *
  generalize p.acts = LA at *
  generalize p.funs = FS at *
  obtain ⟨nm, vr, us, ds, trs, ims, fus, acs⟩ := p
  clear hp
  dsimp only at *
  generalize hR : ds.any (fun d => twB d.params) = r
  generalize hR1 : (trs.any fun t => t.funcs.any fnC) = r1
  generalize hR2 : firstS (funR E) FS = S1
  generalize hR3 : firstS (actR E) acs = S2
  refine af_enter tok Try.func6 Try.ntmps6 Try.results6 rfl (by kernel_rfl) rfl rfl fun F hX => ?_
  repeat (first | refine gX ?_ | refine zN1 (fun hlen => ?_) | refine zN2 (fun hlen => ?_) | refine zAl (fun _ => ?_) | refine zBf ?_ | refine zAp (fun _ => ?_))
  rename_i b2 b3
  refine zBo (fun v3 => ?_)
  repeat (first | refine gX ?_ | refine zN1 (fun hlen => ?_) | refine zN2 (fun hlen => ?_) | refine zAl (fun _ => ?_) | refine zBf ?_ | refine zAp (fun _ => ?_))
  refine zBo (fun v4 => ?_)
  repeat (first | refine gX ?_ | refine zN1 (fun hlen => ?_) | refine zN2 (fun hlen => ?_) | refine zAl (fun _ => ?_) | refine zBf ?_ | refine zAp (fun _ => ?_))
  refine zBo (fun v5 => ?_)
  repeat (first | refine gG ?_ | refine zN1 (fun hlen => ?_) | refine zN2 (fun hlen => ?_) | refine zAl (fun _ => ?_) | refine zBx (fun _ => ?_) | refine zAp (fun _ => ?_))
  refine x_loop [4, 8, 34, 35, 36, 37, 38, 39, 40, 41, 42, 43] (fun y : Nat × Value => [(34, .c (.lit (.int .i64 (y.1 : Nat)))), (4, .own 2 y.2)]) (fun y => w5B b2 b3 y.2 v4 v5 (nm :: (us.map Us.name).take y.1) [] []) (fun y => y.1 ≤ us.length) (fun y => us.length - y.1) (0, v3) (Nat.zero_le _) ⟨rfl, rfl, trivial⟩ rfl ?_
  rintro ⟨j, u⟩ hj
  dsimp only at hj ⊢
  repeat (first | refine gG ?_ | refine zN1 (fun hlen => ?_) | refine zN2 (fun hlen => ?_) | refine zAl (fun _ => ?_) | refine zBx (fun _ => ?_) | refine zAp (fun _ => ?_))
  refine x_cond rfl (fun h => ?_) (fun h => ?_)
  · have hj' : j < us.length := by simpa using h
    obtain ⟨m, hm⟩ := nth hj'
    have hmn : (us.map Us.name)[j]? = some m.name := by rw [List.getElem?_map, hm]; rfl
    have htk := tk_step hmn
    have hml : (nm :: (us.map Us.name).take j).length ≤ 1048576 := by rw [List.length_cons, List.length_take]; omega
    have hatm := Us.at hm
    obtain ⟨mn, ml, mh⟩ := m
    replace htk : nm :: (us.map Us.name).take (j + 1) = (nm :: (us.map Us.name).take j) ++ [mn] := by rw [htk]; rfl
    generalize nm :: (us.map Us.name).take j = B at *
    clear h hm hmn hR hR1 hR2 hR3 hti hfi hai hdp hx hfo
    repeat (first | refine gG ?_ | refine zN1 (fun hlen => ?_) | refine zN2 (fun hlen => ?_) | refine zAl (fun _ => ?_) | refine zBx (fun _ => ?_) | refine zAp (fun _ => ?_))
    refine zIx (j) (hj') ?_
    repeat (first | refine gG ?_ | refine zN1 (fun hlen => ?_) | refine zN2 (fun hlen => ?_) | refine zAl (fun _ => ?_) | refine zBx (fun _ => ?_) | refine zAp (fun _ => ?_))
    refine zEl (hatm) (Us.ts_len _) ?_
    repeat (first | refine gG ?_ | refine zN1 (fun hlen => ?_) | refine zN2 (fun hlen => ?_) | refine zAl (fun _ => ?_) | refine zBx (fun _ => ?_) | refine zAp (fun _ => ?_))
    exact ⟨(j + 1, _), hj', by simp only; omega, x_wkd 5 ⟨rfl, rfl, trivial⟩ (by dsimp only; rw [htk]; simp only [w5B, List.length_append, List.flatMap_append]; rfl) (by repeat (first | exact ag_refl | refine ag_upd rfl ?_ | refine ag_at rfl rfl ?_))⟩
  have hj' : j = us.length := by have : ¬ j < us.length := by simpa using h
                                 omega
  subst hj'
  have htl : (us.map Us.name).take us.length = us.map Us.name := by rw [← List.length_map (f := Us.name), List.take_length]
  rw [htl]
  clear h hj htl
  have hA : (nm :: us.map Us.name).length ≤ 1048576 := by rw [List.length_cons, List.length_map]; exact hu
  generalize nm :: us.map Us.name = A at *
  repeat (first | refine gG ?_ | refine zN1 (fun hlen => ?_) | refine zN2 (fun hlen => ?_) | refine zAl (fun _ => ?_) | refine zBx (fun _ => ?_) | refine zAp (fun _ => ?_))
  refine x_loop [5, 10, 47, 48, 49, 50, 51, 52, 53, 54, 55, 56, 57, 58, 59, 60] (fun y : Nat × Value => [(47, .c (.lit (.int .i64 (y.1 : Nat)))), (5, .own 3 y.2)]) (fun y => w5B b2 b3 u y.2 v5 A ((ds.map Da.name).take y.1) []) (fun y => y.1 ≤ ds.length ∧ (ds.drop y.1).any (fun d => twB d.params) = r) (fun y => ds.length - y.1) (0, v4) ⟨Nat.zero_le _, hR⟩ ⟨rfl, rfl, trivial⟩ rfl ?_
  clear hR
  rintro ⟨j, w⟩ ⟨hj, he⟩
  dsimp only at hj he ⊢
  repeat (first | refine gG ?_ | refine zN1 (fun hlen => ?_) | refine zN2 (fun hlen => ?_) | refine zAl (fun _ => ?_) | refine zBx (fun _ => ?_) | refine zAp (fun _ => ?_))
  refine x_cond rfl (fun h => ?_) (fun h => ?_)
  · have hj' : j < ds.length := by simpa using h
    obtain ⟨m, hm⟩ := nth hj'
    have hmn : (ds.map Da.name)[j]? = some m.name := by rw [List.getElem?_map, hm]; rfl
    have htk := tk_step hmn
    have hml : ((ds.map Da.name).take j).length ≤ 1048576 := by rw [List.length_take]; omega
    have hatm := Da.at hm
    have stw := refDbl_af m.params (hdp m (List.mem_of_getElem? hm))
    rw [any_drop hm] at he
    obtain ⟨mn, mps, mms⟩ := m
    dsimp only at htk he stw
    generalize (ds.map Da.name).take j = B at *
    clear h hm hmn hdp hR1 hR2 hR3 hti hfi hai hx hfo
    cases dt : twB mps
    · rw [dt] at stw he
      rw [Bool.false_or] at he
      repeat (first | refine gG ?_ | refine zN1 (fun hlen => ?_) | refine zN2 (fun hlen => ?_) | refine zAl (fun _ => ?_) | refine zBx (fun _ => ?_) | refine zAp (fun _ => ?_))
      refine zIx (j) (hj') ?_
      repeat (first | refine gG ?_ | refine zN1 (fun hlen => ?_) | refine zN2 (fun hlen => ?_) | refine zAl (fun _ => ?_) | refine zBx (fun _ => ?_) | refine zAp (fun _ => ?_))
      refine zEl (hatm) (Da.ts_len _) ?_
      repeat (first | refine gG ?_ | refine zN1 (fun hlen => ?_) | refine zN2 (fun hlen => ?_) | refine zAl (fun _ => ?_) | refine zBx (fun _ => ?_) | refine zAp (fun _ => ?_))
      refine zCall (stw) ?_
      rintro _ rfl
      repeat (first | refine gG ?_ | refine zN1 (fun hlen => ?_) | refine zN2 (fun hlen => ?_) | refine zAl (fun _ => ?_) | refine zBx (fun _ => ?_) | refine zAp (fun _ => ?_))
      exact ⟨(j + 1, _), ⟨hj', he⟩, by simp only; omega, x_wkd 5 ⟨rfl, rfl, trivial⟩ (by dsimp only; rw [htk]; simp only [w5B, List.length_append, List.flatMap_append]; rfl) (by repeat (first | exact ag_refl | refine ag_upd rfl ?_ | refine ag_at rfl rfl ?_))⟩
    · rw [dt] at stw he
      rw [Bool.true_or] at he
      subst he
      repeat (first | refine gG ?_ | refine zN1 (fun hlen => ?_) | refine zN2 (fun hlen => ?_) | refine zAl (fun _ => ?_) | refine zBx (fun _ => ?_) | refine zAp (fun _ => ?_))
      refine zIx (j) (hj') ?_
      repeat (first | refine gG ?_ | refine zN1 (fun hlen => ?_) | refine zN2 (fun hlen => ?_) | refine zAl (fun _ => ?_) | refine zBx (fun _ => ?_) | refine zAp (fun _ => ?_))
      refine zEl (hatm) (Da.ts_len _) ?_
      repeat (first | refine gG ?_ | refine zN1 (fun hlen => ?_) | refine zN2 (fun hlen => ?_) | refine zAl (fun _ => ?_) | refine zBx (fun _ => ?_) | refine zAp (fun _ => ?_))
      refine zCall (stw) ?_
      rintro _ rfl
      repeat (first | refine gG ?_ | refine zN1 (fun hlen => ?_) | refine zN2 (fun hlen => ?_) | refine zAl (fun _ => ?_) | refine zBx (fun _ => ?_) | refine zAp (fun _ => ?_))
      first | refine zR ?_ | refine zQ ?_
      rfl
  have hj' : j = ds.length := by have : ¬ j < ds.length := by simpa using h
                                 omega
  subst hj'
  have htl : (ds.map Da.name).take ds.length = ds.map Da.name := by rw [← List.length_map (f := Da.name), List.take_length]
  rw [htl]
  rw [List.drop_length, List.any_nil] at he
  subst he
  clear h hj htl hdp
  have hB : (ds.map Da.name).length ≤ 1048576 := by rw [List.length_map]; exact hd
  generalize ds.map Da.name = B at *
  repeat (first | refine gG ?_ | refine zN1 (fun hlen => ?_) | refine zN2 (fun hlen => ?_) | refine zAl (fun _ => ?_) | refine zBx (fun _ => ?_) | refine zAp (fun _ => ?_))
  refine x_loop [6, 12, 64, 65, 66, 67, 68, 69, 70, 71, 72, 73] (fun y : Nat × Value => [(64, .c (.lit (.int .i64 (y.1 : Nat)))), (6, .own 4 y.2)]) (fun y => w5B b2 b3 u w y.2 A B ((trs.map Tr.name).take y.1)) (fun y => y.1 ≤ trs.length) (fun y => trs.length - y.1) (0, v5) (Nat.zero_le _) ⟨rfl, rfl, trivial⟩ rfl ?_
  rintro ⟨j, x⟩ hj
  dsimp only at hj ⊢
  repeat (first | refine gG ?_ | refine zN1 (fun hlen => ?_) | refine zN2 (fun hlen => ?_) | refine zAl (fun _ => ?_) | refine zBx (fun _ => ?_) | refine zAp (fun _ => ?_))
  refine x_cond rfl (fun h => ?_) (fun h => ?_)
  · have hj' : j < trs.length := by simpa using h
    obtain ⟨m, hm⟩ := nth hj'
    have hmn : (trs.map Tr.name)[j]? = some m.name := by rw [List.getElem?_map, hm]; rfl
    have htk := tk_step hmn
    have hml : ((trs.map Tr.name).take j).length ≤ 1048576 := by rw [List.length_take]; omega
    have hatm := Tr.at hm
    obtain ⟨mn, ml⟩ := m
    dsimp only at htk
    generalize (trs.map Tr.name).take j = C at *
    clear h hm hmn hR1 hR2 hR3 hti hfi hai hx hfo
    repeat (first | refine gG ?_ | refine zN1 (fun hlen => ?_) | refine zN2 (fun hlen => ?_) | refine zAl (fun _ => ?_) | refine zBx (fun _ => ?_) | refine zAp (fun _ => ?_))
    refine zIx (j) (hj') ?_
    repeat (first | refine gG ?_ | refine zN1 (fun hlen => ?_) | refine zN2 (fun hlen => ?_) | refine zAl (fun _ => ?_) | refine zBx (fun _ => ?_) | refine zAp (fun _ => ?_))
    refine zEl (hatm) (Tr.ts_len _) ?_
    repeat (first | refine gG ?_ | refine zN1 (fun hlen => ?_) | refine zN2 (fun hlen => ?_) | refine zAl (fun _ => ?_) | refine zBx (fun _ => ?_) | refine zAp (fun _ => ?_))
    exact ⟨(j + 1, _), hj', by simp only; omega, x_wkd 5 ⟨rfl, rfl, trivial⟩ (by dsimp only; rw [htk]; simp only [w5B, List.length_append, List.flatMap_append]; rfl) (by repeat (first | exact ag_refl | refine ag_upd rfl ?_ | refine ag_at rfl rfl ?_))⟩
  have hj' : j = trs.length := by have : ¬ j < trs.length := by simpa using h
                                  omega
  subst hj'
  have htl : (trs.map Tr.name).take trs.length = trs.map Tr.name := by rw [← List.length_map (f := Tr.name), List.take_length]
  rw [htl]
  clear h hj htl
  have hC : (trs.map Tr.name).length ≤ 1048576 := by rw [List.length_map]; exact ht
  generalize trs.map Tr.name = C at *
  refine x_fz 4 rfl rfl rfl rfl ?_
  refine x_fz 5 rfl rfl rfl rfl ?_
  refine x_fz 6 rfl rfl rfl rfl ?_
  refine x_drop 2 rfl ?_
  rw [Bool.false_or]
  generalize hR4 : [A, B, C, LM, LC, LA].any twB = r4
  have hall : ∀ a ∈ [A, B, C, LM, LC, LA], a.length ≤ 1048576 := by
    intro a ha
    simp only [List.mem_cons, List.not_mem_nil, or_false] at ha
    rcases ha with rfl | rfl | rfl | rfl | rfl | rfl <;> assumption
  repeat (first | refine gG ?_ | refine zN1 (fun hlen => ?_) | refine zN2 (fun hlen => ?_) | refine zAl (fun _ => ?_) | refine zBx (fun _ => ?_) | refine zAp (fun _ => ?_))
  refine ac_draw [0, 0, 0, 0, 1, 0, 1, 0, 1, 1, 1, 1] [0, 1, 2, 3, 4, 5, 6, 7, 8, 9, 10, 11] (by kernel_rfl) (by kernel_rfl) ?_
  refine gW ?_
  apply w_q; (focus exact rfl); (focus exact rfl); focus (intro _; (refine zCall c1 ?_; rintro _ rfl); exact det_refl)
  refine gW ?_
  apply w_q; (focus exact rfl); (focus exact rfl); focus (intro _; (refine zCall c2 ?_; rintro _ rfl); exact det_refl)
  refine gW ?_
  apply w_q; (focus exact rfl); (focus exact rfl); focus (intro _; (refine zCall c3 ?_; rintro _ rfl); exact det_refl)
  refine gW ?_
  refine w_nil ?_
  clear c1 c2 c3 hA hB hC l1 l2 l3
  repeat (first | refine gG ?_ | refine zN1 (fun hlen => ?_) | refine zN2 (fun hlen => ?_) | refine zAl (fun _ => ?_) | refine zBx (fun _ => ?_) | refine zAp (fun _ => ?_))
  refine x_loop [14, 85, 86, 87, 88, 89, 90, 91, 92] (fun k : Nat => [(85, .c (.lit (.int .i64 (k : Nat))))]) (fun _ => w2B b2 b3) (fun k => k ≤ 6 ∧ ([A, B, C, LM, LC, LA].drop k).any twB = r4) (fun k => 6 - k) 0 ⟨Nat.zero_le _, hR4⟩ ⟨rfl, trivial⟩ rfl ?_
  clear hR4
  rintro k ⟨hk, he⟩
  repeat (first | refine gG ?_ | refine zN1 (fun hlen => ?_) | refine zN2 (fun hlen => ?_) | refine zAl (fun _ => ?_) | refine zBx (fun _ => ?_) | refine zAp (fun _ => ?_))
  refine x_cond rfl (fun h => ?_) (fun h => ?_)
  · have hk' : k < 6 := by have := of_decide_eq_true h; omega
    obtain ⟨a, ha⟩ : ∃ a, [A, B, C, LM, LC, LA][k]? = some a := nth (l := [A, B, C, LM, LC, LA]) hk'
    have hat : ([strRow A, strRow B, strRow C, strRow LM, strRow LC, strRow LA] : List T)[k * 1]? = some (strRow a) := by
      rw [Nat.mul_one]
      show ([A, B, C, LM, LC, LA].map strRow)[k]? = _
      rw [List.getElem?_map, ha]
      rfl
    have stw := refDbl_af a (hall a (List.mem_of_getElem? ha))
    rw [any_drop ha] at he
    clear h ha hall hR1 hR2 hR3 hti hfi hai hx hfo
    cases dt : twB a
    · rw [dt] at stw he
      rw [Bool.false_or] at he
      repeat (first | refine gG ?_ | refine zN1 (fun hlen => ?_) | refine zN2 (fun hlen => ?_) | refine zAl (fun _ => ?_) | refine zBx (fun _ => ?_) | refine zAp (fun _ => ?_))
      refine zIx k hk' ?_
      repeat (first | refine gG ?_ | refine zN1 (fun hlen => ?_) | refine zN2 (fun hlen => ?_) | refine zAl (fun _ => ?_) | refine zBx (fun _ => ?_) | refine zAp (fun _ => ?_))
      refine zEl1 hat ?_
      repeat (first | refine gG ?_ | refine zN1 (fun hlen => ?_) | refine zN2 (fun hlen => ?_) | refine zAl (fun _ => ?_) | refine zBx (fun _ => ?_) | refine zAp (fun _ => ?_))
      refine zCall (stw) ?_
      rintro _ rfl
      repeat (first | refine gG ?_ | refine zN1 (fun hlen => ?_) | refine zN2 (fun hlen => ?_) | refine zAl (fun _ => ?_) | refine zBx (fun _ => ?_) | refine zAp (fun _ => ?_))
      exact ⟨k + 1, ⟨hk', he⟩, by omega, x_wkd 2 ⟨rfl, trivial⟩ rfl (by repeat (first | exact ag_refl | refine ag_upd rfl ?_ | refine ag_at rfl rfl ?_))⟩
    · rw [dt] at stw he
      rw [Bool.true_or] at he
      subst he
      repeat (first | refine gG ?_ | refine zN1 (fun hlen => ?_) | refine zN2 (fun hlen => ?_) | refine zAl (fun _ => ?_) | refine zBx (fun _ => ?_) | refine zAp (fun _ => ?_))
      refine zIx k hk' ?_
      repeat (first | refine gG ?_ | refine zN1 (fun hlen => ?_) | refine zN2 (fun hlen => ?_) | refine zAl (fun _ => ?_) | refine zBx (fun _ => ?_) | refine zAp (fun _ => ?_))
      refine zEl1 hat ?_
      repeat (first | refine gG ?_ | refine zN1 (fun hlen => ?_) | refine zN2 (fun hlen => ?_) | refine zAl (fun _ => ?_) | refine zBx (fun _ => ?_) | refine zAp (fun _ => ?_))
      refine zCall (stw) ?_
      rintro _ rfl
      repeat (first | refine gG ?_ | refine zN1 (fun hlen => ?_) | refine zN2 (fun hlen => ?_) | refine zAl (fun _ => ?_) | refine zBx (fun _ => ?_) | refine zAp (fun _ => ?_))
      first | refine zR ?_ | refine zQ ?_
      rfl
  have hk' : k = 6 := by have := of_decide_eq_false h; omega
  subst hk'
  replace he : false = r4 := he
  subst he
  clear h hk hall
  rw [Bool.false_or]
  repeat (first | refine gG ?_ | refine zN1 (fun hlen => ?_) | refine zN2 (fun hlen => ?_) | refine zAl (fun _ => ?_) | refine zBx (fun _ => ?_) | refine zAp (fun _ => ?_))
  refine x_loop [16, 18, 96, 97, 98, 99, 100, 101, 102, 103, 104, 105, 106, 107, 108, 109, 110, 111, 112, 113, 114, 115, 116, 117] (fun k : Nat => [(96, .c (.lit (.int .i64 (k : Nat))))]) (fun _ => w2B b2 b3) (fun k => k ≤ trs.length ∧ ((trs.drop k).any fun t => t.funcs.any fnC) = r1) (fun k => trs.length - k) 0 ⟨Nat.zero_le _, hR1⟩ ⟨rfl, trivial⟩ rfl ?_
  clear hR1
  rintro k ⟨hk, he⟩
  repeat (first | refine gG ?_ | refine zN1 (fun hlen => ?_) | refine zN2 (fun hlen => ?_) | refine zAl (fun _ => ?_) | refine zBx (fun _ => ?_) | refine zAp (fun _ => ?_))
  refine x_cond rfl (fun h => ?_) (fun h => ?_)
  · have hk' : k < trs.length := by simpa using h
    obtain ⟨a, ha⟩ := nth hk'
    have hat := Tr.at ha
    have hta := hti a (List.mem_of_getElem? ha)
    rw [any_drop ha] at he
    obtain ⟨dn, dfs⟩ := a
    dsimp only at he hta
    clear h ha hti hfi hai hR2 hR3 hx hfo
    repeat (first | refine gG ?_ | refine zN1 (fun hlen => ?_) | refine zN2 (fun hlen => ?_) | refine zAl (fun _ => ?_) | refine zBx (fun _ => ?_) | refine zAp (fun _ => ?_))
    refine zIx (k) (hk') ?_
    repeat (first | refine gG ?_ | refine zN1 (fun hlen => ?_) | refine zN2 (fun hlen => ?_) | refine zAl (fun _ => ?_) | refine zBx (fun _ => ?_) | refine zAp (fun _ => ?_))
    refine zEl (hat) (Tr.ts_len _) ?_
    repeat (first | refine gG ?_ | refine zN1 (fun hlen => ?_) | refine zN2 (fun hlen => ?_) | refine zAl (fun _ => ?_) | refine zBx (fun _ => ?_) | refine zAp (fun _ => ?_))
    rename_i b5
    generalize hR4 : dfs.any fnC = r4 at he
    refine x_loop [18, 103, 104, 105, 106, 107, 108, 109, 110, 111, 112, 113, 114, 115, 116] (fun j : Nat => [(103, .c (.lit (.int .i64 (j : Nat))))]) (fun _ => [.box b2 36 [.c (.lit (.int .i64 0)), .c (.lit (.int .i64 0))], .box b3 36 [.c (.lit (.int .i64 11)), .c (.lit (.int .i64 0))], .box b5 55 [.c (.lit (.string dn)), .c (Fu.row dfs)]]) (fun j => j ≤ dfs.length ∧ (dfs.drop j).any fnC = r4) (fun j => dfs.length - j) 0 ⟨Nat.zero_le _, hR4⟩ ⟨rfl, trivial⟩ rfl ?_
    clear hR4
    rintro j ⟨hj, hf⟩
    repeat (first | refine gG ?_ | refine zN1 (fun hlen => ?_) | refine zN2 (fun hlen => ?_) | refine zAl (fun _ => ?_) | refine zBx (fun _ => ?_) | refine zAp (fun _ => ?_))
    refine x_cond rfl (fun h => ?_) (fun h => ?_)
    · have hj' : j < dfs.length := by simpa using h
      obtain ⟨m, hm⟩ := nth hj'
      have hatm := Fu.at hm
      have hml := hta m (List.mem_of_getElem? hm)
      rw [any_drop hm, show fnC m = (twB m.params || twB m.names) from rfl] at hf
      have t1 := refDbl_af m.params hml.1
      have t2 := refDbl_af m.names hml.2
      obtain ⟨mn, mps, mns, mts, ⟨ok, on, ol⟩, ⟨ek, en, et, ens, eys, el, ers, ep⟩⟩ := m
      dsimp only at hf t1 t2
      clear h hm hml hta
      cases d1 : twB mps
      · rw [d1] at t1 hf
        cases d2 : twB mns
        · rw [d2] at t2 hf
          rw [Bool.false_or, Bool.false_or] at hf
          repeat (first | refine gG ?_ | refine zN1 (fun hlen => ?_) | refine zN2 (fun hlen => ?_) | refine zAl (fun _ => ?_) | refine zBx (fun _ => ?_) | refine zAp (fun _ => ?_))
          refine zIx (j) (hj') ?_
          repeat (first | refine gG ?_ | refine zN1 (fun hlen => ?_) | refine zN2 (fun hlen => ?_) | refine zAl (fun _ => ?_) | refine zBx (fun _ => ?_) | refine zAp (fun _ => ?_))
          refine zEl (hatm) (Fu.ts_len _) ?_
          repeat (first | refine gG ?_ | refine zN1 (fun hlen => ?_) | refine zN2 (fun hlen => ?_) | refine zAl (fun _ => ?_) | refine zBx (fun _ => ?_) | refine zAp (fun _ => ?_))
          refine zCall (t1) ?_
          rintro _ rfl
          repeat (first | refine gG ?_ | refine zN1 (fun hlen => ?_) | refine zN2 (fun hlen => ?_) | refine zAl (fun _ => ?_) | refine zBx (fun _ => ?_) | refine zAp (fun _ => ?_))
          refine zCall (t2) ?_
          rintro _ rfl
          repeat (first | refine gG ?_ | refine zN1 (fun hlen => ?_) | refine zN2 (fun hlen => ?_) | refine zAl (fun _ => ?_) | refine zBx (fun _ => ?_) | refine zAp (fun _ => ?_))
          exact ⟨j + 1, ⟨hj', hf⟩, by omega, x_wkd 3 ⟨rfl, trivial⟩ rfl (by repeat (first | exact ag_refl | refine ag_upd rfl ?_ | refine ag_at rfl rfl ?_))⟩
        · rw [d2] at t2 hf
          rw [Bool.or_true, Bool.true_or] at hf
          subst hf
          rw [Bool.true_or] at he
          subst he
          repeat (first | refine gG ?_ | refine zN1 (fun hlen => ?_) | refine zN2 (fun hlen => ?_) | refine zAl (fun _ => ?_) | refine zBx (fun _ => ?_) | refine zAp (fun _ => ?_))
          refine zIx (j) (hj') ?_
          repeat (first | refine gG ?_ | refine zN1 (fun hlen => ?_) | refine zN2 (fun hlen => ?_) | refine zAl (fun _ => ?_) | refine zBx (fun _ => ?_) | refine zAp (fun _ => ?_))
          refine zEl (hatm) (Fu.ts_len _) ?_
          repeat (first | refine gG ?_ | refine zN1 (fun hlen => ?_) | refine zN2 (fun hlen => ?_) | refine zAl (fun _ => ?_) | refine zBx (fun _ => ?_) | refine zAp (fun _ => ?_))
          refine zCall (t1) ?_
          rintro _ rfl
          repeat (first | refine gG ?_ | refine zN1 (fun hlen => ?_) | refine zN2 (fun hlen => ?_) | refine zAl (fun _ => ?_) | refine zBx (fun _ => ?_) | refine zAp (fun _ => ?_))
          refine zCall (t2) ?_
          rintro _ rfl
          repeat (first | refine gG ?_ | refine zN1 (fun hlen => ?_) | refine zN2 (fun hlen => ?_) | refine zAl (fun _ => ?_) | refine zBx (fun _ => ?_) | refine zAp (fun _ => ?_))
          first | refine zR ?_ | refine zQ ?_
          rfl
      · rw [d1] at t1 hf
        rw [Bool.true_or, Bool.true_or] at hf
        subst hf
        rw [Bool.true_or] at he
        subst he
        repeat (first | refine gG ?_ | refine zN1 (fun hlen => ?_) | refine zN2 (fun hlen => ?_) | refine zAl (fun _ => ?_) | refine zBx (fun _ => ?_) | refine zAp (fun _ => ?_))
        refine zIx (j) (hj') ?_
        repeat (first | refine gG ?_ | refine zN1 (fun hlen => ?_) | refine zN2 (fun hlen => ?_) | refine zAl (fun _ => ?_) | refine zBx (fun _ => ?_) | refine zAp (fun _ => ?_))
        refine zEl (hatm) (Fu.ts_len _) ?_
        repeat (first | refine gG ?_ | refine zN1 (fun hlen => ?_) | refine zN2 (fun hlen => ?_) | refine zAl (fun _ => ?_) | refine zBx (fun _ => ?_) | refine zAp (fun _ => ?_))
        refine zCall (t1) ?_
        rintro _ rfl
        repeat (first | refine gG ?_ | refine zN1 (fun hlen => ?_) | refine zN2 (fun hlen => ?_) | refine zAl (fun _ => ?_) | refine zBx (fun _ => ?_) | refine zAp (fun _ => ?_))
        first | refine zR ?_ | refine zQ ?_
        rfl
    · have hj' : j = dfs.length := by have : ¬ j < dfs.length := by simpa using h
                                      omega
      subst hj'
      rw [List.drop_length, List.any_nil] at hf
      subst hf
      rw [Bool.false_or] at he
      clear h
      repeat (first | refine gG ?_ | refine zN1 (fun hlen => ?_) | refine zN2 (fun hlen => ?_) | refine zAl (fun _ => ?_) | refine zBx (fun _ => ?_) | refine zAp (fun _ => ?_))
      exact ⟨k + 1, ⟨hk', he⟩, by omega, x_wkd 2 ⟨rfl, trivial⟩ rfl (by repeat (first | exact ag_refl | refine ag_upd rfl ?_ | refine ag_at rfl rfl ?_))⟩
  have hk' : k = trs.length := by have : ¬ k < trs.length := by simpa using h
                                  omega
  subst hk'
  rw [List.drop_length, List.any_nil] at he
  subst he
  clear h hk hti
  rw [cond_false]
  repeat (first | refine gG ?_ | refine zN1 (fun hlen => ?_) | refine zN2 (fun hlen => ?_) | refine zAl (fun _ => ?_) | refine zBx (fun _ => ?_) | refine zAp (fun _ => ?_))
  refine zCall (hfo) ?_
  rintro _ rfl
  clear hfo
  repeat (first | refine gG ?_ | refine zN1 (fun hlen => ?_) | refine zN2 (fun hlen => ?_) | refine zAl (fun _ => ?_) | refine zBx (fun _ => ?_) | refine zAp (fun _ => ?_))
  refine x_loop [20, 21, 121, 122, 123, 124, 125, 126, 127, 128, 129, 130, 131, 132, 133, 134, 135, 136, 137, 138, 139, 140, 141, 142, 143, 144] (fun y : Nat => [(121, .c (.lit (.int .i64 (y : Nat))))]) (fun _ => w2B b2 b3) (fun y => y ≤ FS.length ∧ firstS (funR E) (FS.drop y) = S1) (fun y => FS.length - y) 0 ⟨Nat.zero_le _, hR2⟩ ⟨rfl, trivial⟩ rfl ?_
  clear hR2
  rintro k ⟨hk, he⟩
  repeat (first | refine gG ?_ | refine zN1 (fun hlen => ?_) | refine zN2 (fun hlen => ?_) | refine zAl (fun _ => ?_) | refine zBx (fun _ => ?_) | refine zAp (fun _ => ?_))
  refine x_cond rfl (fun h => ?_) (fun h => ?_)
  · have hk' : k < FS.length := by simpa using h
    obtain ⟨m, hm⟩ := nth hk'
    have hatm := Fu.at hm
    have hml := hfi m (List.mem_of_getElem? hm)
    rw [firstS_at hm, show funR E m = (bif twB m.params || twB m.names then some 0 else m.body.sc E m.names) from rfl] at he
    have t1 := refDbl_af m.params hml.1
    have t2 := refDbl_af m.names (by omega)
    have hcx := hx m.body m.names hml.2
    obtain ⟨mn, mps, mns, mts, ⟨ok, on, ol⟩, ⟨ek, en, et, ens, eys, el, ers, ep⟩⟩ := m
    dsimp only at he t1 t2 hcx
    clear h hm hml hfi hai hR3 hx
    cases d1 : twB mps
    rotate_left
    · rw [d1] at t1 he
      rw [Bool.true_or, cond_true] at he
      dsimp only at he
      subst he
      repeat (first | refine gG ?_ | refine zN1 (fun hlen => ?_) | refine zN2 (fun hlen => ?_) | refine zAl (fun _ => ?_) | refine zBx (fun _ => ?_) | refine zAp (fun _ => ?_))
      refine zIx (k) (hk') ?_
      repeat (first | refine gG ?_ | refine zN1 (fun hlen => ?_) | refine zN2 (fun hlen => ?_) | refine zAl (fun _ => ?_) | refine zBx (fun _ => ?_) | refine zAp (fun _ => ?_))
      refine zEl (hatm) (Fu.ts_len _) ?_
      repeat (first | refine gG ?_ | refine zN1 (fun hlen => ?_) | refine zN2 (fun hlen => ?_) | refine zAl (fun _ => ?_) | refine zBx (fun _ => ?_) | refine zAp (fun _ => ?_))
      refine zCall (t1) ?_
      rintro _ rfl
      repeat (first | refine gG ?_ | refine zN1 (fun hlen => ?_) | refine zN2 (fun hlen => ?_) | refine zAl (fun _ => ?_) | refine zBx (fun _ => ?_) | refine zAp (fun _ => ?_))
      first | refine zR ?_ | refine zQ ?_
      rfl
    rw [d1] at t1 he
    cases d2 : twB mns
    rotate_left
    · rw [d2] at t2 he
      rw [Bool.or_true, cond_true] at he
      dsimp only at he
      subst he
      repeat (first | refine gG ?_ | refine zN1 (fun hlen => ?_) | refine zN2 (fun hlen => ?_) | refine zAl (fun _ => ?_) | refine zBx (fun _ => ?_) | refine zAp (fun _ => ?_))
      refine zIx (k) (hk') ?_
      repeat (first | refine gG ?_ | refine zN1 (fun hlen => ?_) | refine zN2 (fun hlen => ?_) | refine zAl (fun _ => ?_) | refine zBx (fun _ => ?_) | refine zAp (fun _ => ?_))
      refine zEl (hatm) (Fu.ts_len _) ?_
      repeat (first | refine gG ?_ | refine zN1 (fun hlen => ?_) | refine zN2 (fun hlen => ?_) | refine zAl (fun _ => ?_) | refine zBx (fun _ => ?_) | refine zAp (fun _ => ?_))
      refine zCall (t1) ?_
      rintro _ rfl
      repeat (first | refine gG ?_ | refine zN1 (fun hlen => ?_) | refine zN2 (fun hlen => ?_) | refine zAl (fun _ => ?_) | refine zBx (fun _ => ?_) | refine zAp (fun _ => ?_))
      refine zCall (t2) ?_
      rintro _ rfl
      repeat (first | refine gG ?_ | refine zN1 (fun hlen => ?_) | refine zN2 (fun hlen => ?_) | refine zAl (fun _ => ?_) | refine zBx (fun _ => ?_) | refine zAp (fun _ => ?_))
      first | refine zR ?_ | refine zQ ?_
      rfl
    rw [d2] at t2 he
    rw [Bool.or_false, cond_false] at he
    generalize Ex.sc E (.mk ek en et ens eys el ers ep) mns = ob at *
    cases ob with
    | none =>
      dsimp only [errT, wrS] at he hcx
      repeat (first | refine gG ?_ | refine zN1 (fun hlen => ?_) | refine zN2 (fun hlen => ?_) | refine zAl (fun _ => ?_) | refine zBx (fun _ => ?_) | refine zAp (fun _ => ?_))
      refine zIx (k) (hk') ?_
      repeat (first | refine gG ?_ | refine zN1 (fun hlen => ?_) | refine zN2 (fun hlen => ?_) | refine zAl (fun _ => ?_) | refine zBx (fun _ => ?_) | refine zAp (fun _ => ?_))
      refine zEl (hatm) (Fu.ts_len _) ?_
      repeat (first | refine gG ?_ | refine zN1 (fun hlen => ?_) | refine zN2 (fun hlen => ?_) | refine zAl (fun _ => ?_) | refine zBx (fun _ => ?_) | refine zAp (fun _ => ?_))
      refine zCall (t1) ?_
      rintro _ rfl
      repeat (first | refine gG ?_ | refine zN1 (fun hlen => ?_) | refine zN2 (fun hlen => ?_) | refine zAl (fun _ => ?_) | refine zBx (fun _ => ?_) | refine zAp (fun _ => ?_))
      refine zCall (t2) ?_
      rintro _ rfl
      repeat (first | refine gG ?_ | refine zN1 (fun hlen => ?_) | refine zN2 (fun hlen => ?_) | refine zAl (fun _ => ?_) | refine zBx (fun _ => ?_) | refine zAp (fun _ => ?_))
      refine zCall (hcx) ?_
      rintro _ rfl
      repeat (first | refine gG ?_ | refine zN1 (fun hlen => ?_) | refine zN2 (fun hlen => ?_) | refine zAl (fun _ => ?_) | refine zBx (fun _ => ?_) | refine zAp (fun _ => ?_))
      exact ⟨k + 1, ⟨hk', he⟩, by omega, x_wkd 2 ⟨rfl, trivial⟩ rfl (by repeat (first | exact ag_refl | refine ag_upd rfl ?_ | refine ag_at rfl rfl ?_))⟩
    | some x =>
      dsimp only [errT, wrS] at he hcx
      subst he
      repeat (first | refine gG ?_ | refine zN1 (fun hlen => ?_) | refine zN2 (fun hlen => ?_) | refine zAl (fun _ => ?_) | refine zBx (fun _ => ?_) | refine zAp (fun _ => ?_))
      refine zIx (k) (hk') ?_
      repeat (first | refine gG ?_ | refine zN1 (fun hlen => ?_) | refine zN2 (fun hlen => ?_) | refine zAl (fun _ => ?_) | refine zBx (fun _ => ?_) | refine zAp (fun _ => ?_))
      refine zEl (hatm) (Fu.ts_len _) ?_
      repeat (first | refine gG ?_ | refine zN1 (fun hlen => ?_) | refine zN2 (fun hlen => ?_) | refine zAl (fun _ => ?_) | refine zBx (fun _ => ?_) | refine zAp (fun _ => ?_))
      refine zCall (t1) ?_
      rintro _ rfl
      repeat (first | refine gG ?_ | refine zN1 (fun hlen => ?_) | refine zN2 (fun hlen => ?_) | refine zAl (fun _ => ?_) | refine zBx (fun _ => ?_) | refine zAp (fun _ => ?_))
      refine zCall (t2) ?_
      rintro _ rfl
      repeat (first | refine gG ?_ | refine zN1 (fun hlen => ?_) | refine zN2 (fun hlen => ?_) | refine zAl (fun _ => ?_) | refine zBx (fun _ => ?_) | refine zAp (fun _ => ?_))
      refine zCall (hcx) ?_
      rintro _ rfl
      repeat (first | refine gG ?_ | refine zN1 (fun hlen => ?_) | refine zN2 (fun hlen => ?_) | refine zAl (fun _ => ?_) | refine zBx (fun _ => ?_) | refine zAp (fun _ => ?_))
      first | refine zR ?_ | refine zQ ?_
      rfl
  have hk' : k = FS.length := by have : ¬ k < FS.length := by simpa using h
                                 omega
  subst hk'
  rw [List.drop_length, firstS] at he
  subst he
  dsimp only
  clear h hk hfi
  repeat (first | refine gG ?_ | refine zN1 (fun hlen => ?_) | refine zN2 (fun hlen => ?_) | refine zAl (fun _ => ?_) | refine zBx (fun _ => ?_) | refine zAp (fun _ => ?_))
  refine x_loop [23, 24, 148, 149, 150, 151, 152, 153, 154, 155, 156, 157, 158, 159, 160, 161, 162, 163, 164, 165, 166] (fun y : Nat => [(148, .c (.lit (.int .i64 (y : Nat))))]) (fun _ => w2B b2 b3) (fun y => y ≤ acs.length ∧ firstS (actR E) (acs.drop y) = S2) (fun y => acs.length - y) 0 ⟨Nat.zero_le _, hR3⟩ ⟨rfl, trivial⟩ rfl ?_
  clear hR3
  rintro k ⟨hk, he⟩
  repeat (first | refine gG ?_ | refine zN1 (fun hlen => ?_) | refine zN2 (fun hlen => ?_) | refine zAl (fun _ => ?_) | refine zBx (fun _ => ?_) | refine zAp (fun _ => ?_))
  refine x_cond rfl (fun h => ?_) (fun h => ?_)
  · have hk' : k < acs.length := by simpa using h
    obtain ⟨m, hm⟩ := nth hk'
    have hatm := Ac.at hm
    have hml := hai m (List.mem_of_getElem? hm)
    rw [firstS_at hm, show actR E m = (bif twB m.names then some 0 else m.body.sc E m.names) from rfl] at he
    have t2 := refDbl_af m.names (by omega)
    have hcx := hx m.body m.names hml
    obtain ⟨mn, mns, mts, ⟨ok, on, ol⟩, ⟨ek, en, et, ens, eys, el, ers, ep⟩⟩ := m
    dsimp only at he t2 hcx
    clear h hm hml hai hx
    cases d2 : twB mns
    rotate_left
    · rw [d2] at t2 he
      rw [cond_true] at he
      dsimp only at he
      subst he
      repeat (first | refine gG ?_ | refine zN1 (fun hlen => ?_) | refine zN2 (fun hlen => ?_) | refine zAl (fun _ => ?_) | refine zBx (fun _ => ?_) | refine zAp (fun _ => ?_))
      refine zIx (k) (hk') ?_
      repeat (first | refine gG ?_ | refine zN1 (fun hlen => ?_) | refine zN2 (fun hlen => ?_) | refine zAl (fun _ => ?_) | refine zBx (fun _ => ?_) | refine zAp (fun _ => ?_))
      refine zEl (hatm) (Ac.ts_len _) ?_
      repeat (first | refine gG ?_ | refine zN1 (fun hlen => ?_) | refine zN2 (fun hlen => ?_) | refine zAl (fun _ => ?_) | refine zBx (fun _ => ?_) | refine zAp (fun _ => ?_))
      refine zCall (t2) ?_
      rintro _ rfl
      repeat (first | refine gG ?_ | refine zN1 (fun hlen => ?_) | refine zN2 (fun hlen => ?_) | refine zAl (fun _ => ?_) | refine zBx (fun _ => ?_) | refine zAp (fun _ => ?_))
      first | refine zR ?_ | refine zQ ?_
      rfl
    rw [d2] at t2 he
    rw [cond_false] at he
    generalize Ex.sc E (.mk ek en et ens eys el ers ep) mns = ob at *
    cases ob with
    | none =>
      dsimp only [errT, wrS] at he hcx
      repeat (first | refine gG ?_ | refine zN1 (fun hlen => ?_) | refine zN2 (fun hlen => ?_) | refine zAl (fun _ => ?_) | refine zBx (fun _ => ?_) | refine zAp (fun _ => ?_))
      refine zIx (k) (hk') ?_
      repeat (first | refine gG ?_ | refine zN1 (fun hlen => ?_) | refine zN2 (fun hlen => ?_) | refine zAl (fun _ => ?_) | refine zBx (fun _ => ?_) | refine zAp (fun _ => ?_))
      refine zEl (hatm) (Ac.ts_len _) ?_
      repeat (first | refine gG ?_ | refine zN1 (fun hlen => ?_) | refine zN2 (fun hlen => ?_) | refine zAl (fun _ => ?_) | refine zBx (fun _ => ?_) | refine zAp (fun _ => ?_))
      refine zCall (t2) ?_
      rintro _ rfl
      repeat (first | refine gG ?_ | refine zN1 (fun hlen => ?_) | refine zN2 (fun hlen => ?_) | refine zAl (fun _ => ?_) | refine zBx (fun _ => ?_) | refine zAp (fun _ => ?_))
      refine zCall (hcx) ?_
      rintro _ rfl
      repeat (first | refine gG ?_ | refine zN1 (fun hlen => ?_) | refine zN2 (fun hlen => ?_) | refine zAl (fun _ => ?_) | refine zBx (fun _ => ?_) | refine zAp (fun _ => ?_))
      exact ⟨k + 1, ⟨hk', he⟩, by omega, x_wkd 2 ⟨rfl, trivial⟩ rfl (by repeat (first | exact ag_refl | refine ag_upd rfl ?_ | refine ag_at rfl rfl ?_))⟩
    | some x =>
      dsimp only [errT, wrS] at he hcx
      subst he
      repeat (first | refine gG ?_ | refine zN1 (fun hlen => ?_) | refine zN2 (fun hlen => ?_) | refine zAl (fun _ => ?_) | refine zBx (fun _ => ?_) | refine zAp (fun _ => ?_))
      refine zIx (k) (hk') ?_
      repeat (first | refine gG ?_ | refine zN1 (fun hlen => ?_) | refine zN2 (fun hlen => ?_) | refine zAl (fun _ => ?_) | refine zBx (fun _ => ?_) | refine zAp (fun _ => ?_))
      refine zEl (hatm) (Ac.ts_len _) ?_
      repeat (first | refine gG ?_ | refine zN1 (fun hlen => ?_) | refine zN2 (fun hlen => ?_) | refine zAl (fun _ => ?_) | refine zBx (fun _ => ?_) | refine zAp (fun _ => ?_))
      refine zCall (t2) ?_
      rintro _ rfl
      repeat (first | refine gG ?_ | refine zN1 (fun hlen => ?_) | refine zN2 (fun hlen => ?_) | refine zAl (fun _ => ?_) | refine zBx (fun _ => ?_) | refine zAp (fun _ => ?_))
      refine zCall (hcx) ?_
      rintro _ rfl
      repeat (first | refine gG ?_ | refine zN1 (fun hlen => ?_) | refine zN2 (fun hlen => ?_) | refine zAl (fun _ => ?_) | refine zBx (fun _ => ?_) | refine zAp (fun _ => ?_))
      first | refine zR ?_ | refine zQ ?_
      rfl
  have hk' : k = acs.length := by have : ¬ k < acs.length := by simpa using h
                                  omega
  subst hk'
  rw [List.drop_length, firstS] at he
  subst he
  clear h hk hai
  repeat (first | refine gG ?_ | refine zN1 (fun hlen => ?_) | refine zN2 (fun hlen => ?_) | refine zAl (fun _ => ?_) | refine zBx (fun _ => ?_) | refine zAp (fun _ => ?_))
  first | refine zR ?_ | refine zQ ?_
  rfl
end Go.Proofs.Ytldhlbjengpdbaa
namespace Go.Proofs.Ytldhlbjengpdbaa
open Go.RowKit
@[reducible] def rfB (b1 b2 b3 br : Nat) (M1 M2 M3 : List (ByteArray × T)) (v : Value) (n : Nat) (cs : List T) : List Blk := [.mp b1 (mkeys Value.string M1), .mp b2 (mkeys Value.string M2), .mp b3 (mkeys Value.string M3), .box br 90 [.own 0 (.map (some b1)), .own 1 (.map (some b2)), .own 2 (.map (some b3)), .c (.lit (.map none))], .row v 59 15 n cs]
def fnB (f : Fu) : Bool := twB f.params || twB f.names
theorem trP_eq (p : Pr) : trP p = p.traits.any fun t => t.funcs.any fnB := rfl
set_option maxRecDepth 100000 in
set_option maxHeartbeats 16000000 in
theorem program_af (p : Pr) (hp : p.mass ≤ 1048576) : AF Try.prog 5 [p.t] (· = .tup [.lit (.int .i64 (errT (progS p)).1), .lit (.int .i64 (errT (progS p)).2)]) := by
  have cD := doubled_af p hp
  have cN := newR_ag p hp
  have hx := fun (e : Ex) (B : List ByteArray) (hB : B.length + e.mass ≤ 1048576) b1 b2 b3 br M1 M2 M3 z h1 h2 h3 => exprS_ag p.env e B b1 b2 b3 br M1 M2 M3 z h1 h2 h3 hB
  have hti : ∀ t ∈ p.traits, ∀ f ∈ t.funcs, f.params.length ≤ 1048576 ∧ f.names.length ≤ 1048576 := fun t ht f hf => ⟨Nat.le_trans (p.trait_le ht hf).1 hp, Nat.le_trans (p.trait_le ht hf).2 hp⟩
  have hfi : ∀ f ∈ p.funs, f.params.length ≤ 1048576 ∧ f.names.length + f.body.mass ≤ 1048576 := fun f hf => ⟨Nat.le_trans (p.fun_le hf).1 hp, Nat.le_trans (p.fun_le hf).2 hp⟩
  have hai : ∀ f ∈ p.actors, f.names.length + f.body.mass ≤ 1048576 := fun f hf => Nat.le_trans (p.act_le hf) hp
  have hfl := Nat.le_trans p.bodies_le hp
  have hP : progS p = bif dblP p || trP p then some 0 else match firstS (funR p.env) p.funs with | some x => some x | none => firstS (actR p.env) p.actors := rfl
  have hfs : p.funs = p.impls.flatMap Im.funcs ++ p.funcs := rfl
  rw [hP, trP_eq]
  clear hP
  generalize p.env = E at *
  simp only [Pr.bodies, List.length_append, List.length_map] at hfl
  rw [hfs] at hfl hfi ⊢
  clear hfs
  generalize dblP p = db at *
  obtain ⟨nm, vr, us, ds, trs, ims, fus, acs⟩ := p
  clear hp
  dsimp only at *
  rw [List.length_append] at hfl
  generalize hR1 : (trs.any fun t => t.funcs.any fnB) = r1
  generalize hR2 : firstS (funR E) (ims.flatMap Im.funcs ++ fus) = S1
  generalize hR3 : firstS (actR E) acs = S2
  cases db
  rotate_left
  · refine af_enter tok Try.func5 Try.ntmps5 Try.results5 rfl (by kernel_rfl) rfl rfl fun F hX => ?_
    repeat (first | refine gG ?_ | refine zN1 (fun hlen => ?_) | refine zN2 (fun hlen => ?_) | refine zAl (fun _ => ?_) | refine zBf ?_ | refine zAp (fun _ => ?_))
    refine zCall (cD) ?_
    rintro _ rfl
    repeat (first | refine gG ?_ | refine zN1 (fun hlen => ?_) | refine zN2 (fun hlen => ?_) | refine zAl (fun _ => ?_) | refine zBx (fun _ => ?_) | refine zAp (fun _ => ?_))
    first | refine zR ?_ | refine zQ ?_
    rfl
  rw [Bool.false_or]
  refine af_enter tok Try.func5 Try.ntmps5 Try.results5 rfl (by kernel_rfl) rfl rfl fun F hX => ?_
  repeat (first | refine gG ?_ | refine zN1 (fun hlen => ?_) | refine zN2 (fun hlen => ?_) | refine zAl (fun _ => ?_) | refine zBf ?_ | refine zAp (fun _ => ?_))
  refine zCall (cD) ?_
  rintro _ rfl
  repeat (first | refine gG ?_ | refine zN1 (fun hlen => ?_) | refine zN2 (fun hlen => ?_) | refine zAl (fun _ => ?_) | refine zBx (fun _ => ?_) | refine zAp (fun _ => ?_))
  clear cD
  refine x_loop [2, 3, 5, 7, 25, 26, 27, 28, 29, 30, 31, 32, 33, 34, 35, 36, 37, 38, 39, 40, 41, 42, 43, 44, 45] (fun k : Nat => [(25, .c (.lit (.int .i64 (k : Nat))))]) (fun _ => []) (fun k => k ≤ trs.length ∧ ((trs.drop k).any fun t => t.funcs.any fnB) = r1) (fun k => trs.length - k) 0 ⟨Nat.zero_le _, hR1⟩ ⟨rfl, trivial⟩ rfl ?_
  clear hR1
  rintro k ⟨hk, he⟩
  repeat (first | refine gG ?_ | refine zN1 (fun hlen => ?_) | refine zN2 (fun hlen => ?_) | refine zAl (fun _ => ?_) | refine zBx (fun _ => ?_) | refine zAp (fun _ => ?_))
  refine x_cond rfl (fun h => ?_) (fun h => ?_)
  · have hk' : k < trs.length := by simpa using h
    obtain ⟨a, ha⟩ := nth hk'
    have hat := Tr.at ha
    have hta := hti a (List.mem_of_getElem? ha)
    rw [any_drop ha] at he
    obtain ⟨dn, dfs⟩ := a
    dsimp only at he hta
    clear h ha hti hfi hai hR2 hR3 hx cN
    repeat (first | refine gG ?_ | refine zN1 (fun hlen => ?_) | refine zN2 (fun hlen => ?_) | refine zAl (fun _ => ?_) | refine zBx (fun _ => ?_) | refine zAp (fun _ => ?_))
    refine zIx (k) (hk') ?_
    repeat (first | refine gG ?_ | refine zN1 (fun hlen => ?_) | refine zN2 (fun hlen => ?_) | refine zAl (fun _ => ?_) | refine zBx (fun _ => ?_) | refine zAp (fun _ => ?_))
    refine zEl (hat) (Tr.ts_len _) ?_
    repeat (first | refine gG ?_ | refine zN1 (fun hlen => ?_) | refine zN2 (fun hlen => ?_) | refine zAl (fun _ => ?_) | refine zBx (fun _ => ?_) | refine zAp (fun _ => ?_))
    rename_i b5
    generalize hR4 : dfs.any fnB = r4 at he
    refine x_loop [2, 3, 7, 32, 33, 34, 35, 36, 37, 38, 39, 40, 41, 42, 43, 44] (fun j : Nat => [(32, .c (.lit (.int .i64 (j : Nat))))]) (fun _ => [.box b5 55 [.c (.lit (.string dn)), .c (Fu.row dfs)]]) (fun j => j ≤ dfs.length ∧ (dfs.drop j).any fnB = r4) (fun j => dfs.length - j) 0 ⟨Nat.zero_le _, hR4⟩ ⟨rfl, trivial⟩ rfl ?_
    clear hR4
    rintro j ⟨hj, hf⟩
    repeat (first | refine gG ?_ | refine zN1 (fun hlen => ?_) | refine zN2 (fun hlen => ?_) | refine zAl (fun _ => ?_) | refine zBx (fun _ => ?_) | refine zAp (fun _ => ?_))
    refine x_cond rfl (fun h => ?_) (fun h => ?_)
    · have hj' : j < dfs.length := by simpa using h
      obtain ⟨m, hm⟩ := nth hj'
      have hatm := Fu.at hm
      have hml := hta m (List.mem_of_getElem? hm)
      rw [any_drop hm, show fnB m = (twB m.params || twB m.names) from rfl] at hf
      have t1 := twice_af m.params hml.1
      have t2 := twice_af m.names hml.2
      obtain ⟨mn, mps, mns, mts, ⟨ok, on, ol⟩, ⟨ek, en, et, ens, eys, el, ers, ep⟩⟩ := m
      dsimp only at hf t1 t2
      clear h hm hml hta
      cases d1 : twB mps
      · rw [d1] at t1 hf
        cases d2 : twB mns
        · rw [d2] at t2 hf
          rw [Bool.false_or, Bool.false_or] at hf
          repeat (first | refine gG ?_ | refine zN1 (fun hlen => ?_) | refine zN2 (fun hlen => ?_) | refine zAl (fun _ => ?_) | refine zBx (fun _ => ?_) | refine zAp (fun _ => ?_))
          refine zIx (j) (hj') ?_
          repeat (first | refine gG ?_ | refine zN1 (fun hlen => ?_) | refine zN2 (fun hlen => ?_) | refine zAl (fun _ => ?_) | refine zBx (fun _ => ?_) | refine zAp (fun _ => ?_))
          refine zEl (hatm) (Fu.ts_len _) ?_
          repeat (first | refine gG ?_ | refine zN1 (fun hlen => ?_) | refine zN2 (fun hlen => ?_) | refine zAl (fun _ => ?_) | refine zBx (fun _ => ?_) | refine zAp (fun _ => ?_))
          refine zCall (t1) ?_
          rintro _ rfl
          repeat (first | refine gG ?_ | refine zN1 (fun hlen => ?_) | refine zN2 (fun hlen => ?_) | refine zAl (fun _ => ?_) | refine zBx (fun _ => ?_) | refine zAp (fun _ => ?_))
          refine zCall (t2) ?_
          rintro _ rfl
          repeat (first | refine gG ?_ | refine zN1 (fun hlen => ?_) | refine zN2 (fun hlen => ?_) | refine zAl (fun _ => ?_) | refine zBx (fun _ => ?_) | refine zAp (fun _ => ?_))
          exact ⟨j + 1, ⟨hj', hf⟩, by omega, x_wkd 1 ⟨rfl, trivial⟩ rfl (by repeat (first | exact ag_refl | refine ag_upd rfl ?_ | refine ag_at rfl rfl ?_))⟩
        · rw [d2] at t2 hf
          rw [Bool.or_true, Bool.true_or] at hf
          subst hf
          rw [Bool.true_or] at he
          subst he
          repeat (first | refine gG ?_ | refine zN1 (fun hlen => ?_) | refine zN2 (fun hlen => ?_) | refine zAl (fun _ => ?_) | refine zBx (fun _ => ?_) | refine zAp (fun _ => ?_))
          refine zIx (j) (hj') ?_
          repeat (first | refine gG ?_ | refine zN1 (fun hlen => ?_) | refine zN2 (fun hlen => ?_) | refine zAl (fun _ => ?_) | refine zBx (fun _ => ?_) | refine zAp (fun _ => ?_))
          refine zEl (hatm) (Fu.ts_len _) ?_
          repeat (first | refine gG ?_ | refine zN1 (fun hlen => ?_) | refine zN2 (fun hlen => ?_) | refine zAl (fun _ => ?_) | refine zBx (fun _ => ?_) | refine zAp (fun _ => ?_))
          refine zCall (t1) ?_
          rintro _ rfl
          repeat (first | refine gG ?_ | refine zN1 (fun hlen => ?_) | refine zN2 (fun hlen => ?_) | refine zAl (fun _ => ?_) | refine zBx (fun _ => ?_) | refine zAp (fun _ => ?_))
          refine zCall (t2) ?_
          rintro _ rfl
          repeat (first | refine gG ?_ | refine zN1 (fun hlen => ?_) | refine zN2 (fun hlen => ?_) | refine zAl (fun _ => ?_) | refine zBx (fun _ => ?_) | refine zAp (fun _ => ?_))
          first | refine zR ?_ | refine zQ ?_
          rfl
      · rw [d1] at t1 hf
        rw [Bool.true_or, Bool.true_or] at hf
        subst hf
        rw [Bool.true_or] at he
        subst he
        repeat (first | refine gG ?_ | refine zN1 (fun hlen => ?_) | refine zN2 (fun hlen => ?_) | refine zAl (fun _ => ?_) | refine zBx (fun _ => ?_) | refine zAp (fun _ => ?_))
        refine zIx (j) (hj') ?_
        repeat (first | refine gG ?_ | refine zN1 (fun hlen => ?_) | refine zN2 (fun hlen => ?_) | refine zAl (fun _ => ?_) | refine zBx (fun _ => ?_) | refine zAp (fun _ => ?_))
        refine zEl (hatm) (Fu.ts_len _) ?_
        repeat (first | refine gG ?_ | refine zN1 (fun hlen => ?_) | refine zN2 (fun hlen => ?_) | refine zAl (fun _ => ?_) | refine zBx (fun _ => ?_) | refine zAp (fun _ => ?_))
        refine zCall (t1) ?_
        rintro _ rfl
        repeat (first | refine gG ?_ | refine zN1 (fun hlen => ?_) | refine zN2 (fun hlen => ?_) | refine zAl (fun _ => ?_) | refine zBx (fun _ => ?_) | refine zAp (fun _ => ?_))
        first | refine zR ?_ | refine zQ ?_
        rfl
    · have hj' : j = dfs.length := by have : ¬ j < dfs.length := by simpa using h
                                      omega
      subst hj'
      rw [List.drop_length, List.any_nil] at hf
      subst hf
      rw [Bool.false_or] at he
      clear h
      repeat (first | refine gG ?_ | refine zN1 (fun hlen => ?_) | refine zN2 (fun hlen => ?_) | refine zAl (fun _ => ?_) | refine zBx (fun _ => ?_) | refine zAp (fun _ => ?_))
      exact ⟨k + 1, ⟨hk', he⟩, by omega, x_wkd 0 ⟨rfl, trivial⟩ rfl (by repeat (first | exact ag_refl | refine ag_upd rfl ?_ | refine ag_at rfl rfl ?_))⟩
  have hk' : k = trs.length := by have : ¬ k < trs.length := by simpa using h
                                  omega
  subst hk'
  rw [List.drop_length, List.any_nil] at he
  subst he
  clear h hk hti
  rw [cond_false]
  repeat (first | refine gG ?_ | refine zN1 (fun hlen => ?_) | refine zN2 (fun hlen => ?_) | refine zAl (fun _ => ?_) | refine zBx (fun _ => ?_) | refine zAp (fun _ => ?_))
  refine zCallG [] cN ?_
  clear cN
  rintro _ _ ⟨b1, b2, b3, br, M1, M2, M3, rfl, rfl, z1, z2, z3⟩
  replace hx := fun e B hB z => hx e B hB b1 b2 b3 br M1 M2 M3 z z1 z2 z3
  clear z1 z2 z3
  refine ⟨.ptr 3 br 0, _, re_ptr, rfl, rfl, ?_⟩
  repeat (first | refine gG ?_ | refine zN1 (fun hlen => ?_) | refine zN2 (fun hlen => ?_) | refine zAl (fun _ => ?_) | refine zBx (fun _ => ?_) | refine zAp (fun _ => ?_))
  refine x_own 9 59 15 rfl rfl rfl rfl rfl ?_
  refine x_loop [9, 11, 51, 52, 53, 54, 55, 56, 57, 58, 59] (fun y : Nat × Value => [(51, .c (.lit (.int .i64 (y.1 : Nat)))), (9, .own 4 y.2)]) (fun y => rfB b1 b2 b3 br M1 M2 M3 y.2 ((ims.take y.1).flatMap Im.funcs).length (((ims.take y.1).flatMap Im.funcs).flatMap Fu.ts)) (fun y => y.1 ≤ ims.length) (fun y => ims.length - y.1) (0, .slice none 0 0) (Nat.zero_le _) ⟨rfl, rfl, trivial⟩ rfl ?_
  rintro ⟨k, v⟩ hk
  dsimp only at hk ⊢
  repeat (first | refine gG ?_ | refine zN1 (fun hlen => ?_) | refine zN2 (fun hlen => ?_) | refine zAl (fun _ => ?_) | refine zBx (fun _ => ?_) | refine zAp (fun _ => ?_))
  refine x_cond rfl (fun h => ?_) (fun h => ?_)
  · have hk' : k < ims.length := by simpa using h
    obtain ⟨a, ha⟩ := nth hk'
    have hle := flatl_le Im.funcs ims (k + 1)
    have hsn := flat_snoc' Im.funcs ha
    have hl1 : ((ims.take (k + 1)).flatMap Im.funcs).length = ((ims.take k).flatMap Im.funcs).length + a.funcs.length := by rw [hsn, List.length_append]
    have hc1 : ((ims.take (k + 1)).flatMap Im.funcs).flatMap Fu.ts = ((ims.take k).flatMap Im.funcs).flatMap Fu.ts ++ a.funcs.flatMap Fu.ts := by rw [hsn, List.flatMap_append]
    clear h hsn hx hfi hai hR2 hR3
    repeat (first | refine gG ?_ | refine zN1 (fun hlen => ?_) | refine zN2 (fun hlen => ?_) | refine zAl (fun _ => ?_) | refine zBx (fun _ => ?_) | refine zAp (fun _ => ?_))
    refine zIx (k) (hk') ?_
    repeat (first | refine gG ?_ | refine zN1 (fun hlen => ?_) | refine zN2 (fun hlen => ?_) | refine zAl (fun _ => ?_) | refine zBx (fun _ => ?_) | refine zAp (fun _ => ?_))
    refine zEl (Im.at ha) (Im.ts_len a) ?_
    obtain ⟨tn, dn, fs⟩ := a
    dsimp only at hl1 hc1
    repeat (first | refine gG ?_ | refine zN1 (fun hlen => ?_) | refine zN2 (fun hlen => ?_) | refine zAl (fun _ => ?_) | refine zBx (fun _ => ?_) | refine zAp (fun _ => ?_))
    exact ⟨(k + 1, _), hk', by simp only; omega, x_wkd 5 ⟨rfl, rfl, trivial⟩ (by simp only [hl1, hc1]; rfl) (by repeat (first | exact ag_refl | refine ag_upd rfl ?_ | refine ag_at rfl rfl ?_))⟩
  have hk' : k = ims.length := by have : ¬ k < ims.length := by simpa using h
                                  omega
  subst hk'
  rw [List.take_length]
  clear h hk
  repeat (first | refine gG ?_ | refine zN1 (fun hlen => ?_) | refine zN2 (fun hlen => ?_) | refine zAl (fun _ => ?_) | refine zBx (fun _ => ?_) | refine zAp (fun _ => ?_))
  refine x_fz 63 rfl rfl rfl rfl ?_
  refine x_drop 4 rfl ?_
  refine x_as 63 (.c (Fu.row (ims.flatMap Im.funcs ++ fus))) (fun M u h => by rw [Fu.row, List.length_append, List.flatMap_append]; exact h) ?_
  refine x_as 64 (.c (.lit (.int .i64 (((ims.flatMap Im.funcs ++ fus).length : Nat) : Int)))) (fun M u h => by rw [List.length_append]; exact h) ?_
  have hFl : (ims.flatMap Im.funcs ++ fus).length ≤ 1048576 := by rw [List.length_append]; omega
  generalize ims.flatMap Im.funcs ++ fus = FS at *
  clear hfl
  refine x_loop [2, 3, 13, 14, 15, 65, 66, 67, 68, 69, 70, 71, 72, 73, 74, 75, 76, 77, 78, 79, 80, 81, 82, 83, 84, 85, 86, 87, 88, 89, 90, 91, 92] (fun y : Nat × Option Nat => [(65, .c (.lit (.int .i64 (y.1 : Nat))))]) (fun y => rsB b1 b2 b3 br M1 M2 M3 y.2) (fun y => y.1 ≤ FS.length ∧ firstS (funR E) (FS.drop y.1) = S1) (fun y => FS.length - y.1) (0, none) ⟨Nat.zero_le _, hR2⟩ ⟨rfl, trivial⟩ rfl ?_
  clear hR2
  rintro ⟨k, z⟩ ⟨hk, he⟩
  dsimp only at hk he ⊢
  repeat (first | refine gG ?_ | refine zN1 (fun hlen => ?_) | refine zN2 (fun hlen => ?_) | refine zAl (fun _ => ?_) | refine zBx (fun _ => ?_) | refine zAp (fun _ => ?_))
  refine x_cond rfl (fun h => ?_) (fun h => ?_)
  · have hk' : k < FS.length := by simpa using h
    obtain ⟨m, hm⟩ := nth hk'
    have hatm := Fu.at hm
    have hml := hfi m (List.mem_of_getElem? hm)
    rw [firstS_at hm, show funR E m = (bif twB m.params || twB m.names then some 0 else m.body.sc E m.names) from rfl] at he
    have t1 := twice_af m.params hml.1
    have t2 := twice_af m.names (by omega)
    have hcx := hx m.body m.names hml.2 z
    obtain ⟨mn, mps, mns, mts, ⟨ok, on, ol⟩, ⟨ek, en, et, ens, eys, el, ers, ep⟩⟩ := m
    dsimp only at he t1 t2 hcx
    clear h hm hml hfi hai hR3 hx
    cases d1 : twB mps
    rotate_left
    · rw [d1] at t1 he
      rw [Bool.true_or, cond_true] at he
      dsimp only at he
      subst he
      repeat (first | refine gG ?_ | refine zN1 (fun hlen => ?_) | refine zN2 (fun hlen => ?_) | refine zAl (fun _ => ?_) | refine zBx (fun _ => ?_) | refine zAp (fun _ => ?_))
      refine zIx (k) (hk') ?_
      repeat (first | refine gG ?_ | refine zN1 (fun hlen => ?_) | refine zN2 (fun hlen => ?_) | refine zAl (fun _ => ?_) | refine zBx (fun _ => ?_) | refine zAp (fun _ => ?_))
      refine zEl (hatm) (Fu.ts_len _) ?_
      repeat (first | refine gG ?_ | refine zN1 (fun hlen => ?_) | refine zN2 (fun hlen => ?_) | refine zAl (fun _ => ?_) | refine zBx (fun _ => ?_) | refine zAp (fun _ => ?_))
      refine zCall (t1) ?_
      rintro _ rfl
      repeat (first | refine gG ?_ | refine zN1 (fun hlen => ?_) | refine zN2 (fun hlen => ?_) | refine zAl (fun _ => ?_) | refine zBx (fun _ => ?_) | refine zAp (fun _ => ?_))
      first | refine zR ?_ | refine zQ ?_
      rfl
    rw [d1] at t1 he
    cases d2 : twB mns
    rotate_left
    · rw [d2] at t2 he
      rw [Bool.or_true, cond_true] at he
      dsimp only at he
      subst he
      repeat (first | refine gG ?_ | refine zN1 (fun hlen => ?_) | refine zN2 (fun hlen => ?_) | refine zAl (fun _ => ?_) | refine zBx (fun _ => ?_) | refine zAp (fun _ => ?_))
      refine zIx (k) (hk') ?_
      repeat (first | refine gG ?_ | refine zN1 (fun hlen => ?_) | refine zN2 (fun hlen => ?_) | refine zAl (fun _ => ?_) | refine zBx (fun _ => ?_) | refine zAp (fun _ => ?_))
      refine zEl (hatm) (Fu.ts_len _) ?_
      repeat (first | refine gG ?_ | refine zN1 (fun hlen => ?_) | refine zN2 (fun hlen => ?_) | refine zAl (fun _ => ?_) | refine zBx (fun _ => ?_) | refine zAp (fun _ => ?_))
      refine zCall (t1) ?_
      rintro _ rfl
      repeat (first | refine gG ?_ | refine zN1 (fun hlen => ?_) | refine zN2 (fun hlen => ?_) | refine zAl (fun _ => ?_) | refine zBx (fun _ => ?_) | refine zAp (fun _ => ?_))
      refine zCall (t2) ?_
      rintro _ rfl
      repeat (first | refine gG ?_ | refine zN1 (fun hlen => ?_) | refine zN2 (fun hlen => ?_) | refine zAl (fun _ => ?_) | refine zBx (fun _ => ?_) | refine zAp (fun _ => ?_))
      first | refine zR ?_ | refine zQ ?_
      rfl
    rw [d2] at t2 he
    rw [Bool.or_false, cond_false] at he
    generalize Ex.sc E (.mk ek en et ens eys el ers ep) mns = ob at *
    have ct := told_af ob
    cases ob with
    | none =>
      dsimp only at he hcx
      repeat (first | refine gG ?_ | refine zN1 (fun hlen => ?_) | refine zN2 (fun hlen => ?_) | refine zAl (fun _ => ?_) | refine zBx (fun _ => ?_) | refine zAp (fun _ => ?_))
      refine zIx (k) (hk') ?_
      repeat (first | refine gG ?_ | refine zN1 (fun hlen => ?_) | refine zN2 (fun hlen => ?_) | refine zAl (fun _ => ?_) | refine zBx (fun _ => ?_) | refine zAp (fun _ => ?_))
      refine zEl (hatm) (Fu.ts_len _) ?_
      repeat (first | refine gG ?_ | refine zN1 (fun hlen => ?_) | refine zN2 (fun hlen => ?_) | refine zAl (fun _ => ?_) | refine zBx (fun _ => ?_) | refine zAp (fun _ => ?_))
      refine zCall (t1) ?_
      rintro _ rfl
      repeat (first | refine gG ?_ | refine zN1 (fun hlen => ?_) | refine zN2 (fun hlen => ?_) | refine zAl (fun _ => ?_) | refine zBx (fun _ => ?_) | refine zAp (fun _ => ?_))
      refine zCall (t2) ?_
      rintro _ rfl
      repeat (first | refine gG ?_ | refine zN1 (fun hlen => ?_) | refine zN2 (fun hlen => ?_) | refine zAl (fun _ => ?_) | refine zBx (fun _ => ?_) | refine zAp (fun _ => ?_))
      refine zCallG [0, 1, 2, 3] hcx ?_
      rintro _ _ ⟨z', rfl, rfl⟩
      refine ⟨_, _, re_refl, rfl, rfl, ?_⟩
      repeat (first | refine gG ?_ | refine zN1 (fun hlen => ?_) | refine zN2 (fun hlen => ?_) | refine zAl (fun _ => ?_) | refine zBx (fun _ => ?_) | refine zAp (fun _ => ?_))
      exact ⟨(k + 1, z'), ⟨hk', he⟩, by simp only; omega, x_wkd 4 ⟨rfl, trivial⟩ rfl (by repeat (first | exact ag_refl | refine ag_upd rfl ?_ | refine ag_at rfl rfl ?_))⟩
    | some x =>
      dsimp only at he hcx
      subst he
      repeat (first | refine gG ?_ | refine zN1 (fun hlen => ?_) | refine zN2 (fun hlen => ?_) | refine zAl (fun _ => ?_) | refine zBx (fun _ => ?_) | refine zAp (fun _ => ?_))
      refine zIx (k) (hk') ?_
      repeat (first | refine gG ?_ | refine zN1 (fun hlen => ?_) | refine zN2 (fun hlen => ?_) | refine zAl (fun _ => ?_) | refine zBx (fun _ => ?_) | refine zAp (fun _ => ?_))
      refine zEl (hatm) (Fu.ts_len _) ?_
      repeat (first | refine gG ?_ | refine zN1 (fun hlen => ?_) | refine zN2 (fun hlen => ?_) | refine zAl (fun _ => ?_) | refine zBx (fun _ => ?_) | refine zAp (fun _ => ?_))
      refine zCall (t1) ?_
      rintro _ rfl
      repeat (first | refine gG ?_ | refine zN1 (fun hlen => ?_) | refine zN2 (fun hlen => ?_) | refine zAl (fun _ => ?_) | refine zBx (fun _ => ?_) | refine zAp (fun _ => ?_))
      refine zCall (t2) ?_
      rintro _ rfl
      repeat (first | refine gG ?_ | refine zN1 (fun hlen => ?_) | refine zN2 (fun hlen => ?_) | refine zAl (fun _ => ?_) | refine zBx (fun _ => ?_) | refine zAp (fun _ => ?_))
      refine zCallG [0, 1, 2, 3] hcx ?_
      rintro _ _ ⟨z', rfl, rfl⟩
      refine ⟨_, _, re_refl, rfl, rfl, ?_⟩
      repeat (first | refine gG ?_ | refine zN1 (fun hlen => ?_) | refine zN2 (fun hlen => ?_) | refine zAl (fun _ => ?_) | refine zBx (fun _ => ?_) | refine zAp (fun _ => ?_))
      refine zCall (ct) ?_
      rintro _ rfl
      repeat (first | refine gG ?_ | refine zN1 (fun hlen => ?_) | refine zN2 (fun hlen => ?_) | refine zAl (fun _ => ?_) | refine zBx (fun _ => ?_) | refine zAp (fun _ => ?_))
      first | refine zR ?_ | refine zQ ?_
      rfl
  have hk' : k = FS.length := by have : ¬ k < FS.length := by simpa using h
                                 omega
  subst hk'
  rw [List.drop_length, firstS] at he
  subst he
  dsimp only
  clear h hk hfi
  repeat (first | refine gG ?_ | refine zN1 (fun hlen => ?_) | refine zN2 (fun hlen => ?_) | refine zAl (fun _ => ?_) | refine zBx (fun _ => ?_) | refine zAp (fun _ => ?_))
  refine x_loop [2, 3, 17, 18, 19, 96, 97, 98, 99, 100, 101, 102, 103, 104, 105, 106, 107, 108, 109, 110, 111, 112, 113, 114, 115, 116, 117, 118] (fun y : Nat × Option Nat => [(96, .c (.lit (.int .i64 (y.1 : Nat))))]) (fun y => rsB b1 b2 b3 br M1 M2 M3 y.2) (fun y => y.1 ≤ acs.length ∧ firstS (actR E) (acs.drop y.1) = S2) (fun y => acs.length - y.1) (0, z) ⟨Nat.zero_le _, hR3⟩ ⟨rfl, trivial⟩ rfl ?_
  clear hR3
  rintro ⟨k, z⟩ ⟨hk, he⟩
  dsimp only at hk he ⊢
  repeat (first | refine gG ?_ | refine zN1 (fun hlen => ?_) | refine zN2 (fun hlen => ?_) | refine zAl (fun _ => ?_) | refine zBx (fun _ => ?_) | refine zAp (fun _ => ?_))
  refine x_cond rfl (fun h => ?_) (fun h => ?_)
  · have hk' : k < acs.length := by simpa using h
    obtain ⟨m, hm⟩ := nth hk'
    have hatm := Ac.at hm
    have hml := hai m (List.mem_of_getElem? hm)
    rw [firstS_at hm, show actR E m = (bif twB m.names then some 0 else m.body.sc E m.names) from rfl] at he
    have t2 := twice_af m.names (by omega)
    have hcx := hx m.body m.names hml z
    obtain ⟨mn, mns, mts, ⟨ok, on, ol⟩, ⟨ek, en, et, ens, eys, el, ers, ep⟩⟩ := m
    dsimp only at he t2 hcx
    clear h hm hml hai hx
    cases d2 : twB mns
    rotate_left
    · rw [d2] at t2 he
      rw [cond_true] at he
      dsimp only at he
      subst he
      repeat (first | refine gG ?_ | refine zN1 (fun hlen => ?_) | refine zN2 (fun hlen => ?_) | refine zAl (fun _ => ?_) | refine zBx (fun _ => ?_) | refine zAp (fun _ => ?_))
      refine zIx (k) (hk') ?_
      repeat (first | refine gG ?_ | refine zN1 (fun hlen => ?_) | refine zN2 (fun hlen => ?_) | refine zAl (fun _ => ?_) | refine zBx (fun _ => ?_) | refine zAp (fun _ => ?_))
      refine zEl (hatm) (Ac.ts_len _) ?_
      repeat (first | refine gG ?_ | refine zN1 (fun hlen => ?_) | refine zN2 (fun hlen => ?_) | refine zAl (fun _ => ?_) | refine zBx (fun _ => ?_) | refine zAp (fun _ => ?_))
      refine zCall (t2) ?_
      rintro _ rfl
      repeat (first | refine gG ?_ | refine zN1 (fun hlen => ?_) | refine zN2 (fun hlen => ?_) | refine zAl (fun _ => ?_) | refine zBx (fun _ => ?_) | refine zAp (fun _ => ?_))
      first | refine zR ?_ | refine zQ ?_
      rfl
    rw [d2] at t2 he
    rw [cond_false] at he
    generalize Ex.sc E (.mk ek en et ens eys el ers ep) mns = ob at *
    have ct := told_af ob
    cases ob with
    | none =>
      dsimp only at he hcx
      repeat (first | refine gG ?_ | refine zN1 (fun hlen => ?_) | refine zN2 (fun hlen => ?_) | refine zAl (fun _ => ?_) | refine zBx (fun _ => ?_) | refine zAp (fun _ => ?_))
      refine zIx (k) (hk') ?_
      repeat (first | refine gG ?_ | refine zN1 (fun hlen => ?_) | refine zN2 (fun hlen => ?_) | refine zAl (fun _ => ?_) | refine zBx (fun _ => ?_) | refine zAp (fun _ => ?_))
      refine zEl (hatm) (Ac.ts_len _) ?_
      repeat (first | refine gG ?_ | refine zN1 (fun hlen => ?_) | refine zN2 (fun hlen => ?_) | refine zAl (fun _ => ?_) | refine zBx (fun _ => ?_) | refine zAp (fun _ => ?_))
      refine zCall (t2) ?_
      rintro _ rfl
      repeat (first | refine gG ?_ | refine zN1 (fun hlen => ?_) | refine zN2 (fun hlen => ?_) | refine zAl (fun _ => ?_) | refine zBx (fun _ => ?_) | refine zAp (fun _ => ?_))
      refine zCallG [0, 1, 2, 3] hcx ?_
      rintro _ _ ⟨z', rfl, rfl⟩
      refine ⟨_, _, re_refl, rfl, rfl, ?_⟩
      repeat (first | refine gG ?_ | refine zN1 (fun hlen => ?_) | refine zN2 (fun hlen => ?_) | refine zAl (fun _ => ?_) | refine zBx (fun _ => ?_) | refine zAp (fun _ => ?_))
      exact ⟨(k + 1, z'), ⟨hk', he⟩, by simp only; omega, x_wkd 4 ⟨rfl, trivial⟩ rfl (by repeat (first | exact ag_refl | refine ag_upd rfl ?_ | refine ag_at rfl rfl ?_))⟩
    | some x =>
      dsimp only at he hcx
      subst he
      repeat (first | refine gG ?_ | refine zN1 (fun hlen => ?_) | refine zN2 (fun hlen => ?_) | refine zAl (fun _ => ?_) | refine zBx (fun _ => ?_) | refine zAp (fun _ => ?_))
      refine zIx (k) (hk') ?_
      repeat (first | refine gG ?_ | refine zN1 (fun hlen => ?_) | refine zN2 (fun hlen => ?_) | refine zAl (fun _ => ?_) | refine zBx (fun _ => ?_) | refine zAp (fun _ => ?_))
      refine zEl (hatm) (Ac.ts_len _) ?_
      repeat (first | refine gG ?_ | refine zN1 (fun hlen => ?_) | refine zN2 (fun hlen => ?_) | refine zAl (fun _ => ?_) | refine zBx (fun _ => ?_) | refine zAp (fun _ => ?_))
      refine zCall (t2) ?_
      rintro _ rfl
      repeat (first | refine gG ?_ | refine zN1 (fun hlen => ?_) | refine zN2 (fun hlen => ?_) | refine zAl (fun _ => ?_) | refine zBx (fun _ => ?_) | refine zAp (fun _ => ?_))
      refine zCallG [0, 1, 2, 3] hcx ?_
      rintro _ _ ⟨z', rfl, rfl⟩
      refine ⟨_, _, re_refl, rfl, rfl, ?_⟩
      repeat (first | refine gG ?_ | refine zN1 (fun hlen => ?_) | refine zN2 (fun hlen => ?_) | refine zAl (fun _ => ?_) | refine zBx (fun _ => ?_) | refine zAp (fun _ => ?_))
      refine zCall (ct) ?_
      rintro _ rfl
      repeat (first | refine gG ?_ | refine zN1 (fun hlen => ?_) | refine zN2 (fun hlen => ?_) | refine zAl (fun _ => ?_) | refine zBx (fun _ => ?_) | refine zAp (fun _ => ?_))
      first | refine zR ?_ | refine zQ ?_
      rfl
  have hk' : k = acs.length := by have : ¬ k < acs.length := by simpa using h
                                  omega
  subst hk'
  rw [List.drop_length, firstS] at he
  subst he
  clear h hk hai
  repeat (first | refine gG ?_ | refine zN1 (fun hlen => ?_) | refine zN2 (fun hlen => ?_) | refine zAl (fun _ => ?_) | refine zBx (fun _ => ?_) | refine zAp (fun _ => ?_))
  first | refine zR ?_ | refine zQ ?_
  rfl
end Go.Proofs.Ytldhlbjengpdbaa
