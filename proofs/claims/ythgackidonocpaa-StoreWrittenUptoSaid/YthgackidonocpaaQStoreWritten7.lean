/-
  Texts of this proof, part 7: Tvf Twb TlwA Tsv Tsd.
-/
import Derived.Test.YthgackidonocpaaQStoreWritten6
import Derived.MapKept
namespace Go.Proofs.Ythgackidonocpaa
open Go.RowKit
def big400 (m : Nat) (x : Vd) : Bool := !decide ((400 : Int) < (m : Int)) && bigN x.1 x.2
theorem map_snoc2 {α β : Type} (f : α → β) {l : List α} {k : Nat} {a : α} (h : l[k]? = some a) : (l.take (k + 1)).map f = (l.take k).map f ++ [f a] := by
  obtain ⟨h1, rfl⟩ := List.getElem?_eq_some_iff.1 h
  rw [List.take_succ_eq_append_getElem h1, List.map_append]
  simp
theorem big400_eq (m : Nat) (k n : Int) (t : ByteArray) (l : List V) (d : Nat) : big400 m (.mk k n t l, d) = (!decide ((400 : Int) < (m : Int)) && (!decide ((40 : Int) < (d : Int)) && !decide ((4000 : Int) < (t.size : Int)))) := rfl
theorem big_all {v : V} {all : List Vd} (h : Lev v all all.length) : v.fitB 400 1 = all.all (big400 all.length) := by
  obtain ⟨h1, h2⟩ := h.done
  have h3 : 0 < all.length := by rw [h1]; obtain ⟨k, n, t, l⟩ := v; simp [V.size]
  unfold V.fitB
  rw [← h2 bigN, ← h1]
  by_cases h4 : all.length ≤ 400
  · rw [decide_eq_true h4, Bool.true_and]
    unfold big400
    rw [decide_eq_false (show ¬ (400 : Int) < (all.length : Int) by omega)]
    simp
  · rw [decide_eq_false h4, Bool.false_and]
    symm
    rw [List.all_eq_false]
    obtain ⟨x, hx⟩ := List.exists_mem_of_length_pos h3
    refine ⟨x, hx, ?_⟩
    unfold big400
    rw [decide_eq_true (show (400 : Int) < (all.length : Int) by omega)]
    simp
set_option maxRecDepth 100000 in
set_option maxHeartbeats 4000000 in
theorem valueFault_af (v : V) (hv : v.size ≤ 1048576) : AF Try.prog 18 [v.t] (· = .lit (.int .i64 v.check)) := by
  obtain ⟨k0, n0, t0, l0⟩ := v
  refine af_enter tok Try.func18 Try.ntmps18 Try.results18 rfl (by kernel_rfl) rfl rfl fun F hX => ?_
  repeat (first | refine gX ?_ | refine zN1 (fun hlen => ?_) | refine zN2 (fun hlen => ?_) | refine zAl (fun _ => ?_) | refine zBf ?_ | refine zAp (fun _ => ?_))
  refine zBo (fun u0 => ?_)
  repeat (first | refine gG ?_ | refine zN1 (fun hlen => ?_) | refine zN2 (fun hlen => ?_) | refine zAl (fun _ => ?_) | refine zBx (fun _ => ?_) | refine zAp (fun _ => ?_))
  refine x_loop [3, 4, 6, 18, 19, 20, 21, 22, 23, 24, 25, 26, 27, 28, 29, 30, 31, 32, 33, 34, 35, 36, 37, 38, 39, 40, 41, 42, 43, 44, 45, 46] (fun y : Nat × List Vd × Value => [(4, .c (.lit (.int .i64 (y.1 : Nat)))), (3, .own 0 y.2.2)]) (fun y => [.row y.2.2 141 5 y.2.1.length (y.2.1.flatMap atTs)])
    (fun y => Lev (.mk k0 n0 t0 l0) y.2.1 y.1) (fun y => (V.mk k0 n0 t0 l0).size - y.1) (0, [(.mk k0 n0 t0 l0, 1)], u0) (Lev.zero _) ⟨rfl, rfl, trivial⟩ rfl ?_
  rintro ⟨i, all, u⟩ hlev
  dsimp only at hlev ⊢
  have hll := hlev.len
  repeat (first | refine gG ?_ | refine zN1 (fun hlen => ?_) | refine zN2 (fun hlen => ?_) | refine zAl (fun _ => ?_) | refine zBx (fun _ => ?_) | refine zAp (fun _ => ?_))
  refine x_cond rfl (fun h => ?_) (fun h => ?_)
  · have hi' : i < all.length := by simpa using h
    obtain ⟨x, hx⟩ := nth hi'
    have hst := hlev.step hx
    have hsl := hst.len
    have hdp := hlev.deep x (List.mem_of_getElem? hx)
    obtain ⟨⟨ka, na, ta, la⟩, d⟩ := x
    simp only [List.length_append, kids, V.args, List.length_map] at hsl
    dsimp only at hdp
    have hrow : (all.flatMap atTs)[i * 5 + 0 + 3]? = some (.row la.length 4 (V.all la)) := (flat_get atTs 5 atTs_len hx (j := 3) (by omega)).trans rfl
    have hdv : (all.flatMap atTs)[i * 5 + 4]? = some (.lit (.int .i64 (d : Int))) := (flat_get atTs 5 atTs_len hx (j := 4) (by omega)).trans rfl
    have hfl := flat_len atTs 5 atTs_len all
    repeat (first | refine gG ?_ | refine zN1 (fun hlen => ?_) | refine zN2 (fun hlen => ?_) | refine zAl (fun _ => ?_) | refine zBx (fun _ => ?_) | refine zAp (fun _ => ?_))
    refine zIxo i hi' ?_
    repeat (first | refine gG ?_ | refine zN1 (fun hlen => ?_) | refine zN2 (fun hlen => ?_) | refine zAl (fun _ => ?_) | refine zBx (fun _ => ?_) | refine zAp (fun _ => ?_))
    refine zElo1 hrow ?_
    repeat (first | refine gG ?_ | refine zN1 (fun hlen => ?_) | refine zN2 (fun hlen => ?_) | refine zAl (fun _ => ?_) | refine zBx (fun _ => ?_) | refine zAp (fun _ => ?_))
    refine x_loop [3, 6, 31, 32, 33, 34, 35, 36, 37, 38, 39, 40, 41, 42, 43, 44, 45, 46] (fun y : Nat × Value => [(31, .c (.lit (.int .i64 (y.1 : Nat)))), (3, .own 0 y.2)]) (fun y => [.row y.2 141 5 (all.length + y.1) (all.flatMap atTs ++ ((la.take y.1).map fun a => (a, d + 1)).flatMap atTs)])
      (fun y => y.1 ≤ la.length) (fun y => la.length - y.1) (0, u) (Nat.zero_le _) ⟨rfl, rfl, trivial⟩ (by simp) ?_
    rintro ⟨j, w⟩ hj
    dsimp only at hj ⊢
    repeat (first | refine gG ?_ | refine zN1 (fun hlen => ?_) | refine zN2 (fun hlen => ?_) | refine zAl (fun _ => ?_) | refine zBx (fun _ => ?_) | refine zAp (fun _ => ?_))
    refine x_cond rfl (fun h => ?_) (fun h => ?_)
    · have hj' : j < la.length := by simpa using h
      obtain ⟨a, ha⟩ := nth hj'
      have hsn : ((la.take (j + 1)).map fun a => (a, d + 1)).flatMap atTs = ((la.take j).map fun a => (a, d + 1)).flatMap atTs ++ atTs (a, d + 1) := by
        rw [map_snoc2 _ ha, List.flatMap_append]; simp
      have hdv' : (all.flatMap atTs ++ ((la.take j).map fun a => (a, d + 1)).flatMap atTs)[i * 5 + 4]? = some (.lit (.int .i64 (d : Int))) := by rw [List.getElem?_append_left (by omega)]; exact hdv
      have hin : i < all.length + j := by omega
      repeat (first | refine gG ?_ | refine zN1 (fun hlen => ?_) | refine zN2 (fun hlen => ?_) | refine zAl (fun _ => ?_) | refine zBx (fun _ => ?_) | refine zAp (fun _ => ?_))
      refine zIx (j) (hj') ?_
      repeat (first | refine gG ?_ | refine zN1 (fun hlen => ?_) | refine zN2 (fun hlen => ?_) | refine zAl (fun _ => ?_) | refine zBx (fun _ => ?_) | refine zAp (fun _ => ?_))
      refine zEl (V.at ha) (V.ts_len a) ?_
      obtain ⟨kb', nb', tb', lb'⟩ := a
      repeat (first | refine gG ?_ | refine zN1 (fun hlen => ?_) | refine zN2 (fun hlen => ?_) | refine zAl (fun _ => ?_) | refine zBx (fun _ => ?_) | refine zAp (fun _ => ?_))
      refine ac_draw [1, 1, 1, 1, 1, 1, 1, 1, 1, 1, 2, 1] [0, 1, 2, 3, 4, 5, 6, 7, 8, 9, 10, 11] (by kernel_rfl) (by kernel_rfl) ?_
      refine gW ?_
      apply w_q; (focus exact rfl); (focus exact rfl); focus (intro _; (refine zIxo i hin ?_); exact det_refl)
      refine gW ?_
      apply w_q; (focus exact rfl); (focus exact rfl); focus (intro _; (refine zElo1 hdv' ?_); exact det_refl)
      refine gW ?_
      apply w_l; (focus exact rfl); (focus exact rfl); (first | (refine zkL ?_; first | refine zL1 ?_ | refine zL2 ?_ | refine zL3 ?_ | refine zLp ?_) | refine zM ?_ | (refine zkF ?_; first | refine zF1 ?_ | refine zF2 ?_ | refine zF3 ?_) | refine zA ?_ | (refine zkB ?_; first | refine zC5 ?_ | refine zC6 ?_ | refine zC1 ?_ | refine zC2 ?_ | refine zC3 ?_ | refine zC4 ?_ | refine zS5 ?_ | refine zS6 ?_ | refine zS1 ?_ | refine zS2 ?_ | refine zS3 ?_ | refine zS4 ?_ | refine zInc ?_ | refine zQ1 ?_ | refine zQ2 ?_ | refine zQ3 ?_ | refine zQ4 ?_ | refine zQ5 ?_ | refine zQ6 ?_) | (refine zkI ?_; first | refine zN1 (fun hlen => ?_) | refine zN2 (fun hlen => ?_) | refine zN3 ?_ | refine zN4 ?_ | refine zAp (fun _ => ?_)) | refine zS ?_ | refine zAl (fun _ => ?_) | refine zBx (fun _ => ?_) | refine zPt ?_ | refine zPf ?_ | refine zE ?_ | refine zEA ?_ | refine zNot ?_ | refine zBd ?_ | refine zBs ?_ | refine zFn ?_ | refine zK1 ?_ | refine zK2 ?_)
      refine gW ?_
      refine w_nil ?_
      repeat (first | refine gG ?_ | refine zN1 (fun hlen => ?_) | refine zN2 (fun hlen => ?_) | refine zAl (fun _ => ?_) | refine zBx (fun _ => ?_) | refine zAp (fun _ => ?_))
      exact ⟨(j + 1, _), hj', by simp only; omega, x_wkd 1 ⟨rfl, rfl, trivial⟩ (by simp only [hsn, ← List.append_assoc, ← Nat.add_assoc]; rfl) (by repeat (first | exact ag_refl | refine ag_upd rfl ?_ | refine ag_at rfl rfl ?_))⟩
    · have hj' : j = la.length := by have : ¬ j < la.length := by simpa using h
                                     omega
      subst hj'
      repeat (first | refine gG ?_ | refine zN1 (fun hlen => ?_) | refine zN2 (fun hlen => ?_) | refine zAl (fun _ => ?_) | refine zBx (fun _ => ?_) | refine zAp (fun _ => ?_))
      refine ⟨(i + 1, all ++ kids (.mk ka na ta la, d), w), hst, ?_, x_wkd 1 ⟨rfl, rfl, trivial⟩ (by simp only [kids, V.args, List.take_length, List.length_append, List.length_map, List.flatMap_append]; rfl) (by repeat (first | exact ag_refl | refine ag_upd rfl ?_ | refine ag_at rfl rfl ?_))⟩
      have h1 := hlev.size
      have h2 := vsz_len (all.drop i)
      rw [List.length_drop] at h2
      simp only
      omega
  · have hi' : i = all.length := by have := hlev.le
                                    have : ¬ i < all.length := by simpa using h
                                    omega
    subst hi'
    have hbig := big_all hlev
    have hdone := hlev.done
    repeat (first | refine gG ?_ | refine zN1 (fun hlen => ?_) | refine zN2 (fun hlen => ?_) | refine zAl (fun _ => ?_) | refine zBx (fun _ => ?_) | refine zAp (fun _ => ?_))
    refine x_loop [2, 8, 49, 50, 51, 52, 53, 54, 55, 56, 57, 58, 59, 60, 61, 62, 63, 64, 65, 66, 67, 68] (fun y : Nat => [(49, .c (.lit (.int .i64 (y : Nat))))]) (fun _ => [.row u 141 5 all.length (all.flatMap atTs)])
      (fun y => y ≤ all.length ∧ (all.take y).all (big400 all.length) = true) (fun y => all.length - y) 0 ⟨Nat.zero_le _, by simp⟩ ⟨rfl, trivial⟩ rfl ?_
    rintro j ⟨hj, hja⟩
    repeat (first | refine gG ?_ | refine zN1 (fun hlen => ?_) | refine zN2 (fun hlen => ?_) | refine zAl (fun _ => ?_) | refine zBx (fun _ => ?_) | refine zAp (fun _ => ?_))
    refine x_cond rfl (fun h => ?_) (fun h => ?_)
    · have hj' : j < all.length := by simpa using h
      obtain ⟨x, hx⟩ := nth hj'
      have hsa := all_snoc (big400 all.length) hx
      obtain ⟨⟨ka, na, ta, la⟩, d⟩ := x
      have hno : big400 all.length (.mk ka na ta la, d) = false → (V.mk k0 n0 t0 l0).check = 2 := fun hb => by
        rw [V.check, hbig, all_no _ hx hb]; rfl
      repeat (first | refine gG ?_ | refine zN1 (fun hlen => ?_) | refine zN2 (fun hlen => ?_) | refine zAl (fun _ => ?_) | refine zBx (fun _ => ?_) | refine zAp (fun _ => ?_))
      refine zIxo j hj' ?_
      repeat (first | refine gG ?_ | refine zN1 (fun hlen => ?_) | refine zN2 (fun hlen => ?_) | refine zAl (fun _ => ?_) | refine zBx (fun _ => ?_) | refine zAp (fun _ => ?_))
      refine zElo (flat_at atTs 5 atTs_len hx) (atTs_len _) ?_
      cases d1 : decide ((400 : Int) < (all.length : Int))
      · cases d2 : decide ((40 : Int) < (d : Int))
        · cases d3 : decide ((4000 : Int) < (ta.size : Int))
          · repeat (first | refine gG ?_ | refine zN1 (fun hlen => ?_) | refine zN2 (fun hlen => ?_) | refine zAl (fun _ => ?_) | refine zBx (fun _ => ?_) | refine zAp (fun _ => ?_))
            exact ⟨j + 1, ⟨hj', by rw [hsa, hja, big400_eq, d1, d2, d3]; rfl⟩, by omega, x_wkd 1 ⟨rfl, trivial⟩ rfl (by repeat (first | exact ag_refl | refine ag_upd rfl ?_ | refine ag_at rfl rfl ?_))⟩
          · repeat (first | refine gG ?_ | refine zN1 (fun hlen => ?_) | refine zN2 (fun hlen => ?_) | refine zAl (fun _ => ?_) | refine zBx (fun _ => ?_) | refine zAp (fun _ => ?_))
            first | refine zR ?_ | refine zQ ?_
            rw [hno (by rw [big400_eq, d1, d2, d3]; rfl)]; rfl
        · repeat (first | refine gG ?_ | refine zN1 (fun hlen => ?_) | refine zN2 (fun hlen => ?_) | refine zAl (fun _ => ?_) | refine zBx (fun _ => ?_) | refine zAp (fun _ => ?_))
          first | refine zR ?_ | refine zQ ?_
          rw [hno (by rw [big400_eq, d1, d2]; rfl)]; rfl
      · repeat (first | refine gG ?_ | refine zN1 (fun hlen => ?_) | refine zN2 (fun hlen => ?_) | refine zAl (fun _ => ?_) | refine zBx (fun _ => ?_) | refine zAp (fun _ => ?_))
        first | refine zR ?_ | refine zQ ?_
        rw [hno (by rw [big400_eq, d1]; rfl)]; rfl
    · have hj' : j = all.length := by have : ¬ j < all.length := by simpa using h
                                      omega
      subst hj'
      rw [List.take_length] at hja
      rw [hja] at hbig
      have h400 : all.length ≤ 400 := by
        have := hbig
        simp only [V.fitB, Bool.and_eq_true, decide_eq_true_eq] at this
        omega
      repeat (first | refine gG ?_ | refine zN1 (fun hlen => ?_) | refine zN2 (fun hlen => ?_) | refine zAl (fun _ => ?_) | refine zBx (fun _ => ?_) | refine zAp (fun _ => ?_))
      refine x_loop [2, 10, 11, 12, 13, 14, 71, 72, 73, 74, 75, 76, 77, 78, 79, 80, 81, 82, 83, 84, 85, 86, 87, 88, 89, 90, 91, 92, 93, 94, 95, 96, 97, 98, 99, 100, 101, 102, 103, 104, 105, 106, 107, 108, 109, 110, 111, 112, 113, 114, 115, 116, 117, 118, 119, 120, 121, 122, 123, 124, 125, 126, 127, 128, 129, 130, 131, 132, 133] (fun y : Nat => [(71, .c (.lit (.int .i64 (y : Nat))))]) (fun _ => [.row u 141 5 all.length (all.flatMap atTs)])
        (fun y => y ≤ all.length ∧ (all.take y).all (fun x => formP x.1 x.2) = true) (fun y => all.length - y) 0 ⟨Nat.zero_le _, by simp⟩ ⟨rfl, trivial⟩ rfl ?_
      rintro j ⟨hj, hjf⟩
      repeat (first | refine gG ?_ | refine zN1 (fun hlen => ?_) | refine zN2 (fun hlen => ?_) | refine zAl (fun _ => ?_) | refine zBx (fun _ => ?_) | refine zAp (fun _ => ?_))
      refine x_cond rfl (fun h => ?_) (fun h => ?_)
      · have hj' : j < all.length := by simpa using h
        obtain ⟨x, hx⟩ := nth hj'
        have hsa := all_snoc (fun x => formP x.1 x.2) hx
        have hsub := hlev.sub x (List.mem_of_getElem? hx)
        obtain ⟨⟨ka, na, ta, la⟩, d⟩ := x
        have hla : la.length ≤ 400 := by
          have h1 := V.len_sizes la
          simp only [V.size] at hsub hdone
          omega
        have hno : formN (.mk ka na ta la) = false → (V.mk k0 n0 t0 l0).check = 3 := fun hb => by
          rw [V.check, hbig, ← hdone.2 formP, all_no _ hx hb]; rfl
        repeat (first | refine gG ?_ | refine zN1 (fun hlen => ?_) | refine zN2 (fun hlen => ?_) | refine zAl (fun _ => ?_) | refine zBx (fun _ => ?_) | refine zAp (fun _ => ?_))
        refine zIxo j hj' ?_
        repeat (first | refine gG ?_ | refine zN1 (fun hlen => ?_) | refine zN2 (fun hlen => ?_) | refine zAl (fun _ => ?_) | refine zBx (fun _ => ?_) | refine zAp (fun _ => ?_))
        refine zElo (flat_at atTs 5 atTs_len hx) (atTs_len _) ?_
        repeat (first | refine gO ?_ | refine zN1 (fun hlen => ?_) | refine zN2 (fun hlen => ?_) | refine zAl (fun _ => ?_) | refine zBx (fun _ => ?_) | refine zAp (fun _ => ?_))
        rename_i b4
        refine ac_seq ?_
        refine ac_region ?_
        repeat (first | refine gO ?_ | refine zN1 (fun hlen => ?_) | refine zN2 (fun hlen => ?_) | refine zAl (fun _ => ?_) | refine zBx (fun _ => ?_) | refine zAp (fun _ => ?_))
        refine ac_seq ?_
        refine x_join [75, 76, 77, 78, 79, 80, 81, 82, 83, 84, 85, 86, 87, 88, 89, 90, 91, 92, 93, 94, 95, 96, 97, 98, 99, 100, 2, 11, 12] (fun y : {y : ByteArray × Int // okB na ta la.length y.1 y.2 = formN (.mk ka na ta la) ∧ y.1.size ≤ 2} => [(11, .c (.lit (.string y.1.1))), (12, .c (.lit (.int .i64 y.1.2)))])
          (fun _ => [.row u 141 5 all.length (all.flatMap atTs), .box b4 141 [.c (.lit (.int .i64 ka)), .c (.lit (.int .i64 na)), .c (.lit (.string ta)), .c (.row la.length 4 (V.all la)), .c (.lit (.int .i64 (d : Int)))]]) ?_ ?_
        rotate_left
        · skip
          cases e1 : decide (ka = 1)
          · skip
            cases e2 : decide (ka = 2)
            · skip
              cases e6 : decide (ka = 6)
              · skip
                cases e3 : decide (ka = 3)
                · skip
                  cases e4 : decide (ka = 4)
                  · skip
                    cases e5 : decide (ka = 5)
                    · skip
                      cases e7 : decide (ka = 7)
                      · skip
                        cases e8 : decide (ka = 8)
                        · skip
                          repeat (first | refine gG ?_ | refine zN1 (fun hlen => ?_) | refine zN2 (fun hlen => ?_) | refine zAl (fun _ => ?_) | refine zBx (fun _ => ?_) | refine zAp (fun _ => ?_))
                          first | refine zR ?_ | refine zQ ?_
                          rw [hno (by simp_all [formN])]; rfl
                        · obtain rfl := of_decide_eq_true e8
                          repeat (first | refine gG ?_ | refine zN1 (fun hlen => ?_) | refine zN2 (fun hlen => ?_) | refine zAl (fun _ => ?_) | refine zBx (fun _ => ?_) | refine zAp (fun _ => ?_))
                          exact ⟨⟨(⟨#[]⟩, 1), ok8 _ _ _, by decide⟩, x_wkd 2 ⟨rfl, rfl, trivial⟩ rfl (by repeat (first | exact ag_refl | refine ag_upd rfl ?_ | refine ag_at rfl rfl ?_))⟩
                      · obtain rfl := of_decide_eq_true e7
                        repeat (first | refine gG ?_ | refine zN1 (fun hlen => ?_) | refine zN2 (fun hlen => ?_) | refine zAl (fun _ => ?_) | refine zBx (fun _ => ?_) | refine zAp (fun _ => ?_))
                        exact ⟨⟨(⟨#[110, 116]⟩, 400), ok7 _ _ _ hla, by decide⟩, x_wkd 2 ⟨rfl, rfl, trivial⟩ rfl (by repeat (first | exact ag_refl | refine ag_upd rfl ?_ | refine ag_at rfl rfl ?_))⟩
                    · obtain rfl := of_decide_eq_true e5
                      cases e : decide (ta = ⟨#[]⟩)
                      · repeat (first | refine gG ?_ | refine zN1 (fun hlen => ?_) | refine zN2 (fun hlen => ?_) | refine zAl (fun _ => ?_) | refine zBx (fun _ => ?_) | refine zAp (fun _ => ?_))
                        exact ⟨⟨(⟨#[116]⟩, 400), ok5 _ _ _ hla e, by decide⟩, x_wkd 2 ⟨rfl, rfl, trivial⟩ rfl (by repeat (first | exact ag_refl | refine ag_upd rfl ?_ | refine ag_at rfl rfl ?_))⟩
                      · repeat (first | refine gG ?_ | refine zN1 (fun hlen => ?_) | refine zN2 (fun hlen => ?_) | refine zAl (fun _ => ?_) | refine zBx (fun _ => ?_) | refine zAp (fun _ => ?_))
                        first | refine zR ?_ | refine zQ ?_
                        rw [hno (by simp [formN, e])]; rfl
                  · obtain rfl := of_decide_eq_true e4
                    repeat (first | refine gG ?_ | refine zN1 (fun hlen => ?_) | refine zN2 (fun hlen => ?_) | refine zAl (fun _ => ?_) | refine zBx (fun _ => ?_) | refine zAp (fun _ => ?_))
                    exact ⟨⟨(⟨#[116]⟩, 0), ok4 _ _ _, by decide⟩, x_wkd 2 ⟨rfl, rfl, trivial⟩ rfl (by repeat (first | exact ag_refl | refine ag_upd rfl ?_ | refine ag_at rfl rfl ?_))⟩
                · obtain rfl := of_decide_eq_true e3
                  cases e : decide (na = 1)
                  · repeat (first | refine gG ?_ | refine zN1 (fun hlen => ?_) | refine zN2 (fun hlen => ?_) | refine zAl (fun _ => ?_) | refine zBx (fun _ => ?_) | refine zAp (fun _ => ?_))
                    exact ⟨⟨(⟨#[]⟩, 0), ok3 _ _ _ e, by decide⟩, x_wkd 2 ⟨rfl, rfl, trivial⟩ rfl (by repeat (first | exact ag_refl | refine ag_upd rfl ?_ | refine ag_at rfl rfl ?_))⟩
                  · repeat (first | refine gG ?_ | refine zN1 (fun hlen => ?_) | refine zN2 (fun hlen => ?_) | refine zAl (fun _ => ?_) | refine zBx (fun _ => ?_) | refine zAp (fun _ => ?_))
                    exact ⟨⟨(⟨#[110]⟩, 0), ok3' _ _ _ e, by decide⟩, x_wkd 2 ⟨rfl, rfl, trivial⟩ rfl (by repeat (first | exact ag_refl | refine ag_upd rfl ?_ | refine ag_at rfl rfl ?_))⟩
              · obtain rfl := of_decide_eq_true e6
                repeat (first | refine gG ?_ | refine zN1 (fun hlen => ?_) | refine zN2 (fun hlen => ?_) | refine zAl (fun _ => ?_) | refine zBx (fun _ => ?_) | refine zAp (fun _ => ?_))
                exact ⟨⟨(⟨#[110]⟩, 0), ok6 _ _ _, by decide⟩, x_wkd 2 ⟨rfl, rfl, trivial⟩ rfl (by repeat (first | exact ag_refl | refine ag_upd rfl ?_ | refine ag_at rfl rfl ?_))⟩
            · obtain rfl := of_decide_eq_true e2
              repeat (first | refine gG ?_ | refine zN1 (fun hlen => ?_) | refine zN2 (fun hlen => ?_) | refine zAl (fun _ => ?_) | refine zBx (fun _ => ?_) | refine zAp (fun _ => ?_))
              exact ⟨⟨(⟨#[110]⟩, 0), ok2 _ _ _, by decide⟩, x_wkd 2 ⟨rfl, rfl, trivial⟩ rfl (by repeat (first | exact ag_refl | refine ag_upd rfl ?_ | refine ag_at rfl rfl ?_))⟩
          · obtain rfl := of_decide_eq_true e1
            repeat (first | refine gG ?_ | refine zN1 (fun hlen => ?_) | refine zN2 (fun hlen => ?_) | refine zAl (fun _ => ?_) | refine zBx (fun _ => ?_) | refine zAp (fun _ => ?_))
            exact ⟨⟨(⟨#[]⟩, 0), ok1 _ _ _, by decide⟩, x_wkd 2 ⟨rfl, rfl, trivial⟩ rfl (by repeat (first | exact ag_refl | refine ag_upd rfl ?_ | refine ag_at rfl rfl ?_))⟩
        rintro ⟨⟨has, most⟩, hy, hsz⟩
        dsimp only at hy hsz ⊢
        have hc1 := containsB_af 110 has.data.toList
        have hc2 := containsB_af 116 has.data.toList
        repeat (first | refine gG ?_ | refine zN1 (fun hlen => ?_) | refine zN2 (fun hlen => ?_) | refine zAl (fun _ => ?_) | refine zBx (fun _ => ?_) | refine zAp (fun _ => ?_))
        refine zByt (s := has) (by simp only [maxLen]; omega) ?_
        repeat (first | refine gG ?_ | refine zN1 (fun hlen => ?_) | refine zN2 (fun hlen => ?_) | refine zAl (fun _ => ?_) | refine zBx (fun _ => ?_) | refine zAp (fun _ => ?_))
        refine zCall (hc1) ?_
        rintro _ rfl
        repeat (first | refine gG ?_ | refine zN1 (fun hlen => ?_) | refine zN2 (fun hlen => ?_) | refine zAl (fun _ => ?_) | refine zBx (fun _ => ?_) | refine zAp (fun _ => ?_))
        refine zByt (s := has) (by simp only [maxLen]; omega) ?_
        repeat (first | refine gG ?_ | refine zN1 (fun hlen => ?_) | refine zN2 (fun hlen => ?_) | refine zAl (fun _ => ?_) | refine zBx (fun _ => ?_) | refine zAp (fun _ => ?_))
        refine zCall (hc2) ?_
        rintro _ rfl
        cases e1 : decide (na = 0)
        · cases c1 : (has.data.toList.any fun b => decide ((110 : UInt8) = b))
          · skip
            repeat (first | refine gG ?_ | refine zN1 (fun hlen => ?_) | refine zN2 (fun hlen => ?_) | refine zAl (fun _ => ?_) | refine zBx (fun _ => ?_) | refine zAp (fun _ => ?_))
            first | refine zR ?_ | refine zQ ?_
            rw [hno (by rw [← hy]; simp only [okB, e1, c1]; first | rfl | simp)]; rfl
          · skip
            cases e2 : decide (ta = ⟨#[]⟩)
            · cases c2 : (has.data.toList.any fun b => decide ((116 : UInt8) = b))
              · skip
                repeat (first | refine gG ?_ | refine zN1 (fun hlen => ?_) | refine zN2 (fun hlen => ?_) | refine zAl (fun _ => ?_) | refine zBx (fun _ => ?_) | refine zAp (fun _ => ?_))
                first | refine zR ?_ | refine zQ ?_
                rw [hno (by rw [← hy]; simp only [okB, e1, c1, e2, c2]; first | rfl | simp)]; rfl
              · skip
                cases em : decide (most < (la.length : Int))
                · repeat (first | refine gG ?_ | refine zN1 (fun hlen => ?_) | refine zN2 (fun hlen => ?_) | refine zAl (fun _ => ?_) | refine zBx (fun _ => ?_) | refine zAp (fun _ => ?_))
                  exact ⟨j + 1, ⟨hj', by rw [hsa, hjf]; simp only [formP]; rw [← hy]; simp only [okB, e1, c1, e2, c2, em]; first | rfl | simp⟩, by omega, x_wkd 1 ⟨rfl, trivial⟩ rfl (by repeat (first | exact ag_refl | refine ag_upd rfl ?_ | refine ag_at rfl rfl ?_))⟩
                · skip
                  repeat (first | refine gG ?_ | refine zN1 (fun hlen => ?_) | refine zN2 (fun hlen => ?_) | refine zAl (fun _ => ?_) | refine zBx (fun _ => ?_) | refine zAp (fun _ => ?_))
                  first | refine zR ?_ | refine zQ ?_
                  rw [hno (by rw [← hy]; simp only [okB, e1, c1, e2, c2, em]; first | rfl | simp)]; rfl
            · skip
              cases em : decide (most < (la.length : Int))
              · repeat (first | refine gG ?_ | refine zN1 (fun hlen => ?_) | refine zN2 (fun hlen => ?_) | refine zAl (fun _ => ?_) | refine zBx (fun _ => ?_) | refine zAp (fun _ => ?_))
                exact ⟨j + 1, ⟨hj', by rw [hsa, hjf]; simp only [formP]; rw [← hy]; simp only [okB, e1, c1, e2, em]; first | rfl | simp⟩, by omega, x_wkd 1 ⟨rfl, trivial⟩ rfl (by repeat (first | exact ag_refl | refine ag_upd rfl ?_ | refine ag_at rfl rfl ?_))⟩
              · skip
                repeat (first | refine gG ?_ | refine zN1 (fun hlen => ?_) | refine zN2 (fun hlen => ?_) | refine zAl (fun _ => ?_) | refine zBx (fun _ => ?_) | refine zAp (fun _ => ?_))
                first | refine zR ?_ | refine zQ ?_
                rw [hno (by rw [← hy]; simp only [okB, e1, c1, e2, em]; first | rfl | simp)]; rfl
        · skip
          cases e2 : decide (ta = ⟨#[]⟩)
          · cases c2 : (has.data.toList.any fun b => decide ((116 : UInt8) = b))
            · skip
              repeat (first | refine gG ?_ | refine zN1 (fun hlen => ?_) | refine zN2 (fun hlen => ?_) | refine zAl (fun _ => ?_) | refine zBx (fun _ => ?_) | refine zAp (fun _ => ?_))
              first | refine zR ?_ | refine zQ ?_
              rw [hno (by rw [← hy]; simp only [okB, e1, e2, c2]; first | rfl | simp)]; rfl
            · skip
              cases em : decide (most < (la.length : Int))
              · repeat (first | refine gG ?_ | refine zN1 (fun hlen => ?_) | refine zN2 (fun hlen => ?_) | refine zAl (fun _ => ?_) | refine zBx (fun _ => ?_) | refine zAp (fun _ => ?_))
                exact ⟨j + 1, ⟨hj', by rw [hsa, hjf]; simp only [formP]; rw [← hy]; simp only [okB, e1, e2, c2, em]; first | rfl | simp⟩, by omega, x_wkd 1 ⟨rfl, trivial⟩ rfl (by repeat (first | exact ag_refl | refine ag_upd rfl ?_ | refine ag_at rfl rfl ?_))⟩
              · skip
                repeat (first | refine gG ?_ | refine zN1 (fun hlen => ?_) | refine zN2 (fun hlen => ?_) | refine zAl (fun _ => ?_) | refine zBx (fun _ => ?_) | refine zAp (fun _ => ?_))
                first | refine zR ?_ | refine zQ ?_
                rw [hno (by rw [← hy]; simp only [okB, e1, e2, c2, em]; first | rfl | simp)]; rfl
          · skip
            cases em : decide (most < (la.length : Int))
            · repeat (first | refine gG ?_ | refine zN1 (fun hlen => ?_) | refine zN2 (fun hlen => ?_) | refine zAl (fun _ => ?_) | refine zBx (fun _ => ?_) | refine zAp (fun _ => ?_))
              exact ⟨j + 1, ⟨hj', by rw [hsa, hjf]; simp only [formP]; rw [← hy]; simp only [okB, e1, e2, em]; first | rfl | simp⟩, by omega, x_wkd 1 ⟨rfl, trivial⟩ rfl (by repeat (first | exact ag_refl | refine ag_upd rfl ?_ | refine ag_at rfl rfl ?_))⟩
            · skip
              repeat (first | refine gG ?_ | refine zN1 (fun hlen => ?_) | refine zN2 (fun hlen => ?_) | refine zAl (fun _ => ?_) | refine zBx (fun _ => ?_) | refine zAp (fun _ => ?_))
              first | refine zR ?_ | refine zQ ?_
              rw [hno (by rw [← hy]; simp only [okB, e1, e2, em]; first | rfl | simp)]; rfl
      · have hj' : j = all.length := by have : ¬ j < all.length := by simpa using h
                                        omega
        subst hj'
        rw [List.take_length] at hjf
        repeat (first | refine gG ?_ | refine zN1 (fun hlen => ?_) | refine zN2 (fun hlen => ?_) | refine zAl (fun _ => ?_) | refine zBx (fun _ => ?_) | refine zAp (fun _ => ?_))
        first | refine zR ?_ | refine zQ ?_
        rw [V.check, hbig, ← hdone.2 formP, hjf]; rfl
end Go.Proofs.Ythgackidonocpaa
namespace Go.Proofs.Ythgackidonocpaa
open Go.RowKit
/-- the bytes of a value and the error -/
def V.out (v : V) : List UInt8 := if v.check = 0 then v.bytes else []
def Outs2 (b : List UInt8) (e : Int) (t : T) : Prop := t = .tup [bytRow b, .lit (.int .i64 e)]
set_option maxRecDepth 100000 in
set_option maxHeartbeats 2000000 in
theorem sameBytes_af (a b : List UInt8) : AF Try.prog 19 [bytRow a, bytRow b] (· = .lit (.bool (decide (bs a = bs b)))) := by
  refine af_enter tok Try.func19 Try.ntmps19 Try.results19 rfl (by kernel_rfl) rfl rfl fun F hX => ?_
  repeat (first | refine gG ?_)
  refine zStr a rfl rfl ?_
  repeat (first | refine gG ?_)
  refine zStr b rfl rfl ?_
  repeat (first | refine gG ?_)
  first | refine zR ?_ | refine zQ ?_
  rfl
end Go.Proofs.Ythgackidonocpaa
namespace Go.Proofs.Ythgackidonocpaa
open Go.RowKit
inductive Lt where
  | mk (k fm tt n : Int) (t : ByteArray) (v : V)
def Lt.val : Lt → V
  | .mk _ _ _ _ _ v => v
def Lt.ts : Lt → List T
  | .mk k fm tt n t v => [.lit (.int .i64 k), .lit (.int .i64 fm), .lit (.int .i64 tt), .lit (.int .i64 n), .lit (.string t)] ++ v.ts
def Lt.t (x : Lt) : T := .agg x.ts
theorem Lt.ts_len (x : Lt) : x.ts.length = 9 := by obtain ⟨k, fm, tt, n, t, v⟩ := x; simp [Lt.ts, V.ts_len]
def V.isZ : V → Bool
  | .mk k n t l => decide (k = 0) && decide (n = 0) && decide (t = ⟨#[]⟩) && decide ((l.length : Int) = 0)
def Lt.bad1 (k fm tt n : Int) (t : ByteArray) : Bool := decide (fm < 0) || decide (tt < 0) || decide (k < 1) || decide ((5 : Int) < k) || ((!decide (t = ⟨#[]⟩)) && !(decide (k = 2) || decide (k = 5))) || ((!decide (n = 0)) && !decide (k = 2)) || decide (n < 0) || decide ((2 : Int) < n)
def Lt.check : Lt → Int
  | .mk k fm tt n t v => if decide ((4000 : Int) < (t.size : Int)) = true then 2 else if Lt.bad1 k fm tt n t = true then 3 else if decide (k = 1) = true then v.check else if (!v.isZ) = true then 3 else 0
def Lt.fault : Lt → Int
  | .mk k fm tt n t v => if decide ((4000 : Int) < (t.size : Int)) = true then 2 else if (decide (fm < 0) || decide (tt < 0) || decide (k < 1) || decide ((5 : Int) < k)) = true then 3 else if ((!decide (k = 2) && !decide (n = 0)) || decide (n < 0) || decide ((2 : Int) < n)) = true then 3 else if (!decide (k = 2) && !decide (k = 5) && !decide (t = ⟨#[]⟩)) = true then 3 else if decide (k = 1) = true then v.check else if (!v.isZ) = true then 3 else 0
theorem bool_fault (qA q1 q2 q3 q4 q5 q6 q7 : Bool) (X : Int) : (if qA = true then 2 else if q1 = true then 3 else if ((!q2 && !q4) || q5 || q6) = true then 3 else if (!q2 && !q3 && !q7) = true then 3 else X) = (if qA = true then 2 else if (q1 || ((!q7) && !(q2 || q3)) || ((!q4) && !q2) || q5 || q6) = true then 3 else X) := by
  cases qA <;> cases q1 <;> cases q2 <;> cases q3 <;> cases q4 <;> cases q5 <;> cases q6 <;> cases q7 <;> rfl
theorem Lt.fault_eq (x : Lt) : x.fault = x.check := by
  obtain ⟨k, fm, tt, n, t, v⟩ := x
  unfold Lt.fault Lt.check Lt.bad1
  exact bool_fault _ _ _ _ _ _ _ _ _
def Lt.bytes : Lt → List UInt8
  | .mk k fm tt n t v => kb k :: (uv fm.toNat ++ (uv tt.toNat ++ (uv n.toNat ++ (uv t.size ++ (t.data.toList ++ (if k = 1 then v.bytes else []))))))
/-- of a letter that is right -/
structure Lt.Right (k fm tt n : Int) (t : ByteArray) (v : V) : Prop where
  size : t.size ≤ 4000
  fm0 : 0 ≤ fm
  tt0 : 0 ≤ tt
  k1 : 1 ≤ k ∧ k ≤ 5
  n0 : 0 ≤ n ∧ n ≤ 2
  val : k = 1 → v.check = 0
  zero : k ≠ 1 → v = V.zero
theorem isZ_zero {v : V} (h : v.isZ = true) : v = V.zero := by
  obtain ⟨k, n, t, l⟩ := v
  simp only [V.isZ, Bool.and_eq_true, decide_eq_true_eq] at h
  obtain ⟨⟨⟨rfl, rfl⟩, rfl⟩, h4⟩ := h
  have : l = [] := List.eq_nil_of_length_eq_zero (by omega)
  subst this
  rfl
theorem Lt.right {k fm tt n : Int} {t : ByteArray} {v : V} (h : (Lt.mk k fm tt n t v).check = 0) : Lt.Right k fm tt n t v := by
  simp only [Lt.check] at h
  split at h
  · omega
  · rename_i h1
    split at h
    · omega
    · rename_i h2
      simp only [decide_eq_true_eq] at h1
      simp only [Lt.bad1, Bool.or_eq_true, not_or, decide_eq_true_eq] at h2
      obtain ⟨⟨⟨⟨⟨⟨⟨a1, a2⟩, a3⟩, a4⟩, -⟩, -⟩, a5⟩, a6⟩ := h2
      refine ⟨by omega, by omega, by omega, by omega, by omega, fun hk => ?_, fun hk => ?_⟩
      · rw [if_pos (by simpa using hk)] at h; exact h
      · rw [if_neg (by simpa using hk)] at h
        split at h
        · omega
        · rename_i h3
          exact isZ_zero (by simpa using h3)
def Lt.out (x : Lt) : List UInt8 := if x.check = 0 then x.bytes else []
def Lt.zero : Lt := .mk 0 0 0 0 ⟨#[]⟩ V.zero
/-- what was taken is small -/
structure Lt.Small (x : Lt) : Prop where
  ok : x.val.ok
  size : x.val.size ≤ 1048576
  bytes : x.val.bytes.length ≤ 1000000000
  nums : match x with | .mk _ fm tt n t _ => inI fm ∧ inI tt ∧ inI n ∧ t.size ≤ 1000000000
end Go.Proofs.Ythgackidonocpaa
namespace Go.Proofs.Ythgackidonocpaa
open Go.RowKit
set_option maxRecDepth 100000 in
set_option maxHeartbeats 8000000 in
theorem isZero_af (v : V) : AF Try.prog 89 [v.t] (· = .lit (.bool v.isZ)) := by
  obtain ⟨k, n, t, l⟩ := v
  refine af_enter tok Try.func89 Try.ntmps89 Try.results89 rfl (by kernel_rfl) rfl rfl fun F hX => ?_
  cases d1 : decide (k = 0)
  · repeat (first | refine gG ?_ | refine zN1 (fun hlen => ?_) | refine zN2 (fun hlen => ?_) | refine zBf ?_)
    first | refine zR ?_ | refine zQ ?_
    simp only [V.isZ, d1]; rfl
  cases d2 : decide (n = 0)
  · repeat (first | refine gG ?_ | refine zN1 (fun hlen => ?_) | refine zN2 (fun hlen => ?_) | refine zBf ?_)
    first | refine zR ?_ | refine zQ ?_
    simp only [V.isZ, d1, d2]; rfl
  cases d3 : decide (t = ⟨#[]⟩)
  · repeat (first | refine gG ?_ | refine zN1 (fun hlen => ?_) | refine zN2 (fun hlen => ?_) | refine zBf ?_)
    first | refine zR ?_ | refine zQ ?_
    simp only [V.isZ, d1, d2, d3]; rfl
  repeat (first | refine gG ?_ | refine zN1 (fun hlen => ?_) | refine zN2 (fun hlen => ?_) | refine zBf ?_)
  first | refine zR ?_ | refine zQ ?_
  simp only [V.isZ, d1, d2, d3]; rfl
set_option maxRecDepth 100000 in
set_option maxHeartbeats 8000000 in
theorem none_af (v : V) : AF Try.prog 90 [v.t] (· = .lit (.bool v.isZ)) := by
  obtain ⟨k, n, t, l⟩ := v
  refine af_enter tok Try.func90 Try.ntmps90 Try.results90 rfl (by kernel_rfl) rfl rfl fun F hX => ?_
  cases d1 : decide (k = 0)
  · repeat (first | refine gG ?_ | refine zN1 (fun hlen => ?_) | refine zN2 (fun hlen => ?_) | refine zBf ?_)
    first | refine zR ?_ | refine zQ ?_
    simp only [V.isZ, d1]; rfl
  cases d2 : decide (n = 0)
  · repeat (first | refine gG ?_ | refine zN1 (fun hlen => ?_) | refine zN2 (fun hlen => ?_) | refine zBf ?_)
    first | refine zR ?_ | refine zQ ?_
    simp only [V.isZ, d1, d2]; rfl
  cases d3 : decide (t = ⟨#[]⟩)
  · repeat (first | refine gG ?_ | refine zN1 (fun hlen => ?_) | refine zN2 (fun hlen => ?_) | refine zBf ?_)
    first | refine zR ?_ | refine zQ ?_
    simp only [V.isZ, d1, d2, d3]; rfl
  repeat (first | refine gG ?_ | refine zN1 (fun hlen => ?_) | refine zN2 (fun hlen => ?_) | refine zBf ?_)
  first | refine zR ?_ | refine zQ ?_
  simp only [V.isZ, d1, d2, d3]; rfl
set_option maxRecDepth 100000 in
set_option maxHeartbeats 8000000 in
theorem checkLetter_af (x : Lt) : AF Try.prog 28 [x.t] (· = .lit (.int .i64 x.check)) := by
  obtain ⟨k, fm, tt, n, t, v⟩ := x
  have h1 := check_af v
  have h2 := isZero_af v
  simp only [Lt.check]
  generalize v.check = cv at *
  generalize v.isZ = zv at *
  obtain ⟨kv, nv, tv, lv⟩ := v
  refine af_enter tok Try.func28 Try.ntmps28 Try.results28 rfl (by kernel_rfl) rfl rfl fun F hX => ?_
  refine ac_seq ?_
  refine ac_region ?_
  repeat (first | refine gO ?_ | refine zN1 (fun hlen => ?_) | refine zN2 (fun hlen => ?_) | refine zBf ?_)
  refine ac_seq ?_
  refine x_join [4, 5, 6, 7, 8, 9, 10, 11, 3] (fun y : {y : Bool // y = (decide (k = 2) || decide (k = 5))} => [(3, .c (.lit (.bool y.1)))]) (fun _ => []) ?_ ?_
  rotate_left
  · cases qK2 : decide (k = 2)
    · refine ac_region ?_
      repeat (first | refine gO ?_ | refine zN1 (fun hlen => ?_) | refine zN2 (fun hlen => ?_) | refine zBx (fun _ => ?_))
      exact ⟨⟨decide (k = 5), rfl⟩, x_wkd 0 ⟨rfl, trivial⟩ rfl (by repeat (first | exact ag_refl | refine ag_upd rfl ?_ | refine ag_at rfl rfl ?_))⟩
    · refine ac_region ?_
      repeat (first | refine gO ?_ | refine zN1 (fun hlen => ?_) | refine zN2 (fun hlen => ?_) | refine zBx (fun _ => ?_))
      exact ⟨⟨true, rfl⟩, x_wkd 0 ⟨rfl, trivial⟩ rfl (by repeat (first | exact ag_refl | refine ag_upd rfl ?_ | refine ag_at rfl rfl ?_))⟩
  rintro ⟨tx, htx⟩
  dsimp only
  refine ac_seq ?_
  refine ac_block ?_
  refine ac_seq ?_
  refine ac_region ?_
  repeat (first | refine gO ?_ | refine zN1 (fun hlen => ?_) | refine zN2 (fun hlen => ?_) | refine zBx (fun _ => ?_))
  refine x_cond rfl (fun qA => ?_) (fun qA => ?_)
  · repeat (first | refine gG ?_ | refine zN1 (fun hlen => ?_) | refine zN2 (fun hlen => ?_) | refine zBx (fun _ => ?_))
    first | refine zR ?_ | refine zQ ?_
    rw [if_pos qA]; rfl
  rw [if_neg (by rw [qA]; decide)]
  refine ac_seq ?_
  refine x_join [18, 19, 20, 21, 22, 23, 24, 25, 26, 27, 28, 29, 30, 31, 32, 33, 34, 35, 36, 37, 38, 39, 40, 41, 42, 43, 44, 45, 46, 47, 48, 49, 50, 51, 52, 53, 54, 55, 56, 57, 58, 59, 60, 61, 62, 63, 64, 17] (fun y : {y : Bool // y = Lt.bad1 k fm tt n t} => [(17, .c (.lit (.bool y.1)))]) (fun _ => []) ?_ ?_
  rotate_left
  · skip
    cases qF : decide (fm < 0)
    · skip
      cases qT : decide (tt < 0)
      · skip
        cases qK1 : decide (k < 1)
        · skip
          cases qK5x : decide ((5 : Int) < k)
          · skip
            cases qE : decide (t = ⟨#[]⟩)
            · skip
              cases qTX : tx
              · skip
                refine ac_region ?_
                repeat (first | refine gO ?_ | refine zN1 (fun hlen => ?_) | refine zN2 (fun hlen => ?_) | refine zBx (fun _ => ?_))
                exact ⟨⟨true, by rw [Lt.bad1, ← htx, qTX]; simp only [qF, qT, qK1, qK5x, qE]; first | rfl | simp⟩, x_wkd 0 ⟨rfl, trivial⟩ rfl (by repeat (first | exact ag_refl | refine ag_upd rfl ?_ | refine ag_at rfl rfl ?_))⟩
              · skip
                cases qN0 : decide (n = 0)
                · skip
                  cases qK2 : decide (k = 2)
                  · skip
                    refine ac_region ?_
                    repeat (first | refine gO ?_ | refine zN1 (fun hlen => ?_) | refine zN2 (fun hlen => ?_) | refine zBx (fun _ => ?_))
                    exact ⟨⟨true, by rw [Lt.bad1, ← htx, qTX]; simp only [qF, qT, qK1, qK5x, qE, qN0, qK2]; first | rfl | simp⟩, x_wkd 0 ⟨rfl, trivial⟩ rfl (by repeat (first | exact ag_refl | refine ag_upd rfl ?_ | refine ag_at rfl rfl ?_))⟩
                  · skip
                    cases qNn : decide (n < 0)
                    · skip
                      refine ac_region ?_
                      repeat (first | refine gO ?_ | refine zN1 (fun hlen => ?_) | refine zN2 (fun hlen => ?_) | refine zBx (fun _ => ?_))
                      exact ⟨⟨decide ((2 : Int) < n), by rw [Lt.bad1, ← htx, qTX]; simp only [qF, qT, qK1, qK5x, qE, qN0, qK2, qNn]; first | rfl | simp⟩, x_wkd 0 ⟨rfl, trivial⟩ rfl (by repeat (first | exact ag_refl | refine ag_upd rfl ?_ | refine ag_at rfl rfl ?_))⟩
                    · skip
                      refine ac_region ?_
                      repeat (first | refine gO ?_ | refine zN1 (fun hlen => ?_) | refine zN2 (fun hlen => ?_) | refine zBx (fun _ => ?_))
                      exact ⟨⟨true, by rw [Lt.bad1, ← htx, qTX]; simp only [qF, qT, qK1, qK5x, qE, qN0, qK2, qNn]; first | rfl | simp⟩, x_wkd 0 ⟨rfl, trivial⟩ rfl (by repeat (first | exact ag_refl | refine ag_upd rfl ?_ | refine ag_at rfl rfl ?_))⟩
                · skip
                  cases qNn : decide (n < 0)
                  · skip
                    refine ac_region ?_
                    repeat (first | refine gO ?_ | refine zN1 (fun hlen => ?_) | refine zN2 (fun hlen => ?_) | refine zBx (fun _ => ?_))
                    exact ⟨⟨decide ((2 : Int) < n), by rw [Lt.bad1, ← htx, qTX]; simp only [qF, qT, qK1, qK5x, qE, qN0, qNn]; first | rfl | simp⟩, x_wkd 0 ⟨rfl, trivial⟩ rfl (by repeat (first | exact ag_refl | refine ag_upd rfl ?_ | refine ag_at rfl rfl ?_))⟩
                  · skip
                    refine ac_region ?_
                    repeat (first | refine gO ?_ | refine zN1 (fun hlen => ?_) | refine zN2 (fun hlen => ?_) | refine zBx (fun _ => ?_))
                    exact ⟨⟨true, by rw [Lt.bad1, ← htx, qTX]; simp only [qF, qT, qK1, qK5x, qE, qN0, qNn]; first | rfl | simp⟩, x_wkd 0 ⟨rfl, trivial⟩ rfl (by repeat (first | exact ag_refl | refine ag_upd rfl ?_ | refine ag_at rfl rfl ?_))⟩
            · skip
              cases qN0 : decide (n = 0)
              · skip
                cases qK2 : decide (k = 2)
                · skip
                  refine ac_region ?_
                  repeat (first | refine gO ?_ | refine zN1 (fun hlen => ?_) | refine zN2 (fun hlen => ?_) | refine zBx (fun _ => ?_))
                  exact ⟨⟨true, by rw [Lt.bad1, ← htx]; simp only [qF, qT, qK1, qK5x, qE, qN0, qK2]; first | rfl | simp⟩, x_wkd 0 ⟨rfl, trivial⟩ rfl (by repeat (first | exact ag_refl | refine ag_upd rfl ?_ | refine ag_at rfl rfl ?_))⟩
                · skip
                  cases qNn : decide (n < 0)
                  · skip
                    refine ac_region ?_
                    repeat (first | refine gO ?_ | refine zN1 (fun hlen => ?_) | refine zN2 (fun hlen => ?_) | refine zBx (fun _ => ?_))
                    exact ⟨⟨decide ((2 : Int) < n), by rw [Lt.bad1, ← htx]; simp only [qF, qT, qK1, qK5x, qE, qN0, qK2, qNn]; first | rfl | simp⟩, x_wkd 0 ⟨rfl, trivial⟩ rfl (by repeat (first | exact ag_refl | refine ag_upd rfl ?_ | refine ag_at rfl rfl ?_))⟩
                  · skip
                    refine ac_region ?_
                    repeat (first | refine gO ?_ | refine zN1 (fun hlen => ?_) | refine zN2 (fun hlen => ?_) | refine zBx (fun _ => ?_))
                    exact ⟨⟨true, by rw [Lt.bad1, ← htx]; simp only [qF, qT, qK1, qK5x, qE, qN0, qK2, qNn]; first | rfl | simp⟩, x_wkd 0 ⟨rfl, trivial⟩ rfl (by repeat (first | exact ag_refl | refine ag_upd rfl ?_ | refine ag_at rfl rfl ?_))⟩
              · skip
                cases qNn : decide (n < 0)
                · skip
                  refine ac_region ?_
                  repeat (first | refine gO ?_ | refine zN1 (fun hlen => ?_) | refine zN2 (fun hlen => ?_) | refine zBx (fun _ => ?_))
                  exact ⟨⟨decide ((2 : Int) < n), by rw [Lt.bad1, ← htx]; simp only [qF, qT, qK1, qK5x, qE, qN0, qNn]; first | rfl | simp⟩, x_wkd 0 ⟨rfl, trivial⟩ rfl (by repeat (first | exact ag_refl | refine ag_upd rfl ?_ | refine ag_at rfl rfl ?_))⟩
                · skip
                  refine ac_region ?_
                  repeat (first | refine gO ?_ | refine zN1 (fun hlen => ?_) | refine zN2 (fun hlen => ?_) | refine zBx (fun _ => ?_))
                  exact ⟨⟨true, by rw [Lt.bad1, ← htx]; simp only [qF, qT, qK1, qK5x, qE, qN0, qNn]; first | rfl | simp⟩, x_wkd 0 ⟨rfl, trivial⟩ rfl (by repeat (first | exact ag_refl | refine ag_upd rfl ?_ | refine ag_at rfl rfl ?_))⟩
          · skip
            refine ac_region ?_
            repeat (first | refine gO ?_ | refine zN1 (fun hlen => ?_) | refine zN2 (fun hlen => ?_) | refine zBx (fun _ => ?_))
            exact ⟨⟨true, by rw [Lt.bad1, ← htx]; simp only [qF, qT, qK1, qK5x]; first | rfl | simp⟩, x_wkd 0 ⟨rfl, trivial⟩ rfl (by repeat (first | exact ag_refl | refine ag_upd rfl ?_ | refine ag_at rfl rfl ?_))⟩
        · skip
          refine ac_region ?_
          repeat (first | refine gO ?_ | refine zN1 (fun hlen => ?_) | refine zN2 (fun hlen => ?_) | refine zBx (fun _ => ?_))
          exact ⟨⟨true, by rw [Lt.bad1, ← htx]; simp only [qF, qT, qK1]; first | rfl | simp⟩, x_wkd 0 ⟨rfl, trivial⟩ rfl (by repeat (first | exact ag_refl | refine ag_upd rfl ?_ | refine ag_at rfl rfl ?_))⟩
      · skip
        refine ac_region ?_
        repeat (first | refine gO ?_ | refine zN1 (fun hlen => ?_) | refine zN2 (fun hlen => ?_) | refine zBx (fun _ => ?_))
        exact ⟨⟨true, by rw [Lt.bad1, ← htx]; simp only [qF, qT]; first | rfl | simp⟩, x_wkd 0 ⟨rfl, trivial⟩ rfl (by repeat (first | exact ag_refl | refine ag_upd rfl ?_ | refine ag_at rfl rfl ?_))⟩
    · skip
      refine ac_region ?_
      repeat (first | refine gO ?_ | refine zN1 (fun hlen => ?_) | refine zN2 (fun hlen => ?_) | refine zBx (fun _ => ?_))
      exact ⟨⟨true, by rw [Lt.bad1, ← htx]; simp only [qF]; first | rfl | simp⟩, x_wkd 0 ⟨rfl, trivial⟩ rfl (by repeat (first | exact ag_refl | refine ag_upd rfl ?_ | refine ag_at rfl rfl ?_))⟩
  rintro ⟨bd, hbd⟩
  dsimp only
  rw [← hbd]
  cases bd
  rotate_left
  · repeat (first | refine gG ?_ | refine zN1 (fun hlen => ?_) | refine zN2 (fun hlen => ?_) | refine zBx (fun _ => ?_))
    first | refine zR ?_ | refine zQ ?_
    rfl
  cases qKM : decide (k = 1)
  · repeat (first | refine gG ?_ | refine zN1 (fun hlen => ?_) | refine zN2 (fun hlen => ?_) | refine zBx (fun _ => ?_))
    refine zCall (h2) ?_
    rintro _ rfl
    cases zv
    · repeat (first | refine gG ?_ | refine zN1 (fun hlen => ?_) | refine zN2 (fun hlen => ?_) | refine zBx (fun _ => ?_))
      first | refine zR ?_ | refine zQ ?_
      rfl
    · repeat (first | refine gG ?_ | refine zN1 (fun hlen => ?_) | refine zN2 (fun hlen => ?_) | refine zBx (fun _ => ?_))
      first | refine zR ?_ | refine zQ ?_
      rfl
  · repeat (first | refine gG ?_ | refine zN1 (fun hlen => ?_) | refine zN2 (fun hlen => ?_) | refine zBx (fun _ => ?_))
    refine zCall (h1) ?_
    rintro _ rfl
    repeat (first | refine gG ?_ | refine zN1 (fun hlen => ?_) | refine zN2 (fun hlen => ?_) | refine zBx (fun _ => ?_))
    first | refine zR ?_ | refine zQ ?_
    rfl
end Go.Proofs.Ythgackidonocpaa
namespace Go.Proofs.Ythgackidonocpaa
open Go.RowKit
structure Inp where
  kind : Int
  val : V
def Inp.ts (x : Inp) : List T := .lit (.int .i64 x.kind) :: x.val.ts
theorem Inp.ts_len (x : Inp) : x.ts.length = 5 := by simp [Inp.ts, V.ts_len]
def Inp.same (x y : Inp) : Bool := decide (x.kind = y.kind) && x.val.same y.val
def Inp.t (x : Inp) : T := .agg x.ts
structure Sav where
  actor : ByteArray
  state : List V
  inputs : List Inp
def inpRow (l : List Inp) : T := .row l.length 5 (l.flatMap Inp.ts)
def Sav.t (s : Sav) : T := .agg [.lit (.string s.actor), V.row s.state, inpRow s.inputs]
def Sav.same (s s' : Sav) : Bool := decide (s.actor = s'.actor) && eqBy V.same s.state s'.state && eqBy Inp.same s.inputs s'.inputs
set_option maxRecDepth 100000 in
set_option maxHeartbeats 1000000 in
theorem savedSmall_af (s : Sav) (h1 : ∀ v ∈ s.state, v.size ≤ 1048576) (h2 : ∀ x ∈ s.inputs, x.val.size ≤ 1048576) (hn : s.state.length ≤ 1048576) : AF Try.prog 33 [s.t] Tell := by
  have hvs := valuesSmall_af s.state h1 hn
  obtain ⟨ac, st, l⟩ := s
  dsimp only at *
  refine af_enter tok Try.func33 Try.ntmps33 Try.results33 rfl (by kernel_rfl) rfl rfl fun F hX => ?_
  repeat (first | refine gG ?_ | refine zN1 (fun hlen => ?_) | refine zN2 (fun hlen => ?_) | refine zAl (fun _ => ?_) | refine zBx (fun _ => ?_))
  rename_i b0
  refine x_loop [2, 4, 8, 9, 10, 11, 12, 13, 14, 15, 16] (fun k : Nat => [(8, .c (.lit (.int .i64 k)))]) (fun _ => [.box b0 47 [.c (.lit (.string ac)), .c (V.row st), .c (inpRow l)]]) (fun k => k ≤ l.length) (fun k => l.length - k) 0 (Nat.zero_le _) ⟨rfl, trivial⟩ rfl fun k hk => ?_
  repeat (first | refine gG ?_ | refine zN1 (fun hlen => ?_) | refine zN2 (fun hlen => ?_) | refine zAl (fun _ => ?_) | refine zBx (fun _ => ?_))
  refine x_cond rfl (fun h => ?_) (fun h => ?_)
  · have hk' : k < l.length := by simpa using h
    obtain ⟨a, ha⟩ := nth hk'
    have hs := valueSmall_af a.val (h2 a (List.mem_of_getElem? ha))
    repeat (first | refine gG ?_ | refine zN1 (fun hlen => ?_) | refine zN2 (fun hlen => ?_) | refine zAl (fun _ => ?_) | refine zBx (fun _ => ?_))
    refine zIx (k) (hk') ?_
    repeat (first | refine gG ?_ | refine zN1 (fun hlen => ?_) | refine zN2 (fun hlen => ?_) | refine zAl (fun _ => ?_) | refine zBx (fun _ => ?_))
    refine zEl (flat_at Inp.ts 5 Inp.ts_len ha) (Inp.ts_len a) ?_
    obtain ⟨kd, ⟨ka, na, ta, la⟩⟩ := a
    repeat (first | refine gG ?_ | refine zN1 (fun hlen => ?_) | refine zN2 (fun hlen => ?_) | refine zAl (fun _ => ?_) | refine zBx (fun _ => ?_))
    refine zCall (hs) ?_
    rintro _ ⟨b, rfl⟩
    repeat (first | refine gG ?_ | refine zN1 (fun hlen => ?_) | refine zN2 (fun hlen => ?_) | refine zAl (fun _ => ?_) | refine zBx (fun _ => ?_))
    refine x_cond rfl (fun h => ?_) (fun h => ?_)
    · repeat (first | refine gG ?_ | refine zN1 (fun hlen => ?_) | refine zN2 (fun hlen => ?_) | refine zAl (fun _ => ?_) | refine zBx (fun _ => ?_))
      first | refine zR ?_ | refine zQ ?_
      exact ⟨_, rfl⟩
    · repeat (first | refine gG ?_ | refine zN1 (fun hlen => ?_) | refine zN2 (fun hlen => ?_) | refine zAl (fun _ => ?_) | refine zBx (fun _ => ?_))
      exact ⟨k + 1, hk', by omega, x_wkd 1 ⟨rfl, trivial⟩ rfl (by repeat (first | exact ag_refl | refine ag_upd rfl ?_ | refine ag_at rfl rfl ?_))⟩
  · repeat (first | refine gG ?_ | refine zN1 (fun hlen => ?_) | refine zN2 (fun hlen => ?_) | refine zAl (fun _ => ?_) | refine zBx (fun _ => ?_))
    refine zCall (hvs) ?_
    rintro _ ⟨b, rfl⟩
    repeat (first | refine gG ?_ | refine zN1 (fun hlen => ?_) | refine zN2 (fun hlen => ?_) | refine zAl (fun _ => ?_) | refine zBx (fun _ => ?_))
    first | refine zR ?_ | refine zQ ?_
    exact ⟨_, rfl⟩
end Go.Proofs.Ythgackidonocpaa
namespace Go.Proofs.Ythgackidonocpaa
open Go.RowKit
/-- the first that is not nought -/
def errs : List Int → Int
  | [] => 0
  | e :: r => if e = 0 then errs r else e
theorem errs_all {α : Type} (f : α → Int) : ∀ {l : List α}, (∀ x ∈ l, f x = 0) → errs (l.map f) = 0
  | [], _ => rfl
  | a :: l, h => by rw [List.map_cons, errs, if_pos (h a (by simp)), errs_all f fun x hx => h x (List.mem_cons_of_mem _ hx)]
theorem errs_at {α : Type} (f : α → Int) : ∀ {l : List α} {k : Nat} {a : α}, (∀ x ∈ l.take k, f x = 0) → l[k]? = some a → f a ≠ 0 → errs (l.map f) = f a
  | [], _, _, _, h, _ => by simp at h
  | b :: l, 0, a, _, h, h0 => by
    obtain rfl : b = a := by simpa using h
    rw [List.map_cons, errs, if_neg h0]
  | b :: l, k + 1, a, h, ha, h0 => by
    rw [List.map_cons, errs, if_pos (h b (by simp))]
    exact errs_at f (k := k) (fun x hx => h x (by simp [hx])) (by simpa using ha) h0
theorem errs_zero {α : Type} (f : α → Int) : ∀ {l : List α}, errs (l.map f) = 0 → ∀ x ∈ l, f x = 0
  | [], _, x, hx => by simp at hx
  | a :: l, h, x, hx => by
    rw [List.map_cons, errs] at h
    split at h
    · rename_i h0
      rcases List.mem_cons.1 hx with rfl | hx
      · exact h0
      · exact errs_zero f h x hx
    · rename_i h0; exact absurd h h0
theorem take_snoc {α : Type} {p : α → Prop} {l : List α} {k : Nat} {a : α} (ha : l[k]? = some a) (h : ∀ x ∈ l.take k, p x) (h0 : p a) : ∀ x ∈ l.take (k + 1), p x := by
  obtain ⟨h1, rfl⟩ := List.getElem?_eq_some_iff.1 ha
  rw [List.take_succ_eq_append_getElem h1]
  intro x hx
  rcases List.mem_append.1 hx with hx | hx
  · exact h x hx
  · rw [List.mem_singleton.1 hx]; exact h0
def Inp.bytes (x : Inp) : List UInt8 := kb x.kind :: (if x.kind = 3 then [] else x.val.bytes)
def Inp.bad (x : Inp) : Bool := decide (x.kind < 1) || decide ((3 : Int) < x.kind) || (decide (x.kind = 3) && !x.val.isZ)
def Inp.check (x : Inp) : Int := if x.bad = true then 3 else if decide (x.kind = 3) = true then 0 else x.val.check
def Sav.bytes (s : Sav) : List UInt8 := uv s.actor.size ++ (s.actor.data.toList ++ (uv s.state.length ++ (s.state.flatMap V.bytes ++ (uv s.inputs.length ++ s.inputs.flatMap Inp.bytes))))
def Sav.check (s : Sav) : Int :=
  if (decide ((s.actor.size : Int) < 1) || decide ((16 : Int) < (s.actor.size : Int))) = true then 3
  else if (decide ((6 : Int) < (s.state.length : Int)) || decide ((2000 : Int) < (s.inputs.length : Int))) = true then 2
  else if errs (s.state.map V.check) = 0 then errs (s.inputs.map Inp.check) else errs (s.state.map V.check)
/-- of what is right -/
structure Inp.Right (x : Inp) : Prop where
  kind : 1 ≤ x.kind ∧ x.kind ≤ 3
  val : x.kind ≠ 3 → x.val.check = 0
  zero : x.kind = 3 → x.val = V.zero
theorem Inp.right {x : Inp} (h : x.check = 0) : x.Right := by
  unfold Inp.check at h
  split at h
  · omega
  · rename_i h1
    simp only [Inp.bad, Bool.or_eq_true, Bool.and_eq_true, decide_eq_true_eq, not_or, not_and, Bool.not_eq_true', Bool.not_eq_false] at h1
    obtain ⟨⟨a1, a2⟩, a3⟩ := h1
    refine ⟨by omega, fun hk => ?_, fun hk => isZ_zero (a3 hk)⟩
    rw [if_neg (by simpa using hk)] at h
    exact h
structure Sav.Right (s : Sav) : Prop where
  actor : 1 ≤ s.actor.size ∧ s.actor.size ≤ 16
  states : s.state.length ≤ 6
  inps : s.inputs.length ≤ 2000
  state : ∀ v ∈ s.state, v.check = 0
  inp : ∀ x ∈ s.inputs, x.check = 0
theorem Sav.right {s : Sav} (h : s.check = 0) : s.Right := by
  unfold Sav.check at h
  split at h
  · omega
  · rename_i h1
    split at h
    · omega
    · rename_i h2
      simp only [Bool.or_eq_true, decide_eq_true_eq, not_or] at h1 h2
      split at h
      · rename_i h3
        exact ⟨by omega, by omega, by omega, errs_zero V.check h3, errs_zero Inp.check h⟩
      · rename_i h3; exact absurd h h3
def V.tiny (v : V) : Prop := v.ok ∧ v.size ≤ 1048576 ∧ v.bytes.length ≤ 34000000
structure Sav.Small (s : Sav) : Prop where
  state : ∀ v ∈ s.state, v.tiny
  inp : ∀ x ∈ s.inputs, x.val.tiny
  actor : s.actor.size ≤ 1000000000
/-- no more bytes than before; ok only if it was -/
def Dn (s s' : TS) : Prop := s'.l.length ≤ s.l.length ∧ (s'.ok = true → s.ok = true)
/-- ok only if it was, and bytes were taken -/
def Et (s s' : TS) : Prop := s'.l.length ≤ s.l.length ∧ (s'.ok = true → s.ok = true ∧ s'.l.length < s.l.length)
theorem Dn.refl (s : TS) : Dn s s := ⟨Nat.le_refl _, id⟩
theorem Dn.trans {s s' s'' : TS} (h : Dn s s') (h' : Dn s' s'') : Dn s s'' := ⟨Nat.le_trans h'.1 h.1, fun o => h.2 (h'.2 o)⟩
theorem Et.trans {s s' s'' : TS} (h : Et s s') (h' : Dn s' s'') : Et s s'' := ⟨Nat.le_trans h'.1 h.1, fun o => ⟨(h.2 (h'.2 o)).1, Nat.lt_of_le_of_lt h'.1 (h.2 (h'.2 o)).2⟩⟩
def Sav.out (s : Sav) : List UInt8 := if s.check = 0 then s.bytes else []
def Sav.zero : Sav := ⟨⟨#[]⟩, [], []⟩
end Go.Proofs.Ythgackidonocpaa
